/- A list of formats that came in. -/
import Derived.Test.YthcdnjbhhaonhaaGreatDoorQgOpenFo
import Derived.Test.YthcdnjbhhaonhaaGreatDoorQgFoXToFoAg

namespace Go.Proofs.YthcdnjbhhaonhaaGreatDoor
open Go.ChangeShapes Go.WideShapes Go.ChangeAt Go.RowKit
open Go.Proofs.Tryz renaming prog → ZP
set_option maxRecDepth 100000 in
theorem fm_read {H : Type} {enc : TypeId × Value → H} {w : World} {base n : Nat} {cs : List Value} {x : DataW H × List MemPlace} (ht : DataW.trod enc ZP w base (fun _ => true) true n 24 cs = some x) : ∃ (f : Fm) (s : Value), cs = [.int .i64 f.m, s] ∧ SlF w s f.F := by
  have e2 : Program.cellsOf ZP 24 = 2 := by kernel_rfl
  have e3 : Program.cellsOf ZP 3 = 1 := by kernel_rfl
  have e4 : Program.cellsOf ZP 22 = 1 := by kernel_rfl
  obtain ⟨xs, m, _, _, hlen, hl, hf⟩ := DataW.trod_struct Tryz.underlying24 ht
  rw [e2] at hlen
  obtain ⟨c0, c1, rfl⟩ : ∃ c0 c1, cs = [c0, c1] := by
    match cs, hlen with
    | [c0, c1], _ => exact ⟨c0, c1, rfl⟩
  have hl3 : xs.length = 2 := hl
  have h0 := hf 0 _ rfl
  have h1 := hf 1 _ rfl
  rw [List.getElem?_eq_getElem (by omega)] at h0 h1
  obtain ⟨k, rfl⟩ := und_int h0
  obtain ⟨fs, hfs⟩ := slf_read h1
  exact ⟨⟨k, fs⟩, c1, rfl, hfs⟩
set_option maxRecDepth 100000 in
theorem slg_read {H : Type} {enc : TypeId × Value → H} {w : World} {base n : Nat} {v : Value} {x : DataW H × List MemPlace} (ht : DataW.trod enc ZP w base (fun _ => true) true n 50 [v] = some x) : ∃ gs, SlG w v gs := by
  have e1 : Program.cellsOf ZP 24 = 2 := by kernel_rfl
  rcases DataW.trod_slice Tryz.underlying50 ht with ⟨hcs, _⟩ | ⟨a, len, cap, elems, rest, m, _, hcs, _, _, hl, hm, hel, hread, _, _⟩
  · simp only [List.cons.injEq,and_true] at hcs
    exact ⟨[], by rw [hcs]; exact SlG.nil w⟩
  · simp only [List.cons.injEq,and_true] at hcs
    subst hcs
    rw [e1] at hread
    have each : ∀ i, i < len → ∃ (f : Fm) (s : Value), (∀ j u, ([.int .i64 f.m, s] : List Value)[j]? = some u → w.cell? ((a.add (i * 2)).add j) = some u) ∧ SlF w s f.F := fun i hi => by
      have h := hread i hi
      rw [List.getElem?_eq_getElem (by omega), Option.bind_eq_some_iff] at h
      obtain ⟨cs, h1, h2⟩ := h
      obtain ⟨f, s, rfl, hs⟩ := fm_read h2
      exact ⟨f, s, fun j u hj => (cells_get h1 j u hj).2, hs⟩
    by_cases h0 : len = 0
    · subst h0
      exact ⟨[], some a, cap, rfl, by simp, hm, fun h => absurd rfl h⟩
    obtain ⟨b, o, sp⟩ := a
    have hsp : sp = none := by
      obtain ⟨f, s, h, _⟩ := each 0 (by omega)
      have := h 0 _ rfl
      rw [Nat.zero_mul, addr_z, addr_z] at this
      exact spot_none this
    subst hsp
    obtain ⟨gs, hg1, hg2⟩ : ∃ gs : List Fm, gs.length = len ∧ ∀ i f, gs[i]? = some f → ∃ s, (∀ j u, ([.int .i64 f.m, s] : List Value)[j]? = some u → w.cell? (((⟨b, o, none⟩ : Addr).add (i * 2)).add j) = some u) ∧ SlF w s f.F := by
      refine ⟨List.ofFn fun i : Fin len => (each i.1 i.2).choose, by simp, fun i f hf => ?_⟩
      obtain ⟨hi, rfl⟩ := List.getElem?_eq_some_iff.1 hf
      rw [List.getElem_ofFn]
      exact (each i (by simpa using hi)).choose_spec
    refine ⟨gs, _, cap, by rw [hg1], by omega, hm, fun _ => ⟨b, o, rfl, fun k f hk => ?_⟩⟩
    obtain ⟨s, h1, h2⟩ := hg2 k f hk
    have c0 := h1 0 _ rfl
    have c1 := h1 1 _ rfl
    rw [Addr.add_lit, Addr.add_lit, Nat.mul_comm k 2] at c0 c1
    exact ⟨s, c0, c1, h2⟩
end Go.Proofs.YthcdnjbhhaonhaaGreatDoor

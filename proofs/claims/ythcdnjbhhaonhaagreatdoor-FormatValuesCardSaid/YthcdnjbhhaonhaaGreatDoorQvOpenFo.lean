/- A format that came in. -/
import Derived.Test.YthcdnjbhhaonhaaGreatDoorQvLawBase
import Derived.Test.YthcdnjbhhaonhaaGreatDoorQvFoSpecToFoA
import Derived.ChangeSlices

namespace Go.Proofs.YthcdnjbhhaonhaaGreatDoor
open Go.ChangeShapes Go.WideShapes Go.ChangeAt Go.RowKit
open Go.Value renaming cells → ZJ
open Go.Proofs.Tryz renaming prog → ZP
theorem spot_none {w : World} {b o : Nat} {sp : Option Nat} {v : Value} (h : w.cell? ⟨b, o, sp⟩ = some v) : sp = none := by
  unfold World.cell? at h
  cases sp with
  | none => rfl
  | some x =>
    simp only [Option.isSome_some,if_true] at h
    split at h <;> cases h
theorem addr_z (a : Addr) : a.add 0 = a := by unfold Addr.add; simp
set_option maxRecDepth 100000 in
theorem sl_read {H : Type} {enc : TypeId × Value → H} {w : World} {base n : Nat} {v : Value} {x : DataW H × List MemPlace} (ht : DataW.trod enc ZP w base (fun _ => true) true n 33 [v] = some x) : ∃ xs, SlI w v xs := by
  rcases open_ints Tryz.underlying33 Tryz.underlying3 (by kernel_rfl) ht with ⟨hcs, _⟩ | ⟨a, len, cap, zs, hcs, _, hl, hm, hz, _, hcell, _⟩
  · simp only [List.cons.injEq,and_true] at hcs
    exact ⟨[], by rw [hcs]; exact SlI.nil w⟩
  · simp only [List.cons.injEq,and_true] at hcs
    subst hcs
    simp only [if_true] at hz
    by_cases h0 : cap = 0
    · obtain rfl : len = 0 := by omega
      exact ⟨[], SlI.empty w _ hm (fun h => by cases h)⟩
    obtain ⟨b, o, sp⟩ := a
    have h00 := hcell 0 (by omega)
    rw [addr_z] at h00
    obtain rfl := spot_none h00
    refine ⟨zs.take len, .inr ⟨b, o, cap, ?_, ?_, hm, fun k u hk => ?_⟩⟩
    · rw [ints_length, List.length_take, Nat.min_eq_left (by omega)]
    · rw [ints_length, List.length_take]; omega
    · simp only [ints,List.getElem?_map,Option.map_eq_some_iff] at hk
      obtain ⟨y, hy, rfl⟩ := hk
      have hk : k < zs.length := by
        have := (List.getElem?_eq_some_iff.1 hy).1
        rw [List.length_take] at this; omega
      rw [List.getElem?_take] at hy
      split at hy
      · have := hcell k hk
        rw [Addr.add_lit] at this
        rw [this, List.getD_eq_getElem?_getD, hy]; rfl
      · cases hy
theorem und_int {H : Type} {enc : TypeId × Value → H} {w : World} {base n : Nat} {v : Value} {x : DataW H × List MemPlace} (ht : DataW.trod enc ZP w base (fun _ => true) true n 3 [v] = some x) : ∃ k, v = .int .i64 k := by
  obtain ⟨k, h, _⟩ := DataW.trod_int Tryz.underlying3 ht
  exact ⟨k, by simpa using h⟩
set_option maxRecDepth 100000 in
theorem fld_read {H : Type} {enc : TypeId × Value → H} {w : World} {base n : Nat} {cs : List Value} {x : DataW H × List MemPlace} (ht : DataW.trod enc ZP w base (fun _ => true) true n 72 cs = some x) : ∃ (f : Fl) (s : Value), cs = flVs f s ∧ SlI w s f.c.L := by
  have e1 : Program.cellsOf ZP 72 = 4 := by kernel_rfl
  have e2 : Program.cellsOf ZP 35 = 3 := by kernel_rfl
  have e3 : Program.cellsOf ZP 3 = 1 := by kernel_rfl
  have e4 : Program.cellsOf ZP 33 = 1 := by kernel_rfl
  obtain ⟨xs, m, _, _, hlen, hl, hf⟩ := DataW.trod_struct Tryz.underlying72 ht
  rw [e1] at hlen
  obtain ⟨c0, c1, c2, c3, rfl⟩ : ∃ c0 c1 c2 c3, cs = [c0, c1, c2, c3] := by
    match cs, hlen with
    | [c0, c1, c2, c3], _ => exact ⟨c0, c1, c2, c3, rfl⟩
  have hl2 : xs.length = 2 := hl
  have h0 := hf 0 _ rfl
  have h1 := hf 1 _ rfl
  rw [List.getElem?_eq_getElem (by omega)] at h0 h1
  obtain ⟨k0, rfl⟩ := und_int h0
  obtain ⟨ys, m2, _, _, _, hl3, hg⟩ := DataW.trod_struct Tryz.underlying35 h1
  have hl4 : ys.length = 3 := hl3
  have g0 := hg 0 _ rfl
  have g1 := hg 1 _ rfl
  have g2 := hg 2 _ rfl
  rw [List.getElem?_eq_getElem (by omega)] at g0 g1 g2
  obtain ⟨k1, rfl⟩ := und_int g0
  obtain ⟨k2, rfl⟩ := und_int g1
  obtain ⟨L, hL⟩ := sl_read g2
  exact ⟨⟨k0, ⟨k1, k2, L⟩⟩, c3, rfl, hL⟩
theorem cells_get {w : World} {base : Nat} {a : Addr} : ∀ {n : Nat} {l : List Value}, w.cells? base a n = some l → ∀ i u, l[i]? = some u → i < n ∧ w.cell? (a.add i) = some u := fun {n l} h i u hu => by
  unfold World.cells? at h
  split at h
  · have hl := mapM_some_length h
    have hi : i < n := by
      have := (List.getElem?_eq_some_iff.1 hu).1
      simp at hl
      omega
    have := mapM_some_get h i i (by simp [hi])
    exact ⟨hi, by rw [this]; exact hu⟩
  · cases h
set_option maxRecDepth 100000 in
theorem slf_read {H : Type} {enc : TypeId × Value → H} {w : World} {base n : Nat} {v : Value} {x : DataW H × List MemPlace} (ht : DataW.trod enc ZP w base (fun _ => true) true n 22 [v] = some x) : ∃ fs, SlF w v fs := by
  have e1 : Program.cellsOf ZP 72 = 4 := by kernel_rfl
  rcases DataW.trod_slice Tryz.underlying22 ht with ⟨hcs, _⟩ | ⟨a, len, cap, elems, rest, m, _, hcs, _, _, hl, hm, hel, hread, _, _⟩
  · simp only [List.cons.injEq,and_true] at hcs
    exact ⟨[], by rw [hcs]; exact SlF.nil w⟩
  · simp only [List.cons.injEq,and_true] at hcs
    subst hcs
    rw [e1] at hread
    have each : ∀ i, i < len → ∃ (f : Fl) (s : Value), (∀ j u, (flVs f s)[j]? = some u → w.cell? ((a.add (i * 4)).add j) = some u) ∧ SlI w s f.c.L := fun i hi => by
      have h := hread i hi
      rw [List.getElem?_eq_getElem (by omega), Option.bind_eq_some_iff] at h
      obtain ⟨cs, h1, h2⟩ := h
      obtain ⟨f, s, rfl, hs⟩ := fld_read h2
      exact ⟨f, s, fun j u hj => (cells_get h1 j u hj).2, hs⟩
    by_cases h0 : len = 0
    · subst h0
      exact ⟨[], some a, cap, rfl, by simp, hm, fun h => absurd rfl h⟩
    obtain ⟨b, o, sp⟩ := a
    have hsp : sp = none := by
      obtain ⟨f, s, h, _⟩ := each 0 (by omega)
      have := h 0 _ rfl
      rw [Nat.zero_mul, addr_z, addr_z] at this
      exact spot_none this
    subst hsp
    obtain ⟨fs, hfs1, hfs2⟩ : ∃ fs : List Fl, fs.length = len ∧ ∀ i f, fs[i]? = some f → ∃ s, (∀ j u, (flVs f s)[j]? = some u → w.cell? (((⟨b, o, none⟩ : Addr).add (i * 4)).add j) = some u) ∧ SlI w s f.c.L := by
      refine ⟨List.ofFn fun i : Fin len => (each i.1 i.2).choose, by simp, fun i f hf => ?_⟩
      obtain ⟨hi, rfl⟩ := List.getElem?_eq_some_iff.1 hf
      rw [List.getElem_ofFn]
      exact (each i (by simpa using hi)).choose_spec
    refine ⟨fs, _, cap, by rw [hfs1], by omega, hm, fun _ => ⟨b, o, rfl, fun k f hk => ?_⟩⟩
    obtain ⟨s, h1, h2⟩ := hfs2 k f hk
    refine ⟨s, fun j u hj => ?_, h2⟩
    have := h1 j u hj
    rw [Addr.add_lit, Addr.add_lit, Nat.mul_comm k 4] at this
    exact this
set_option maxRecDepth 100000 in
theorem format_open {H : Type} {enc : TypeId × Value → H} {w : World} {base b0 n : Nat} {v : Value} {x : DataW H × List MemPlace} (hok : Value.okWide ZP w .any b0 24 v) (ht : DataW.trod enc ZP w base (fun _ => true) true n 24 v.cells.toList = some x) :
    ∃ (f : Fm) (s : Value), v = fmV f s ∧ SlF w s f.F := by
  simp only [Value.okWide,Tryz.underlying24] at hok
  obtain ⟨cs, rfl, hsz, _⟩ := hok
  have e2 : Program.cellsOf ZP 24 = 2 := by kernel_rfl
  have e3 : Program.cellsOf ZP 3 = 1 := by kernel_rfl
  have e4 : Program.cellsOf ZP 22 = 1 := by kernel_rfl
  rw [e2] at hsz
  obtain ⟨c0, c1, rfl⟩ : ∃ c0 c1, cs = #[c0, c1] := by
    obtain ⟨l⟩ := cs
    match l, hsz with
    | [c0, c1], _ => exact ⟨c0, c1, rfl⟩
  obtain ⟨xs, m, _, _, _, hl, hf⟩ := DataW.trod_struct Tryz.underlying24 ht
  have hl3 : xs.length = 2 := hl
  have h0 := hf 0 _ rfl
  have h1 := hf 1 _ rfl
  simp only [ZJ] at h0 h1
  rw [List.getElem?_eq_getElem (by omega)] at h0 h1
  obtain ⟨k, rfl⟩ := und_int h0
  obtain ⟨fs, hfs⟩ := slf_read h1
  exact ⟨⟨k, fs⟩, c1, rfl, hfs⟩
end Go.Proofs.YthcdnjbhhaonhaaGreatDoor

/- A score that came in. -/
import Derived.Test.YtdkdibeimeaakabGreatDoorQsLawBase
import Derived.Test.YtdkdibeimeaakabGreatDoorQsScA
import Derived.ChangeSlices

namespace Go.Proofs.YtdkdibeimeaakabGreatDoor
open Go.ChangeShapes Go.WideShapes Go.ChangeAt Go.RowKit
open Go.Proofs.Tryz renaming prog → ZP
theorem spot_none {w : World} {b o : Nat} {sp : Option Nat} {v : Value} (h : w.cell? ⟨b, o, sp⟩ = some v) : sp = none := by
  unfold World.cell? at h
  cases sp with
  | none => rfl
  | some x =>
    simp only [Option.isSome_some,if_true] at h
    split at h <;> cases h
theorem addr_z (a : Addr) : a.add 0 = a := by unfold Addr.add; simp
theorem inE_wf {n : Int} (h : (Lit.int .i64 n).wf = true) : inE n := by
  simp only [Lit.wf,Bool.and_eq_true,decide_eq_true_eq] at h
  exact ⟨h.1, h.2⟩
theorem und_int {H : Type} {enc : TypeId × Value → H} {w : World} {base n : Nat} {v : Value} {x : DataW H × List MemPlace} (ht : DataW.trod enc ZP w base (fun _ => true) true n 3 [v] = some x) : ∃ k, v = .int .i64 k ∧ inE k := by
  obtain ⟨k, h, _, hw⟩ := DataW.trod_int Tryz.underlying3 ht
  exact ⟨k, by simpa using h, inE_wf hw⟩
theorem und_str {H : Type} {enc : TypeId × Value → H} {w : World} {base n : Nat} {v : Value} {x : DataW H × List MemPlace} (ht : DataW.trod enc ZP w base (fun _ => true) true n 9 [v] = some x) : ∃ s, v = .string s ∧ s.size ≤ maxLen := by
  obtain ⟨k, h, _, hw⟩ := DataW.trod_string Tryz.underlying9 ht
  exact ⟨k, by simpa using h, hw⟩
theorem und_bool {H : Type} {enc : TypeId × Value → H} {w : World} {base n : Nat} {v : Value} {x : DataW H × List MemPlace} (ht : DataW.trod enc ZP w base (fun _ => true) true n 4 [v] = some x) : ∃ b, v = .bool b := by
  obtain ⟨k, h, _⟩ := DataW.trod_bool Tryz.underlying4 ht
  exact ⟨k, by simpa using h⟩
set_option maxRecDepth 100000 in
theorem od_read {H : Type} {enc : TypeId × Value → H} {w : World} {base n : Nat} {c0 c1 c2 c3 c4 c5 c6 : Value} {x : DataW H × List MemPlace} (ht : DataW.trod enc ZP w base (fun _ => true) true n 40 [c0, c1, c2, c3, c4, c5, c6] = some x) :
    ∃ o : Od, [c0, c1, c2, c3, c4, c5, c6] = [.int .i64 o.t, .int .i64 o.d, .int .i64 o.id, .string o.syn, .int .i64 o.to, .int .i64 o.n, .string o.par] ∧ inE o.t ∧ inE o.d ∧ inE o.id ∧ inE o.to ∧ inE o.n ∧ o.syn.size ≤ maxLen ∧ o.par.size ≤ maxLen := by
  have e3 : Program.cellsOf ZP 3 = 1 := by kernel_rfl
  have e4 : Program.cellsOf ZP 9 = 1 := by kernel_rfl
  obtain ⟨xs, m, _, _, hlen, hl, hf⟩ := DataW.trod_struct Tryz.underlying40 ht
  have hl2 : xs.length = 7 := hl
  have h0 := hf 0 _ rfl
  have h1 := hf 1 _ rfl
  have h2 := hf 2 _ rfl
  have h3 := hf 3 _ rfl
  have h4 := hf 4 _ rfl
  have h5 := hf 5 _ rfl
  have h6 := hf 6 _ rfl
  rw [List.getElem?_eq_getElem (by omega)] at h0 h1 h2 h3 h4 h5 h6
  obtain ⟨k0, rfl, b0⟩ := und_int h0
  obtain ⟨k1, rfl, b1⟩ := und_int h1
  obtain ⟨k2, rfl, b2⟩ := und_int h2
  obtain ⟨k3, rfl, b3⟩ := und_str h3
  obtain ⟨k4, rfl, b4⟩ := und_int h4
  obtain ⟨k5, rfl, b5⟩ := und_int h5
  obtain ⟨k6, rfl, b6⟩ := und_str h6
  exact ⟨⟨k0, k1, k2, k3, k4, k5, k6⟩, rfl, b0, b1, b2, b4, b5, b3, b6⟩
set_option maxRecDepth 100000 in
theorem ev_read {H : Type} {enc : TypeId × Value → H} {w : World} {base n : Nat} {cs : List Value} {x : DataW H × List MemPlace} (ht : DataW.trod enc ZP w base (fun _ => true) true n 49 cs = some x) : ∃ y : Ev, cs = evC y ∧ EvOk y := by
  have e1 : Program.cellsOf ZP 49 = 10 := by kernel_rfl
  have e2 : Program.cellsOf ZP 40 = 7 := by kernel_rfl
  have e3 : Program.cellsOf ZP 3 = 1 := by kernel_rfl
  have e4 : Program.cellsOf ZP 4 = 1 := by kernel_rfl
  obtain ⟨xs, m, _, _, hlen, hl, hf⟩ := DataW.trod_struct Tryz.underlying49 ht
  rw [e1] at hlen
  obtain ⟨c0, c1, c2, c3, c4, c5, c6, c7, c8, c9, rfl⟩ : ∃ c0 c1 c2 c3 c4 c5 c6 c7 c8 c9, cs = [c0, c1, c2, c3, c4, c5, c6, c7, c8, c9] := by
    match cs, hlen with
    | [c0, c1, c2, c3, c4, c5, c6, c7, c8, c9], _ => exact ⟨c0, c1, c2, c3, c4, c5, c6, c7, c8, c9, rfl⟩
  have hl2 : xs.length = 4 := hl
  have h0 := hf 0 _ rfl
  have h1 := hf 1 _ rfl
  have h2 := hf 2 _ rfl
  have h3 := hf 3 _ rfl
  rw [List.getElem?_eq_getElem (by omega)] at h0 h1 h2 h3
  obtain ⟨k0, rfl, b0⟩ := und_int h0
  obtain ⟨k1, rfl, b1⟩ := und_int h1
  obtain ⟨o, ho, z1, z2, z3, z4, z5, z6, z7⟩ := od_read h2
  obtain ⟨k3, rfl⟩ := und_bool h3
  simp only [List.cons.injEq,and_true] at ho
  obtain ⟨rfl, rfl, rfl, rfl, rfl, rfl, rfl⟩ := ho
  exact ⟨⟨k0, k1, o, k3⟩, rfl, ⟨b0, b1, z1, z2, z3, z4, z5, z6, z7⟩⟩
theorem cells_get {w : World} {base : Nat} {a : Addr} : ∀ {n : Nat} {l : List Value}, w.cells? base a n = some l → ∀ i u, l[i]? = some u → i < n ∧ w.cell? (a.add i) = some u := fun {n l} h i u hu => by
  unfold World.cells? at h
  split at h
  · have hl := mapM_some_length h
    have hi : i < n := by
      have := (List.getElem?_eq_some_iff.1 hu).1
      simp at hl
      omega
    have := mapM_some_get h i i (by simp [hi])
    exact ⟨hi, by rw [this]; exact hu⟩
  · cases h
set_option maxRecDepth 100000 in
theorem sle_read {H : Type} {enc : TypeId × Value → H} {w : World} {base n : Nat} {v : Value} {x : DataW H × List MemPlace} (ht : DataW.trod enc ZP w base (fun _ => true) true n 22 [v] = some x) : ∃ l, SlE w v l := by
  have e1 : Program.cellsOf ZP 49 = 10 := by kernel_rfl
  rcases DataW.trod_slice Tryz.underlying22 ht with ⟨hcs, _⟩ | ⟨a, len, cap, elems, rest, m, _, hcs, _, _, hl, hm, hel, hread, _, _⟩
  · simp only [List.cons.injEq,and_true] at hcs
    exact ⟨[], by rw [hcs]; exact SlE.nil w⟩
  · simp only [List.cons.injEq,and_true] at hcs
    subst hcs
    rw [e1] at hread
    have each : ∀ i, i < len → ∃ y : Ev, (∀ j u, (evC y)[j]? = some u → w.cell? ((a.add (i * 10)).add j) = some u) ∧ EvOk y := fun i hi => by
      have h := hread i hi
      rw [List.getElem?_eq_getElem (by omega), Option.bind_eq_some_iff] at h
      obtain ⟨cs, h1, h2⟩ := h
      obtain ⟨y, rfl, hs⟩ := ev_read h2
      exact ⟨y, fun j u hj => (cells_get h1 j u hj).2, hs⟩
    by_cases h0 : len = 0
    · subst h0
      exact ⟨[], some a, cap, rfl, by simp, hm, ⟨fun x hx => absurd hx (by simp), fun h => by cases h⟩, fun h => absurd rfl h⟩
    obtain ⟨b, o, sp⟩ := a
    have hsp : sp = none := by
      obtain ⟨y, h, _⟩ := each 0 (by omega)
      have := h 0 _ rfl
      rw [Nat.zero_mul, addr_z, addr_z] at this
      exact spot_none this
    subst hsp
    obtain ⟨fs, hfs1, hfs2⟩ : ∃ fs : List Ev, fs.length = len ∧ ∀ i y, fs[i]? = some y → (∀ j u, (evC y)[j]? = some u → w.cell? (((⟨b, o, none⟩ : Addr).add (i * 10)).add j) = some u) ∧ EvOk y := by
      refine ⟨List.ofFn fun i : Fin len => (each i.1 i.2).choose, by simp, fun i f hf => ?_⟩
      obtain ⟨hi, rfl⟩ := List.getElem?_eq_some_iff.1 hf
      rw [List.getElem_ofFn]
      exact (each i (by simpa using hi)).choose_spec
    refine ⟨fs, _, cap, by rw [hfs1], by omega, hm, ⟨fun y hy => ?_, fun h => by cases h⟩, fun _ => ⟨b, o, rfl, ?_⟩⟩
    · obtain ⟨i, hi, rfl⟩ := List.getElem_of_mem hy
      exact (hfs2 i _ (List.getElem?_eq_getElem hi)).2
    · intro k u hk
      have hlen : k < 10 * fs.length := by
        have := (List.getElem?_eq_some_iff.1 hk).1
        rwa [rowsE_len] at this
      have hi : k / 10 < fs.length := by omega
      have hj : k % 10 < 10 := Nat.mod_lt _ (by decide)
      have hkk : k = 10 * (k / 10) + k % 10 := by omega
      rw [hkk, rowsE_get hi hj] at hk
      have := (hfs2 _ _ (List.getElem?_eq_getElem hi)).1 _ u hk
      rw [Addr.add_lit, Addr.add_lit, Nat.mul_comm (k / 10) 10, Nat.add_assoc, ← hkk] at this
      exact this
end Go.Proofs.YtdkdibeimeaakabGreatDoor

/- A choice that came in. -/
import Derived.Test.YthcdnjbhhaonhaaGreatDoorQaLawBase
import Derived.Test.YthcdnjbhhaonhaaGreatDoorQaChSpecToChA


namespace Go.Proofs.YthcdnjbhhaonhaaGreatDoor
open Go.ChangeShapes Go.WideShapes Go.ChangeAt Go.RowKit
set_option maxRecDepth 100000 in
/-- A slice of ints that came in. -/
theorem sl_open {H : Type} {enc : TypeId × Value → H} {w : World} {base b0 n : Nat} {v : Value} {x : DataW H × List MemPlace} (hok : Cell.okWide Go.Proofs.Tryz.prog w .any b0 33 v) (ht : DataW.trod enc Go.Proofs.Tryz.prog w base (fun _ => true) true n 33 [v] = some x) : ∃ xs, SlI w v xs := by
  rcases open_ints Tryz.underlying33 Tryz.underlying3 (by kernel_rfl) ht with ⟨hcs, _⟩ | ⟨a, len, cap, zs, hcs, _, hl, hm, hz, _, hcell, _⟩
  · simp only [List.cons.injEq, and_true] at hcs
    exact ⟨[], by rw [hcs]; exact SlI.nil w⟩
  · simp only [List.cons.injEq, and_true] at hcs
    subst hcs
    simp only [Cell.okWide, Tryz.underlying33, Cell.ok, World.has] at hok
    obtain ⟨_, _, _, hsp, _⟩ := hok
    obtain ⟨b, o, sp⟩ := a
    simp only at hsp
    subst hsp
    simp only [if_true] at hz
    refine ⟨zs.take len, .inr ⟨b, o, cap, ?_, ?_, hm, fun k u hk => ?_⟩⟩
    · rw [ints_length, List.length_take, Nat.min_eq_left (by omega)]
    · rw [ints_length, List.length_take]; omega
    · simp only [ints, List.getElem?_map, Option.map_eq_some_iff] at hk
      obtain ⟨y, hy, rfl⟩ := hk
      have hk : k < zs.length := by
        have := (List.getElem?_eq_some_iff.1 hy).1
        rw [List.length_take] at this; omega
      rw [List.getElem?_take] at hy
      split at hy
      · have := hcell k hk
        rw [Addr.add_lit] at this
        rw [this, List.getD_eq_getElem?_getD, hy]; rfl
      · cases hy
set_option maxRecDepth 100000 in
theorem choice_open {H : Type} {enc : TypeId × Value → H} {w : World} {base b0 n : Nat} {v : Value} {x : DataW H × List MemPlace} (hok : Value.okWide Go.Proofs.Tryz.prog w .any b0 35 v) (ht : DataW.trod enc Go.Proofs.Tryz.prog w base (fun _ => true) true n 35 v.cells.toList = some x) :
    ∃ (c : Ch) (a : Value), v = chV c a ∧ SlI w a c.L := by
  simp only [Value.okWide, Tryz.underlying35] at hok
  obtain ⟨cs, rfl, hsz, ts, hts, _, hcell⟩ := hok
  have e1 : Program.cellTypes Go.Proofs.Tryz.prog (Program.depth Go.Proofs.Tryz.prog) 35 = some [3, 3, 33] := by kernel_rfl
  have e2 : Program.cellsOf Go.Proofs.Tryz.prog 35 = 3 := by kernel_rfl
  have e3 : Program.cellsOf Go.Proofs.Tryz.prog 3 = 1 := by kernel_rfl
  have e4 : Program.cellsOf Go.Proofs.Tryz.prog 33 = 1 := by kernel_rfl
  rw [e1, Option.some.injEq] at hts
  subst hts
  rw [e2] at hsz
  obtain ⟨c0, c1, c2, rfl⟩ : ∃ c0 c1 c2, cs = #[c0, c1, c2] := by
    obtain ⟨l⟩ := cs
    match l, hsz with
    | [c0, c1, c2], _ => exact ⟨c0, c1, c2, rfl⟩
  obtain ⟨u0, hu0, o0⟩ := hcell 0 c0 rfl
  obtain ⟨u1, hu1, o1⟩ := hcell 1 c1 rfl
  obtain ⟨u2, hu2, o2⟩ := hcell 2 c2 rfl
  simp only [List.length_cons, List.length_nil, Nat.reduceAdd, Nat.reduceMod, List.getElem?_cons_zero, List.getElem?_cons_succ, Option.some.injEq] at hu0 hu1 hu2
  subst hu0 hu1 hu2
  obtain ⟨xs, m, _, _, _, hl, hf⟩ := DataW.trod_struct Tryz.underlying35 ht
  have h2 := hf 2 _ rfl
  have hl3 : xs.length = 3 := hl
  simp only [Value.cells] at h2
  rw [List.getElem?_eq_getElem (by omega)] at h2
  obtain ⟨T, hT⟩ := sl_open o2 h2
  simp only [Cell.okWide, Tryz.underlying3] at o0 o1
  cases c0 <;> simp only [Cell.ok, Tryz.underlying3] at o0
  cases c1 <;> simp only [Cell.ok, Tryz.underlying3] at o1
  obtain ⟨rfl, _⟩ := o0
  obtain ⟨rfl, _⟩ := o1
  exact ⟨⟨_, _, T⟩, c2, rfl, hT⟩
end Go.Proofs.YthcdnjbhhaonhaaGreatDoor

/- A binding that came in. -/
import Derived.Test.YtcinhjefclbgjaaGreatDoorLawBase
namespace Go.Proofs.YtcinhjefclbgjaaGreatDoor
open Go.ChangeShapes Go.WideShapes Go.ChangeAt Go.RowKit
set_option maxRecDepth 100000 in
theorem bind_open {w : World} {b0 : Nat} {v : Value} (hok : Value.okWide Go.Proofs.Tryz.prog w .any b0 25 v) : ∃ a b, v = .agg #[a, b] ∧ a.oneCell' = true ∧ b.oneCell' = true := by
  simp only [Value.okWide, Tryz.underlying25] at hok
  obtain ⟨cs, rfl, hsz, ts, hts, _, hcell⟩ := hok
  have e1 : Program.cellTypes Go.Proofs.Tryz.prog (Program.depth Go.Proofs.Tryz.prog) 25 = some [22, 23] := by kernel_rfl
  have e2 : Program.cellsOf Go.Proofs.Tryz.prog 25 = 2 := by kernel_rfl
  rw [e1, Option.some.injEq] at hts
  subst hts
  rw [e2] at hsz
  obtain ⟨c0, c1, rfl⟩ : ∃ c0 c1, cs = #[c0, c1] := by
    obtain ⟨l⟩ := cs
    match l, hsz with
    | [c0, c1], _ => exact ⟨c0, c1, rfl⟩
  obtain ⟨u0, hu0, o0⟩ := hcell 0 c0 rfl
  obtain ⟨u1, hu1, o1⟩ := hcell 1 c1 rfl
  simp only [List.length_cons, List.length_nil, Nat.reduceAdd, Nat.reduceMod, List.getElem?_cons_zero, List.getElem?_cons_succ, Option.some.injEq] at hu0 hu1
  subst hu0 hu1
  refine ⟨c0, c1, rfl, ?_, ?_⟩
  · simp only [Cell.okWide, Tryz.underlying22] at o0
    cases c0 <;> first | rfl | (simp only [Cell.ok, Tryz.underlying22] at o0; done)
  · simp only [Cell.okWide, Tryz.underlying23] at o1
    cases c1 <;> first | rfl | (simp only [Cell.ok, Tryz.underlying23] at o1; done)
end Go.Proofs.YtcinhjefclbgjaaGreatDoor

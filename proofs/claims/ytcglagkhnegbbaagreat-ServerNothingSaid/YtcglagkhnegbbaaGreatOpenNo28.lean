/- An order that came in. -/
import Derived.Test.YtcglagkhnegbbaaGreatLawBase
namespace Go.Proofs.YtcglagkhnegbbaaGreat
open Go.ChangeShapes Go.WideShapes Go.ChangeAt Go.RowKit
set_option maxRecDepth 100000 in
theorem order_open {w : World} {b0 : Nat} {v : Value} (hok : Value.okWide Go.Proofs.Tryz.prog w .any b0 25 v) : ∃ a b c d e f g, v = .agg #[a, b, c, d, e, f, g] ∧ a.oneCell' = true ∧ b.oneCell' = true ∧ c.oneCell' = true ∧ d.oneCell' = true ∧ e.oneCell' = true ∧ f.oneCell' = true ∧ g.oneCell' = true := by
  simp only [Value.okWide, Tryz.underlying25] at hok
  obtain ⟨cs, rfl, hsz, ts, hts, _, hcell⟩ := hok
  have e1 : Program.cellTypes Go.Proofs.Tryz.prog (Program.depth Go.Proofs.Tryz.prog) 25 = some [3, 3, 3, 9, 3, 3, 9] := by kernel_rfl
  have e2 : Program.cellsOf Go.Proofs.Tryz.prog 25 = 7 := by kernel_rfl
  rw [e1, Option.some.injEq] at hts
  subst hts
  rw [e2] at hsz
  obtain ⟨c0, c1, c2, c3, c4, c5, c6, rfl⟩ : ∃ c0 c1 c2 c3 c4 c5 c6, cs = #[c0, c1, c2, c3, c4, c5, c6] := by
    obtain ⟨l⟩ := cs
    match l, hsz with
    | [c0, c1, c2, c3, c4, c5, c6], _ => exact ⟨c0, c1, c2, c3, c4, c5, c6, rfl⟩
  obtain ⟨u0, hu0, o0⟩ := hcell 0 c0 rfl
  obtain ⟨u1, hu1, o1⟩ := hcell 1 c1 rfl
  obtain ⟨u2, hu2, o2⟩ := hcell 2 c2 rfl
  obtain ⟨u3, hu3, o3⟩ := hcell 3 c3 rfl
  obtain ⟨u4, hu4, o4⟩ := hcell 4 c4 rfl
  obtain ⟨u5, hu5, o5⟩ := hcell 5 c5 rfl
  obtain ⟨u6, hu6, o6⟩ := hcell 6 c6 rfl
  simp only [List.length_cons, List.length_nil, Nat.reduceAdd, Nat.reduceMod, List.getElem?_cons_zero, List.getElem?_cons_succ, Option.some.injEq] at hu0 hu1 hu2 hu3 hu4 hu5 hu6
  subst hu0 hu1 hu2 hu3 hu4 hu5 hu6
  refine ⟨c0, c1, c2, c3, c4, c5, c6, rfl, ?_, ?_, ?_, ?_, ?_, ?_, ?_⟩
  · simp only [Cell.okWide, Tryz.underlying3] at o0
    cases c0 <;> first | rfl | (simp only [Cell.ok, Tryz.underlying3] at o0; done)
  · simp only [Cell.okWide, Tryz.underlying3] at o1
    cases c1 <;> first | rfl | (simp only [Cell.ok, Tryz.underlying3] at o1; done)
  · simp only [Cell.okWide, Tryz.underlying3] at o2
    cases c2 <;> first | rfl | (simp only [Cell.ok, Tryz.underlying3] at o2; done)
  · simp only [Cell.okWide, Tryz.underlying9] at o3
    cases c3 <;> first | rfl | (simp only [Cell.ok, Tryz.underlying9] at o3; done)
  · simp only [Cell.okWide, Tryz.underlying3] at o4
    cases c4 <;> first | rfl | (simp only [Cell.ok, Tryz.underlying3] at o4; done)
  · simp only [Cell.okWide, Tryz.underlying3] at o5
    cases c5 <;> first | rfl | (simp only [Cell.ok, Tryz.underlying3] at o5; done)
  · simp only [Cell.okWide, Tryz.underlying9] at o6
    cases c6 <;> first | rfl | (simp only [Cell.ok, Tryz.underlying9] at o6; done)
end Go.Proofs.YtcglagkhnegbbaaGreat

/- PatternDraws: the program's draw and the reference's. -/
import Derived.Test.YtcinhjefclbgjaaDoorMwF0
import Derived.Test.YtcinhjefclbgjaaDoorMwSet
import Derived.Test.YtcinhjefclbgjaaDoorRunAw29
namespace Go.Proofs.YtcinhjefclbgjaaDoor
open Go.RowKit
set_option linter.unusedSimpArgs false

def dOK (s n : Int) : Bool := decide (0 ≤ s) && decide (s ≤ 2147483647) && decide (1 ≤ n)
def dNext (s : Int) : Int := (IntKind.i64.wrap (IntKind.i64.wrap (s * 1103515245) + 12345)).tmod 2147483648
def dRes (s n : Int) : Value := if dOK s n = true then .tuple #[.int .i64 ((IntKind.i64.wrap ((dNext s).tdiv 65536)).tmod n), .int .i64 (dNext s), .int .i64 0] else .tuple #[.int .i64 0, .int .i64 0, .int .i64 7]

theorem dOK_lo {s n : Int} (h : ¬ 0 ≤ s) : dOK s n = false := by simp [dOK, h]
theorem dOK_hi {s n : Int} (h : ¬ s ≤ 2147483647) : dOK s n = false := by simp [dOK, h]
theorem dOK_n {s n : Int} (h : n < 1) : dOK s n = false := by simp [dOK]; omega
theorem dOK_in {s n : Int} (h : 0 ≤ s) (h' : s ≤ 2147483647) (k : ¬ n < 1) : dOK s n = true := by simp [dOK]; omega
theorem dRes_in {s n : Int} (h : dOK s n = true) : dRes s n = .tuple #[.int .i64 ((IntKind.i64.wrap ((dNext s).tdiv 65536)).tmod n), .int .i64 (dNext s), .int .i64 0] := if_pos h
theorem dRes_out {s n : Int} (h : dOK s n = false) : dRes s n = .tuple #[.int .i64 0, .int .i64 0, .int .i64 7] := if_neg (by simp [h])
theorem within_c (a b c : Int) (w : World) : Rets Go.Proofs.Tryd.prog 9 #[.int .i64 a, .int .i64 b, .int .i64 c] w fun r w' => r = .bool (decide (b ≤ a) && decide (a ≤ c)) ∧ w' = w := by
  refine en9 ?_
  simp -dsimp -implicitDefEqProofs only [m9, sF9, Nat.reduceEqDiff, ↓reduceIte, Nat.reduceAdd, Nat.reduceMul, Value.cells, Value.oneCell', eq_self, ne_eq, Int.reduceToNat, Int.reduceEq, Int.reduceLT, Int.reduceLE, Int.reduceNeg, if_true, if_false, reduceCtorEq, Nat.reduceSub, storeV_ptr, slcV_slice, ↓mwD, mwU]
  refine iteW_dec (fun h => ?_) (fun h => ?_)
  · simp -dsimp -implicitDefEqProofs only [h, Bool.true_and, m9, sF9, Nat.reduceEqDiff, ↓reduceIte, Nat.reduceAdd, Nat.reduceMul, Value.cells, Value.oneCell', eq_self, ne_eq, Int.reduceToNat, Int.reduceEq, Int.reduceLT, Int.reduceLE, Int.reduceNeg, if_true, if_false, reduceCtorEq, Nat.reduceSub, storeV_ptr, slcV_slice, ↓mwD, mwU]
  · simp -dsimp -implicitDefEqProofs only [h, Bool.false_and, m9, sF9, Nat.reduceEqDiff, ↓reduceIte, Nat.reduceAdd, Nat.reduceMul, Value.cells, Value.oneCell', eq_self, ne_eq, Int.reduceToNat, Int.reduceEq, Int.reduceLT, Int.reduceLE, Int.reduceNeg, if_true, if_false, reduceCtorEq, Nat.reduceSub, storeV_ptr, slcV_slice, ↓mwD, mwU]
theorem draw_c (s n : Int) (w : World) : Rets Go.Proofs.Tryd.prog 5 #[.int .i64 s, .int .i64 n] w fun r w' => r = dRes s n ∧ w' = w := by
  refine en5 ?_
  simp -dsimp -implicitDefEqProofs only [m5, sF5, Nat.reduceEqDiff, ↓reduceIte, Nat.reduceAdd, Nat.reduceMul, Value.cells, Value.oneCell', eq_self, ne_eq, Int.reduceToNat, Int.reduceEq, Int.reduceLT, Int.reduceLE, Int.reduceNeg, if_true, if_false, reduceCtorEq, Nat.reduceSub, storeV_ptr, slcV_slice, ↓mwD, mwU]
  refine (within_c s 0 2147483647 w).use ?_
  rintro r w0 ⟨rfl, rfl⟩
  simp -dsimp -implicitDefEqProofs only [m5, sF5, Nat.reduceEqDiff, ↓reduceIte, Nat.reduceAdd, Nat.reduceMul, Value.cells, Value.oneCell', eq_self, ne_eq, Int.reduceToNat, Int.reduceEq, Int.reduceLT, Int.reduceLE, Int.reduceNeg, if_true, if_false, reduceCtorEq, Nat.reduceSub, storeV_ptr, slcV_slice, ↓mwD, mwU]
  refine iteW_intro (fun h => ?_) (fun h => ?_)
  · rw [Bool.and_eq_true, decide_eq_true_iff, decide_eq_true_iff] at h
    obtain ⟨h, h'⟩ := h
    simp -dsimp -implicitDefEqProofs only [h, h', Bool.and_true, Bool.true_and, m5, sF5, Nat.reduceEqDiff, ↓reduceIte, Nat.reduceAdd, Nat.reduceMul, Value.cells, Value.oneCell', eq_self, ne_eq, Int.reduceToNat, Int.reduceEq, Int.reduceLT, Int.reduceLE, Int.reduceNeg, if_true, if_false, reduceCtorEq, Nat.reduceSub, storeV_ptr, slcV_slice, ↓mwD, mwU]
    refine iteW_dec (fun k => ?_) (fun k => ?_)
    · rw [dRes_out (dOK_n k)]
      simp -dsimp -implicitDefEqProofs only [m5, sF5, Nat.reduceEqDiff, ↓reduceIte, Nat.reduceAdd, Nat.reduceMul, Value.cells, Value.oneCell', eq_self, ne_eq, Int.reduceToNat, Int.reduceEq, Int.reduceLT, Int.reduceLE, Int.reduceNeg, if_true, if_false, reduceCtorEq, Nat.reduceSub, storeV_ptr, slcV_slice, ↓mwD, mwU]
    · have hn : ¬ n = 0 := by omega
      rw [dRes_in (dOK_in h h' k)]
      simp -dsimp -implicitDefEqProofs only [hn, m5, sF5, Nat.reduceEqDiff, ↓reduceIte, Nat.reduceAdd, Nat.reduceMul, Value.cells, Value.oneCell', eq_self, ne_eq, Int.reduceToNat, Int.reduceEq, Int.reduceLT, Int.reduceLE, Int.reduceNeg, if_true, if_false, reduceCtorEq, Nat.reduceSub, storeV_ptr, slcV_slice, ↓mwD, mwU]
      rfl
  · have hd : dOK s n = false := by simp only [dOK]; rw [h]; rfl
    rw [dRes_out hd]
    simp -dsimp -implicitDefEqProofs only [h, m5, sF5, Nat.reduceEqDiff, ↓reduceIte, Nat.reduceAdd, Nat.reduceMul, Value.cells, Value.oneCell', eq_self, ne_eq, Int.reduceToNat, Int.reduceEq, Int.reduceLT, Int.reduceLE, Int.reduceNeg, if_true, if_false, reduceCtorEq, Nat.reduceSub, storeV_ptr, slcV_slice, ↓mwD, mwU]
theorem refdraw_c (s n : Int) (hn : ¬ n = 0) (w : World) : Rets Go.Proofs.Tryd.prog 10 #[.int .i64 s, .int .i64 n] w fun r w' => r = .tuple #[.int .i64 ((IntKind.i64.wrap ((dNext s).tdiv 65536)).tmod n), .int .i64 (dNext s)] ∧ w' = w := by
  refine en10 ?_
  simp -dsimp -implicitDefEqProofs only [hn, m10, sF10, Nat.reduceEqDiff, ↓reduceIte, Nat.reduceAdd, Nat.reduceMul, Value.cells, Value.oneCell', eq_self, ne_eq, Int.reduceToNat, Int.reduceEq, Int.reduceLT, Int.reduceLE, Int.reduceNeg, if_true, if_false, reduceCtorEq, Nat.reduceSub, storeV_ptr, slcV_slice, ↓mwD, mwU]
  rfl
theorem refDraw_c (s n : Int) (w : World) : Rets Go.Proofs.Tryd.prog 6 #[.int .i64 s, .int .i64 n] w fun r w' => r = dRes s n ∧ w' = w := by
  refine en6 ?_
  simp -dsimp -implicitDefEqProofs only [m6, sF6, Nat.reduceEqDiff, ↓reduceIte, Nat.reduceAdd, Nat.reduceMul, Value.cells, Value.oneCell', eq_self, ne_eq, Int.reduceToNat, Int.reduceEq, Int.reduceLT, Int.reduceLE, Int.reduceNeg, if_true, if_false, reduceCtorEq, Nat.reduceSub, storeV_ptr, slcV_slice, ↓mwD, mwU]
  refine iteW_dec (fun h => ?_) (fun h => ?_)
  · rw [dRes_out (dOK_lo (by omega))]
    simp -dsimp -implicitDefEqProofs only [h, m6, sF6, Nat.reduceEqDiff, ↓reduceIte, Nat.reduceAdd, Nat.reduceMul, Value.cells, Value.oneCell', eq_self, ne_eq, Int.reduceToNat, Int.reduceEq, Int.reduceLT, Int.reduceLE, Int.reduceNeg, if_true, if_false, reduceCtorEq, Nat.reduceSub, storeV_ptr, slcV_slice, ↓mwD, mwU]
  · simp -dsimp -implicitDefEqProofs only [h, m6, sF6, Nat.reduceEqDiff, ↓reduceIte, Nat.reduceAdd, Nat.reduceMul, Value.cells, Value.oneCell', eq_self, ne_eq, Int.reduceToNat, Int.reduceEq, Int.reduceLT, Int.reduceLE, Int.reduceNeg, if_true, if_false, reduceCtorEq, Nat.reduceSub, storeV_ptr, slcV_slice, ↓mwD, mwU]
    refine iteW_dec (fun h' => ?_) (fun h' => ?_)
    · rw [dRes_out (dOK_hi (by omega))]
      simp -dsimp -implicitDefEqProofs only [h, h', m6, sF6, Nat.reduceEqDiff, ↓reduceIte, Nat.reduceAdd, Nat.reduceMul, Value.cells, Value.oneCell', eq_self, ne_eq, Int.reduceToNat, Int.reduceEq, Int.reduceLT, Int.reduceLE, Int.reduceNeg, if_true, if_false, reduceCtorEq, Nat.reduceSub, storeV_ptr, slcV_slice, ↓mwD, mwU]
    · simp -dsimp -implicitDefEqProofs only [h, h', m6, sF6, Nat.reduceEqDiff, ↓reduceIte, Nat.reduceAdd, Nat.reduceMul, Value.cells, Value.oneCell', eq_self, ne_eq, Int.reduceToNat, Int.reduceEq, Int.reduceLT, Int.reduceLE, Int.reduceNeg, if_true, if_false, reduceCtorEq, Nat.reduceSub, storeV_ptr, slcV_slice, ↓mwD, mwU]
      refine iteW_dec (fun k => ?_) (fun k => ?_)
      · rw [dRes_out (dOK_n k)]
        simp -dsimp -implicitDefEqProofs only [h, h', k, m6, sF6, Nat.reduceEqDiff, ↓reduceIte, Nat.reduceAdd, Nat.reduceMul, Value.cells, Value.oneCell', eq_self, ne_eq, Int.reduceToNat, Int.reduceEq, Int.reduceLT, Int.reduceLE, Int.reduceNeg, if_true, if_false, reduceCtorEq, Nat.reduceSub, storeV_ptr, slcV_slice, ↓mwD, mwU]
      · simp -dsimp -implicitDefEqProofs only [h, h', k, m6, sF6, Nat.reduceEqDiff, ↓reduceIte, Nat.reduceAdd, Nat.reduceMul, Value.cells, Value.oneCell', eq_self, ne_eq, Int.reduceToNat, Int.reduceEq, Int.reduceLT, Int.reduceLE, Int.reduceNeg, if_true, if_false, reduceCtorEq, Nat.reduceSub, storeV_ptr, slcV_slice, ↓mwD, mwU]
        refine (refdraw_c s n (by omega) w).use ?_
        rintro r w0 ⟨rfl, rfl⟩
        rw [dRes_in (dOK_in (by omega) (by omega) k)]
        simp -dsimp -implicitDefEqProofs only [m6, sF6, Nat.reduceEqDiff, ↓reduceIte, Nat.reduceAdd, Nat.reduceMul, Value.cells, Value.oneCell', eq_self, ne_eq, Int.reduceToNat, Int.reduceEq, Int.reduceLT, Int.reduceLE, Int.reduceNeg, if_true, if_false, reduceCtorEq, Nat.reduceSub, storeV_ptr, slcV_slice, ↓mwD, mwU]
theorem PatternDraws_c (s n : Int) (w : World) : Rets Go.Proofs.Tryd.prog 3 #[.int .i64 s, .int .i64 n] w fun r w' => r = .bool true ∧ Ext w w' := by
  refine en3 ?_
  simp -dsimp -implicitDefEqProofs only [m3, sF3, Nat.reduceEqDiff, ↓reduceIte, Nat.reduceAdd, Nat.reduceMul, Value.cells, Value.oneCell', eq_self, ne_eq, Int.reduceToNat, Int.reduceEq, Int.reduceLT, Int.reduceLE, Int.reduceNeg, if_true, if_false, reduceCtorEq, Nat.reduceSub, storeV_ptr, slcV_slice, ↓mwD, mwU]
  refine (awake_c w).use ?_
  rintro r w0 ⟨rfl, hx⟩
  simp -dsimp -implicitDefEqProofs only [m3, sF3, Nat.reduceEqDiff, ↓reduceIte, Nat.reduceAdd, Nat.reduceMul, Value.cells, Value.oneCell', eq_self, ne_eq, Int.reduceToNat, Int.reduceEq, Int.reduceLT, Int.reduceLE, Int.reduceNeg, if_true, if_false, reduceCtorEq, Nat.reduceSub, storeV_ptr, slcV_slice, ↓mwD, mwU]
  refine (draw_c s n w0).use ?_
  rintro r w1 ⟨rfl, rfl⟩
  by_cases hd : dOK s n = true
  · rw [dRes_in hd]
    simp -dsimp -implicitDefEqProofs only [m3, sF3, Nat.reduceEqDiff, ↓reduceIte, Nat.reduceAdd, Nat.reduceMul, Value.cells, Value.oneCell', eq_self, ne_eq, Int.reduceToNat, Int.reduceEq, Int.reduceLT, Int.reduceLE, Int.reduceNeg, if_true, if_false, reduceCtorEq, Nat.reduceSub, storeV_ptr, slcV_slice, ↓mwD, mwU]
    refine (refDraw_c s n w1).use ?_
    rintro r w2 ⟨rfl, rfl⟩
    rw [dRes_in hd]
    simp -dsimp -implicitDefEqProofs only [beq_self_eq_true, m3, sF3, Nat.reduceEqDiff, ↓reduceIte, Nat.reduceAdd, Nat.reduceMul, Value.cells, Value.oneCell', eq_self, ne_eq, Int.reduceToNat, Int.reduceEq, Int.reduceLT, Int.reduceLE, Int.reduceNeg, if_true, if_false, reduceCtorEq, Nat.reduceSub, storeV_ptr, slcV_slice, ↓mwD, mwU]
    exact hx
  · rw [dRes_out (by simpa using hd)]
    simp -dsimp -implicitDefEqProofs only [m3, sF3, Nat.reduceEqDiff, ↓reduceIte, Nat.reduceAdd, Nat.reduceMul, Value.cells, Value.oneCell', eq_self, ne_eq, Int.reduceToNat, Int.reduceEq, Int.reduceLT, Int.reduceLE, Int.reduceNeg, if_true, if_false, reduceCtorEq, Nat.reduceSub, storeV_ptr, slcV_slice, ↓mwD, mwU]
    refine (refDraw_c s n w1).use ?_
    rintro r w2 ⟨rfl, rfl⟩
    rw [dRes_out (by simpa using hd)]
    simp -dsimp -implicitDefEqProofs only [beq_self_eq_true, m3, sF3, Nat.reduceEqDiff, ↓reduceIte, Nat.reduceAdd, Nat.reduceMul, Value.cells, Value.oneCell', eq_self, ne_eq, Int.reduceToNat, Int.reduceEq, Int.reduceLT, Int.reduceLE, Int.reduceNeg, if_true, if_false, reduceCtorEq, Nat.reduceSub, storeV_ptr, slcV_slice, ↓mwD, mwU]
    exact hx
end Go.Proofs.YtcinhjefclbgjaaDoor

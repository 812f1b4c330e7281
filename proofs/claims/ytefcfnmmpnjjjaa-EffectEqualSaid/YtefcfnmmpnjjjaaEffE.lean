/- Contracts: Latency and Tail, of the program and of the reference. -/
import Derived.Test.YtefcfnmmpnjjjaaEffD
namespace Go.Proofs.Ytefcfnmmpnjjjaa
open Go.RowKit
set_option linter.unusedSimpArgs false

theorem Latency_c (k : Int) (a t : Value) (A T : List Int) (w : World) (hA : SlI w a A) (hT : SlI w t T) :
    Rets Go.Proofs.Try.prog 11 #[.agg #[.int .i64 k, a, t]] w fun r w' => r = .tuple #[.int .i64 (if validB k A T = true then latI k A else 0), .int .i64 (if validB k A T = true then 0 else 1)] ∧ Ext w w' := by
  obtain ⟨pa, ca, rfl, _, _⟩ := hA.shape
  obtain ⟨pt, ct, rfl, _, _⟩ := hT.shape
  have hx : Ext w (w.alloc (.cells #[.int .i64 k, .slice pa A.length ca, .slice pt T.length ct] 24)) := Ext.alloc _ _
  refine en11 ?_
  simp -dsimp -implicitDefEqProofs only [m11, sF11, Nat.reduceEqDiff, ↓reduceIte, Nat.reduceAdd, Nat.reduceMul, Value.cells, Value.oneCell', eq_self, ne_eq, Int.reduceToNat, Int.reduceEq, Int.reduceLT, Int.reduceLE, Int.reduceNeg, if_true, if_false, reduceCtorEq, Nat.reduceSub, storeV_ptr, slcV_slice, ↓mwD, mwU]
  refine (Valid_c k _ _ A T _ (hA.ext hx) (hT.ext hx)).use ?_
  rintro r w1 ⟨rfl, hx1⟩
  have c0 : w1.cell? ⟨w.heap.size, 0, none⟩ = some (.int .i64 k) := box_cell hx1 rfl
  have c1 : w1.cell? ⟨w.heap.size, 1, none⟩ = some (.slice pa A.length ca) := box_cell hx1 rfl
  have c2 : w1.cell? ⟨w.heap.size, 2, none⟩ = some (.slice pt T.length ct) := box_cell hx1 rfl
  cases hv : validB k A T
  · simp -dsimp -implicitDefEqProofs only [m11, sF11, Nat.reduceEqDiff, ↓reduceIte, Nat.reduceAdd, Nat.reduceMul, Value.cells, Value.oneCell', eq_self, ne_eq, Int.reduceToNat, Int.reduceEq, Int.reduceLT, Int.reduceLE, Int.reduceNeg, if_true, if_false, reduceCtorEq, Nat.reduceSub, storeV_ptr, slcV_slice, ↓mwD, mwU]
    first | exact hx.trans hx1 | exact ⟨rfl, hx.trans hx1⟩
  · simp -dsimp -implicitDefEqProofs only [c0, c1, c2, m11, sF11, Nat.reduceEqDiff, ↓reduceIte, Nat.reduceAdd, Nat.reduceMul, Value.cells, Value.oneCell', eq_self, ne_eq, Int.reduceToNat, Int.reduceEq, Int.reduceLT, Int.reduceLE, Int.reduceNeg, if_true, if_false, reduceCtorEq, Nat.reduceSub, storeV_ptr, slcV_slice, ↓mwD, mwU]
    have hs := valid_shape hv
    refine (latency_c k _ _ A T.length ct pt _ (hA.ext (hx.trans hx1)) rfl (by rintro rfl; cases hs; simp) (by rintro rfl; cases hs; simp)).use ?_
    rintro r w2 ⟨rfl, hx2⟩
    simp -dsimp -implicitDefEqProofs only [m11, sF11, Nat.reduceEqDiff, ↓reduceIte, Nat.reduceAdd, Nat.reduceMul, Value.cells, Value.oneCell', eq_self, ne_eq, Int.reduceToNat, Int.reduceEq, Int.reduceLT, Int.reduceLE, Int.reduceNeg, if_true, if_false, reduceCtorEq, Nat.reduceSub, storeV_ptr, slcV_slice, ↓mwD, mwU]
    first | exact (hx.trans hx1).trans hx2 | exact ⟨rfl, (hx.trans hx1).trans hx2⟩

theorem refLatencyE_c (k : Int) (a t : Value) (A T : List Int) (w : World) (hA : SlI w a A) (hT : SlI w t T) :
    Rets Go.Proofs.Try.prog 12 #[.agg #[.int .i64 k, a, t]] w fun r w' => r = .tuple #[.int .i64 (if validB k A T = true then latI k A else 0), .int .i64 (if validB k A T = true then 0 else 1)] ∧ Ext w w' := by
  obtain ⟨pa, ca, rfl, _, _⟩ := hA.shape
  obtain ⟨pt, ct, rfl, _, _⟩ := hT.shape
  have hx : Ext w (w.alloc (.cells #[.int .i64 k, .slice pa A.length ca, .slice pt T.length ct] 24)) := Ext.alloc _ _
  refine en12 ?_
  simp -dsimp -implicitDefEqProofs only [m12, sF12, Nat.reduceEqDiff, ↓reduceIte, Nat.reduceAdd, Nat.reduceMul, Value.cells, Value.oneCell', eq_self, ne_eq, Int.reduceToNat, Int.reduceEq, Int.reduceLT, Int.reduceLE, Int.reduceNeg, if_true, if_false, reduceCtorEq, Nat.reduceSub, storeV_ptr, slcV_slice, ↓mwD, mwU]
  refine (refValid_c k _ _ A T _ (hA.ext hx) (hT.ext hx)).use ?_
  rintro r w1 ⟨rfl, hx1⟩
  have c0 : w1.cell? ⟨w.heap.size, 0, none⟩ = some (.int .i64 k) := box_cell hx1 rfl
  have c1 : w1.cell? ⟨w.heap.size, 1, none⟩ = some (.slice pa A.length ca) := box_cell hx1 rfl
  have c2 : w1.cell? ⟨w.heap.size, 2, none⟩ = some (.slice pt T.length ct) := box_cell hx1 rfl
  cases hv : validB k A T
  · simp -dsimp -implicitDefEqProofs only [m12, sF12, Nat.reduceEqDiff, ↓reduceIte, Nat.reduceAdd, Nat.reduceMul, Value.cells, Value.oneCell', eq_self, ne_eq, Int.reduceToNat, Int.reduceEq, Int.reduceLT, Int.reduceLE, Int.reduceNeg, if_true, if_false, reduceCtorEq, Nat.reduceSub, storeV_ptr, slcV_slice, ↓mwD, mwU]
    first | exact hx.trans hx1 | exact ⟨rfl, hx.trans hx1⟩
  · simp -dsimp -implicitDefEqProofs only [c0, c1, c2, m12, sF12, Nat.reduceEqDiff, ↓reduceIte, Nat.reduceAdd, Nat.reduceMul, Value.cells, Value.oneCell', eq_self, ne_eq, Int.reduceToNat, Int.reduceEq, Int.reduceLT, Int.reduceLE, Int.reduceNeg, if_true, if_false, reduceCtorEq, Nat.reduceSub, storeV_ptr, slcV_slice, ↓mwD, mwU]
    have hs := valid_shape hv
    refine (refLatency_c k _ _ A T.length ct pt _ (hA.ext (hx.trans hx1)) rfl (by rintro rfl; cases hs; simp) (by rintro rfl; cases hs; simp)).use ?_
    rintro r w2 ⟨rfl, hx2⟩
    simp -dsimp -implicitDefEqProofs only [m12, sF12, Nat.reduceEqDiff, ↓reduceIte, Nat.reduceAdd, Nat.reduceMul, Value.cells, Value.oneCell', eq_self, ne_eq, Int.reduceToNat, Int.reduceEq, Int.reduceLT, Int.reduceLE, Int.reduceNeg, if_true, if_false, reduceCtorEq, Nat.reduceSub, storeV_ptr, slcV_slice, ↓mwD, mwU]
    first | exact (hx.trans hx1).trans hx2 | exact ⟨rfl, (hx.trans hx1).trans hx2⟩

theorem Tail_c (k : Int) (a t : Value) (A T : List Int) (w : World) (hA : SlI w a A) (hT : SlI w t T) :
    Rets Go.Proofs.Try.prog 15 #[.agg #[.int .i64 k, a, t]] w fun r w' => r = .tuple #[.int .i64 (if validB k A T = true then tailI k A T else 0), .int .i64 (if validB k A T = true then 0 else 1)] ∧ Ext w w' := by
  obtain ⟨pa, ca, rfl, _, _⟩ := hA.shape
  obtain ⟨pt, ct, rfl, htl, htc⟩ := hT.shape
  have hx : Ext w (w.alloc (.cells #[.int .i64 k, .slice pa A.length ca, .slice pt T.length ct] 24)) := Ext.alloc _ _
  refine en15 ?_
  simp -dsimp -implicitDefEqProofs only [m15, sF15, Nat.reduceEqDiff, ↓reduceIte, Nat.reduceAdd, Nat.reduceMul, Value.cells, Value.oneCell', eq_self, ne_eq, Int.reduceToNat, Int.reduceEq, Int.reduceLT, Int.reduceLE, Int.reduceNeg, if_true, if_false, reduceCtorEq, Nat.reduceSub, storeV_ptr, slcV_slice, ↓mwD, mwU]
  refine (Valid_c k _ _ A T _ (hA.ext hx) (hT.ext hx)).use ?_
  rintro r w1 ⟨rfl, hx1⟩
  have hxx := hx.trans hx1
  have c0 : w1.cell? ⟨w.heap.size, 0, none⟩ = some (.int .i64 k) := box_cell hx1 rfl
  have c1 : w1.cell? ⟨w.heap.size, 1, none⟩ = some (.slice pa A.length ca) := box_cell hx1 rfl
  have c2 : w1.cell? ⟨w.heap.size, 2, none⟩ = some (.slice pt T.length ct) := box_cell hx1 rfl
  have htl' : (T.length : Int) ≤ 9223372036854775807 := by unfold maxLen at htc; omega
  cases hv : validB k A T
  · simp -dsimp -implicitDefEqProofs only [m15, sF15, Nat.reduceEqDiff, ↓reduceIte, Nat.reduceAdd, Nat.reduceMul, Value.cells, Value.oneCell', eq_self, ne_eq, Int.reduceToNat, Int.reduceEq, Int.reduceLT, Int.reduceLE, Int.reduceNeg, if_true, if_false, reduceCtorEq, Nat.reduceSub, storeV_ptr, slcV_slice, ↓mwD, mwU]
    first | exact hxx | exact ⟨rfl, hxx⟩
  · simp -dsimp -implicitDefEqProofs only [c0, c1, c2, m15, sF15, Nat.reduceEqDiff, ↓reduceIte, Nat.reduceAdd, Nat.reduceMul, Value.cells, Value.oneCell', eq_self, ne_eq, Int.reduceToNat, Int.reduceEq, Int.reduceLT, Int.reduceLE, Int.reduceNeg, if_true, if_false, reduceCtorEq, Nat.reduceSub, storeV_ptr, slcV_slice, ↓mwD, mwU]
    have hs := valid_shape hv
    refine iteW_dec (fun h4 => ?_) (fun h4 => ?_)
    · simp -dsimp -implicitDefEqProofs only [c0, c1, c2, m15, sF15, Nat.reduceEqDiff, ↓reduceIte, Nat.reduceAdd, Nat.reduceMul, Value.cells, Value.oneCell', eq_self, ne_eq, Int.reduceToNat, Int.reduceEq, Int.reduceLT, Int.reduceLE, Int.reduceNeg, if_true, if_false, reduceCtorEq, Nat.reduceSub, storeV_ptr, slcV_slice, ↓mwD, mwU]
      simp -dsimp (disch := omega) only [w64, Int.tdiv_eq_ediv_of_nonneg, Int.tmod_eq_emod_of_nonneg]
      exact ⟨by simp [tailI, h4], hxx⟩
    · simp -dsimp -implicitDefEqProofs only [c0, c1, c2, h4, m15, sF15, Nat.reduceEqDiff, ↓reduceIte, Nat.reduceAdd, Nat.reduceMul, Value.cells, Value.oneCell', eq_self, ne_eq, Int.reduceToNat, Int.reduceEq, Int.reduceLT, Int.reduceLE, Int.reduceNeg, if_true, if_false, reduceCtorEq, Nat.reduceSub, storeV_ptr, slcV_slice, ↓mwD, mwU]
      refine iteW_dec (fun h3 => ?_) (fun h3 => ?_)
      · subst h3
        obtain ⟨a0, b0, rfl⟩ : ∃ a0 b0, A = [a0, b0] := by cases hs; exact ⟨_, _, rfl⟩
        obtain ⟨b, o, cap, hv', hc⟩ := hA.some (by simp)
        simp only [List.length_cons, List.length_nil, Nat.zero_add, Nat.reduceAdd] at hv' c1
        cases hv'
        have d1 := hxx.cell (hc 1 b0 rfl)
        simp -dsimp -implicitDefEqProofs only [c0, c1, c2, d1, h4, m15, sF15, Nat.reduceEqDiff, ↓reduceIte, Nat.reduceAdd, Nat.reduceMul, Value.cells, Value.oneCell', eq_self, ne_eq, Int.reduceToNat, Int.reduceEq, Int.reduceLT, Int.reduceLE, Int.reduceNeg, if_true, if_false, reduceCtorEq, Nat.reduceSub, storeV_ptr, slcV_slice, ↓mwD, mwU]
        refine iteW_dec (fun hb => ?_) (fun hb => ?_)
        · subst hb
          simp -dsimp -implicitDefEqProofs only [c0, c1, c2, d1, h4, m15, sF15, Nat.reduceEqDiff, ↓reduceIte, Nat.reduceAdd, Nat.reduceMul, Value.cells, Value.oneCell', eq_self, ne_eq, Int.reduceToNat, Int.reduceEq, Int.reduceLT, Int.reduceLE, Int.reduceNeg, if_true, if_false, reduceCtorEq, Nat.reduceSub, storeV_ptr, slcV_slice, ↓mwD, mwU]
          refine (latency_c 3 _ _ [a0, 0] T.length ct pt _ (hA.ext hxx) rfl (by intro h; simp at h) (by intro h; simp at h)).use ?_
          rintro r w2 ⟨rfl, hx2⟩
          simp -dsimp -implicitDefEqProofs only [m15, sF15, Nat.reduceEqDiff, ↓reduceIte, Nat.reduceAdd, Nat.reduceMul, Value.cells, Value.oneCell', eq_self, ne_eq, Int.reduceToNat, Int.reduceEq, Int.reduceLT, Int.reduceLE, Int.reduceNeg, if_true, if_false, reduceCtorEq, Nat.reduceSub, storeV_ptr, slcV_slice, ↓mwD, mwU]
          first | exact hxx.trans hx2 | exact ⟨rfl, hxx.trans hx2⟩
        · simp -dsimp -implicitDefEqProofs only [c0, c1, c2, d1, h4, hb, m15, sF15, Nat.reduceEqDiff, ↓reduceIte, Nat.reduceAdd, Nat.reduceMul, Value.cells, Value.oneCell', eq_self, ne_eq, Int.reduceToNat, Int.reduceEq, Int.reduceLT, Int.reduceLE, Int.reduceNeg, if_true, if_false, reduceCtorEq, Nat.reduceSub, storeV_ptr, slcV_slice, ↓mwD, mwU]
          exact ⟨by simp [tailI, hb], hxx⟩
      · simp -dsimp -implicitDefEqProofs only [c0, c1, c2, h4, h3, m15, sF15, Nat.reduceEqDiff, ↓reduceIte, Nat.reduceAdd, Nat.reduceMul, Value.cells, Value.oneCell', eq_self, ne_eq, Int.reduceToNat, Int.reduceEq, Int.reduceLT, Int.reduceLE, Int.reduceNeg, if_true, if_false, reduceCtorEq, Nat.reduceSub, storeV_ptr, slcV_slice, ↓mwD, mwU]
        refine (latency_c k _ _ A T.length ct pt _ (hA.ext hxx) rfl (by rintro rfl; cases hs; simp) (by rintro rfl; cases hs; simp)).use ?_
        rintro r w2 ⟨rfl, hx2⟩
        simp -dsimp -implicitDefEqProofs only [m15, sF15, Nat.reduceEqDiff, ↓reduceIte, Nat.reduceAdd, Nat.reduceMul, Value.cells, Value.oneCell', eq_self, ne_eq, Int.reduceToNat, Int.reduceEq, Int.reduceLT, Int.reduceLE, Int.reduceNeg, if_true, if_false, reduceCtorEq, Nat.reduceSub, storeV_ptr, slcV_slice, ↓mwD, mwU]
        exact ⟨by simp [tailI, h4, h3], hxx.trans hx2⟩

theorem refTail_c (k : Int) (a t : Value) (A T : List Int) (w : World) (hA : SlI w a A) (hT : SlI w t T) :
    Rets Go.Proofs.Try.prog 16 #[.agg #[.int .i64 k, a, t]] w fun r w' => r = .tuple #[.int .i64 (if validB k A T = true then tailI k A T else 0), .int .i64 (if validB k A T = true then 0 else 1)] ∧ Ext w w' := by
  obtain ⟨pa, ca, rfl, _, _⟩ := hA.shape
  obtain ⟨pt, ct, rfl, htl, htc⟩ := hT.shape
  have hx : Ext w (w.alloc (.cells #[.int .i64 k, .slice pa A.length ca, .slice pt T.length ct] 24)) := Ext.alloc _ _
  refine en16 ?_
  simp -dsimp -implicitDefEqProofs only [m16, sF16, Nat.reduceEqDiff, ↓reduceIte, Nat.reduceAdd, Nat.reduceMul, Value.cells, Value.oneCell', eq_self, ne_eq, Int.reduceToNat, Int.reduceEq, Int.reduceLT, Int.reduceLE, Int.reduceNeg, if_true, if_false, reduceCtorEq, Nat.reduceSub, storeV_ptr, slcV_slice, ↓mwD, mwU]
  refine (refValid_c k _ _ A T _ (hA.ext hx) (hT.ext hx)).use ?_
  rintro r w1 ⟨rfl, hx1⟩
  have hxx := hx.trans hx1
  have c0 : w1.cell? ⟨w.heap.size, 0, none⟩ = some (.int .i64 k) := box_cell hx1 rfl
  have c1 : w1.cell? ⟨w.heap.size, 1, none⟩ = some (.slice pa A.length ca) := box_cell hx1 rfl
  have c2 : w1.cell? ⟨w.heap.size, 2, none⟩ = some (.slice pt T.length ct) := box_cell hx1 rfl
  have htl' : (T.length : Int) ≤ 9223372036854775807 := by unfold maxLen at htc; omega
  cases hv : validB k A T
  · simp -dsimp -implicitDefEqProofs only [m16, sF16, Nat.reduceEqDiff, ↓reduceIte, Nat.reduceAdd, Nat.reduceMul, Value.cells, Value.oneCell', eq_self, ne_eq, Int.reduceToNat, Int.reduceEq, Int.reduceLT, Int.reduceLE, Int.reduceNeg, if_true, if_false, reduceCtorEq, Nat.reduceSub, storeV_ptr, slcV_slice, ↓mwD, mwU]
    first | exact hxx | exact ⟨rfl, hxx⟩
  · simp -dsimp -implicitDefEqProofs only [c0, c1, c2, m16, sF16, Nat.reduceEqDiff, ↓reduceIte, Nat.reduceAdd, Nat.reduceMul, Value.cells, Value.oneCell', eq_self, ne_eq, Int.reduceToNat, Int.reduceEq, Int.reduceLT, Int.reduceLE, Int.reduceNeg, if_true, if_false, reduceCtorEq, Nat.reduceSub, storeV_ptr, slcV_slice, ↓mwD, mwU]
    have hs := valid_shape hv
    refine iteW_dec (fun h4 => ?_) (fun h4 => ?_)
    · simp -dsimp -implicitDefEqProofs only [c0, c1, c2, m16, sF16, Nat.reduceEqDiff, ↓reduceIte, Nat.reduceAdd, Nat.reduceMul, Value.cells, Value.oneCell', eq_self, ne_eq, Int.reduceToNat, Int.reduceEq, Int.reduceLT, Int.reduceLE, Int.reduceNeg, if_true, if_false, reduceCtorEq, Nat.reduceSub, storeV_ptr, slcV_slice, ↓mwD, mwU]
      simp -dsimp (disch := omega) only [w64, Int.tdiv_eq_ediv_of_nonneg, Int.tmod_eq_emod_of_nonneg]
      exact ⟨by simp [tailI, h4], hxx⟩
    · simp -dsimp -implicitDefEqProofs only [c0, c1, c2, h4, m16, sF16, Nat.reduceEqDiff, ↓reduceIte, Nat.reduceAdd, Nat.reduceMul, Value.cells, Value.oneCell', eq_self, ne_eq, Int.reduceToNat, Int.reduceEq, Int.reduceLT, Int.reduceLE, Int.reduceNeg, if_true, if_false, reduceCtorEq, Nat.reduceSub, storeV_ptr, slcV_slice, ↓mwD, mwU]
      refine iteW_dec (fun h3 => ?_) (fun h3 => ?_)
      · subst h3
        obtain ⟨a0, b0, rfl⟩ : ∃ a0 b0, A = [a0, b0] := by cases hs; exact ⟨_, _, rfl⟩
        obtain ⟨b, o, cap, hv', hc⟩ := hA.some (by simp)
        simp only [List.length_cons, List.length_nil, Nat.zero_add, Nat.reduceAdd] at hv' c1
        cases hv'
        have d1 := hxx.cell (hc 1 b0 rfl)
        simp -dsimp -implicitDefEqProofs only [c0, c1, c2, d1, h4, m16, sF16, Nat.reduceEqDiff, ↓reduceIte, Nat.reduceAdd, Nat.reduceMul, Value.cells, Value.oneCell', eq_self, ne_eq, Int.reduceToNat, Int.reduceEq, Int.reduceLT, Int.reduceLE, Int.reduceNeg, if_true, if_false, reduceCtorEq, Nat.reduceSub, storeV_ptr, slcV_slice, ↓mwD, mwU]
        refine iteW_dec (fun hb => ?_) (fun hb => ?_)
        · subst hb
          simp -dsimp -implicitDefEqProofs only [c0, c1, c2, d1, h4, m16, sF16, Nat.reduceEqDiff, ↓reduceIte, Nat.reduceAdd, Nat.reduceMul, Value.cells, Value.oneCell', eq_self, ne_eq, Int.reduceToNat, Int.reduceEq, Int.reduceLT, Int.reduceLE, Int.reduceNeg, if_true, if_false, reduceCtorEq, Nat.reduceSub, storeV_ptr, slcV_slice, ↓mwD, mwU]
          refine (refLatency_c 3 _ _ [a0, 0] T.length ct pt _ (hA.ext hxx) rfl (by intro h; simp at h) (by intro h; simp at h)).use ?_
          rintro r w2 ⟨rfl, hx2⟩
          simp -dsimp -implicitDefEqProofs only [m16, sF16, Nat.reduceEqDiff, ↓reduceIte, Nat.reduceAdd, Nat.reduceMul, Value.cells, Value.oneCell', eq_self, ne_eq, Int.reduceToNat, Int.reduceEq, Int.reduceLT, Int.reduceLE, Int.reduceNeg, if_true, if_false, reduceCtorEq, Nat.reduceSub, storeV_ptr, slcV_slice, ↓mwD, mwU]
          first | exact hxx.trans hx2 | exact ⟨rfl, hxx.trans hx2⟩
        · simp -dsimp -implicitDefEqProofs only [c0, c1, c2, d1, h4, hb, m16, sF16, Nat.reduceEqDiff, ↓reduceIte, Nat.reduceAdd, Nat.reduceMul, Value.cells, Value.oneCell', eq_self, ne_eq, Int.reduceToNat, Int.reduceEq, Int.reduceLT, Int.reduceLE, Int.reduceNeg, if_true, if_false, reduceCtorEq, Nat.reduceSub, storeV_ptr, slcV_slice, ↓mwD, mwU]
          exact ⟨by simp [tailI, hb], hxx⟩
      · simp -dsimp -implicitDefEqProofs only [c0, c1, c2, h4, h3, m16, sF16, Nat.reduceEqDiff, ↓reduceIte, Nat.reduceAdd, Nat.reduceMul, Value.cells, Value.oneCell', eq_self, ne_eq, Int.reduceToNat, Int.reduceEq, Int.reduceLT, Int.reduceLE, Int.reduceNeg, if_true, if_false, reduceCtorEq, Nat.reduceSub, storeV_ptr, slcV_slice, ↓mwD, mwU]
        refine (refLatency_c k _ _ A T.length ct pt _ (hA.ext hxx) rfl (by rintro rfl; cases hs; simp) (by rintro rfl; cases hs; simp)).use ?_
        rintro r w2 ⟨rfl, hx2⟩
        simp -dsimp -implicitDefEqProofs only [m16, sF16, Nat.reduceEqDiff, ↓reduceIte, Nat.reduceAdd, Nat.reduceMul, Value.cells, Value.oneCell', eq_self, ne_eq, Int.reduceToNat, Int.reduceEq, Int.reduceLT, Int.reduceLE, Int.reduceNeg, if_true, if_false, reduceCtorEq, Nat.reduceSub, storeV_ptr, slcV_slice, ↓mwD, mwU]
        exact ⟨by simp [tailI, h4, h3], hxx.trans hx2⟩

end Go.Proofs.Ytefcfnmmpnjjjaa

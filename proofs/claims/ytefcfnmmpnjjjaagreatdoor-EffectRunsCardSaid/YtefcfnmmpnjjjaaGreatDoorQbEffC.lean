/- Contracts: the ranges of a kind; Valid of the program. -/
import Derived.Test.YtefcfnmmpnjjjaaGreatDoorQbEffB
namespace Go.Proofs.YtefcfnmmpnjjjaaGreatDoor
open Go.RowKit
set_option linter.unusedSimpArgs false

theorem bv2 (a b : Int) : buildV Go.Proofs.Tryz.prog 133 [(0, .int .i64 a), (1, .int .i64 b)] = some (.agg #[.int .i64 a, .int .i64 b]) := by kernel_rfl
theorem bs1 (a b : Int) : buildS Go.Proofs.Tryz.prog 132 1 [(0, .agg #[.int .i64 a, .int .i64 b])] = some (133, #[.int .i64 a, .int .i64 b]) := by kernel_rfl
theorem bs2 (a b a1 b1 : Int) : buildS Go.Proofs.Tryz.prog 132 2 [(0, .agg #[.int .i64 a, .int .i64 b]), (1, .agg #[.int .i64 a1, .int .i64 b1])] = some (133, #[.int .i64 a, .int .i64 b, .int .i64 a1, .int .i64 b1]) := by kernel_rfl
theorem bs4 (a b a1 b1 a2 b2 a3 b3 : Int) : buildS Go.Proofs.Tryz.prog 132 4 [(0, .agg #[.int .i64 a, .int .i64 b]), (1, .agg #[.int .i64 a1, .int .i64 b1]), (2, .agg #[.int .i64 a2, .int .i64 b2]), (3, .agg #[.int .i64 a3, .int .i64 b3])] =
    some (133, #[.int .i64 a, .int .i64 b, .int .i64 a1, .int .i64 b1, .int .i64 a2, .int .i64 b2, .int .i64 a3, .int .i64 b3]) := by kernel_rfl
theorem bv8 (p1 p2 p3 p5 p6 p7 : Option Addr) (n1 n2 n3 n5 n6 n7 c1 c2 c3 c5 c6 c7 : Nat) : buildV Go.Proofs.Tryz.prog 174 [(1, .slice p1 n1 c1), (2, .slice p2 n2 c2), (3, .slice p3 n3 c3), (5, .slice p5 n5 c5), (6, .slice p6 n6 c6), (7, .slice p7 n7 c7)] =
    some (.agg #[.slice none 0 0, .slice p1 n1 c1, .slice p2 n2 c2, .slice p3 n3 c3, .slice none 0 0, .slice p5 n5 c5, .slice p6 n6 c6, .slice p7 n7 c7]) := by kernel_rfl

theorem ranges_c (k : Int) (h1 : 1 ≤ k) (h7 : k ≤ 7) (w : World) : Rets Go.Proofs.Tryz.prog 73 #[.int .i64 k] w fun r w' => Ext w w' ∧ SlP w' r (rangesOf k) := by
  refine en73 ?_
  simp -dsimp -implicitDefEqProofs only [bv2, bs1, bs2, bs4, m73, sF73, Nat.reduceEqDiff, ↓reduceIte, Nat.reduceAdd, Nat.reduceMul, Value.cells, Value.oneCell', eq_self, ne_eq, Int.reduceToNat, Int.reduceEq, Int.reduceLT, Int.reduceLE, Int.reduceNeg, if_true, if_false, reduceCtorEq, Nat.reduceSub, storeV_ptr, slcV_slice, ↓mwD, mwU]
  have s0 := SlP.new w comp 133 (by simp [comp, maxLen])
  have s1 := SlP.new (w.alloc (.cells (cells2 comp).toArray 133)) [(0, 655360)] 133 (by simp [comp, maxLen])
  have s2 := SlP.new ((w.alloc (.cells (cells2 comp).toArray 133)).alloc (.cells (cells2 [(0, 655360)]).toArray 133)) [(0, 4096)] 133 (by simp [comp, maxLen])
  have s3 := SlP.new (((w.alloc (.cells (cells2 comp).toArray 133)).alloc (.cells (cells2 [(0, 655360)]).toArray 133)).alloc (.cells (cells2 [(0, 4096)]).toArray 133)) [(1, 4096), (-65536, 65536)] 133 (by simp [comp, maxLen])
  have s6 := SlP.new ((((w.alloc (.cells (cells2 comp).toArray 133)).alloc (.cells (cells2 [(0, 655360)]).toArray 133)).alloc (.cells (cells2 [(0, 4096)]).toArray 133)).alloc (.cells (cells2 [(1, 4096), (-65536, 65536)]).toArray 133)) [(0, 8388607), (0, 4096)] 133 (by simp [comp, maxLen])
  have hcomp : comp = [(0, 8388607), (65536, 6553600), (1, 65536), (1, 65536)] := rfl
  simp only [cells2, comp, List.length_cons, List.length_nil, Nat.zero_add, Nat.reduceAdd] at s0 s1 s2 s3 s6
  refine (CloneP_c _ _ _ (s0.ext (by (repeat (first | with_reducible exact Ext.refl _ | with_reducible assumption | refine Ext.alloc' ?_ _ | refine Ext.drew' ?_)))) (by simp) (by simp)).use ?_
  rintro v w1 ⟨hx1, hown⟩
  have hw : Ext w w1 := Ext.trans (by (repeat (first | with_reducible exact Ext.refl _ | with_reducible assumption | refine Ext.alloc' ?_ _ | refine Ext.drew' ?_))) hx1
  simp -dsimp -implicitDefEqProofs only [bv2, bs1, bs2, bs4, m73, sF73, Nat.reduceEqDiff, ↓reduceIte, Nat.reduceAdd, Nat.reduceMul, Value.cells, Value.oneCell', eq_self, ne_eq, Int.reduceToNat, Int.reduceEq, Int.reduceLT, Int.reduceLE, Int.reduceNeg, if_true, if_false, reduceCtorEq, Nat.reduceSub, storeV_ptr, slcV_slice, ↓mwD, mwU]
  obtain ⟨v2, w2, ha, hown2, hg⟩ := append_own (P := Go.Proofs.Tryz.prog) (w := w1.alloc (.cells #[.int .i64 0, .int .i64 512] 133)) (t := 132) (ty := 132) (ats := [132, 132]) rfl telem_132 tok_133 tzero_133 (by rw [tsz_133]; rfl) (by rw [tsz_133]; omega)
      (by rw [tsz_133]; exact World.ownsRow.alloc hown _) (a := ⟨w1.heap.size, 0, none⟩) (m := 1) (c := 1) (news := [.int .i64 0, .int .i64 512]) (by rw [tsz_133]; rfl)
      (fun j u hj => by rw [Addr.add_lit, World.cell?_alloc_new]; simpa using hj) (by intro u hu; simp at hu; rcases hu with rfl | rfl <;> rfl) (by unfold maxLen; simp) (by rw [tby_133]; simp) (by have := hx1.le; simp at this ⊢; omega)
  refine appB.mk ha ?_
  have hw2 : Ext w w2 := (hw.alloc' _).grown hg fun k hk => Nat.le_trans (by simp; omega) (Own.ge hown k hk)
  have hx2 := (hx1.alloc' (.cells #[.int .i64 0, .int .i64 512] 133)).grown hg fun k hk => Own.ge hown k hk
  have s7 : SlP w2 v2 (comp ++ [(0, 512)]) := own_SlP (by rw [tsz_133] at hown2; exact hown2)
  obtain ⟨p7, c7, rfl, _, _⟩ := s7.shape
  simp -dsimp -implicitDefEqProofs only [bv2, bs1, bs2, bs4, bv8, m73, sF73, Nat.reduceEqDiff, ↓reduceIte, Nat.reduceAdd, Nat.reduceMul, Value.cells, Value.oneCell', eq_self, ne_eq, Int.reduceToNat, Int.reduceEq, Int.reduceLT, Int.reduceLE, Int.reduceNeg, if_true, if_false, reduceCtorEq, Nat.reduceSub, storeV_ptr, slcV_slice, ↓mwD, mwU]
  refine ⟨by omega, ?_⟩
  have hk : k = 1 ∨ k = 2 ∨ k = 3 ∨ k = 4 ∨ k = 5 ∨ k = 6 ∨ k = 7 := by omega
  rcases hk with rfl | rfl | rfl | rfl | rfl | rfl | rfl
  · simp -dsimp -implicitDefEqProofs only [m73, sF73, Nat.reduceEqDiff, ↓reduceIte, Nat.reduceAdd, Nat.reduceMul, Value.cells, Value.oneCell', eq_self, ne_eq, Int.reduceToNat, Int.reduceEq, Int.reduceLT, Int.reduceLE, Int.reduceNeg, if_true, if_false, reduceCtorEq, Nat.reduceSub, storeV_ptr, slcV_slice, ↓mwD, mwU]
    exact ⟨hw2, s1.ext (Ext.trans (by (repeat (first | with_reducible exact Ext.refl _ | with_reducible assumption | refine Ext.alloc' ?_ _ | refine Ext.drew' ?_))) hx2)⟩
  · simp -dsimp -implicitDefEqProofs only [m73, sF73, Nat.reduceEqDiff, ↓reduceIte, Nat.reduceAdd, Nat.reduceMul, Value.cells, Value.oneCell', eq_self, ne_eq, Int.reduceToNat, Int.reduceEq, Int.reduceLT, Int.reduceLE, Int.reduceNeg, if_true, if_false, reduceCtorEq, Nat.reduceSub, storeV_ptr, slcV_slice, ↓mwD, mwU]
    exact ⟨hw2, s2.ext (Ext.trans (by (repeat (first | with_reducible exact Ext.refl _ | with_reducible assumption | refine Ext.alloc' ?_ _ | refine Ext.drew' ?_))) hx2)⟩
  · simp -dsimp -implicitDefEqProofs only [m73, sF73, Nat.reduceEqDiff, ↓reduceIte, Nat.reduceAdd, Nat.reduceMul, Value.cells, Value.oneCell', eq_self, ne_eq, Int.reduceToNat, Int.reduceEq, Int.reduceLT, Int.reduceLE, Int.reduceNeg, if_true, if_false, reduceCtorEq, Nat.reduceSub, storeV_ptr, slcV_slice, ↓mwD, mwU]
    exact ⟨hw2, s3.ext (Ext.trans (by (repeat (first | with_reducible exact Ext.refl _ | with_reducible assumption | refine Ext.alloc' ?_ _ | refine Ext.drew' ?_))) hx2)⟩
  · simp -dsimp -implicitDefEqProofs only [m73, sF73, Nat.reduceEqDiff, ↓reduceIte, Nat.reduceAdd, Nat.reduceMul, Value.cells, Value.oneCell', eq_self, ne_eq, Int.reduceToNat, Int.reduceEq, Int.reduceLT, Int.reduceLE, Int.reduceNeg, if_true, if_false, reduceCtorEq, Nat.reduceSub, storeV_ptr, slcV_slice, ↓mwD, mwU]
    exact ⟨hw2, .inl ⟨rfl, rfl⟩⟩
  · simp -dsimp -implicitDefEqProofs only [m73, sF73, Nat.reduceEqDiff, ↓reduceIte, Nat.reduceAdd, Nat.reduceMul, Value.cells, Value.oneCell', eq_self, ne_eq, Int.reduceToNat, Int.reduceEq, Int.reduceLT, Int.reduceLE, Int.reduceNeg, if_true, if_false, reduceCtorEq, Nat.reduceSub, storeV_ptr, slcV_slice, ↓mwD, mwU]
    exact ⟨hw2, s0.ext (Ext.trans (by (repeat (first | with_reducible exact Ext.refl _ | with_reducible assumption | refine Ext.alloc' ?_ _ | refine Ext.drew' ?_))) hx2)⟩
  · simp -dsimp -implicitDefEqProofs only [m73, sF73, Nat.reduceEqDiff, ↓reduceIte, Nat.reduceAdd, Nat.reduceMul, Value.cells, Value.oneCell', eq_self, ne_eq, Int.reduceToNat, Int.reduceEq, Int.reduceLT, Int.reduceLE, Int.reduceNeg, if_true, if_false, reduceCtorEq, Nat.reduceSub, storeV_ptr, slcV_slice, ↓mwD, mwU]
    exact ⟨hw2, s6.ext (Ext.trans (by (repeat (first | with_reducible exact Ext.refl _ | with_reducible assumption | refine Ext.alloc' ?_ _ | refine Ext.drew' ?_))) hx2)⟩
  · simp -dsimp -implicitDefEqProofs only [m73, sF73, Nat.reduceEqDiff, ↓reduceIte, Nat.reduceAdd, Nat.reduceMul, Value.cells, Value.oneCell', eq_self, ne_eq, Int.reduceToNat, Int.reduceEq, Int.reduceLT, Int.reduceLE, Int.reduceNeg, if_true, if_false, reduceCtorEq, Nat.reduceSub, storeV_ptr, slcV_slice, ↓mwD, mwU]
    exact ⟨hw2, s7⟩

/-- The program's Valid is 31.1's. -/
theorem Valid_c (k : Int) (a t : Value) (A T : List Int) (w : World) (hA : SlI w a A) (hT : SlI w t T) :
    Rets Go.Proofs.Tryz.prog 35 #[.agg #[.int .i64 k, a, t]] w fun r w' => r = .bool (validB k A T) ∧ Ext w w' := by
  obtain ⟨pa, ca, rfl, _, _⟩ := hA.shape
  obtain ⟨pt, ct, rfl, _, _⟩ := hT.shape
  refine en35 ?_
  simp -dsimp -implicitDefEqProofs only [m35, sF35, Nat.reduceEqDiff, ↓reduceIte, Nat.reduceAdd, Nat.reduceMul, Value.cells, Value.oneCell', eq_self, ne_eq, Int.reduceToNat, Int.reduceEq, Int.reduceLT, Int.reduceLE, Int.reduceNeg, if_true, if_false, reduceCtorEq, Nat.reduceSub, storeV_ptr, slcV_slice, ↓mwD, mwU]
  refine (within_c _ _ _ _).use ?_
  rintro r w' ⟨rfl, rfl⟩
  simp -dsimp -implicitDefEqProofs only [m35, sF35, Nat.reduceEqDiff, ↓reduceIte, Nat.reduceAdd, Nat.reduceMul, Value.cells, Value.oneCell', eq_self, ne_eq, Int.reduceToNat, Int.reduceEq, Int.reduceLT, Int.reduceLE, Int.reduceNeg, if_true, if_false, reduceCtorEq, Nat.reduceSub, storeV_ptr, slcV_slice, ↓mwD, mwU]
  have hx : Ext w (w.alloc (.cells #[.int .i64 k, .slice pa A.length ca, .slice pt T.length ct] 24)) := Ext.alloc _ _
  -- the last statement: the Args are held against the ranges
  have key : 1 ≤ k → k ≤ 7 → (if k = 4 then tapsB T else decide (T = [])) = true → validB k A T = eqfB A (rangesOf k) := fun h1 h7 h => by
    simp only [validB, wtn, h1, h7, h, decide_true, Bool.true_and]
  refine iteW_intro (fun hw => ?_) (fun hw => ?_)
  · have h1 : 1 ≤ k ∧ k ≤ 7 := by simpa [wtn] using hw
    simp -dsimp -implicitDefEqProofs only [hw, m35, sF35, Nat.reduceEqDiff, ↓reduceIte, Nat.reduceAdd, Nat.reduceMul, Value.cells, Value.oneCell', eq_self, ne_eq, Int.reduceToNat, Int.reduceEq, Int.reduceLT, Int.reduceLE, Int.reduceNeg, if_true, if_false, reduceCtorEq, Nat.reduceSub, storeV_ptr, slcV_slice, ↓mwD, mwU]
    refine iteW_dec (fun h4 => ?_) (fun h4 => ?_)
    · subst h4
      simp -dsimp -implicitDefEqProofs only [hw, m35, sF35, Nat.reduceEqDiff, ↓reduceIte, Nat.reduceAdd, Nat.reduceMul, Value.cells, Value.oneCell', eq_self, ne_eq, Int.reduceToNat, Int.reduceEq, Int.reduceLT, Int.reduceLE, Int.reduceNeg, if_true, if_false, reduceCtorEq, Nat.reduceSub, storeV_ptr, slcV_slice, ↓mwD, mwU]
      refine (taps_c _ T _ (hT.ext hx)).use ?_
      rintro r w' ⟨rfl, rfl⟩
      cases ht : tapsB T
      · simp -dsimp -implicitDefEqProofs only [hw, m35, sF35, Nat.reduceEqDiff, ↓reduceIte, Nat.reduceAdd, Nat.reduceMul, Value.cells, Value.oneCell', eq_self, ne_eq, Int.reduceToNat, Int.reduceEq, Int.reduceLT, Int.reduceLE, Int.reduceNeg, if_true, if_false, reduceCtorEq, Nat.reduceSub, storeV_ptr, slcV_slice, ↓mwD, mwU]
        exact ⟨by simp [validB, ht], hx⟩
      · simp -dsimp -implicitDefEqProofs only [hw, m35, sF35, Nat.reduceEqDiff, ↓reduceIte, Nat.reduceAdd, Nat.reduceMul, Value.cells, Value.oneCell', eq_self, ne_eq, Int.reduceToNat, Int.reduceEq, Int.reduceLT, Int.reduceLE, Int.reduceNeg, if_true, if_false, reduceCtorEq, Nat.reduceSub, storeV_ptr, slcV_slice, ↓mwD, mwU]
        refine mwpB_drawE ?_
        simp -dsimp -implicitDefEqProofs only [m35, sF35, Nat.reduceEqDiff, ↓reduceIte, Nat.reduceAdd, Nat.reduceMul, Value.cells, Value.oneCell', eq_self, ne_eq, Int.reduceToNat, Int.reduceEq, Int.reduceLT, Int.reduceLE, Int.reduceNeg, if_true, if_false, reduceCtorEq, Nat.reduceSub, storeV_ptr, slcV_slice, ↓mwD, mwU]
        refine (ranges_c _ (by omega) (by omega) _).use ?_
        rintro r w1 ⟨hx1, hr⟩
        simp -dsimp -implicitDefEqProofs only [hx1, m35, sF35, Nat.reduceEqDiff, ↓reduceIte, Nat.reduceAdd, Nat.reduceMul, Value.cells, Value.oneCell', eq_self, ne_eq, Int.reduceToNat, Int.reduceEq, Int.reduceLT, Int.reduceLE, Int.reduceNeg, if_true, if_false, reduceCtorEq, Nat.reduceSub, storeV_ptr, slcV_slice, ↓mwD, mwU]
        refine (EqualFunc_c _ _ A _ _ (hA.ext (hx.drew'.trans hx1)) hr).use ?_
        rintro r w2 ⟨rfl, hx2⟩
        simp -dsimp -implicitDefEqProofs only [m35, sF35, Nat.reduceEqDiff, ↓reduceIte, Nat.reduceAdd, Nat.reduceMul, Value.cells, Value.oneCell', eq_self, ne_eq, Int.reduceToNat, Int.reduceEq, Int.reduceLT, Int.reduceLE, Int.reduceNeg, if_true, if_false, reduceCtorEq, Nat.reduceSub, storeV_ptr, slcV_slice, ↓mwD, mwU]
        exact ⟨hx1.trans hx2, by rw [key (by omega) (by omega) (by simp [ht])], (hx.drew'.trans hx1).trans hx2⟩
    · simp -dsimp -implicitDefEqProofs only [hw, h4, m35, sF35, Nat.reduceEqDiff, ↓reduceIte, Nat.reduceAdd, Nat.reduceMul, Value.cells, Value.oneCell', eq_self, ne_eq, Int.reduceToNat, Int.reduceEq, Int.reduceLT, Int.reduceLE, Int.reduceNeg, if_true, if_false, reduceCtorEq, Nat.reduceSub, storeV_ptr, slcV_slice, ↓mwD, mwU]
      refine iteW_dec (fun ht => ?_) (fun ht => ?_)
      · simp -dsimp -implicitDefEqProofs only [hw, h4, ht, m35, sF35, Nat.reduceEqDiff, ↓reduceIte, Nat.reduceAdd, Nat.reduceMul, Value.cells, Value.oneCell', eq_self, ne_eq, Int.reduceToNat, Int.reduceEq, Int.reduceLT, Int.reduceLE, Int.reduceNeg, if_true, if_false, reduceCtorEq, Nat.reduceSub, storeV_ptr, slcV_slice, ↓mwD, mwU]
        have : ¬ T = [] := by intro h; rw [h] at ht; simp at ht
        exact ⟨by simp [validB, h4, this], hx⟩
      · have hT0 : T = [] := by cases T with
          | nil => rfl
          | cons a l => exact absurd (by simp) ht
        simp -dsimp -implicitDefEqProofs only [hw, h4, ht, m35, sF35, Nat.reduceEqDiff, ↓reduceIte, Nat.reduceAdd, Nat.reduceMul, Value.cells, Value.oneCell', eq_self, ne_eq, Int.reduceToNat, Int.reduceEq, Int.reduceLT, Int.reduceLE, Int.reduceNeg, if_true, if_false, reduceCtorEq, Nat.reduceSub, storeV_ptr, slcV_slice, ↓mwD, mwU]
        refine mwpB_drawE ?_
        simp -dsimp -implicitDefEqProofs only [m35, sF35, Nat.reduceEqDiff, ↓reduceIte, Nat.reduceAdd, Nat.reduceMul, Value.cells, Value.oneCell', eq_self, ne_eq, Int.reduceToNat, Int.reduceEq, Int.reduceLT, Int.reduceLE, Int.reduceNeg, if_true, if_false, reduceCtorEq, Nat.reduceSub, storeV_ptr, slcV_slice, ↓mwD, mwU]
        refine (ranges_c _ h1.1 h1.2 _).use ?_
        rintro r w1 ⟨hx1, hr⟩
        simp -dsimp -implicitDefEqProofs only [hx1, m35, sF35, Nat.reduceEqDiff, ↓reduceIte, Nat.reduceAdd, Nat.reduceMul, Value.cells, Value.oneCell', eq_self, ne_eq, Int.reduceToNat, Int.reduceEq, Int.reduceLT, Int.reduceLE, Int.reduceNeg, if_true, if_false, reduceCtorEq, Nat.reduceSub, storeV_ptr, slcV_slice, ↓mwD, mwU]
        refine (EqualFunc_c _ _ A _ _ (hA.ext (hx.drew'.trans hx1)) hr).use ?_
        rintro r w2 ⟨rfl, hx2⟩
        simp -dsimp -implicitDefEqProofs only [m35, sF35, Nat.reduceEqDiff, ↓reduceIte, Nat.reduceAdd, Nat.reduceMul, Value.cells, Value.oneCell', eq_self, ne_eq, Int.reduceToNat, Int.reduceEq, Int.reduceLT, Int.reduceLE, Int.reduceNeg, if_true, if_false, reduceCtorEq, Nat.reduceSub, storeV_ptr, slcV_slice, ↓mwD, mwU]
        exact ⟨hx1.trans hx2, by rw [key h1.1 h1.2 (by simp [h4, hT0])], (hx.drew'.trans hx1).trans hx2⟩
  · simp -dsimp -implicitDefEqProofs only [hw, m35, sF35, Nat.reduceEqDiff, ↓reduceIte, Nat.reduceAdd, Nat.reduceMul, Value.cells, Value.oneCell', eq_self, ne_eq, Int.reduceToNat, Int.reduceEq, Int.reduceLT, Int.reduceLE, Int.reduceNeg, if_true, if_false, reduceCtorEq, Nat.reduceSub, storeV_ptr, slcV_slice, ↓mwD, mwU]
    exact ⟨by simp [validB, hw], hx⟩

end Go.Proofs.YtefcfnmmpnjjjaaGreatDoor

/- EffectNothing: what is nil. -/
import Derived.Test.YtefcfnmmpnjjjaaGreatDoorEffK
namespace Go.Proofs.YtefcfnmmpnjjjaaGreatDoor
open Go.RowKit
set_option linter.unusedSimpArgs false

theorem binV_eqlS {P : Program} {t : TypeId} (a : ByteArray) : binV P t .eql (.string a) (.string a) = some (.bool true) := by show some (Value.bool (a.toList == a.toList)) = _; rw [beq_self_eq_true]
theorem w00 : IntKind.i64.wrap ((0 : Int) + 0) = 0 := by rw [w64 (by omega) (by omega)]; rfl
theorem bv_eff0 : buildV Go.Proofs.Tryz.prog 24 [] = some (.agg #[.int .i64 0, .slice none 0 0, .slice none 0 0]) := by kernel_rfl
theorem nUR (l : Value) (w : World) : Rets Go.Proofs.Tryz.prog 10 #[.pointer none, l] w fun r w' => r = .tuple #[.slice none 0 0, .int .i64 1] ∧ Ext w w' := by
  refine en10 ?_
  simp -dsimp -implicitDefEqProofs only [m10, sF10, Nat.reduceEqDiff, ↓reduceIte, Nat.reduceAdd, Nat.reduceMul, Value.cells, Value.oneCell', eq_self, ne_eq, Int.reduceToNat, Int.reduceEq, Int.reduceLT, Int.reduceLE, Int.reduceNeg, if_true, if_false, reduceCtorEq, Nat.reduceSub, storeV_ptr, slcV_slice, ↓mwD, mwU]
  first | exact Ext.refl _ | exact Ext.alloc _ _
theorem nPR (l : Value) (w : World) : Rets Go.Proofs.Tryz.prog 33 #[.pointer none, l] w fun r w' => r = .tuple #[.slice none 0 0, .int .i64 1] ∧ Ext w w' := by
  refine en33 ?_
  simp -dsimp -implicitDefEqProofs only [m33, sF33, Nat.reduceEqDiff, ↓reduceIte, Nat.reduceAdd, Nat.reduceMul, Value.cells, Value.oneCell', eq_self, ne_eq, Int.reduceToNat, Int.reduceEq, Int.reduceLT, Int.reduceLE, Int.reduceNeg, if_true, if_false, reduceCtorEq, Nat.reduceSub, storeV_ptr, slcV_slice, ↓mwD, mwU]
  first | exact Ext.refl _ | exact Ext.alloc _ _
theorem nHR (l : Value) (w : World) : Rets Go.Proofs.Tryz.prog 22 #[.pointer none, l] w fun r w' => r = .tuple #[.slice none 0 0, .int .i64 1] ∧ Ext w w' := by
  refine en22 ?_
  simp -dsimp -implicitDefEqProofs only [m22, sF22, Nat.reduceEqDiff, ↓reduceIte, Nat.reduceAdd, Nat.reduceMul, Value.cells, Value.oneCell', eq_self, ne_eq, Int.reduceToNat, Int.reduceEq, Int.reduceLT, Int.reduceLE, Int.reduceNeg, if_true, if_false, reduceCtorEq, Nat.reduceSub, storeV_ptr, slcV_slice, ↓mwD, mwU]
  first | exact Ext.refl _ | exact Ext.alloc _ _
theorem nHF (n : Value) (w : World) : Rets Go.Proofs.Tryz.prog 26 #[.pointer none, n] w fun r w' => r = .tuple #[.slice none 0 0, .int .i64 1] ∧ Ext w w' := by
  refine en26 ?_
  simp -dsimp -implicitDefEqProofs only [m26, sF26, Nat.reduceEqDiff, ↓reduceIte, Nat.reduceAdd, Nat.reduceMul, Value.cells, Value.oneCell', eq_self, ne_eq, Int.reduceToNat, Int.reduceEq, Int.reduceLT, Int.reduceLE, Int.reduceNeg, if_true, if_false, reduceCtorEq, Nat.reduceSub, storeV_ptr, slcV_slice, ↓mwD, mwU]
  first | exact Ext.refl _ | exact Ext.alloc _ _
theorem nUZ  (w : World) : Rets Go.Proofs.Tryz.prog 18 #[.pointer none] w fun r w' => r = .int .i64 1 ∧ Ext w w' := by
  refine en18 ?_
  simp -dsimp -implicitDefEqProofs only [m18, sF18, Nat.reduceEqDiff, ↓reduceIte, Nat.reduceAdd, Nat.reduceMul, Value.cells, Value.oneCell', eq_self, ne_eq, Int.reduceToNat, Int.reduceEq, Int.reduceLT, Int.reduceLE, Int.reduceNeg, if_true, if_false, reduceCtorEq, Nat.reduceSub, storeV_ptr, slcV_slice, ↓mwD, mwU]
  first | exact Ext.refl _ | exact Ext.alloc _ _
theorem nUS  (w : World) : Rets Go.Proofs.Tryz.prog 11 #[.pointer none] w fun r w' => r = .string ⟨#[]⟩ ∧ Ext w w' := by
  refine en11 ?_
  simp -dsimp -implicitDefEqProofs only [m11, sF11, Nat.reduceEqDiff, ↓reduceIte, Nat.reduceAdd, Nat.reduceMul, Value.cells, Value.oneCell', eq_self, ne_eq, Int.reduceToNat, Int.reduceEq, Int.reduceLT, Int.reduceLE, Int.reduceNeg, if_true, if_false, reduceCtorEq, Nat.reduceSub, storeV_ptr, slcV_slice, ↓mwD, mwU]
  first | exact Ext.refl _ | exact Ext.alloc _ _
theorem nUE (s : Value) (w : World) : Rets Go.Proofs.Tryz.prog 12 #[.pointer none, s] w fun r w' => r = .int .i64 1 ∧ Ext w w' := by
  refine en12 ?_
  simp -dsimp -implicitDefEqProofs only [m12, sF12, Nat.reduceEqDiff, ↓reduceIte, Nat.reduceAdd, Nat.reduceMul, Value.cells, Value.oneCell', eq_self, ne_eq, Int.reduceToNat, Int.reduceEq, Int.reduceLT, Int.reduceLE, Int.reduceNeg, if_true, if_false, reduceCtorEq, Nat.reduceSub, storeV_ptr, slcV_slice, ↓mwD, mwU]
  first | exact Ext.refl _ | exact Ext.alloc _ _
theorem nUL  (w : World) : Rets Go.Proofs.Tryz.prog 17 #[.pointer none] w fun r w' => r = .int .i64 0 ∧ Ext w w' := by
  refine en17 ?_
  simp -dsimp -implicitDefEqProofs only [m17, sF17, Nat.reduceEqDiff, ↓reduceIte, Nat.reduceAdd, Nat.reduceMul, Value.cells, Value.oneCell', eq_self, ne_eq, Int.reduceToNat, Int.reduceEq, Int.reduceLT, Int.reduceLE, Int.reduceNeg, if_true, if_false, reduceCtorEq, Nat.reduceSub, storeV_ptr, slcV_slice, ↓mwD, mwU]
  first | exact Ext.refl _ | exact Ext.alloc _ _
theorem nPC  (w : World) : Rets Go.Proofs.Tryz.prog 34 #[.pointer none] w fun r w' => r = .int .i64 0 ∧ Ext w w' := by
  refine en34 ?_
  simp -dsimp -implicitDefEqProofs only [m34, sF34, Nat.reduceEqDiff, ↓reduceIte, Nat.reduceAdd, Nat.reduceMul, Value.cells, Value.oneCell', eq_self, ne_eq, Int.reduceToNat, Int.reduceEq, Int.reduceLT, Int.reduceLE, Int.reduceNeg, if_true, if_false, reduceCtorEq, Nat.reduceSub, storeV_ptr, slcV_slice, ↓mwD, mwU]
  first | exact Ext.refl _ | exact Ext.alloc _ _
theorem nHL  (w : World) : Rets Go.Proofs.Tryz.prog 29 #[.pointer none] w fun r w' => r = .int .i64 0 ∧ Ext w w' := by
  refine en29 ?_
  simp -dsimp -implicitDefEqProofs only [m29, sF29, Nat.reduceEqDiff, ↓reduceIte, Nat.reduceAdd, Nat.reduceMul, Value.cells, Value.oneCell', eq_self, ne_eq, Int.reduceToNat, Int.reduceEq, Int.reduceLT, Int.reduceLE, Int.reduceNeg, if_true, if_false, reduceCtorEq, Nat.reduceSub, storeV_ptr, slcV_slice, ↓mwD, mwU]
  first | exact Ext.refl _ | exact Ext.alloc _ _
theorem nHD  (w : World) : Rets Go.Proofs.Tryz.prog 31 #[.pointer none] w fun r w' => r = .slice none 0 0 ∧ Ext w w' := by
  refine en31 ?_
  simp -dsimp -implicitDefEqProofs only [m31, sF31, Nat.reduceEqDiff, ↓reduceIte, Nat.reduceAdd, Nat.reduceMul, Value.cells, Value.oneCell', eq_self, ne_eq, Int.reduceToNat, Int.reduceEq, Int.reduceLT, Int.reduceLE, Int.reduceNeg, if_true, if_false, reduceCtorEq, Nat.reduceSub, storeV_ptr, slcV_slice, ↓mwD, mwU]
  first | exact Ext.refl _ | exact Ext.alloc _ _
theorem nHC (a b : Value) (w : World) : Rets Go.Proofs.Tryz.prog 24 #[.pointer none, a, b, .agg #[.int .i64 0, .slice none 0 0, .slice none 0 0]] w fun r w' => r = .int .i64 1 ∧ Ext w w' := by
  refine en24 ?_
  simp -dsimp -implicitDefEqProofs only [m24, sF24, Nat.reduceEqDiff, ↓reduceIte, Nat.reduceAdd, Nat.reduceMul, Value.cells, Value.oneCell', eq_self, ne_eq, Int.reduceToNat, Int.reduceEq, Int.reduceLT, Int.reduceLE, Int.reduceNeg, if_true, if_false, reduceCtorEq, Nat.reduceSub, storeV_ptr, slcV_slice, ↓mwD, mwU]
  first | exact Ext.refl _ | exact Ext.alloc _ _
theorem nHS  (w : World) : Rets Go.Proofs.Tryz.prog 28 #[.pointer none] w fun r w' => r = .string ⟨#[]⟩ ∧ Ext w w' := by
  refine en28 ?_
  simp -dsimp -implicitDefEqProofs only [m28, sF28, Nat.reduceEqDiff, ↓reduceIte, Nat.reduceAdd, Nat.reduceMul, Value.cells, Value.oneCell', eq_self, ne_eq, Int.reduceToNat, Int.reduceEq, Int.reduceLT, Int.reduceLE, Int.reduceNeg, if_true, if_false, reduceCtorEq, Nat.reduceSub, storeV_ptr, slcV_slice, ↓mwD, mwU]
  first | exact Ext.refl _ | exact Ext.alloc _ _
theorem nHE (s : Value) (w : World) : Rets Go.Proofs.Tryz.prog 27 #[.pointer none, s] w fun r w' => r = .int .i64 1 ∧ Ext w w' := by
  refine en27 ?_
  simp -dsimp -implicitDefEqProofs only [m27, sF27, Nat.reduceEqDiff, ↓reduceIte, Nat.reduceAdd, Nat.reduceMul, Value.cells, Value.oneCell', eq_self, ne_eq, Int.reduceToNat, Int.reduceEq, Int.reduceLT, Int.reduceLE, Int.reduceNeg, if_true, if_false, reduceCtorEq, Nat.reduceSub, storeV_ptr, slcV_slice, ↓mwD, mwU]
  first | exact Ext.refl _ | exact Ext.alloc _ _

/-- The law tells true. -/
theorem EffectNothing_c (lv sv nv : Value) (w : World) : Rets Go.Proofs.Tryz.prog 6 #[lv, sv, nv] w fun r w' => r = .bool true ∧ Ext w w' := by
  refine en6 ?_
  simp -dsimp -implicitDefEqProofs only [m6, sF6, Nat.reduceEqDiff, ↓reduceIte, Nat.reduceAdd, Nat.reduceMul, Value.cells, Value.oneCell', eq_self, ne_eq, Int.reduceToNat, Int.reduceEq, Int.reduceLT, Int.reduceLE, Int.reduceNeg, if_true, if_false, reduceCtorEq, Nat.reduceSub, storeV_ptr, slcV_slice, ↓mwD, mwU]
  refine (awake_c w).use ?_
  rintro r w0 ⟨rfl, hx0⟩
  simp -dsimp -implicitDefEqProofs only [m6, sF6, Nat.reduceEqDiff, ↓reduceIte, Nat.reduceAdd, Nat.reduceMul, Value.cells, Value.oneCell', eq_self, ne_eq, Int.reduceToNat, Int.reduceEq, Int.reduceLT, Int.reduceLE, Int.reduceNeg, if_true, if_false, reduceCtorEq, Nat.reduceSub, storeV_ptr, slcV_slice, ↓mwD, mwU]
  refine (nUR lv w0).use ?_
  rintro r w1 ⟨rfl, hy⟩
  have hx1 := hx0.trans hy
  clear hy hx0
  simp -dsimp -implicitDefEqProofs only [binV_eqlS, bv_eff0, w00, m6, sF6, Nat.reduceEqDiff, ↓reduceIte, Nat.reduceAdd, Nat.reduceMul, Value.cells, Value.oneCell', eq_self, ne_eq, Int.reduceToNat, Int.reduceEq, Int.reduceLT, Int.reduceLE, Int.reduceNeg, if_true, if_false, reduceCtorEq, Nat.reduceSub, storeV_ptr, slcV_slice, ↓mwD, mwU]
  refine (nPR lv w1).use ?_
  rintro r w2 ⟨rfl, hy⟩
  have hx2 := hx1.trans hy
  clear hy hx1
  simp -dsimp -implicitDefEqProofs only [binV_eqlS, bv_eff0, w00, m6, sF6, Nat.reduceEqDiff, ↓reduceIte, Nat.reduceAdd, Nat.reduceMul, Value.cells, Value.oneCell', eq_self, ne_eq, Int.reduceToNat, Int.reduceEq, Int.reduceLT, Int.reduceLE, Int.reduceNeg, if_true, if_false, reduceCtorEq, Nat.reduceSub, storeV_ptr, slcV_slice, ↓mwD, mwU]
  refine (nHR lv w2).use ?_
  rintro r w3 ⟨rfl, hy⟩
  have hx3 := hx2.trans hy
  clear hy hx2
  simp -dsimp -implicitDefEqProofs only [binV_eqlS, bv_eff0, w00, m6, sF6, Nat.reduceEqDiff, ↓reduceIte, Nat.reduceAdd, Nat.reduceMul, Value.cells, Value.oneCell', eq_self, ne_eq, Int.reduceToNat, Int.reduceEq, Int.reduceLT, Int.reduceLE, Int.reduceNeg, if_true, if_false, reduceCtorEq, Nat.reduceSub, storeV_ptr, slcV_slice, ↓mwD, mwU]
  refine (nHF nv w3).use ?_
  rintro r w4 ⟨rfl, hy⟩
  have hx4 := hx3.trans hy
  clear hy hx3
  simp -dsimp -implicitDefEqProofs only [binV_eqlS, bv_eff0, w00, m6, sF6, Nat.reduceEqDiff, ↓reduceIte, Nat.reduceAdd, Nat.reduceMul, Value.cells, Value.oneCell', eq_self, ne_eq, Int.reduceToNat, Int.reduceEq, Int.reduceLT, Int.reduceLE, Int.reduceNeg, if_true, if_false, reduceCtorEq, Nat.reduceSub, storeV_ptr, slcV_slice, ↓mwD, mwU]
  refine (nUZ  w4).use ?_
  rintro r w5 ⟨rfl, hy⟩
  have hx5 := hx4.trans hy
  clear hy hx4
  simp -dsimp -implicitDefEqProofs only [binV_eqlS, bv_eff0, w00, m6, sF6, Nat.reduceEqDiff, ↓reduceIte, Nat.reduceAdd, Nat.reduceMul, Value.cells, Value.oneCell', eq_self, ne_eq, Int.reduceToNat, Int.reduceEq, Int.reduceLT, Int.reduceLE, Int.reduceNeg, if_true, if_false, reduceCtorEq, Nat.reduceSub, storeV_ptr, slcV_slice, ↓mwD, mwU]
  refine (nUS  w5).use ?_
  rintro r w6 ⟨rfl, hy⟩
  have hx6 := hx5.trans hy
  clear hy hx5
  simp -dsimp -implicitDefEqProofs only [binV_eqlS, bv_eff0, w00, m6, sF6, Nat.reduceEqDiff, ↓reduceIte, Nat.reduceAdd, Nat.reduceMul, Value.cells, Value.oneCell', eq_self, ne_eq, Int.reduceToNat, Int.reduceEq, Int.reduceLT, Int.reduceLE, Int.reduceNeg, if_true, if_false, reduceCtorEq, Nat.reduceSub, storeV_ptr, slcV_slice, ↓mwD, mwU]
  refine (nUE sv w6).use ?_
  rintro r w7 ⟨rfl, hy⟩
  have hx7 := hx6.trans hy
  clear hy hx6
  simp -dsimp -implicitDefEqProofs only [binV_eqlS, bv_eff0, w00, m6, sF6, Nat.reduceEqDiff, ↓reduceIte, Nat.reduceAdd, Nat.reduceMul, Value.cells, Value.oneCell', eq_self, ne_eq, Int.reduceToNat, Int.reduceEq, Int.reduceLT, Int.reduceLE, Int.reduceNeg, if_true, if_false, reduceCtorEq, Nat.reduceSub, storeV_ptr, slcV_slice, ↓mwD, mwU]
  refine (nUL  w7).use ?_
  rintro r w8 ⟨rfl, hy⟩
  have hx8 := hx7.trans hy
  clear hy hx7
  simp -dsimp -implicitDefEqProofs only [binV_eqlS, bv_eff0, w00, m6, sF6, Nat.reduceEqDiff, ↓reduceIte, Nat.reduceAdd, Nat.reduceMul, Value.cells, Value.oneCell', eq_self, ne_eq, Int.reduceToNat, Int.reduceEq, Int.reduceLT, Int.reduceLE, Int.reduceNeg, if_true, if_false, reduceCtorEq, Nat.reduceSub, storeV_ptr, slcV_slice, ↓mwD, mwU]
  refine (nPC  w8).use ?_
  rintro r w9 ⟨rfl, hy⟩
  have hx9 := hx8.trans hy
  clear hy hx8
  simp -dsimp -implicitDefEqProofs only [binV_eqlS, bv_eff0, w00, m6, sF6, Nat.reduceEqDiff, ↓reduceIte, Nat.reduceAdd, Nat.reduceMul, Value.cells, Value.oneCell', eq_self, ne_eq, Int.reduceToNat, Int.reduceEq, Int.reduceLT, Int.reduceLE, Int.reduceNeg, if_true, if_false, reduceCtorEq, Nat.reduceSub, storeV_ptr, slcV_slice, ↓mwD, mwU]
  refine (nHL  w9).use ?_
  rintro r w10 ⟨rfl, hy⟩
  have hx10 := hx9.trans hy
  clear hy hx9
  simp -dsimp -implicitDefEqProofs only [binV_eqlS, bv_eff0, w00, m6, sF6, Nat.reduceEqDiff, ↓reduceIte, Nat.reduceAdd, Nat.reduceMul, Value.cells, Value.oneCell', eq_self, ne_eq, Int.reduceToNat, Int.reduceEq, Int.reduceLT, Int.reduceLE, Int.reduceNeg, if_true, if_false, reduceCtorEq, Nat.reduceSub, storeV_ptr, slcV_slice, ↓mwD, mwU]
  refine (nHD  w10).use ?_
  rintro r w11 ⟨rfl, hy⟩
  have hx11 := hx10.trans hy
  clear hy hx10
  simp -dsimp -implicitDefEqProofs only [binV_eqlS, bv_eff0, w00, m6, sF6, Nat.reduceEqDiff, ↓reduceIte, Nat.reduceAdd, Nat.reduceMul, Value.cells, Value.oneCell', eq_self, ne_eq, Int.reduceToNat, Int.reduceEq, Int.reduceLT, Int.reduceLE, Int.reduceNeg, if_true, if_false, reduceCtorEq, Nat.reduceSub, storeV_ptr, slcV_slice, ↓mwD, mwU]
  refine (nHC nv nv w11).use ?_
  rintro r w12 ⟨rfl, hy⟩
  have hx12 := hx11.trans hy
  clear hy hx11
  simp -dsimp -implicitDefEqProofs only [binV_eqlS, bv_eff0, w00, m6, sF6, Nat.reduceEqDiff, ↓reduceIte, Nat.reduceAdd, Nat.reduceMul, Value.cells, Value.oneCell', eq_self, ne_eq, Int.reduceToNat, Int.reduceEq, Int.reduceLT, Int.reduceLE, Int.reduceNeg, if_true, if_false, reduceCtorEq, Nat.reduceSub, storeV_ptr, slcV_slice, ↓mwD, mwU]
  refine (nHS  w12).use ?_
  rintro r w13 ⟨rfl, hy⟩
  have hx13 := hx12.trans hy
  clear hy hx12
  simp -dsimp -implicitDefEqProofs only [binV_eqlS, bv_eff0, w00, m6, sF6, Nat.reduceEqDiff, ↓reduceIte, Nat.reduceAdd, Nat.reduceMul, Value.cells, Value.oneCell', eq_self, ne_eq, Int.reduceToNat, Int.reduceEq, Int.reduceLT, Int.reduceLE, Int.reduceNeg, if_true, if_false, reduceCtorEq, Nat.reduceSub, storeV_ptr, slcV_slice, ↓mwD, mwU]
  refine (nHE sv w13).use ?_
  rintro r w14 ⟨rfl, hy⟩
  have hx14 := hx13.trans hy
  clear hy hx13
  simp -dsimp -implicitDefEqProofs only [binV_eqlS, bv_eff0, w00, m6, sF6, Nat.reduceEqDiff, ↓reduceIte, Nat.reduceAdd, Nat.reduceMul, Value.cells, Value.oneCell', eq_self, ne_eq, Int.reduceToNat, Int.reduceEq, Int.reduceLT, Int.reduceLE, Int.reduceNeg, if_true, if_false, reduceCtorEq, Nat.reduceSub, storeV_ptr, slcV_slice, ↓mwD, mwU]
  exact hx14
end Go.Proofs.YtefcfnmmpnjjjaaGreatDoor

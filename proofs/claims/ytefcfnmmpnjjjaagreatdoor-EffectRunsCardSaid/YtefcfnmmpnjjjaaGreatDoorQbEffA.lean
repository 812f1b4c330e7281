/- Contracts of package effect's small functions. -/
import Derived.Test.YtefcfnmmpnjjjaaGreatDoorQbMwF0
import Derived.Test.YtefcfnmmpnjjjaaGreatDoorQbMwF1
import Derived.Test.YtefcfnmmpnjjjaaGreatDoorQbMwMem
import Derived.Test.YtefcfnmmpnjjjaaGreatDoorQbMwSet
import Derived.Test.YtefcfnmmpnjjjaaGreatDoorQbEffSpec
namespace Go.Proofs.YtefcfnmmpnjjjaaGreatDoor
open Go.RowKit
set_option linter.unusedSimpArgs false

theorem within_c (n a b : Int) (w : World) : Rets Go.Proofs.Tryz.prog 53 #[.int .i64 n, .int .i64 a, .int .i64 b] w fun v w' => v = .bool (wtn n a b) ∧ w' = w := by
  refine en53 ?_
  simp -dsimp -implicitDefEqProofs only [m53, sF53, Nat.reduceEqDiff, ↓reduceIte, Nat.reduceAdd, Nat.reduceMul, Value.cells, Value.oneCell', eq_self, ne_eq, Int.reduceToNat, Int.reduceEq, Int.reduceLT, Int.reduceLE, Int.reduceNeg, if_true, if_false, reduceCtorEq, Nat.reduceSub, storeV_ptr, slcV_slice, ↓mwD, mwU]
  refine iteW_dec (fun h => ?_) (fun h => ?_)
  · simp -dsimp -implicitDefEqProofs only [h, wtn, Bool.true_and, m53, sF53, Nat.reduceEqDiff, ↓reduceIte, Nat.reduceAdd, Nat.reduceMul, Value.cells, Value.oneCell', eq_self, ne_eq, Int.reduceToNat, Int.reduceEq, Int.reduceLT, Int.reduceLE, Int.reduceNeg, if_true, if_false, reduceCtorEq, Nat.reduceSub, storeV_ptr, slcV_slice, ↓mwD, mwU]
  · simp -dsimp -implicitDefEqProofs only [h, wtn, Bool.false_and, m53, sF53, Nat.reduceEqDiff, ↓reduceIte, Nat.reduceAdd, Nat.reduceMul, Value.cells, Value.oneCell', eq_self, ne_eq, Int.reduceToNat, Int.reduceEq, Int.reduceLT, Int.reduceLE, Int.reduceNeg, if_true, if_false, reduceCtorEq, Nat.reduceSub, storeV_ptr, slcV_slice, ↓mwD, mwU]

theorem from_c (n a b : Int) (w : World) : Rets Go.Proofs.Tryz.prog 80 #[.int .i64 n, .int .i64 a, .int .i64 b] w fun v w' => v = .bool (wtn n a b) ∧ w' = w := by
  refine en80 ?_
  simp -dsimp -implicitDefEqProofs only [m80, sF80, Nat.reduceEqDiff, ↓reduceIte, Nat.reduceAdd, Nat.reduceMul, Value.cells, Value.oneCell', eq_self, ne_eq, Int.reduceToNat, Int.reduceEq, Int.reduceLT, Int.reduceLE, Int.reduceNeg, if_true, if_false, reduceCtorEq, Nat.reduceSub, storeV_ptr, slcV_slice, ↓mwD, mwU]
  refine iteW_dec (fun h => ?_) (fun h => ?_)
  · simp -dsimp -implicitDefEqProofs only [h, wtn, Bool.true_and, m80, sF80, Nat.reduceEqDiff, ↓reduceIte, Nat.reduceAdd, Nat.reduceMul, Value.cells, Value.oneCell', eq_self, ne_eq, Int.reduceToNat, Int.reduceEq, Int.reduceLT, Int.reduceLE, Int.reduceNeg, if_true, if_false, reduceCtorEq, Nat.reduceSub, storeV_ptr, slcV_slice, ↓mwD, mwU]
  · simp -dsimp -implicitDefEqProofs only [h, wtn, Bool.false_and, m80, sF80, Nat.reduceEqDiff, ↓reduceIte, Nat.reduceAdd, Nat.reduceMul, Value.cells, Value.oneCell', eq_self, ne_eq, Int.reduceToNat, Int.reduceEq, Int.reduceLT, Int.reduceLE, Int.reduceNeg, if_true, if_false, reduceCtorEq, Nat.reduceSub, storeV_ptr, slcV_slice, ↓mwD, mwU]

theorem bound_c (n : Int) (w : World) : Rets Go.Proofs.Tryz.prog 58 #[.int .i64 n] w fun v w' => v = .int .i64 (bnd n) ∧ w' = w := by
  refine en58 ?_
  simp -dsimp -implicitDefEqProofs only [m58, sF58, Nat.reduceEqDiff, ↓reduceIte, Nat.reduceAdd, Nat.reduceMul, Value.cells, Value.oneCell', eq_self, ne_eq, Int.reduceToNat, Int.reduceEq, Int.reduceLT, Int.reduceLE, Int.reduceNeg, if_true, if_false, reduceCtorEq, Nat.reduceSub, storeV_ptr, slcV_slice, ↓mwD, mwU]
  simp only [Value.int.injEq, true_and, bnd]
  split <;> split <;> (repeat (split)) <;> omega

theorem Bounded_c (n : Int) (w : World) : Rets Go.Proofs.Tryz.prog 59 #[.int .i64 n] w fun v w' => v = .int .i64 (bnd n) ∧ w' = w := by
  refine en59 ?_
  simp -dsimp -implicitDefEqProofs only [m59, sF59, Nat.reduceEqDiff, ↓reduceIte, Nat.reduceAdd, Nat.reduceMul, Value.cells, Value.oneCell', eq_self, ne_eq, Int.reduceToNat, Int.reduceEq, Int.reduceLT, Int.reduceLE, Int.reduceNeg, if_true, if_false, reduceCtorEq, Nat.reduceSub, storeV_ptr, slcV_slice, ↓mwD, mwU]
  refine iteW_dec (fun h => ?_) (fun h => ?_)
  · simp -dsimp -implicitDefEqProofs only [m59, sF59, Nat.reduceEqDiff, ↓reduceIte, Nat.reduceAdd, Nat.reduceMul, Value.cells, Value.oneCell', eq_self, ne_eq, Int.reduceToNat, Int.reduceEq, Int.reduceLT, Int.reduceLE, Int.reduceNeg, if_true, if_false, reduceCtorEq, Nat.reduceSub, storeV_ptr, slcV_slice, ↓mwD, mwU]
    simp only [Value.int.injEq, true_and, bnd]
    split <;> (repeat (split)) <;> omega
  · simp -dsimp -implicitDefEqProofs only [m59, sF59, Nat.reduceEqDiff, ↓reduceIte, Nat.reduceAdd, Nat.reduceMul, Value.cells, Value.oneCell', eq_self, ne_eq, Int.reduceToNat, Int.reduceEq, Int.reduceLT, Int.reduceLE, Int.reduceNeg, if_true, if_false, reduceCtorEq, Nat.reduceSub, storeV_ptr, slcV_slice, ↓mwD, mwU]
    refine iteW_dec (fun h' => ?_) (fun h' => ?_)
    · simp -dsimp -implicitDefEqProofs only [m59, sF59, Nat.reduceEqDiff, ↓reduceIte, Nat.reduceAdd, Nat.reduceMul, Value.cells, Value.oneCell', eq_self, ne_eq, Int.reduceToNat, Int.reduceEq, Int.reduceLT, Int.reduceLE, Int.reduceNeg, if_true, if_false, reduceCtorEq, Nat.reduceSub, storeV_ptr, slcV_slice, ↓mwD, mwU]
      simp only [Value.int.injEq, true_and, bnd]
      split <;> omega
    · simp -dsimp -implicitDefEqProofs only [m59, sF59, Nat.reduceEqDiff, ↓reduceIte, Nat.reduceAdd, Nat.reduceMul, Value.cells, Value.oneCell', eq_self, ne_eq, Int.reduceToNat, Int.reduceEq, Int.reduceLT, Int.reduceLE, Int.reduceNeg, if_true, if_false, reduceCtorEq, Nat.reduceSub, storeV_ptr, slcV_slice, ↓mwD, mwU]
      simp only [Value.int.injEq, true_and, bnd]
      split <;> (repeat (split)) <;> omega

theorem rounded_c (a : Int) (h1 : -4611686018427320000 ≤ a) (h2 : a ≤ 4611686018427320000) (w : World) : Rets Go.Proofs.Tryz.prog 70 #[.int .i64 a] w fun v w' => v = .int .i64 (rnd a) ∧ w' = w := by
  refine en70 ?_
  simp -dsimp -implicitDefEqProofs only [m70, sF70, Nat.reduceEqDiff, ↓reduceIte, Nat.reduceAdd, Nat.reduceMul, Value.cells, Value.oneCell', eq_self, ne_eq, Int.reduceToNat, Int.reduceEq, Int.reduceLT, Int.reduceLE, Int.reduceNeg, if_true, if_false, reduceCtorEq, Nat.reduceSub, storeV_ptr, slcV_slice, ↓mwD, mwU]
  refine iteW_dec (fun h => ?_) (fun h => ?_)
  · simp -dsimp -implicitDefEqProofs only [m70, sF70, Nat.reduceEqDiff, ↓reduceIte, Nat.reduceAdd, Nat.reduceMul, Value.cells, Value.oneCell', eq_self, ne_eq, Int.reduceToNat, Int.reduceEq, Int.reduceLT, Int.reduceLE, Int.reduceNeg, if_true, if_false, reduceCtorEq, Nat.reduceSub, storeV_ptr, slcV_slice, ↓mwD, mwU]
    simp -dsimp (disch := omega) only [w64, Int.tdiv_eq_ediv_of_nonneg, Int.tmod_eq_emod_of_nonneg]
    simp only [rnd, h, if_true, Value.int.injEq, true_and]
    omega
  · simp -dsimp -implicitDefEqProofs only [m70, sF70, Nat.reduceEqDiff, ↓reduceIte, Nat.reduceAdd, Nat.reduceMul, Value.cells, Value.oneCell', eq_self, ne_eq, Int.reduceToNat, Int.reduceEq, Int.reduceLT, Int.reduceLE, Int.reduceNeg, if_true, if_false, reduceCtorEq, Nat.reduceSub, storeV_ptr, slcV_slice, ↓mwD, mwU]
    simp -dsimp (disch := omega) only [w64, Int.tdiv_eq_ediv_of_nonneg, Int.tmod_eq_emod_of_nonneg]
    simp only [rnd, h, if_false]

theorem Rounded_c (a : Int) (h1 : -4611686018427320000 ≤ a) (h2 : a ≤ 4611686018427320000) (w : World) : Rets Go.Proofs.Tryz.prog 82 #[.int .i64 a] w fun v w' => v = .int .i64 (rnd a) ∧ w' = w := by
  refine en82 ?_
  simp -dsimp -implicitDefEqProofs only [m82, sF82, Nat.reduceEqDiff, ↓reduceIte, Nat.reduceAdd, Nat.reduceMul, Value.cells, Value.oneCell', eq_self, ne_eq, Int.reduceToNat, Int.reduceEq, Int.reduceLT, Int.reduceLE, Int.reduceNeg, if_true, if_false, reduceCtorEq, Nat.reduceSub, storeV_ptr, slcV_slice, ↓mwD, mwU]
  refine iteW_dec (fun h => ?_) (fun h => ?_)
  · simp -dsimp -implicitDefEqProofs only [m82, sF82, Nat.reduceEqDiff, ↓reduceIte, Nat.reduceAdd, Nat.reduceMul, Value.cells, Value.oneCell', eq_self, ne_eq, Int.reduceToNat, Int.reduceEq, Int.reduceLT, Int.reduceLE, Int.reduceNeg, if_true, if_false, reduceCtorEq, Nat.reduceSub, storeV_ptr, slcV_slice, ↓mwD, mwU]
    simp -dsimp (disch := omega) only [w64, Int.tdiv_eq_ediv_of_nonneg, Int.tmod_eq_emod_of_nonneg]
    simp only [rnd, h, if_true, Value.int.injEq, true_and]
    omega
  · simp -dsimp -implicitDefEqProofs only [m82, sF82, Nat.reduceEqDiff, ↓reduceIte, Nat.reduceAdd, Nat.reduceMul, Value.cells, Value.oneCell', eq_self, ne_eq, Int.reduceToNat, Int.reduceEq, Int.reduceLT, Int.reduceLE, Int.reduceNeg, if_true, if_false, reduceCtorEq, Nat.reduceSub, storeV_ptr, slcV_slice, ↓mwD, mwU]
    simp -dsimp (disch := omega) only [w64, Int.tdiv_eq_ediv_of_nonneg, Int.tmod_eq_emod_of_nonneg]
    simp only [rnd, h, if_false, Value.int.injEq, true_and]
    omega

/-- The closure that holds an Arg against its range. -/
theorem Valid1_c (n a b : Int) (w : World) : Rets Go.Proofs.Tryz.prog 74 #[.int .i64 n, .agg #[.int .i64 a, .int .i64 b]] w fun v w' => v = .bool (wtn n a b) ∧ Ext w w' := by
  refine en74 ?_
  simp -dsimp -implicitDefEqProofs only [m74, sF74, Nat.reduceEqDiff, ↓reduceIte, Nat.reduceAdd, Nat.reduceMul, Value.cells, Value.oneCell', eq_self, ne_eq, Int.reduceToNat, Int.reduceEq, Int.reduceLT, Int.reduceLE, Int.reduceNeg, if_true, if_false, reduceCtorEq, Nat.reduceSub, storeV_ptr, slcV_slice, ↓mwD, mwU]
  refine (within_c _ _ _ _).use ?_
  rintro v w' ⟨rfl, rfl⟩
  simp -dsimp -implicitDefEqProofs only [m74, sF74, Nat.reduceEqDiff, ↓reduceIte, Nat.reduceAdd, Nat.reduceMul, Value.cells, Value.oneCell', eq_self, ne_eq, Int.reduceToNat, Int.reduceEq, Int.reduceLT, Int.reduceLE, Int.reduceNeg, if_true, if_false, reduceCtorEq, Nat.reduceSub, storeV_ptr, slcV_slice, ↓mwD, mwU]
  exact Ext.alloc _ _

theorem taps1_c (n : Int) (w : World) : Rets Go.Proofs.Tryz.prog 111 #[.int .i64 n] w fun v w' => v = .bool (!wtn n (-65536) 65536) ∧ w' = w := by
  refine en111 ?_
  simp -dsimp -implicitDefEqProofs only [m111, sF111, Nat.reduceEqDiff, ↓reduceIte, Nat.reduceAdd, Nat.reduceMul, Value.cells, Value.oneCell', eq_self, ne_eq, Int.reduceToNat, Int.reduceEq, Int.reduceLT, Int.reduceLE, Int.reduceNeg, if_true, if_false, reduceCtorEq, Nat.reduceSub, storeV_ptr, slcV_slice, ↓mwD, mwU]
  refine (within_c _ _ _ _).use ?_
  rintro v w' ⟨rfl, rfl⟩
  simp -dsimp -implicitDefEqProofs only [m111, sF111, Nat.reduceEqDiff, ↓reduceIte, Nat.reduceAdd, Nat.reduceMul, Value.cells, Value.oneCell', eq_self, ne_eq, Int.reduceToNat, Int.reduceEq, Int.reduceLT, Int.reduceLE, Int.reduceNeg, if_true, if_false, reduceCtorEq, Nat.reduceSub, storeV_ptr, slcV_slice, ↓mwD, mwU]

theorem samples1_c (n : Int) (w : World) : Rets Go.Proofs.Tryz.prog 77 #[.int .i64 n] w fun v w' => v = .bool (!wtn n (-8388607) 8388607) ∧ w' = w := by
  refine en77 ?_
  simp -dsimp -implicitDefEqProofs only [m77, sF77, Nat.reduceEqDiff, ↓reduceIte, Nat.reduceAdd, Nat.reduceMul, Value.cells, Value.oneCell', eq_self, ne_eq, Int.reduceToNat, Int.reduceEq, Int.reduceLT, Int.reduceLE, Int.reduceNeg, if_true, if_false, reduceCtorEq, Nat.reduceSub, storeV_ptr, slcV_slice, ↓mwD, mwU]
  refine (within_c _ _ _ _).use ?_
  rintro v w' ⟨rfl, rfl⟩
  simp -dsimp -implicitDefEqProofs only [m77, sF77, Nat.reduceEqDiff, ↓reduceIte, Nat.reduceAdd, Nat.reduceMul, Value.cells, Value.oneCell', eq_self, ne_eq, Int.reduceToNat, Int.reduceEq, Int.reduceLT, Int.reduceLE, Int.reduceNeg, if_true, if_false, reduceCtorEq, Nat.reduceSub, storeV_ptr, slcV_slice, ↓mwD, mwU]

theorem w64_succ {k n : Nat} (h : k < n) (hn : n ≤ maxLen) : IntKind.i64.wrap ((k : Int) + 1) = ((k + 1 : Nat) : Int) := by
  unfold maxLen at hn
  rw [w64 (by omega) (by omega)]; omega

/-- slices.IndexFunc over ints, at a function that only asks. -/
theorem IndexFunc_c (v : Value) (xs : List Int) (g : FuncId) (p : Int → Bool) (w : World) (h : SlI w v xs) (hg : okF Go.Proofs.Tryz.prog g = true) (hf : ∀ n, Rets Go.Proofs.Tryz.prog g #[.int .i64 n] w fun v w' => v = .bool (p n) ∧ w' = w) :
    Rets Go.Proofs.Tryz.prog 113 #[v, .func (.func g) #[] #[]] w fun r w' => (∃ i : Int, r = .int .i64 i ∧ decide (0 ≤ i) = xs.any p) ∧ w' = w := by
  obtain ⟨q, cap, rfl, hc1, hc2⟩ := h.shape
  refine en113 ?_
  simp -dsimp -implicitDefEqProofs only [m113, sF113, Nat.reduceEqDiff, ↓reduceIte, Nat.reduceAdd, Nat.reduceMul, Value.cells, Value.oneCell', eq_self, ne_eq, Int.reduceToNat, Int.reduceEq, Int.reduceLT, Int.reduceLE, Int.reduceNeg, if_true, if_false, reduceCtorEq, Nat.reduceSub, storeV_ptr, slcV_slice, ↓mwD, mwU]
  refine mwpB_loop (fun e ds w' => ∃ k : Nat, k ≤ xs.length ∧ e 8 = .int .i64 k ∧ e 7 = .int .i64 xs.length ∧ e 0 = .slice q xs.length cap ∧ e 1 = .func (.func g) #[] #[] ∧ ds = [] ∧ w' = w ∧ (xs.take k).any p = false)
    (fun e _ => xs.length - (intOf (e 8)).toNat) ?_ ?_
  · simp -dsimp -implicitDefEqProofs only [m113, sF113, Nat.reduceEqDiff, ↓reduceIte, Nat.reduceAdd, Nat.reduceMul, Value.cells, Value.oneCell', eq_self, ne_eq, Int.reduceToNat, Int.reduceEq, Int.reduceLT, Int.reduceLE, Int.reduceNeg, if_true, if_false, reduceCtorEq, Nat.reduceSub, storeV_ptr, slcV_slice, ↓mwD, mwU]
    exact ⟨0, by omega, rfl, rfl⟩
  · rintro e ds w' ⟨k, hk, h8, h7, h0, h1, rfl, rfl, hp⟩
    simp -dsimp -implicitDefEqProofs only [h8, h7, h0, h1, m113, sF113, Nat.reduceEqDiff, ↓reduceIte, Nat.reduceAdd, Nat.reduceMul, Value.cells, Value.oneCell', eq_self, ne_eq, Int.reduceToNat, Int.reduceEq, Int.reduceLT, Int.reduceLE, Int.reduceNeg, if_true, if_false, reduceCtorEq, Nat.reduceSub, storeV_ptr, slcV_slice, ↓mwD, mwU]
    refine iteW_dec (fun hlt => ?_) (fun hge => ?_)
    · have hlt' : k < xs.length := by omega
      obtain ⟨b, o, cap', hv, _, _, hcell⟩ := h.at (by intro h0; rw [h0] at hlt'; simp at hlt')
      cases hv
      have hck := hcell k hlt'
      have hb1 : (0 : Int) ≤ k ∧ (k : Int) < xs.length := by omega
      have hw := w64_succ hlt' (Nat.le_trans hc1 hc2)
      simp -dsimp -implicitDefEqProofs only [h8, h7, h0, h1, hb1, and_self, hck, hg, m113, sF113, Nat.reduceEqDiff, ↓reduceIte, Nat.reduceAdd, Nat.reduceMul, Value.cells, Value.oneCell', eq_self, ne_eq, Int.reduceToNat, Int.reduceEq, Int.reduceLT, Int.reduceLE, Int.reduceNeg, if_true, if_false, reduceCtorEq, Nat.reduceSub, storeV_ptr, slcV_slice, ↓mwD, mwU]
      refine (hf _).use ?_
      rintro v w' ⟨rfl, rfl⟩
      simp -dsimp -implicitDefEqProofs only [h8, h7, h0, h1, hw, m113, sF113, Nat.reduceEqDiff, ↓reduceIte, Nat.reduceAdd, Nat.reduceMul, Value.cells, Value.oneCell', eq_self, ne_eq, Int.reduceToNat, Int.reduceEq, Int.reduceLT, Int.reduceLE, Int.reduceNeg, if_true, if_false, reduceCtorEq, Nat.reduceSub, storeV_ptr, slcV_slice, ↓mwD, mwU]
      refine iteW_intro (fun hpk => ?_) (fun hpk => ?_)
      · simp -dsimp -implicitDefEqProofs only [h8, h7, h0, h1, m113, sF113, Nat.reduceEqDiff, ↓reduceIte, Nat.reduceAdd, Nat.reduceMul, Value.cells, Value.oneCell', eq_self, ne_eq, Int.reduceToNat, Int.reduceEq, Int.reduceLT, Int.reduceLE, Int.reduceNeg, if_true, if_false, reduceCtorEq, Nat.reduceSub, storeV_ptr, slcV_slice, ↓mwD, mwU]
        refine ⟨_, rfl, ?_⟩
        have : xs.any p = true := List.any_eq_true.2 ⟨xs[k], List.getElem_mem hlt', hpk⟩
        rw [this]; simp
      · simp -dsimp -implicitDefEqProofs only [h8, h7, h0, h1, hw, m113, sF113, Nat.reduceEqDiff, ↓reduceIte, Nat.reduceAdd, Nat.reduceMul, Value.cells, Value.oneCell', eq_self, ne_eq, Int.reduceToNat, Int.reduceEq, Int.reduceLT, Int.reduceLE, Int.reduceNeg, if_true, if_false, reduceCtorEq, Nat.reduceSub, storeV_ptr, slcV_slice, ↓mwD, mwU]
        refine ⟨⟨k + 1, by omega, rfl, ?_⟩, ?_⟩
        · rw [List.take_succ_eq_append_getElem hlt', List.any_append, hp]; simp [hpk]
        · simp [intOf]; omega
    · have hkl : k = xs.length := by omega
      subst hkl
      simp -dsimp -implicitDefEqProofs only [h8, h7, h0, h1, m113, sF113, Nat.reduceEqDiff, ↓reduceIte, Nat.reduceAdd, Nat.reduceMul, Value.cells, Value.oneCell', eq_self, ne_eq, Int.reduceToNat, Int.reduceEq, Int.reduceLT, Int.reduceLE, Int.reduceNeg, if_true, if_false, reduceCtorEq, Nat.reduceSub, storeV_ptr, slcV_slice, ↓mwD, mwU]
      refine ⟨_, rfl, ?_⟩
      rw [List.take_length] at hp
      rw [hp]; simp

theorem ContainsFunc_c (v : Value) (xs : List Int) (g : FuncId) (p : Int → Bool) (w : World) (h : SlI w v xs) (hg : okF Go.Proofs.Tryz.prog g = true) (hf : ∀ n, Rets Go.Proofs.Tryz.prog g #[.int .i64 n] w fun v w' => v = .bool (p n) ∧ w' = w) :
    Rets Go.Proofs.Tryz.prog 76 #[v, .func (.func g) #[] #[]] w fun r w' => r = .bool (xs.any p) ∧ w' = w := by
  refine en76 ?_
  simp -dsimp -implicitDefEqProofs only [m76, sF76, Nat.reduceEqDiff, ↓reduceIte, Nat.reduceAdd, Nat.reduceMul, Value.cells, Value.oneCell', eq_self, ne_eq, Int.reduceToNat, Int.reduceEq, Int.reduceLT, Int.reduceLE, Int.reduceNeg, if_true, if_false, reduceCtorEq, Nat.reduceSub, storeV_ptr, slcV_slice, ↓mwD, mwU]
  refine (IndexFunc_c v xs g p w h hg hf).use ?_
  rintro r w' ⟨⟨i, rfl, hi⟩, rfl⟩
  simp -dsimp -implicitDefEqProofs only [hi, m76, sF76, Nat.reduceEqDiff, ↓reduceIte, Nat.reduceAdd, Nat.reduceMul, Value.cells, Value.oneCell', eq_self, ne_eq, Int.reduceToNat, Int.reduceEq, Int.reduceLT, Int.reduceLE, Int.reduceNeg, if_true, if_false, reduceCtorEq, Nat.reduceSub, storeV_ptr, slcV_slice, ↓mwD, mwU]

theorem taps_c (v : Value) (xs : List Int) (w : World) (h : SlI w v xs) : Rets Go.Proofs.Tryz.prog 71 #[v] w fun r w' => r = .bool (tapsB xs) ∧ w' = w := by
  obtain ⟨q, cap, hv, hc1, hc2⟩ := h.shape
  refine en71 ?_
  simp -dsimp -implicitDefEqProofs only [hv, m71, sF71, Nat.reduceEqDiff, ↓reduceIte, Nat.reduceAdd, Nat.reduceMul, Value.cells, Value.oneCell', eq_self, ne_eq, Int.reduceToNat, Int.reduceEq, Int.reduceLT, Int.reduceLE, Int.reduceNeg, if_true, if_false, reduceCtorEq, Nat.reduceSub, storeV_ptr, slcV_slice, ↓mwD, mwU]
  refine (within_c _ _ _ _).use ?_
  rintro r w' ⟨rfl, rfl⟩
  simp -dsimp -implicitDefEqProofs only [m71, sF71, Nat.reduceEqDiff, ↓reduceIte, Nat.reduceAdd, Nat.reduceMul, Value.cells, Value.oneCell', eq_self, ne_eq, Int.reduceToNat, Int.reduceEq, Int.reduceLT, Int.reduceLE, Int.reduceNeg, if_true, if_false, reduceCtorEq, Nat.reduceSub, storeV_ptr, slcV_slice, ↓mwD, mwU]
  refine iteW_intro (fun hw => ?_) (fun hw => ?_)
  · simp -dsimp -implicitDefEqProofs only [hw, m71, sF71, Nat.reduceEqDiff, ↓reduceIte, Nat.reduceAdd, Nat.reduceMul, Value.cells, Value.oneCell', eq_self, ne_eq, Int.reduceToNat, Int.reduceEq, Int.reduceLT, Int.reduceLE, Int.reduceNeg, if_true, if_false, reduceCtorEq, Nat.reduceSub, storeV_ptr, slcV_slice, ↓mwD, mwU]
    rw [← hv]
    refine (ContainsFunc_c v xs _ _ _ h okF_111 (fun n => taps1_c n _)).use ?_
    rintro r w' ⟨rfl, rfl⟩
    simp -dsimp -implicitDefEqProofs only [hw, tapsB, Bool.true_and, m71, sF71, Nat.reduceEqDiff, ↓reduceIte, Nat.reduceAdd, Nat.reduceMul, Value.cells, Value.oneCell', eq_self, ne_eq, Int.reduceToNat, Int.reduceEq, Int.reduceLT, Int.reduceLE, Int.reduceNeg, if_true, if_false, reduceCtorEq, Nat.reduceSub, storeV_ptr, slcV_slice, ↓mwD, mwU]
  · simp -dsimp -implicitDefEqProofs only [hw, tapsB, Bool.false_and, m71, sF71, Nat.reduceEqDiff, ↓reduceIte, Nat.reduceAdd, Nat.reduceMul, Value.cells, Value.oneCell', eq_self, ne_eq, Int.reduceToNat, Int.reduceEq, Int.reduceLT, Int.reduceLE, Int.reduceNeg, if_true, if_false, reduceCtorEq, Nat.reduceSub, storeV_ptr, slcV_slice, ↓mwD, mwU]

theorem samples_c (v : Value) (xs : List Int) (w : World) (h : SlI w v xs) : Rets Go.Proofs.Tryz.prog 37 #[v] w fun r w' => r = .bool (samplesB xs) ∧ w' = w := by
  obtain ⟨q, cap, hv, hc1, hc2⟩ := h.shape
  refine en37 ?_
  simp -dsimp -implicitDefEqProofs only [hv, m37, sF37, Nat.reduceEqDiff, ↓reduceIte, Nat.reduceAdd, Nat.reduceMul, Value.cells, Value.oneCell', eq_self, ne_eq, Int.reduceToNat, Int.reduceEq, Int.reduceLT, Int.reduceLE, Int.reduceNeg, if_true, if_false, reduceCtorEq, Nat.reduceSub, storeV_ptr, slcV_slice, ↓mwD, mwU]
  refine iteW_dec (fun hw => ?_) (fun hw => ?_)
  · have hw' : xs.length ≤ 4096 := by omega
    simp -dsimp -implicitDefEqProofs only [hw, m37, sF37, Nat.reduceEqDiff, ↓reduceIte, Nat.reduceAdd, Nat.reduceMul, Value.cells, Value.oneCell', eq_self, ne_eq, Int.reduceToNat, Int.reduceEq, Int.reduceLT, Int.reduceLE, Int.reduceNeg, if_true, if_false, reduceCtorEq, Nat.reduceSub, storeV_ptr, slcV_slice, ↓mwD, mwU]
    rw [← hv]
    refine (ContainsFunc_c v xs _ _ _ h okF_77 (fun n => samples1_c n _)).use ?_
    rintro r w' ⟨rfl, rfl⟩
    simp -dsimp -implicitDefEqProofs only [hw, samplesB, hw', Bool.true_and, m37, sF37, Nat.reduceEqDiff, ↓reduceIte, Nat.reduceAdd, Nat.reduceMul, Value.cells, Value.oneCell', eq_self, ne_eq, Int.reduceToNat, Int.reduceEq, Int.reduceLT, Int.reduceLE, Int.reduceNeg, if_true, if_false, reduceCtorEq, Nat.reduceSub, storeV_ptr, slcV_slice, ↓mwD, mwU]
  · have hw' : ¬ xs.length ≤ 4096 := by omega
    simp -dsimp -implicitDefEqProofs only [hw, samplesB, hw', Bool.false_and, m37, sF37, Nat.reduceEqDiff, ↓reduceIte, Nat.reduceAdd, Nat.reduceMul, Value.cells, Value.oneCell', eq_self, ne_eq, Int.reduceToNat, Int.reduceEq, Int.reduceLT, Int.reduceLE, Int.reduceNeg, if_true, if_false, reduceCtorEq, Nat.reduceSub, storeV_ptr, slcV_slice, ↓mwD, mwU]

/-! ### The reference's Taps and Samples -/
theorem Taps_c (v : Value) (xs : List Int) (w : World) (h : SlI w v xs) : Rets Go.Proofs.Tryz.prog 79 #[v] w fun r w' => r = .bool (tapsB xs) ∧ w' = w := by
  obtain ⟨q, cap, rfl, hc1, hc2⟩ := h.shape
  refine en79 ?_
  simp -dsimp -implicitDefEqProofs only [m79, sF79, Nat.reduceEqDiff, ↓reduceIte, Nat.reduceAdd, Nat.reduceMul, Value.cells, Value.oneCell', eq_self, ne_eq, Int.reduceToNat, Int.reduceEq, Int.reduceLT, Int.reduceLE, Int.reduceNeg, if_true, if_false, reduceCtorEq, Nat.reduceSub, storeV_ptr, slcV_slice, ↓mwD, mwU]
  refine mwpB_loop (fun e ds w' => ∃ k : Nat, k ≤ xs.length ∧ e 3 = .int .i64 k ∧ e 0 = .slice q xs.length cap ∧ ds = [] ∧ w' = w ∧ ((xs.take k).any fun n => !wtn n (-65536) 65536) = false)
    (fun e _ => xs.length - (intOf (e 3)).toNat) ?_ ?_
  · simp -dsimp -implicitDefEqProofs only [m79, sF79, Nat.reduceEqDiff, ↓reduceIte, Nat.reduceAdd, Nat.reduceMul, Value.cells, Value.oneCell', eq_self, ne_eq, Int.reduceToNat, Int.reduceEq, Int.reduceLT, Int.reduceLE, Int.reduceNeg, if_true, if_false, reduceCtorEq, Nat.reduceSub, storeV_ptr, slcV_slice, ↓mwD, mwU]
    exact ⟨0, by omega, rfl, rfl⟩
  · rintro e ds w' ⟨k, hk, h3, h0, rfl, rfl, hp⟩
    simp -dsimp -implicitDefEqProofs only [h3, h0, m79, sF79, Nat.reduceEqDiff, ↓reduceIte, Nat.reduceAdd, Nat.reduceMul, Value.cells, Value.oneCell', eq_self, ne_eq, Int.reduceToNat, Int.reduceEq, Int.reduceLT, Int.reduceLE, Int.reduceNeg, if_true, if_false, reduceCtorEq, Nat.reduceSub, storeV_ptr, slcV_slice, ↓mwD, mwU]
    refine iteW_dec (fun hlt => ?_) (fun hge => ?_)
    · have hlt' : k < xs.length := by omega
      obtain ⟨b, o, cap', hv, _, _, hcell⟩ := h.at (by intro h0; rw [h0] at hlt'; simp at hlt')
      cases hv
      have hck := hcell k hlt'
      have hb1 : (0 : Int) ≤ k ∧ (k : Int) < xs.length := by omega
      have hw := w64_succ hlt' (Nat.le_trans hc1 hc2)
      simp -dsimp -implicitDefEqProofs only [h3, h0, hb1, and_self, hck, m79, sF79, Nat.reduceEqDiff, ↓reduceIte, Nat.reduceAdd, Nat.reduceMul, Value.cells, Value.oneCell', eq_self, ne_eq, Int.reduceToNat, Int.reduceEq, Int.reduceLT, Int.reduceLE, Int.reduceNeg, if_true, if_false, reduceCtorEq, Nat.reduceSub, storeV_ptr, slcV_slice, ↓mwD, mwU]
      refine (from_c _ _ _ _).use ?_
      rintro v w' ⟨rfl, rfl⟩
      simp -dsimp -implicitDefEqProofs only [h3, h0, hw, m79, sF79, Nat.reduceEqDiff, ↓reduceIte, Nat.reduceAdd, Nat.reduceMul, Value.cells, Value.oneCell', eq_self, ne_eq, Int.reduceToNat, Int.reduceEq, Int.reduceLT, Int.reduceLE, Int.reduceNeg, if_true, if_false, reduceCtorEq, Nat.reduceSub, storeV_ptr, slcV_slice, ↓mwD, mwU]
      refine iteW_intro (fun hpk => ?_) (fun hpk => ?_)
      · simp -dsimp -implicitDefEqProofs only [h3, h0, hw, m79, sF79, Nat.reduceEqDiff, ↓reduceIte, Nat.reduceAdd, Nat.reduceMul, Value.cells, Value.oneCell', eq_self, ne_eq, Int.reduceToNat, Int.reduceEq, Int.reduceLT, Int.reduceLE, Int.reduceNeg, if_true, if_false, reduceCtorEq, Nat.reduceSub, storeV_ptr, slcV_slice, ↓mwD, mwU]
        refine ⟨⟨k + 1, by omega, rfl, ?_⟩, ?_⟩
        · rw [List.take_succ_eq_append_getElem hlt', List.any_append, hp]; simp [hpk]
        · simp [intOf]; omega
      · simp -dsimp -implicitDefEqProofs only [h3, h0, m79, sF79, Nat.reduceEqDiff, ↓reduceIte, Nat.reduceAdd, Nat.reduceMul, Value.cells, Value.oneCell', eq_self, ne_eq, Int.reduceToNat, Int.reduceEq, Int.reduceLT, Int.reduceLE, Int.reduceNeg, if_true, if_false, reduceCtorEq, Nat.reduceSub, storeV_ptr, slcV_slice, ↓mwD, mwU]
        have : (xs.any fun n => !wtn n (-65536) 65536) = true := List.any_eq_true.2 ⟨xs[k], List.getElem_mem hlt', by simp [hpk]⟩
        simp [tapsB, this]
    · have hkl : k = xs.length := by omega
      subst hkl
      rw [List.take_length] at hp
      simp -dsimp -implicitDefEqProofs only [h3, h0, m79, sF79, Nat.reduceEqDiff, ↓reduceIte, Nat.reduceAdd, Nat.reduceMul, Value.cells, Value.oneCell', eq_self, ne_eq, Int.reduceToNat, Int.reduceEq, Int.reduceLT, Int.reduceLE, Int.reduceNeg, if_true, if_false, reduceCtorEq, Nat.reduceSub, storeV_ptr, slcV_slice, ↓mwD, mwU]
      refine (from_c _ _ _ _).use ?_
      rintro v w' ⟨rfl, rfl⟩
      simp -dsimp -implicitDefEqProofs only [h3, h0, tapsB, hp, Bool.and_true, m79, sF79, Nat.reduceEqDiff, ↓reduceIte, Nat.reduceAdd, Nat.reduceMul, Value.cells, Value.oneCell', eq_self, ne_eq, Int.reduceToNat, Int.reduceEq, Int.reduceLT, Int.reduceLE, Int.reduceNeg, if_true, if_false, reduceCtorEq, Nat.reduceSub, storeV_ptr, slcV_slice, ↓mwD, mwU]

theorem bnd_ne (n : Int) : (bnd n = n) ↔ wtn n (-8388607) 8388607 = true := by
  unfold bnd wtn; simp; split <;> (repeat split) <;> omega

theorem Samples_c (v : Value) (xs : List Int) (w : World) (h : SlI w v xs) : Rets Go.Proofs.Tryz.prog 45 #[v] w fun r w' => r = .int .i64 (if samplesB xs then 0 else 1) ∧ Ext w w' := by
  obtain ⟨q, cap, rfl, hc1, hc2⟩ := h.shape
  refine en45 ?_
  simp -dsimp -implicitDefEqProofs only [m45, sF45, Nat.reduceEqDiff, ↓reduceIte, Nat.reduceAdd, Nat.reduceMul, Value.cells, Value.oneCell', eq_self, ne_eq, Int.reduceToNat, Int.reduceEq, Int.reduceLT, Int.reduceLE, Int.reduceNeg, if_true, if_false, reduceCtorEq, Nat.reduceSub, storeV_ptr, slcV_slice, ↓mwD, mwU]
  refine mwpB_loop (fun e ds w' => ∃ k : Nat, k ≤ xs.length ∧ e 3 = .int .i64 k ∧ e 0 = .slice q xs.length cap ∧ ds = [] ∧ Ext w w' ∧ ((xs.take k).any fun n => !wtn n (-8388607) 8388607) = false)
    (fun e _ => xs.length - (intOf (e 3)).toNat) ?_ ?_
  · simp -dsimp -implicitDefEqProofs only [m45, sF45, Nat.reduceEqDiff, ↓reduceIte, Nat.reduceAdd, Nat.reduceMul, Value.cells, Value.oneCell', eq_self, ne_eq, Int.reduceToNat, Int.reduceEq, Int.reduceLT, Int.reduceLE, Int.reduceNeg, if_true, if_false, reduceCtorEq, Nat.reduceSub, storeV_ptr, slcV_slice, ↓mwD, mwU]
    exact ⟨0, by omega, rfl, Ext.refl _, rfl⟩
  · rintro e ds w1 ⟨k, hk, h3, h0, rfl, hx, hp⟩
    simp -dsimp -implicitDefEqProofs only [h3, h0, m45, sF45, Nat.reduceEqDiff, ↓reduceIte, Nat.reduceAdd, Nat.reduceMul, Value.cells, Value.oneCell', eq_self, ne_eq, Int.reduceToNat, Int.reduceEq, Int.reduceLT, Int.reduceLE, Int.reduceNeg, if_true, if_false, reduceCtorEq, Nat.reduceSub, storeV_ptr, slcV_slice, ↓mwD, mwU]
    refine iteW_dec (fun hlt => ?_) (fun hge => ?_)
    · have hlt' : k < xs.length := by omega
      obtain ⟨b, o, cap', hv, _, _, hcell⟩ := h.at (by intro h0; rw [h0] at hlt'; simp at hlt')
      cases hv
      have hck := hx.cell (hcell k hlt')
      have hb1 : (0 : Int) ≤ k ∧ (k : Int) < xs.length := by omega
      have hw := w64_succ hlt' (Nat.le_trans hc1 hc2)
      simp -dsimp -implicitDefEqProofs only [h3, h0, m45, sF45, Nat.reduceEqDiff, ↓reduceIte, Nat.reduceAdd, Nat.reduceMul, Value.cells, Value.oneCell', eq_self, ne_eq, Int.reduceToNat, Int.reduceEq, Int.reduceLT, Int.reduceLE, Int.reduceNeg, if_true, if_false, reduceCtorEq, Nat.reduceSub, storeV_ptr, slcV_slice, ↓mwD, mwU]
      refine mwpB_drawE ?_
      simp -dsimp -implicitDefEqProofs only [h3, h0, hb1, and_self, hck, m45, sF45, Nat.reduceEqDiff, ↓reduceIte, Nat.reduceAdd, Nat.reduceMul, Value.cells, Value.oneCell', eq_self, ne_eq, Int.reduceToNat, Int.reduceEq, Int.reduceLT, Int.reduceLE, Int.reduceNeg, if_true, if_false, reduceCtorEq, Nat.reduceSub, storeV_ptr, slcV_slice, ↓mwD, mwU]
      refine (Bounded_c _ _).use ?_
      rintro v w' ⟨rfl, rfl⟩
      simp -dsimp -implicitDefEqProofs only [h3, h0, Ext.refl, m45, sF45, Nat.reduceEqDiff, ↓reduceIte, Nat.reduceAdd, Nat.reduceMul, Value.cells, Value.oneCell', eq_self, ne_eq, Int.reduceToNat, Int.reduceEq, Int.reduceLT, Int.reduceLE, Int.reduceNeg, if_true, if_false, reduceCtorEq, Nat.reduceSub, storeV_ptr, slcV_slice, ↓mwD, mwU]
      refine iteW_dec (fun hpk => ?_) (fun hpk => ?_)
      · simp -dsimp -implicitDefEqProofs only [h3, h0, hw, m45, sF45, Nat.reduceEqDiff, ↓reduceIte, Nat.reduceAdd, Nat.reduceMul, Value.cells, Value.oneCell', eq_self, ne_eq, Int.reduceToNat, Int.reduceEq, Int.reduceLT, Int.reduceLE, Int.reduceNeg, if_true, if_false, reduceCtorEq, Nat.reduceSub, storeV_ptr, slcV_slice, ↓mwD, mwU]
        refine ⟨⟨k + 1, by omega, rfl, hx.drew', ?_⟩, ?_⟩
        · rw [List.take_succ_eq_append_getElem hlt', List.any_append, hp]; simp [(bnd_ne _).1 hpk]
        · simp [intOf]; omega
      · simp -dsimp -implicitDefEqProofs only [h3, h0, m45, sF45, Nat.reduceEqDiff, ↓reduceIte, Nat.reduceAdd, Nat.reduceMul, Value.cells, Value.oneCell', eq_self, ne_eq, Int.reduceToNat, Int.reduceEq, Int.reduceLT, Int.reduceLE, Int.reduceNeg, if_true, if_false, reduceCtorEq, Nat.reduceSub, storeV_ptr, slcV_slice, ↓mwD, mwU]
        have h1 : wtn xs[k] (-8388607) 8388607 = false := by
          rw [← Bool.not_eq_true, ← bnd_ne]; exact hpk
        have : (xs.any fun n => !wtn n (-8388607) 8388607) = true := List.any_eq_true.2 ⟨xs[k], List.getElem_mem hlt', by simp [h1]⟩
        refine ⟨?_, hx.drew'⟩
        simp [samplesB, this]
    · have hkl : k = xs.length := by omega
      subst hkl
      rw [List.take_length] at hp
      simp -dsimp -implicitDefEqProofs only [h3, h0, m45, sF45, Nat.reduceEqDiff, ↓reduceIte, Nat.reduceAdd, Nat.reduceMul, Value.cells, Value.oneCell', eq_self, ne_eq, Int.reduceToNat, Int.reduceEq, Int.reduceLT, Int.reduceLE, Int.reduceNeg, if_true, if_false, reduceCtorEq, Nat.reduceSub, storeV_ptr, slcV_slice, ↓mwD, mwU]
      refine iteW_dec (fun hlt => ?_) (fun hge => ?_)
      · have : ¬ xs.length ≤ 4096 := by omega
        simp -dsimp -implicitDefEqProofs only [samplesB, this, Bool.false_and, Bool.false_eq_true, hx, m45, sF45, Nat.reduceEqDiff, ↓reduceIte, Nat.reduceAdd, Nat.reduceMul, Value.cells, Value.oneCell', eq_self, ne_eq, Int.reduceToNat, Int.reduceEq, Int.reduceLT, Int.reduceLE, Int.reduceNeg, if_true, if_false, reduceCtorEq, Nat.reduceSub, storeV_ptr, slcV_slice, ↓mwD, mwU]
      · have : xs.length ≤ 4096 := by omega
        simp -dsimp -implicitDefEqProofs only [samplesB, this, hp, Bool.true_and, hx, m45, sF45, Nat.reduceEqDiff, ↓reduceIte, Nat.reduceAdd, Nat.reduceMul, Value.cells, Value.oneCell', eq_self, ne_eq, Int.reduceToNat, Int.reduceEq, Int.reduceLT, Int.reduceLE, Int.reduceNeg, if_true, if_false, reduceCtorEq, Nat.reduceSub, storeV_ptr, slcV_slice, ↓mwD, mwU]

end Go.Proofs.YtefcfnmmpnjjjaaGreatDoor

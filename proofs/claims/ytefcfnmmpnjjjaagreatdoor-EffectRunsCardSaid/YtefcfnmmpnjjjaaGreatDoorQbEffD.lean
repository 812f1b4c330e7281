/- Contracts: Valid, Latency, Tail of the reference; Latency, Tail of the program. -/
import Derived.Test.YtefcfnmmpnjjjaaGreatDoorQbEffC
namespace Go.Proofs.YtefcfnmmpnjjjaaGreatDoor
open Go.RowKit
set_option linter.unusedSimpArgs false

/-- The first Args in memory. -/
theorem SlI.some {w : World} {v : Value} {A : List Int} (h : SlI w v A) (hne : 0 < A.length) :
    ∃ b o cap, v = .slice (some ⟨b, o, none⟩) A.length cap ∧ ∀ k a, A[k]? = some a → w.cell? ⟨b, o + k, none⟩ = some (.int .i64 a) := by
  obtain ⟨b, o, cap, h1, _, _, h4⟩ := h.at (by intro h0; rw [h0] at hne; simp at hne)
  refine ⟨b, o, cap, h1, fun k a hk => ?_⟩
  obtain ⟨hlt, rfl⟩ := List.getElem?_eq_some_iff.1 hk
  exact h4 k hlt

theorem press_c (v : Value) (a0 a1 a2 a3 : Int) (rest : List Int) (w : World) (h : SlI w v (a0 :: a1 :: a2 :: a3 :: rest)) :
    Rets Go.Proofs.Tryz.prog 81 #[v] w fun r w' => r = .bool (eqfB [a0, a1, a2, a3] comp) ∧ w' = w := by
  obtain ⟨b, o, cap, rfl, hc⟩ := h.some (by simp)
  have c0 := hc 0 a0 rfl
  have c1 := hc 1 a1 rfl
  have c2 := hc 2 a2 rfl
  have c3 := hc 3 a3 rfl
  simp only [Nat.add_zero] at c0
  have l0 : (0 : Int) < ((a0 :: a1 :: a2 :: a3 :: rest).length : Nat) := by simp only [List.length_cons]; omega
  have l1 : (0 : Int) ≤ 1 ∧ (1 : Int) < ((a0 :: a1 :: a2 :: a3 :: rest).length : Nat) := by simp only [List.length_cons]; omega
  have l2 : (0 : Int) ≤ 2 ∧ (2 : Int) < ((a0 :: a1 :: a2 :: a3 :: rest).length : Nat) := by simp only [List.length_cons]; omega
  have l3 : (0 : Int) ≤ 3 ∧ (3 : Int) < ((a0 :: a1 :: a2 :: a3 :: rest).length : Nat) := by simp only [List.length_cons]; omega
  generalize (a0 :: a1 :: a2 :: a3 :: rest).length = n at *
  refine en81 ?_
  simp -dsimp -implicitDefEqProofs only [l0, l1, l2, l3, c0, c1, c2, c3, and_self, Int.le_refl, m81, sF81, Nat.reduceEqDiff, ↓reduceIte, Nat.reduceAdd, Nat.reduceMul, Value.cells, Value.oneCell', eq_self, ne_eq, Int.reduceToNat, Int.reduceEq, Int.reduceLT, Int.reduceLE, Int.reduceNeg, if_true, if_false, reduceCtorEq, Nat.reduceSub, storeV_ptr, slcV_slice, ↓mwD, mwU]
  refine (from_c _ _ _ _).use ?_
  rintro r w' ⟨rfl, rfl⟩
  cases h0 : wtn a0 0 8388607
  · simp -dsimp -implicitDefEqProofs only [l1, l2, l3, c1, c2, c3, and_self, m81, sF81, Nat.reduceEqDiff, ↓reduceIte, Nat.reduceAdd, Nat.reduceMul, Value.cells, Value.oneCell', eq_self, ne_eq, Int.reduceToNat, Int.reduceEq, Int.reduceLT, Int.reduceLE, Int.reduceNeg, if_true, if_false, reduceCtorEq, Nat.reduceSub, storeV_ptr, slcV_slice, ↓mwD, mwU]
    simp [eqfB, comp, h0]
  · simp -dsimp -implicitDefEqProofs only [l1, l2, l3, c1, c2, c3, and_self, m81, sF81, Nat.reduceEqDiff, ↓reduceIte, Nat.reduceAdd, Nat.reduceMul, Value.cells, Value.oneCell', eq_self, ne_eq, Int.reduceToNat, Int.reduceEq, Int.reduceLT, Int.reduceLE, Int.reduceNeg, if_true, if_false, reduceCtorEq, Nat.reduceSub, storeV_ptr, slcV_slice, ↓mwD, mwU]
    refine (from_c _ _ _ _).use ?_
    rintro r w' ⟨rfl, rfl⟩
    cases h1 : wtn a1 65536 6553600
    · simp -dsimp -implicitDefEqProofs only [l1, l2, l3, c1, c2, c3, and_self, m81, sF81, Nat.reduceEqDiff, ↓reduceIte, Nat.reduceAdd, Nat.reduceMul, Value.cells, Value.oneCell', eq_self, ne_eq, Int.reduceToNat, Int.reduceEq, Int.reduceLT, Int.reduceLE, Int.reduceNeg, if_true, if_false, reduceCtorEq, Nat.reduceSub, storeV_ptr, slcV_slice, ↓mwD, mwU]
      simp [eqfB, comp, h0, h1]
    · simp -dsimp -implicitDefEqProofs only [l1, l2, l3, c1, c2, c3, and_self, m81, sF81, Nat.reduceEqDiff, ↓reduceIte, Nat.reduceAdd, Nat.reduceMul, Value.cells, Value.oneCell', eq_self, ne_eq, Int.reduceToNat, Int.reduceEq, Int.reduceLT, Int.reduceLE, Int.reduceNeg, if_true, if_false, reduceCtorEq, Nat.reduceSub, storeV_ptr, slcV_slice, ↓mwD, mwU]
      refine (from_c _ _ _ _).use ?_
      rintro r w' ⟨rfl, rfl⟩
      cases h2 : wtn a2 1 65536
      · simp -dsimp -implicitDefEqProofs only [l1, l2, l3, c1, c2, c3, and_self, m81, sF81, Nat.reduceEqDiff, ↓reduceIte, Nat.reduceAdd, Nat.reduceMul, Value.cells, Value.oneCell', eq_self, ne_eq, Int.reduceToNat, Int.reduceEq, Int.reduceLT, Int.reduceLE, Int.reduceNeg, if_true, if_false, reduceCtorEq, Nat.reduceSub, storeV_ptr, slcV_slice, ↓mwD, mwU]
        simp [eqfB, comp, h0, h1, h2]
      · simp -dsimp -implicitDefEqProofs only [l1, l2, l3, c1, c2, c3, and_self, m81, sF81, Nat.reduceEqDiff, ↓reduceIte, Nat.reduceAdd, Nat.reduceMul, Value.cells, Value.oneCell', eq_self, ne_eq, Int.reduceToNat, Int.reduceEq, Int.reduceLT, Int.reduceLE, Int.reduceNeg, if_true, if_false, reduceCtorEq, Nat.reduceSub, storeV_ptr, slcV_slice, ↓mwD, mwU]
        refine (from_c _ _ _ _).use ?_
        rintro r w' ⟨rfl, rfl⟩
        simp -dsimp -implicitDefEqProofs only [l1, l2, l3, c1, c2, c3, and_self, m81, sF81, Nat.reduceEqDiff, ↓reduceIte, Nat.reduceAdd, Nat.reduceMul, Value.cells, Value.oneCell', eq_self, ne_eq, Int.reduceToNat, Int.reduceEq, Int.reduceLT, Int.reduceLE, Int.reduceNeg, if_true, if_false, reduceCtorEq, Nat.reduceSub, storeV_ptr, slcV_slice, ↓mwD, mwU]
        simp [eqfB, comp, h0, h1, h2]

/-- What a block of the call's own holds, in every later world. -/
theorem box_cell {w w' : World} {cs : Array Value} {t : TypeId} (h : Ext (w.alloc (.cells cs t)) w') {j : Nat} {v : Value} (hj : cs[j]? = some v) : w'.cell? ⟨w.heap.size, j, none⟩ = some v :=
  h.cell (by rw [World.cell?_alloc_new]; exact hj)

/-- The reference's Valid is 31.1's. -/
theorem refValid_c (k : Int) (a t : Value) (A T : List Int) (w : World) (hA : SlI w a A) (hT : SlI w t T) :
    Rets Go.Proofs.Tryz.prog 43 #[.agg #[.int .i64 k, a, t]] w fun r w' => r = .bool (validB k A T) ∧ Ext w w' := by
  obtain ⟨pa, ca, rfl, _, _⟩ := hA.shape
  obtain ⟨pt, ct, rfl, _, _⟩ := hT.shape
  have hx : Ext w (w.alloc (.cells #[.int .i64 k, .slice pa A.length ca, .slice pt T.length ct] 24)) := Ext.alloc _ _
  refine en43 ?_
  simp -dsimp -implicitDefEqProofs only [m43, sF43, Nat.reduceEqDiff, ↓reduceIte, Nat.reduceAdd, Nat.reduceMul, Value.cells, Value.oneCell', eq_self, ne_eq, Int.reduceToNat, Int.reduceEq, Int.reduceLT, Int.reduceLE, Int.reduceNeg, if_true, if_false, reduceCtorEq, Nat.reduceSub, storeV_ptr, slcV_slice, ↓mwD, mwU]
  refine iteW_dec (fun h4 => ?_) (fun h4 => ?_)
  · subst h4
    simp -dsimp -implicitDefEqProofs only [m43, sF43, Nat.reduceEqDiff, ↓reduceIte, Nat.reduceAdd, Nat.reduceMul, Value.cells, Value.oneCell', eq_self, ne_eq, Int.reduceToNat, Int.reduceEq, Int.reduceLT, Int.reduceLE, Int.reduceNeg, if_true, if_false, reduceCtorEq, Nat.reduceSub, storeV_ptr, slcV_slice, ↓mwD, mwU]
    refine iteW_dec (fun hl => ?_) (fun hl => ?_)
    · have hA0 : A = [] := by cases A with
        | nil => rfl
        | cons a l => simp at hl; omega
      simp -dsimp -implicitDefEqProofs only [hl, m43, sF43, Nat.reduceEqDiff, ↓reduceIte, Nat.reduceAdd, Nat.reduceMul, Value.cells, Value.oneCell', eq_self, ne_eq, Int.reduceToNat, Int.reduceEq, Int.reduceLT, Int.reduceLE, Int.reduceNeg, if_true, if_false, reduceCtorEq, Nat.reduceSub, storeV_ptr, slcV_slice, ↓mwD, mwU]
      refine (Taps_c _ T _ (hT.ext hx)).use ?_
      rintro r w' ⟨rfl, rfl⟩
      simp -dsimp -implicitDefEqProofs only [hl, m43, sF43, Nat.reduceEqDiff, ↓reduceIte, Nat.reduceAdd, Nat.reduceMul, Value.cells, Value.oneCell', eq_self, ne_eq, Int.reduceToNat, Int.reduceEq, Int.reduceLT, Int.reduceLE, Int.reduceNeg, if_true, if_false, reduceCtorEq, Nat.reduceSub, storeV_ptr, slcV_slice, ↓mwD, mwU]
      exact ⟨by simp [validB, wtn, rangesOf, hA0, eqfB], hx⟩
    · have hA0 : ¬ A = [] := by intro h; rw [h] at hl; simp at hl
      simp -dsimp -implicitDefEqProofs only [hl, m43, sF43, Nat.reduceEqDiff, ↓reduceIte, Nat.reduceAdd, Nat.reduceMul, Value.cells, Value.oneCell', eq_self, ne_eq, Int.reduceToNat, Int.reduceEq, Int.reduceLT, Int.reduceLE, Int.reduceNeg, if_true, if_false, reduceCtorEq, Nat.reduceSub, storeV_ptr, slcV_slice, ↓mwD, mwU]
      refine ⟨?_, hx⟩
      have : validB 4 A T = false := by
        rw [← Bool.not_eq_true]; intro h; cases valid_shape h; exact hA0 rfl
      rw [this]
  · simp -dsimp -implicitDefEqProofs only [h4, m43, sF43, Nat.reduceEqDiff, ↓reduceIte, Nat.reduceAdd, Nat.reduceMul, Value.cells, Value.oneCell', eq_self, ne_eq, Int.reduceToNat, Int.reduceEq, Int.reduceLT, Int.reduceLE, Int.reduceNeg, if_true, if_false, reduceCtorEq, Nat.reduceSub, storeV_ptr, slcV_slice, ↓mwD, mwU]
    refine iteW_dec (fun ht => ?_) (fun ht => ?_)
    · simp -dsimp -implicitDefEqProofs only [h4, ht, m43, sF43, Nat.reduceEqDiff, ↓reduceIte, Nat.reduceAdd, Nat.reduceMul, Value.cells, Value.oneCell', eq_self, ne_eq, Int.reduceToNat, Int.reduceEq, Int.reduceLT, Int.reduceLE, Int.reduceNeg, if_true, if_false, reduceCtorEq, Nat.reduceSub, storeV_ptr, slcV_slice, ↓mwD, mwU]
      have : ¬ T = [] := by intro h; rw [h] at ht; simp at ht
      exact ⟨by simp [validB, h4, this], hx⟩
    · have hT0 : T = [] := by cases T with
        | nil => rfl
        | cons a l => exact absurd (by simp) ht
      simp -dsimp -implicitDefEqProofs only [h4, ht, m43, sF43, Nat.reduceEqDiff, ↓reduceIte, Nat.reduceAdd, Nat.reduceMul, Value.cells, Value.oneCell', eq_self, ne_eq, Int.reduceToNat, Int.reduceEq, Int.reduceLT, Int.reduceLE, Int.reduceNeg, if_true, if_false, reduceCtorEq, Nat.reduceSub, storeV_ptr, slcV_slice, ↓mwD, mwU]
      have hv : ∀ kk, ¬ kk = 4 → validB kk A T = (wtn kk 1 7 && eqfB A (rangesOf kk)) := fun kk hkk => by simp [validB, hkk, hT0]
      refine iteW_dec (fun h11 => ?_) (fun h11 => ?_)
      · subst h11
        rw [hv 1 (by decide)]
        simp -dsimp -implicitDefEqProofs only [m43, sF43, Nat.reduceEqDiff, ↓reduceIte, Nat.reduceAdd, Nat.reduceMul, Value.cells, Value.oneCell', eq_self, ne_eq, Int.reduceToNat, Int.reduceEq, Int.reduceLT, Int.reduceLE, Int.reduceNeg, if_true, if_false, reduceCtorEq, Nat.reduceSub, storeV_ptr, slcV_slice, ↓mwD, mwU]
        refine iteW_dec (fun hl => ?_) (fun hl => ?_)
        · have hl' : A.length = 1 := by omega
          obtain ⟨a0, rfl⟩ : ∃ a0, A = [a0] := by
            rcases A with _ | ⟨a0, _ | ⟨a1, A⟩⟩ <;> simp at hl'
            exact ⟨a0, rfl⟩
          simp only [List.length_cons, List.length_nil, Nat.zero_add, Nat.reduceAdd] at hx
          obtain ⟨b, o, cap, hv', hc⟩ := hA.some (by simp)
          simp only [List.length_cons, List.length_nil, Nat.zero_add, Nat.reduceAdd] at hv'
          cases hv'
          have c0 := hx.cell (hc 0 a0 rfl)
          simp only [Nat.add_zero] at c0
          simp -dsimp -implicitDefEqProofs only [c0, m43, sF43, Nat.reduceEqDiff, ↓reduceIte, Nat.reduceAdd, Nat.reduceMul, Value.cells, Value.oneCell', eq_self, ne_eq, Int.reduceToNat, Int.reduceEq, Int.reduceLT, Int.reduceLE, Int.reduceNeg, if_true, if_false, reduceCtorEq, Nat.reduceSub, storeV_ptr, slcV_slice, ↓mwD, mwU]
          refine (from_c _ _ _ _).use ?_
          rintro r w' ⟨rfl, rfl⟩
          simp -dsimp -implicitDefEqProofs only [m43, sF43, Nat.reduceEqDiff, ↓reduceIte, Nat.reduceAdd, Nat.reduceMul, Value.cells, Value.oneCell', eq_self, ne_eq, Int.reduceToNat, Int.reduceEq, Int.reduceLT, Int.reduceLE, Int.reduceNeg, if_true, if_false, reduceCtorEq, Nat.reduceSub, storeV_ptr, slcV_slice, ↓mwD, mwU]
          exact ⟨by simp [rangesOf, eqfB, wtn], hx⟩
        · have hl' : ¬ A.length = 1 := by omega
          simp -dsimp -implicitDefEqProofs only [hl, m43, sF43, Nat.reduceEqDiff, ↓reduceIte, Nat.reduceAdd, Nat.reduceMul, Value.cells, Value.oneCell', eq_self, ne_eq, Int.reduceToNat, Int.reduceEq, Int.reduceLT, Int.reduceLE, Int.reduceNeg, if_true, if_false, reduceCtorEq, Nat.reduceSub, storeV_ptr, slcV_slice, ↓mwD, mwU]
          refine ⟨?_, hx⟩
          have : eqfB A (rangesOf 1) = false := by
            rw [← Bool.not_eq_true]; intro h; exact hl' (eqfB_length _ _ h)
          rw [this, Bool.and_false]
      · simp -dsimp -implicitDefEqProofs only [h11, m43, sF43, Nat.reduceEqDiff, ↓reduceIte, Nat.reduceAdd, Nat.reduceMul, Value.cells, Value.oneCell', eq_self, ne_eq, Int.reduceToNat, Int.reduceEq, Int.reduceLT, Int.reduceLE, Int.reduceNeg, if_true, if_false, reduceCtorEq, Nat.reduceSub, storeV_ptr, slcV_slice, ↓mwD, mwU]
        refine iteW_dec (fun h12 => ?_) (fun h12 => ?_)
        · subst h12
          rw [hv 2 (by decide)]
          simp -dsimp -implicitDefEqProofs only [m43, sF43, Nat.reduceEqDiff, ↓reduceIte, Nat.reduceAdd, Nat.reduceMul, Value.cells, Value.oneCell', eq_self, ne_eq, Int.reduceToNat, Int.reduceEq, Int.reduceLT, Int.reduceLE, Int.reduceNeg, if_true, if_false, reduceCtorEq, Nat.reduceSub, storeV_ptr, slcV_slice, ↓mwD, mwU]
          refine iteW_dec (fun hl => ?_) (fun hl => ?_)
          · have hl' : A.length = 1 := by omega
            obtain ⟨a0, rfl⟩ : ∃ a0, A = [a0] := by
              rcases A with _ | ⟨a0, _ | ⟨a1, A⟩⟩ <;> simp at hl'
              exact ⟨a0, rfl⟩
            simp only [List.length_cons, List.length_nil, Nat.zero_add, Nat.reduceAdd] at hx
            obtain ⟨b, o, cap, hv', hc⟩ := hA.some (by simp)
            simp only [List.length_cons, List.length_nil, Nat.zero_add, Nat.reduceAdd] at hv'
            cases hv'
            have c0 := hx.cell (hc 0 a0 rfl)
            simp only [Nat.add_zero] at c0
            simp -dsimp -implicitDefEqProofs only [c0, m43, sF43, Nat.reduceEqDiff, ↓reduceIte, Nat.reduceAdd, Nat.reduceMul, Value.cells, Value.oneCell', eq_self, ne_eq, Int.reduceToNat, Int.reduceEq, Int.reduceLT, Int.reduceLE, Int.reduceNeg, if_true, if_false, reduceCtorEq, Nat.reduceSub, storeV_ptr, slcV_slice, ↓mwD, mwU]
            refine (from_c _ _ _ _).use ?_
            rintro r w' ⟨rfl, rfl⟩
            simp -dsimp -implicitDefEqProofs only [m43, sF43, Nat.reduceEqDiff, ↓reduceIte, Nat.reduceAdd, Nat.reduceMul, Value.cells, Value.oneCell', eq_self, ne_eq, Int.reduceToNat, Int.reduceEq, Int.reduceLT, Int.reduceLE, Int.reduceNeg, if_true, if_false, reduceCtorEq, Nat.reduceSub, storeV_ptr, slcV_slice, ↓mwD, mwU]
            exact ⟨by simp [rangesOf, eqfB, wtn], hx⟩
          · have hl' : ¬ A.length = 1 := by omega
            simp -dsimp -implicitDefEqProofs only [hl, m43, sF43, Nat.reduceEqDiff, ↓reduceIte, Nat.reduceAdd, Nat.reduceMul, Value.cells, Value.oneCell', eq_self, ne_eq, Int.reduceToNat, Int.reduceEq, Int.reduceLT, Int.reduceLE, Int.reduceNeg, if_true, if_false, reduceCtorEq, Nat.reduceSub, storeV_ptr, slcV_slice, ↓mwD, mwU]
            refine ⟨?_, hx⟩
            have : eqfB A (rangesOf 2) = false := by
              rw [← Bool.not_eq_true]; intro h; exact hl' (eqfB_length _ _ h)
            rw [this, Bool.and_false]
        · simp -dsimp -implicitDefEqProofs only [h12, m43, sF43, Nat.reduceEqDiff, ↓reduceIte, Nat.reduceAdd, Nat.reduceMul, Value.cells, Value.oneCell', eq_self, ne_eq, Int.reduceToNat, Int.reduceEq, Int.reduceLT, Int.reduceLE, Int.reduceNeg, if_true, if_false, reduceCtorEq, Nat.reduceSub, storeV_ptr, slcV_slice, ↓mwD, mwU]
          refine iteW_dec (fun h13 => ?_) (fun h13 => ?_)
          · subst h13
            rw [hv 3 (by decide)]
            simp -dsimp -implicitDefEqProofs only [m43, sF43, Nat.reduceEqDiff, ↓reduceIte, Nat.reduceAdd, Nat.reduceMul, Value.cells, Value.oneCell', eq_self, ne_eq, Int.reduceToNat, Int.reduceEq, Int.reduceLT, Int.reduceLE, Int.reduceNeg, if_true, if_false, reduceCtorEq, Nat.reduceSub, storeV_ptr, slcV_slice, ↓mwD, mwU]
            refine iteW_dec (fun hl => ?_) (fun hl => ?_)
            · have hl' : A.length = 2 := by omega
              obtain ⟨a0, a1, rfl⟩ : ∃ a0 a1, A = [a0, a1] := by
                rcases A with _ | ⟨a0, _ | ⟨a1, _ | ⟨a2, A⟩⟩⟩ <;> simp at hl'
                exact ⟨a0, a1, rfl⟩
              simp only [List.length_cons, List.length_nil, Nat.zero_add, Nat.reduceAdd] at hx
              obtain ⟨b, o, cap, hv', hc⟩ := hA.some (by simp)
              simp only [List.length_cons, List.length_nil, Nat.zero_add, Nat.reduceAdd] at hv'
              cases hv'
              have c0 := hx.cell (hc 0 a0 rfl)
              have c1 := hx.cell (hc 1 a1 rfl)
              simp only [Nat.add_zero] at c0
              simp -dsimp -implicitDefEqProofs only [c0, c1, m43, sF43, Nat.reduceEqDiff, ↓reduceIte, Nat.reduceAdd, Nat.reduceMul, Value.cells, Value.oneCell', eq_self, ne_eq, Int.reduceToNat, Int.reduceEq, Int.reduceLT, Int.reduceLE, Int.reduceNeg, if_true, if_false, reduceCtorEq, Nat.reduceSub, storeV_ptr, slcV_slice, ↓mwD, mwU]
              refine (from_c _ _ _ _).use ?_
              rintro r w' ⟨rfl, rfl⟩
              cases g0 : wtn a0 1 4096
              · simp -dsimp -implicitDefEqProofs only [c0, c1, m43, sF43, Nat.reduceEqDiff, ↓reduceIte, Nat.reduceAdd, Nat.reduceMul, Value.cells, Value.oneCell', eq_self, ne_eq, Int.reduceToNat, Int.reduceEq, Int.reduceLT, Int.reduceLE, Int.reduceNeg, if_true, if_false, reduceCtorEq, Nat.reduceSub, storeV_ptr, slcV_slice, ↓mwD, mwU]
                exact ⟨by simp [rangesOf, eqfB, g0], hx⟩
              · simp -dsimp -implicitDefEqProofs only [c0, c1, m43, sF43, Nat.reduceEqDiff, ↓reduceIte, Nat.reduceAdd, Nat.reduceMul, Value.cells, Value.oneCell', eq_self, ne_eq, Int.reduceToNat, Int.reduceEq, Int.reduceLT, Int.reduceLE, Int.reduceNeg, if_true, if_false, reduceCtorEq, Nat.reduceSub, storeV_ptr, slcV_slice, ↓mwD, mwU]
                refine (from_c _ _ _ _).use ?_
                rintro r w' ⟨rfl, rfl⟩
                simp -dsimp -implicitDefEqProofs only [c0, c1, m43, sF43, Nat.reduceEqDiff, ↓reduceIte, Nat.reduceAdd, Nat.reduceMul, Value.cells, Value.oneCell', eq_self, ne_eq, Int.reduceToNat, Int.reduceEq, Int.reduceLT, Int.reduceLE, Int.reduceNeg, if_true, if_false, reduceCtorEq, Nat.reduceSub, storeV_ptr, slcV_slice, ↓mwD, mwU]
                exact ⟨by simp [rangesOf, eqfB, g0, (by decide : wtn 3 1 7 = true)], hx⟩
            · have hl' : ¬ A.length = 2 := by omega
              simp -dsimp -implicitDefEqProofs only [hl, m43, sF43, Nat.reduceEqDiff, ↓reduceIte, Nat.reduceAdd, Nat.reduceMul, Value.cells, Value.oneCell', eq_self, ne_eq, Int.reduceToNat, Int.reduceEq, Int.reduceLT, Int.reduceLE, Int.reduceNeg, if_true, if_false, reduceCtorEq, Nat.reduceSub, storeV_ptr, slcV_slice, ↓mwD, mwU]
              refine ⟨?_, hx⟩
              have : eqfB A (rangesOf 3) = false := by
                rw [← Bool.not_eq_true]; intro h; exact hl' (eqfB_length _ _ h)
              rw [this, Bool.and_false]
          · simp -dsimp -implicitDefEqProofs only [h13, m43, sF43, Nat.reduceEqDiff, ↓reduceIte, Nat.reduceAdd, Nat.reduceMul, Value.cells, Value.oneCell', eq_self, ne_eq, Int.reduceToNat, Int.reduceEq, Int.reduceLT, Int.reduceLE, Int.reduceNeg, if_true, if_false, reduceCtorEq, Nat.reduceSub, storeV_ptr, slcV_slice, ↓mwD, mwU]
            refine iteW_dec (fun h15 => ?_) (fun h15 => ?_)
            · subst h15
              rw [hv 5 (by decide)]
              simp -dsimp -implicitDefEqProofs only [m43, sF43, Nat.reduceEqDiff, ↓reduceIte, Nat.reduceAdd, Nat.reduceMul, Value.cells, Value.oneCell', eq_self, ne_eq, Int.reduceToNat, Int.reduceEq, Int.reduceLT, Int.reduceLE, Int.reduceNeg, if_true, if_false, reduceCtorEq, Nat.reduceSub, storeV_ptr, slcV_slice, ↓mwD, mwU]
              refine iteW_dec (fun hl => ?_) (fun hl => ?_)
              · have hl' : A.length = 4 := by omega
                obtain ⟨a0, a1, a2, a3, rfl⟩ : ∃ a0 a1 a2 a3, A = [a0, a1, a2, a3] := by
                  rcases A with _ | ⟨a0, _ | ⟨a1, _ | ⟨a2, _ | ⟨a3, _ | ⟨a4, A⟩⟩⟩⟩⟩ <;> simp at hl'
                  exact ⟨a0, a1, a2, a3, rfl⟩
                simp only [List.length_cons, List.length_nil, Nat.zero_add, Nat.reduceAdd] at hx
                obtain ⟨b, o, cap, hv', hc⟩ := hA.some (by simp)
                simp only [List.length_cons, List.length_nil, Nat.zero_add, Nat.reduceAdd] at hv'
                cases hv'
                have c0 := hx.cell (hc 0 a0 rfl)
                have c1 := hx.cell (hc 1 a1 rfl)
                have c2 := hx.cell (hc 2 a2 rfl)
                have c3 := hx.cell (hc 3 a3 rfl)
                simp only [Nat.add_zero] at c0
                simp -dsimp -implicitDefEqProofs only [c0, c1, c2, c3, m43, sF43, Nat.reduceEqDiff, ↓reduceIte, Nat.reduceAdd, Nat.reduceMul, Value.cells, Value.oneCell', eq_self, ne_eq, Int.reduceToNat, Int.reduceEq, Int.reduceLT, Int.reduceLE, Int.reduceNeg, if_true, if_false, reduceCtorEq, Nat.reduceSub, storeV_ptr, slcV_slice, ↓mwD, mwU]
                refine (press_c _ a0 a1 a2 a3 [] _ (hA.ext hx)).use ?_
                rintro r w' ⟨rfl, rfl⟩
                simp -dsimp -implicitDefEqProofs only [m43, sF43, Nat.reduceEqDiff, ↓reduceIte, Nat.reduceAdd, Nat.reduceMul, Value.cells, Value.oneCell', eq_self, ne_eq, Int.reduceToNat, Int.reduceEq, Int.reduceLT, Int.reduceLE, Int.reduceNeg, if_true, if_false, reduceCtorEq, Nat.reduceSub, storeV_ptr, slcV_slice, ↓mwD, mwU]
                exact ⟨by simp [rangesOf, wtn], hx⟩
              · have hl' : ¬ A.length = 4 := by omega
                simp -dsimp -implicitDefEqProofs only [hl, m43, sF43, Nat.reduceEqDiff, ↓reduceIte, Nat.reduceAdd, Nat.reduceMul, Value.cells, Value.oneCell', eq_self, ne_eq, Int.reduceToNat, Int.reduceEq, Int.reduceLT, Int.reduceLE, Int.reduceNeg, if_true, if_false, reduceCtorEq, Nat.reduceSub, storeV_ptr, slcV_slice, ↓mwD, mwU]
                refine ⟨?_, hx⟩
                have : eqfB A (rangesOf 5) = false := by
                  rw [← Bool.not_eq_true]; intro h; exact hl' (eqfB_length _ _ h)
                rw [this, Bool.and_false]
            · simp -dsimp -implicitDefEqProofs only [h15, m43, sF43, Nat.reduceEqDiff, ↓reduceIte, Nat.reduceAdd, Nat.reduceMul, Value.cells, Value.oneCell', eq_self, ne_eq, Int.reduceToNat, Int.reduceEq, Int.reduceLT, Int.reduceLE, Int.reduceNeg, if_true, if_false, reduceCtorEq, Nat.reduceSub, storeV_ptr, slcV_slice, ↓mwD, mwU]
              refine iteW_dec (fun h16 => ?_) (fun h16 => ?_)
              · subst h16
                rw [hv 6 (by decide)]
                simp -dsimp -implicitDefEqProofs only [m43, sF43, Nat.reduceEqDiff, ↓reduceIte, Nat.reduceAdd, Nat.reduceMul, Value.cells, Value.oneCell', eq_self, ne_eq, Int.reduceToNat, Int.reduceEq, Int.reduceLT, Int.reduceLE, Int.reduceNeg, if_true, if_false, reduceCtorEq, Nat.reduceSub, storeV_ptr, slcV_slice, ↓mwD, mwU]
                refine iteW_dec (fun hl => ?_) (fun hl => ?_)
                · have hl' : A.length = 2 := by omega
                  obtain ⟨a0, a1, rfl⟩ : ∃ a0 a1, A = [a0, a1] := by
                    rcases A with _ | ⟨a0, _ | ⟨a1, _ | ⟨a2, A⟩⟩⟩ <;> simp at hl'
                    exact ⟨a0, a1, rfl⟩
                  simp only [List.length_cons, List.length_nil, Nat.zero_add, Nat.reduceAdd] at hx
                  obtain ⟨b, o, cap, hv', hc⟩ := hA.some (by simp)
                  simp only [List.length_cons, List.length_nil, Nat.zero_add, Nat.reduceAdd] at hv'
                  cases hv'
                  have c0 := hx.cell (hc 0 a0 rfl)
                  have c1 := hx.cell (hc 1 a1 rfl)
                  simp only [Nat.add_zero] at c0
                  simp -dsimp -implicitDefEqProofs only [c0, c1, m43, sF43, Nat.reduceEqDiff, ↓reduceIte, Nat.reduceAdd, Nat.reduceMul, Value.cells, Value.oneCell', eq_self, ne_eq, Int.reduceToNat, Int.reduceEq, Int.reduceLT, Int.reduceLE, Int.reduceNeg, if_true, if_false, reduceCtorEq, Nat.reduceSub, storeV_ptr, slcV_slice, ↓mwD, mwU]
                  refine (from_c _ _ _ _).use ?_
                  rintro r w' ⟨rfl, rfl⟩
                  cases g0 : wtn a0 0 8388607
                  · simp -dsimp -implicitDefEqProofs only [c0, c1, m43, sF43, Nat.reduceEqDiff, ↓reduceIte, Nat.reduceAdd, Nat.reduceMul, Value.cells, Value.oneCell', eq_self, ne_eq, Int.reduceToNat, Int.reduceEq, Int.reduceLT, Int.reduceLE, Int.reduceNeg, if_true, if_false, reduceCtorEq, Nat.reduceSub, storeV_ptr, slcV_slice, ↓mwD, mwU]
                    exact ⟨by simp [rangesOf, eqfB, g0], hx⟩
                  · simp -dsimp -implicitDefEqProofs only [c0, c1, m43, sF43, Nat.reduceEqDiff, ↓reduceIte, Nat.reduceAdd, Nat.reduceMul, Value.cells, Value.oneCell', eq_self, ne_eq, Int.reduceToNat, Int.reduceEq, Int.reduceLT, Int.reduceLE, Int.reduceNeg, if_true, if_false, reduceCtorEq, Nat.reduceSub, storeV_ptr, slcV_slice, ↓mwD, mwU]
                    refine (from_c _ _ _ _).use ?_
                    rintro r w' ⟨rfl, rfl⟩
                    simp -dsimp -implicitDefEqProofs only [c0, c1, m43, sF43, Nat.reduceEqDiff, ↓reduceIte, Nat.reduceAdd, Nat.reduceMul, Value.cells, Value.oneCell', eq_self, ne_eq, Int.reduceToNat, Int.reduceEq, Int.reduceLT, Int.reduceLE, Int.reduceNeg, if_true, if_false, reduceCtorEq, Nat.reduceSub, storeV_ptr, slcV_slice, ↓mwD, mwU]
                    exact ⟨by simp [rangesOf, eqfB, g0, (by decide : wtn 6 1 7 = true)], hx⟩
                · have hl' : ¬ A.length = 2 := by omega
                  simp -dsimp -implicitDefEqProofs only [hl, m43, sF43, Nat.reduceEqDiff, ↓reduceIte, Nat.reduceAdd, Nat.reduceMul, Value.cells, Value.oneCell', eq_self, ne_eq, Int.reduceToNat, Int.reduceEq, Int.reduceLT, Int.reduceLE, Int.reduceNeg, if_true, if_false, reduceCtorEq, Nat.reduceSub, storeV_ptr, slcV_slice, ↓mwD, mwU]
                  refine ⟨?_, hx⟩
                  have : eqfB A (rangesOf 6) = false := by
                    rw [← Bool.not_eq_true]; intro h; exact hl' (eqfB_length _ _ h)
                  rw [this, Bool.and_false]
              · simp -dsimp -implicitDefEqProofs only [h16, m43, sF43, Nat.reduceEqDiff, ↓reduceIte, Nat.reduceAdd, Nat.reduceMul, Value.cells, Value.oneCell', eq_self, ne_eq, Int.reduceToNat, Int.reduceEq, Int.reduceLT, Int.reduceLE, Int.reduceNeg, if_true, if_false, reduceCtorEq, Nat.reduceSub, storeV_ptr, slcV_slice, ↓mwD, mwU]
                refine iteW_dec (fun h17 => ?_) (fun h17 => ?_)
                · subst h17
                  rw [hv 7 (by decide)]
                  simp -dsimp -implicitDefEqProofs only [m43, sF43, Nat.reduceEqDiff, ↓reduceIte, Nat.reduceAdd, Nat.reduceMul, Value.cells, Value.oneCell', eq_self, ne_eq, Int.reduceToNat, Int.reduceEq, Int.reduceLT, Int.reduceLE, Int.reduceNeg, if_true, if_false, reduceCtorEq, Nat.reduceSub, storeV_ptr, slcV_slice, ↓mwD, mwU]
                  refine iteW_dec (fun hl => ?_) (fun hl => ?_)
                  · have hl' : A.length = 5 := by omega
                    obtain ⟨a0, a1, a2, a3, a4, rfl⟩ : ∃ a0 a1 a2 a3 a4, A = [a0, a1, a2, a3, a4] := by
                      rcases A with _ | ⟨a0, _ | ⟨a1, _ | ⟨a2, _ | ⟨a3, _ | ⟨a4, _ | ⟨a5, A⟩⟩⟩⟩⟩⟩ <;> simp at hl'
                      exact ⟨a0, a1, a2, a3, a4, rfl⟩
                    simp only [List.length_cons, List.length_nil, Nat.zero_add, Nat.reduceAdd] at hx
                    obtain ⟨b, o, cap, hv', hc⟩ := hA.some (by simp)
                    simp only [List.length_cons, List.length_nil, Nat.zero_add, Nat.reduceAdd] at hv'
                    cases hv'
                    have c0 := hx.cell (hc 0 a0 rfl)
                    have c1 := hx.cell (hc 1 a1 rfl)
                    have c2 := hx.cell (hc 2 a2 rfl)
                    have c3 := hx.cell (hc 3 a3 rfl)
                    have c4 := hx.cell (hc 4 a4 rfl)
                    simp only [Nat.add_zero] at c0
                    simp -dsimp -implicitDefEqProofs only [c0, c1, c2, c3, c4, m43, sF43, Nat.reduceEqDiff, ↓reduceIte, Nat.reduceAdd, Nat.reduceMul, Value.cells, Value.oneCell', eq_self, ne_eq, Int.reduceToNat, Int.reduceEq, Int.reduceLT, Int.reduceLE, Int.reduceNeg, if_true, if_false, reduceCtorEq, Nat.reduceSub, storeV_ptr, slcV_slice, ↓mwD, mwU]
                    refine (press_c _ a0 a1 a2 a3 [a4] _ (hA.ext hx)).use ?_
                    rintro r w' ⟨rfl, rfl⟩
                    cases g0 : eqfB [a0, a1, a2, a3] comp
                    · simp -dsimp -implicitDefEqProofs only [c0, c1, c2, c3, c4, m43, sF43, Nat.reduceEqDiff, ↓reduceIte, Nat.reduceAdd, Nat.reduceMul, Value.cells, Value.oneCell', eq_self, ne_eq, Int.reduceToNat, Int.reduceEq, Int.reduceLT, Int.reduceLE, Int.reduceNeg, if_true, if_false, reduceCtorEq, Nat.reduceSub, storeV_ptr, slcV_slice, ↓mwD, mwU]
                      exact ⟨by simp [eqfB, comp] at g0; simp [rangesOf, eqfB, comp]; intro _ x1 x2 x3 x4; simp [x1, x2, x3, x4] at g0, hx⟩
                    · simp -dsimp -implicitDefEqProofs only [c0, c1, c2, c3, c4, m43, sF43, Nat.reduceEqDiff, ↓reduceIte, Nat.reduceAdd, Nat.reduceMul, Value.cells, Value.oneCell', eq_self, ne_eq, Int.reduceToNat, Int.reduceEq, Int.reduceLT, Int.reduceLE, Int.reduceNeg, if_true, if_false, reduceCtorEq, Nat.reduceSub, storeV_ptr, slcV_slice, ↓mwD, mwU]
                      refine (from_c _ _ _ _).use ?_
                      rintro r w' ⟨rfl, rfl⟩
                      simp -dsimp -implicitDefEqProofs only [c0, c1, c2, c3, c4, m43, sF43, Nat.reduceEqDiff, ↓reduceIte, Nat.reduceAdd, Nat.reduceMul, Value.cells, Value.oneCell', eq_self, ne_eq, Int.reduceToNat, Int.reduceEq, Int.reduceLT, Int.reduceLE, Int.reduceNeg, if_true, if_false, reduceCtorEq, Nat.reduceSub, storeV_ptr, slcV_slice, ↓mwD, mwU]
                      exact ⟨by simp [eqfB, comp] at g0; simp [rangesOf, eqfB, comp, g0, (by decide : wtn 7 1 7 = true)], hx⟩
                  · have hl' : ¬ A.length = 5 := by omega
                    simp -dsimp -implicitDefEqProofs only [hl, m43, sF43, Nat.reduceEqDiff, ↓reduceIte, Nat.reduceAdd, Nat.reduceMul, Value.cells, Value.oneCell', eq_self, ne_eq, Int.reduceToNat, Int.reduceEq, Int.reduceLT, Int.reduceLE, Int.reduceNeg, if_true, if_false, reduceCtorEq, Nat.reduceSub, storeV_ptr, slcV_slice, ↓mwD, mwU]
                    refine ⟨?_, hx⟩
                    have : eqfB A (rangesOf 7) = false := by
                      rw [← Bool.not_eq_true]; intro h; exact hl' (eqfB_length _ _ h)
                    rw [this, Bool.and_false]
                · simp -dsimp -implicitDefEqProofs only [h17, m43, sF43, Nat.reduceEqDiff, ↓reduceIte, Nat.reduceAdd, Nat.reduceMul, Value.cells, Value.oneCell', eq_self, ne_eq, Int.reduceToNat, Int.reduceEq, Int.reduceLT, Int.reduceLE, Int.reduceNeg, if_true, if_false, reduceCtorEq, Nat.reduceSub, storeV_ptr, slcV_slice, ↓mwD, mwU]
                  refine ⟨?_, hx⟩
                  have : validB k A T = false := by
                    rw [← Bool.not_eq_true]; intro h; cases valid_shape h <;> simp_all
                  rw [this]

end Go.Proofs.YtefcfnmmpnjjjaaGreatDoor

/- The law's own comparison, the reference's Samples, Flush. -/
import Derived.Test.YtefcfnmmpnjjjaaGreatDoorQbEffQ
namespace Go.Proofs.YtefcfnmmpnjjjaaGreatDoor
open Go.RowKit
set_option linter.unusedSimpArgs false

theorem ints_c {w : World} {v u : Value} {a b : List Int} (ha : SlI w v a) (hb : SlI w u b) : Rets Go.Proofs.Tryz.prog 13 #[v, u] w fun r w' => r = .bool (decide (a = b)) ∧ Ext w w' := by
  obtain ⟨p, cp, rfl, _, _⟩ := ha.shape
  obtain ⟨q, cq, rfl, hq1, hq2⟩ := hb.shape
  refine en13 ?_
  simp -dsimp -implicitDefEqProofs only [m13, sF13, Nat.reduceEqDiff, ↓reduceIte, Nat.reduceAdd, Nat.reduceMul, Value.cells, Value.oneCell', eq_self, ne_eq, Int.reduceToNat, Int.reduceEq, Int.reduceLT, Int.reduceLE, Int.reduceNeg, if_true, if_false, reduceCtorEq, Nat.reduceSub, storeV_ptr, slcV_slice, ↓mwD, mwU]
  refine iteW_dec (fun hl => ?_) (fun hl => ?_)
  · have hl' : a.length = b.length := by omega
    simp -dsimp -implicitDefEqProofs only [m13, sF13, Nat.reduceEqDiff, ↓reduceIte, Nat.reduceAdd, Nat.reduceMul, Value.cells, Value.oneCell', eq_self, ne_eq, Int.reduceToNat, Int.reduceEq, Int.reduceLT, Int.reduceLE, Int.reduceNeg, if_true, if_false, reduceCtorEq, Nat.reduceSub, storeV_ptr, slcV_slice, ↓mwD, mwU]
    refine mwpB_loop (fun e ds wl => ∃ n : Nat, n ≤ a.length ∧ e 5 = .int .i64 n ∧ e 0 = .slice p a.length cp ∧ e 1 = .slice q b.length cq ∧ ds = [] ∧ Ext w wl ∧ a.take n = b.take n) (fun e _ => a.length - (intOf (e 5)).toNat) ?_ ?_
    · simp -dsimp -implicitDefEqProofs only [m13, sF13, Nat.reduceEqDiff, ↓reduceIte, Nat.reduceAdd, Nat.reduceMul, Value.cells, Value.oneCell', eq_self, ne_eq, Int.reduceToNat, Int.reduceEq, Int.reduceLT, Int.reduceLE, Int.reduceNeg, if_true, if_false, reduceCtorEq, Nat.reduceSub, storeV_ptr, slcV_slice, ↓mwD, mwU]
      exact ⟨0, by omega, rfl, Ext.refl _, by simp⟩
    · rintro e ds wl ⟨n, hn, h5, h0, h1, rfl, he, hall⟩
      simp -dsimp -implicitDefEqProofs only [h5, h0, h1, m13, sF13, Nat.reduceEqDiff, ↓reduceIte, Nat.reduceAdd, Nat.reduceMul, Value.cells, Value.oneCell', eq_self, ne_eq, Int.reduceToNat, Int.reduceEq, Int.reduceLT, Int.reduceLE, Int.reduceNeg, if_true, if_false, reduceCtorEq, Nat.reduceSub, storeV_ptr, slcV_slice, ↓mwD, mwU]
      refine iteW_dec (fun hlt => ?_) (fun hge => ?_)
      · have hnl : n < a.length := by omega
        have hnb : n < b.length := by omega
        obtain ⟨ba, oa, ca, hva, hca⟩ := ha.some (by omega)
        obtain ⟨bb, ob, cb, hvb, hcb⟩ := hb.some (by omega)
        cases hva
        cases hvb
        have k1 := he.cell (hca n a[n] (by simp [hnl]))
        have k2 := he.cell (hcb n b[n] (by simp [hnb]))
        have hb1 : (0 : Int) ≤ n ∧ (n : Int) < a.length := by omega
        have hb2 : (0 : Int) ≤ n ∧ (n : Int) < b.length := by omega
        have hw1 := w64_succ hnb (Nat.le_trans hq1 hq2)
        simp -dsimp -implicitDefEqProofs only [h5, h0, h1, m13, sF13, Nat.reduceEqDiff, ↓reduceIte, Nat.reduceAdd, Nat.reduceMul, Value.cells, Value.oneCell', eq_self, ne_eq, Int.reduceToNat, Int.reduceEq, Int.reduceLT, Int.reduceLE, Int.reduceNeg, if_true, if_false, reduceCtorEq, Nat.reduceSub, storeV_ptr, slcV_slice, ↓mwD, mwU]
        refine mwpB_drawE ?_
        simp -dsimp -implicitDefEqProofs only [h5, h0, h1, hb1, hb2, and_self, k1, k2, m13, sF13, Nat.reduceEqDiff, ↓reduceIte, Nat.reduceAdd, Nat.reduceMul, Value.cells, Value.oneCell', eq_self, ne_eq, Int.reduceToNat, Int.reduceEq, Int.reduceLT, Int.reduceLE, Int.reduceNeg, if_true, if_false, reduceCtorEq, Nat.reduceSub, storeV_ptr, slcV_slice, ↓mwD, mwU]
        refine iteW_dec (fun heq => ?_) (fun hne => ?_)
        · simp -dsimp -implicitDefEqProofs only [h5, h0, h1, hw1, m13, sF13, Nat.reduceEqDiff, ↓reduceIte, Nat.reduceAdd, Nat.reduceMul, Value.cells, Value.oneCell', eq_self, ne_eq, Int.reduceToNat, Int.reduceEq, Int.reduceLT, Int.reduceLE, Int.reduceNeg, if_true, if_false, reduceCtorEq, Nat.reduceSub, storeV_ptr, slcV_slice, ↓mwD, mwU]
          exact ⟨⟨n + 1, by omega, rfl, he.drew', by rw [List.take_add_one, List.take_add_one, hall, List.getElem?_eq_getElem hnl, List.getElem?_eq_getElem hnb, heq]⟩, by simp only [intOf]; omega⟩
        · simp -dsimp -implicitDefEqProofs only [m13, sF13, Nat.reduceEqDiff, ↓reduceIte, Nat.reduceAdd, Nat.reduceMul, Value.cells, Value.oneCell', eq_self, ne_eq, Int.reduceToNat, Int.reduceEq, Int.reduceLT, Int.reduceLE, Int.reduceNeg, if_true, if_false, reduceCtorEq, Nat.reduceSub, storeV_ptr, slcV_slice, ↓mwD, mwU]
          refine ⟨?_, he.drew'⟩
          have : ¬ a = b := by rintro rfl; exact hne rfl
          rw [decide_eq_false this]
      · have hnl : n = a.length := by omega
        subst hnl
        simp -dsimp -implicitDefEqProofs only [h5, h0, h1, m13, sF13, Nat.reduceEqDiff, ↓reduceIte, Nat.reduceAdd, Nat.reduceMul, Value.cells, Value.oneCell', eq_self, ne_eq, Int.reduceToNat, Int.reduceEq, Int.reduceLT, Int.reduceLE, Int.reduceNeg, if_true, if_false, reduceCtorEq, Nat.reduceSub, storeV_ptr, slcV_slice, ↓mwD, mwU]
        refine ⟨?_, he⟩
        have : a = b := by
          rw [List.take_length, hl', List.take_length] at hall
          exact hall
        rw [decide_eq_true this]
  · simp -dsimp -implicitDefEqProofs only [m13, sF13, Nat.reduceEqDiff, ↓reduceIte, Nat.reduceAdd, Nat.reduceMul, Value.cells, Value.oneCell', eq_self, ne_eq, Int.reduceToNat, Int.reduceEq, Int.reduceLT, Int.reduceLE, Int.reduceNeg, if_true, if_false, reduceCtorEq, Nat.reduceSub, storeV_ptr, slcV_slice, ↓mwD, mwU]
    refine ⟨?_, Ext.refl _⟩
    have : ¬ a = b := by rintro rfl; exact hl rfl
    rw [decide_eq_false this]

end Go.Proofs.YtefcfnmmpnjjjaaGreatDoor

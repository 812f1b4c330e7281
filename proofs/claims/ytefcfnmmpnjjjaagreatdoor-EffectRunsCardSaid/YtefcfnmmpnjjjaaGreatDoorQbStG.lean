/- The reference's units: their leaf functions, and one step. -/
import Derived.Test.YtefcfnmmpnjjjaaGreatDoorQbStA
namespace Go.Proofs.YtefcfnmmpnjjjaaGreatDoor
open Go.RowKit
set_option linter.unusedSimpArgs false

theorem refAgo_c {w : World} {v : Value} {P : List Int} {n : Int} (hP : SlI w v P) (h1 : 1 ≤ n) (h2 : n ≤ P.length) (hl : P.length ≤ 100000) : Rets Go.Proofs.Tryz.prog 83 #[v, .int .i64 n] w fun r w' => r = .int .i64 (P.reverse.getD (n - 1).toNat 0) ∧ w' = w := by
  obtain ⟨b, o, c, rfl, hc⟩ := hP.some (by omega)
  have hk : ((P.length : Int) - n).toNat < P.length := by omega
  have hc0 := hc ((P.length : Int) - n).toNat P[((P.length : Int) - n).toNat] (by simp [hk])
  have e1 : IntKind.i64.wrap ((P.length : Int) - n) = (((P.length : Int) - n).toNat : Nat) := by rw [w64 (by omega) (by omega)]; omega
  have hb : (0 : Int) ≤ (((P.length : Int) - n).toNat : Nat) ∧ ((((P.length : Int) - n).toNat : Nat) : Int) < P.length := by omega
  have hr : P.reverse.getD (n - 1).toNat 0 = P[((P.length : Int) - n).toNat] := by
    rw [List.getD_eq_getElem?_getD, List.getElem?_eq_getElem (by simp; omega), Option.getD_some, List.getElem_reverse]
    congr 1; omega
  refine en83 ?_
  simp -dsimp -implicitDefEqProofs only [e1, hb, hc0, and_self, m83, sF83, Nat.reduceEqDiff, ↓reduceIte, Nat.reduceAdd, Nat.reduceMul, Value.cells, Value.oneCell', eq_self, ne_eq, Int.reduceToNat, Int.reduceEq, Int.reduceLT, Int.reduceLE, Int.reduceNeg, if_true, if_false, reduceCtorEq, Nat.reduceSub, storeV_ptr, slcV_slice, ↓mwD, mwU]
  rw [hr]
theorem refKept_c (k : Int) (a t : Value) (x y : Int) (w : World) (ha : ∃ p n c, a = .slice p n c) (ht : ∃ p n c, t = .slice p n c) : Rets Go.Proofs.Tryz.prog 47 #[.agg #[.int .i64 k, a, t], .int .i64 x, .int .i64 y] w fun r w' => r = .int .i64 (if k = 3 then y else x) ∧ Ext w w' := by
  obtain ⟨pa, na, ca, rfl⟩ := ha
  obtain ⟨pt, nt, ct, rfl⟩ := ht
  refine en47 ?_
  simp -dsimp -implicitDefEqProofs only [m47, sF47, Nat.reduceEqDiff, ↓reduceIte, Nat.reduceAdd, Nat.reduceMul, Value.cells, Value.oneCell', eq_self, ne_eq, Int.reduceToNat, Int.reduceEq, Int.reduceLT, Int.reduceLE, Int.reduceNeg, if_true, if_false, reduceCtorEq, Nat.reduceSub, storeV_ptr, slcV_slice, ↓mwD, mwU]
  refine iteW_dec (fun h => ?_) (fun h => ?_)
  · simp -dsimp -implicitDefEqProofs only [h, m47, sF47, Nat.reduceEqDiff, ↓reduceIte, Nat.reduceAdd, Nat.reduceMul, Value.cells, Value.oneCell', eq_self, ne_eq, Int.reduceToNat, Int.reduceEq, Int.reduceLT, Int.reduceLE, Int.reduceNeg, if_true, if_false, reduceCtorEq, Nat.reduceSub, storeV_ptr, slcV_slice, ↓mwD, mwU]
    exact Ext.alloc _ _
  · simp -dsimp -implicitDefEqProofs only [h, m47, sF47, Nat.reduceEqDiff, ↓reduceIte, Nat.reduceAdd, Nat.reduceMul, Value.cells, Value.oneCell', eq_self, ne_eq, Int.reduceToNat, Int.reduceEq, Int.reduceLT, Int.reduceLE, Int.reduceNeg, if_true, if_false, reduceCtorEq, Nat.reduceSub, storeV_ptr, slcV_slice, ↓mwD, mwU]
    exact Ext.alloc _ _
/-- What a unit looks back on, the newest first. -/
def histU : US → List Int
  | .gain _ => []
  | .delay h => h
  | .echo h _ => h
  | .filter h _ => h
  | .press .. => []
  | .gate .. => []
  | .look _ _ _ _ _ h => h
theorem refReach_c (k : Int) (a t : Value) (A T : List Int) (w : World) (hs : VShape k A T) (hA : SlI w a A) (hT : SlI w t T) : Rets Go.Proofs.Tryz.prog 44 #[.agg #[.int .i64 k, a, t]] w fun r w' => r = .int .i64 (histU (initU k A T)).length ∧ Ext w w' := by
  obtain ⟨pa, ca, rfl, _, _⟩ := hA.shape
  obtain ⟨pt, ct, rfl, _, _⟩ := hT.shape
  refine en44 ?_
  simp -dsimp -implicitDefEqProofs only [m44, sF44, Nat.reduceEqDiff, ↓reduceIte, Nat.reduceAdd, Nat.reduceMul, Value.cells, Value.oneCell', eq_self, ne_eq, Int.reduceToNat, Int.reduceEq, Int.reduceLT, Int.reduceLE, Int.reduceNeg, if_true, if_false, reduceCtorEq, Nat.reduceSub, storeV_ptr, slcV_slice, ↓mwD, mwU]
  cases hs with
  | gain g hg =>
    simp -dsimp -implicitDefEqProofs only [m44, sF44, Nat.reduceEqDiff, ↓reduceIte, Nat.reduceAdd, Nat.reduceMul, Value.cells, Value.oneCell', eq_self, ne_eq, Int.reduceToNat, Int.reduceEq, Int.reduceLT, Int.reduceLE, Int.reduceNeg, if_true, if_false, reduceCtorEq, Nat.reduceSub, storeV_ptr, slcV_slice, ↓mwD, mwU]
    exact ⟨by simp [initU, histU], Ext.alloc _ _⟩
  | delay n hn =>
    obtain ⟨b, o, c, hv, hc⟩ := hA.some (by simp)
    cases hv
    have hcx : ∀ u, (w.alloc u).cell? ⟨b, o, none⟩ = some (.int .i64 n) := fun u => (Ext.alloc w u).cell (hc 0 n rfl)
    simp -dsimp -implicitDefEqProofs only [hcx, m44, sF44, Nat.reduceEqDiff, ↓reduceIte, Nat.reduceAdd, Nat.reduceMul, Value.cells, Value.oneCell', eq_self, ne_eq, Int.reduceToNat, Int.reduceEq, Int.reduceLT, Int.reduceLE, Int.reduceNeg, if_true, if_false, reduceCtorEq, Nat.reduceSub, storeV_ptr, slcV_slice, ↓mwD, mwU]
    exact ⟨by simp [initU, histU]; omega, Ext.alloc _ _⟩
  | echo n g hn hg =>
    obtain ⟨b, o, c, hv, hc⟩ := hA.some (by simp)
    cases hv
    have hcx : ∀ u, (w.alloc u).cell? ⟨b, o, none⟩ = some (.int .i64 n) := fun u => (Ext.alloc w u).cell (hc 0 n rfl)
    simp -dsimp -implicitDefEqProofs only [hcx, m44, sF44, Nat.reduceEqDiff, ↓reduceIte, Nat.reduceAdd, Nat.reduceMul, Value.cells, Value.oneCell', eq_self, ne_eq, Int.reduceToNat, Int.reduceEq, Int.reduceLT, Int.reduceLE, Int.reduceNeg, if_true, if_false, reduceCtorEq, Nat.reduceSub, storeV_ptr, slcV_slice, ↓mwD, mwU]
    exact ⟨by simp [initU, histU]; omega, Ext.alloc _ _⟩
  | filter _ hT0 =>
    have hl := taps_len hT0
    have e1 : IntKind.i64.wrap ((T.length : Int) - 1) = ((T.length - 1 : Nat) : Int) := by rw [w64 (by omega) (by omega)]; omega
    simp -dsimp -implicitDefEqProofs only [e1, m44, sF44, Nat.reduceEqDiff, ↓reduceIte, Nat.reduceAdd, Nat.reduceMul, Value.cells, Value.oneCell', eq_self, ne_eq, Int.reduceToNat, Int.reduceEq, Int.reduceLT, Int.reduceLE, Int.reduceNeg, if_true, if_false, reduceCtorEq, Nat.reduceSub, storeV_ptr, slcV_slice, ↓mwD, mwU]
    exact ⟨by simp [initU, histU], Ext.alloc _ _⟩
  | press c0 c1 c2 c3 _ _ _ _ =>
    simp -dsimp -implicitDefEqProofs only [m44, sF44, Nat.reduceEqDiff, ↓reduceIte, Nat.reduceAdd, Nat.reduceMul, Value.cells, Value.oneCell', eq_self, ne_eq, Int.reduceToNat, Int.reduceEq, Int.reduceLT, Int.reduceLE, Int.reduceNeg, if_true, if_false, reduceCtorEq, Nat.reduceSub, storeV_ptr, slcV_slice, ↓mwD, mwU]
    exact ⟨by simp [initU, histU], Ext.alloc _ _⟩
  | gate n g _ _ =>
    simp -dsimp -implicitDefEqProofs only [m44, sF44, Nat.reduceEqDiff, ↓reduceIte, Nat.reduceAdd, Nat.reduceMul, Value.cells, Value.oneCell', eq_self, ne_eq, Int.reduceToNat, Int.reduceEq, Int.reduceLT, Int.reduceLE, Int.reduceNeg, if_true, if_false, reduceCtorEq, Nat.reduceSub, storeV_ptr, slcV_slice, ↓mwD, mwU]
    exact ⟨by simp [initU, histU], Ext.alloc _ _⟩
  | look c0 c1 c2 c3 n _ _ _ _ h4 =>
    obtain ⟨b, o, c, hv, hc⟩ := hA.some (by simp)
    cases hv
    have hcx : ∀ u, (w.alloc u).cell? ⟨b, o + 4, none⟩ = some (.int .i64 n) := fun u => (Ext.alloc w u).cell (hc 4 n rfl)
    simp -dsimp -implicitDefEqProofs only [hcx, m44, sF44, Nat.reduceEqDiff, ↓reduceIte, Nat.reduceAdd, Nat.reduceMul, Value.cells, Value.oneCell', eq_self, ne_eq, Int.reduceToNat, Int.reduceEq, Int.reduceLT, Int.reduceLE, Int.reduceNeg, if_true, if_false, reduceCtorEq, Nat.reduceSub, storeV_ptr, slcV_slice, ↓mwD, mwU]
    exact ⟨by simp [initU, histU]; omega, Ext.alloc _ _⟩
theorem refFollow_c {w : World} {v : Value} {th ra at_ re lev x : Int} {R : List Int} (hA : SlI w v (th :: ra :: at_ :: re :: R)) (hx : Smp x) (a1 : 1 ≤ at_) (a2 : at_ ≤ 65536) (r1 : 1 ≤ re) (r2 : re ≤ 65536) (l1 : 0 ≤ lev) (l2 : lev ≤ 8388607) :
    Rets Go.Proofs.Tryz.prog 84 #[v, .int .i64 lev, .int .i64 x] w fun r w' => r = .int .i64 (levI at_ re lev x) ∧ w' = w := by
  obtain ⟨b, o, c, rfl, hc⟩ := hA.some (by simp)
  have c2 : w.cell? ⟨b, o + 2, none⟩ = some (.int .i64 at_) := hc 2 at_ rfl
  have c3 : w.cell? ⟨b, o + 3, none⟩ = some (.int .i64 re) := hc 3 re rfl
  have hx1 := hx.1
  have hx2 := hx.2
  have hax := absI_bd hx1 hx2
  have hlev := levI_bd (at_ := at_) (re := re) hx1 hx2 a1 a2 r1 r2 l1 l2
  have hneg : IntKind.i64.wrap (0 - x) = -x := by rw [w64 (by omega) (by omega)]; omega
  generalize hN : (th :: ra :: at_ :: re :: R).length = N at *
  have hN4 : 4 ≤ N := by rw [← hN]; simp
  have hl2 : (2 : Int) < (N : Nat) := by omega
  have hl3 : (3 : Int) < (N : Nat) := by omega
  have hsub : IntKind.i64.wrap (absI x - lev) = absI x - lev := by rw [w64 (by omega) (by omega)]
  have key : ∀ k, 1 ≤ k → k ≤ 65536 → k = (if lev < absI x then at_ else re) → IntKind.i64.wrap ((absI x - lev) * k) = (absI x - lev) * k ∧ -4611686018427320000 ≤ (absI x - lev) * k ∧ (absI x - lev) * k ≤ 4611686018427320000 ∧ IntKind.i64.wrap (lev + rnd ((absI x - lev) * k)) = levI at_ re lev x := by
    intro k k1 k2 hk
    have hm := mul_bd (d := absI x - lev) (D := 8388607) (k := k) (K := 65536) (by omega) (by omega) (by omega) k2 (by omega)
    have e : levI at_ re lev x = lev + rnd ((absI x - lev) * k) := by unfold levI; rw [← hk]
    refine ⟨w64 (by omega) (by omega), by omega, by omega, ?_⟩
    rw [← e, w64 (by omega) (by omega)]
  have rest : ∀ y, y = absI x → True := fun _ _ => trivial
  refine en84 ?_
  simp -dsimp -implicitDefEqProofs only [hneg, m84, sF84, Nat.reduceEqDiff, ↓reduceIte, Nat.reduceAdd, Nat.reduceMul, Value.cells, Value.oneCell', eq_self, ne_eq, Int.reduceToNat, Int.reduceEq, Int.reduceLT, Int.reduceLE, Int.reduceNeg, if_true, if_false, reduceCtorEq, Nat.reduceSub, storeV_ptr, slcV_slice, ↓mwD, mwU]
  refine iteW_dec (fun hneg0 => ?_) (fun hneg0 => ?_)
  · have hab : -x = absI x := by unfold absI; rw [if_pos (by omega)]
    simp -dsimp -implicitDefEqProofs only [hneg, hab, m84, sF84, Nat.reduceEqDiff, ↓reduceIte, Nat.reduceAdd, Nat.reduceMul, Value.cells, Value.oneCell', eq_self, ne_eq, Int.reduceToNat, Int.reduceEq, Int.reduceLT, Int.reduceLE, Int.reduceNeg, if_true, if_false, reduceCtorEq, Nat.reduceSub, storeV_ptr, slcV_slice, ↓mwD, mwU]
    refine iteW_dec (fun hgt => ?_) (fun hle => ?_)
    · obtain ⟨k1, k2, k3, k4⟩ := key at_ a1 a2 (by rw [if_pos hgt])
      simp -dsimp -implicitDefEqProofs only [hsub, hl2, c2, k1, m84, sF84, Nat.reduceEqDiff, ↓reduceIte, Nat.reduceAdd, Nat.reduceMul, Value.cells, Value.oneCell', eq_self, ne_eq, Int.reduceToNat, Int.reduceEq, Int.reduceLT, Int.reduceLE, Int.reduceNeg, if_true, if_false, reduceCtorEq, Nat.reduceSub, storeV_ptr, slcV_slice, ↓mwD, mwU]
      refine (Rounded_c _ k2 k3 _).use ?_
      rintro v w1 ⟨rfl, rfl⟩
      simp -dsimp -implicitDefEqProofs only [k4, m84, sF84, Nat.reduceEqDiff, ↓reduceIte, Nat.reduceAdd, Nat.reduceMul, Value.cells, Value.oneCell', eq_self, ne_eq, Int.reduceToNat, Int.reduceEq, Int.reduceLT, Int.reduceLE, Int.reduceNeg, if_true, if_false, reduceCtorEq, Nat.reduceSub, storeV_ptr, slcV_slice, ↓mwD, mwU]
    · obtain ⟨k1, k2, k3, k4⟩ := key re r1 r2 (by rw [if_neg hle])
      simp -dsimp -implicitDefEqProofs only [hsub, hl3, c3, k1, m84, sF84, Nat.reduceEqDiff, ↓reduceIte, Nat.reduceAdd, Nat.reduceMul, Value.cells, Value.oneCell', eq_self, ne_eq, Int.reduceToNat, Int.reduceEq, Int.reduceLT, Int.reduceLE, Int.reduceNeg, if_true, if_false, reduceCtorEq, Nat.reduceSub, storeV_ptr, slcV_slice, ↓mwD, mwU]
      refine (Rounded_c _ k2 k3 _).use ?_
      rintro v w1 ⟨rfl, rfl⟩
      simp -dsimp -implicitDefEqProofs only [k4, m84, sF84, Nat.reduceEqDiff, ↓reduceIte, Nat.reduceAdd, Nat.reduceMul, Value.cells, Value.oneCell', eq_self, ne_eq, Int.reduceToNat, Int.reduceEq, Int.reduceLT, Int.reduceLE, Int.reduceNeg, if_true, if_false, reduceCtorEq, Nat.reduceSub, storeV_ptr, slcV_slice, ↓mwD, mwU]
  · have hab : x = absI x := by unfold absI; rw [if_neg (by omega)]
    have hsub' : IntKind.i64.wrap (x - lev) = absI x - lev := by rw [w64 (by omega) (by omega)]; omega
    simp -dsimp -implicitDefEqProofs only [hneg, m84, sF84, Nat.reduceEqDiff, ↓reduceIte, Nat.reduceAdd, Nat.reduceMul, Value.cells, Value.oneCell', eq_self, ne_eq, Int.reduceToNat, Int.reduceEq, Int.reduceLT, Int.reduceLE, Int.reduceNeg, if_true, if_false, reduceCtorEq, Nat.reduceSub, storeV_ptr, slcV_slice, ↓mwD, mwU]
    refine iteW_dec (fun hgt => ?_) (fun hle => ?_)
    · obtain ⟨k1, k2, k3, k4⟩ := key at_ a1 a2 (by rw [if_pos (by omega)])
      simp -dsimp -implicitDefEqProofs only [hsub', hl2, c2, k1, m84, sF84, Nat.reduceEqDiff, ↓reduceIte, Nat.reduceAdd, Nat.reduceMul, Value.cells, Value.oneCell', eq_self, ne_eq, Int.reduceToNat, Int.reduceEq, Int.reduceLT, Int.reduceLE, Int.reduceNeg, if_true, if_false, reduceCtorEq, Nat.reduceSub, storeV_ptr, slcV_slice, ↓mwD, mwU]
      refine (Rounded_c _ k2 k3 _).use ?_
      rintro v w1 ⟨rfl, rfl⟩
      simp -dsimp -implicitDefEqProofs only [k4, m84, sF84, Nat.reduceEqDiff, ↓reduceIte, Nat.reduceAdd, Nat.reduceMul, Value.cells, Value.oneCell', eq_self, ne_eq, Int.reduceToNat, Int.reduceEq, Int.reduceLT, Int.reduceLE, Int.reduceNeg, if_true, if_false, reduceCtorEq, Nat.reduceSub, storeV_ptr, slcV_slice, ↓mwD, mwU]
    · obtain ⟨k1, k2, k3, k4⟩ := key re r1 r2 (by rw [if_neg (by omega)])
      simp -dsimp -implicitDefEqProofs only [hsub', hl3, c3, k1, m84, sF84, Nat.reduceEqDiff, ↓reduceIte, Nat.reduceAdd, Nat.reduceMul, Value.cells, Value.oneCell', eq_self, ne_eq, Int.reduceToNat, Int.reduceEq, Int.reduceLT, Int.reduceLE, Int.reduceNeg, if_true, if_false, reduceCtorEq, Nat.reduceSub, storeV_ptr, slcV_slice, ↓mwD, mwU]
      refine (Rounded_c _ k2 k3 _).use ?_
      rintro v w1 ⟨rfl, rfl⟩
      simp -dsimp -implicitDefEqProofs only [k4, m84, sF84, Nat.reduceEqDiff, ↓reduceIte, Nat.reduceAdd, Nat.reduceMul, Value.cells, Value.oneCell', eq_self, ne_eq, Int.reduceToNat, Int.reduceEq, Int.reduceLT, Int.reduceLE, Int.reduceNeg, if_true, if_false, reduceCtorEq, Nat.reduceSub, storeV_ptr, slcV_slice, ↓mwD, mwU]
theorem refGain_c {w : World} {v : Value} {th ra lev : Int} {R : List Int} (hA : SlI w v (th :: ra :: R)) (t1 : 0 ≤ th) (t2 : th ≤ 8388607) (p1 : 65536 ≤ ra) (l1 : 0 ≤ lev) (l2 : lev ≤ 8388607) :
    Rets Go.Proofs.Tryz.prog 85 #[v, .int .i64 lev] w fun r w' => r = .int .i64 (folI th ra lev) ∧ Ext w w' := by
  obtain ⟨b, o, c, rfl, hc⟩ := hA.some (by simp)
  have c0 : w.cell? ⟨b, o, none⟩ = some (.int .i64 th) := hc 0 th rfl
  have c1 : w.cell? ⟨b, o + 1, none⟩ = some (.int .i64 ra) := hc 1 ra rfl
  generalize hN : (th :: ra :: R).length = N at *
  have hN4 : 2 ≤ N := by rw [← hN]; simp
  have g0 : (0 : Int) < (N : Nat) := by omega
  have g1 : (1 : Int) < (N : Nat) := by omega
  refine en85 ?_
  simp -dsimp -implicitDefEqProofs only [c0, g0, m85, sF85, Nat.reduceEqDiff, ↓reduceIte, Nat.reduceAdd, Nat.reduceMul, Value.cells, Value.oneCell', eq_self, ne_eq, Int.reduceToNat, Int.reduceEq, Int.reduceLT, Int.reduceLE, Int.reduceNeg, if_true, if_false, reduceCtorEq, Nat.reduceSub, storeV_ptr, slcV_slice, ↓mwD, mwU]
  refine iteW_dec (fun hth => ?_) (fun hth => ?_)
  · simp -dsimp -implicitDefEqProofs only [m85, sF85, Nat.reduceEqDiff, ↓reduceIte, Nat.reduceAdd, Nat.reduceMul, Value.cells, Value.oneCell', eq_self, ne_eq, Int.reduceToNat, Int.reduceEq, Int.reduceLT, Int.reduceLE, Int.reduceNeg, if_true, if_false, reduceCtorEq, Nat.reduceSub, storeV_ptr, slcV_slice, ↓mwD, mwU]
    exact ⟨by rw [folI, if_pos hth], Ext.refl _⟩
  · have hq0 : 0 ≤ (lev - th) * 65536 * 65536 / ra := Int.ediv_nonneg (by omega) (by omega)
    have hq : (lev - th) * 65536 * 65536 / ra ≤ (lev - th) * 65536 := by
      apply Int.ediv_le_of_le_mul (by omega)
      exact Int.mul_le_mul_of_nonneg_left p1 (by omega)
    have hf := folI_bd (th := th) (ra := ra) (lev := lev) t1 p1 l1
    have e1 : IntKind.i64.wrap (th * 65536) = th * 65536 := w64 (by omega) (by omega)
    have e2 : IntKind.i64.wrap (lev - th) = lev - th := w64 (by omega) (by omega)
    have e3 : IntKind.i64.wrap ((lev - th) * 65536) = (lev - th) * 65536 := w64 (by omega) (by omega)
    have e4 : IntKind.i64.wrap ((lev - th) * 65536 * 65536) = (lev - th) * 65536 * 65536 := w64 (by omega) (by omega)
    have e5 : ((lev - th) * 65536 * 65536).tdiv ra = (lev - th) * 65536 * 65536 / ra := Int.tdiv_eq_ediv_of_nonneg (by omega)
    have e6 : IntKind.i64.wrap ((lev - th) * 65536 * 65536 / ra) = (lev - th) * 65536 * 65536 / ra := w64 (by omega) (by omega)
    have e7 : IntKind.i64.wrap (th * 65536 + (lev - th) * 65536 * 65536 / ra) = th * 65536 + (lev - th) * 65536 * 65536 / ra := w64 (by omega) (by omega)
    have e8 : (th * 65536 + (lev - th) * 65536 * 65536 / ra).tdiv lev = folI th ra lev := by rw [folI, if_neg hth]; exact Int.tdiv_eq_ediv_of_nonneg (by omega)
    have e9 : IntKind.i64.wrap (folI th ra lev) = folI th ra lev := w64 (by omega) (by omega)
    have n1 : ¬ ra = 0 := by omega
    have n2 : ¬ lev = 0 := by omega
    simp -dsimp -implicitDefEqProofs only [m85, sF85, Nat.reduceEqDiff, ↓reduceIte, Nat.reduceAdd, Nat.reduceMul, Value.cells, Value.oneCell', eq_self, ne_eq, Int.reduceToNat, Int.reduceEq, Int.reduceLT, Int.reduceLE, Int.reduceNeg, if_true, if_false, reduceCtorEq, Nat.reduceSub, storeV_ptr, slcV_slice, ↓mwD, mwU]
    refine mwpB_drawE ?_
    simp -dsimp -implicitDefEqProofs only [c0, c1, g0, g1, e1, e2, e3, e4, e5, e6, e7, e8, e9, n1, n2, m85, sF85, Nat.reduceEqDiff, ↓reduceIte, Nat.reduceAdd, Nat.reduceMul, Value.cells, Value.oneCell', eq_self, ne_eq, Int.reduceToNat, Int.reduceEq, Int.reduceLT, Int.reduceLE, Int.reduceNeg, if_true, if_false, reduceCtorEq, Nat.reduceSub, storeV_ptr, slcV_slice, ↓mwD, mwU]
    exact Ext.drew _
end Go.Proofs.YtefcfnmmpnjjjaaGreatDoor

/- The level of a compressor: follow. -/
import Derived.Test.YtefcfnmmpnjjjaaGreatDoorQbEffF
namespace Go.Proofs.YtefcfnmmpnjjjaaGreatDoor
open Go.RowKit
set_option linter.unusedSimpArgs false

theorem mul_bd {d k D K : Int} (h1 : -D ≤ d) (h2 : d ≤ D) (hk : 0 ≤ k) (hK : k ≤ K) (h0 : 0 ≤ D) : -(D * K) ≤ d * k ∧ d * k ≤ D * K := by
  have a1 : d * k ≤ D * k := Int.mul_le_mul_of_nonneg_right h2 hk
  have a2 : D * k ≤ D * K := Int.mul_le_mul_of_nonneg_left hK h0
  have a3 : -d * k ≤ D * k := Int.mul_le_mul_of_nonneg_right (by omega) hk
  rw [Int.neg_mul] at a3
  omega
theorem mul_bd2 {d k D K : Int} (h1 : -D ≤ d) (h2 : d ≤ D) (hk : -K ≤ k) (hK : k ≤ K) (h0 : 0 ≤ D) : -(D * K) ≤ d * k ∧ d * k ≤ D * K := by
  by_cases h : 0 ≤ k
  · exact mul_bd h1 h2 h hK h0
  · have := mul_bd (k := -k) h1 h2 (by omega) (by omega : -k ≤ K) h0
    rw [Int.mul_neg] at this
    omega

theorem rnd_mul {d k : Int} (hk : 0 ≤ k) (hK : k ≤ 65536) : (0 ≤ d → 0 ≤ rnd (d * k) ∧ rnd (d * k) ≤ d) ∧ (d ≤ 0 → d ≤ rnd (d * k) ∧ rnd (d * k) ≤ 0) := by
  constructor
  · intro hd
    have h1 : 0 ≤ d * k := Int.mul_nonneg hd hk
    have h2 : d * k ≤ d * 65536 := Int.mul_le_mul_of_nonneg_left hK hd
    generalize d * k = m at *
    unfold rnd; split <;> omega
  · intro hd
    have h1 : 0 ≤ -d * k := Int.mul_nonneg (by omega) hk
    have h2 : -d * k ≤ -d * 65536 := Int.mul_le_mul_of_nonneg_left hK (by omega)
    rw [Int.neg_mul] at h1 h2
    generalize d * k = m at *
    unfold rnd; split <;> omega

def absI (x : Int) : Int := if x < -x then -x else x
theorem absI_bd {x : Int} (h1 : -8388607 ≤ x) (h2 : x ≤ 8388607) : 0 ≤ absI x ∧ absI x ≤ 8388607 := by unfold absI; split <;> omega
/-- The level behind a sample. -/
def levI (at_ re lev x : Int) : Int := lev + rnd ((absI x - lev) * (if lev < absI x then at_ else re))
/-- The gain that a level asks for. -/
def folI (th ra lev : Int) : Int := if lev ≤ th then 65536 else (th * 65536 + (lev - th) * 65536 * 65536 / ra) / lev

theorem levI_bd {at_ re lev x : Int} (h1 : -8388607 ≤ x) (h2 : x ≤ 8388607) (a1 : 1 ≤ at_) (a2 : at_ ≤ 65536) (r1 : 1 ≤ re) (r2 : re ≤ 65536) (l1 : 0 ≤ lev) (l2 : lev ≤ 8388607) : 0 ≤ levI at_ re lev x ∧ levI at_ re lev x ≤ 8388607 := by
  have hx := absI_bd h1 h2
  unfold levI
  have hk : 0 ≤ (if lev < absI x then at_ else re) ∧ (if lev < absI x then at_ else re) ≤ 65536 := by split <;> omega
  have := rnd_mul (d := absI x - lev) hk.1 hk.2
  generalize rnd ((absI x - lev) * (if lev < absI x then at_ else re)) = m at *
  by_cases hd : 0 ≤ absI x - lev
  · have := this.1 hd; omega
  · have := this.2 (by omega); omega

theorem folI_bd {th ra lev : Int} (t1 : 0 ≤ th) (r1 : 65536 ≤ ra) (l1 : 0 ≤ lev) : 0 ≤ folI th ra lev ∧ folI th ra lev ≤ 65536 := by
  unfold folI
  split
  · omega
  · rename_i h
    have hq0 : 0 ≤ (lev - th) * 65536 * 65536 / ra := Int.ediv_nonneg (by omega) (by omega)
    have hq : (lev - th) * 65536 * 65536 / ra ≤ (lev - th) * 65536 := by
      apply Int.ediv_le_of_le_mul (by omega)
      exact Int.mul_le_mul_of_nonneg_left r1 (by omega)
    generalize (lev - th) * 65536 * 65536 / ra = q at *
    refine ⟨Int.ediv_nonneg (by omega) (by omega), Int.ediv_le_of_le_mul (by omega) (by omega)⟩

theorem follow_c (b o : Nat) (cs : List Value) (t : TypeId) (th ra at_ re lev x : Int) (w : World) (hb : Bk w b cs t)
    (h0 : cs[o]? = some (.int .i64 th)) (h1 : cs[o + 1]? = some (.int .i64 ra)) (h2 : cs[o + 2]? = some (.int .i64 at_)) (h3 : cs[o + 3]? = some (.int .i64 re)) (h4 : cs[o + 4]? = some (.int .i64 lev))
    (t1 : 0 ≤ th) (t2 : th ≤ 8388607) (p1 : 65536 ≤ ra) (p2 : ra ≤ 6553600) (a1 : 1 ≤ at_) (a2 : at_ ≤ 65536) (r1 : 1 ≤ re) (r2 : re ≤ 65536) (l1 : 0 ≤ lev) (l2 : lev ≤ 8388607) (x1 : -8388607 ≤ x) (x2 : x ≤ 8388607) :
    Rets Go.Proofs.Tryz.prog 177 #[.pointer (some ⟨b, o, none⟩), .int .i64 x] w fun v w' => v = .int .i64 (folI th ra (levI at_ re lev x)) ∧ Bk w' b (cs.set (o + 4) (.int .i64 (levI at_ re lev x))) t ∧ Fr [b] w w' := by
  have c0 := hb.get h0
  have c1 := hb.get h1
  have c2 := hb.get h2
  have c3 := hb.get h3
  have c4 := hb.get h4
  have hneg : IntKind.i64.wrap (0 - x) = -x := by rw [w64 (by omega) (by omega)]; omega
  have hab : (if x < -x then -x else x) = absI x := rfl
  have hax := absI_bd x1 x2
  have hlev := levI_bd (at_ := at_) (re := re) x1 x2 a1 a2 r1 r2 l1 l2
  have ho : o + 4 < cs.length := (List.getElem?_eq_some_iff.1 h4).1
  have hsub : IntKind.i64.wrap (absI x - lev) = absI x - lev := by rw [w64 (by omega) (by omega)]
  -- behind the choice of the pace
  have key : ∀ k, 1 ≤ k → k ≤ 65536 → k = (if lev < absI x then at_ else re) → IntKind.i64.wrap ((absI x - lev) * k) = (absI x - lev) * k ∧ -4611686018427320000 ≤ (absI x - lev) * k ∧ (absI x - lev) * k ≤ 4611686018427320000 ∧ IntKind.i64.wrap (lev + rnd ((absI x - lev) * k)) = levI at_ re lev x := by
    intro k k1 k2 hk
    have hm := mul_bd (d := absI x - lev) (D := 8388607) (k := k) (K := 65536) (by omega) (by omega) (by omega) k2 (by omega)
    have e : levI at_ re lev x = lev + rnd ((absI x - lev) * k) := by unfold levI; rw [← hk]
    refine ⟨w64 (by omega) (by omega), by omega, by omega, ?_⟩
    rw [← e, w64 (by omega) (by omega)]
  have hbd : Bk w.drew b cs t := hb
  have hb2 := hbd.set (o + 4) (.int .i64 (levI at_ re lev x))
  have d0 := hb2.get (o := o) (v := .int .i64 th) (by rw [List.getElem?_set_ne (by omega)]; exact h0)
  have d1 := hb2.get (o := o + 1) (v := .int .i64 ra) (by rw [List.getElem?_set_ne (by omega)]; exact h1)
  have d4 := hb2.get (o := o + 4) (v := .int .i64 (levI at_ re lev x)) (by simp [ho])
  refine en177 ?_
  simp -dsimp -implicitDefEqProofs only [c3, c4, hneg, hab, m177, sF177, Nat.reduceEqDiff, ↓reduceIte, Nat.reduceAdd, Nat.reduceMul, Value.cells, Value.oneCell', eq_self, ne_eq, Int.reduceToNat, Int.reduceEq, Int.reduceLT, Int.reduceLE, Int.reduceNeg, if_true, if_false, reduceCtorEq, Nat.reduceSub, storeV_ptr, slcV_slice, ↓mwD, mwU]
  refine iteW_dec (fun hgt => ?_) (fun hle => ?_)
  · obtain ⟨k1, k2, k3, k4⟩ := key at_ a1 a2 (by rw [if_pos hgt])
    simp -dsimp -implicitDefEqProofs only [c2, m177, sF177, Nat.reduceEqDiff, ↓reduceIte, Nat.reduceAdd, Nat.reduceMul, Value.cells, Value.oneCell', eq_self, ne_eq, Int.reduceToNat, Int.reduceEq, Int.reduceLT, Int.reduceLE, Int.reduceNeg, if_true, if_false, reduceCtorEq, Nat.reduceSub, storeV_ptr, slcV_slice, ↓mwD, mwU]
    refine mwpB_drawE ?_
    simp -dsimp -implicitDefEqProofs only [c4, hneg, hab, hsub, k1, m177, sF177, Nat.reduceEqDiff, ↓reduceIte, Nat.reduceAdd, Nat.reduceMul, Value.cells, Value.oneCell', eq_self, ne_eq, Int.reduceToNat, Int.reduceEq, Int.reduceLT, Int.reduceLE, Int.reduceNeg, if_true, if_false, reduceCtorEq, Nat.reduceSub, storeV_ptr, slcV_slice, ↓mwD, mwU]
    refine (rounded_c _ k2 k3 _).use ?_
    rintro v w1 ⟨rfl, rfl⟩
    simp -dsimp -implicitDefEqProofs only [c4, k4, hbd.frozen, and_self, m177, sF177, Nat.reduceEqDiff, ↓reduceIte, Nat.reduceAdd, Nat.reduceMul, Value.cells, Value.oneCell', eq_self, ne_eq, Int.reduceToNat, Int.reduceEq, Int.reduceLT, Int.reduceLE, Int.reduceNeg, if_true, if_false, reduceCtorEq, Nat.reduceSub, storeV_ptr, slcV_slice, ↓mwD, mwU]
    refine ⟨Ext.refl _, mwpB_drawE ?_⟩
    simp -dsimp -implicitDefEqProofs only [d0, d4, m177, sF177, Nat.reduceEqDiff, ↓reduceIte, Nat.reduceAdd, Nat.reduceMul, Value.cells, Value.oneCell', eq_self, ne_eq, Int.reduceToNat, Int.reduceEq, Int.reduceLT, Int.reduceLE, Int.reduceNeg, if_true, if_false, reduceCtorEq, Nat.reduceSub, storeV_ptr, slcV_slice, ↓mwD, mwU]
    refine iteW_dec (fun hth => ?_) (fun hth => ?_)
    · simp -dsimp -implicitDefEqProofs only [m177, sF177, Nat.reduceEqDiff, ↓reduceIte, Nat.reduceAdd, Nat.reduceMul, Value.cells, Value.oneCell', eq_self, ne_eq, Int.reduceToNat, Int.reduceEq, Int.reduceLT, Int.reduceLE, Int.reduceNeg, if_true, if_false, reduceCtorEq, Nat.reduceSub, storeV_ptr, slcV_slice, ↓mwD, mwU]
      exact ⟨by rw [folI, if_pos hth], hb2, (((Fr.refl _ _).drew).setCell (by simp) _).drew⟩
    · have hq0 : 0 ≤ (levI at_ re lev x - th) * 65536 * 65536 / ra := Int.ediv_nonneg (by omega) (by omega)
      have hq : (levI at_ re lev x - th) * 65536 * 65536 / ra ≤ (levI at_ re lev x - th) * 65536 := by
        apply Int.ediv_le_of_le_mul (by omega)
        exact Int.mul_le_mul_of_nonneg_left p1 (by omega)
      have hf := folI_bd (th := th) (ra := ra) (lev := levI at_ re lev x) t1 p1 hlev.1
      have e1 : IntKind.i64.wrap (th * 65536) = th * 65536 := w64 (by omega) (by omega)
      have e2 : IntKind.i64.wrap (levI at_ re lev x - th) = levI at_ re lev x - th := w64 (by omega) (by omega)
      have e3 : IntKind.i64.wrap ((levI at_ re lev x - th) * 65536) = (levI at_ re lev x - th) * 65536 := w64 (by omega) (by omega)
      have e4 : IntKind.i64.wrap ((levI at_ re lev x - th) * 65536 * 65536) = (levI at_ re lev x - th) * 65536 * 65536 := w64 (by omega) (by omega)
      have e5 : ((levI at_ re lev x - th) * 65536 * 65536).tdiv ra = (levI at_ re lev x - th) * 65536 * 65536 / ra := Int.tdiv_eq_ediv_of_nonneg (by omega)
      have e6 : IntKind.i64.wrap ((levI at_ re lev x - th) * 65536 * 65536 / ra) = (levI at_ re lev x - th) * 65536 * 65536 / ra := w64 (by omega) (by omega)
      have e7 : IntKind.i64.wrap (th * 65536 + (levI at_ re lev x - th) * 65536 * 65536 / ra) = th * 65536 + (levI at_ re lev x - th) * 65536 * 65536 / ra := w64 (by omega) (by omega)
      have e8 : (th * 65536 + (levI at_ re lev x - th) * 65536 * 65536 / ra).tdiv (levI at_ re lev x) = folI th ra (levI at_ re lev x) := by rw [folI, if_neg hth]; exact Int.tdiv_eq_ediv_of_nonneg (by omega)
      have e9 : IntKind.i64.wrap (folI th ra (levI at_ re lev x)) = folI th ra (levI at_ re lev x) := w64 (by omega) (by omega)
      have n1 : ¬ ra = 0 := by omega
      have n2 : ¬ levI at_ re lev x = 0 := by omega
      simp -dsimp -implicitDefEqProofs only [m177, sF177, Nat.reduceEqDiff, ↓reduceIte, Nat.reduceAdd, Nat.reduceMul, Value.cells, Value.oneCell', eq_self, ne_eq, Int.reduceToNat, Int.reduceEq, Int.reduceLT, Int.reduceLE, Int.reduceNeg, if_true, if_false, reduceCtorEq, Nat.reduceSub, storeV_ptr, slcV_slice, ↓mwD, mwU]
      refine mwpB_drawE ?_
      simp -dsimp -implicitDefEqProofs only [d0, d1, d4, e1, e2, e3, e4, e5, e6, e7, e8, e9, n1, n2, m177, sF177, Nat.reduceEqDiff, ↓reduceIte, Nat.reduceAdd, Nat.reduceMul, Value.cells, Value.oneCell', eq_self, ne_eq, Int.reduceToNat, Int.reduceEq, Int.reduceLT, Int.reduceLE, Int.reduceNeg, if_true, if_false, reduceCtorEq, Nat.reduceSub, storeV_ptr, slcV_slice, ↓mwD, mwU]
      exact ⟨hb2, ((((Fr.refl _ _).drew).setCell (by simp) _).drew).drew⟩
  · obtain ⟨k1, k2, k3, k4⟩ := key re r1 r2 (by rw [if_neg hle])
    simp -dsimp -implicitDefEqProofs only [m177, sF177, Nat.reduceEqDiff, ↓reduceIte, Nat.reduceAdd, Nat.reduceMul, Value.cells, Value.oneCell', eq_self, ne_eq, Int.reduceToNat, Int.reduceEq, Int.reduceLT, Int.reduceLE, Int.reduceNeg, if_true, if_false, reduceCtorEq, Nat.reduceSub, storeV_ptr, slcV_slice, ↓mwD, mwU]
    refine mwpB_drawE ?_
    simp -dsimp -implicitDefEqProofs only [c4, hneg, hab, hsub, k1, m177, sF177, Nat.reduceEqDiff, ↓reduceIte, Nat.reduceAdd, Nat.reduceMul, Value.cells, Value.oneCell', eq_self, ne_eq, Int.reduceToNat, Int.reduceEq, Int.reduceLT, Int.reduceLE, Int.reduceNeg, if_true, if_false, reduceCtorEq, Nat.reduceSub, storeV_ptr, slcV_slice, ↓mwD, mwU]
    refine (rounded_c _ k2 k3 _).use ?_
    rintro v w1 ⟨rfl, rfl⟩
    simp -dsimp -implicitDefEqProofs only [c4, k4, hbd.frozen, and_self, m177, sF177, Nat.reduceEqDiff, ↓reduceIte, Nat.reduceAdd, Nat.reduceMul, Value.cells, Value.oneCell', eq_self, ne_eq, Int.reduceToNat, Int.reduceEq, Int.reduceLT, Int.reduceLE, Int.reduceNeg, if_true, if_false, reduceCtorEq, Nat.reduceSub, storeV_ptr, slcV_slice, ↓mwD, mwU]
    refine ⟨Ext.refl _, mwpB_drawE ?_⟩
    simp -dsimp -implicitDefEqProofs only [d0, d4, m177, sF177, Nat.reduceEqDiff, ↓reduceIte, Nat.reduceAdd, Nat.reduceMul, Value.cells, Value.oneCell', eq_self, ne_eq, Int.reduceToNat, Int.reduceEq, Int.reduceLT, Int.reduceLE, Int.reduceNeg, if_true, if_false, reduceCtorEq, Nat.reduceSub, storeV_ptr, slcV_slice, ↓mwD, mwU]
    refine iteW_dec (fun hth => ?_) (fun hth => ?_)
    · simp -dsimp -implicitDefEqProofs only [m177, sF177, Nat.reduceEqDiff, ↓reduceIte, Nat.reduceAdd, Nat.reduceMul, Value.cells, Value.oneCell', eq_self, ne_eq, Int.reduceToNat, Int.reduceEq, Int.reduceLT, Int.reduceLE, Int.reduceNeg, if_true, if_false, reduceCtorEq, Nat.reduceSub, storeV_ptr, slcV_slice, ↓mwD, mwU]
      exact ⟨by rw [folI, if_pos hth], hb2, (((Fr.refl _ _).drew).setCell (by simp) _).drew⟩
    · have hq0 : 0 ≤ (levI at_ re lev x - th) * 65536 * 65536 / ra := Int.ediv_nonneg (by omega) (by omega)
      have hq : (levI at_ re lev x - th) * 65536 * 65536 / ra ≤ (levI at_ re lev x - th) * 65536 := by
        apply Int.ediv_le_of_le_mul (by omega)
        exact Int.mul_le_mul_of_nonneg_left p1 (by omega)
      have hf := folI_bd (th := th) (ra := ra) (lev := levI at_ re lev x) t1 p1 hlev.1
      have e1 : IntKind.i64.wrap (th * 65536) = th * 65536 := w64 (by omega) (by omega)
      have e2 : IntKind.i64.wrap (levI at_ re lev x - th) = levI at_ re lev x - th := w64 (by omega) (by omega)
      have e3 : IntKind.i64.wrap ((levI at_ re lev x - th) * 65536) = (levI at_ re lev x - th) * 65536 := w64 (by omega) (by omega)
      have e4 : IntKind.i64.wrap ((levI at_ re lev x - th) * 65536 * 65536) = (levI at_ re lev x - th) * 65536 * 65536 := w64 (by omega) (by omega)
      have e5 : ((levI at_ re lev x - th) * 65536 * 65536).tdiv ra = (levI at_ re lev x - th) * 65536 * 65536 / ra := Int.tdiv_eq_ediv_of_nonneg (by omega)
      have e6 : IntKind.i64.wrap ((levI at_ re lev x - th) * 65536 * 65536 / ra) = (levI at_ re lev x - th) * 65536 * 65536 / ra := w64 (by omega) (by omega)
      have e7 : IntKind.i64.wrap (th * 65536 + (levI at_ re lev x - th) * 65536 * 65536 / ra) = th * 65536 + (levI at_ re lev x - th) * 65536 * 65536 / ra := w64 (by omega) (by omega)
      have e8 : (th * 65536 + (levI at_ re lev x - th) * 65536 * 65536 / ra).tdiv (levI at_ re lev x) = folI th ra (levI at_ re lev x) := by rw [folI, if_neg hth]; exact Int.tdiv_eq_ediv_of_nonneg (by omega)
      have e9 : IntKind.i64.wrap (folI th ra (levI at_ re lev x)) = folI th ra (levI at_ re lev x) := w64 (by omega) (by omega)
      have n1 : ¬ ra = 0 := by omega
      have n2 : ¬ levI at_ re lev x = 0 := by omega
      simp -dsimp -implicitDefEqProofs only [m177, sF177, Nat.reduceEqDiff, ↓reduceIte, Nat.reduceAdd, Nat.reduceMul, Value.cells, Value.oneCell', eq_self, ne_eq, Int.reduceToNat, Int.reduceEq, Int.reduceLT, Int.reduceLE, Int.reduceNeg, if_true, if_false, reduceCtorEq, Nat.reduceSub, storeV_ptr, slcV_slice, ↓mwD, mwU]
      refine mwpB_drawE ?_
      simp -dsimp -implicitDefEqProofs only [d0, d1, d4, e1, e2, e3, e4, e5, e6, e7, e8, e9, n1, n2, m177, sF177, Nat.reduceEqDiff, ↓reduceIte, Nat.reduceAdd, Nat.reduceMul, Value.cells, Value.oneCell', eq_self, ne_eq, Int.reduceToNat, Int.reduceEq, Int.reduceLT, Int.reduceLE, Int.reduceNeg, if_true, if_false, reduceCtorEq, Nat.reduceSub, storeV_ptr, slcV_slice, ↓mwD, mwU]
      exact ⟨hb2, ((((Fr.refl _ _).drew).setCell (by simp) _).drew).drew⟩

end Go.Proofs.YtefcfnmmpnjjjaaGreatDoor

/- Layer 02: the law FormatWithin. -/
import Derived.Test.YthcdnjbhhaonhaaGreatDoorQwFoI

namespace Go.Proofs.YthcdnjbhhaonhaaGreatDoor
open Go.RowKit
set_option linter.unusedSimpArgs false

set_option maxHeartbeats 4000000 in
theorem lawW_c (a b c : Fm) (sa sb sc : Value) (w : World) (ha : SlF w sa a.F) (hb : SlF w sb b.F) (hc : SlF w sc c.F) (haw : ∀ w', Ext w w' → Rets Go.Proofs.Tryz.prog 10 #[] w' fun r w2 => r = .bool true ∧ Ext w' w2) :
    Rets Go.Proofs.Tryz.prog 5 #[fmV a sa, fmV b sb, fmV c sc] w fun r w' => r = .bool true ∧ Ext w w' := by
  obtain ⟨pa, na, rfl, _, _⟩ := ha.shape
  obtain ⟨pb, nb, rfl, _, _⟩ := hb.shape
  obtain ⟨pc, nc, rfl, _, _⟩ := hc.shape
  obtain ⟨W, hW, A, B, C, hx⟩ : ∃ W, W = ((w.alloc (.cells #[.int .i64 a.m, .slice pa a.F.length na] 24)).alloc (.cells #[.int .i64 b.m, .slice pb b.F.length nb] 24)).alloc (.cells #[.int .i64 c.m, .slice pc c.F.length nc] 24) ∧
      Bk W w.heap.size [.int .i64 a.m, .slice pa a.F.length na] 24 ∧ Bk W (w.heap.size + 1) [.int .i64 b.m, .slice pb b.F.length nb] 24 ∧ Bk W (w.heap.size + 2) [.int .i64 c.m, .slice pc c.F.length nc] 24 ∧ Ext w W := by
    refine ⟨_, rfl, ((Bk.new w _ _).ext (Ext.alloc _ _)).ext (Ext.alloc _ _), ?_, ?_, ((Ext.alloc _ _).trans (Ext.alloc _ _)).trans (Ext.alloc _ _)⟩
    · have := Bk.new (w.alloc (.cells #[.int .i64 a.m, .slice pa a.F.length na] 24)) [.int .i64 b.m, .slice pb b.F.length nb] 24
      rw [World.size_alloc] at this
      exact this.ext (Ext.alloc _ _)
    · have := Bk.new ((w.alloc (.cells #[.int .i64 a.m, .slice pa a.F.length na] 24)).alloc (.cells #[.int .i64 b.m, .slice pb b.F.length nb] 24)) [.int .i64 c.m, .slice pc c.F.length nc] 24
      rw [World.size_alloc, World.size_alloc] at this
      exact this
  refine en5 ?_
  refine mwpB_cut 1 (fun e ds w' => e 3 = .pointer (some ⟨w.heap.size, 0, none⟩) ∧ e 4 = .pointer (some ⟨w.heap.size + 1, 0, none⟩) ∧ e 5 = .pointer (some ⟨w.heap.size + 2, 0, none⟩) ∧ ds = [] ∧ w' = W) ?_ ?_
  · simp -dsimp -implicitDefEqProofs only [fmV, headM_zero, headM_seq, World.size_alloc, Nat.add_assoc, ← hW, m5, sF5, Nat.reduceEqDiff, ↓reduceIte, Nat.reduceAdd, Nat.reduceMul, Value.cells, Value.oneCell', eq_self, ne_eq, Int.reduceToNat, Int.reduceEq, Int.reduceLT, Int.reduceLE, Int.reduceNeg, if_true, if_false, reduceCtorEq, Nat.reduceSub, storeV_ptr, slcV_slice, ↓mwD, mwU]
  clear hW
  rintro e ds w0 ⟨k3, k4, k5, rfl, rfl⟩
  have cells : ∀ {w' : World}, Ext w0 w' → (w'.cell? ⟨w.heap.size, 0, none⟩ = some (.int .i64 a.m) ∧ w'.cell? ⟨w.heap.size, 1, none⟩ = some (.slice pa a.F.length na)) ∧ (w'.cell? ⟨w.heap.size + 1, 0, none⟩ = some (.int .i64 b.m) ∧ w'.cell? ⟨w.heap.size + 1, 1, none⟩ = some (.slice pb b.F.length nb)) ∧
      w'.cell? ⟨w.heap.size + 2, 0, none⟩ = some (.int .i64 c.m) ∧ w'.cell? ⟨w.heap.size + 2, 1, none⟩ = some (.slice pc c.F.length nc) := fun h => ⟨⟨(A.ext h).get rfl, (A.ext h).get rfl⟩, ⟨(B.ext h).get rfl, (B.ext h).get rfl⟩, (C.ext h).get rfl, (C.ext h).get rfl⟩
  have hx0 : Ext w0 w0 := Ext.refl _
  obtain ⟨⟨A0, A1⟩, ⟨B0, B1⟩, C0, C1⟩ := cells hx0
  simp -dsimp -implicitDefEqProofs only [k3, k4, k5, A0, A1, B0, B1, C0, C1, tailM_zero, tailM_seq, m5, sF5, Nat.reduceEqDiff, ↓reduceIte, Nat.reduceAdd, Nat.reduceMul, Value.cells, Value.oneCell', eq_self, ne_eq, Int.reduceToNat, Int.reduceEq, Int.reduceLT, Int.reduceLE, Int.reduceNeg, if_true, if_false, reduceCtorEq, Nat.reduceSub, storeV_ptr, slcV_slice, ↓mwD, mwU]
  refine (Light_c a _ w0 (ha.ext (hx.trans hx0))).use ?_
  rintro r w1 ⟨rfl, h1⟩
  have hx1 := hx0.trans h1
  cases la : lightB a
  · simp -dsimp -implicitDefEqProofs only [m5, sF5, Nat.reduceEqDiff, ↓reduceIte, Nat.reduceAdd, Nat.reduceMul, Value.cells, Value.oneCell', eq_self, ne_eq, Int.reduceToNat, Int.reduceEq, Int.reduceLT, Int.reduceLE, Int.reduceNeg, if_true, if_false, reduceCtorEq, Nat.reduceSub, storeV_ptr, slcV_slice, ↓mwD, mwU]
    refine (haw w1 (hx.trans hx1)).use ?_
    rintro r w8 ⟨rfl, h8⟩
    simp -dsimp -implicitDefEqProofs only [m5, sF5, Nat.reduceEqDiff, ↓reduceIte, Nat.reduceAdd, Nat.reduceMul, Value.cells, Value.oneCell', eq_self, ne_eq, Int.reduceToNat, Int.reduceEq, Int.reduceLT, Int.reduceLE, Int.reduceNeg, if_true, if_false, reduceCtorEq, Nat.reduceSub, storeV_ptr, slcV_slice, ↓mwD, mwU]
    exact (hx.trans hx1).trans h8
  obtain ⟨⟨A0, A1⟩, ⟨B0, B1⟩, C0, C1⟩ := cells hx1
  simp -dsimp -implicitDefEqProofs only [k3, k4, k5, A0, A1, B0, B1, C0, C1, m5, sF5, Nat.reduceEqDiff, ↓reduceIte, Nat.reduceAdd, Nat.reduceMul, Value.cells, Value.oneCell', eq_self, ne_eq, Int.reduceToNat, Int.reduceEq, Int.reduceLT, Int.reduceLE, Int.reduceNeg, if_true, if_false, reduceCtorEq, Nat.reduceSub, storeV_ptr, slcV_slice, ↓mwD, mwU]
  refine (Light_c b _ w1 (hb.ext (hx.trans hx1))).use ?_
  rintro r w2 ⟨rfl, h2⟩
  have hx2 := hx1.trans h2
  cases lb : lightB b
  · simp -dsimp -implicitDefEqProofs only [m5, sF5, Nat.reduceEqDiff, ↓reduceIte, Nat.reduceAdd, Nat.reduceMul, Value.cells, Value.oneCell', eq_self, ne_eq, Int.reduceToNat, Int.reduceEq, Int.reduceLT, Int.reduceLE, Int.reduceNeg, if_true, if_false, reduceCtorEq, Nat.reduceSub, storeV_ptr, slcV_slice, ↓mwD, mwU]
    refine (haw w2 (hx.trans hx2)).use ?_
    rintro r w8 ⟨rfl, h8⟩
    simp -dsimp -implicitDefEqProofs only [m5, sF5, Nat.reduceEqDiff, ↓reduceIte, Nat.reduceAdd, Nat.reduceMul, Value.cells, Value.oneCell', eq_self, ne_eq, Int.reduceToNat, Int.reduceEq, Int.reduceLT, Int.reduceLE, Int.reduceNeg, if_true, if_false, reduceCtorEq, Nat.reduceSub, storeV_ptr, slcV_slice, ↓mwD, mwU]
    exact (hx.trans hx2).trans h8
  obtain ⟨⟨A0, A1⟩, ⟨B0, B1⟩, C0, C1⟩ := cells hx2
  simp -dsimp -implicitDefEqProofs only [k3, k4, k5, A0, A1, B0, B1, C0, C1, m5, sF5, Nat.reduceEqDiff, ↓reduceIte, Nat.reduceAdd, Nat.reduceMul, Value.cells, Value.oneCell', eq_self, ne_eq, Int.reduceToNat, Int.reduceEq, Int.reduceLT, Int.reduceLE, Int.reduceNeg, if_true, if_false, reduceCtorEq, Nat.reduceSub, storeV_ptr, slcV_slice, ↓mwD, mwU]
  refine (Light_c c _ w2 (hc.ext (hx.trans hx2))).use ?_
  rintro r w3 ⟨rfl, h3⟩
  have hx3 := hx2.trans h3
  cases lc : lightB c
  · simp -dsimp -implicitDefEqProofs only [m5, sF5, Nat.reduceEqDiff, ↓reduceIte, Nat.reduceAdd, Nat.reduceMul, Value.cells, Value.oneCell', eq_self, ne_eq, Int.reduceToNat, Int.reduceEq, Int.reduceLT, Int.reduceLE, Int.reduceNeg, if_true, if_false, reduceCtorEq, Nat.reduceSub, storeV_ptr, slcV_slice, ↓mwD, mwU]
    refine (haw w3 (hx.trans hx3)).use ?_
    rintro r w8 ⟨rfl, h8⟩
    simp -dsimp -implicitDefEqProofs only [m5, sF5, Nat.reduceEqDiff, ↓reduceIte, Nat.reduceAdd, Nat.reduceMul, Value.cells, Value.oneCell', eq_self, ne_eq, Int.reduceToNat, Int.reduceEq, Int.reduceLT, Int.reduceLE, Int.reduceNeg, if_true, if_false, reduceCtorEq, Nat.reduceSub, storeV_ptr, slcV_slice, ↓mwD, mwU]
    exact (hx.trans hx3).trans h8
  obtain ⟨⟨A0, A1⟩, ⟨B0, B1⟩, C0, C1⟩ := cells hx3
  simp -dsimp -implicitDefEqProofs only [k3, k4, k5, A0, A1, B0, B1, C0, C1, m5, sF5, Nat.reduceEqDiff, ↓reduceIte, Nat.reduceAdd, Nat.reduceMul, Value.cells, Value.oneCell', eq_self, ne_eq, Int.reduceToNat, Int.reduceEq, Int.reduceLT, Int.reduceLE, Int.reduceNeg, if_true, if_false, reduceCtorEq, Nat.reduceSub, storeV_ptr, slcV_slice, ↓mwD, mwU]
  refine (refFValid_c a _ w3 (ha.ext (hx.trans hx3))).use ?_
  rintro r w4 ⟨rfl, h4⟩
  have hx4 := hx3.trans h4
  cases va : a.valid
  · simp -dsimp -implicitDefEqProofs only [m5, sF5, Nat.reduceEqDiff, ↓reduceIte, Nat.reduceAdd, Nat.reduceMul, Value.cells, Value.oneCell', eq_self, ne_eq, Int.reduceToNat, Int.reduceEq, Int.reduceLT, Int.reduceLE, Int.reduceNeg, if_true, if_false, reduceCtorEq, Nat.reduceSub, storeV_ptr, slcV_slice, ↓mwD, mwU]
    refine (haw w4 (hx.trans hx4)).use ?_
    rintro r w8 ⟨rfl, h8⟩
    simp -dsimp -implicitDefEqProofs only [m5, sF5, Nat.reduceEqDiff, ↓reduceIte, Nat.reduceAdd, Nat.reduceMul, Value.cells, Value.oneCell', eq_self, ne_eq, Int.reduceToNat, Int.reduceEq, Int.reduceLT, Int.reduceLE, Int.reduceNeg, if_true, if_false, reduceCtorEq, Nat.reduceSub, storeV_ptr, slcV_slice, ↓mwD, mwU]
    exact (hx.trans hx4).trans h8
  obtain ⟨⟨A0, A1⟩, ⟨B0, B1⟩, C0, C1⟩ := cells hx4
  simp -dsimp -implicitDefEqProofs only [k3, k4, k5, A0, A1, B0, B1, C0, C1, m5, sF5, Nat.reduceEqDiff, ↓reduceIte, Nat.reduceAdd, Nat.reduceMul, Value.cells, Value.oneCell', eq_self, ne_eq, Int.reduceToNat, Int.reduceEq, Int.reduceLT, Int.reduceLE, Int.reduceNeg, if_true, if_false, reduceCtorEq, Nat.reduceSub, storeV_ptr, slcV_slice, ↓mwD, mwU]
  refine (refFValid_c b _ w4 (hb.ext (hx.trans hx4))).use ?_
  rintro r w5 ⟨rfl, h5⟩
  have hx5 := hx4.trans h5
  cases vb : b.valid
  · simp -dsimp -implicitDefEqProofs only [m5, sF5, Nat.reduceEqDiff, ↓reduceIte, Nat.reduceAdd, Nat.reduceMul, Value.cells, Value.oneCell', eq_self, ne_eq, Int.reduceToNat, Int.reduceEq, Int.reduceLT, Int.reduceLE, Int.reduceNeg, if_true, if_false, reduceCtorEq, Nat.reduceSub, storeV_ptr, slcV_slice, ↓mwD, mwU]
    refine (haw w5 (hx.trans hx5)).use ?_
    rintro r w8 ⟨rfl, h8⟩
    simp -dsimp -implicitDefEqProofs only [m5, sF5, Nat.reduceEqDiff, ↓reduceIte, Nat.reduceAdd, Nat.reduceMul, Value.cells, Value.oneCell', eq_self, ne_eq, Int.reduceToNat, Int.reduceEq, Int.reduceLT, Int.reduceLE, Int.reduceNeg, if_true, if_false, reduceCtorEq, Nat.reduceSub, storeV_ptr, slcV_slice, ↓mwD, mwU]
    exact (hx.trans hx5).trans h8
  obtain ⟨⟨A0, A1⟩, ⟨B0, B1⟩, C0, C1⟩ := cells hx5
  simp -dsimp -implicitDefEqProofs only [k3, k4, k5, A0, A1, B0, B1, C0, C1, m5, sF5, Nat.reduceEqDiff, ↓reduceIte, Nat.reduceAdd, Nat.reduceMul, Value.cells, Value.oneCell', eq_self, ne_eq, Int.reduceToNat, Int.reduceEq, Int.reduceLT, Int.reduceLE, Int.reduceNeg, if_true, if_false, reduceCtorEq, Nat.reduceSub, storeV_ptr, slcV_slice, ↓mwD, mwU]
  refine (refFValid_c c _ w5 (hc.ext (hx.trans hx5))).use ?_
  rintro r w6 ⟨rfl, h6⟩
  have hx6 := hx5.trans h6
  cases vc : c.valid
  · simp -dsimp -implicitDefEqProofs only [m5, sF5, Nat.reduceEqDiff, ↓reduceIte, Nat.reduceAdd, Nat.reduceMul, Value.cells, Value.oneCell', eq_self, ne_eq, Int.reduceToNat, Int.reduceEq, Int.reduceLT, Int.reduceLE, Int.reduceNeg, if_true, if_false, reduceCtorEq, Nat.reduceSub, storeV_ptr, slcV_slice, ↓mwD, mwU]
    refine (haw w6 (hx.trans hx6)).use ?_
    rintro r w8 ⟨rfl, h8⟩
    simp -dsimp -implicitDefEqProofs only [m5, sF5, Nat.reduceEqDiff, ↓reduceIte, Nat.reduceAdd, Nat.reduceMul, Value.cells, Value.oneCell', eq_self, ne_eq, Int.reduceToNat, Int.reduceEq, Int.reduceLT, Int.reduceLE, Int.reduceNeg, if_true, if_false, reduceCtorEq, Nat.reduceSub, storeV_ptr, slcV_slice, ↓mwD, mwU]
    exact (hx.trans hx6).trans h8
  obtain ⟨⟨A0, A1⟩, ⟨B0, B1⟩, C0, C1⟩ := cells hx6
  simp -dsimp -implicitDefEqProofs only [k3, k4, k5, A0, A1, B0, B1, C0, C1, m5, sF5, Nat.reduceEqDiff, ↓reduceIte, Nat.reduceAdd, Nat.reduceMul, Value.cells, Value.oneCell', eq_self, ne_eq, Int.reduceToNat, Int.reduceEq, Int.reduceLT, Int.reduceLE, Int.reduceNeg, if_true, if_false, reduceCtorEq, Nat.reduceSub, storeV_ptr, slcV_slice, ↓mwD, mwU]
  refine (FWithin_c a b _ _ w6 (ha.ext (hx.trans hx6)) (hb.ext (hx.trans hx6))).use ?_
  rintro r w7 ⟨h7, hr⟩
  rw [va, vb, if_pos (by rfl)] at hr
  obtain ⟨z0, rfl, hz0⟩ := hr
  have hx7 := hx6.trans h7
  obtain ⟨⟨A0, A1⟩, ⟨B0, B1⟩, C0, C1⟩ := cells hx7
  simp -dsimp -implicitDefEqProofs only [k3, k4, k5, A0, A1, B0, B1, C0, C1, m5, sF5, Nat.reduceEqDiff, ↓reduceIte, Nat.reduceAdd, Nat.reduceMul, Value.cells, Value.oneCell', eq_self, ne_eq, Int.reduceToNat, Int.reduceEq, Int.reduceLT, Int.reduceLE, Int.reduceNeg, if_true, if_false, reduceCtorEq, Nat.reduceSub, storeV_ptr, slcV_slice, ↓mwD, mwU]
  refine (FWithin_c b c _ _ w7 (hb.ext (hx.trans hx7)) (hc.ext (hx.trans hx7))).use ?_
  rintro r w8 ⟨h8, hr⟩
  rw [vb, vc, if_pos (by rfl)] at hr
  obtain ⟨z1, rfl, hz1⟩ := hr
  have hx8 := hx7.trans h8
  obtain ⟨⟨A0, A1⟩, ⟨B0, B1⟩, C0, C1⟩ := cells hx8
  simp -dsimp -implicitDefEqProofs only [k3, k4, k5, A0, A1, B0, B1, C0, C1, m5, sF5, Nat.reduceEqDiff, ↓reduceIte, Nat.reduceAdd, Nat.reduceMul, Value.cells, Value.oneCell', eq_self, ne_eq, Int.reduceToNat, Int.reduceEq, Int.reduceLT, Int.reduceLE, Int.reduceNeg, if_true, if_false, reduceCtorEq, Nat.reduceSub, storeV_ptr, slcV_slice, ↓mwD, mwU]
  refine (FWithin_c a c _ _ w8 (ha.ext (hx.trans hx8)) (hc.ext (hx.trans hx8))).use ?_
  rintro r w9 ⟨h9, hr⟩
  rw [va, vc, if_pos (by rfl)] at hr
  obtain ⟨z2, rfl, hz2⟩ := hr
  have hx9 := hx8.trans h9
  obtain ⟨⟨A0, A1⟩, ⟨B0, B1⟩, C0, C1⟩ := cells hx9
  have fA : fieldsB 0 a.F = true := by have := va; unfold Fm.valid at this; simp only [Bool.and_eq_true] at this; exact this.1
  have fB : fieldsB 0 b.F = true := by have := vb; unfold Fm.valid at this; simp only [Bool.and_eq_true] at this; exact this.1
  cases z0
  · obtain ⟨⟨A0, A1⟩, ⟨B0, B1⟩, C0, C1⟩ := cells hx9
    simp -dsimp -implicitDefEqProofs only [k3, k4, k5, A0, A1, B0, B1, C0, C1, m5, sF5, Nat.reduceEqDiff, ↓reduceIte, Nat.reduceAdd, Nat.reduceMul, Value.cells, Value.oneCell', eq_self, ne_eq, Int.reduceToNat, Int.reduceEq, Int.reduceLT, Int.reduceLE, Int.reduceNeg, if_true, if_false, reduceCtorEq, Nat.reduceSub, storeV_ptr, slcV_slice, ↓mwD, mwU]
    refine (Join_c a b _ _ w9 (ha.ext (hx.trans hx9)) (hb.ext (hx.trans hx9))).use ?_
    rintro r w10 ⟨h10, hq⟩
    rw [va, vb, if_pos (by rfl)] at hq
    obtain ⟨_, hq⟩ := hq
    have hx10 := hx9.trans h10
    have end1 : ∀ {w'}, Ext w0 w' → Rets Go.Proofs.Tryz.prog 10 #[] w' fun r w2 => r = .bool true ∧ Ext w w2 := fun h => (haw _ (hx.trans h)).mono fun r w2 hr => ⟨hr.1, (hx.trans h).trans hr.2⟩
    by_cases hm : a.m = b.m
    · rw [if_pos hm] at hq
      obtain ⟨o, hjn, ho⟩ := hq
      cases o with
      | none =>
        simp only at ho
        subst ho
        simp -dsimp -implicitDefEqProofs only [m5, sF5, Nat.reduceEqDiff, ↓reduceIte, Nat.reduceAdd, Nat.reduceMul, Value.cells, Value.oneCell', eq_self, ne_eq, Int.reduceToNat, Int.reduceEq, Int.reduceLT, Int.reduceLE, Int.reduceNeg, if_true, if_false, reduceCtorEq, Nat.reduceSub, storeV_ptr, slcV_slice, ↓mwD, mwU]
        refine (end1 (hx10.trans (Ext.alloc _ _))).use ?_
        rintro r w11 ⟨rfl, h11⟩
        simp -dsimp -implicitDefEqProofs only [m5, sF5, Nat.reduceEqDiff, ↓reduceIte, Nat.reduceAdd, Nat.reduceMul, Value.cells, Value.oneCell', eq_self, ne_eq, Int.reduceToNat, Int.reduceEq, Int.reduceLT, Int.reduceLE, Int.reduceNeg, if_true, if_false, reduceCtorEq, Nat.reduceSub, storeV_ptr, slcV_slice, ↓mwD, mwU]
        exact h11
      | some J =>
        obtain ⟨s, acc, rfl, rfl, hown⟩ := ho
        have hJs := hown.slF
        obtain ⟨hJ1, hJ2, hJ3⟩ := join_ok a.F b.F 0 _ fA fB hjn
        generalize acc.map (·.1) = J at *
        obtain ⟨pj, nj, rfl, _, _⟩ := hJs.shape
        have vj : (Fm.mk a.m J).valid = true := by
          have := va
          unfold Fm.valid at this ⊢
          simp only [Bool.and_eq_true] at this ⊢
          exact ⟨hJ1, this.2⟩
        have xJ : Ext w10 (w10.alloc (.cells #[.int .i64 a.m, .slice pj J.length nj] 24)) := Ext.alloc _ _
        have kJ := Bk.new w10 [.int .i64 a.m, .slice pj J.length nj] 24
        have J0 := kJ.get (o := 0) rfl
        have J1 := kJ.get (o := 1) rfl
        obtain ⟨⟨A0, A1⟩, ⟨B0, B1⟩, C0, C1⟩ := cells (hx10.trans xJ)
        simp -dsimp -implicitDefEqProofs only [k3, k4, k5, fmV, A0, A1, B0, B1, J0, J1, m5, sF5, Nat.reduceEqDiff, ↓reduceIte, Nat.reduceAdd, Nat.reduceMul, Value.cells, Value.oneCell', eq_self, ne_eq, Int.reduceToNat, Int.reduceEq, Int.reduceLT, Int.reduceLE, Int.reduceNeg, if_true, if_false, reduceCtorEq, Nat.reduceSub, storeV_ptr, slcV_slice, ↓mwD, mwU]
        have hx11 := hx10.trans xJ
        refine (FWithin_c ⟨a.m, J⟩ a _ _ _ (hJs.ext xJ) (ha.ext (hx.trans hx11))).use ?_
        rintro r w12 ⟨h12, hr⟩
        rw [vj, va, if_pos (by rfl)] at hr
        obtain ⟨y0, rfl, hy0⟩ := hr
        obtain rfl : y0 = true := hy0.2 ⟨rfl, hJ2⟩
        have hx12 := hx11.trans h12
        have J0 := (kJ.ext h12).get (o := 0) rfl
        have J1 := (kJ.ext h12).get (o := 1) rfl
        obtain ⟨⟨A0, A1⟩, ⟨B0, B1⟩, C0, C1⟩ := cells hx12
        simp -dsimp -implicitDefEqProofs only [k3, k4, k5, A0, A1, B0, B1, J0, J1, m5, sF5, Nat.reduceEqDiff, ↓reduceIte, Nat.reduceAdd, Nat.reduceMul, Value.cells, Value.oneCell', eq_self, ne_eq, Int.reduceToNat, Int.reduceEq, Int.reduceLT, Int.reduceLE, Int.reduceNeg, if_true, if_false, reduceCtorEq, Nat.reduceSub, storeV_ptr, slcV_slice, ↓mwD, mwU]
        refine (FWithin_c ⟨a.m, J⟩ b _ _ w12 ((hJs.ext xJ).ext h12) (hb.ext (hx.trans hx12))).use ?_
        rintro r w13 ⟨h13, hr⟩
        rw [vj, vb, if_pos (by rfl)] at hr
        obtain ⟨y1, rfl, hy1⟩ := hr
        obtain rfl : y1 = true := hy1.2 ⟨hm, hJ3⟩
        simp -dsimp -implicitDefEqProofs only [m5, sF5, Nat.reduceEqDiff, ↓reduceIte, Nat.reduceAdd, Nat.reduceMul, Value.cells, Value.oneCell', eq_self, ne_eq, Int.reduceToNat, Int.reduceEq, Int.reduceLT, Int.reduceLE, Int.reduceNeg, if_true, if_false, reduceCtorEq, Nat.reduceSub, storeV_ptr, slcV_slice, ↓mwD, mwU]
        refine (end1 (hx12.trans h13)).use ?_
        rintro r w14 ⟨rfl, h14⟩
        simp -dsimp -implicitDefEqProofs only [m5, sF5, Nat.reduceEqDiff, ↓reduceIte, Nat.reduceAdd, Nat.reduceMul, Value.cells, Value.oneCell', eq_self, ne_eq, Int.reduceToNat, Int.reduceEq, Int.reduceLT, Int.reduceLE, Int.reduceNeg, if_true, if_false, reduceCtorEq, Nat.reduceSub, storeV_ptr, slcV_slice, ↓mwD, mwU]
        exact h14
    · rw [if_neg hm] at hq
      subst hq
      simp -dsimp -implicitDefEqProofs only [m5, sF5, Nat.reduceEqDiff, ↓reduceIte, Nat.reduceAdd, Nat.reduceMul, Value.cells, Value.oneCell', eq_self, ne_eq, Int.reduceToNat, Int.reduceEq, Int.reduceLT, Int.reduceLE, Int.reduceNeg, if_true, if_false, reduceCtorEq, Nat.reduceSub, storeV_ptr, slcV_slice, ↓mwD, mwU]
      refine (end1 (hx10.trans (Ext.alloc _ _))).use ?_
      rintro r w11 ⟨rfl, h11⟩
      simp -dsimp -implicitDefEqProofs only [m5, sF5, Nat.reduceEqDiff, ↓reduceIte, Nat.reduceAdd, Nat.reduceMul, Value.cells, Value.oneCell', eq_self, ne_eq, Int.reduceToNat, Int.reduceEq, Int.reduceLT, Int.reduceLE, Int.reduceNeg, if_true, if_false, reduceCtorEq, Nat.reduceSub, storeV_ptr, slcV_slice, ↓mwD, mwU]
      exact h11
  · cases z1
    · obtain ⟨⟨A0, A1⟩, ⟨B0, B1⟩, C0, C1⟩ := cells hx9
      simp -dsimp -implicitDefEqProofs only [k3, k4, k5, A0, A1, B0, B1, C0, C1, m5, sF5, Nat.reduceEqDiff, ↓reduceIte, Nat.reduceAdd, Nat.reduceMul, Value.cells, Value.oneCell', eq_self, ne_eq, Int.reduceToNat, Int.reduceEq, Int.reduceLT, Int.reduceLE, Int.reduceNeg, if_true, if_false, reduceCtorEq, Nat.reduceSub, storeV_ptr, slcV_slice, ↓mwD, mwU]
      refine (Join_c a b _ _ w9 (ha.ext (hx.trans hx9)) (hb.ext (hx.trans hx9))).use ?_
      rintro r w10 ⟨h10, hq⟩
      rw [va, vb, if_pos (by rfl)] at hq
      obtain ⟨_, hq⟩ := hq
      have hx10 := hx9.trans h10
      have end1 : ∀ {w'}, Ext w0 w' → Rets Go.Proofs.Tryz.prog 10 #[] w' fun r w2 => r = .bool true ∧ Ext w w2 := fun h => (haw _ (hx.trans h)).mono fun r w2 hr => ⟨hr.1, (hx.trans h).trans hr.2⟩
      by_cases hm : a.m = b.m
      · rw [if_pos hm] at hq
        obtain ⟨o, hjn, ho⟩ := hq
        cases o with
        | none =>
          simp only at ho
          subst ho
          simp -dsimp -implicitDefEqProofs only [m5, sF5, Nat.reduceEqDiff, ↓reduceIte, Nat.reduceAdd, Nat.reduceMul, Value.cells, Value.oneCell', eq_self, ne_eq, Int.reduceToNat, Int.reduceEq, Int.reduceLT, Int.reduceLE, Int.reduceNeg, if_true, if_false, reduceCtorEq, Nat.reduceSub, storeV_ptr, slcV_slice, ↓mwD, mwU]
          refine (end1 (hx10.trans (Ext.alloc _ _))).use ?_
          rintro r w11 ⟨rfl, h11⟩
          simp -dsimp -implicitDefEqProofs only [m5, sF5, Nat.reduceEqDiff, ↓reduceIte, Nat.reduceAdd, Nat.reduceMul, Value.cells, Value.oneCell', eq_self, ne_eq, Int.reduceToNat, Int.reduceEq, Int.reduceLT, Int.reduceLE, Int.reduceNeg, if_true, if_false, reduceCtorEq, Nat.reduceSub, storeV_ptr, slcV_slice, ↓mwD, mwU]
          exact h11
        | some J =>
          obtain ⟨s, acc, rfl, rfl, hown⟩ := ho
          have hJs := hown.slF
          obtain ⟨hJ1, hJ2, hJ3⟩ := join_ok a.F b.F 0 _ fA fB hjn
          generalize acc.map (·.1) = J at *
          obtain ⟨pj, nj, rfl, _, _⟩ := hJs.shape
          have vj : (Fm.mk a.m J).valid = true := by
            have := va
            unfold Fm.valid at this ⊢
            simp only [Bool.and_eq_true] at this ⊢
            exact ⟨hJ1, this.2⟩
          have xJ : Ext w10 (w10.alloc (.cells #[.int .i64 a.m, .slice pj J.length nj] 24)) := Ext.alloc _ _
          have kJ := Bk.new w10 [.int .i64 a.m, .slice pj J.length nj] 24
          have J0 := kJ.get (o := 0) rfl
          have J1 := kJ.get (o := 1) rfl
          obtain ⟨⟨A0, A1⟩, ⟨B0, B1⟩, C0, C1⟩ := cells (hx10.trans xJ)
          simp -dsimp -implicitDefEqProofs only [k3, k4, k5, fmV, A0, A1, B0, B1, J0, J1, m5, sF5, Nat.reduceEqDiff, ↓reduceIte, Nat.reduceAdd, Nat.reduceMul, Value.cells, Value.oneCell', eq_self, ne_eq, Int.reduceToNat, Int.reduceEq, Int.reduceLT, Int.reduceLE, Int.reduceNeg, if_true, if_false, reduceCtorEq, Nat.reduceSub, storeV_ptr, slcV_slice, ↓mwD, mwU]
          have hx11 := hx10.trans xJ
          refine (FWithin_c ⟨a.m, J⟩ a _ _ _ (hJs.ext xJ) (ha.ext (hx.trans hx11))).use ?_
          rintro r w12 ⟨h12, hr⟩
          rw [vj, va, if_pos (by rfl)] at hr
          obtain ⟨y0, rfl, hy0⟩ := hr
          obtain rfl : y0 = true := hy0.2 ⟨rfl, hJ2⟩
          have hx12 := hx11.trans h12
          have J0 := (kJ.ext h12).get (o := 0) rfl
          have J1 := (kJ.ext h12).get (o := 1) rfl
          obtain ⟨⟨A0, A1⟩, ⟨B0, B1⟩, C0, C1⟩ := cells hx12
          simp -dsimp -implicitDefEqProofs only [k3, k4, k5, A0, A1, B0, B1, J0, J1, m5, sF5, Nat.reduceEqDiff, ↓reduceIte, Nat.reduceAdd, Nat.reduceMul, Value.cells, Value.oneCell', eq_self, ne_eq, Int.reduceToNat, Int.reduceEq, Int.reduceLT, Int.reduceLE, Int.reduceNeg, if_true, if_false, reduceCtorEq, Nat.reduceSub, storeV_ptr, slcV_slice, ↓mwD, mwU]
          refine (FWithin_c ⟨a.m, J⟩ b _ _ w12 ((hJs.ext xJ).ext h12) (hb.ext (hx.trans hx12))).use ?_
          rintro r w13 ⟨h13, hr⟩
          rw [vj, vb, if_pos (by rfl)] at hr
          obtain ⟨y1, rfl, hy1⟩ := hr
          obtain rfl : y1 = true := hy1.2 ⟨hm, hJ3⟩
          simp -dsimp -implicitDefEqProofs only [m5, sF5, Nat.reduceEqDiff, ↓reduceIte, Nat.reduceAdd, Nat.reduceMul, Value.cells, Value.oneCell', eq_self, ne_eq, Int.reduceToNat, Int.reduceEq, Int.reduceLT, Int.reduceLE, Int.reduceNeg, if_true, if_false, reduceCtorEq, Nat.reduceSub, storeV_ptr, slcV_slice, ↓mwD, mwU]
          refine (end1 (hx12.trans h13)).use ?_
          rintro r w14 ⟨rfl, h14⟩
          simp -dsimp -implicitDefEqProofs only [m5, sF5, Nat.reduceEqDiff, ↓reduceIte, Nat.reduceAdd, Nat.reduceMul, Value.cells, Value.oneCell', eq_self, ne_eq, Int.reduceToNat, Int.reduceEq, Int.reduceLT, Int.reduceLE, Int.reduceNeg, if_true, if_false, reduceCtorEq, Nat.reduceSub, storeV_ptr, slcV_slice, ↓mwD, mwU]
          exact h14
      · rw [if_neg hm] at hq
        subst hq
        simp -dsimp -implicitDefEqProofs only [m5, sF5, Nat.reduceEqDiff, ↓reduceIte, Nat.reduceAdd, Nat.reduceMul, Value.cells, Value.oneCell', eq_self, ne_eq, Int.reduceToNat, Int.reduceEq, Int.reduceLT, Int.reduceLE, Int.reduceNeg, if_true, if_false, reduceCtorEq, Nat.reduceSub, storeV_ptr, slcV_slice, ↓mwD, mwU]
        refine (end1 (hx10.trans (Ext.alloc _ _))).use ?_
        rintro r w11 ⟨rfl, h11⟩
        simp -dsimp -implicitDefEqProofs only [m5, sF5, Nat.reduceEqDiff, ↓reduceIte, Nat.reduceAdd, Nat.reduceMul, Value.cells, Value.oneCell', eq_self, ne_eq, Int.reduceToNat, Int.reduceEq, Int.reduceLT, Int.reduceLE, Int.reduceNeg, if_true, if_false, reduceCtorEq, Nat.reduceSub, storeV_ptr, slcV_slice, ↓mwD, mwU]
        exact h11
    · obtain rfl : z2 = true := hz2.2 ((hz0.1 rfl).trans (hz1.1 rfl))
      obtain ⟨⟨A0, A1⟩, ⟨B0, B1⟩, C0, C1⟩ := cells hx9
      simp -dsimp -implicitDefEqProofs only [k3, k4, k5, A0, A1, B0, B1, C0, C1, m5, sF5, Nat.reduceEqDiff, ↓reduceIte, Nat.reduceAdd, Nat.reduceMul, Value.cells, Value.oneCell', eq_self, ne_eq, Int.reduceToNat, Int.reduceEq, Int.reduceLT, Int.reduceLE, Int.reduceNeg, if_true, if_false, reduceCtorEq, Nat.reduceSub, storeV_ptr, slcV_slice, ↓mwD, mwU]
      refine (Join_c a b _ _ w9 (ha.ext (hx.trans hx9)) (hb.ext (hx.trans hx9))).use ?_
      rintro r w10 ⟨h10, hq⟩
      rw [va, vb, if_pos (by rfl)] at hq
      obtain ⟨_, hq⟩ := hq
      have hx10 := hx9.trans h10
      have end1 : ∀ {w'}, Ext w0 w' → Rets Go.Proofs.Tryz.prog 10 #[] w' fun r w2 => r = .bool true ∧ Ext w w2 := fun h => (haw _ (hx.trans h)).mono fun r w2 hr => ⟨hr.1, (hx.trans h).trans hr.2⟩
      by_cases hm : a.m = b.m
      · rw [if_pos hm] at hq
        obtain ⟨o, hjn, ho⟩ := hq
        cases o with
        | none =>
          simp only at ho
          subst ho
          simp -dsimp -implicitDefEqProofs only [m5, sF5, Nat.reduceEqDiff, ↓reduceIte, Nat.reduceAdd, Nat.reduceMul, Value.cells, Value.oneCell', eq_self, ne_eq, Int.reduceToNat, Int.reduceEq, Int.reduceLT, Int.reduceLE, Int.reduceNeg, if_true, if_false, reduceCtorEq, Nat.reduceSub, storeV_ptr, slcV_slice, ↓mwD, mwU]
          refine (end1 (hx10.trans (Ext.alloc _ _))).use ?_
          rintro r w11 ⟨rfl, h11⟩
          simp -dsimp -implicitDefEqProofs only [m5, sF5, Nat.reduceEqDiff, ↓reduceIte, Nat.reduceAdd, Nat.reduceMul, Value.cells, Value.oneCell', eq_self, ne_eq, Int.reduceToNat, Int.reduceEq, Int.reduceLT, Int.reduceLE, Int.reduceNeg, if_true, if_false, reduceCtorEq, Nat.reduceSub, storeV_ptr, slcV_slice, ↓mwD, mwU]
          exact h11
        | some J =>
          obtain ⟨s, acc, rfl, rfl, hown⟩ := ho
          have hJs := hown.slF
          obtain ⟨hJ1, hJ2, hJ3⟩ := join_ok a.F b.F 0 _ fA fB hjn
          generalize acc.map (·.1) = J at *
          obtain ⟨pj, nj, rfl, _, _⟩ := hJs.shape
          have vj : (Fm.mk a.m J).valid = true := by
            have := va
            unfold Fm.valid at this ⊢
            simp only [Bool.and_eq_true] at this ⊢
            exact ⟨hJ1, this.2⟩
          have xJ : Ext w10 (w10.alloc (.cells #[.int .i64 a.m, .slice pj J.length nj] 24)) := Ext.alloc _ _
          have kJ := Bk.new w10 [.int .i64 a.m, .slice pj J.length nj] 24
          have J0 := kJ.get (o := 0) rfl
          have J1 := kJ.get (o := 1) rfl
          obtain ⟨⟨A0, A1⟩, ⟨B0, B1⟩, C0, C1⟩ := cells (hx10.trans xJ)
          simp -dsimp -implicitDefEqProofs only [k3, k4, k5, fmV, A0, A1, B0, B1, J0, J1, m5, sF5, Nat.reduceEqDiff, ↓reduceIte, Nat.reduceAdd, Nat.reduceMul, Value.cells, Value.oneCell', eq_self, ne_eq, Int.reduceToNat, Int.reduceEq, Int.reduceLT, Int.reduceLE, Int.reduceNeg, if_true, if_false, reduceCtorEq, Nat.reduceSub, storeV_ptr, slcV_slice, ↓mwD, mwU]
          have hx11 := hx10.trans xJ
          refine (FWithin_c ⟨a.m, J⟩ a _ _ _ (hJs.ext xJ) (ha.ext (hx.trans hx11))).use ?_
          rintro r w12 ⟨h12, hr⟩
          rw [vj, va, if_pos (by rfl)] at hr
          obtain ⟨y0, rfl, hy0⟩ := hr
          obtain rfl : y0 = true := hy0.2 ⟨rfl, hJ2⟩
          have hx12 := hx11.trans h12
          have J0 := (kJ.ext h12).get (o := 0) rfl
          have J1 := (kJ.ext h12).get (o := 1) rfl
          obtain ⟨⟨A0, A1⟩, ⟨B0, B1⟩, C0, C1⟩ := cells hx12
          simp -dsimp -implicitDefEqProofs only [k3, k4, k5, A0, A1, B0, B1, J0, J1, m5, sF5, Nat.reduceEqDiff, ↓reduceIte, Nat.reduceAdd, Nat.reduceMul, Value.cells, Value.oneCell', eq_self, ne_eq, Int.reduceToNat, Int.reduceEq, Int.reduceLT, Int.reduceLE, Int.reduceNeg, if_true, if_false, reduceCtorEq, Nat.reduceSub, storeV_ptr, slcV_slice, ↓mwD, mwU]
          refine (FWithin_c ⟨a.m, J⟩ b _ _ w12 ((hJs.ext xJ).ext h12) (hb.ext (hx.trans hx12))).use ?_
          rintro r w13 ⟨h13, hr⟩
          rw [vj, vb, if_pos (by rfl)] at hr
          obtain ⟨y1, rfl, hy1⟩ := hr
          obtain rfl : y1 = true := hy1.2 ⟨hm, hJ3⟩
          simp -dsimp -implicitDefEqProofs only [m5, sF5, Nat.reduceEqDiff, ↓reduceIte, Nat.reduceAdd, Nat.reduceMul, Value.cells, Value.oneCell', eq_self, ne_eq, Int.reduceToNat, Int.reduceEq, Int.reduceLT, Int.reduceLE, Int.reduceNeg, if_true, if_false, reduceCtorEq, Nat.reduceSub, storeV_ptr, slcV_slice, ↓mwD, mwU]
          refine (end1 (hx12.trans h13)).use ?_
          rintro r w14 ⟨rfl, h14⟩
          simp -dsimp -implicitDefEqProofs only [m5, sF5, Nat.reduceEqDiff, ↓reduceIte, Nat.reduceAdd, Nat.reduceMul, Value.cells, Value.oneCell', eq_self, ne_eq, Int.reduceToNat, Int.reduceEq, Int.reduceLT, Int.reduceLE, Int.reduceNeg, if_true, if_false, reduceCtorEq, Nat.reduceSub, storeV_ptr, slcV_slice, ↓mwD, mwU]
          exact h14
      · rw [if_neg hm] at hq
        subst hq
        simp -dsimp -implicitDefEqProofs only [m5, sF5, Nat.reduceEqDiff, ↓reduceIte, Nat.reduceAdd, Nat.reduceMul, Value.cells, Value.oneCell', eq_self, ne_eq, Int.reduceToNat, Int.reduceEq, Int.reduceLT, Int.reduceLE, Int.reduceNeg, if_true, if_false, reduceCtorEq, Nat.reduceSub, storeV_ptr, slcV_slice, ↓mwD, mwU]
        refine (end1 (hx10.trans (Ext.alloc _ _))).use ?_
        rintro r w11 ⟨rfl, h11⟩
        simp -dsimp -implicitDefEqProofs only [m5, sF5, Nat.reduceEqDiff, ↓reduceIte, Nat.reduceAdd, Nat.reduceMul, Value.cells, Value.oneCell', eq_self, ne_eq, Int.reduceToNat, Int.reduceEq, Int.reduceLT, Int.reduceLE, Int.reduceNeg, if_true, if_false, reduceCtorEq, Nat.reduceSub, storeV_ptr, slcV_slice, ↓mwD, mwU]
        exact h11
end Go.Proofs.YthcdnjbhhaonhaaGreatDoor

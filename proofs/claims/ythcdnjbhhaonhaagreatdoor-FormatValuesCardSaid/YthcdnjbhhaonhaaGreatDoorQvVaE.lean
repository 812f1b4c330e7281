/- Layer 01: the forms of lists, objects and sequences by the program. -/
import Derived.Test.YthcdnjbhhaonhaaGreatDoorQvVaBToVaD
import Derived.Test.YthcdnjbhhaonhaaGreatDoorQvChR

namespace Go.Proofs.YthcdnjbhhaonhaaGreatDoor
open Go.RowKit
open Nat renaming reduceEqDiff → ZA, reduceAdd → ZB, reduceMul → ZC, reduceSub → ZD
open Int renaming reduceToNat → ZE, reduceEq → ZF, reduceLT → ZG, reduceLE → ZH, reduceNeg → ZI
open Go.Value renaming oneCell' → ZK, cells → ZJ
set_option linter.unusedSimpArgs false
theorem form61_c (v : Vt) (q1 q2 : Option Addr) (c1 c2 b1 : Nat) (w0 : World) (A : Bk w0 b1 (vtCs v (.slice q1 v.keys.length c1) (.slice q2 v.kids.length c2)) 64) (hv : VAt w0 v (.slice q1 v.keys.length c1) (.slice q2 v.kids.length c2)) (hne : v.kids ≠ [])
    (x : Vt) (t1 t2 : Value) (w : World) (hx0 : Ext w0 w) (hx : VAt w x t1 t2) : Rets Go.Proofs.Tryz.prog 187 #[vtV x t1 t2, .pointer (some ⟨b1, 0, none⟩)] w (YesQ (¬((x.k = 2 ∨ x.k = 3 ∨ x.k = 4) ∧ x.k = (v.kids.head?.map Vt.k).getD 0)) w) := by
  obtain ⟨p1, e1, rfl, _, _⟩ := hx.ks.shape
  obtain ⟨p2, e2, rfl, _, _⟩ := hx.vs.shape
  obtain ⟨W, hW, B, x0⟩ := new_vt w x (.slice p1 x.keys.length e1) (.slice p2 x.kids.length e2)
  refine en187 ?_
  refine mwpB_cut 1 (fun e ds w' => e 1 = .pointer (some ⟨b1, 0, none⟩) ∧ e 2 = .pointer (some ⟨w.heap.size, 0, none⟩) ∧ ds = [] ∧ w' = W) ?_ ?_
  · simp -dsimp -implicitDefEqProofs only [headM_zero,headM_seq,vtV,hW,m187,sF187,ZA,↓reduceIte,ZB,ZC,ZJ,ZK,ZE,ZF,ZG,ZH,ZI,reduceCtorEq,ZD,mwV,↓mwD,mwU]
  clear hW
  rintro e ds w1 ⟨h1, h2, rfl, rfl⟩
  have hl : 0 < v.kids.length := List.length_pos_iff.2 hne
  have hb1 : (0 : Int) ≤ 0 ∧ (0 : Int) < v.kids.length := by omega
  have hh : (v.kids.head?.map Vt.k).getD 0 = v.kids[0].k := by
    rw [List.head?_eq_getElem?, List.getElem?_eq_getElem hl]; rfl
  rw [hh]
  have hvx := hv.vs.ext (hx0.trans (x0.trans (Ext.drew w1)))
  obtain ⟨b, o, t1, m1, d1, t2, d2, rfl, k0, k1, k2, k3, k4, hk, rfl⟩ := hvx.get hl
  obtain ⟨a0, a1, a2, a3, a4⟩ := bk_vt A (hx0.trans (x0.trans (Ext.drew w1)))
  obtain ⟨g0, g1, g2, g3, g4⟩ := bk_vt B (Ext.drew w1)
  simp only [Nat.mul_zero,Nat.add_zero] at k0
  simp -dsimp -implicitDefEqProofs only [tailM_zero,tailM_seq,h1,h2,m187,sF187,ZA,↓reduceIte,ZB,ZC,ZJ,ZK,ZE,ZF,ZG,ZH,ZI,reduceCtorEq,ZD,mwV,↓mwD,mwU]
  refine mwpB_drawE ?_
  simp -dsimp -implicitDefEqProofs only [h1,h2,g0,a4,planEB_two,m187,sF187,ZA,↓reduceIte,ZB,ZC,ZJ,ZK,ZE,ZF,ZG,ZH,ZI,reduceCtorEq,ZD,mwV,↓mwD,mwU]
  refine (plain_c _ _).use ?_
  rintro r w2 ⟨rfl, rfl⟩
  have er : Ext w1.drew w1.drew := Ext.refl _
  cases hp : (decide (2 ≤ x.k) && decide (x.k ≤ 4))
  · simp -dsimp -implicitDefEqProofs only [er,m187,sF187,ZA,↓reduceIte,ZB,ZC,ZJ,ZK,ZE,ZF,ZG,ZH,ZI,reduceCtorEq,ZD,mwV,↓mwD,mwU]
    refine .yes (x0.trans (Ext.drew _)) (fun h => ?_)
    have : ¬ (2 ≤ x.k ∧ x.k ≤ 4) := by simpa using hp
    omega
  · have hp' : 2 ≤ x.k ∧ x.k ≤ 4 := by simpa using hp
    simp -dsimp -implicitDefEqProofs only [er,h1,h2,g0,a4,hb1,and_self,k0,Nat.mul_zero,Nat.zero_mul,Nat.add_zero,Int.toNat_zero,m187,sF187,ZA,↓reduceIte,ZB,ZC,ZJ,ZK,ZE,ZF,ZG,ZH,ZI,reduceCtorEq,ZD,mwV,↓mwD,mwU]
    refine .mk' (x0.trans (Ext.drew _)) ?_
    simp only [Bool.not_eq_true',decide_eq_false_iff_not]
    constructor
    · exact fun h h' => h h'.2
    · exact fun h h' => h ⟨by omega, h'⟩
theorem form6_c (v : Vt) (s1 s2 : Value) (w : World) (hv : VAt w v s1 s2) : Rets Go.Proofs.Tryz.prog 186 #[vtV v s1 s2] w (YesQ (Bare v false false false true ∧ ListOk v.kids) w) := by
  obtain ⟨q1, c1, rfl, hd1, hd2⟩ := hv.ks.shape
  obtain ⟨q2, c2, rfl, hc1, hc2⟩ := hv.vs.shape
  obtain ⟨W, hW, A, x0⟩ := new_vt w v (.slice q1 v.keys.length c1) (.slice q2 v.kids.length c2)
  refine en186 ?_
  refine mwpB_cut 1 (fun e ds w' => e 1 = .pointer (some ⟨w.heap.size, 0, none⟩) ∧ ds = [] ∧ w' = W) ?_ ?_
  · simp -dsimp -implicitDefEqProofs only [headM_zero,headM_seq,vtV,hW,m186,sF186,ZA,↓reduceIte,ZB,ZC,ZJ,ZK,ZE,ZF,ZG,ZH,ZI,reduceCtorEq,ZD,mwV,↓mwD,mwU]
  clear hW
  rintro e ds w0 ⟨h1, rfl, rfl⟩
  obtain ⟨a0, a1, a2, a3, a4⟩ := bk_vt A (Ext.refl w0)
  simp -dsimp -implicitDefEqProofs only [tailM_zero,tailM_seq,h1,a0,a1,a2,a3,a4,m186,sF186,ZA,↓reduceIte,ZB,ZC,ZJ,ZK,ZE,ZF,ZG,ZH,ZI,reduceCtorEq,ZD,mwV,↓mwD,mwU]
  refine (bare_c v _ _ false false false true w0 (hv.ext x0)).use ?_
  rintro r w1 ⟨hx, b, rfl, hb⟩
  cases b
  · simp -dsimp -implicitDefEqProofs only [h1,m186,sF186,ZA,↓reduceIte,ZB,ZC,ZJ,ZK,ZE,ZF,ZG,ZH,ZI,reduceCtorEq,ZD,mwV,↓mwD,mwU]
    exact .no (x0.trans hx) (fun h => by have := hb.2 h.1; cases this)
  obtain ⟨a0, a1, a2, a3, a4⟩ := bk_vt A hx
  simp -dsimp -implicitDefEqProofs only [h1,a4,m186,sF186,ZA,↓reduceIte,ZB,ZC,ZJ,ZK,ZE,ZF,ZG,ZH,ZI,reduceCtorEq,ZD,mwV,↓mwD,mwU]
  refine (ContainsFV1 _ v.kids 187 (.pointer (some ⟨w.heap.size, 0, none⟩)) (fun x => ¬((x.k = 2 ∨ x.k = 3 ∨ x.k = 4) ∧ x.k = (v.kids.head?.map Vt.k).getD 0)) w1 (hv.vs.ext (x0.trans hx)) okF_187
    (fun x hm t1 t2 w2 hx2 hvx => form61_c v _ _ _ _ _ w1 (A.ext hx) (hv.ext (x0.trans hx)) (fun h0 => by rw [h0] at hm; cases hm) x t1 t2 w2 hx2 hvx)).use ?_
  rintro r w2 ⟨hx2, b, rfl, hb2⟩
  simp -dsimp -implicitDefEqProofs only [m186,sF186,ZA,↓reduceIte,ZB,ZC,ZJ,ZK,ZE,ZF,ZG,ZH,ZI,reduceCtorEq,ZD,mwV,↓mwD,mwU]
  refine .mk' (x0.trans (hx.trans hx2)) ?_
  rw [show (Bare v false false false true ∧ ListOk v.kids) ↔ ListOk v.kids from ⟨fun h => h.2, fun h => ⟨hb.1 rfl, h⟩⟩]
  cases b
  · simp only [Bool.not_false,true_iff]
    intro x hm
    exact Classical.byContradiction fun hne => by have := hb2.2 ⟨x, hm, hne⟩; cases this
  · simp only [Bool.not_true,Bool.false_eq_true,false_iff]
    intro hall
    obtain ⟨x, hm, hne⟩ := hb2.1 rfl
    exact hne (hall x hm)
set_option maxHeartbeats 2000000 in
theorem form8_c (v : Vt) (s1 s2 : Value) (w : World) (hv : VAt w v s1 s2) : Rets Go.Proofs.Tryz.prog 191 #[vtV v s1 s2] w (YesQ ((v.s = ⟨#[]⟩ ∧ 0 ≤ v.n ∧ v.n ≤ 2147483647 ∧ v.keys.length = v.kids.length) ∧ KeysOk 2147483647 true v.keys) w) := by
  obtain ⟨q1, c1, rfl, hd1, hd2⟩ := hv.ks.shape
  obtain ⟨q2, c2, rfl, hc1, hc2⟩ := hv.vs.shape
  obtain ⟨W, hW, A, x0⟩ := new_vt w v (.slice q1 v.keys.length c1) (.slice q2 v.kids.length c2)
  refine en191 ?_
  refine mwpB_cut 1 (fun e ds w' => e 1 = .pointer (some ⟨w.heap.size, 0, none⟩) ∧ ds = [] ∧ w' = W) ?_ ?_
  · simp -dsimp -implicitDefEqProofs only [headM_zero,headM_seq,vtV,hW,m191,sF191,ZA,↓reduceIte,ZB,ZC,ZJ,ZK,ZE,ZF,ZG,ZH,ZI,reduceCtorEq,ZD,mwV,↓mwD,mwU]
  clear hW
  rintro e ds w0 ⟨h1, rfl, rfl⟩
  obtain ⟨a0, a1, a2, a3, a4⟩ := bk_vt A (Ext.refl w0)
  refine mwpB_cut 1 (fun e ds w' => e 1 = .pointer (some ⟨w.heap.size, 0, none⟩) ∧ (∃ ok : Bool, e 3 = .bool ok ∧ (ok = true ↔ v.s = ⟨#[]⟩ ∧ 0 ≤ v.n ∧ v.n ≤ 2147483647 ∧ v.keys.length = v.kids.length)) ∧ ds = [] ∧ w' = w0) ?_ ?_
  · skip
    by_cases p0 : v.s = ⟨#[]⟩
    rotate_left
    · simp -dsimp -implicitDefEqProofs only [tailM_zero,tailM_seq,headM_zero,headM_seq,h1,a1,a2,a3,a4,binV_eqS,p0,m191,sF191,ZA,↓reduceIte,ZB,ZC,ZJ,ZK,ZE,ZF,ZG,ZH,ZI,reduceCtorEq,ZD,mwV,↓mwD,mwU]
      exact ⟨_, rfl, by simp [p0]⟩
    by_cases p1 : 0 ≤ v.n
    rotate_left
    · simp -dsimp -implicitDefEqProofs only [tailM_zero,tailM_seq,headM_zero,headM_seq,h1,a1,a2,a3,a4,binV_eqS,p0,p1,m191,sF191,ZA,↓reduceIte,ZB,ZC,ZJ,ZK,ZE,ZF,ZG,ZH,ZI,reduceCtorEq,ZD,mwV,↓mwD,mwU]
      exact ⟨_, rfl, by simp [p1]⟩
    by_cases p2 : v.n ≤ 2147483647
    rotate_left
    · simp -dsimp -implicitDefEqProofs only [tailM_zero,tailM_seq,headM_zero,headM_seq,h1,a1,a2,a3,a4,binV_eqS,p0,p1,p2,m191,sF191,ZA,↓reduceIte,ZB,ZC,ZJ,ZK,ZE,ZF,ZG,ZH,ZI,reduceCtorEq,ZD,mwV,↓mwD,mwU]
      exact ⟨_, rfl, by simp [p2]⟩
    by_cases p3 : (v.keys.length : Int) = v.kids.length
    rotate_left
    · simp -dsimp -implicitDefEqProofs only [tailM_zero,tailM_seq,headM_zero,headM_seq,h1,a1,a2,a3,a4,binV_eqS,p0,p1,p2,p3,m191,sF191,ZA,↓reduceIte,ZB,ZC,ZJ,ZK,ZE,ZF,ZG,ZH,ZI,reduceCtorEq,ZD,mwV,↓mwD,mwU]
      exact ⟨_, rfl, by simp; omega⟩
    simp -dsimp -implicitDefEqProofs only [tailM_zero,tailM_seq,headM_zero,headM_seq,h1,a1,a2,a3,a4,binV_eqS,p0,p1,p2,p3,m191,sF191,ZA,↓reduceIte,ZB,ZC,ZJ,ZK,ZE,ZF,ZG,ZH,ZI,reduceCtorEq,ZD,mwV,↓mwD,mwU]
    exact ⟨_, rfl, ⟨fun _ => by omega, fun _ => rfl⟩⟩
  rintro e ds w0 ⟨h1, ⟨ok, h3, hok⟩, rfl, rfl⟩
  simp -dsimp -implicitDefEqProofs only [tailM_zero,tailM_seq,h1,h3,a3,m191,sF191,ZA,↓reduceIte,ZB,ZC,ZJ,ZK,ZE,ZF,ZG,ZH,ZI,reduceCtorEq,ZD,mwV,↓mwD,mwU]
  refine mwpB_loop (fun e ds w' => ∃ (i : Nat) (ok : Bool), i ≤ v.keys.length ∧ e 31 = .int .i64 i ∧ e 30 = .int .i64 v.keys.length ∧ e 29 = .slice q1 v.keys.length c1 ∧ e 1 = .pointer (some ⟨w.heap.size, 0, none⟩) ∧ e 3 = .bool ok ∧ ds = [] ∧ w' = w0 ∧ (ok = true ↔ (v.s = ⟨#[]⟩ ∧ 0 ≤ v.n ∧ v.n ≤ 2147483647 ∧ v.keys.length = v.kids.length) ∧ ∀ j, j < i → KeyOk 2147483647 true v.keys j))
    (fun e _ => v.keys.length - (intOf (e 31)).toNat) ?_ ?_
  · simp -dsimp -implicitDefEqProofs only [h1,h3,m191,sF191,ZA,↓reduceIte,ZB,ZC,ZJ,ZK,ZE,ZF,ZG,ZH,ZI,reduceCtorEq,ZD,mwV,↓mwD,mwU]
    exact ⟨0, _, by omega, rfl, rfl, by rw [hok]; simp⟩
  clear hok h1 h3
  rintro e ds w0 ⟨i, ok, hi, hL, hN, hS, h1, h3, rfl, rfl, hok⟩
  simp -dsimp -implicitDefEqProofs only [hL,hN,hS,h1,h3,m191,sF191,ZA,↓reduceIte,ZB,ZC,ZJ,ZK,ZE,ZF,ZG,ZH,ZI,reduceCtorEq,ZD,mwV,↓mwD,mwU]
  refine iteW_dec (fun hlt => ?_) (fun hge => ?_)
  · have hlt' : i < v.keys.length := by omega
    obtain ⟨b, o, cap', hvk, _, _, hcell⟩ := (hv.ks.ext x0).at (by intro h0; rw [h0] at hlt'; simp at hlt')
    cases hvk
    have hck := hcell i hlt'
    have hb1 : (0 : Int) ≤ i ∧ (i : Int) < v.keys.length := by omega
    have hs1 := w64_succ hlt' (Nat.le_trans hd1 hd2)
    have nx : ∀ b' : Bool, (b' = true ↔ ok = true ∧ KeyOk 2147483647 true v.keys i) → (b' = true ↔ (v.s = ⟨#[]⟩ ∧ 0 ≤ v.n ∧ v.n ≤ 2147483647 ∧ v.keys.length = v.kids.length) ∧ ∀ j, j < i + 1 → KeyOk 2147483647 true v.keys j) := fun b' h => by
      rw [h, hok, and_assoc, ← Nat.forall_lt_succ_right]
    have hK : KeyOk 2147483647 true v.keys i ↔ 0 ≤ v.keys[i] ∧ v.keys[i] ≤ 2147483647 ∧ (i = 0 ∨ v.keys.getD (i - 1) 0 < v.keys[i] ∨ (true = false ∧ v.keys.getD (i - 1) 0 = v.keys[i])) := by unfold KeyOk; rw [getD_get hlt']
    cases ok
    · simp -dsimp -implicitDefEqProofs only [hL,hN,hS,h1,h3,hb1,and_self,hck,hs1,m191,sF191,ZA,↓reduceIte,ZB,ZC,ZJ,ZK,ZE,ZF,ZG,ZH,ZI,reduceCtorEq,ZD,mwV,↓mwD,mwU]
      exact ⟨⟨i + 1, _, by omega, rfl, rfl, nx _ (by simp)⟩, by simp only [intOf,hL]; omega⟩
    by_cases p1 : 0 ≤ v.keys[i]
    rotate_left
    · simp -dsimp -implicitDefEqProofs only [hL,hN,hS,h1,h3,hb1,and_self,hck,hs1,p1,m191,sF191,ZA,↓reduceIte,ZB,ZC,ZJ,ZK,ZE,ZF,ZG,ZH,ZI,reduceCtorEq,ZD,mwV,↓mwD,mwU]
      exact ⟨⟨i + 1, _, by omega, rfl, rfl, nx _ (by simp only [Bool.false_eq_true,false_iff]; rw [hK]; omega)⟩, by simp only [intOf,hL]; omega⟩
    by_cases p2 : v.keys[i] ≤ 2147483647
    rotate_left
    · simp -dsimp -implicitDefEqProofs only [hL,hN,hS,h1,h3,hb1,and_self,hck,hs1,p1,p2,m191,sF191,ZA,↓reduceIte,ZB,ZC,ZJ,ZK,ZE,ZF,ZG,ZH,ZI,reduceCtorEq,ZD,mwV,↓mwD,mwU]
      exact ⟨⟨i + 1, _, by omega, rfl, rfl, nx _ (by simp only [Bool.false_eq_true,false_iff]; rw [hK]; omega)⟩, by simp only [intOf,hL]; omega⟩
    by_cases p3 : (i : Int) = 0
    · have d3 : decide ((i : Int) = 0) = true := by simpa using p3
      simp -dsimp -implicitDefEqProofs only [hL,hN,hS,h1,h3,hb1,and_self,hck,hs1,p1,p2,d3,m191,sF191,ZA,↓reduceIte,ZB,ZC,ZJ,ZK,ZE,ZF,ZG,ZH,ZI,reduceCtorEq,ZD,mwV,↓mwD,mwU]
      exact ⟨⟨i + 1, _, by omega, rfl, rfl, nx _ (by simp only [true_and,true_iff]; exact hK.2 ⟨p1, p2, .inl (by omega)⟩)⟩, by simp only [intOf,hL]; omega⟩
    have hk1 : i - 1 < v.keys.length := by omega
    have hcp := hcell (i - 1) hk1
    have hw3 : IntKind.i64.wrap ((i : Int) - 1) = ((i - 1 : Nat) : Int) := by rw [w64 (by omega) (by unfold maxLen at hd2; omega)]; omega
    have hb3 : (0 : Int) ≤ ((i - 1 : Nat) : Int) ∧ ((i - 1 : Nat) : Int) < v.keys.length := by omega
    rw [getD_get hk1] at hK
    by_cases p4 : v.keys[i - 1] < v.keys[i]
    · skip
      simp -dsimp -implicitDefEqProofs only [hL,hN,hS,h1,h3,hb1,and_self,hck,hs1,p1,p2,p3,p4,hw3,hb3,hcp,a3,m191,sF191,ZA,↓reduceIte,ZB,ZC,ZJ,ZK,ZE,ZF,ZG,ZH,ZI,reduceCtorEq,ZD,mwV,↓mwD,mwU]
      exact ⟨⟨i + 1, _, by omega, rfl, rfl, nx _ (by simp only [true_and,true_iff]; exact hK.2 ⟨p1, p2, .inr (.inl p4)⟩)⟩, by simp only [intOf,hL]; omega⟩
    · simp -dsimp -implicitDefEqProofs only [hL,hN,hS,h1,h3,hb1,and_self,hck,hs1,p1,p2,p3,p4,hw3,hb3,hcp,a3,m191,sF191,ZA,↓reduceIte,ZB,ZC,ZJ,ZK,ZE,ZF,ZG,ZH,ZI,reduceCtorEq,ZD,mwV,↓mwD,mwU]
      exact ⟨⟨i + 1, _, by omega, rfl, rfl, nx _ (by simp only [true_and,Bool.false_eq_true,false_iff]; rw [hK]; simp only [Bool.true_eq_false,false_and,or_false,true_and,eq_self]; omega)⟩, by simp only [intOf,hL]; omega⟩
  · have hkl : i = v.keys.length := by omega
    subst hkl
    simp -dsimp -implicitDefEqProofs only [hL,hN,hS,h1,h3,m191,sF191,ZA,↓reduceIte,ZB,ZC,ZJ,ZK,ZE,ZF,ZG,ZH,ZI,reduceCtorEq,ZD,mwV,↓mwD,mwU]
    exact .mk' x0 hok
set_option maxHeartbeats 2000000 in
theorem form10_c (v : Vt) (s1 s2 : Value) (w : World) (hv : VAt w v s1 s2) : Rets Go.Proofs.Tryz.prog 194 #[vtV v s1 s2] w (YesQ ((v.s = ⟨#[]⟩ ∧ v.n = 0 ∧ v.keys.length = v.kids.length) ∧ KeysOk 1000000000 false v.keys ∧ ∀ x, x ∈ v.kids → x.k ≠ 10) w) := by
  obtain ⟨q1, c1, rfl, hd1, hd2⟩ := hv.ks.shape
  obtain ⟨q2, c2, rfl, hc1, hc2⟩ := hv.vs.shape
  obtain ⟨W, hW, A, x0⟩ := new_vt w v (.slice q1 v.keys.length c1) (.slice q2 v.kids.length c2)
  refine en194 ?_
  refine mwpB_cut 1 (fun e ds w' => e 1 = .pointer (some ⟨w.heap.size, 0, none⟩) ∧ ds = [] ∧ w' = W) ?_ ?_
  · simp -dsimp -implicitDefEqProofs only [headM_zero,headM_seq,vtV,hW,m194,sF194,ZA,↓reduceIte,ZB,ZC,ZJ,ZK,ZE,ZF,ZG,ZH,ZI,reduceCtorEq,ZD,mwV,↓mwD,mwU]
  clear hW
  rintro e ds w0 ⟨h1, rfl, rfl⟩
  obtain ⟨a0, a1, a2, a3, a4⟩ := bk_vt A (Ext.refl w0)
  refine mwpB_cut 1 (fun e ds w' => e 1 = .pointer (some ⟨w.heap.size, 0, none⟩) ∧ (∃ ok : Bool, e 3 = .bool ok ∧ (ok = true ↔ v.s = ⟨#[]⟩ ∧ v.n = 0 ∧ v.keys.length = v.kids.length)) ∧ ds = [] ∧ w' = w0) ?_ ?_
  · skip
    by_cases p0 : v.s = ⟨#[]⟩
    rotate_left
    · simp -dsimp -implicitDefEqProofs only [tailM_zero,tailM_seq,headM_zero,headM_seq,h1,a1,a2,a3,a4,binV_eqS,p0,m194,sF194,ZA,↓reduceIte,ZB,ZC,ZJ,ZK,ZE,ZF,ZG,ZH,ZI,reduceCtorEq,ZD,mwV,↓mwD,mwU]
      exact ⟨_, rfl, by simp [p0]⟩
    by_cases p1 : v.n = 0
    rotate_left
    · simp -dsimp -implicitDefEqProofs only [tailM_zero,tailM_seq,headM_zero,headM_seq,h1,a1,a2,a3,a4,binV_eqS,p0,p1,m194,sF194,ZA,↓reduceIte,ZB,ZC,ZJ,ZK,ZE,ZF,ZG,ZH,ZI,reduceCtorEq,ZD,mwV,↓mwD,mwU]
      exact ⟨_, rfl, by simp [p1]⟩
    by_cases p2 : (v.keys.length : Int) = v.kids.length
    rotate_left
    · simp -dsimp -implicitDefEqProofs only [tailM_zero,tailM_seq,headM_zero,headM_seq,h1,a1,a2,a3,a4,binV_eqS,p0,p1,p2,m194,sF194,ZA,↓reduceIte,ZB,ZC,ZJ,ZK,ZE,ZF,ZG,ZH,ZI,reduceCtorEq,ZD,mwV,↓mwD,mwU]
      exact ⟨_, rfl, by simp; omega⟩
    simp -dsimp -implicitDefEqProofs only [tailM_zero,tailM_seq,headM_zero,headM_seq,h1,a1,a2,a3,a4,binV_eqS,p0,p1,p2,m194,sF194,ZA,↓reduceIte,ZB,ZC,ZJ,ZK,ZE,ZF,ZG,ZH,ZI,reduceCtorEq,ZD,mwV,↓mwD,mwU]
    exact ⟨_, rfl, ⟨fun _ => by omega, fun _ => rfl⟩⟩
  rintro e ds w0 ⟨h1, ⟨ok, h3, hok⟩, rfl, rfl⟩
  simp -dsimp -implicitDefEqProofs only [tailM_zero,tailM_seq,h1,h3,a3,m194,sF194,ZA,↓reduceIte,ZB,ZC,ZJ,ZK,ZE,ZF,ZG,ZH,ZI,reduceCtorEq,ZD,mwV,↓mwD,mwU]
  refine mwpB_loop (fun e ds w' => ∃ (i : Nat) (ok : Bool), i ≤ v.keys.length ∧ e 26 = .int .i64 i ∧ e 25 = .int .i64 v.keys.length ∧ e 24 = .slice q1 v.keys.length c1 ∧ e 1 = .pointer (some ⟨w.heap.size, 0, none⟩) ∧ e 3 = .bool ok ∧ ds = [] ∧ w' = w0 ∧ (ok = true ↔ (v.s = ⟨#[]⟩ ∧ v.n = 0 ∧ v.keys.length = v.kids.length) ∧ ∀ j, j < i → KeyOk 1000000000 false v.keys j ∧ (v.kids.map Vt.k).getD j 0 ≠ 10))
    (fun e _ => v.keys.length - (intOf (e 26)).toNat) ?_ ?_
  · simp -dsimp -implicitDefEqProofs only [h1,h3,m194,sF194,ZA,↓reduceIte,ZB,ZC,ZJ,ZK,ZE,ZF,ZG,ZH,ZI,reduceCtorEq,ZD,mwV,↓mwD,mwU]
    exact ⟨0, _, by omega, rfl, rfl, by rw [hok]; simp⟩
  clear hok h1 h3
  rintro e ds w0 ⟨i, ok, hi, hL, hN, hS, h1, h3, rfl, rfl, hok⟩
  simp -dsimp -implicitDefEqProofs only [hL,hN,hS,h1,h3,m194,sF194,ZA,↓reduceIte,ZB,ZC,ZJ,ZK,ZE,ZF,ZG,ZH,ZI,reduceCtorEq,ZD,mwV,↓mwD,mwU]
  refine iteW_dec (fun hlt => ?_) (fun hge => ?_)
  · have hlt' : i < v.keys.length := by omega
    obtain ⟨b, o, cap', hvk, _, _, hcell⟩ := (hv.ks.ext x0).at (by intro h0; rw [h0] at hlt'; simp at hlt')
    cases hvk
    have hck := hcell i hlt'
    have hb1 : (0 : Int) ≤ i ∧ (i : Int) < v.keys.length := by omega
    have hs1 := w64_succ hlt' (Nat.le_trans hd1 hd2)
    have nx : ∀ b' : Bool, (b' = true ↔ ok = true ∧ KeyOk 1000000000 false v.keys i ∧ (v.kids.map Vt.k).getD i 0 ≠ 10) → (b' = true ↔ (v.s = ⟨#[]⟩ ∧ v.n = 0 ∧ v.keys.length = v.kids.length) ∧ ∀ j, j < i + 1 → KeyOk 1000000000 false v.keys j ∧ (v.kids.map Vt.k).getD j 0 ≠ 10) := fun b' h => by
      rw [h, hok, and_assoc, ← Nat.forall_lt_succ_right]
    have hK : KeyOk 1000000000 false v.keys i ↔ 0 ≤ v.keys[i] ∧ v.keys[i] ≤ 1000000000 ∧ (i = 0 ∨ v.keys.getD (i - 1) 0 < v.keys[i] ∨ (false = false ∧ v.keys.getD (i - 1) 0 = v.keys[i])) := by unfold KeyOk; rw [getD_get hlt']
    cases ok
    · simp -dsimp -implicitDefEqProofs only [hL,hN,hS,h1,h3,hb1,and_self,hck,hs1,m194,sF194,ZA,↓reduceIte,ZB,ZC,ZJ,ZK,ZE,ZF,ZG,ZH,ZI,reduceCtorEq,ZD,mwV,↓mwD,mwU]
      exact ⟨⟨i + 1, _, by omega, rfl, rfl, nx _ (by simp)⟩, by simp only [intOf,hL]; omega⟩
    have hlen : v.keys.length = v.kids.length := (hok.1 rfl).1.2.2
    obtain ⟨b2, o2, t1, m1, d1, t2, d2, rfl, k0, k1, k2, k3, k4, hk, rfl⟩ := (hv.vs.ext x0).get (i := i) (by omega)
    have hb2 : (0 : Int) ≤ i ∧ (i : Int) < v.kids.length := by omega
    have hkk : (v.kids.map Vt.k).getD i 0 = (v.kids[i]'(by omega)).k := by rw [List.getD_eq_getElem?_getD, List.getElem?_map, List.getElem?_eq_getElem (by omega)]; rfl
    by_cases p1 : 0 ≤ v.keys[i]
    rotate_left
    · simp -dsimp -implicitDefEqProofs only [hL,hN,hS,h1,h3,hb1,and_self,hck,hs1,p1,m194,sF194,ZA,↓reduceIte,ZB,ZC,ZJ,ZK,ZE,ZF,ZG,ZH,ZI,reduceCtorEq,ZD,mwV,↓mwD,mwU]
      exact ⟨⟨i + 1, _, by omega, rfl, rfl, nx _ (by simp only [Bool.false_eq_true,false_iff]; rw [hK]; omega)⟩, by simp only [intOf,hL]; omega⟩
    by_cases p2 : v.keys[i] ≤ 1000000000
    rotate_left
    · simp -dsimp -implicitDefEqProofs only [hL,hN,hS,h1,h3,hb1,and_self,hck,hs1,p1,p2,m194,sF194,ZA,↓reduceIte,ZB,ZC,ZJ,ZK,ZE,ZF,ZG,ZH,ZI,reduceCtorEq,ZD,mwV,↓mwD,mwU]
      exact ⟨⟨i + 1, _, by omega, rfl, rfl, nx _ (by simp only [Bool.false_eq_true,false_iff]; rw [hK]; omega)⟩, by simp only [intOf,hL]; omega⟩
    by_cases p3 : (i : Int) = 0
    · have d3 : decide ((i : Int) = 0) = true := by simpa using p3
      have kk : KeyOk 1000000000 false v.keys i := hK.2 ⟨p1, p2, .inl (by omega)⟩
      by_cases p5 : (v.kids[i]'(by omega)).k = 10
      · simp -dsimp -implicitDefEqProofs only [hL,hN,hS,h1,h3,hb1,and_self,hck,hs1,p1,p2,d3,a4,hb2,Nat.mul_comm i 5,k0,p5,m194,sF194,ZA,↓reduceIte,ZB,ZC,ZJ,ZK,ZE,ZF,ZG,ZH,ZI,reduceCtorEq,ZD,mwV,↓mwD,mwU]
        exact ⟨⟨i + 1, _, by omega, rfl, rfl, nx _ (by simp only [true_and,Bool.false_eq_true,false_iff]; rw [hkk]; exact fun h => h.2 p5)⟩, by simp only [intOf,hL]; omega⟩
      · simp -dsimp -implicitDefEqProofs only [hL,hN,hS,h1,h3,hb1,and_self,hck,hs1,p1,p2,d3,a4,hb2,Nat.mul_comm i 5,k0,p5,m194,sF194,ZA,↓reduceIte,ZB,ZC,ZJ,ZK,ZE,ZF,ZG,ZH,ZI,reduceCtorEq,ZD,mwV,↓mwD,mwU]
        exact ⟨⟨i + 1, _, by omega, rfl, rfl, nx _ (by simp only [true_and,true_iff]; rw [hkk]; exact ⟨kk, p5⟩)⟩, by simp only [intOf,hL]; omega⟩
    have hk1 : i - 1 < v.keys.length := by omega
    have hcp := hcell (i - 1) hk1
    have hw3 : IntKind.i64.wrap ((i : Int) - 1) = ((i - 1 : Nat) : Int) := by rw [w64 (by omega) (by unfold maxLen at hd2; omega)]; omega
    have hb3 : (0 : Int) ≤ ((i - 1 : Nat) : Int) ∧ ((i - 1 : Nat) : Int) < v.keys.length := by omega
    rw [getD_get hk1] at hK
    by_cases p4 : v.keys[i - 1] ≤ v.keys[i]
    · skip
      have kk : KeyOk 1000000000 false v.keys i := hK.2 ⟨p1, p2, .inr ((Int.lt_or_eq_of_le p4).imp id fun h => ⟨rfl, h⟩)⟩
      by_cases p5 : (v.kids[i]'(by omega)).k = 10
      · simp -dsimp -implicitDefEqProofs only [hL,hN,hS,h1,h3,hb1,and_self,hck,hs1,p1,p2,p3,p4,hw3,hb3,hcp,a3,a4,hb2,Nat.mul_comm i 5,k0,p5,m194,sF194,ZA,↓reduceIte,ZB,ZC,ZJ,ZK,ZE,ZF,ZG,ZH,ZI,reduceCtorEq,ZD,mwV,↓mwD,mwU]
        exact ⟨⟨i + 1, _, by omega, rfl, rfl, nx _ (by simp only [true_and,Bool.false_eq_true,false_iff]; rw [hkk]; exact fun h => h.2 p5)⟩, by simp only [intOf,hL]; omega⟩
      · simp -dsimp -implicitDefEqProofs only [hL,hN,hS,h1,h3,hb1,and_self,hck,hs1,p1,p2,p3,p4,hw3,hb3,hcp,a3,a4,hb2,Nat.mul_comm i 5,k0,p5,m194,sF194,ZA,↓reduceIte,ZB,ZC,ZJ,ZK,ZE,ZF,ZG,ZH,ZI,reduceCtorEq,ZD,mwV,↓mwD,mwU]
        exact ⟨⟨i + 1, _, by omega, rfl, rfl, nx _ (by simp only [true_and,true_iff]; rw [hkk]; exact ⟨kk, p5⟩)⟩, by simp only [intOf,hL]; omega⟩
    · simp -dsimp -implicitDefEqProofs only [hL,hN,hS,h1,h3,hb1,and_self,hck,hs1,p1,p2,p3,p4,hw3,hb3,hcp,a3,m194,sF194,ZA,↓reduceIte,ZB,ZC,ZJ,ZK,ZE,ZF,ZG,ZH,ZI,reduceCtorEq,ZD,mwV,↓mwD,mwU]
      exact ⟨⟨i + 1, _, by omega, rfl, rfl, nx _ (by simp only [true_and,Bool.false_eq_true,false_iff]; rw [hK]; simp only [Bool.true_eq_false,false_and,or_false,true_and,eq_self]; refine fun h => absurd h.1 ?_; omega)⟩, by simp only [intOf,hL]; omega⟩
  · have hkl : i = v.keys.length := by omega
    subst hkl
    simp -dsimp -implicitDefEqProofs only [hL,hN,hS,h1,h3,m194,sF194,ZA,↓reduceIte,ZB,ZC,ZJ,ZK,ZE,ZF,ZG,ZH,ZI,reduceCtorEq,ZD,mwV,↓mwD,mwU]
    refine .mk' x0 (hok.trans ⟨fun h => ⟨h.1, fun j hj => (h.2 j hj).1, fun x hx => ?_⟩, fun h => ⟨h.1, fun j hj => ⟨h.2.1 j hj, ?_⟩⟩⟩)
    · obtain ⟨j, hj, rfl⟩ := List.mem_iff_getElem.1 hx
      have := (h.2 j (by have := h.1.2.2; omega)).2
      rw [List.getD_eq_getElem?_getD, List.getElem?_map, List.getElem?_eq_getElem hj] at this
      exact this
    · have hl : j < v.kids.length := by have := h.1.2.2; omega
      rw [List.getD_eq_getElem?_getD, List.getElem?_map, List.getElem?_eq_getElem hl]
      exact h.2.2 _ (List.getElem_mem hl)
end Go.Proofs.YthcdnjbhhaonhaaGreatDoor

/- Layer 01: how heavy, how deep, how many, how large. -/
import Derived.Test.YthcdnjbhhaonhaaGreatDoorQvVaSpecToVaA
import Derived.Laws.IdiomStrings

namespace Go.Proofs.YthcdnjbhhaonhaaGreatDoor
open Go.RowKit
open Nat renaming reduceEqDiff → ZA, reduceAdd → ZB, reduceMul → ZC, reduceSub → ZD
open Int renaming reduceToNat → ZE, reduceEq → ZF, reduceLT → ZG, reduceLE → ZH, reduceNeg → ZI
open Go.Value renaming oneCell' → ZK, cells → ZJ
open Go.Proofs.Tryz renaming prog → ZP
set_option linter.unusedSimpArgs false
theorem new_vt (w : World) (v : Vt) (s1 s2 : Value) : ∃ W, W = w.alloc (.cells #[.int .i64 v.k, .int .i64 v.n, .string v.s, s1, s2] 64) ∧ Bk W w.heap.size (vtCs v s1 s2) 64 ∧ Ext w W := ⟨_, rfl, Bk.new _ (vtCs v s1 s2) _, Ext.alloc _ _⟩
theorem drop_cons {l : List Vt} {i : Nat} (h : i < l.length) : l.drop i = l[i] :: l.drop (i + 1) := List.drop_eq_getElem_cons h
structure VtB (w : World) (b : Nat) (v : Vt) (q1 q2 : Option Addr) (c1 c2 : Nat) : Prop where
  k : w.cell? ⟨b, 0, none⟩ = some (.int .i64 v.k)
  n : w.cell? ⟨b, 1, none⟩ = some (.int .i64 v.n)
  s : w.cell? ⟨b, 2, none⟩ = some (.string v.s)
  ks : w.cell? ⟨b, 3, none⟩ = some (.slice q1 v.keys.length c1)
  vs : w.cell? ⟨b, 4, none⟩ = some (.slice q2 v.kids.length c2)
theorem bk_vt {w w' : World} {b : Nat} {v : Vt} {q1 q2 : Option Addr} {c1 c2 : Nat} (h : Bk w b (vtCs v (.slice q1 v.keys.length c1) (.slice q2 v.kids.length c2)) 64) (he : Ext w w') : VtB w' b v q1 q2 c1 c2 :=
  have h := h.ext he
  ⟨h.get (o := 0) rfl, h.get (o := 1) rfl, h.get (o := 2) rfl, h.get (o := 3) rfl, h.get (o := 4) rfl⟩
set_option maxHeartbeats 1000000 in
theorem weight_c (v : Vt) : ∀ (s1 s2 : Value) (left : Int) (w : World), VAt w v s1 s2 → 0 < left → left ≤ 3000 → Rets ZP 87 #[vtV v s1 s2, .int .i64 left] w fun r w' => r = .int .i64 (weightV v left) ∧ Ext w w' := by
  induction v using Vt.ind with
  | h v ih =>
    intro s1 s2 left w hv l0 l1
    obtain ⟨q1, c1, rfl, ka1, ka2⟩ := hv.ks.shape
    obtain ⟨q2, c2, rfl, hc1, hc2⟩ := hv.vs.shape
    obtain ⟨W, hW, A, x0⟩ := new_vt w v (.slice q1 v.keys.length c1) (.slice q2 v.kids.length c2)
    have hs := hv.text
    have e1 : IntKind.i64.wrap (left - 1) = left - 1 := w64 (by omega) (by omega)
    have e2 : IntKind.i64.wrap (left - 1 - v.keys.length) = left - 1 - v.keys.length := w64 (by omega) (by omega)
    have e3 : IntKind.i64.wrap ((v.s.size : Int).tdiv 64) = ((v.s.size / 64 : Nat) : Int) := by
      rw [Int.tdiv_eq_ediv_of_nonneg (by omega), w64 (by omega) (by omega)]; omega
    have e4 : IntKind.i64.wrap (left - 1 - v.keys.length - (v.s.size / 64 : Nat)) = left - 1 - v.keys.length - (v.s.size / 64 : Nat) := w64 (by omega) (by omega)
    obtain ⟨a0, a1, a2, a3, a4⟩ := bk_vt A (Ext.refl W)
    refine en87 ?_
    simp -dsimp -implicitDefEqProofs only [vtV,← hW,a0,a1,a2,a3,a4,e1,e2,e3,e4,m87,sF87,ZA,↓reduceIte,ZB,ZC,ZJ,ZK,ZE,ZF,ZG,ZH,ZI,reduceCtorEq,ZD,mwV,↓mwD,mwU]
    clear hW
    rw [weightV_eq]
    have hL0 : left - 1 - (v.keys.length : Int) - (v.s.size / 64 : Nat) ≤ 3000 := by omega
    generalize left - 1 - (v.keys.length : Int) - (v.s.size / 64 : Nat) = L0 at *
    refine mwpB_loop (fun e ds w' => ∃ (i : Nat) (L : Int), i ≤ v.kids.length ∧ e 5 = .int .i64 i ∧ e 1 = .int .i64 L ∧ e 2 = .pointer (some ⟨w.heap.size, 0, none⟩) ∧ ds = [] ∧ Ext W w' ∧ L ≤ 3000 ∧ weightL v.kids L0 = weightL (v.kids.drop i) L)
      (fun e _ => v.kids.length - (intOf (e 5)).toNat) ?_ ?_
    · simp -dsimp -implicitDefEqProofs only [m87,sF87,ZA,↓reduceIte,ZB,ZC,ZJ,ZK,ZE,ZF,ZG,ZH,ZI,reduceCtorEq,ZD,mwV,↓mwD,mwU]
      exact ⟨0, _, by omega, rfl, rfl, Ext.refl _, hL0, rfl⟩
    · rintro e ds w' ⟨i, L, hi, h5, h1, h2, rfl, hx, hL, hw⟩
      obtain ⟨a0, a1, a2, a3, a4⟩ := bk_vt A hx
      simp -dsimp -implicitDefEqProofs only [h5,h1,h2,a4,m87,sF87,ZA,↓reduceIte,ZB,ZC,ZJ,ZK,ZE,ZF,ZG,ZH,ZI,reduceCtorEq,ZD,mwV,↓mwD,mwU]
      by_cases hlt : (i : Int) < v.kids.length
      · have hlt' : i < v.kids.length := by omega
        rw [drop_cons hlt', weightL] at hw
        by_cases hp : 0 < L
        · rw [if_pos hp] at hw
          obtain ⟨b, o, t1, m1, d1, t2, d2, rfl, k0, k1, k2, k3, k4, hk, rfl⟩ := (hv.vs.ext (x0.trans hx)).get hlt'
          have hb1 : (0 : Int) ≤ i ∧ (i : Int) < v.kids.length := by omega
          have hs1 := w64_succ hlt' (Nat.le_trans hc1 hc2)
          have hle := weightV_le v.kids[i] L
          simp -dsimp -implicitDefEqProofs only [h5,h1,h2,a4,hlt,hp,hb1,and_self,Nat.mul_comm i 5,k0,k1,k2,k3,k4,m87,sF87,ZA,↓reduceIte,ZB,ZC,ZJ,ZK,ZE,ZF,ZG,ZH,ZI,reduceCtorEq,ZD,mwV,↓mwD,mwU]
          refine (ih _ (List.getElem_mem hlt') _ _ L w' hk hp hL).use ?_
          rintro r w2 ⟨rfl, h3⟩
          simp -dsimp -implicitDefEqProofs only [h5,h1,h2,hs1,m87,sF87,ZA,↓reduceIte,ZB,ZC,ZJ,ZK,ZE,ZF,ZG,ZH,ZI,reduceCtorEq,ZD,mwV,↓mwD,mwU]
          refine ⟨⟨i + 1, _, by omega, rfl, rfl, hx.trans h3, by omega, hw⟩, by simp only [intOf,h5]; omega⟩
        · rw [if_neg hp] at hw
          simp -dsimp -implicitDefEqProofs only [h5,h1,h2,a4,hlt,hp,m87,sF87,ZA,↓reduceIte,ZB,ZC,ZJ,ZK,ZE,ZF,ZG,ZH,ZI,reduceCtorEq,ZD,mwV,↓mwD,mwU]
          exact ⟨by rw [hw], x0.trans hx⟩
      · have hkl : i = v.kids.length := by omega
        rw [hkl, List.drop_length, weightL] at hw
        simp -dsimp -implicitDefEqProofs only [h5,h1,h2,a4,hlt,m87,sF87,ZA,↓reduceIte,ZB,ZC,ZJ,ZK,ZE,ZF,ZG,ZH,ZI,reduceCtorEq,ZD,mwV,↓mwD,mwU]
        exact ⟨by rw [hw], x0.trans hx⟩
theorem lightV_c (v : Vt) (s1 s2 : Value) (w : World) (hv : VAt w v s1 s2) : Rets ZP 46 #[vtV v s1 s2] w fun r w' => r = .bool (decide (0 < weightV v 3000)) ∧ Ext w w' := by
  obtain ⟨q1, c1, rfl, _, _⟩ := hv.ks.shape
  obtain ⟨q2, c2, rfl, _, _⟩ := hv.vs.shape
  obtain ⟨W, hW, A, x0⟩ := new_vt w v (.slice q1 v.keys.length c1) (.slice q2 v.kids.length c2)
  obtain ⟨a0, a1, a2, a3, a4⟩ := bk_vt A (Ext.refl W)
  refine en46 ?_
  simp -dsimp -implicitDefEqProofs only [vtV,← hW,a0,a1,a2,a3,a4,m46,sF46,ZA,↓reduceIte,ZB,ZC,ZJ,ZK,ZE,ZF,ZG,ZH,ZI,reduceCtorEq,ZD,mwV,↓mwD,mwU]
  clear hW
  refine (weight_c v _ _ 3000 W (hv.ext x0) (by omega) (by omega)).use ?_
  rintro r w2 ⟨rfl, h3⟩
  simp -dsimp -implicitDefEqProofs only [m46,sF46,ZA,↓reduceIte,ZB,ZC,ZJ,ZK,ZE,ZF,ZG,ZH,ZI,reduceCtorEq,ZD,mwV,↓mwD,mwU]
  exact x0.trans h3
set_option maxHeartbeats 1000000 in
theorem Counted_c (v : Vt) : ∀ (s1 s2 : Value) (w : World), VAt w v s1 s2 → massV v < 3000 → Rets ZP 119 #[vtV v s1 s2] w fun r w' => r = .int .i64 (countV v) ∧ Ext w w' := by
  induction v using Vt.ind with
  | h v ih =>
    intro s1 s2 w hv hm
    obtain ⟨q1, c1, rfl, ka1, ka2⟩ := hv.ks.shape
    obtain ⟨q2, c2, rfl, hc1, hc2⟩ := hv.vs.shape
    obtain ⟨W, hW, A, x0⟩ := new_vt w v (.slice q1 v.keys.length c1) (.slice q2 v.kids.length c2)
    have hcm := countV_mass v
    refine en119 ?_
    simp -dsimp -implicitDefEqProofs only [vtV,← hW,m119,sF119,ZA,↓reduceIte,ZB,ZC,ZJ,ZK,ZE,ZF,ZG,ZH,ZI,reduceCtorEq,ZD,mwV,↓mwD,mwU]
    clear hW
    refine mwpB_loop (fun e ds w' => ∃ (i : Nat), i ≤ v.kids.length ∧ e 4 = .int .i64 i ∧ e 3 = .int .i64 ((1 + countL (v.kids.take i) : Nat) : Int) ∧ e 1 = .pointer (some ⟨w.heap.size, 0, none⟩) ∧ ds = [] ∧ Ext W w')
      (fun e _ => v.kids.length - (intOf (e 4)).toNat) ?_ ?_
    · simp -dsimp -implicitDefEqProofs only [m119,sF119,ZA,↓reduceIte,ZB,ZC,ZJ,ZK,ZE,ZF,ZG,ZH,ZI,reduceCtorEq,ZD,mwV,↓mwD,mwU]
      exact ⟨0, by omega, rfl, by simp [countL], Ext.refl _⟩
    · rintro e ds w' ⟨i, hi, h4, h3, h1, rfl, hx⟩
      obtain ⟨a0, a1, a2, a3, a4⟩ := bk_vt A hx
      simp -dsimp -implicitDefEqProofs only [h4,h3,h1,a4,m119,sF119,ZA,↓reduceIte,ZB,ZC,ZJ,ZK,ZE,ZF,ZG,ZH,ZI,reduceCtorEq,ZD,mwV,↓mwD,mwU]
      refine iteW_dec (fun hlt => ?_) (fun hge => ?_)
      · have hlt' : i < v.kids.length := by omega
        obtain ⟨b, o, t1, m1, d1, t2, d2, rfl, k0, k1, k2, k3, k4, hk, rfl⟩ := (hv.vs.ext (x0.trans hx)).get hlt'
        have hb1 : (0 : Int) ≤ i ∧ (i : Int) < v.kids.length := by omega
        have hs1 := w64_succ hlt' (Nat.le_trans hc1 hc2)
        have hmk := mass_kid (List.getElem_mem hlt')
        have ht := countL_take hlt'
        have hle := countL_le (l := v.kids) (i := i + 1)
        have hce := countV_eq v
        have hs2 : IntKind.i64.wrap (((1 + countL (v.kids.take i) : Nat) : Int) + (countV v.kids[i] : Int)) = ((1 + countL (v.kids.take (i + 1)) : Nat) : Int) := by rw [w64 (by omega) (by omega)]; omega
        simp -dsimp -implicitDefEqProofs only [h4,h3,h1,a4,hb1,and_self,Nat.mul_comm i 5,k0,k1,k2,k3,k4,m119,sF119,ZA,↓reduceIte,ZB,ZC,ZJ,ZK,ZE,ZF,ZG,ZH,ZI,reduceCtorEq,ZD,mwV,↓mwD,mwU]
        refine (ih _ (List.getElem_mem hlt') _ _ w' hk (by omega)).use ?_
        rintro r w2 ⟨rfl, h5⟩
        simp -dsimp -implicitDefEqProofs only [h4,h3,h1,hs1,hs2,m119,sF119,ZA,↓reduceIte,ZB,ZC,ZJ,ZK,ZE,ZF,ZG,ZH,ZI,reduceCtorEq,ZD,mwV,↓mwD,mwU]
        refine ⟨⟨i + 1, by omega, rfl, rfl, hx.trans h5⟩, by simp only [intOf,h4]; omega⟩
      · have hkl : i = v.kids.length := by omega
        rw [hkl, List.take_length] at h3
        simp -dsimp -implicitDefEqProofs only [h4,h3,h1,m119,sF119,ZA,↓reduceIte,ZB,ZC,ZJ,ZK,ZE,ZF,ZG,ZH,ZI,reduceCtorEq,ZD,mwV,↓mwD,mwU]
        exact ⟨by rw [countV_eq], x0.trans hx⟩
set_option maxHeartbeats 1000000 in
theorem deep_c (v : Vt) : ∀ (s1 s2 : Value) (w : World), VAt w v s1 s2 → massV v < 3000 → Rets ZP 118 #[vtV v s1 s2] w fun r w' => r = .int .i64 (deepV v) ∧ Ext w w' := by
  induction v using Vt.ind with
  | h v ih =>
    intro s1 s2 w hv hm
    obtain ⟨q1, c1, rfl, ka1, ka2⟩ := hv.ks.shape
    obtain ⟨q2, c2, rfl, hc1, hc2⟩ := hv.vs.shape
    obtain ⟨W, hW, A, x0⟩ := new_vt w v (.slice q1 v.keys.length c1) (.slice q2 v.kids.length c2)
    have hcm := deepV_mass v
    have hce := deepV_eq v
    refine en118 ?_
    simp -dsimp -implicitDefEqProofs only [vtV,← hW,m118,sF118,ZA,↓reduceIte,ZB,ZC,ZJ,ZK,ZE,ZF,ZG,ZH,ZI,reduceCtorEq,ZD,mwV,↓mwD,mwU]
    clear hW
    refine mwpB_loop (fun e ds w' => ∃ (i : Nat), i ≤ v.kids.length ∧ e 4 = .int .i64 i ∧ e 3 = .int .i64 ((deepL (v.kids.take i) : Nat) : Int) ∧ e 1 = .pointer (some ⟨w.heap.size, 0, none⟩) ∧ ds = [] ∧ Ext W w')
      (fun e _ => v.kids.length - (intOf (e 4)).toNat) ?_ ?_
    · simp -dsimp -implicitDefEqProofs only [m118,sF118,ZA,↓reduceIte,ZB,ZC,ZJ,ZK,ZE,ZF,ZG,ZH,ZI,reduceCtorEq,ZD,mwV,↓mwD,mwU]
      exact ⟨0, by omega, rfl, by simp [deepL], Ext.refl _⟩
    · rintro e ds w' ⟨i, hi, h4, h3, h1, rfl, hx⟩
      obtain ⟨a0, a1, a2, a3, a4⟩ := bk_vt A hx
      simp -dsimp -implicitDefEqProofs only [h4,h3,h1,a4,m118,sF118,ZA,↓reduceIte,ZB,ZC,ZJ,ZK,ZE,ZF,ZG,ZH,ZI,reduceCtorEq,ZD,mwV,↓mwD,mwU]
      refine iteW_dec (fun hlt => ?_) (fun hge => ?_)
      · have hlt' : i < v.kids.length := by omega
        obtain ⟨b, o, t1, m1, d1, t2, d2, rfl, k0, k1, k2, k3, k4, hk, rfl⟩ := (hv.vs.ext (x0.trans hx)).get hlt'
        have hb1 : (0 : Int) ≤ i ∧ (i : Int) < v.kids.length := by omega
        have hs1 := w64_succ hlt' (Nat.le_trans hc1 hc2)
        have hmk := mass_kid (List.getElem_mem hlt')
        have ht := deepL_take hlt'
        have hs2 : (if ((deepL (v.kids.take i) : Nat) : Int) < (deepV v.kids[i] : Int) then (deepV v.kids[i] : Int) else ((deepL (v.kids.take i) : Nat) : Int)) = ((deepL (v.kids.take (i + 1)) : Nat) : Int) := by split <;> omega
        simp -dsimp -implicitDefEqProofs only [h4,h3,h1,a4,hb1,and_self,Nat.mul_comm i 5,k0,k1,k2,k3,k4,m118,sF118,ZA,↓reduceIte,ZB,ZC,ZJ,ZK,ZE,ZF,ZG,ZH,ZI,reduceCtorEq,ZD,mwV,↓mwD,mwU]
        refine (ih _ (List.getElem_mem hlt') _ _ w' hk (by omega)).use ?_
        rintro r w2 ⟨rfl, h5⟩
        simp -dsimp -implicitDefEqProofs only [h4,h3,h1,hs1,hs2,m118,sF118,ZA,↓reduceIte,ZB,ZC,ZJ,ZK,ZE,ZF,ZG,ZH,ZI,reduceCtorEq,ZD,mwV,↓mwD,mwU]
        refine ⟨⟨i + 1, by omega, rfl, rfl, hx.trans h5⟩, by simp only [intOf,h4]; omega⟩
      · have hkl : i = v.kids.length := by omega
        rw [hkl, List.take_length] at h3
        have hs3 : IntKind.i64.wrap ((deepL v.kids : Int) + 1) = (deepV v : Int) := by rw [w64 (by omega) (by omega)]; omega
        simp -dsimp -implicitDefEqProofs only [h4,h3,h1,hs3,m118,sF118,ZA,↓reduceIte,ZB,ZC,ZJ,ZK,ZE,ZF,ZG,ZH,ZI,reduceCtorEq,ZD,mwV,↓mwD,mwU]
        exact x0.trans hx
theorem padded_c (n : Nat) (w : World) (hn : n ≤ 1000000) : Rets ZP 140 #[.int .i64 n] w fun r w' => r = .int .i64 (padN n) ∧ w' = w := by
  have e1 : IntKind.i64.wrap ((n : Int) + 7) = ((n + 7 : Nat) : Int) := by rw [w64 (by omega) (by omega)]; omega
  have e2 : IntKind.i64.wrap (((n + 7 : Nat) : Int).tdiv 8) = (((n + 7) / 8 : Nat) : Int) := by
    rw [Int.tdiv_eq_ediv_of_nonneg (by omega), w64 (by omega) (by omega)]; omega
  have e3 : IntKind.i64.wrap ((((n + 7) / 8 : Nat) : Int) * 8) = (padN n : Int) := by unfold padN; rw [w64 (by omega) (by omega)]; omega
  refine en140 ?_
  simp -dsimp -implicitDefEqProofs only [e1,e2,e3,m140,sF140,ZA,↓reduceIte,ZB,ZC,ZJ,ZK,ZE,ZF,ZG,ZH,ZI,reduceCtorEq,ZD,mwV,↓mwD,mwU]
theorem size_of {v : Vt} {s1 s2 : Value} {w : World} (hv : VAt w v s1 s2) (hm : massV v < 3000) (hb : ∀ w', VAt w' v s1 s2 → Rets ZP 141 #[vtV v s1 s2] w' fun r w2 => r = .int .i64 (bodyV v) ∧ Ext w' w2) :
    Rets ZP 116 #[vtV v s1 s2] w fun r w' => r = .int .i64 (sizeV v) ∧ Ext w w' := by
  obtain ⟨q1, c1, rfl, ka1, ka2⟩ := hv.ks.shape
  obtain ⟨q2, c2, rfl, hc1, hc2⟩ := hv.vs.shape
  obtain ⟨W, hW, A, x0⟩ := new_vt w v (.slice q1 v.keys.length c1) (.slice q2 v.kids.length c2)
  obtain ⟨a0, a1, a2, a3, a4⟩ := bk_vt A (Ext.refl W)
  have hbm := bodyV_mass v
  have hsm := sizeV_mass v
  have hse := sizeV_eq v
  refine en116 ?_
  simp -dsimp -implicitDefEqProofs only [vtV,← hW,a0,a1,a2,a3,a4,m116,sF116,ZA,↓reduceIte,ZB,ZC,ZJ,ZK,ZE,ZF,ZG,ZH,ZI,reduceCtorEq,ZD,mwV,↓mwD,mwU]
  clear hW
  refine (hb W (hv.ext x0)).use ?_
  rintro r w2 ⟨rfl, h3⟩
  simp -dsimp -implicitDefEqProofs only [m116,sF116,ZA,↓reduceIte,ZB,ZC,ZJ,ZK,ZE,ZF,ZG,ZH,ZI,reduceCtorEq,ZD,mwV,↓mwD,mwU]
  refine (padded_c (bodyV v) w2 (by omega)).use ?_
  rintro r w3 ⟨rfl, rfl⟩
  have e1 : IntKind.i64.wrap (8 + (padN (bodyV v) : Int)) = (sizeV v : Int) := by rw [w64 (by omega) (by omega)]; omega
  simp -dsimp -implicitDefEqProofs only [e1,m116,sF116,ZA,↓reduceIte,ZB,ZC,ZJ,ZK,ZE,ZF,ZG,ZH,ZI,reduceCtorEq,ZD,mwV,↓mwD,mwU]
  exact x0.trans h3
set_option maxHeartbeats 2000000 in
theorem body_c (v : Vt) : ∀ (s1 s2 : Value) (w : World), VAt w v s1 s2 → massV v < 3000 → Rets ZP 141 #[vtV v s1 s2] w fun r w' => r = .int .i64 (bodyV v) ∧ Ext w w' := by
  induction v using Vt.ind with
  | h v ih =>
    intro s1 s2 w hv hm
    obtain ⟨q1, c1, rfl, ka1, ka2⟩ := hv.ks.shape
    obtain ⟨q2, c2, rfl, hc1, hc2⟩ := hv.vs.shape
    obtain ⟨W, hW, A, x0⟩ := new_vt w v (.slice q1 v.keys.length c1) (.slice q2 v.kids.length c2)
    obtain ⟨a0, a1, a2, a3, a4⟩ := bk_vt A (Ext.refl W)
    have hbm := bodyV_mass v
    refine en141 ?_
    refine mwpB_cut 1 (fun e ds w' => e 1 = .pointer (some ⟨w.heap.size, 0, none⟩) ∧ ds = [] ∧ w' = W) ?_ ?_
    · simp -dsimp -implicitDefEqProofs only [headM_zero,headM_seq,vtV,hW,m141,sF141,ZA,↓reduceIte,ZB,ZC,ZJ,ZK,ZE,ZF,ZG,ZH,ZI,reduceCtorEq,ZD,mwV,↓mwD,mwU]
    clear hW
    rintro e ds w0 ⟨h1, rfl, rfl⟩
    refine mwpB_cut 3 (fun e ds w' => e 1 = .pointer (some ⟨w.heap.size, 0, none⟩) ∧ e 3 = .int .i64 ((if v.k = 8 ∨ v.k = 9 then 8 else 0 : Nat) : Int) ∧ ds = [] ∧ w' = w0 ∧ ¬ v.k = 1 ∧ ¬ v.k = 2 ∧ ¬ v.k = 3 ∧ ¬ v.k = 4 ∧ ¬ v.k = 5) ?_ ?_
    · by_cases n1 : v.k = 1
      · simp -dsimp -implicitDefEqProofs only [tailM_zero,tailM_seq,headM_zero,headM_seq,h1,a0,n1,m141,sF141,ZA,↓reduceIte,ZB,ZC,ZJ,ZK,ZE,ZF,ZG,ZH,ZI,reduceCtorEq,ZD,mwV,↓mwD,mwU]
        exact ⟨by simp [bodyV, n1], x0⟩
      by_cases n2 : v.k = 2
      · simp -dsimp -implicitDefEqProofs only [tailM_zero,tailM_seq,headM_zero,headM_seq,h1,a0,n2,m141,sF141,ZA,↓reduceIte,ZB,ZC,ZJ,ZK,ZE,ZF,ZG,ZH,ZI,reduceCtorEq,ZD,mwV,↓mwD,mwU]
        exact ⟨by simp [bodyV, n2], x0⟩
      by_cases n3 : v.k = 3
      · simp -dsimp -implicitDefEqProofs only [tailM_zero,tailM_seq,headM_zero,headM_seq,h1,a0,n3,m141,sF141,ZA,↓reduceIte,ZB,ZC,ZJ,ZK,ZE,ZF,ZG,ZH,ZI,reduceCtorEq,ZD,mwV,↓mwD,mwU]
        exact ⟨by simp [bodyV, n3], x0⟩
      by_cases n4 : v.k = 4
      · simp -dsimp -implicitDefEqProofs only [tailM_zero,tailM_seq,headM_zero,headM_seq,h1,a0,a2,n4,m141,sF141,ZA,↓reduceIte,ZB,ZC,ZJ,ZK,ZE,ZF,ZG,ZH,ZI,reduceCtorEq,ZD,mwV,↓mwD,mwU]
        exact ⟨by simp [bodyV, n4], x0⟩
      by_cases n5 : v.k = 5
      · simp -dsimp -implicitDefEqProofs only [tailM_zero,tailM_seq,headM_zero,headM_seq,h1,a0,a2,n5,m141,sF141,ZA,↓reduceIte,ZB,ZC,ZJ,ZK,ZE,ZF,ZG,ZH,ZI,reduceCtorEq,ZD,mwV,↓mwD,mwU]
        exact ⟨by simp [bodyV, n5], x0⟩
      have hn0 : ((if v.k = 8 ∨ v.k = 9 then 8 else 0 : Nat) : Int) = if v.k = 8 ∨ v.k = 9 then 8 else 0 := by split <;> rfl
      by_cases n8 : v.k = 8
      · simp -dsimp -implicitDefEqProofs only [tailM_zero,tailM_seq,headM_zero,headM_seq,h1,a0,n8,m141,sF141,ZA,↓reduceIte,ZB,ZC,ZJ,ZK,ZE,ZF,ZG,ZH,ZI,reduceCtorEq,ZD,mwV,↓mwD,mwU]
        rfl
      by_cases n9 : v.k = 9
      · simp -dsimp -implicitDefEqProofs only [tailM_zero,tailM_seq,headM_zero,headM_seq,h1,a0,n9,m141,sF141,ZA,↓reduceIte,ZB,ZC,ZJ,ZK,ZE,ZF,ZG,ZH,ZI,reduceCtorEq,ZD,mwV,↓mwD,mwU]
        rfl
      simp -dsimp -implicitDefEqProofs only [tailM_zero,tailM_seq,headM_zero,headM_seq,h1,a0,n1,n2,n3,n4,n5,n8,n9,m141,sF141,ZA,↓reduceIte,ZB,ZC,ZJ,ZK,ZE,ZF,ZG,ZH,ZI,reduceCtorEq,ZD,mwV,↓mwD,mwU]
      rfl
    clear h1
    rintro e ds w0 ⟨h1, h3, rfl, rfl, n1, n2, n3, n4, n5⟩
    have hbe : bodyV v = (if v.k = 8 ∨ v.k = 9 then 8 else 0) + sizeL (if v.k = 8 ∨ v.k = 10 then 8 else 0) v.kids := by
      unfold bodyV; rw [if_neg n1, if_neg n2, if_neg n3, if_neg (by omega)]
    generalize hn0 : (if v.k = 8 ∨ v.k = 9 then 8 else 0 : Nat) = n0 at *
    generalize hc0 : (if v.k = 8 ∨ v.k = 10 then 8 else 0 : Nat) = c0 at *
    rw [hbe] at hbm ⊢
    simp -dsimp -implicitDefEqProofs only [tailM_zero,tailM_seq,h1,h3,a4,m141,sF141,ZA,↓reduceIte,ZB,ZC,ZJ,ZK,ZE,ZF,ZG,ZH,ZI,reduceCtorEq,ZD,mwV,↓mwD,mwU]
    refine mwpB_loop (fun e ds w' => ∃ (i : Nat), i ≤ v.kids.length ∧ e 31 = .int .i64 i ∧ e 30 = .int .i64 v.kids.length ∧ e 29 = .slice q2 v.kids.length c2 ∧ e 1 = .pointer (some ⟨w.heap.size, 0, none⟩) ∧ e 3 = .int .i64 ((n0 + sizeL c0 (v.kids.take i) : Nat) : Int) ∧ ds = [] ∧ Ext w0 w')
      (fun e _ => v.kids.length - (intOf (e 31)).toNat) ?_ ?_
    · simp -dsimp -implicitDefEqProofs only [h1,h3,m141,sF141,ZA,↓reduceIte,ZB,ZC,ZJ,ZK,ZE,ZF,ZG,ZH,ZI,reduceCtorEq,ZD,mwV,↓mwD,mwU]
      exact ⟨0, by omega, rfl, by simp [sizeL], Ext.refl _⟩
    · rintro e ds w' ⟨i, hi, h31, h30, h29, h1, h3, rfl, hx⟩
      simp -dsimp -implicitDefEqProofs only [h31,h30,h29,h1,h3,m141,sF141,ZA,↓reduceIte,ZB,ZC,ZJ,ZK,ZE,ZF,ZG,ZH,ZI,reduceCtorEq,ZD,mwV,↓mwD,mwU]
      refine iteW_dec (fun hlt => ?_) (fun hge => ?_)
      · have hlt' : i < v.kids.length := by omega
        obtain ⟨b, o, t1, m1, d1, t2, d2, rfl, k0, k1, k2, k3, k4, hk, rfl⟩ := (hv.vs.ext (x0.trans hx)).get hlt'
        have hb1 : (0 : Int) ≤ i ∧ (i : Int) < v.kids.length := by omega
        have hs1 := w64_succ hlt' (Nat.le_trans hc1 hc2)
        have hmk := mass_kid (List.getElem_mem hlt')
        obtain ⟨W2, hW2, A2, y0⟩ := new_vt w' v.kids[i] (.slice t1 v.kids[i].keys.length d1) (.slice t2 v.kids[i].kids.length d2)
        obtain ⟨b0, b1, b2, b3, b4⟩ := bk_vt A2 (Ext.refl W2)
        simp -dsimp -implicitDefEqProofs only [h31,h30,h29,h1,h3,hb1,and_self,Nat.mul_comm i 5,k0,k1,k2,k3,k4,← hW2,b0,b1,b2,b3,b4,m141,sF141,ZA,↓reduceIte,ZB,ZC,ZJ,ZK,ZE,ZF,ZG,ZH,ZI,reduceCtorEq,ZD,mwV,↓mwD,mwU]
        clear hW2
        refine (size_of (hk.ext y0) (by omega) (fun w' hv' => ih _ (List.getElem_mem hlt') _ _ w' hv' (by omega))).use ?_
        rintro r w2 ⟨rfl, h5⟩
        have ht := sizeL_take c0 hlt'
        have hle := sizeL_le c0 (l := v.kids) (i := i + 1)
        have hx2 := hx.trans (y0.trans h5)
        obtain ⟨a0, a1, a2, a3, a4⟩ := bk_vt A hx2
        have hs2 : IntKind.i64.wrap (((n0 + sizeL c0 (v.kids.take i) : Nat) : Int) + (sizeV v.kids[i] : Int)) = ((n0 + sizeL c0 (v.kids.take i) + sizeV v.kids[i] : Nat) : Int) := by rw [w64 (by omega) (by omega)]; omega
        by_cases n8 : v.k = 8
        · have : c0 = 8 := by rw [← hc0, if_pos (.inl n8)]
          have hs3 : IntKind.i64.wrap (((n0 + sizeL c0 (v.kids.take i) + sizeV v.kids[i] : Nat) : Int) + 8) = ((n0 + sizeL c0 (v.kids.take (i + 1)) : Nat) : Int) := by rw [w64 (by omega) (by omega)]; omega
          simp -dsimp -implicitDefEqProofs only [h31,h30,h29,h1,h3,a0,n8,hs1,hs2,hs3,m141,sF141,ZA,↓reduceIte,ZB,ZC,ZJ,ZK,ZE,ZF,ZG,ZH,ZI,reduceCtorEq,ZD,mwV,↓mwD,mwU]
          refine ⟨⟨i + 1, by omega, rfl, rfl, hx2⟩, by simp only [intOf,h31]; omega⟩
        by_cases n10 : v.k = 10
        · have : c0 = 8 := by rw [← hc0, if_pos (.inr n10)]
          have hs3 : IntKind.i64.wrap (((n0 + sizeL c0 (v.kids.take i) + sizeV v.kids[i] : Nat) : Int) + 8) = ((n0 + sizeL c0 (v.kids.take (i + 1)) : Nat) : Int) := by rw [w64 (by omega) (by omega)]; omega
          simp -dsimp -implicitDefEqProofs only [h31,h30,h29,h1,h3,a0,n10,hs1,hs2,hs3,m141,sF141,ZA,↓reduceIte,ZB,ZC,ZJ,ZK,ZE,ZF,ZG,ZH,ZI,reduceCtorEq,ZD,mwV,↓mwD,mwU]
          refine ⟨⟨i + 1, by omega, rfl, rfl, hx2⟩, by simp only [intOf,h31]; omega⟩
        · have : c0 = 0 := by rw [← hc0, if_neg (by omega)]
          have hs3 : ((n0 + sizeL c0 (v.kids.take i) + sizeV v.kids[i] : Nat) : Int) = ((n0 + sizeL c0 (v.kids.take (i + 1)) : Nat) : Int) := by omega
          simp -dsimp -implicitDefEqProofs only [h31,h30,h29,h1,h3,a0,n8,n10,hs1,hs2,m141,sF141,ZA,↓reduceIte,ZB,ZC,ZJ,ZK,ZE,ZF,ZG,ZH,ZI,reduceCtorEq,ZD,mwV,↓mwD,mwU]
          refine ⟨⟨i + 1, by omega, rfl, by rw [hs3], hx2⟩, by simp only [intOf,h31]; omega⟩
      · have hkl : i = v.kids.length := by omega
        rw [hkl, List.take_length] at h3
        simp -dsimp -implicitDefEqProofs only [h31,h30,h29,h1,h3,m141,sF141,ZA,↓reduceIte,ZB,ZC,ZJ,ZK,ZE,ZF,ZG,ZH,ZI,reduceCtorEq,ZD,mwV,↓mwD,mwU]
        exact x0.trans hx
theorem size_c (v : Vt) (s1 s2 : Value) (w : World) (hv : VAt w v s1 s2) (hm : massV v < 3000) : Rets ZP 116 #[vtV v s1 s2] w fun r w' => r = .int .i64 (sizeV v) ∧ Ext w w' := size_of hv hm fun w' hv' => body_c v s1 s2 w' hv' hm
end Go.Proofs.YthcdnjbhhaonhaaGreatDoor
/- Layer 01: what each kind asks of a value alone, by the program. -/
namespace Go.Proofs.YthcdnjbhhaonhaaGreatDoor
open Go.RowKit
open Nat renaming reduceEqDiff → ZA, reduceAdd → ZB, reduceMul → ZC, reduceSub → ZD
open Int renaming reduceToNat → ZE, reduceEq → ZF, reduceLT → ZG, reduceLE → ZH, reduceNeg → ZI
open Go.Value renaming oneCell' → ZK, cells → ZJ
open Go.Proofs.Tryz renaming prog → ZP
set_option linter.unusedSimpArgs false
set_option maxHeartbeats 2000000 in
theorem bare_c (v : Vt) (s1 s2 : Value) (n s ks kd : Bool) (w : World) (hv : VAt w v s1 s2) : Rets ZP 180 #[vtV v s1 s2, .bool n, .bool s, .bool ks, .bool kd] w (YesQ (Bare v n s ks kd) w) := by
  obtain ⟨q1, c1, rfl, _, _⟩ := hv.ks.shape
  obtain ⟨q2, c2, rfl, _, _⟩ := hv.vs.shape
  obtain ⟨W, hW, A, x0⟩ := new_vt w v (.slice q1 v.keys.length c1) (.slice q2 v.kids.length c2)
  refine en180 ?_
  refine mwpB_cut 1 (fun e ds w' => e 5 = .pointer (some ⟨w.heap.size, 0, none⟩) ∧ e 1 = .bool n ∧ e 2 = .bool s ∧ e 3 = .bool ks ∧ e 4 = .bool kd ∧ ds = [] ∧ w' = W) ?_ ?_
  · simp -dsimp -implicitDefEqProofs only [headM_zero,headM_seq,vtV,hW,m180,sF180,ZA,↓reduceIte,ZB,ZC,ZJ,ZK,ZE,ZF,ZG,ZH,ZI,reduceCtorEq,ZD,mwV,↓mwD,mwU]
  clear hW
  rintro e ds w0 ⟨h5, h1, h2, h3, h4, rfl, rfl⟩
  obtain ⟨a0, a1, a2, a3, a4⟩ := bk_vt A (Ext.refl w0)
  cases n
  · by_cases p0 : v.n = 0
    · skip
      cases s
      · by_cases p1 : v.s = ⟨#[]⟩
        · skip
          cases ks
          · by_cases p2 : (v.keys.length : Int) = 0
            · skip
              cases kd
              · by_cases p3 : (v.kids.length : Int) = 0
                · skip
                  simp -dsimp -implicitDefEqProofs only [tailM_zero,tailM_seq,h5,h1,h2,h3,h4,a1,a2,a3,a4,binV_eqS,p0,p1,p2,p3,m180,sF180,ZA,↓reduceIte,ZB,ZC,ZJ,ZK,ZE,ZF,ZG,ZH,ZI,reduceCtorEq,ZD,mwV,↓mwD,mwU]
                  exact .yes x0 (by unfold Bare; simp_all)
                · simp -dsimp -implicitDefEqProofs only [tailM_zero,tailM_seq,h5,h1,h2,h3,h4,a1,a2,a3,a4,binV_eqS,p0,p1,p2,p3,m180,sF180,ZA,↓reduceIte,ZB,ZC,ZJ,ZK,ZE,ZF,ZG,ZH,ZI,reduceCtorEq,ZD,mwV,↓mwD,mwU]
                  exact .no x0 (by unfold Bare; simp_all)
              · skip
                simp -dsimp -implicitDefEqProofs only [tailM_zero,tailM_seq,h5,h1,h2,h3,h4,a1,a2,a3,a4,binV_eqS,p0,p1,p2,m180,sF180,ZA,↓reduceIte,ZB,ZC,ZJ,ZK,ZE,ZF,ZG,ZH,ZI,reduceCtorEq,ZD,mwV,↓mwD,mwU]
                exact .yes x0 (by unfold Bare; simp_all)
            · simp -dsimp -implicitDefEqProofs only [tailM_zero,tailM_seq,h5,h1,h2,h3,h4,a1,a2,a3,a4,binV_eqS,p0,p1,p2,m180,sF180,ZA,↓reduceIte,ZB,ZC,ZJ,ZK,ZE,ZF,ZG,ZH,ZI,reduceCtorEq,ZD,mwV,↓mwD,mwU]
              exact .no x0 (by unfold Bare; simp_all)
          · skip
            cases kd
            · by_cases p3 : (v.kids.length : Int) = 0
              · skip
                simp -dsimp -implicitDefEqProofs only [tailM_zero,tailM_seq,h5,h1,h2,h3,h4,a1,a2,a3,a4,binV_eqS,p0,p1,p3,m180,sF180,ZA,↓reduceIte,ZB,ZC,ZJ,ZK,ZE,ZF,ZG,ZH,ZI,reduceCtorEq,ZD,mwV,↓mwD,mwU]
                exact .yes x0 (by unfold Bare; simp_all)
              · simp -dsimp -implicitDefEqProofs only [tailM_zero,tailM_seq,h5,h1,h2,h3,h4,a1,a2,a3,a4,binV_eqS,p0,p1,p3,m180,sF180,ZA,↓reduceIte,ZB,ZC,ZJ,ZK,ZE,ZF,ZG,ZH,ZI,reduceCtorEq,ZD,mwV,↓mwD,mwU]
                exact .no x0 (by unfold Bare; simp_all)
            · skip
              simp -dsimp -implicitDefEqProofs only [tailM_zero,tailM_seq,h5,h1,h2,h3,h4,a1,a2,a3,a4,binV_eqS,p0,p1,m180,sF180,ZA,↓reduceIte,ZB,ZC,ZJ,ZK,ZE,ZF,ZG,ZH,ZI,reduceCtorEq,ZD,mwV,↓mwD,mwU]
              exact .yes x0 (by unfold Bare; simp_all)
        · simp -dsimp -implicitDefEqProofs only [tailM_zero,tailM_seq,h5,h1,h2,h3,h4,a1,a2,a3,a4,binV_eqS,p0,p1,m180,sF180,ZA,↓reduceIte,ZB,ZC,ZJ,ZK,ZE,ZF,ZG,ZH,ZI,reduceCtorEq,ZD,mwV,↓mwD,mwU]
          exact .no x0 (by unfold Bare; simp_all)
      · skip
        cases ks
        · by_cases p2 : (v.keys.length : Int) = 0
          · skip
            cases kd
            · by_cases p3 : (v.kids.length : Int) = 0
              · skip
                simp -dsimp -implicitDefEqProofs only [tailM_zero,tailM_seq,h5,h1,h2,h3,h4,a1,a2,a3,a4,binV_eqS,p0,p2,p3,m180,sF180,ZA,↓reduceIte,ZB,ZC,ZJ,ZK,ZE,ZF,ZG,ZH,ZI,reduceCtorEq,ZD,mwV,↓mwD,mwU]
                exact .yes x0 (by unfold Bare; simp_all)
              · simp -dsimp -implicitDefEqProofs only [tailM_zero,tailM_seq,h5,h1,h2,h3,h4,a1,a2,a3,a4,binV_eqS,p0,p2,p3,m180,sF180,ZA,↓reduceIte,ZB,ZC,ZJ,ZK,ZE,ZF,ZG,ZH,ZI,reduceCtorEq,ZD,mwV,↓mwD,mwU]
                exact .no x0 (by unfold Bare; simp_all)
            · skip
              simp -dsimp -implicitDefEqProofs only [tailM_zero,tailM_seq,h5,h1,h2,h3,h4,a1,a2,a3,a4,binV_eqS,p0,p2,m180,sF180,ZA,↓reduceIte,ZB,ZC,ZJ,ZK,ZE,ZF,ZG,ZH,ZI,reduceCtorEq,ZD,mwV,↓mwD,mwU]
              exact .yes x0 (by unfold Bare; simp_all)
          · simp -dsimp -implicitDefEqProofs only [tailM_zero,tailM_seq,h5,h1,h2,h3,h4,a1,a2,a3,a4,binV_eqS,p0,p2,m180,sF180,ZA,↓reduceIte,ZB,ZC,ZJ,ZK,ZE,ZF,ZG,ZH,ZI,reduceCtorEq,ZD,mwV,↓mwD,mwU]
            exact .no x0 (by unfold Bare; simp_all)
        · skip
          cases kd
          · by_cases p3 : (v.kids.length : Int) = 0
            · skip
              simp -dsimp -implicitDefEqProofs only [tailM_zero,tailM_seq,h5,h1,h2,h3,h4,a1,a2,a3,a4,binV_eqS,p0,p3,m180,sF180,ZA,↓reduceIte,ZB,ZC,ZJ,ZK,ZE,ZF,ZG,ZH,ZI,reduceCtorEq,ZD,mwV,↓mwD,mwU]
              exact .yes x0 (by unfold Bare; simp_all)
            · simp -dsimp -implicitDefEqProofs only [tailM_zero,tailM_seq,h5,h1,h2,h3,h4,a1,a2,a3,a4,binV_eqS,p0,p3,m180,sF180,ZA,↓reduceIte,ZB,ZC,ZJ,ZK,ZE,ZF,ZG,ZH,ZI,reduceCtorEq,ZD,mwV,↓mwD,mwU]
              exact .no x0 (by unfold Bare; simp_all)
          · skip
            simp -dsimp -implicitDefEqProofs only [tailM_zero,tailM_seq,h5,h1,h2,h3,h4,a1,a2,a3,a4,binV_eqS,p0,m180,sF180,ZA,↓reduceIte,ZB,ZC,ZJ,ZK,ZE,ZF,ZG,ZH,ZI,reduceCtorEq,ZD,mwV,↓mwD,mwU]
            exact .yes x0 (by unfold Bare; simp_all)
    · simp -dsimp -implicitDefEqProofs only [tailM_zero,tailM_seq,h5,h1,h2,h3,h4,a1,a2,a3,a4,binV_eqS,p0,m180,sF180,ZA,↓reduceIte,ZB,ZC,ZJ,ZK,ZE,ZF,ZG,ZH,ZI,reduceCtorEq,ZD,mwV,↓mwD,mwU]
      exact .no x0 (by unfold Bare; simp_all)
  · skip
    cases s
    · by_cases p1 : v.s = ⟨#[]⟩
      · skip
        cases ks
        · by_cases p2 : (v.keys.length : Int) = 0
          · skip
            cases kd
            · by_cases p3 : (v.kids.length : Int) = 0
              · skip
                simp -dsimp -implicitDefEqProofs only [tailM_zero,tailM_seq,h5,h1,h2,h3,h4,a1,a2,a3,a4,binV_eqS,p1,p2,p3,m180,sF180,ZA,↓reduceIte,ZB,ZC,ZJ,ZK,ZE,ZF,ZG,ZH,ZI,reduceCtorEq,ZD,mwV,↓mwD,mwU]
                exact .yes x0 (by unfold Bare; simp_all)
              · simp -dsimp -implicitDefEqProofs only [tailM_zero,tailM_seq,h5,h1,h2,h3,h4,a1,a2,a3,a4,binV_eqS,p1,p2,p3,m180,sF180,ZA,↓reduceIte,ZB,ZC,ZJ,ZK,ZE,ZF,ZG,ZH,ZI,reduceCtorEq,ZD,mwV,↓mwD,mwU]
                exact .no x0 (by unfold Bare; simp_all)
            · skip
              simp -dsimp -implicitDefEqProofs only [tailM_zero,tailM_seq,h5,h1,h2,h3,h4,a1,a2,a3,a4,binV_eqS,p1,p2,m180,sF180,ZA,↓reduceIte,ZB,ZC,ZJ,ZK,ZE,ZF,ZG,ZH,ZI,reduceCtorEq,ZD,mwV,↓mwD,mwU]
              exact .yes x0 (by unfold Bare; simp_all)
          · simp -dsimp -implicitDefEqProofs only [tailM_zero,tailM_seq,h5,h1,h2,h3,h4,a1,a2,a3,a4,binV_eqS,p1,p2,m180,sF180,ZA,↓reduceIte,ZB,ZC,ZJ,ZK,ZE,ZF,ZG,ZH,ZI,reduceCtorEq,ZD,mwV,↓mwD,mwU]
            exact .no x0 (by unfold Bare; simp_all)
        · skip
          cases kd
          · by_cases p3 : (v.kids.length : Int) = 0
            · skip
              simp -dsimp -implicitDefEqProofs only [tailM_zero,tailM_seq,h5,h1,h2,h3,h4,a1,a2,a3,a4,binV_eqS,p1,p3,m180,sF180,ZA,↓reduceIte,ZB,ZC,ZJ,ZK,ZE,ZF,ZG,ZH,ZI,reduceCtorEq,ZD,mwV,↓mwD,mwU]
              exact .yes x0 (by unfold Bare; simp_all)
            · simp -dsimp -implicitDefEqProofs only [tailM_zero,tailM_seq,h5,h1,h2,h3,h4,a1,a2,a3,a4,binV_eqS,p1,p3,m180,sF180,ZA,↓reduceIte,ZB,ZC,ZJ,ZK,ZE,ZF,ZG,ZH,ZI,reduceCtorEq,ZD,mwV,↓mwD,mwU]
              exact .no x0 (by unfold Bare; simp_all)
          · skip
            simp -dsimp -implicitDefEqProofs only [tailM_zero,tailM_seq,h5,h1,h2,h3,h4,a1,a2,a3,a4,binV_eqS,p1,m180,sF180,ZA,↓reduceIte,ZB,ZC,ZJ,ZK,ZE,ZF,ZG,ZH,ZI,reduceCtorEq,ZD,mwV,↓mwD,mwU]
            exact .yes x0 (by unfold Bare; simp_all)
      · simp -dsimp -implicitDefEqProofs only [tailM_zero,tailM_seq,h5,h1,h2,h3,h4,a1,a2,a3,a4,binV_eqS,p1,m180,sF180,ZA,↓reduceIte,ZB,ZC,ZJ,ZK,ZE,ZF,ZG,ZH,ZI,reduceCtorEq,ZD,mwV,↓mwD,mwU]
        exact .no x0 (by unfold Bare; simp_all)
    · skip
      cases ks
      · by_cases p2 : (v.keys.length : Int) = 0
        · skip
          cases kd
          · by_cases p3 : (v.kids.length : Int) = 0
            · skip
              simp -dsimp -implicitDefEqProofs only [tailM_zero,tailM_seq,h5,h1,h2,h3,h4,a1,a2,a3,a4,binV_eqS,p2,p3,m180,sF180,ZA,↓reduceIte,ZB,ZC,ZJ,ZK,ZE,ZF,ZG,ZH,ZI,reduceCtorEq,ZD,mwV,↓mwD,mwU]
              exact .yes x0 (by unfold Bare; simp_all)
            · simp -dsimp -implicitDefEqProofs only [tailM_zero,tailM_seq,h5,h1,h2,h3,h4,a1,a2,a3,a4,binV_eqS,p2,p3,m180,sF180,ZA,↓reduceIte,ZB,ZC,ZJ,ZK,ZE,ZF,ZG,ZH,ZI,reduceCtorEq,ZD,mwV,↓mwD,mwU]
              exact .no x0 (by unfold Bare; simp_all)
          · skip
            simp -dsimp -implicitDefEqProofs only [tailM_zero,tailM_seq,h5,h1,h2,h3,h4,a1,a2,a3,a4,binV_eqS,p2,m180,sF180,ZA,↓reduceIte,ZB,ZC,ZJ,ZK,ZE,ZF,ZG,ZH,ZI,reduceCtorEq,ZD,mwV,↓mwD,mwU]
            exact .yes x0 (by unfold Bare; simp_all)
        · simp -dsimp -implicitDefEqProofs only [tailM_zero,tailM_seq,h5,h1,h2,h3,h4,a1,a2,a3,a4,binV_eqS,p2,m180,sF180,ZA,↓reduceIte,ZB,ZC,ZJ,ZK,ZE,ZF,ZG,ZH,ZI,reduceCtorEq,ZD,mwV,↓mwD,mwU]
          exact .no x0 (by unfold Bare; simp_all)
      · skip
        cases kd
        · by_cases p3 : (v.kids.length : Int) = 0
          · skip
            simp -dsimp -implicitDefEqProofs only [tailM_zero,tailM_seq,h5,h1,h2,h3,h4,a1,a2,a3,a4,binV_eqS,p3,m180,sF180,ZA,↓reduceIte,ZB,ZC,ZJ,ZK,ZE,ZF,ZG,ZH,ZI,reduceCtorEq,ZD,mwV,↓mwD,mwU]
            exact .yes x0 (by unfold Bare; simp_all)
          · simp -dsimp -implicitDefEqProofs only [tailM_zero,tailM_seq,h5,h1,h2,h3,h4,a1,a2,a3,a4,binV_eqS,p3,m180,sF180,ZA,↓reduceIte,ZB,ZC,ZJ,ZK,ZE,ZF,ZG,ZH,ZI,reduceCtorEq,ZD,mwV,↓mwD,mwU]
            exact .no x0 (by unfold Bare; simp_all)
        · skip
          simp -dsimp -implicitDefEqProofs only [tailM_zero,tailM_seq,h5,h1,h2,h3,h4,a1,a2,a3,a4,binV_eqS,m180,sF180,ZA,↓reduceIte,ZB,ZC,ZJ,ZK,ZE,ZF,ZG,ZH,ZI,reduceCtorEq,ZD,mwV,↓mwD,mwU]
          exact .yes x0 (by unfold Bare; simp_all)
theorem plain_c (k : Int) (w : World) : Rets ZP 188 #[.int .i64 k] w fun r w' => r = .bool (decide (2 ≤ k) && decide (k ≤ 4)) ∧ w' = w := by
  refine en188 ?_
  by_cases h1 : 2 ≤ k
  · by_cases h2 : k ≤ 4
    · simp -dsimp -implicitDefEqProofs only [h1,h2,m188,sF188,ZA,↓reduceIte,ZB,ZC,ZJ,ZK,ZE,ZF,ZG,ZH,ZI,reduceCtorEq,ZD,mwV,↓mwD,mwU]
      rfl
    · simp -dsimp -implicitDefEqProofs only [h1,h2,m188,sF188,ZA,↓reduceIte,ZB,ZC,ZJ,ZK,ZE,ZF,ZG,ZH,ZI,reduceCtorEq,ZD,mwV,↓mwD,mwU]
      rfl
  · simp -dsimp -implicitDefEqProofs only [h1,m188,sF188,ZA,↓reduceIte,ZB,ZC,ZJ,ZK,ZE,ZF,ZG,ZH,ZI,reduceCtorEq,ZD,mwV,↓mwD,mwU]
    rfl
theorem IndexFV0 (v : Value) (l : List Vt) (g : FuncId) (p : Vt → Prop) (w : World) (h : SlV w v l) (hg : okF ZP g = true) (hf : ∀ x, x ∈ l → ∀ t1 t2 w2, Ext w w2 → VAt w2 x t1 t2 → Rets ZP g #[vtV x t1 t2] w2 (YesQ (p x) w2)) :
    Rets ZP 204 #[v, .func (.func g) #[] #[]] w fun r w' => (∃ i : Int, r = .int .i64 i ∧ (0 ≤ i ↔ ∃ x, x ∈ l ∧ p x)) ∧ Ext w w' := by
  obtain ⟨q, cap, rfl, hc1, hc2⟩ := h.shape
  refine en204 ?_
  simp -dsimp -implicitDefEqProofs only [m204,sF204,ZA,↓reduceIte,ZB,ZC,ZJ,ZK,ZE,ZF,ZG,ZH,ZI,reduceCtorEq,ZD,mwV,↓mwD,mwU]
  refine mwpB_loop (fun e ds w' => ∃ k : Nat, k ≤ l.length ∧ e 8 = .int .i64 k ∧ e 7 = .int .i64 l.length ∧ e 0 = .slice q l.length cap ∧ e 1 = .func (.func g) #[] #[] ∧ ds = [] ∧ Ext w w' ∧ ∀ x, x ∈ l.take k → ¬ p x)
    (fun e _ => l.length - (intOf (e 8)).toNat) ?_ ?_
  · simp -dsimp -implicitDefEqProofs only [m204,sF204,ZA,↓reduceIte,ZB,ZC,ZJ,ZK,ZE,ZF,ZG,ZH,ZI,reduceCtorEq,ZD,mwV,↓mwD,mwU]
    exact ⟨0, by omega, rfl, Ext.refl _, fun x hx => by simp at hx⟩
  · rintro e ds w' ⟨k, hk, h8, h7, h0, h1, rfl, hx, hp⟩
    simp -dsimp -implicitDefEqProofs only [h8,h7,h0,h1,m204,sF204,ZA,↓reduceIte,ZB,ZC,ZJ,ZK,ZE,ZF,ZG,ZH,ZI,reduceCtorEq,ZD,mwV,↓mwD,mwU]
    refine iteW_dec (fun hlt => ?_) (fun hge => ?_)
    · have hlt' : k < l.length := by omega
      obtain ⟨b, o, t1, m1, d1, t2, d2, rfl, k0, k1, k2, k3, k4, hkv, rfl⟩ := (h.ext hx).get hlt'
      have hb1 : (0 : Int) ≤ k ∧ (k : Int) < l.length := by omega
      have hw := w64_succ hlt' (Nat.le_trans hc1 hc2)
      simp -dsimp -implicitDefEqProofs only [h8,h7,h0,h1,hb1,and_self,Nat.mul_comm k 5,k0,k1,k2,k3,k4,hg,m204,sF204,ZA,↓reduceIte,ZB,ZC,ZJ,ZK,ZE,ZF,ZG,ZH,ZI,reduceCtorEq,ZD,mwV,↓mwD,mwU]
      refine (hf _ (List.getElem_mem hlt') _ _ _ hx hkv).use ?_
      rintro v w2 ⟨hx2, y, rfl, hy⟩
      simp -dsimp -implicitDefEqProofs only [h8,h7,h0,h1,hw,m204,sF204,ZA,↓reduceIte,ZB,ZC,ZJ,ZK,ZE,ZF,ZG,ZH,ZI,reduceCtorEq,ZD,mwV,↓mwD,mwU]
      cases y
      · simp -dsimp -implicitDefEqProofs only [h8,h7,h0,h1,hw,m204,sF204,ZA,↓reduceIte,ZB,ZC,ZJ,ZK,ZE,ZF,ZG,ZH,ZI,reduceCtorEq,ZD,mwV,↓mwD,mwU]
        refine ⟨⟨k + 1, by omega, rfl, hx.trans hx2, fun x hm => ?_⟩, by simp only [intOf,h8]; omega⟩
        rw [List.take_succ_eq_append_getElem hlt', List.mem_append, List.mem_singleton] at hm
        rcases hm with hm | rfl
        · exact hp x hm
        · exact fun h => by have := hy.2 h; cases this
      · simp -dsimp -implicitDefEqProofs only [h8,h7,h0,h1,hw,m204,sF204,ZA,↓reduceIte,ZB,ZC,ZJ,ZK,ZE,ZF,ZG,ZH,ZI,reduceCtorEq,ZD,mwV,↓mwD,mwU]
        exact ⟨⟨_, rfl, ⟨fun _ => ⟨_, List.getElem_mem hlt', hy.1 rfl⟩, fun _ => by omega⟩⟩, hx.trans hx2⟩
    · have hkl : k = l.length := by omega
      rw [hkl, List.take_length] at hp
      simp -dsimp -implicitDefEqProofs only [h8,h7,h0,h1,m204,sF204,ZA,↓reduceIte,ZB,ZC,ZJ,ZK,ZE,ZF,ZG,ZH,ZI,reduceCtorEq,ZD,mwV,↓mwD,mwU]
      exact ⟨⟨_, rfl, ⟨fun h => by omega, fun ⟨x, hx, h⟩ => absurd h (hp x hx)⟩⟩, hx⟩
theorem ContainsFV0 (v : Value) (l : List Vt) (g : FuncId) (p : Vt → Prop) (w : World) (h : SlV w v l) (hg : okF ZP g = true) (hf : ∀ x, x ∈ l → ∀ t1 t2 w2, Ext w w2 → VAt w2 x t1 t2 → Rets ZP g #[vtV x t1 t2] w2 (YesQ (p x) w2)) :
    Rets ZP 189 #[v, .func (.func g) #[] #[]] w (YesQ (∃ x, x ∈ l ∧ p x) w) := by
  refine en189 ?_
  simp -dsimp -implicitDefEqProofs only [m189,sF189,ZA,↓reduceIte,ZB,ZC,ZJ,ZK,ZE,ZF,ZG,ZH,ZI,reduceCtorEq,ZD,mwV,↓mwD,mwU]
  refine (IndexFV0 v l g p w h hg hf).use ?_
  rintro r w' ⟨⟨i, rfl, hi⟩, hx⟩
  simp -dsimp -implicitDefEqProofs only [m189,sF189,ZA,↓reduceIte,ZB,ZC,ZJ,ZK,ZE,ZF,ZG,ZH,ZI,reduceCtorEq,ZD,mwV,↓mwD,mwU]
  exact .mk' hx (by rw [decide_eq_true_eq]; exact hi)
theorem IndexFV1 (v : Value) (l : List Vt) (g : FuncId) (cp : Value) (p : Vt → Prop) (w : World) (h : SlV w v l) (hg : okF ZP g = true) (hf : ∀ x, x ∈ l → ∀ t1 t2 w2, Ext w w2 → VAt w2 x t1 t2 → Rets ZP g #[vtV x t1 t2, cp] w2 (YesQ (p x) w2)) :
    Rets ZP 204 #[v, .func (.func g) #[] #[cp]] w fun r w' => (∃ i : Int, r = .int .i64 i ∧ (0 ≤ i ↔ ∃ x, x ∈ l ∧ p x)) ∧ Ext w w' := by
  obtain ⟨q, cap, rfl, hc1, hc2⟩ := h.shape
  refine en204 ?_
  simp -dsimp -implicitDefEqProofs only [m204,sF204,ZA,↓reduceIte,ZB,ZC,ZJ,ZK,ZE,ZF,ZG,ZH,ZI,reduceCtorEq,ZD,mwV,↓mwD,mwU]
  refine mwpB_loop (fun e ds w' => ∃ k : Nat, k ≤ l.length ∧ e 8 = .int .i64 k ∧ e 7 = .int .i64 l.length ∧ e 0 = .slice q l.length cap ∧ e 1 = .func (.func g) #[] #[cp] ∧ ds = [] ∧ Ext w w' ∧ ∀ x, x ∈ l.take k → ¬ p x)
    (fun e _ => l.length - (intOf (e 8)).toNat) ?_ ?_
  · simp -dsimp -implicitDefEqProofs only [m204,sF204,ZA,↓reduceIte,ZB,ZC,ZJ,ZK,ZE,ZF,ZG,ZH,ZI,reduceCtorEq,ZD,mwV,↓mwD,mwU]
    exact ⟨0, by omega, rfl, Ext.refl _, fun x hx => by simp at hx⟩
  · rintro e ds w' ⟨k, hk, h8, h7, h0, h1, rfl, hx, hp⟩
    simp -dsimp -implicitDefEqProofs only [h8,h7,h0,h1,m204,sF204,ZA,↓reduceIte,ZB,ZC,ZJ,ZK,ZE,ZF,ZG,ZH,ZI,reduceCtorEq,ZD,mwV,↓mwD,mwU]
    refine iteW_dec (fun hlt => ?_) (fun hge => ?_)
    · have hlt' : k < l.length := by omega
      obtain ⟨b, o, t1, m1, d1, t2, d2, rfl, k0, k1, k2, k3, k4, hkv, rfl⟩ := (h.ext hx).get hlt'
      have hb1 : (0 : Int) ≤ k ∧ (k : Int) < l.length := by omega
      have hw := w64_succ hlt' (Nat.le_trans hc1 hc2)
      simp -dsimp -implicitDefEqProofs only [h8,h7,h0,h1,hb1,and_self,Nat.mul_comm k 5,k0,k1,k2,k3,k4,hg,m204,sF204,ZA,↓reduceIte,ZB,ZC,ZJ,ZK,ZE,ZF,ZG,ZH,ZI,reduceCtorEq,ZD,mwV,↓mwD,mwU]
      refine (hf _ (List.getElem_mem hlt') _ _ _ hx hkv).use ?_
      rintro v w2 ⟨hx2, y, rfl, hy⟩
      simp -dsimp -implicitDefEqProofs only [h8,h7,h0,h1,hw,m204,sF204,ZA,↓reduceIte,ZB,ZC,ZJ,ZK,ZE,ZF,ZG,ZH,ZI,reduceCtorEq,ZD,mwV,↓mwD,mwU]
      cases y
      · simp -dsimp -implicitDefEqProofs only [h8,h7,h0,h1,hw,m204,sF204,ZA,↓reduceIte,ZB,ZC,ZJ,ZK,ZE,ZF,ZG,ZH,ZI,reduceCtorEq,ZD,mwV,↓mwD,mwU]
        refine ⟨⟨k + 1, by omega, rfl, hx.trans hx2, fun x hm => ?_⟩, by simp only [intOf,h8]; omega⟩
        rw [List.take_succ_eq_append_getElem hlt', List.mem_append, List.mem_singleton] at hm
        rcases hm with hm | rfl
        · exact hp x hm
        · exact fun h => by have := hy.2 h; cases this
      · simp -dsimp -implicitDefEqProofs only [h8,h7,h0,h1,hw,m204,sF204,ZA,↓reduceIte,ZB,ZC,ZJ,ZK,ZE,ZF,ZG,ZH,ZI,reduceCtorEq,ZD,mwV,↓mwD,mwU]
        exact ⟨⟨_, rfl, ⟨fun _ => ⟨_, List.getElem_mem hlt', hy.1 rfl⟩, fun _ => by omega⟩⟩, hx.trans hx2⟩
    · have hkl : k = l.length := by omega
      rw [hkl, List.take_length] at hp
      simp -dsimp -implicitDefEqProofs only [h8,h7,h0,h1,m204,sF204,ZA,↓reduceIte,ZB,ZC,ZJ,ZK,ZE,ZF,ZG,ZH,ZI,reduceCtorEq,ZD,mwV,↓mwD,mwU]
      exact ⟨⟨_, rfl, ⟨fun h => by omega, fun ⟨x, hx, h⟩ => absurd h (hp x hx)⟩⟩, hx⟩
theorem ContainsFV1 (v : Value) (l : List Vt) (g : FuncId) (cp : Value) (p : Vt → Prop) (w : World) (h : SlV w v l) (hg : okF ZP g = true) (hf : ∀ x, x ∈ l → ∀ t1 t2 w2, Ext w w2 → VAt w2 x t1 t2 → Rets ZP g #[vtV x t1 t2, cp] w2 (YesQ (p x) w2)) :
    Rets ZP 189 #[v, .func (.func g) #[] #[cp]] w (YesQ (∃ x, x ∈ l ∧ p x) w) := by
  refine en189 ?_
  simp -dsimp -implicitDefEqProofs only [m189,sF189,ZA,↓reduceIte,ZB,ZC,ZJ,ZK,ZE,ZF,ZG,ZH,ZI,reduceCtorEq,ZD,mwV,↓mwD,mwU]
  refine (IndexFV1 v l g cp p w h hg hf).use ?_
  rintro r w' ⟨⟨i, rfl, hi⟩, hx⟩
  simp -dsimp -implicitDefEqProofs only [m189,sF189,ZA,↓reduceIte,ZB,ZC,ZJ,ZK,ZE,ZF,ZG,ZH,ZI,reduceCtorEq,ZD,mwV,↓mwD,mwU]
  exact .mk' hx (by rw [decide_eq_true_eq]; exact hi)
theorem ints1_c (x : Vt) (t1 t2 : Value) (w : World) (hv : VAt w x t1 t2) : Rets ZP 210 #[vtV x t1 t2] w (YesQ (x.k ≠ 3) w) := by
  obtain ⟨q1, c1, rfl, _, _⟩ := hv.ks.shape
  obtain ⟨q2, c2, rfl, _, _⟩ := hv.vs.shape
  obtain ⟨W, hW, A, x0⟩ := new_vt w x (.slice q1 x.keys.length c1) (.slice q2 x.kids.length c2)
  obtain ⟨a0, a1, a2, a3, a4⟩ := bk_vt A (Ext.refl W)
  refine en210 ?_
  simp -dsimp -implicitDefEqProofs only [vtV,← hW,a0,m210,sF210,ZA,↓reduceIte,ZB,ZC,ZJ,ZK,ZE,ZF,ZG,ZH,ZI,reduceCtorEq,ZD,mwV,↓mwD,mwU]
  exact .mk' x0 (by simp)
theorem ints_c (v : Value) (l : List Vt) (w : World) (h : SlV w v l) : Rets ZP 205 #[v] w (YesQ (∀ x, x ∈ l → x.k = 3) w) := by
  refine en205 ?_
  simp -dsimp -implicitDefEqProofs only [m205,sF205,ZA,↓reduceIte,ZB,ZC,ZJ,ZK,ZE,ZF,ZG,ZH,ZI,reduceCtorEq,ZD,mwV,↓mwD,mwU]
  refine (ContainsFV0 v l 210 (fun x => x.k ≠ 3) w h okF_210 (fun x _ t1 t2 w2 _ hv => ints1_c x t1 t2 w2 hv)).use ?_
  rintro r w' ⟨hx, b, rfl, hb⟩
  simp -dsimp -implicitDefEqProofs only [m205,sF205,ZA,↓reduceIte,ZB,ZC,ZJ,ZK,ZE,ZF,ZG,ZH,ZI,reduceCtorEq,ZD,mwV,↓mwD,mwU]
  refine .mk' hx ?_
  cases b
  · simp only [Bool.not_false,true_iff]
    intro x hm
    exact Classical.byContradiction fun hne => by have := hb.2 ⟨x, hm, hne⟩; cases this
  · simp only [Bool.not_true,Bool.false_eq_true,false_iff]
    intro hall
    obtain ⟨x, hm, hne⟩ := hb.1 rfl
    exact hne (hall x hm)
end Go.Proofs.YthcdnjbhhaonhaaGreatDoor
/- Layer 01: the forms of the program, one by one. -/
namespace Go.Proofs.YthcdnjbhhaonhaaGreatDoor
open Go.RowKit
open Nat renaming reduceEqDiff → ZA, reduceAdd → ZB, reduceMul → ZC, reduceSub → ZD
open Int renaming reduceToNat → ZE, reduceEq → ZF, reduceLT → ZG, reduceLE → ZH, reduceNeg → ZI
open Go.Value renaming oneCell' → ZK, cells → ZJ
open Go.Proofs.Tryz renaming prog → ZP
set_option linter.unusedSimpArgs false
def byts (l : List UInt8) : List Value := l.map fun b => .int .u8 b.toNat
theorem byts_length (l : List UInt8) : (byts l).length = l.length := by simp [byts]
theorem byts_get {l : List UInt8} {k : Nat} (h : k < l.length) : (byts l)[k]? = some (.int .u8 l[k].toNat) := by simp [byts, h]
theorem convB_run {P : Program} {t t' : TypeId} {x : Operand} {v v' : Value} {w w' : World} {d : Option Tmp} {ty : TypeId} {g} {e : Env} {ds : List Deferred} {K : Value → Prop} {KV : Value → List Deferred → World → Prop} {X : List PanicEntry → List Deferred → World → Prop} {tk : Tk1 K}
    (hn : convV P t t' v = none) (hx : ev e x = v) (h : (convert t t' v).run P w = .ok v' w') (hk : KV v' ds w') : convB P t t' v K (opR P ds KV X ((mexec (ev e) ⟨d, .convert t t' x, ty, g⟩).run P w)) tk := by
  unfold convB convK
  rw [hn]
  simp only [mexec,execOp,Sem.run_bind,hx,h,Result.andThen_ok,Sem.run_pure,opR]
  exact hk
theorem bytes_new (w : World) (s : ByteArray) (hs : s.size ≤ 140737488355328) : convV ZP 9 132 (.string s) = none ∧ ∃ b cap w', (convert 9 132 (.string s)).run ZP w = .ok (.slice (some ⟨b, 0, none⟩) s.size cap) w' ∧ Ext w w' ∧ Sl w' (.slice (some ⟨b, 0, none⟩) s.size cap) (byts s.data.toList) := by
  refine ⟨by kernel_rfl, ?_⟩
  have hrun := run_bytes_of_string (P := ZP) w 9 132 5 s Tryz.underlying9 Tryz.underlying132 Tryz.underlying5
  have hcap1 : s.size ≤ grownCap w s.size 0 5 := grownCap_ge w s.size 0 5
  have hcapm : grownCap w s.size 0 5 ≤ maxLen := grownCap_le_maxLen w s.size 0 5 (by simp only [maxLen]; omega)
  refine ⟨_, _, _, hrun, (Ext.drew w).trans (Ext.alloc _ _), ?_⟩
  unfold Sl
  refine Or.inr ⟨_, 0, _, by rw [byts_length]; rfl, by rw [byts_length]; exact hcap1, hcapm, fun k u hu => ?_⟩
  have hl := (List.getElem?_eq_some_iff.1 hu).1
  rw [byts_length] at hl
  rw [byts_get hl] at hu
  cases hu
  rw [Nat.zero_add]
  refine (World.cell?_alloc_mark _ _ _ _ _).trans ?_
  rw [bytesRow_at s _ k (by simpa using hl)]
  simp
theorem IndexB_c (v : Value) (xs : List UInt8) (w : World) (h : Sl w v (byts xs)) :
    Rets ZP 203 #[v, .int .u8 0] w fun r w' => (∃ i : Int, r = .int .i64 i ∧ (0 ≤ i ↔ 0 ∈ xs)) ∧ w' = w := by
  obtain ⟨q, cap, rfl, hc1, hc2⟩ := h.shape
  rw [byts_length] at hc1
  refine en203 ?_
  simp -dsimp -implicitDefEqProofs only [byts_length,m203,sF203,ZA,↓reduceIte,ZB,ZC,ZJ,ZK,ZE,ZF,ZG,ZH,ZI,reduceCtorEq,ZD,mwV,↓mwD,mwU]
  refine mwpB_loop (fun e ds w' => ∃ k : Nat, k ≤ xs.length ∧ e 8 = .int .i64 k ∧ e 7 = .int .i64 xs.length ∧ e 0 = .slice q xs.length cap ∧ e 1 = .int .u8 0 ∧ ds = [] ∧ w' = w ∧ 0 ∉ xs.take k)
    (fun e _ => xs.length - (intOf (e 8)).toNat) ?_ ?_
  · simp -dsimp -implicitDefEqProofs only [byts_length,m203,sF203,ZA,↓reduceIte,ZB,ZC,ZJ,ZK,ZE,ZF,ZG,ZH,ZI,reduceCtorEq,ZD,mwV,↓mwD,mwU]
    exact ⟨0, by omega, rfl, by simp⟩
  · rintro e ds w' ⟨k, hk, h8, h7, h0, h1, rfl, rfl, hp⟩
    simp -dsimp -implicitDefEqProofs only [h8,h7,h0,h1,m203,sF203,ZA,↓reduceIte,ZB,ZC,ZJ,ZK,ZE,ZF,ZG,ZH,ZI,reduceCtorEq,ZD,mwV,↓mwD,mwU]
    refine iteW_dec (fun hlt => ?_) (fun hge => ?_)
    · have hlt' : k < xs.length := by omega
      obtain ⟨b, o, cap', hv, _, _, hcell⟩ := Sl.at h (by intro h0; rw [← byts_length, h0] at hlt'; simp at hlt')
      cases hv
      have hck := hcell k _ (byts_get hlt')
      have hb1 : (0 : Int) ≤ k ∧ (k : Int) < xs.length := by omega
      have hw := w64_succ hlt' (Nat.le_trans hc1 hc2)
      by_cases he : xs[k] = 0
      · have he' : (0 : Int) = (xs[k].toNat : Int) := by rw [he]; rfl
        simp -dsimp -implicitDefEqProofs only [h8,h7,h0,h1,hb1,and_self,hck,← he',m203,sF203,ZA,↓reduceIte,ZB,ZC,ZJ,ZK,ZE,ZF,ZG,ZH,ZI,reduceCtorEq,ZD,mwV,↓mwD,mwU]
        exact ⟨_, rfl, ⟨fun _ => by rw [← he]; exact List.getElem_mem hlt', fun _ => by omega⟩⟩
      · have he' : ¬ (0 : Int) = (xs[k].toNat : Int) := fun h => he (UInt8.toNat_inj.1 (by simpa using (Int.ofNat.inj h).symm))
        simp -dsimp -implicitDefEqProofs only [h8,h7,h0,h1,hb1,and_self,hck,he',hw,m203,sF203,ZA,↓reduceIte,ZB,ZC,ZJ,ZK,ZE,ZF,ZG,ZH,ZI,reduceCtorEq,ZD,mwV,↓mwD,mwU]
        refine ⟨⟨k + 1, by omega, rfl, fun hm => ?_⟩, by simp only [intOf,h8]; omega⟩
        rw [List.take_succ_eq_append_getElem hlt', List.mem_append, List.mem_singleton] at hm
        rcases hm with hm | hm
        · exact hp hm
        · exact he hm.symm
    · have hkl : k = xs.length := by omega
      rw [hkl, List.take_length] at hp
      simp -dsimp -implicitDefEqProofs only [h8,h7,h0,h1,m203,sF203,ZA,↓reduceIte,ZB,ZC,ZJ,ZK,ZE,ZF,ZG,ZH,ZI,reduceCtorEq,ZD,mwV,↓mwD,mwU]
      exact ⟨_, rfl, ⟨fun h => by omega, fun h => absurd h hp⟩⟩
theorem ContainsB_c (v : Value) (xs : List UInt8) (w : World) (h : Sl w v (byts xs)) : Rets ZP 184 #[v, .int .u8 0] w fun r w' => (∃ b : Bool, r = .bool b ∧ (b = true ↔ 0 ∈ xs)) ∧ w' = w := by
  refine en184 ?_
  simp -dsimp -implicitDefEqProofs only [m184,sF184,ZA,↓reduceIte,ZB,ZC,ZJ,ZK,ZE,ZF,ZG,ZH,ZI,reduceCtorEq,ZD,mwV,↓mwD,mwU]
  refine (IndexB_c v xs w h).use ?_
  rintro r w' ⟨⟨i, rfl, hi⟩, rfl⟩
  simp -dsimp -implicitDefEqProofs only [m184,sF184,ZA,↓reduceIte,ZB,ZC,ZJ,ZK,ZE,ZF,ZG,ZH,ZI,reduceCtorEq,ZD,mwV,↓mwD,mwU]
  exact ⟨_, rfl, by rw [decide_eq_true_eq]; exact hi⟩
set_option linter.unusedVariables false
theorem form1_c (v : Vt) (s1 s2 : Value) (w : World) (hv : VAt w v s1 s2) : Rets ZP 179 #[vtV v s1 s2] w (YesQ (Bare v false false false false) w) := by
  obtain ⟨q1, c1, rfl, _, _⟩ := hv.ks.shape
  obtain ⟨q2, c2, rfl, _, _⟩ := hv.vs.shape
  obtain ⟨W, hW, A, x0⟩ := new_vt w v (.slice q1 v.keys.length c1) (.slice q2 v.kids.length c2)
  obtain ⟨a0, a1, a2, a3, a4⟩ := bk_vt A (Ext.refl W)
  refine en179 ?_
  simp -dsimp -implicitDefEqProofs only [vtV,← hW,a0,a1,a2,a3,a4,m179,sF179,ZA,↓reduceIte,ZB,ZC,ZJ,ZK,ZE,ZF,ZG,ZH,ZI,reduceCtorEq,ZD,mwV,↓mwD,mwU]
  clear hW
  refine (bare_c v _ _ false false false false W (hv.ext x0)).use ?_
  rintro r w' ⟨hx, b, rfl, hb⟩
  simp -dsimp -implicitDefEqProofs only [m179,sF179,ZA,↓reduceIte,ZB,ZC,ZJ,ZK,ZE,ZF,ZG,ZH,ZI,reduceCtorEq,ZD,mwV,↓mwD,mwU]
  exact .mk' (x0.trans hx) hb
theorem form3_c (v : Vt) (s1 s2 : Value) (w : World) (hv : VAt w v s1 s2) : Rets ZP 182 #[vtV v s1 s2] w (YesQ (Bare v true false false false) w) := by
  obtain ⟨q1, c1, rfl, _, _⟩ := hv.ks.shape
  obtain ⟨q2, c2, rfl, _, _⟩ := hv.vs.shape
  obtain ⟨W, hW, A, x0⟩ := new_vt w v (.slice q1 v.keys.length c1) (.slice q2 v.kids.length c2)
  obtain ⟨a0, a1, a2, a3, a4⟩ := bk_vt A (Ext.refl W)
  refine en182 ?_
  simp -dsimp -implicitDefEqProofs only [vtV,← hW,a0,a1,a2,a3,a4,m182,sF182,ZA,↓reduceIte,ZB,ZC,ZJ,ZK,ZE,ZF,ZG,ZH,ZI,reduceCtorEq,ZD,mwV,↓mwD,mwU]
  clear hW
  refine (bare_c v _ _ true false false false W (hv.ext x0)).use ?_
  rintro r w' ⟨hx, b, rfl, hb⟩
  simp -dsimp -implicitDefEqProofs only [m182,sF182,ZA,↓reduceIte,ZB,ZC,ZJ,ZK,ZE,ZF,ZG,ZH,ZI,reduceCtorEq,ZD,mwV,↓mwD,mwU]
  exact .mk' (x0.trans hx) hb
theorem form5_c (v : Vt) (s1 s2 : Value) (w : World) (hv : VAt w v s1 s2) : Rets ZP 185 #[vtV v s1 s2] w (YesQ (Bare v false true false false) w) := by
  obtain ⟨q1, c1, rfl, _, _⟩ := hv.ks.shape
  obtain ⟨q2, c2, rfl, _, _⟩ := hv.vs.shape
  obtain ⟨W, hW, A, x0⟩ := new_vt w v (.slice q1 v.keys.length c1) (.slice q2 v.kids.length c2)
  obtain ⟨a0, a1, a2, a3, a4⟩ := bk_vt A (Ext.refl W)
  refine en185 ?_
  simp -dsimp -implicitDefEqProofs only [vtV,← hW,a0,a1,a2,a3,a4,m185,sF185,ZA,↓reduceIte,ZB,ZC,ZJ,ZK,ZE,ZF,ZG,ZH,ZI,reduceCtorEq,ZD,mwV,↓mwD,mwU]
  clear hW
  refine (bare_c v _ _ false true false false W (hv.ext x0)).use ?_
  rintro r w' ⟨hx, b, rfl, hb⟩
  simp -dsimp -implicitDefEqProofs only [m185,sF185,ZA,↓reduceIte,ZB,ZC,ZJ,ZK,ZE,ZF,ZG,ZH,ZI,reduceCtorEq,ZD,mwV,↓mwD,mwU]
  exact .mk' (x0.trans hx) hb
theorem form7_c (v : Vt) (s1 s2 : Value) (w : World) (hv : VAt w v s1 s2) : Rets ZP 190 #[vtV v s1 s2] w (YesQ (Bare v false false false true) w) := by
  obtain ⟨q1, c1, rfl, _, _⟩ := hv.ks.shape
  obtain ⟨q2, c2, rfl, _, _⟩ := hv.vs.shape
  obtain ⟨W, hW, A, x0⟩ := new_vt w v (.slice q1 v.keys.length c1) (.slice q2 v.kids.length c2)
  obtain ⟨a0, a1, a2, a3, a4⟩ := bk_vt A (Ext.refl W)
  refine en190 ?_
  simp -dsimp -implicitDefEqProofs only [vtV,← hW,a0,a1,a2,a3,a4,m190,sF190,ZA,↓reduceIte,ZB,ZC,ZJ,ZK,ZE,ZF,ZG,ZH,ZI,reduceCtorEq,ZD,mwV,↓mwD,mwU]
  clear hW
  refine (bare_c v _ _ false false false true W (hv.ext x0)).use ?_
  rintro r w' ⟨hx, b, rfl, hb⟩
  simp -dsimp -implicitDefEqProofs only [m190,sF190,ZA,↓reduceIte,ZB,ZC,ZJ,ZK,ZE,ZF,ZG,ZH,ZI,reduceCtorEq,ZD,mwV,↓mwD,mwU]
  exact .mk' (x0.trans hx) hb
theorem form2_c (v : Vt) (s1 s2 : Value) (w : World) (hv : VAt w v s1 s2) : Rets ZP 181 #[vtV v s1 s2] w (YesQ ((v.n = 0 ∨ v.n = 1) ∧ Bare v true false false false) w) := by
  obtain ⟨q1, c1, rfl, hd1, hd2⟩ := hv.ks.shape
  obtain ⟨q2, c2, rfl, hc1, hc2⟩ := hv.vs.shape
  obtain ⟨W, hW, A, x0⟩ := new_vt w v (.slice q1 v.keys.length c1) (.slice q2 v.kids.length c2)
  refine en181 ?_
  refine mwpB_cut 1 (fun e ds w' => e 1 = .pointer (some ⟨w.heap.size, 0, none⟩) ∧ ds = [] ∧ w' = W) ?_ ?_
  · simp -dsimp -implicitDefEqProofs only [headM_zero,headM_seq,vtV,hW,m181,sF181,ZA,↓reduceIte,ZB,ZC,ZJ,ZK,ZE,ZF,ZG,ZH,ZI,reduceCtorEq,ZD,mwV,↓mwD,mwU]
  clear hW
  rintro e ds w0 ⟨h1, rfl, rfl⟩
  obtain ⟨a0, a1, a2, a3, a4⟩ := bk_vt A (Ext.refl w0)
  by_cases n0 : v.n = 0
  · have d0 : decide (v.n = 0) = true := by simpa using n0
    simp -dsimp -implicitDefEqProofs only [tailM_zero,tailM_seq,h1,a0,a1,a2,a3,a4,binV_eqS,d0,m181,sF181,ZA,↓reduceIte,ZB,ZC,ZJ,ZK,ZE,ZF,ZG,ZH,ZI,reduceCtorEq,ZD,mwV,↓mwD,mwU]
    refine (bare_c v _ _ true false false false w0 (hv.ext x0)).use ?_
    rintro r w' ⟨hx, b, rfl, hb⟩
    simp -dsimp -implicitDefEqProofs only [m181,sF181,ZA,↓reduceIte,ZB,ZC,ZJ,ZK,ZE,ZF,ZG,ZH,ZI,reduceCtorEq,ZD,mwV,↓mwD,mwU]
    exact .mk' (x0.trans hx) (by simp [hb, n0])
  by_cases n1 : v.n = 1
  · have d0 : decide (v.n = 0) = false := by simpa using n0
    have d1 : decide (v.n = 1) = true := by simpa using n1
    simp -dsimp -implicitDefEqProofs only [tailM_zero,tailM_seq,h1,a0,a1,a2,a3,a4,binV_eqS,d0,d1,m181,sF181,ZA,↓reduceIte,ZB,ZC,ZJ,ZK,ZE,ZF,ZG,ZH,ZI,reduceCtorEq,ZD,mwV,↓mwD,mwU]
    refine (bare_c v _ _ true false false false w0 (hv.ext x0)).use ?_
    rintro r w' ⟨hx, b, rfl, hb⟩
    simp -dsimp -implicitDefEqProofs only [m181,sF181,ZA,↓reduceIte,ZB,ZC,ZJ,ZK,ZE,ZF,ZG,ZH,ZI,reduceCtorEq,ZD,mwV,↓mwD,mwU]
    exact .mk' (x0.trans hx) (by simp [hb, n0, n1])
  simp -dsimp -implicitDefEqProofs only [tailM_zero,tailM_seq,h1,a0,a1,a2,a3,a4,binV_eqS,n0,n1,m181,sF181,ZA,↓reduceIte,ZB,ZC,ZJ,ZK,ZE,ZF,ZG,ZH,ZI,reduceCtorEq,ZD,mwV,↓mwD,mwU]
  exact .no x0 (by simp [n0, n1])
theorem form4_c (v : Vt) (s1 s2 : Value) (w : World) (hv : VAt w v s1 s2) : Rets ZP 183 #[vtV v s1 s2] w (YesQ (0 ∉ v.s.data.toList ∧ Bare v false true false false) w) := by
  obtain ⟨q1, c1, rfl, hd1, hd2⟩ := hv.ks.shape
  obtain ⟨q2, c2, rfl, hc1, hc2⟩ := hv.vs.shape
  obtain ⟨W, hW, A, x0⟩ := new_vt w v (.slice q1 v.keys.length c1) (.slice q2 v.kids.length c2)
  refine en183 ?_
  refine mwpB_cut 1 (fun e ds w' => e 1 = .pointer (some ⟨w.heap.size, 0, none⟩) ∧ ds = [] ∧ w' = W) ?_ ?_
  · simp -dsimp -implicitDefEqProofs only [headM_zero,headM_seq,vtV,hW,m183,sF183,ZA,↓reduceIte,ZB,ZC,ZJ,ZK,ZE,ZF,ZG,ZH,ZI,reduceCtorEq,ZD,mwV,↓mwD,mwU]
  clear hW
  rintro e ds w0 ⟨h1, rfl, rfl⟩
  obtain ⟨a0, a1, a2, a3, a4⟩ := bk_vt A (Ext.refl w0)
  obtain ⟨hn, b1, cap, w1, hrun, hx1, hsl⟩ := bytes_new w0 v.s hv.text.1
  simp -dsimp -implicitDefEqProofs only [tailM_zero,tailM_seq,h1,a0,a1,a2,a3,a4,binV_eqS,m183,sF183,ZA,↓reduceIte,ZB,ZC,ZJ,ZK,ZE,ZF,ZG,ZH,ZI,reduceCtorEq,ZD,mwV,↓mwD,mwU]
  refine convB_run hn (by simp -dsimp -implicitDefEqProofs only [m183,sF183,ZA,↓reduceIte,ZB,ZC,ZJ,ZK,ZE,ZF,ZG,ZH,ZI,reduceCtorEq,ZD,mwV,↓mwD,mwU]) hrun ?_
  refine (ContainsB_c _ _ w1 hsl).use ?_
  rintro r w2 ⟨⟨b, rfl, hb⟩, rfl⟩
  cases b
  · obtain ⟨a0, a1, a2, a3, a4⟩ := bk_vt A hx1
    simp -dsimp -implicitDefEqProofs only [h1,a0,a1,a2,a3,a4,m183,sF183,ZA,↓reduceIte,ZB,ZC,ZJ,ZK,ZE,ZF,ZG,ZH,ZI,reduceCtorEq,ZD,mwV,↓mwD,mwU]
    refine (bare_c v _ _ false true false false _ (hv.ext (x0.trans hx1))).use ?_
    rintro r w' ⟨hx, b, rfl, hb2⟩
    simp -dsimp -implicitDefEqProofs only [m183,sF183,ZA,↓reduceIte,ZB,ZC,ZJ,ZK,ZE,ZF,ZG,ZH,ZI,reduceCtorEq,ZD,mwV,↓mwD,mwU]
    exact .mk' (x0.trans (hx1.trans hx)) (by simp at hb; simp [hb, hb2])
  · simp -dsimp -implicitDefEqProofs only [h1,m183,sF183,ZA,↓reduceIte,ZB,ZC,ZJ,ZK,ZE,ZF,ZG,ZH,ZI,reduceCtorEq,ZD,mwV,↓mwD,mwU]
    exact .no (x0.trans hx1) (by simp at hb; simp [hb])
end Go.Proofs.YthcdnjbhhaonhaaGreatDoor

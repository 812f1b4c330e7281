/- Layer 01: which values are shaped, by the reference. -/
import Derived.Test.YthcdnjbhhaonhaaGreatDoorQvVaIToVaK

namespace Go.Proofs.YthcdnjbhhaonhaaGreatDoor
open Go.RowKit
open Nat renaming reduceEqDiff → ZA, reduceAdd → ZB, reduceMul → ZC, reduceSub → ZD
open Int renaming reduceToNat → ZE, reduceEq → ZF, reduceLT → ZG, reduceLE → ZH, reduceNeg → ZI
open Go.Value renaming oneCell' → ZK, cells → ZJ
open Go.Proofs.Tryz renaming prog → ZP
set_option linter.unusedSimpArgs false
theorem whole_choice {v : Vt} (hall : ∀ x ∈ v.kids, AllV x) : (∀ x ∈ v.kids, x.k = 3) ↔ ∀ x, x ∈ v.kids → x.k = 3 ∧ Bare x true false false false :=
  ⟨fun h x hx => ⟨h x hx, (formed_3 (h x hx)).1 (hall x hx).form⟩, fun h x hx => (h x hx).1⟩
set_option maxHeartbeats 4000000 in
theorem whole_c (v : Vt) (s1 s2 : Value) (w : World) (hv : VAt w v s1 s2) (hk1 : 6 ≤ v.k) (hk2 : v.k ≤ 10) (hall : ∀ x ∈ v.kids, AllV x) : Rets ZP 144 #[vtV v s1 s2] w (YesQ (Formed v) w) := by
  obtain ⟨q1, c1, rfl, hd1, hd2⟩ := hv.ks.shape
  obtain ⟨q2, c2, rfl, hc1, hc2⟩ := hv.vs.shape
  obtain ⟨W, hW, A, x0⟩ := new_vt w v (.slice q1 v.keys.length c1) (.slice q2 v.kids.length c2)
  refine en144 ?_
  refine mwpB_cut 1 (fun e ds w' => e 1 = .pointer (some ⟨w.heap.size, 0, none⟩) ∧ ds = [] ∧ w' = W) ?_ ?_
  · simp -dsimp -implicitDefEqProofs only [headM_zero,headM_seq,vtV,hW,m144,sF144,ZA,↓reduceIte,ZB,ZC,ZJ,ZK,ZE,ZF,ZG,ZH,ZI,reduceCtorEq,ZD,mwV,↓mwD,mwU]
  clear hW
  rintro e ds w0 ⟨h1, rfl, rfl⟩
  obtain ⟨a0, a1, a2, a3, a4⟩ := bk_vt A (Ext.refl w0)
  by_cases n6 : v.k = 6
  · have d6 : decide (v.k = 6) = true := by simpa using n6
    rw [formed_6 n6]
    simp -dsimp -implicitDefEqProofs only [tailM_zero,tailM_seq,h1,a0,d6,m144,sF144,ZA,↓reduceIte,ZB,ZC,ZJ,ZK,ZE,ZF,ZG,ZH,ZI,reduceCtorEq,ZD,mwV,↓mwD,mwU]
    refine mwpB_loop (fun e ds w' => ∃ (i : Nat), i ≤ v.kids.length ∧ e 3 = .int .i64 i ∧ e 1 = .pointer (some ⟨w.heap.size, 0, none⟩) ∧ ds = [] ∧ w' = w0 ∧ ∀ x, x ∈ v.kids.take i → (x.k = 2 ∨ x.k = 3 ∨ x.k = 4) ∧ x.k = (v.kids.head?.map Vt.k).getD 0)
      (fun e _ => v.kids.length - (intOf (e 3)).toNat) ?_ ?_
    · simp -dsimp -implicitDefEqProofs only [h1,m144,sF144,ZA,↓reduceIte,ZB,ZC,ZJ,ZK,ZE,ZF,ZG,ZH,ZI,reduceCtorEq,ZD,mwV,↓mwD,mwU]
      exact ⟨0, by omega, rfl, fun x hx => by simp at hx⟩
    · clear h1
      rintro e ds w0 ⟨i, hi, h3, h1, rfl, rfl, hp⟩
      simp -dsimp -implicitDefEqProofs only [h3,h1,a4,m144,sF144,ZA,↓reduceIte,ZB,ZC,ZJ,ZK,ZE,ZF,ZG,ZH,ZI,reduceCtorEq,ZD,mwV,↓mwD,mwU]
      refine iteW_dec (fun hlt => ?_) (fun hge => ?_)
      · have hlt' : i < v.kids.length := by omega
        have hl : 0 < v.kids.length := by omega
        have hb1 : (0 : Int) ≤ i ∧ (i : Int) < v.kids.length := by omega
        have hb0 : (0 : Int) ≤ 0 ∧ (0 : Int) < v.kids.length := by omega
        have hs1 := w64_succ hlt' (Nat.le_trans hc1 hc2)
        obtain ⟨b, o, t1, m1, d1, t2, d2, hq, k0, _⟩ := (hv.vs.ext x0).get hlt'
        obtain ⟨b', o', t1', m1', d1', t2', d2', hq', g0, _⟩ := (hv.vs.ext x0).get hl
        rw [hq] at hq'
        cases hq'
        subst hq
        simp only [Nat.mul_zero,Nat.add_zero] at g0
        have hh : (v.kids.head?.map Vt.k).getD 0 = v.kids[0].k := by rw [List.head?_eq_getElem?, List.getElem?_eq_getElem hl]; rfl
        have nx : (v.kids[i].k = 2 ∨ v.kids[i].k = 3 ∨ v.kids[i].k = 4) ∧ v.kids[i].k = v.kids[0].k → ∀ x, x ∈ v.kids.take (i + 1) → (x.k = 2 ∨ x.k = 3 ∨ x.k = 4) ∧ x.k = (v.kids.head?.map Vt.k).getD 0 := fun h x hm => by
          rw [List.take_succ_eq_append_getElem hlt', List.mem_append, List.mem_singleton] at hm
          rcases hm with hm | rfl
          · exact hp x hm
          · rw [hh]; exact h
        have out : ¬((v.kids[i].k = 2 ∨ v.kids[i].k = 3 ∨ v.kids[i].k = 4) ∧ v.kids[i].k = v.kids[0].k) → ¬(Bare v false false false true ∧ ListOk v.kids) := fun h h' => h (by have := h'.2 _ (List.getElem_mem hlt'); rw [hh] at this; exact this)
        generalize v.kids[i].k = y at *
        generalize v.kids[0].k = z at *
        by_cases p1 : y = z
        rotate_left
        · simp -dsimp -implicitDefEqProofs only [h3,h1,a4,hb1,hb0,and_self,Nat.mul_comm i 5,k0,g0,Nat.mul_zero,Nat.zero_mul,Nat.add_zero,Int.toNat_zero,p1,m144,sF144,ZA,↓reduceIte,ZB,ZC,ZJ,ZK,ZE,ZF,ZG,ZH,ZI,reduceCtorEq,ZD,mwV,↓mwD,mwU]
          exact .no x0 (out (fun h => p1 h.2))
        subst p1
        by_cases p2 : y = 2
        · have d2 : decide (y = 2) = true := by simpa using p2
          simp -dsimp -implicitDefEqProofs only [h3,h1,a4,hb1,hb0,and_self,Nat.mul_comm i 5,k0,g0,Nat.mul_zero,Nat.zero_mul,Nat.add_zero,Int.toNat_zero,d2,hs1,m144,sF144,ZA,↓reduceIte,ZB,ZC,ZJ,ZK,ZE,ZF,ZG,ZH,ZI,reduceCtorEq,ZD,mwV,↓mwD,mwU]
          exact ⟨⟨i + 1, by omega, rfl, nx ⟨by omega, rfl⟩⟩, by simp only [intOf,h3]; omega⟩
        by_cases p3 : y = 3
        · have d2 : decide (y = 2) = false := by simpa using p2
          have d3 : decide (y = 3) = true := by simpa using p3
          simp -dsimp -implicitDefEqProofs only [h3,h1,a4,hb1,hb0,and_self,Nat.mul_comm i 5,k0,g0,Nat.mul_zero,Nat.zero_mul,Nat.add_zero,Int.toNat_zero,d2,d3,hs1,m144,sF144,ZA,↓reduceIte,ZB,ZC,ZJ,ZK,ZE,ZF,ZG,ZH,ZI,reduceCtorEq,ZD,mwV,↓mwD,mwU]
          exact ⟨⟨i + 1, by omega, rfl, nx ⟨by omega, rfl⟩⟩, by simp only [intOf,h3]; omega⟩
        by_cases p4 : y = 4
        · have d2 : decide (y = 2) = false := by simpa using p2
          have d3 : decide (y = 3) = false := by simpa using p3
          have d4 : decide (y = 4) = true := by simpa using p4
          simp -dsimp -implicitDefEqProofs only [h3,h1,a4,hb1,hb0,and_self,Nat.mul_comm i 5,k0,g0,Nat.mul_zero,Nat.zero_mul,Nat.add_zero,Int.toNat_zero,d2,d3,d4,hs1,m144,sF144,ZA,↓reduceIte,ZB,ZC,ZJ,ZK,ZE,ZF,ZG,ZH,ZI,reduceCtorEq,ZD,mwV,↓mwD,mwU]
          exact ⟨⟨i + 1, by omega, rfl, nx ⟨by omega, rfl⟩⟩, by simp only [intOf,h3]; omega⟩
        simp -dsimp -implicitDefEqProofs only [h3,h1,a4,hb1,hb0,and_self,Nat.mul_comm i 5,k0,g0,Nat.mul_zero,Nat.zero_mul,Nat.add_zero,Int.toNat_zero,p2,p3,p4,m144,sF144,ZA,↓reduceIte,ZB,ZC,ZJ,ZK,ZE,ZF,ZG,ZH,ZI,reduceCtorEq,ZD,mwV,↓mwD,mwU]
        exact .no x0 (out (fun h => by omega))
      · have hkl : i = v.kids.length := by omega
        rw [hkl, List.take_length] at hp
        simp -dsimp -implicitDefEqProofs only [h3,h1,a0,a1,a2,a3,a4,m144,sF144,ZA,↓reduceIte,ZB,ZC,ZJ,ZK,ZE,ZF,ZG,ZH,ZI,reduceCtorEq,ZD,mwV,↓mwD,mwU]
        refine (rbare_c v _ _ false false false true w0 (hv.ext x0)).use ?_
        rintro r w' ⟨hx, b, rfl, hb⟩
        simp -dsimp -implicitDefEqProofs only [m144,sF144,ZA,↓reduceIte,ZB,ZC,ZJ,ZK,ZE,ZF,ZG,ZH,ZI,reduceCtorEq,ZD,mwV,↓mwD,mwU]
        exact .mk' (x0.trans hx) (hb.trans ⟨fun h => ⟨h, hp⟩, fun h => h.1⟩)
  have d6 : decide (v.k = 6) = false := by simpa using n6
  by_cases n7 : v.k = 7
  · have d7 : decide (v.k = 7) = true := by simpa using n7
    rw [formed_7 n7]
    simp -dsimp -implicitDefEqProofs only [tailM_zero,tailM_seq,h1,a0,a1,a2,a3,a4,d6,d7,m144,sF144,ZA,↓reduceIte,ZB,ZC,ZJ,ZK,ZE,ZF,ZG,ZH,ZI,reduceCtorEq,ZD,mwV,↓mwD,mwU]
    refine (rbare_c v _ _ false false false true w0 (hv.ext x0)).use ?_
    rintro r w' ⟨hx, b, rfl, hb⟩
    simp -dsimp -implicitDefEqProofs only [m144,sF144,ZA,↓reduceIte,ZB,ZC,ZJ,ZK,ZE,ZF,ZG,ZH,ZI,reduceCtorEq,ZD,mwV,↓mwD,mwU]
    exact .mk' (x0.trans hx) hb
  have d7 : decide (v.k = 7) = false := by simpa using n7
  by_cases n8 : v.k = 8
  · have d8 : decide (v.k = 8) = true := by simpa using n8
    rw [formed_8 n8]
    simp -dsimp -implicitDefEqProofs only [tailM_zero,tailM_seq,h1,a0,a1,a2,a3,a4,d6,d7,d8,m144,sF144,ZA,↓reduceIte,ZB,ZC,ZJ,ZK,ZE,ZF,ZG,ZH,ZI,reduceCtorEq,ZD,mwV,↓mwD,mwU]
    refine (rbare_c v _ _ true false true true w0 (hv.ext x0)).use ?_
    rintro r w' ⟨hx, b, rfl, hb⟩
    have hb2 : b = true ↔ v.s = ⟨#[]⟩ := hb.trans (by unfold Bare; simp)
    cases b
    · simp -dsimp -implicitDefEqProofs only [m144,sF144,ZA,↓reduceIte,ZB,ZC,ZJ,ZK,ZE,ZF,ZG,ZH,ZI,reduceCtorEq,ZD,mwV,↓mwD,mwU]
      exact .no (x0.trans hx) (fun h => by have := hb2.2 h.1.1; cases this)
    have hs0 := hb2.1 rfl
    obtain ⟨a0, a1, a2, a3, a4⟩ := bk_vt A hx
    by_cases p1 : 0 ≤ v.n
    rotate_left
    · have e1 := decide_eq_false p1
      simp -dsimp -implicitDefEqProofs only [h1,a1,e1,m144,sF144,ZA,↓reduceIte,ZB,ZC,ZJ,ZK,ZE,ZF,ZG,ZH,ZI,reduceCtorEq,ZD,mwV,↓mwD,mwU]
      exact .no (x0.trans hx) (fun h => p1 h.1.2.1)
    by_cases p2 : v.n ≤ 2147483647
    rotate_left
    · have e1 := decide_eq_true p1
      have e2 := decide_eq_false p2
      simp -dsimp -implicitDefEqProofs only [h1,a1,e1,e2,m144,sF144,ZA,↓reduceIte,ZB,ZC,ZJ,ZK,ZE,ZF,ZG,ZH,ZI,reduceCtorEq,ZD,mwV,↓mwD,mwU]
      exact .no (x0.trans hx) (fun h => p2 h.1.2.2.1)
    by_cases p3 : (v.keys.length : Int) = v.kids.length
    rotate_left
    · have e1 := decide_eq_true p1
      have e2 := decide_eq_true p2
      have e3 := decide_eq_false p3
      simp -dsimp -implicitDefEqProofs only [h1,a1,a3,a4,e1,e2,e3,m144,sF144,ZA,↓reduceIte,ZB,ZC,ZJ,ZK,ZE,ZF,ZG,ZH,ZI,reduceCtorEq,ZD,mwV,↓mwD,mwU]
      exact .no (x0.trans hx) (fun h => p3 (by have := h.1.2.2.2; omega))
    have d3 : decide ((v.keys.length : Int) = v.kids.length) = true := by simpa using p3
    have e1 := decide_eq_true p1
    have e2 := decide_eq_true p2
    simp -dsimp -implicitDefEqProofs only [h1,a1,a3,a4,e1,e2,d3,m144,sF144,ZA,↓reduceIte,ZB,ZC,ZJ,ZK,ZE,ZF,ZG,ZH,ZI,reduceCtorEq,ZD,mwV,↓mwD,mwU]
    refine (keysR_c _ v.keys 2147483647 true w' (hv.ks.ext (x0.trans hx))).use ?_
    rintro r w2 ⟨hx2, b, rfl, hb3⟩
    simp -dsimp -implicitDefEqProofs only [m144,sF144,ZA,↓reduceIte,ZB,ZC,ZJ,ZK,ZE,ZF,ZG,ZH,ZI,reduceCtorEq,ZD,mwV,↓mwD,mwU]
    exact .mk' (x0.trans (hx.trans hx2)) (hb3.trans ⟨fun h => ⟨⟨hs0, p1, p2, by omega⟩, h⟩, fun h => h.2⟩)
  have d8 : decide (v.k = 8) = false := by simpa using n8
  by_cases n9 : v.k = 9
  · have d9 : decide (v.k = 9) = true := by simpa using n9
    rw [formed_9 n9, whole_choice hall]
    simp -dsimp -implicitDefEqProofs only [tailM_zero,tailM_seq,h1,a0,a1,a2,a3,a4,d6,d7,d8,d9,m144,sF144,ZA,↓reduceIte,ZB,ZC,ZJ,ZK,ZE,ZF,ZG,ZH,ZI,reduceCtorEq,ZD,mwV,↓mwD,mwU]
    refine (rbare_c v _ _ true false false true w0 (hv.ext x0)).use ?_
    rintro r w' ⟨hx, b, rfl, hb⟩
    cases b
    · simp -dsimp -implicitDefEqProofs only [m144,sF144,ZA,↓reduceIte,ZB,ZC,ZJ,ZK,ZE,ZF,ZG,ZH,ZI,reduceCtorEq,ZD,mwV,↓mwD,mwU]
      exact .no (x0.trans hx) (fun h => by have := hb.2 h.1; cases this)
    obtain ⟨a0, a1, a2, a3, a4⟩ := bk_vt A hx
    simp -dsimp -implicitDefEqProofs only [h1,a1,a4,m144,sF144,ZA,↓reduceIte,ZB,ZC,ZJ,ZK,ZE,ZF,ZG,ZH,ZI,reduceCtorEq,ZD,mwV,↓mwD,mwU]
    refine (numbersR_c v.n _ v.kids w' (hv.vs.ext (x0.trans hx))).use ?_
    rintro r w2 ⟨hx2, b, rfl, hb3⟩
    simp -dsimp -implicitDefEqProofs only [m144,sF144,ZA,↓reduceIte,ZB,ZC,ZJ,ZK,ZE,ZF,ZG,ZH,ZI,reduceCtorEq,ZD,mwV,↓mwD,mwU]
    exact .mk' (x0.trans (hx.trans hx2)) (hb3.trans ⟨fun h => ⟨hb.1 rfl, h⟩, fun h => h.2⟩)
  have d9 : decide (v.k = 9) = false := by simpa using n9
  have n10 : v.k = 10 := by omega
  have d10 : decide (v.k = 10) = true := by simpa using n10
  rw [formed_10 n10]
  simp -dsimp -implicitDefEqProofs only [tailM_zero,tailM_seq,h1,a0,d6,d7,d8,d9,d10,m144,sF144,ZA,↓reduceIte,ZB,ZC,ZJ,ZK,ZE,ZF,ZG,ZH,ZI,reduceCtorEq,ZD,mwV,↓mwD,mwU]
  refine mwpB_loop (fun e ds w' => ∃ (i : Nat), i ≤ v.kids.length ∧ e 5 = .int .i64 i ∧ e 1 = .pointer (some ⟨w.heap.size, 0, none⟩) ∧ ds = [] ∧ w' = w0 ∧ ∀ x, x ∈ v.kids.take i → x.k ≠ 10)
    (fun e _ => v.kids.length - (intOf (e 5)).toNat) ?_ ?_
  · simp -dsimp -implicitDefEqProofs only [h1,m144,sF144,ZA,↓reduceIte,ZB,ZC,ZJ,ZK,ZE,ZF,ZG,ZH,ZI,reduceCtorEq,ZD,mwV,↓mwD,mwU]
    exact ⟨0, by omega, rfl, fun x hx => by simp at hx⟩
  · clear h1
    rintro e ds w0 ⟨i, hi, h5, h1, rfl, rfl, hp⟩
    simp -dsimp -implicitDefEqProofs only [h5,h1,a4,m144,sF144,ZA,↓reduceIte,ZB,ZC,ZJ,ZK,ZE,ZF,ZG,ZH,ZI,reduceCtorEq,ZD,mwV,↓mwD,mwU]
    refine iteW_dec (fun hlt => ?_) (fun hge => ?_)
    · have hlt' : i < v.kids.length := by omega
      have hb1 : (0 : Int) ≤ i ∧ (i : Int) < v.kids.length := by omega
      have hs1 := w64_succ hlt' (Nat.le_trans hc1 hc2)
      obtain ⟨b, o, t1, m1, d1, t2, d2, rfl, k0, _⟩ := (hv.vs.ext x0).get hlt'
      by_cases p1 : v.kids[i].k = 10
      · simp -dsimp -implicitDefEqProofs only [h5,h1,a4,hb1,and_self,Nat.mul_comm i 5,k0,p1,m144,sF144,ZA,↓reduceIte,ZB,ZC,ZJ,ZK,ZE,ZF,ZG,ZH,ZI,reduceCtorEq,ZD,mwV,↓mwD,mwU]
        exact .no x0 (fun h => h.2.2 _ (List.getElem_mem hlt') p1)
      · simp -dsimp -implicitDefEqProofs only [h5,h1,a4,hb1,and_self,Nat.mul_comm i 5,k0,p1,hs1,m144,sF144,ZA,↓reduceIte,ZB,ZC,ZJ,ZK,ZE,ZF,ZG,ZH,ZI,reduceCtorEq,ZD,mwV,↓mwD,mwU]
        refine ⟨⟨i + 1, by omega, rfl, fun x hm => ?_⟩, by simp only [intOf,h5]; omega⟩
        rw [List.take_succ_eq_append_getElem hlt', List.mem_append, List.mem_singleton] at hm
        rcases hm with hm | rfl
        · exact hp x hm
        · exact p1
    · have hkl : i = v.kids.length := by omega
      rw [hkl, List.take_length] at hp
      simp -dsimp -implicitDefEqProofs only [h5,h1,a0,a1,a2,a3,a4,m144,sF144,ZA,↓reduceIte,ZB,ZC,ZJ,ZK,ZE,ZF,ZG,ZH,ZI,reduceCtorEq,ZD,mwV,↓mwD,mwU]
      refine (rbare_c v _ _ false false true true w0 (hv.ext x0)).use ?_
      rintro r w' ⟨hx, b, rfl, hb⟩
      have hb2 : b = true ↔ v.n = 0 ∧ v.s = ⟨#[]⟩ := hb.trans (by unfold Bare; simp)
      cases b
      · simp -dsimp -implicitDefEqProofs only [m144,sF144,ZA,↓reduceIte,ZB,ZC,ZJ,ZK,ZE,ZF,ZG,ZH,ZI,reduceCtorEq,ZD,mwV,↓mwD,mwU]
        exact .no (x0.trans hx) (fun h => by have := hb2.2 ⟨h.1.2.1, h.1.1⟩; cases this)
      obtain ⟨hn0, hs0⟩ := hb2.1 rfl
      obtain ⟨a0, a1, a2, a3, a4⟩ := bk_vt A hx
      by_cases p3 : (v.keys.length : Int) = v.kids.length
      rotate_left
      · simp -dsimp -implicitDefEqProofs only [h1,a3,a4,p3,m144,sF144,ZA,↓reduceIte,ZB,ZC,ZJ,ZK,ZE,ZF,ZG,ZH,ZI,reduceCtorEq,ZD,mwV,↓mwD,mwU]
        exact .no (x0.trans hx) (fun h => p3 (by have := h.1.2.2; omega))
      have d3 : decide ((v.keys.length : Int) = v.kids.length) = true := by simpa using p3
      simp -dsimp -implicitDefEqProofs only [h1,a3,a4,d3,m144,sF144,ZA,↓reduceIte,ZB,ZC,ZJ,ZK,ZE,ZF,ZG,ZH,ZI,reduceCtorEq,ZD,mwV,↓mwD,mwU]
      refine (keysR_c _ v.keys 1000000000 false w' (hv.ks.ext (x0.trans hx))).use ?_
      rintro r w2 ⟨hx2, b, rfl, hb3⟩
      simp -dsimp -implicitDefEqProofs only [m144,sF144,ZA,↓reduceIte,ZB,ZC,ZJ,ZK,ZE,ZF,ZG,ZH,ZI,reduceCtorEq,ZD,mwV,↓mwD,mwU]
      exact .mk' (x0.trans (hx.trans hx2)) (hb3.trans ⟨fun h => ⟨⟨hs0, hn0, by omega⟩, h, hp⟩, fun h => h.2.1⟩)
theorem text_get {s : ByteArray} {k : Nat} (h : k < s.data.toList.length) : s[k]? = some s.data.toList[k] := by
  show s.data[k]? = _
  simp
theorem allV_leaf {v : Vt} (h : v.kids.length = 0) : AllV v ↔ Formed v := by
  have : v.kids = [] := List.eq_nil_of_length_eq_zero h
  rw [allV_iff, this]
  exact ⟨fun h => h.1, fun h => ⟨h, fun x hx => by cases hx⟩⟩
theorem allV_bare {v : Vt} {n s ks : Bool} {p : Prop} (h : Formed v ↔ p) (hp : p → Bare v n s ks false) : AllV v ↔ p := by
  constructor
  · exact fun ha => h.1 ha.form
  · intro hp'
    have hb := (hp hp').2.2.2
    have : v.kids.length = 0 := by simpa using hb
    exact (allV_leaf this).2 (h.2 hp')
theorem shapedKids_of {v : Vt} {s1 s2 : Value} {w : World} (hv : VAt w v s1 s2) (ih : ∀ x ∈ v.kids, ∀ (s1 s2 : Value) (w : World), VAt w x s1 s2 → Rets ZP 117 #[vtV x s1 s2] w (YesQ (AllV x) w)) :
    Rets ZP 143 #[vtV v s1 s2] w (YesQ (∀ x ∈ v.kids, AllV x) w) := by
  obtain ⟨q1, c1, rfl, hd1, hd2⟩ := hv.ks.shape
  obtain ⟨q2, c2, rfl, hc1, hc2⟩ := hv.vs.shape
  obtain ⟨W, hW, A, x0⟩ := new_vt w v (.slice q1 v.keys.length c1) (.slice q2 v.kids.length c2)
  refine en143 ?_
  simp -dsimp -implicitDefEqProofs only [vtV,← hW,m143,sF143,ZA,↓reduceIte,ZB,ZC,ZJ,ZK,ZE,ZF,ZG,ZH,ZI,reduceCtorEq,ZD,mwV,↓mwD,mwU]
  clear hW
  refine mwpB_loop (fun e ds w' => ∃ (i : Nat), i ≤ v.kids.length ∧ e 3 = .int .i64 i ∧ e 1 = .pointer (some ⟨w.heap.size, 0, none⟩) ∧ ds = [] ∧ Ext W w' ∧ ∀ x, x ∈ v.kids.take i → AllV x)
    (fun e _ => v.kids.length - (intOf (e 3)).toNat) ?_ ?_
  · simp -dsimp -implicitDefEqProofs only [m143,sF143,ZA,↓reduceIte,ZB,ZC,ZJ,ZK,ZE,ZF,ZG,ZH,ZI,reduceCtorEq,ZD,mwV,↓mwD,mwU]
    exact ⟨0, by omega, rfl, Ext.refl _, fun x hx => by simp at hx⟩
  · rintro e ds w' ⟨i, hi, h3, h1, rfl, hx, hp⟩
    obtain ⟨a0, a1, a2, a3, a4⟩ := bk_vt A hx
    simp -dsimp -implicitDefEqProofs only [h3,h1,a4,m143,sF143,ZA,↓reduceIte,ZB,ZC,ZJ,ZK,ZE,ZF,ZG,ZH,ZI,reduceCtorEq,ZD,mwV,↓mwD,mwU]
    refine iteW_dec (fun hlt => ?_) (fun hge => ?_)
    · have hlt' : i < v.kids.length := by omega
      obtain ⟨b, o, t1, m1, d1, t2, d2, rfl, k0, k1, k2, k3, k4, hk, rfl⟩ := (hv.vs.ext (x0.trans hx)).get hlt'
      have hb1 : (0 : Int) ≤ i ∧ (i : Int) < v.kids.length := by omega
      have hs1 := w64_succ hlt' (Nat.le_trans hc1 hc2)
      simp -dsimp -implicitDefEqProofs only [h3,h1,a4,hb1,and_self,Nat.mul_comm i 5,k0,k1,k2,k3,k4,m143,sF143,ZA,↓reduceIte,ZB,ZC,ZJ,ZK,ZE,ZF,ZG,ZH,ZI,reduceCtorEq,ZD,mwV,↓mwD,mwU]
      refine (ih _ (List.getElem_mem hlt') _ _ w' hk).use ?_
      rintro r w2 ⟨hx2, y, rfl, hy⟩
      cases y
      · simp -dsimp -implicitDefEqProofs only [m143,sF143,ZA,↓reduceIte,ZB,ZC,ZJ,ZK,ZE,ZF,ZG,ZH,ZI,reduceCtorEq,ZD,mwV,↓mwD,mwU]
        exact .no (x0.trans (hx.trans hx2)) (fun h => by have := hy.2 (h _ (List.getElem_mem hlt')); cases this)
      · simp -dsimp -implicitDefEqProofs only [h3,h1,hs1,m143,sF143,ZA,↓reduceIte,ZB,ZC,ZJ,ZK,ZE,ZF,ZG,ZH,ZI,reduceCtorEq,ZD,mwV,↓mwD,mwU]
        refine ⟨⟨i + 1, by omega, rfl, hx.trans hx2, fun x hm => ?_⟩, by simp only [intOf,h3]; omega⟩
        rw [List.take_succ_eq_append_getElem hlt', List.mem_append, List.mem_singleton] at hm
        rcases hm with hm | rfl
        · exact hp x hm
        · exact hy.1 rfl
    · have hkl : i = v.kids.length := by omega
      rw [hkl, List.take_length] at hp
      simp -dsimp -implicitDefEqProofs only [h3,h1,m143,sF143,ZA,↓reduceIte,ZB,ZC,ZJ,ZK,ZE,ZF,ZG,ZH,ZI,reduceCtorEq,ZD,mwV,↓mwD,mwU]
      exact .yes (x0.trans hx) hp
set_option maxHeartbeats 4000000 in
theorem Shaped_c (v : Vt) : ∀ (s1 s2 : Value) (w : World), VAt w v s1 s2 → Rets ZP 117 #[vtV v s1 s2] w (YesQ (AllV v) w) := by
  induction v using Vt.ind with
  | h v ih =>
    intro s1 s2 w hv
    obtain ⟨q1, c1, rfl, hd1, hd2⟩ := hv.ks.shape
    obtain ⟨q2, c2, rfl, hc1, hc2⟩ := hv.vs.shape
    obtain ⟨W, hW, A, x0⟩ := new_vt w v (.slice q1 v.keys.length c1) (.slice q2 v.kids.length c2)
    refine en117 ?_
    refine mwpB_cut 1 (fun e ds w' => e 1 = .pointer (some ⟨w.heap.size, 0, none⟩) ∧ ds = [] ∧ w' = W) ?_ ?_
    · simp -dsimp -implicitDefEqProofs only [headM_zero,headM_seq,vtV,hW,m117,sF117,ZA,↓reduceIte,ZB,ZC,ZJ,ZK,ZE,ZF,ZG,ZH,ZI,reduceCtorEq,ZD,mwV,↓mwD,mwU]
    clear hW
    rintro e ds w0 ⟨h1, rfl, rfl⟩
    obtain ⟨a0, a1, a2, a3, a4⟩ := bk_vt A (Ext.refl w0)
    by_cases n1 : v.k = 1
    · have d1 : decide (v.k = 1) = true := by simpa using n1
      rw [allV_bare (formed_1 n1) id]
      simp -dsimp -implicitDefEqProofs only [tailM_zero,tailM_seq,h1,a0,a1,a2,a3,a4,d1,m117,sF117,ZA,↓reduceIte,ZB,ZC,ZJ,ZK,ZE,ZF,ZG,ZH,ZI,reduceCtorEq,ZD,mwV,↓mwD,mwU]
      refine (rbare_c v _ _ false false false false w0 (hv.ext x0)).use ?_
      rintro r w' ⟨hx, b, rfl, hb⟩
      simp -dsimp -implicitDefEqProofs only [m117,sF117,ZA,↓reduceIte,ZB,ZC,ZJ,ZK,ZE,ZF,ZG,ZH,ZI,reduceCtorEq,ZD,mwV,↓mwD,mwU]
      exact .mk' (x0.trans hx) hb
    have d1 : decide (v.k = 1) = false := by simpa using n1
    by_cases n2 : v.k = 2
    · have d2 : decide (v.k = 2) = true := by simpa using n2
      rw [allV_bare (formed_2 n2) (fun h => h.2)]
      simp -dsimp -implicitDefEqProofs only [tailM_zero,tailM_seq,h1,a0,a1,a2,a3,a4,d1,d2,m117,sF117,ZA,↓reduceIte,ZB,ZC,ZJ,ZK,ZE,ZF,ZG,ZH,ZI,reduceCtorEq,ZD,mwV,↓mwD,mwU]
      refine (rbare_c v _ _ true false false false w0 (hv.ext x0)).use ?_
      rintro r w' ⟨hx, b, rfl, hb⟩
      cases b
      · simp -dsimp -implicitDefEqProofs only [m117,sF117,ZA,↓reduceIte,ZB,ZC,ZJ,ZK,ZE,ZF,ZG,ZH,ZI,reduceCtorEq,ZD,mwV,↓mwD,mwU]
        exact .no (x0.trans hx) (fun h => by have := hb.2 h.2; cases this)
      obtain ⟨a0, a1, a2, a3, a4⟩ := bk_vt A hx
      have hbb := hb.1 rfl
      by_cases p0 : v.n = 0
      · have e0 := decide_eq_true p0
        simp -dsimp -implicitDefEqProofs only [h1,a1,e0,m117,sF117,ZA,↓reduceIte,ZB,ZC,ZJ,ZK,ZE,ZF,ZG,ZH,ZI,reduceCtorEq,ZD,mwV,↓mwD,mwU]
        exact .yes (x0.trans hx) ⟨.inl p0, hbb⟩
      by_cases p1 : v.n = 1
      · have e0 : decide (v.n = 0) = false := by simpa using p0
        have e1 : decide (v.n = 1) = true := by simpa using p1
        simp -dsimp -implicitDefEqProofs only [h1,a1,e0,e1,m117,sF117,ZA,↓reduceIte,ZB,ZC,ZJ,ZK,ZE,ZF,ZG,ZH,ZI,reduceCtorEq,ZD,mwV,↓mwD,mwU]
        exact .yes (x0.trans hx) ⟨.inr p1, hbb⟩
      have e0 := decide_eq_false p0
      have e1 := decide_eq_false p1
      simp -dsimp -implicitDefEqProofs only [h1,a1,e0,e1,m117,sF117,ZA,↓reduceIte,ZB,ZC,ZJ,ZK,ZE,ZF,ZG,ZH,ZI,reduceCtorEq,ZD,mwV,↓mwD,mwU]
      exact .no (x0.trans hx) (fun h => by omega)
    have d2 : decide (v.k = 2) = false := by simpa using n2
    by_cases n3 : v.k = 3
    · have d3 : decide (v.k = 3) = true := by simpa using n3
      rw [allV_bare (formed_3 n3) id]
      simp -dsimp -implicitDefEqProofs only [tailM_zero,tailM_seq,h1,a0,a1,a2,a3,a4,d1,d2,d3,m117,sF117,ZA,↓reduceIte,ZB,ZC,ZJ,ZK,ZE,ZF,ZG,ZH,ZI,reduceCtorEq,ZD,mwV,↓mwD,mwU]
      refine (rbare_c v _ _ true false false false w0 (hv.ext x0)).use ?_
      rintro r w' ⟨hx, b, rfl, hb⟩
      simp -dsimp -implicitDefEqProofs only [m117,sF117,ZA,↓reduceIte,ZB,ZC,ZJ,ZK,ZE,ZF,ZG,ZH,ZI,reduceCtorEq,ZD,mwV,↓mwD,mwU]
      exact .mk' (x0.trans hx) hb
    have d3 : decide (v.k = 3) = false := by simpa using n3
    by_cases n4 : v.k = 4
    · have d4 : decide (v.k = 4) = true := by simpa using n4
      rw [allV_bare (formed_4 n4) (fun h => h.2)]
      simp -dsimp -implicitDefEqProofs only [tailM_zero,tailM_seq,h1,a0,a1,a2,a3,a4,d1,d2,d3,d4,m117,sF117,ZA,↓reduceIte,ZB,ZC,ZJ,ZK,ZE,ZF,ZG,ZH,ZI,reduceCtorEq,ZD,mwV,↓mwD,mwU]
      refine (rbare_c v _ _ false true false false w0 (hv.ext x0)).use ?_
      rintro r w' ⟨hx, b, rfl, hb⟩
      cases b
      · simp -dsimp -implicitDefEqProofs only [m117,sF117,ZA,↓reduceIte,ZB,ZC,ZJ,ZK,ZE,ZF,ZG,ZH,ZI,reduceCtorEq,ZD,mwV,↓mwD,mwU]
        exact .no (x0.trans hx) (fun h => by have := hb.2 h.2; cases this)
      have hbb := hb.1 rfl
      simp -dsimp -implicitDefEqProofs only [h1,m117,sF117,ZA,↓reduceIte,ZB,ZC,ZJ,ZK,ZE,ZF,ZG,ZH,ZI,reduceCtorEq,ZD,mwV,↓mwD,mwU]
      have hsl : v.s.size = v.s.data.toList.length := rfl
      have hbt := hv.text.1
      refine mwpB_loop (fun e ds w2 => ∃ (i : Nat), i ≤ v.s.size ∧ e 3 = .int .i64 i ∧ e 1 = .pointer (some ⟨w.heap.size, 0, none⟩) ∧ ds = [] ∧ w2 = w' ∧ 0 ∉ v.s.data.toList.take i)
        (fun e _ => v.s.size - (intOf (e 3)).toNat) ?_ ?_
      · simp -dsimp -implicitDefEqProofs only [h1,m117,sF117,ZA,↓reduceIte,ZB,ZC,ZJ,ZK,ZE,ZF,ZG,ZH,ZI,reduceCtorEq,ZD,mwV,↓mwD,mwU]
        exact ⟨0, by omega, rfl, by simp⟩
      · clear h1
        rintro e ds w2 ⟨i, hi, h3, h1, rfl, rfl, hp⟩
        obtain ⟨a0, a1, a2, a3, a4⟩ := bk_vt A hx
        simp -dsimp -implicitDefEqProofs only [h3,h1,a2,m117,sF117,ZA,↓reduceIte,ZB,ZC,ZJ,ZK,ZE,ZF,ZG,ZH,ZI,reduceCtorEq,ZD,mwV,↓mwD,mwU]
        refine iteW_dec (fun hlt => ?_) (fun hge => ?_)
        · have hlt' : i < v.s.data.toList.length := by omega
          have hg := text_get hlt'
          have hb1 : (0 : Int) ≤ i := by omega
          have hs1 := w64_succ hlt' (show v.s.data.toList.length ≤ maxLen by rw [← hsl]; unfold maxLen; omega)
          by_cases he : v.s.data.toList[i] = 0
          · have he' : decide ((v.s.data.toList[i].toNat : Int) = 0) = true := by rw [decide_eq_true_eq, he]; rfl
            simp -dsimp -implicitDefEqProofs only [h3,h1,a2,hb1,hg,Int.toNat_natCast,he',m117,sF117,ZA,↓reduceIte,ZB,ZC,ZJ,ZK,ZE,ZF,ZG,ZH,ZI,reduceCtorEq,ZD,mwV,↓mwD,mwU]
            exact .no (x0.trans hx) (fun h => h.1 (by rw [← he]; exact List.getElem_mem hlt'))
          · have he' : decide ((v.s.data.toList[i].toNat : Int) = 0) = false := by
              rw [decide_eq_false_iff_not]
              exact fun h => he (UInt8.toNat_inj.1 (by simpa using Int.ofNat.inj h))
            simp -dsimp -implicitDefEqProofs only [h3,h1,a2,hb1,hg,Int.toNat_natCast,he',hs1,m117,sF117,ZA,↓reduceIte,ZB,ZC,ZJ,ZK,ZE,ZF,ZG,ZH,ZI,reduceCtorEq,ZD,mwV,↓mwD,mwU]
            refine ⟨⟨i + 1, by omega, rfl, fun hm => ?_⟩, by simp only [intOf,h3]; omega⟩
            rw [List.take_succ_eq_append_getElem hlt', List.mem_append, List.mem_singleton] at hm
            rcases hm with hm | hm
            · exact hp hm
            · exact he hm.symm
        · have hkl : i = v.s.data.toList.length := by omega
          rw [hkl, List.take_length] at hp
          simp -dsimp -implicitDefEqProofs only [h3,h1,m117,sF117,ZA,↓reduceIte,ZB,ZC,ZJ,ZK,ZE,ZF,ZG,ZH,ZI,reduceCtorEq,ZD,mwV,↓mwD,mwU]
          exact .yes (x0.trans hx) ⟨hp, hbb⟩
    have d4 : decide (v.k = 4) = false := by simpa using n4
    by_cases n5 : v.k = 5
    · have d5 : decide (v.k = 5) = true := by simpa using n5
      rw [allV_bare (formed_5 n5) id]
      simp -dsimp -implicitDefEqProofs only [tailM_zero,tailM_seq,h1,a0,a1,a2,a3,a4,d1,d2,d3,d4,d5,m117,sF117,ZA,↓reduceIte,ZB,ZC,ZJ,ZK,ZE,ZF,ZG,ZH,ZI,reduceCtorEq,ZD,mwV,↓mwD,mwU]
      refine (rbare_c v _ _ false true false false w0 (hv.ext x0)).use ?_
      rintro r w' ⟨hx, b, rfl, hb⟩
      simp -dsimp -implicitDefEqProofs only [m117,sF117,ZA,↓reduceIte,ZB,ZC,ZJ,ZK,ZE,ZF,ZG,ZH,ZI,reduceCtorEq,ZD,mwV,↓mwD,mwU]
      exact .mk' (x0.trans hx) hb
    have d5 : decide (v.k = 5) = false := by simpa using n5
    by_cases p6 : 6 ≤ v.k
    rotate_left
    · simp -dsimp -implicitDefEqProofs only [tailM_zero,tailM_seq,h1,a0,a1,a2,a3,a4,d1,d2,d3,d4,d5,p6,m117,sF117,ZA,↓reduceIte,ZB,ZC,ZJ,ZK,ZE,ZF,ZG,ZH,ZI,reduceCtorEq,ZD,mwV,↓mwD,mwU]
      exact .no x0 (fun h => by have := h.form.kind; omega)
    by_cases p10 : v.k ≤ 10
    rotate_left
    · simp -dsimp -implicitDefEqProofs only [tailM_zero,tailM_seq,h1,a0,a1,a2,a3,a4,d1,d2,d3,d4,d5,p6,p10,m117,sF117,ZA,↓reduceIte,ZB,ZC,ZJ,ZK,ZE,ZF,ZG,ZH,ZI,reduceCtorEq,ZD,mwV,↓mwD,mwU]
      exact .no x0 (fun h => by have := h.form.kind; omega)
    simp -dsimp -implicitDefEqProofs only [tailM_zero,tailM_seq,h1,a0,a1,a2,a3,a4,d1,d2,d3,d4,d5,p6,p10,m117,sF117,ZA,↓reduceIte,ZB,ZC,ZJ,ZK,ZE,ZF,ZG,ZH,ZI,reduceCtorEq,ZD,mwV,↓mwD,mwU]
    refine (shapedKids_of (hv.ext x0) ih).use ?_
    rintro r w' ⟨hx, b, rfl, hb⟩
    cases b
    · simp -dsimp -implicitDefEqProofs only [m117,sF117,ZA,↓reduceIte,ZB,ZC,ZJ,ZK,ZE,ZF,ZG,ZH,ZI,reduceCtorEq,ZD,mwV,↓mwD,mwU]
      exact .no (x0.trans hx) (fun h => by have := hb.2 h.kids; cases this)
    obtain ⟨a0, a1, a2, a3, a4⟩ := bk_vt A hx
    simp -dsimp -implicitDefEqProofs only [h1,a0,a1,a2,a3,a4,m117,sF117,ZA,↓reduceIte,ZB,ZC,ZJ,ZK,ZE,ZF,ZG,ZH,ZI,reduceCtorEq,ZD,mwV,↓mwD,mwU]
    refine (whole_c v _ _ w' (hv.ext (x0.trans hx)) p6 p10 (hb.1 rfl)).use ?_
    rintro r w2 ⟨hx2, b, rfl, hb2⟩
    simp -dsimp -implicitDefEqProofs only [m117,sF117,ZA,↓reduceIte,ZB,ZC,ZJ,ZK,ZE,ZF,ZG,ZH,ZI,reduceCtorEq,ZD,mwV,↓mwD,mwU]
    exact .mk' (x0.trans (hx.trans hx2)) (hb2.trans ⟨fun h => .mk h (hb.1 rfl), fun h => h.form⟩)
end Go.Proofs.YthcdnjbhhaonhaaGreatDoor
/- Layer 01: how long a value is written, and which are valid, by the reference. -/
namespace Go.Proofs.YthcdnjbhhaonhaaGreatDoor
open Go.RowKit
open Nat renaming reduceEqDiff → ZA, reduceAdd → ZB, reduceMul → ZC, reduceSub → ZD
open Int renaming reduceToNat → ZE, reduceEq → ZF, reduceLT → ZG, reduceLE → ZH, reduceNeg → ZI
open Go.Value renaming oneCell' → ZK, cells → ZJ
open Go.Proofs.Tryz renaming prog → ZP
set_option linter.unusedSimpArgs false
theorem bs_byte (x : Int) : buildS ZP 132 1 [(0, .int .u8 x)] = some (5, #[.int .u8 x]) := by kernel_rfl
theorem byts_app (a b : List UInt8) : byts (a ++ b) = byts a ++ byts b := List.map_append
theorem byte_of (y : Int) : ∃ b : UInt8, IntKind.u8.wrap y = (b.toNat : Int) := by
  refine ⟨UInt8.ofNat (y % 256).toNat, ?_⟩
  rw [IntKind.wrap_u8, UInt8.toNat_ofNat']
  omega
theorem append_by {w : World} {base : Nat} {v : Value} {xs : List UInt8} (hown : w.ownsRow base 5 1 v xs.length (byts xs)) (x : UInt8) (hn : xs.length ≤ 1000000) (hb : base ≤ w.heap.size) :
    ∃ v' w', (Builtin.append_ #[132, 132] 132 #[v, .slice (some ⟨w.heap.size, 0, none⟩) 1 1]).run ZP (w.alloc (.cells #[.int .u8 x.toNat] 5)) = .ok v' w' ∧ w'.ownsRow base 5 1 v' (xs ++ [x]).length (byts (xs ++ [x])) ∧ ∀ {w0 : World}, Ext w0 w → w0.heap.size ≤ base → Ext w0 w' := by
  obtain ⟨v', w', ha, hown', hg⟩ := append_own (P := ZP) (w := w.alloc (.cells #[.int .u8 x.toNat] 5)) (t := 132) (ty := 132) (z := .int .u8 0) (ats := [132, 132]) rfl telem_132 tok_5 tzero_5 (by rw [tsz_5]; rfl) (by rw [tsz_5]; omega)
    (by rw [tsz_5]; exact Own.ext hown (Ext.alloc _ _)) (a := ⟨w.heap.size, 0, none⟩) (m := 1) (c := 1) (news := [.int .u8 x.toNat]) (by rw [tsz_5]; rfl)
    (fun j u hj => by rw [Addr.add_lit, World.cell?_alloc_new]; simpa using hj) (fun u hu => by simp at hu; rw [hu]; rfl) (by unfold maxLen; omega) (by rw [tby_5]; omega) (by simp; omega)
  refine ⟨v', w', ha, ?_, fun h0 hb0 => (h0.trans (Ext.alloc _ _)).grown hg (fun k hk => Nat.le_trans hb0 (World.ownsRow.lt hown k hk).1)⟩
  rw [tsz_5] at hown'
  rw [byts_app, List.length_append]
  exact hown'
theorem text_new (w : World) (v : Value) (l : List UInt8) (h : Sl w v (byts l)) (hne : l ≠ []) : convV ZP 132 9 v = none ∧ (convert 132 9 v).run ZP w = .ok (.string ⟨l.toArray⟩) w := by
  obtain ⟨b, o, cap, rfl, h1, h2, h3⟩ := Sl.at h (by intro h0; apply hne; simpa [byts] using h0)
  refine ⟨by kernel_rfl, ?_⟩
  rw [byts_length]
  refine run_convert_bytes_back w 132 9 5 ⟨b, o, none⟩ cap l Tryz.underlying132 Tryz.underlying5 Tryz.underlying9 (fun j hj => ?_)
  rw [Addr.add_lit]
  exact h3 j _ (byts_get hj)
theorem binV_addT {t : TypeId} {a b : ByteArray} (h : a.size + b.size ≤ 9223372036854775807) : binV ZP t .add (.string a) (.string b) = some (.string (a ++ b)) := by
  show (if a.size + b.size ≤ 9223372036854775807 then some (Value.string (a ++ b)) else none) = _
  rw [if_pos h]
theorem cv_u64_u8 {a : Int} {K : Value → Prop} {alt : Prop} {tk : Tk1 K} : convB ZP 152 5 (.int .u64 a) K alt tk = K (.int .u8 (IntKind.u8.wrap a)) := convB_int 152 tok_152 tkind_5
theorem cv_int_u64 {a : Int} {K : Value → Prop} {alt : Prop} {tk : Tk1 K} : convB ZP 3 152 (.int .i64 a) K alt tk = K (.int .u64 (IntKind.u64.wrap a)) := convB_int 3 tok_3 tkind_152
set_option maxHeartbeats 1000000 in
theorem little_c (n : Int) (k : Nat) (hk1 : 1 ≤ k) (hk2 : k ≤ 8) (w : World) : Rets ZP 145 #[.int .u64 n, .int .i64 k] w fun r w' => (∃ s : ByteArray, r = .string s ∧ s.size = k) ∧ Ext w w' := by
  refine en145 ?_
  simp -dsimp -implicitDefEqProofs only [m145,sF145,ZA,↓reduceIte,ZB,ZC,ZJ,ZK,ZE,ZF,ZG,ZH,ZI,reduceCtorEq,ZD,mwV,↓mwD,mwU]
  refine mwpB_loop (fun e ds w' => ∃ (i : Nat) (m : Int) (xs : List UInt8) (v : Value), i ≤ k ∧ xs.length = i ∧ e 6 = .int .i64 i ∧ e 0 = .int .u64 m ∧ e 1 = .int .i64 k ∧ e 5 = v ∧ ds = [] ∧ Ext w w' ∧ w'.ownsRow w.heap.size 5 1 v xs.length (byts xs))
    (fun e _ => k - (intOf (e 6)).toNat) ?_ ?_
  · simp -dsimp -implicitDefEqProofs only [m145,sF145,ZA,↓reduceIte,ZB,ZC,ZJ,ZK,ZE,ZF,ZG,ZH,ZI,reduceCtorEq,ZD,mwV,↓mwD,mwU]
    exact ⟨0, n, [], _, by omega, rfl, rfl, rfl, rfl, Ext.refl _, World.ownsRow_nil _ _ _ _⟩
  · rintro e ds w' ⟨i, m, xs, v, hi, hxl, h6, h0, h1, h5, rfl, hx, hown⟩
    simp -dsimp -implicitDefEqProofs only [h6,h0,h1,h5,m145,sF145,ZA,↓reduceIte,ZB,ZC,ZJ,ZK,ZE,ZF,ZG,ZH,ZI,reduceCtorEq,ZD,mwV,↓mwD,mwU]
    refine iteW_dec (fun hlt => ?_) (fun hge => ?_)
    · obtain ⟨b, hb⟩ := byte_of (m.tmod 256)
      obtain ⟨v', w5, happ, hown5, hext5⟩ := append_by hown b (by omega) hx.size
      have hw : IntKind.i64.wrap ((i : Int) + 1) = ((i + 1 : Nat) : Int) := by rw [w64 (by omega) (by omega)]; omega
      simp -dsimp -implicitDefEqProofs only [h6,h0,h1,h5,hb,bs_byte,cv_u64_u8,m145,sF145,ZA,↓reduceIte,ZB,ZC,ZJ,ZK,ZE,ZF,ZG,ZH,ZI,reduceCtorEq,ZD,mwV,↓mwD,mwU]
      refine appB.mk happ ?_
      simp -dsimp -implicitDefEqProofs only [h6,h0,h1,h5,hw,m145,sF145,ZA,↓reduceIte,ZB,ZC,ZJ,ZK,ZE,ZF,ZG,ZH,ZI,reduceCtorEq,ZD,mwV,↓mwD,mwU]
      exact ⟨⟨i + 1, _, xs ++ [b], _, by omega, by simp [hxl], rfl, rfl, rfl, hext5 hx (Nat.le_refl _), hown5⟩, by simp only [intOf,h6]; omega⟩
    · have hki : i = k := by omega
      have hne : xs ≠ [] := by intro h0; rw [h0] at hxl; simp at hxl; omega
      obtain ⟨hn, hrun⟩ := text_new w' v xs (Own.sl hown) hne
      simp -dsimp -implicitDefEqProofs only [h6,h0,h1,h5,m145,sF145,ZA,↓reduceIte,ZB,ZC,ZJ,ZK,ZE,ZF,ZG,ZH,ZI,reduceCtorEq,ZD,mwV,↓mwD,mwU]
      refine convB_run hn (by simp -dsimp -implicitDefEqProofs only [h5,m145,sF145,ZA,↓reduceIte,ZB,ZC,ZJ,ZK,ZE,ZF,ZG,ZH,ZI,reduceCtorEq,ZD,mwV,↓mwD,mwU]) hrun ?_
      simp -dsimp -implicitDefEqProofs only [m145,sF145,ZA,↓reduceIte,ZB,ZC,ZJ,ZK,ZE,ZF,ZG,ZH,ZI,reduceCtorEq,ZD,mwV,↓mwD,mwU]
      exact ⟨⟨_, rfl, by show xs.toArray.size = k; simp; omega⟩, hx⟩
def body0 (v : Vt) : Nat := if v.k = 2 then 4 else if v.k = 3 then 8 else if v.k = 4 ∨ v.k = 5 then v.s.size else if v.k = 8 ∨ v.k = 9 then 8 else 0
def key8 (v : Vt) : Nat := if v.k = 8 ∨ v.k = 10 then 8 else 0
theorem body_all {v : Vt} (h : Formed v) : bodyV v = body0 v + sizeL (key8 v) v.kids := by
  have hk := h.kind
  have leaf : v.k ≤ 5 → v.kids = [] := fun hl => by
    apply List.eq_nil_of_length_eq_zero
    have : v.k = 1 ∨ v.k = 2 ∨ v.k = 3 ∨ v.k = 4 ∨ v.k = 5 := by omega
    rcases this with hk | hk | hk | hk | hk
    · have := ((formed_1 hk).1 h).2.2.2; simpa using this
    · have := ((formed_2 hk).1 h).2.2.2.2; simpa using this
    · have := ((formed_3 hk).1 h).2.2.2; simpa using this
    · have := ((formed_4 hk).1 h).2.2.2.2; simpa using this
    · have := ((formed_5 hk).1 h).2.2.2; simpa using this
  unfold bodyV body0 key8
  by_cases hl : v.k ≤ 5
  · rw [leaf hl, sizeL]
    by_cases n1 : v.k = 1
    · simp [n1]
    by_cases n2 : v.k = 2
    · simp [n2]
    by_cases n3 : v.k = 3
    · simp [n3]
    have n45 : v.k = 4 ∨ v.k = 5 := by omega
    simp [n1, n2, n3, n45]
  · have n1 : ¬ v.k = 1 := by omega
    have n2 : ¬ v.k = 2 := by omega
    have n3 : ¬ v.k = 3 := by omega
    have n45 : ¬(v.k = 4 ∨ v.k = 5) := by omega
    simp only [n1,n2,n3,n45,if_false]
theorem keyed {v : Vt} (h : Formed v) (hk : v.k = 8 ∨ v.k = 10) : v.keys.length = v.kids.length := by
  rcases hk with hk | hk
  · exact ((formed_8 hk).1 h).1.2.2.2
  · exact ((formed_10 hk).1 h).1.2.2
theorem zero4 : (⟨#[0, 0, 0, 0]⟩ : ByteArray).size = 4 := rfl
set_option maxHeartbeats 8000000 in
theorem Written_c (v : Vt) : ∀ (s1 s2 : Value) (w : World), VAt w v s1 s2 → massV v < 3000 → AllV v → Rets ZP 120 #[vtV v s1 s2] w fun r w' => (∃ s : ByteArray, r = .string s ∧ s.size = sizeV v) ∧ Ext w w' := by
  induction v using Vt.ind with
  | h v ih =>
    intro s1 s2 w hv hm hall
    obtain ⟨q1, c1, rfl, ka1, ka2⟩ := hv.ks.shape
    obtain ⟨q2, c2, rfl, hc1, hc2⟩ := hv.vs.shape
    obtain ⟨W, hW, A, x0⟩ := new_vt w v (.slice q1 v.keys.length c1) (.slice q2 v.kids.length c2)
    have hbm := bodyV_mass v
    have hbe := body_all hall.form
    refine en120 ?_
    refine mwpB_cut 1 (fun e ds w' => e 1 = .pointer (some ⟨w.heap.size, 0, none⟩) ∧ ds = [] ∧ w' = W) ?_ ?_
    · simp -dsimp -implicitDefEqProofs only [headM_zero,headM_seq,vtV,hW,m120,sF120,ZA,↓reduceIte,ZB,ZC,ZJ,ZK,ZE,ZF,ZG,ZH,ZI,reduceCtorEq,ZD,mwV,↓mwD,mwU]
    clear hW
    rintro e ds w0 ⟨h1, rfl, rfl⟩
    obtain ⟨a0, a1, a2, a3, a4⟩ := bk_vt A (Ext.refl w0)
    refine mwpB_cut 2 (fun e ds w' => e 1 = .pointer (some ⟨w.heap.size, 0, none⟩) ∧ (∃ s : ByteArray, e 3 = .string s ∧ s.size = body0 v) ∧ ds = [] ∧ Ext w0 w') ?_ ?_
    · by_cases n2 : v.k = 2
      · have d2 := decide_eq_true n2
        simp -dsimp -implicitDefEqProofs only [tailM_zero,tailM_seq,headM_zero,headM_seq,h1,a0,a1,d2,cv_int_u64,m120,sF120,ZA,↓reduceIte,ZB,ZC,ZJ,ZK,ZE,ZF,ZG,ZH,ZI,reduceCtorEq,ZD,mwV,↓mwD,mwU]
        refine (little_c _ 4 (by omega) (by omega) w0).use ?_
        rintro r w1 ⟨⟨s, rfl, hs⟩, hx1⟩
        simp -dsimp -implicitDefEqProofs only [h1,m120,sF120,ZA,↓reduceIte,ZB,ZC,ZJ,ZK,ZE,ZF,ZG,ZH,ZI,reduceCtorEq,ZD,mwV,↓mwD,mwU]
        exact ⟨⟨s, rfl, by rw [hs]; simp [body0, n2]⟩, hx1⟩
      have d2 := decide_eq_false n2
      by_cases n3 : v.k = 3
      · have d3 := decide_eq_true n3
        simp -dsimp -implicitDefEqProofs only [tailM_zero,tailM_seq,headM_zero,headM_seq,h1,a0,a1,d2,d3,cv_int_u64,m120,sF120,ZA,↓reduceIte,ZB,ZC,ZJ,ZK,ZE,ZF,ZG,ZH,ZI,reduceCtorEq,ZD,mwV,↓mwD,mwU]
        refine (little_c _ 8 (by omega) (by omega) w0).use ?_
        rintro r w1 ⟨⟨s, rfl, hs⟩, hx1⟩
        simp -dsimp -implicitDefEqProofs only [h1,m120,sF120,ZA,↓reduceIte,ZB,ZC,ZJ,ZK,ZE,ZF,ZG,ZH,ZI,reduceCtorEq,ZD,mwV,↓mwD,mwU]
        exact ⟨⟨s, rfl, by rw [hs]; simp [body0, n3]⟩, hx1⟩
      have d3 := decide_eq_false n3
      by_cases n4 : v.k = 4
      · have d4 := decide_eq_true n4
        simp -dsimp -implicitDefEqProofs only [tailM_zero,tailM_seq,headM_zero,headM_seq,h1,a0,a1,a2,d2,d3,d4,m120,sF120,ZA,↓reduceIte,ZB,ZC,ZJ,ZK,ZE,ZF,ZG,ZH,ZI,reduceCtorEq,ZD,mwV,↓mwD,mwU]
        exact ⟨⟨_, rfl, by simp [body0, n4]⟩, Ext.refl _⟩
      have d4 := decide_eq_false n4
      by_cases n5 : v.k = 5
      · have d5 := decide_eq_true n5
        simp -dsimp -implicitDefEqProofs only [tailM_zero,tailM_seq,headM_zero,headM_seq,h1,a0,a1,a2,d2,d3,d4,d5,m120,sF120,ZA,↓reduceIte,ZB,ZC,ZJ,ZK,ZE,ZF,ZG,ZH,ZI,reduceCtorEq,ZD,mwV,↓mwD,mwU]
        exact ⟨⟨_, rfl, by simp [body0, n5]⟩, Ext.refl _⟩
      have d5 := decide_eq_false n5
      by_cases n8 : v.k = 8
      · have d8 := decide_eq_true n8
        simp -dsimp -implicitDefEqProofs only [tailM_zero,tailM_seq,headM_zero,headM_seq,h1,a0,a1,d2,d3,d4,d5,d8,cv_int_u64,m120,sF120,ZA,↓reduceIte,ZB,ZC,ZJ,ZK,ZE,ZF,ZG,ZH,ZI,reduceCtorEq,ZD,mwV,↓mwD,mwU]
        refine (little_c _ 4 (by omega) (by omega) w0).use ?_
        rintro r w1 ⟨⟨s, rfl, hs⟩, hx1⟩
        have hadd : ∀ t, binV ZP t .add (.string s) (.string ⟨#[0, 0, 0, 0]⟩) = _ := fun t => binV_addT (by rw [hs, zero4]; omega)
        simp -dsimp -implicitDefEqProofs only [h1,hadd,m120,sF120,ZA,↓reduceIte,ZB,ZC,ZJ,ZK,ZE,ZF,ZG,ZH,ZI,reduceCtorEq,ZD,mwV,↓mwD,mwU]
        exact ⟨⟨_, rfl, by rw [ByteArray.size_append, hs, zero4]; simp [body0, n8]⟩, hx1⟩
      have d8 := decide_eq_false n8
      by_cases n9 : v.k = 9
      · have d9 := decide_eq_true n9
        simp -dsimp -implicitDefEqProofs only [tailM_zero,tailM_seq,headM_zero,headM_seq,h1,a0,a1,d2,d3,d4,d5,d8,d9,cv_int_u64,m120,sF120,ZA,↓reduceIte,ZB,ZC,ZJ,ZK,ZE,ZF,ZG,ZH,ZI,reduceCtorEq,ZD,mwV,↓mwD,mwU]
        refine (little_c _ 4 (by omega) (by omega) w0).use ?_
        rintro r w1 ⟨⟨s, rfl, hs⟩, hx1⟩
        have hadd : ∀ t, binV ZP t .add (.string s) (.string ⟨#[0, 0, 0, 0]⟩) = _ := fun t => binV_addT (by rw [hs, zero4]; omega)
        simp -dsimp -implicitDefEqProofs only [h1,hadd,m120,sF120,ZA,↓reduceIte,ZB,ZC,ZJ,ZK,ZE,ZF,ZG,ZH,ZI,reduceCtorEq,ZD,mwV,↓mwD,mwU]
        exact ⟨⟨_, rfl, by rw [ByteArray.size_append, hs, zero4]; simp [body0, n9]⟩, hx1⟩
      have d9 := decide_eq_false n9
      simp -dsimp -implicitDefEqProofs only [tailM_zero,tailM_seq,headM_zero,headM_seq,h1,a0,a1,d2,d3,d4,d5,d8,d9,m120,sF120,ZA,↓reduceIte,ZB,ZC,ZJ,ZK,ZE,ZF,ZG,ZH,ZI,reduceCtorEq,ZD,mwV,↓mwD,mwU]
      exact ⟨⟨_, rfl, by have : (⟨#[]⟩ : ByteArray).size = 0 := rfl
                         rw [this]; simp [body0, n2, n3, n4, n5, n8, n9]⟩, Ext.refl _⟩
    clear h1 a0 a1 a2 a3 a4
    rintro e ds w1 ⟨h1, ⟨s0, h3, hs0⟩, rfl, hx1⟩
    generalize hb0 : body0 v = B0 at *
    generalize hc0 : key8 v = C0 at *
    generalize hbb : bodyV v = BB at *
    refine mwpB_cut 1 (fun e ds w' => e 1 = .pointer (some ⟨w.heap.size, 0, none⟩) ∧ (∃ s : ByteArray, e 3 = .string s ∧ s.size = BB) ∧ ds = [] ∧ Ext w0 w') ?_ ?_
    · simp -dsimp -implicitDefEqProofs only [tailM_zero,tailM_seq,headM_zero,headM_seq,h1,h3,m120,sF120,ZA,↓reduceIte,ZB,ZC,ZJ,ZK,ZE,ZF,ZG,ZH,ZI,reduceCtorEq,ZD,mwV,↓mwD,mwU]
      refine mwpB_loop (fun e ds w' => ∃ (i : Nat) (s : ByteArray), i ≤ v.kids.length ∧ e 4 = .int .i64 i ∧ e 1 = .pointer (some ⟨w.heap.size, 0, none⟩) ∧ e 3 = .string s ∧ s.size = B0 + sizeL C0 (v.kids.take i) ∧ ds = [] ∧ Ext w0 w')
        (fun e _ => v.kids.length - (intOf (e 4)).toNat) ?_ ?_
      · simp -dsimp -implicitDefEqProofs only [h1,h3,m120,sF120,ZA,↓reduceIte,ZB,ZC,ZJ,ZK,ZE,ZF,ZG,ZH,ZI,reduceCtorEq,ZD,mwV,↓mwD,mwU]
        exact ⟨0, s0, by omega, rfl, rfl, by simp [sizeL, hs0], hx1⟩
      · clear h1 h3
        rintro e ds w' ⟨i, s, hi, h4, h1, h3, hs, rfl, hx⟩
        obtain ⟨a0, a1, a2, a3, a4⟩ := bk_vt A hx
        simp -dsimp -implicitDefEqProofs only [h4,h1,h3,a4,m120,sF120,ZA,↓reduceIte,ZB,ZC,ZJ,ZK,ZE,ZF,ZG,ZH,ZI,reduceCtorEq,ZD,mwV,↓mwD,mwU]
        refine iteW_dec (fun hlt => ?_) (fun hge => ?_)
        · have hlt' : i < v.kids.length := by omega
          have hb1 : (0 : Int) ≤ i ∧ (i : Int) < v.kids.length := by omega
          have hs1 := w64_succ hlt' (Nat.le_trans hc1 hc2)
          have ht := sizeL_take C0 hlt'
          have hle := sizeL_le C0 (l := v.kids) (i := i + 1)
          have hmk := mass_kid (List.getElem_mem hlt')
          have H4 := h4
          -- the kid, behind what stands ahead of it
          have kid : ∀ (w2 : World), Ext w0 w2 → ∃ (b o : Nat) (t1 : Option Addr) (d1 : Nat) (t2 : Option Addr) (d2 : Nat), q2 = some ⟨b, o, none⟩ ∧ w2.cell? ⟨b, o + 5 * i, none⟩ = some (.int .i64 v.kids[i].k) ∧ w2.cell? ⟨b, o + 5 * i + 1, none⟩ = some (.int .i64 v.kids[i].n) ∧ w2.cell? ⟨b, o + 5 * i + 2, none⟩ = some (.string v.kids[i].s) ∧ w2.cell? ⟨b, o + 5 * i + 3, none⟩ = some (.slice t1 v.kids[i].keys.length d1) ∧ w2.cell? ⟨b, o + 5 * i + 4, none⟩ = some (.slice t2 v.kids[i].kids.length d2) ∧
              Rets ZP 120 #[vtV v.kids[i] (.slice t1 v.kids[i].keys.length d1) (.slice t2 v.kids[i].kids.length d2)] w2 fun r w' => (∃ s : ByteArray, r = .string s ∧ s.size = sizeV v.kids[i]) ∧ Ext w2 w' := fun w2 h2 => by
            obtain ⟨b, o, t1, m1, d1, t2, d2, hq, k0, k1, k2, k3, k4, hk, rfl⟩ := (hv.vs.ext (x0.trans h2)).get hlt'
            exact ⟨b, o, t1, d1, t2, d2, hq, k0, k1, k2, k3, k4, ih _ (List.getElem_mem hlt') _ _ w2 hk (by omega) (hall.kids _ (List.getElem_mem hlt'))⟩
          by_cases n8 : v.k = 8 ∨ v.k = 10
          · have hkl := keyed hall.form n8
            have hC : C0 = 8 := by rw [← hc0]; exact if_pos n8
            have hkk : i < v.keys.length := by omega
            obtain ⟨bk, ok, capk, hvk, _, _, hcell⟩ := (hv.ks.ext (x0.trans hx)).at (by intro h0; rw [h0] at hkk; simp at hkk)
            cases hvk
            have hck := hcell i hkk
            have hb2 : (0 : Int) ≤ i ∧ (i : Int) < v.keys.length := by omega
            have pair : ∀ (d8 d10 : Bool), True := fun _ _ => trivial
            have e10 : v.k ≠ 8 → decide (v.k = 10) = true := fun h => by rw [decide_eq_true_eq]; omega
            by_cases m8 : v.k = 8
            · have d8 := decide_eq_true m8
              simp -dsimp -implicitDefEqProofs only [h4,h1,h3,a0,a3,d8,hb2,and_self,hck,cv_int_u64,m120,sF120,ZA,↓reduceIte,ZB,ZC,ZJ,ZK,ZE,ZF,ZG,ZH,ZI,reduceCtorEq,ZD,mwV,↓mwD,mwU]
              refine (little_c _ 4 (by omega) (by omega) w').use ?_
              rintro r w2 ⟨⟨u, rfl, hu⟩, hx2⟩
              have hadd : ∀ t, binV ZP t .add (.string u) (.string ⟨#[0, 0, 0, 0]⟩) = _ := fun t => binV_addT (by rw [hu, zero4]; omega)
              have hsz : (u ++ ⟨#[0, 0, 0, 0]⟩ : ByteArray).size = 8 := by rw [ByteArray.size_append, hu, zero4]
              have hadd2 : ∀ t, binV ZP t .add (.string s) (.string (u ++ ⟨#[0, 0, 0, 0]⟩)) = _ := fun t => binV_addT (by rw [hsz]; omega)
              obtain ⟨a0, a1, a2, a3, a4⟩ := bk_vt A (hx.trans hx2)
              obtain ⟨b, o, t1, d1, t2, d2, rfl, k0, k1, k2, k3, k4, hR⟩ := kid w2 (hx.trans hx2)
              simp -dsimp -implicitDefEqProofs only [h4,h1,h3,hadd,hadd2,a4,hb1,and_self,Nat.mul_comm i 5,k0,k1,k2,k3,k4,m120,sF120,ZA,↓reduceIte,ZB,ZC,ZJ,ZK,ZE,ZF,ZG,ZH,ZI,reduceCtorEq,ZD,mwV,↓mwD,mwU]
              refine hR.use ?_
              rintro r w3 ⟨⟨z, rfl, hz⟩, hx3⟩
              have hsz2 : (s ++ (u ++ ⟨#[0, 0, 0, 0]⟩) : ByteArray).size = s.size + 8 := by rw [ByteArray.size_append, hsz]
              have hadd3 : ∀ t, binV ZP t .add (.string (s ++ (u ++ ⟨#[0, 0, 0, 0]⟩))) (.string z) = _ := fun t => binV_addT (by rw [hsz2]; omega)
              simp -dsimp -implicitDefEqProofs only [h4,h1,h3,hadd3,hs1,m120,sF120,ZA,↓reduceIte,ZB,ZC,ZJ,ZK,ZE,ZF,ZG,ZH,ZI,reduceCtorEq,ZD,mwV,↓mwD,mwU]
              exact ⟨⟨i + 1, _, by omega, rfl, rfl, by rw [ByteArray.size_append, hsz2, hs, hz]; omega, hx.trans (hx2.trans hx3)⟩, by simp only [intOf,H4]; omega⟩
            · have d8 := decide_eq_false m8
              have d10 := e10 m8
              simp -dsimp -implicitDefEqProofs only [h4,h1,h3,a0,a3,d8,d10,hb2,and_self,hck,cv_int_u64,m120,sF120,ZA,↓reduceIte,ZB,ZC,ZJ,ZK,ZE,ZF,ZG,ZH,ZI,reduceCtorEq,ZD,mwV,↓mwD,mwU]
              refine (little_c _ 4 (by omega) (by omega) w').use ?_
              rintro r w2 ⟨⟨u, rfl, hu⟩, hx2⟩
              have hadd : ∀ t, binV ZP t .add (.string u) (.string ⟨#[0, 0, 0, 0]⟩) = _ := fun t => binV_addT (by rw [hu, zero4]; omega)
              have hsz : (u ++ ⟨#[0, 0, 0, 0]⟩ : ByteArray).size = 8 := by rw [ByteArray.size_append, hu, zero4]
              have hadd2 : ∀ t, binV ZP t .add (.string s) (.string (u ++ ⟨#[0, 0, 0, 0]⟩)) = _ := fun t => binV_addT (by rw [hsz]; omega)
              obtain ⟨a0, a1, a2, a3, a4⟩ := bk_vt A (hx.trans hx2)
              obtain ⟨b, o, t1, d1, t2, d2, rfl, k0, k1, k2, k3, k4, hR⟩ := kid w2 (hx.trans hx2)
              simp -dsimp -implicitDefEqProofs only [h4,h1,h3,hadd,hadd2,a4,hb1,and_self,Nat.mul_comm i 5,k0,k1,k2,k3,k4,m120,sF120,ZA,↓reduceIte,ZB,ZC,ZJ,ZK,ZE,ZF,ZG,ZH,ZI,reduceCtorEq,ZD,mwV,↓mwD,mwU]
              refine hR.use ?_
              rintro r w3 ⟨⟨z, rfl, hz⟩, hx3⟩
              have hsz2 : (s ++ (u ++ ⟨#[0, 0, 0, 0]⟩) : ByteArray).size = s.size + 8 := by rw [ByteArray.size_append, hsz]
              have hadd3 : ∀ t, binV ZP t .add (.string (s ++ (u ++ ⟨#[0, 0, 0, 0]⟩))) (.string z) = _ := fun t => binV_addT (by rw [hsz2]; omega)
              simp -dsimp -implicitDefEqProofs only [h4,h1,h3,hadd3,hs1,m120,sF120,ZA,↓reduceIte,ZB,ZC,ZJ,ZK,ZE,ZF,ZG,ZH,ZI,reduceCtorEq,ZD,mwV,↓mwD,mwU]
              exact ⟨⟨i + 1, _, by omega, rfl, rfl, by rw [ByteArray.size_append, hsz2, hs, hz]; omega, hx.trans (hx2.trans hx3)⟩, by simp only [intOf,H4]; omega⟩
          · have hC : C0 = 0 := by rw [← hc0]; exact if_neg n8
            have d8 : decide (v.k = 8) = false := decide_eq_false (by omega)
            have d10 : decide (v.k = 10) = false := decide_eq_false (by omega)
            obtain ⟨b, o, t1, d1, t2, d2, rfl, k0, k1, k2, k3, k4, hR⟩ := kid w' hx
            simp -dsimp -implicitDefEqProofs only [h4,h1,h3,a0,a4,d8,d10,hb1,and_self,Nat.mul_comm i 5,k0,k1,k2,k3,k4,m120,sF120,ZA,↓reduceIte,ZB,ZC,ZJ,ZK,ZE,ZF,ZG,ZH,ZI,reduceCtorEq,ZD,mwV,↓mwD,mwU]
            refine hR.use ?_
            rintro r w2 ⟨⟨u, rfl, hu⟩, hx2⟩
            have hadd : ∀ t, binV ZP t .add (.string s) (.string u) = _ := fun t => binV_addT (by omega)
            simp -dsimp -implicitDefEqProofs only [h4,h1,h3,hadd,hs1,m120,sF120,ZA,↓reduceIte,ZB,ZC,ZJ,ZK,ZE,ZF,ZG,ZH,ZI,reduceCtorEq,ZD,mwV,↓mwD,mwU]
            exact ⟨⟨i + 1, _, by omega, rfl, rfl, by rw [ByteArray.size_append, hs, hu]; omega, hx.trans hx2⟩, by simp only [intOf,H4]; omega⟩
        · have hkl : i = v.kids.length := by omega
          rw [hkl, List.take_length] at hs
          simp -dsimp -implicitDefEqProofs only [h4,h1,h3,m120,sF120,ZA,↓reduceIte,ZB,ZC,ZJ,ZK,ZE,ZF,ZG,ZH,ZI,reduceCtorEq,ZD,mwV,↓mwD,mwU]
          exact ⟨⟨_, rfl, by omega⟩, hx⟩
    clear h1 h3
    rintro e ds w2 ⟨h1, ⟨b, h3, hb⟩, rfl, hx2⟩
    have hse := sizeV_eq v
    rw [hbb] at hse
    have hpd := padN_le BB
    obtain ⟨a0, a1, a2, a3, a4⟩ := bk_vt A (hx2.trans (Ext.drew w2))
    have hed : Ext w2.drew w2.drew := Ext.refl _
    simp -dsimp -implicitDefEqProofs only [tailM_zero,tailM_seq,h1,h3,m120,sF120,ZA,↓reduceIte,ZB,ZC,ZJ,ZK,ZE,ZF,ZG,ZH,ZI,reduceCtorEq,ZD,mwV,↓mwD,mwU]
    refine mwpB_drawE ?_
    simp -dsimp -implicitDefEqProofs only [h1,h3,a0,planEB_two,hed,cv_int_u64,m120,sF120,ZA,↓reduceIte,ZB,ZC,ZJ,ZK,ZE,ZF,ZG,ZH,ZI,reduceCtorEq,ZD,mwV,↓mwD,mwU]
    refine (little_c _ 4 (by omega) (by omega) w2.drew).use ?_
    rintro r w3 ⟨⟨u, rfl, hu⟩, hx3⟩
    simp -dsimp -implicitDefEqProofs only [h1,h3,planEB_two,hx3,m120,sF120,ZA,↓reduceIte,ZB,ZC,ZJ,ZK,ZE,ZF,ZG,ZH,ZI,reduceCtorEq,ZD,mwV,↓mwD,mwU]
    refine (little_c _ 4 (by omega) (by omega) w3).use ?_
    rintro r w4 ⟨⟨z, rfl, hz⟩, hx4⟩
    have hx34 := hx3.trans hx4
    have hadd : ∀ t, binV ZP t .add (.string u) (.string z) = _ := fun t => binV_addT (by rw [hu, hz]; omega)
    have hsz : (u ++ z).size = 8 := by rw [ByteArray.size_append, hu, hz]
    have hadd2 : ∀ t, binV ZP t .add (.string (u ++ z)) (.string b) = _ := fun t => binV_addT (by rw [hsz]; omega)
    have hsz2 : (u ++ z ++ b).size = 8 + BB := by rw [ByteArray.size_append, hsz, hb]
    simp -dsimp -implicitDefEqProofs only [h1,h3,hadd,hadd2,hx34,m120,sF120,ZA,↓reduceIte,ZB,ZC,ZJ,ZK,ZE,ZF,ZG,ZH,ZI,reduceCtorEq,ZD,mwV,↓mwD,mwU]
    generalize u ++ z ++ b = y at *
    refine mwpB_loop (fun e ds w' => ∃ (c : ByteArray), e 5 = .string c ∧ 8 + BB ≤ c.size ∧ c.size ≤ sizeV v ∧ ds = [] ∧ w' = w4)
      (fun e _ => sizeV v - (match e 5 with | .string c => c.size | _ => 0)) ?_ ?_
    · simp -dsimp -implicitDefEqProofs only [m120,sF120,ZA,↓reduceIte,ZB,ZC,ZJ,ZK,ZE,ZF,ZG,ZH,ZI,reduceCtorEq,ZD,mwV,↓mwD,mwU]
      exact ⟨y, rfl, by omega, by omega⟩
    · rintro e ds w' ⟨c, h5, hc1', hc2', rfl, rfl⟩
      have hrem : (c.size : Int).tmod 8 = ((c.size % 8 : Nat) : Int) := by rw [Int.tmod_eq_emod_of_nonneg (by omega)]; omega
      by_cases hz0 : c.size % 8 = 0
      · have d0 : decide ((c.size : Int).tmod 8 = 0) = true := by rw [decide_eq_true_eq, hrem]; omega
        simp -dsimp -implicitDefEqProofs only [h5,d0,m120,sF120,ZA,↓reduceIte,ZB,ZC,ZJ,ZK,ZE,ZF,ZG,ZH,ZI,reduceCtorEq,ZD,mwV,↓mwD,mwU]
        refine ⟨⟨c, rfl, ?_⟩, x0.trans (hx2.trans ((Ext.drew w2).trans hx34))⟩
        unfold padN at hse hpd; omega
      · have d0 : decide ((c.size : Int).tmod 8 = 0) = false := by rw [decide_eq_false_iff_not, hrem]; omega
        have z1 : (⟨#[0]⟩ : ByteArray).size = 1 := rfl
        have hadd3 : ∀ t, binV ZP t .add (.string c) (.string ⟨#[0]⟩) = _ := fun t => binV_addT (by rw [z1]; omega)
        have hs3 : (c ++ ⟨#[0]⟩ : ByteArray).size = c.size + 1 := by rw [ByteArray.size_append, z1]
        have hlt : c.size < sizeV v := by
          rcases Nat.lt_or_ge c.size (sizeV v) with h | h
          · exact h
          · have : c.size = sizeV v := by omega
            exfalso; apply hz0; rw [this, hse]; unfold padN; omega
        simp -dsimp -implicitDefEqProofs only [h5,d0,hadd3,m120,sF120,ZA,↓reduceIte,ZB,ZC,ZJ,ZK,ZE,ZF,ZG,ZH,ZI,reduceCtorEq,ZD,mwV,↓mwD,mwU]
        exact ⟨⟨_, rfl, by rw [hs3]; omega, by rw [hs3]; omega⟩, by simp only [h5,hs3]; exact Nat.sub_lt_sub_left hlt (Nat.lt_succ_self _)⟩
theorem refValidV_c (v : Vt) (s1 s2 : Value) (w : World) (hv : VAt w v s1 s2) (hm : massV v < 3000) : Rets ZP 89 #[vtV v s1 s2] w (YesQ (ValidV v) w) := by
  obtain ⟨q1, c1, rfl, _, _⟩ := hv.ks.shape
  obtain ⟨q2, c2, rfl, _, _⟩ := hv.vs.shape
  obtain ⟨W, hW, A, x0⟩ := new_vt w v (.slice q1 v.keys.length c1) (.slice q2 v.kids.length c2)
  obtain ⟨a0, a1, a2, a3, a4⟩ := bk_vt A (Ext.refl W)
  refine en89 ?_
  simp -dsimp -implicitDefEqProofs only [vtV,← hW,a0,a1,a2,a3,a4,m89,sF89,ZA,↓reduceIte,ZB,ZC,ZJ,ZK,ZE,ZF,ZG,ZH,ZI,reduceCtorEq,ZD,mwV,↓mwD,mwU]
  clear hW
  refine (Shaped_c v _ _ W (hv.ext x0)).use ?_
  rintro r w1 ⟨hx1, b, rfl, hb⟩
  cases b
  · simp -dsimp -implicitDefEqProofs only [m89,sF89,ZA,↓reduceIte,ZB,ZC,ZJ,ZK,ZE,ZF,ZG,ZH,ZI,reduceCtorEq,ZD,mwV,↓mwD,mwU]
    exact .no (x0.trans hx1) (fun h => by have := hb.2 h.1; cases this)
  have hall := hb.1 rfl
  obtain ⟨a0, a1, a2, a3, a4⟩ := bk_vt A hx1
  simp -dsimp -implicitDefEqProofs only [a0,a1,a2,a3,a4,m89,sF89,ZA,↓reduceIte,ZB,ZC,ZJ,ZK,ZE,ZF,ZG,ZH,ZI,reduceCtorEq,ZD,mwV,↓mwD,mwU]
  refine (deep_c v _ _ w1 (hv.ext (x0.trans hx1)) hm).use ?_
  rintro r w2 ⟨rfl, hx2⟩
  have hx12 := hx1.trans hx2
  by_cases p1 : (deepV v : Int) ≤ 10
  rotate_left
  · simp -dsimp -implicitDefEqProofs only [p1,m89,sF89,ZA,↓reduceIte,ZB,ZC,ZJ,ZK,ZE,ZF,ZG,ZH,ZI,reduceCtorEq,ZD,mwV,↓mwD,mwU]
    exact .no (x0.trans hx12) (fun h => by have := h.2.1; omega)
  obtain ⟨a0, a1, a2, a3, a4⟩ := bk_vt A hx12
  simp -dsimp -implicitDefEqProofs only [p1,a0,a1,a2,a3,a4,m89,sF89,ZA,↓reduceIte,ZB,ZC,ZJ,ZK,ZE,ZF,ZG,ZH,ZI,reduceCtorEq,ZD,mwV,↓mwD,mwU]
  refine (Counted_c v _ _ w2 (hv.ext (x0.trans hx12)) hm).use ?_
  rintro r w3 ⟨rfl, hx3⟩
  have hx13 := hx12.trans hx3
  by_cases p2 : (countV v : Int) ≤ 500
  rotate_left
  · simp -dsimp -implicitDefEqProofs only [p2,m89,sF89,ZA,↓reduceIte,ZB,ZC,ZJ,ZK,ZE,ZF,ZG,ZH,ZI,reduceCtorEq,ZD,mwV,↓mwD,mwU]
    exact .no (x0.trans hx13) (fun h => by have := h.2.2.1; omega)
  obtain ⟨a0, a1, a2, a3, a4⟩ := bk_vt A hx13
  simp -dsimp -implicitDefEqProofs only [p2,a0,a1,a2,a3,a4,m89,sF89,ZA,↓reduceIte,ZB,ZC,ZJ,ZK,ZE,ZF,ZG,ZH,ZI,reduceCtorEq,ZD,mwV,↓mwD,mwU]
  refine (Written_c v _ _ w3 (hv.ext (x0.trans hx13)) hm hall).use ?_
  rintro r w4 ⟨⟨s, rfl, hs⟩, hx4⟩
  simp -dsimp -implicitDefEqProofs only [m89,sF89,ZA,↓reduceIte,ZB,ZC,ZJ,ZK,ZE,ZF,ZG,ZH,ZI,reduceCtorEq,ZD,mwV,↓mwD,mwU]
  refine .mk' (x0.trans (hx13.trans hx4)) ?_
  rw [decide_eq_true_eq]
  exact ⟨fun h => ⟨hall, by omega, by omega, by omega⟩, fun h => by have := h.2.2.2; omega⟩
end Go.Proofs.YthcdnjbhhaonhaaGreatDoor

/- Layer 01: a value and all within, one by one, by the program. -/
import Derived.Test.YthcdnjbhhaonhaaGreatDoorQvVaFToVaG
import Derived.Test.YthcdnjbhhaonhaaGreatDoorQvFoC

namespace Go.Proofs.YthcdnjbhhaonhaaGreatDoor
open Go.RowKit
open Nat renaming reduceEqDiff → ZA, reduceAdd → ZB, reduceMul → ZC, reduceSub → ZD
open Int renaming reduceToNat → ZE, reduceEq → ZF, reduceLT → ZG, reduceLE → ZH, reduceNeg → ZI
open Go.Value renaming oneCell' → ZK, cells → ZJ
set_option linter.unusedSimpArgs false
set_option maxHeartbeats 1000000
def RoundV (J : List (Vt × Int) → World → Prop) (S : World → Prop) (B : Nat) (D : List (Vt × Int)) (x : Vt) (d : Int) (w : World) (en : Ending) (w' : World) : Prop :=
  (en = .returned (.bool true) ∧ J (D ++ [(x, d)]) w' ∧ ∀ b, B ≤ b → b < w.heap.size → w'.heap[b]? = w.heap[b]?) ∨ (en = .returned (.bool false) ∧ S w')
def AllQ (J : List (Vt × Int) → World → Prop) (S : World → Prop) (D : List (Vt × Int)) (r : Value) (w' : World) : Prop := (r = .bool true ∧ J D w') ∨ (r = .bool false ∧ S w')
theorem preVl_split {l : List Vt} {i : Nat} (h : i < l.length) (d : Int) : preVl l d = preVl (l.take i) d ++ (preV l[i] d ++ preVl (l.drop (i + 1)) d) := by
  have e : l = l.take (i + 1) ++ l.drop (i + 1) := (List.take_append_drop _ _).symm
  conv => lhs; rw [e, preVl_app, preVl_take h]
  rw [List.append_assoc]
theorem all_c {l B : Nat} {W0 : World} {L : List (Vt × Int)} {J : List (Vt × Int) → World → Prop} {S : World → Prop}
    (hJx : ∀ D w, J D w → Ext W0 w ∧ B ≤ w.heap.size) (hJs : ∀ D w w', J D w → Ext w w' → J D w')
    (hY : ∀ D x d s1 s2 w, J D w → VAt W0 x s1 s2 → D ++ [(x, d)] <+: L → YieldAt Fence.wide 1 Go.Proofs.Tryz.prog l #[vtV x s1 s2, .int .i64 d] w (RoundV J S B D x d w)) (v : Vt) :
    ∀ (s1 s2 : Value) (d : Int) (D : List (Vt × Int)) (W : World), VAt W0 v s1 s2 → 0 ≤ d → d + massV v ≤ 4000 → D ++ preV v d <+: L → J D W →
      Ends Go.Proofs.Tryz.prog 161 #[vtV v s1 s2, .int .i64 d, .func (.yield l) #[] #[]] W (AllQ J S (D ++ preV v d)) (fun _ _ => False) := by
  induction v using Vt.ind with
  | h v ih =>
    intro s1 s2 d D w hv hd0 hd1 hL hJ
    obtain ⟨q1, c1, rfl, ka1, ka2⟩ := hv.ks.shape
    obtain ⟨q2, c2, rfl, hc1, hc2⟩ := hv.vs.shape
    obtain ⟨W, hW, A, x0⟩ := new_vt w v (.slice q1 v.keys.length c1) (.slice q2 v.kids.length c2)
    have hsz : W.heap.size = w.heap.size + 1 := by rw [hW]; exact World.size_alloc _ _
    refine ends_of_mwp follows_mo Tryz.func161 pl161 st161 ok161 (rs := [.tmp 6]) (by kernel_rfl) ?_
    refine mwpB_cut 1 (fun e ds w' => e 3 = .pointer (some ⟨w.heap.size, 0, none⟩) ∧ e 1 = .int .i64 d ∧ e 2 = .func (.yield l) #[] #[] ∧ ds = [] ∧ w' = W) ?_ ?_
    · simp -dsimp -implicitDefEqProofs only [headM_zero,headM_seq,vtV,hW,m161,sF161,ZA,↓reduceIte,ZB,ZC,ZJ,ZK,ZE,ZF,ZG,ZH,ZI,reduceCtorEq,ZD,mwV,↓mwD,mwU]
    clear hW
    rintro e ds w0 ⟨h3, h1, h2, rfl, rfl⟩
    obtain ⟨a0, a1, a2, a3, a4⟩ := bk_vt A (Ext.refl w0)
    have hB := (hJx _ _ hJ).2
    simp -dsimp -implicitDefEqProofs only [tailM_zero,tailM_seq,h1,h2,h3,a0,a1,a2,a3,a4,m161,sF161,ZA,↓reduceIte,ZB,ZC,ZJ,ZK,ZE,ZF,ZG,ZH,ZI,reduceCtorEq,ZD,mwV,↓mwD,mwU]
    refine cvB_yield ?_
    refine yield_mono (hY D v d _ _ w0 (hJs _ _ _ hJ x0) hv (List.IsPrefix.trans (by rw [preV_eq]; exact ⟨preVl v.kids (d + 1), by simp⟩) hL)) ?_
    rintro en w1 (⟨rfl, hj, hkeep⟩ | ⟨rfl, hs⟩)
    rotate_left
    · simp only [yR]
      simp -dsimp -implicitDefEqProofs only [m161,sF161,ZA,↓reduceIte,ZB,ZC,ZJ,ZK,ZE,ZF,ZG,ZH,ZI,reduceCtorEq,ZD,mwV,↓mwD,mwU]
      exact .inr ⟨rfl, hs⟩
    simp only [yR]
    have A1 : Bk w1 w.heap.size (vtCs v (.slice q1 v.keys.length c1) (.slice q2 v.kids.length c2)) 64 := show _ = _ from (hkeep _ hB (by omega)).trans A
    obtain ⟨a0, a1, a2, a3, a4⟩ := bk_vt A1 (Ext.refl w1)
    simp -dsimp -implicitDefEqProofs only [h1,h2,h3,a4,m161,sF161,ZA,↓reduceIte,ZB,ZC,ZJ,ZK,ZE,ZF,ZG,ZH,ZI,reduceCtorEq,ZD,mwV,↓mwD,mwU]
    refine mwpB_loop (fun e ds w' => ∃ (i : Nat), i ≤ v.kids.length ∧ e 17 = .int .i64 i ∧ e 16 = .int .i64 v.kids.length ∧ e 15 = .slice q2 v.kids.length c2 ∧ e 1 = .int .i64 d ∧ e 2 = .func (.yield l) #[] #[] ∧ ds = [] ∧ J (D ++ (v, d) :: preVl (v.kids.take i) (d + 1)) w')
      (fun e _ => v.kids.length - (intOf (e 17)).toNat) ?_ ?_
    · simp -dsimp -implicitDefEqProofs only [h1,h2,m161,sF161,ZA,↓reduceIte,ZB,ZC,ZJ,ZK,ZE,ZF,ZG,ZH,ZI,reduceCtorEq,ZD,mwV,↓mwD,mwU]
      exact ⟨0, by omega, rfl, by simpa [preVl] using hj⟩
    · rintro e ds w' ⟨i, hi, h17, h16, h15, h1, h2, rfl, hj⟩
      simp -dsimp -implicitDefEqProofs only [h17,h16,h15,h1,h2,m161,sF161,ZA,↓reduceIte,ZB,ZC,ZJ,ZK,ZE,ZF,ZG,ZH,ZI,reduceCtorEq,ZD,mwV,↓mwD,mwU]
      refine iteW_dec (fun hlt => ?_) (fun hge => ?_)
      · have hlt' : i < v.kids.length := by omega
        have hx := (hJx _ _ hj).1
        obtain ⟨b, o, t1, m1, d1, t2, d2, hq, k0, k1, k2, k3, k4, _, hm1⟩ := (hv.vs.ext hx).get hlt'
        obtain ⟨b', o', t1', m1', d1', t2', d2', hq', k0', k1', k2', k3', k4', hk, hm1'⟩ := (hv.vs).get hlt'
        rw [hq] at hq'
        cases hq'
        subst hq
        have e3 := k3.symm.trans (hx.cell k3')
        have e4 := k4.symm.trans (hx.cell k4')
        cases e3
        cases e4
        clear k0' k1' k2' k3' k4' hm1'
        subst hm1
        have hb1 : (0 : Int) ≤ i ∧ (i : Int) < v.kids.length := by omega
        have hs1 := w64_succ hlt' (Nat.le_trans hc1 hc2)
        have hmk := mass_kid (List.getElem_mem hlt')
        have hsd : IntKind.i64.wrap (d + 1) = d + 1 := w64 (by omega) (by omega)
        obtain ⟨W2, hW2, A2, y0⟩ := new_vt w' v.kids[i] (.slice t1 v.kids[i].keys.length d1) (.slice t2 v.kids[i].kids.length d2)
        obtain ⟨b0, b1, b2, b3, b4⟩ := bk_vt A2 (Ext.refl W2)
        simp -dsimp -implicitDefEqProofs only [h17,h16,h15,h1,h2,hb1,and_self,Nat.mul_comm i 5,k0,k1,k2,k3,k4,← hW2,b0,b1,b2,b3,b4,hsd,m161,sF161,ZA,↓reduceIte,ZB,ZC,ZJ,ZK,ZE,ZF,ZG,ZH,ZI,reduceCtorEq,ZD,mwV,↓mwD,mwU]
        clear hW2
        refine (ih _ (List.getElem_mem hlt') _ _ (d + 1) _ W2 hk (by omega) (by omega) (List.IsPrefix.trans (by rw [preV_eq v, preVl_split hlt']; exact ⟨preVl (v.kids.drop (i + 1)) (d + 1), by simp⟩) hL) (hJs _ _ _ hj y0)).use ?_ (fun _ _ h => h.elim)
        rintro r w2 (⟨rfl, hj2⟩ | ⟨rfl, hs⟩)
        · simp -dsimp -implicitDefEqProofs only [h17,h16,h15,h1,h2,hs1,m161,sF161,ZA,↓reduceIte,ZB,ZC,ZJ,ZK,ZE,ZF,ZG,ZH,ZI,reduceCtorEq,ZD,mwV,↓mwD,mwU]
          refine ⟨⟨i + 1, by omega, rfl, ?_⟩, by simp only [intOf,h17]; omega⟩
          rw [preVl_take hlt']
          simpa using hj2
        · simp -dsimp -implicitDefEqProofs only [m161,sF161,ZA,↓reduceIte,ZB,ZC,ZJ,ZK,ZE,ZF,ZG,ZH,ZI,reduceCtorEq,ZD,mwV,↓mwD,mwU]
          exact .inr ⟨rfl, hs⟩
      · have hkl : i = v.kids.length := by omega
        rw [hkl, List.take_length] at hj
        simp -dsimp -implicitDefEqProofs only [h17,h16,h15,h1,h2,m161,sF161,ZA,↓reduceIte,ZB,ZC,ZJ,ZK,ZE,ZF,ZG,ZH,ZI,reduceCtorEq,ZD,mwV,↓mwD,mwU]
        refine .inl ⟨rfl, ?_⟩
        rw [preV_eq]
        exact hj
theorem values_c (v : Vt) (s1 s2 : Value) (w : World) : Rets Go.Proofs.Tryz.prog 138 #[vtV v s1 s2] w fun r w' => r = .func (.func 160) #[] #[.pointer (some ⟨w.heap.size, 0, none⟩)] ∧ w' = w.alloc (.cells #[.int .i64 v.k, .int .i64 v.n, .string v.s, s1, s2] 64) := by
  refine en138 ?_
  simp -dsimp -implicitDefEqProofs only [vtV,m138,ZA,↓reduceIte,ZB,ZC,ZJ,ZK,ZE,ZF,ZG,ZH,ZI,reduceCtorEq,ZD,mwV,↓mwD,mwU]
theorem values1_c {l B b1 : Nat} {W0 : World} {J : List (Vt × Int) → World → Prop} {S : World → Prop} {v : Vt} {s1 s2 : Value} {W : World}
    (hJx : ∀ D w, J D w → Ext W0 w ∧ B ≤ w.heap.size) (hJs : ∀ D w w', J D w → Ext w w' → J D w')
    (hY : ∀ D x d s1 s2 w, J D w → VAt W0 x s1 s2 → D ++ [(x, d)] <+: preV v 1 → YieldAt Fence.wide 1 Go.Proofs.Tryz.prog l #[vtV x s1 s2, .int .i64 d] w (RoundV J S B D x d w))
    (hv : VAt W0 v s1 s2) (hm : massV v < 3000) (A : Bk W b1 (vtCs v s1 s2) 64) (hJ : J [] W) :
    Ends Go.Proofs.Tryz.prog 160 #[.func (.yield l) #[] #[], .pointer (some ⟨b1, 0, none⟩)] W (fun _ w' => J (preV v 1) w' ∨ S w') (fun _ _ => False) := by
  obtain ⟨q1, c1, rfl, ka1, ka2⟩ := hv.ks.shape
  obtain ⟨q2, c2, rfl, hc1, hc2⟩ := hv.vs.shape
  obtain ⟨a0, a1, a2, a3, a4⟩ := bk_vt A (Ext.refl W)
  refine ends_of_mwp follows_mo Tryz.func160 pl160 st160 ok160 (rs := []) (by kernel_rfl) ?_
  simp -dsimp -implicitDefEqProofs only [a0,a1,a2,a3,a4,m160,sF160,ZA,↓reduceIte,ZB,ZC,ZJ,ZK,ZE,ZF,ZG,ZH,ZI,reduceCtorEq,ZD,mwV,↓mwD,mwU]
  refine (all_c hJx hJs hY v _ _ 1 [] W hv (by omega) (by omega) (by simp) hJ).use ?_ (fun _ _ h => h.elim)
  rintro r w2 (⟨rfl, hj2⟩ | ⟨rfl, hs⟩)
  · simp -dsimp -implicitDefEqProofs only [m160,sF160,ZA,↓reduceIte,ZB,ZC,ZJ,ZK,ZE,ZF,ZG,ZH,ZI,reduceCtorEq,ZD,mwV,↓mwD,mwU]
    exact .inl hj2
  · simp -dsimp -implicitDefEqProofs only [m160,sF160,ZA,↓reduceIte,ZB,ZC,ZJ,ZK,ZE,ZF,ZG,ZH,ZI,reduceCtorEq,ZD,mwV,↓mwD,mwU]
    exact .inr hs
end Go.Proofs.YthcdnjbhhaonhaaGreatDoor

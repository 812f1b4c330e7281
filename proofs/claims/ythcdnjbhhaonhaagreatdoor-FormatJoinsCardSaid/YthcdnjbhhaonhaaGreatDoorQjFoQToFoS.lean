/- Layer 02: the reference's Within. -/
import Derived.Test.YthcdnjbhhaonhaaGreatDoorQjFoP
import Derived.Test.YthcdnjbhhaonhaaGreatDoorQjChWToChY

namespace Go.Proofs.YthcdnjbhhaonhaaGreatDoor
open Go.RowKit
open Nat renaming reduceEqDiff → ZA, reduceAdd → ZB, reduceMul → ZC, reduceSub → ZD
open Int renaming reduceToNat → ZE, reduceEq → ZF, reduceLT → ZG, reduceLE → ZH, reduceNeg → ZI
open Go.Value renaming oneCell' → ZK, cells → ZJ
set_option linter.unusedSimpArgs false
theorem wiL_at {A B : List Fl} (h : fieldsB 0 A = true) : wiL A B ↔ ∀ y ∈ B, ∃ c, atF A y.key = some c ∧ wiC c y.c := by
 unfold wiL
 constructor
 · intro h1 y hy
   obtain ⟨x, hx, hk, hw⟩ := h1 y hy
   exact ⟨x.c, by rw [← hk]; exact atF_mem h hx, hw⟩
 · intro h1 y hy
   obtain ⟨c, hc, hw⟩ := h1 y hy
   obtain ⟨x, hx, hk, rfl⟩ := atF_some hc
   exact ⟨x, hx, hk, hw⟩
set_option maxHeartbeats 1000000 in
theorem refWithin_c (a b : Fm) (sa sb : Value) (w : World) (hA : SlF w sa a.F) (hB : SlF w sb b.F) : Rets Go.Proofs.Tryz.prog 40 #[fmV a sa, fmV b sb] w fun r w' => Ext w w' ∧
 if (a.valid && b.valid) = true then ∃ x : Bool, r = .tuple #[.bool x, .int .i64 0] ∧ (x = true ↔ wiF a b) else r = .tuple #[.bool false, .int .i64 1] := by
 obtain ⟨pa, ca, rfl, hc1, hc2⟩ := hA.shape
 obtain ⟨pb, cb, rfl, hc3, hc4⟩ := hB.shape
 obtain ⟨W, hW, A, B, hx⟩ := box_fm w [.int .i64 a.m, .slice pa a.F.length ca] 24 [.int .i64 b.m, .slice pb b.F.length cb] 24
 have hsz : W.heap.size = w.heap.size + 2 := by rw [hW]; simp only [World.size_alloc]
 refine en40 ?_
 refine mwpB_cut 1 (fun e ds w' => e 2 = .pointer (some ⟨w.heap.size, 0, none⟩) ∧ e 3 = .pointer (some ⟨w.heap.size + 1, 0, none⟩) ∧ ds = [] ∧ w' = W) ?_ ?_
 · simp -dsimp -implicitDefEqProofs only [fmV,headM_zero,headM_seq,World.size_alloc,hW,m40,sF40,ZA,↓reduceIte,ZB,ZC,ZJ,ZK,ZE,ZF,ZG,ZH,ZI,reduceCtorEq,ZD,mwV,↓mwD,mwU]
 rintro e ds w0 ⟨k2, k3, rfl, rfl⟩
 clear hW
 have cells : ∀ {w' : World}, Ext w0 w' → (w'.cell? ⟨w.heap.size, 0, none⟩ = some (.int .i64 a.m) ∧ w'.cell? ⟨w.heap.size, 1, none⟩ = some (.slice pa a.F.length ca)) ∧ w'.cell? ⟨w.heap.size + 1, 0, none⟩ = some (.int .i64 b.m) ∧ w'.cell? ⟨w.heap.size + 1, 1, none⟩ = some (.slice pb b.F.length cb) :=
  fun h => ⟨⟨(A.ext h).get rfl, (A.ext h).get rfl⟩, (B.ext h).get rfl, (B.ext h).get rfl⟩
 obtain ⟨⟨A0, A1⟩, B0, B1⟩ := cells (Ext.refl w0)
 simp -dsimp -implicitDefEqProofs only [tailM_zero,tailM_seq,k2,k3,A0,A1,m40,sF40,ZA,↓reduceIte,ZB,ZC,ZJ,ZK,ZE,ZF,ZG,ZH,ZI,reduceCtorEq,ZD,mwV,↓mwD,mwU]
 refine (refFValid_c a _ w0 (hA.ext hx)).use ?_
 rintro r w1 ⟨rfl, h1⟩
 cases va : a.valid
 · simp -dsimp -implicitDefEqProofs only [m40,sF40,ZA,↓reduceIte,ZB,ZC,ZJ,ZK,ZE,ZF,ZG,ZH,ZI,reduceCtorEq,ZD,mwV,↓mwD,mwU]
   exact ⟨hx.trans h1, by simp⟩
 obtain ⟨⟨A0, A1⟩, B0, B1⟩ := cells h1
 simp -dsimp -implicitDefEqProofs only [k2,k3,B0,B1,m40,sF40,ZA,↓reduceIte,ZB,ZC,ZJ,ZK,ZE,ZF,ZG,ZH,ZI,reduceCtorEq,ZD,mwV,↓mwD,mwU]
 refine (refFValid_c b _ w1 (hB.ext (hx.trans h1))).use ?_
 rintro r w2 ⟨rfl, h2⟩
 have h12 := h1.trans h2
 cases vb : b.valid
 · simp -dsimp -implicitDefEqProofs only [m40,sF40,ZA,↓reduceIte,ZB,ZC,ZJ,ZK,ZE,ZF,ZG,ZH,ZI,reduceCtorEq,ZD,mwV,↓mwD,mwU]
   exact ⟨hx.trans h12, by simp⟩
 have fA : fieldsB 0 a.F = true := by have := va; unfold Fm.valid at this; simp only [Bool.and_eq_true] at this; exact this.1
 have fB : fieldsB 0 b.F = true := by have := vb; unfold Fm.valid at this; simp only [Bool.and_eq_true] at this; exact this.1
 have hwi : wiF a b ↔ a.m = b.m ∧ ∀ y ∈ b.F, ∃ c, atF a.F y.key = some c ∧ wiC c y.c := by unfold wiF; rw [wiL_at fA]
 simp -dsimp -implicitDefEqProofs only [k2,k3,m40,sF40,ZA,↓reduceIte,ZB,ZC,ZJ,ZK,ZE,ZF,ZG,ZH,ZI,reduceCtorEq,ZD,mwV,↓mwD,mwU]
 refine mwpB_loop (fun e ds w' => ∃ k : Nat, k ≤ b.F.length ∧ e 6 = .int .i64 k ∧ e 2 = .pointer (some ⟨w.heap.size, 0, none⟩) ∧ e 3 = .pointer (some ⟨w.heap.size + 1, 0, none⟩) ∧ ds = [] ∧ Ext w0 w' ∧ ∀ y ∈ b.F.take k, ∃ c, atF a.F y.key = some c ∧ wiC c y.c)
  (fun e _ => b.F.length - (intOf (e 6)).toNat) ?_ ?_
 · simp -dsimp -implicitDefEqProofs only [k2,k3,m40,sF40,ZA,↓reduceIte,ZB,ZC,ZJ,ZK,ZE,ZF,ZG,ZH,ZI,reduceCtorEq,ZD,mwV,↓mwD,mwU]
   exact ⟨0, by omega, rfl, h12, fun y hy => by simp at hy⟩
 · rintro e ds w' ⟨k, hk, h6, h2', h3', rfl, hxx, hall⟩
   obtain ⟨⟨A0, A1⟩, B0, B1⟩ := cells hxx
   simp -dsimp -implicitDefEqProofs only [h6,h2',h3',B1,m40,sF40,ZA,↓reduceIte,ZB,ZC,ZJ,ZK,ZE,ZF,ZG,ZH,ZI,reduceCtorEq,ZD,mwV,↓mwD,mwU]
   refine iteW_dec (fun hlt => ?_) (fun hge => ?_)
   · have hlt' : k < b.F.length := by omega
     obtain ⟨bb, oo, rfl, hfs⟩ := hB.at (by intro h0; rw [h0] at hlt'; simp at hlt')
     obtain ⟨sk, q0, q1, q2, q3, hsk⟩ := hfs.get hlt'
     obtain ⟨ps, cs, rfl, _, _⟩ := hsk.shape
     have hxw := hx.trans hxx
     replace q0 := hxw.cell q0
     have Q1 := q1
     have Q2 := q2
     have Q3 := q3
     have hb1 : (0 : Int) ≤ k ∧ (k : Int) < b.F.length := by omega
     have hw := w64_succ hlt' (Nat.le_trans hc3 hc4)
     have vk : b.F[k].c.valid = true := (fieldsB_mem fB _ (List.getElem_mem hlt')).2.2
     simp -dsimp -implicitDefEqProofs only [h6,h2',h3',B1,m40,sF40,ZA,↓reduceIte,ZB,ZC,ZJ,ZK,ZE,ZF,ZG,ZH,ZI,reduceCtorEq,ZD,mwV,↓mwD,mwU]
     have H6 := h6
     refine mwpB_mid (fun e' ds w5 => e' 6 = .int .i64 k ∧ e' 2 = .pointer (some ⟨w.heap.size, 0, none⟩) ∧ e' 3 = .pointer (some ⟨w.heap.size + 1, 0, none⟩) ∧ ds = [] ∧ Ext w' w5 ∧ ∃ b7, e' 7 = .pointer (some ⟨b7, 0, none⟩) ∧ (match atF a.F b.F[k].key with
      | none => e' 8 = .bool false
      | some c => e' 8 = .bool true ∧ ∃ s, Bk w5 b7 [.int .i64 c.k, .int .i64 c.d, s] 35 ∧ SlI w s c.L)) ?_ ?_
     · refine mwpB_drawE ?_
       have EA : Ext w'.drew (w'.drew.alloc (.cells #[.int .i64 0, .int .i64 0, .slice none 0 0] 35)) := Ext.alloc _ _
       simp -dsimp -implicitDefEqProofs only [h6,h2',h3',A0,A1,B0,B1,hb1,and_self,q0,Nat.mul_comm k 4,planEB_two,EA,m40,sF40,ZA,↓reduceIte,ZB,ZC,ZJ,ZK,ZE,ZF,ZG,ZH,ZI,reduceCtorEq,ZD,mwV,↓mwD,mwU]
       have xE : ∀ {u'}, Ext w'.drew u' → Ext w u' := fun h => (hxw.trans (Ext.drew w')).trans h
       refine ⟨?_, ?_⟩
       · refine (At_c a _ _ w w'.drew hA (xE (Ext.refl _))).use ?_
         rintro r u1 ⟨h5, hr⟩
         have E2 : Ext w'.drew (u1.alloc (.cells #[.int .i64 0, .int .i64 0, .slice none 0 0] 35)) := h5.trans (Ext.alloc _ _)
         cases hat : atF a.F b.F[k].key with
         | none =>
          rw [hat] at hr
          simp only at hr
          subst hr
          simp -dsimp -implicitDefEqProofs only [h6,h2',h3',h5,E2,m40,sF40,ZA,↓reduceIte,ZB,ZC,ZJ,ZK,ZE,ZF,ZG,ZH,ZI,reduceCtorEq,ZD,mwV,↓mwD,mwU]
          exact ⟨(Ext.drew w').trans (h5.trans (Ext.alloc _ _)), _, rfl⟩
         | some c =>
          rw [hat] at hr
          obtain ⟨v, rfl, hvs⟩ := hr
          obtain ⟨qv, cv, rfl, _, _⟩ := hvs.shape
          simp -dsimp -implicitDefEqProofs only [h6,h2',h3',h5,E2,chV,m40,sF40,ZA,↓reduceIte,ZB,ZC,ZJ,ZK,ZE,ZF,ZG,ZH,ZI,reduceCtorEq,ZD,mwV,↓mwD,mwU]
          exact ⟨(Ext.drew w').trans (h5.trans (Ext.alloc _ _)), _, rfl, _, Bk.new _ _ _, hvs⟩
       · refine (At_c a _ _ w _ hA (xE EA)).use ?_
         rintro r u1 ⟨h5, hr⟩
         have E2 := EA.trans h5
         have hB' := (Bk.new w'.drew [.int .i64 0, .int .i64 0, .slice none 0 0] 35).ext h5
         cases hat : atF a.F b.F[k].key with
         | none =>
          rw [hat] at hr
          simp only at hr
          subst hr
          have hP := put3 hB' (.int .i64 0) (.int .i64 0) (.slice none 0 0)
          obtain ⟨z0', c0⟩ := hP.c0
          obtain ⟨z1', c1⟩ := hP.c1
          obtain ⟨z2', c2⟩ := hP.c2
          have z0 := hP.z0
          have z1 := hP.z1
          have z2 := hP.z2
          simp -dsimp -implicitDefEqProofs only [h6,h2',h3',E2,c0,c1,c2,z0,z1,z2,m40,sF40,ZA,↓reduceIte,ZB,ZC,ZJ,ZK,ZE,ZF,ZG,ZH,ZI,reduceCtorEq,ZD,mwV,↓mwD,mwU]
          exact ⟨((Ext.drew w').trans E2).set3 (Nat.le_refl _) _ _ _, _, rfl⟩
         | some c =>
          rw [hat] at hr
          obtain ⟨v, rfl, hvs⟩ := hr
          obtain ⟨qv, cv, rfl, _, _⟩ := hvs.shape
          have hP := put3 hB' (.int .i64 c.k) (.int .i64 c.d) (.slice qv c.L.length cv)
          obtain ⟨z0', c0⟩ := hP.c0
          obtain ⟨z1', c1⟩ := hP.c1
          obtain ⟨z2', c2⟩ := hP.c2
          have z0 := hP.z0
          have z1 := hP.z1
          have z2 := hP.z2
          simp -dsimp -implicitDefEqProofs only [h6,h2',h3',E2,chV,c0,c1,c2,z0,z1,z2,m40,sF40,ZA,↓reduceIte,ZB,ZC,ZJ,ZK,ZE,ZF,ZG,ZH,ZI,reduceCtorEq,ZD,mwV,↓mwD,mwU]
          exact ⟨((Ext.drew w').trans E2).set3 (Nat.le_refl _) _ _ _, _, rfl, _, hP.bk, hvs⟩
     · rintro e' ds w5 ⟨h6, h2', h3', rfl, hx5, b7, h7, ho⟩
       have hxx5 := hxx.trans hx5
       obtain ⟨⟨A0, A1⟩, B0, B1⟩ := cells hxx5
       have hxw5 := hx.trans hxx5
       replace Q1 := hxw5.cell Q1
       replace Q2 := hxw5.cell Q2
       replace Q3 := hxw5.cell Q3
       have no : (∀ c, ¬ (atF a.F b.F[k].key = some c ∧ wiC c b.F[k].c)) → ¬ wiF a b := fun h h' => by
        obtain ⟨c, hc, hw⟩ := (hwi.1 h').2 b.F[k] (List.getElem_mem hlt')
        exact h c ⟨hc, hw⟩
       cases hat : atF a.F b.F[k].key with
       | none =>
        rw [hat] at ho no
        simp only at ho
        simp -dsimp -implicitDefEqProofs only [h6,h2',h3',h7,ho,m40,sF40,ZA,↓reduceIte,ZB,ZC,ZJ,ZK,ZE,ZF,ZG,ZH,ZI,reduceCtorEq,ZD,mwV,↓mwD,mwU]
        refine mwpB_drawE ?_
        simp -dsimp -implicitDefEqProofs only [h6,h2',h3',h7,ho,m40,sF40,ZA,↓reduceIte,ZB,ZC,ZJ,ZK,ZE,ZF,ZG,ZH,ZI,reduceCtorEq,ZD,mwV,↓mwD,mwU]
        refine ⟨hxw5.trans (Ext.drew _), ?_⟩
        rw [if_pos (by rfl)]
        exact ⟨false, rfl, ⟨fun h => (by cases h), fun h => absurd h (no (fun c hc => by cases hc.1))⟩⟩
       | some c =>
        rw [hat] at ho no
        obtain ⟨h8, s7, k7, hs7⟩ := ho
        obtain ⟨x, hxm, hxk, rfl⟩ := atF_some hat
        have vx := (fieldsB_mem fA x hxm).2.2
        obtain ⟨q7, c7, rfl, _, _⟩ := hs7.shape
        have t0 := k7.get (o := 0) rfl
        have t1 := k7.get (o := 1) rfl
        have t2 := k7.get (o := 2) rfl
        simp -dsimp -implicitDefEqProofs only [h6,h2',h3',h7,h8,m40,sF40,ZA,↓reduceIte,ZB,ZC,ZJ,ZK,ZE,ZF,ZG,ZH,ZI,reduceCtorEq,ZD,mwV,↓mwD,mwU]
        refine mwpB_drawE ?_
        simp -dsimp -implicitDefEqProofs only [h6,h2',h3',h7,h8,t0,t1,t2,B1,hb1,and_self,Q1,Q2,Q3,Nat.mul_comm k 4,m40,sF40,ZA,↓reduceIte,ZB,ZC,ZJ,ZK,ZE,ZF,ZG,ZH,ZI,reduceCtorEq,ZD,mwV,↓mwD,mwU]
        have hxd := hxw5.trans (Ext.drew w5)
        refine (among_c x.c b.F[k].c _ _ w5.drew vx vk (hs7.ext hxd) (hsk.ext hxd)).use ?_
        rintro r w6 ⟨h9, z, rfl, hz⟩
        cases z
        · simp -dsimp -implicitDefEqProofs only [h9,m40,sF40,ZA,↓reduceIte,ZB,ZC,ZJ,ZK,ZE,ZF,ZG,ZH,ZI,reduceCtorEq,ZD,mwV,↓mwD,mwU]
          refine ⟨hxd.trans h9, ?_⟩
          rw [if_pos (by rfl)]
          exact ⟨false, rfl, ⟨fun h => (by cases h), fun h => absurd h (no (fun c hc => by
           obtain ⟨h1, h2⟩ := hc
           cases h1
           exact absurd (hz.2 h2) (by decide)))⟩⟩
        · simp -dsimp -implicitDefEqProofs only [h9,h6,h2',h3',hw,m40,sF40,ZA,↓reduceIte,ZB,ZC,ZJ,ZK,ZE,ZF,ZG,ZH,ZI,reduceCtorEq,ZD,mwV,↓mwD,mwU]
          refine ⟨⟨k + 1, by omega, rfl, hxx5.trans ((Ext.drew w5).trans h9), fun y hy => ?_⟩, by simp only [intOf,H6]; omega⟩
          rw [List.take_succ_eq_append_getElem hlt'] at hy
          rcases List.mem_append.1 hy with hy | hy
          · exact hall y hy
          · simp only [List.mem_singleton] at hy
            subst hy
            exact ⟨_, hat, hz.1 rfl⟩
   · have hkl : k = b.F.length := by omega
     subst hkl
     rw [List.take_length] at hall
     simp -dsimp -implicitDefEqProofs only [h6,h2',h3',A0,A1,B0,B1,m40,sF40,ZA,↓reduceIte,ZB,ZC,ZJ,ZK,ZE,ZF,ZG,ZH,ZI,reduceCtorEq,ZD,mwV,↓mwD,mwU]
     refine ⟨hx.trans hxx, ?_⟩
     rw [if_pos (by rfl)]
     refine ⟨_, rfl, ?_⟩
     rw [hwi]
     simp only [decide_eq_true_eq]
     exact ⟨fun h => ⟨h, hall⟩, fun h => h.1⟩
end Go.Proofs.YthcdnjbhhaonhaaGreatDoor
/- Layer 02: the reference's Join. -/
namespace Go.Proofs.YthcdnjbhhaonhaaGreatDoor
open Go.RowKit
open Nat renaming reduceEqDiff → ZA, reduceAdd → ZB, reduceMul → ZC, reduceSub → ZD
open Int renaming reduceToNat → ZE, reduceEq → ZF, reduceLT → ZG, reduceLE → ZH, reduceNeg → ZI
open Go.Value renaming oneCell' → ZK, cells → ZJ
set_option linter.unusedSimpArgs false
def fromK (A : List Fl) (k : Int) : List Fl := A.filter fun x => decide (k ≤ x.key)
theorem fromK_gt : ∀ {A : List Fl} {j k : Int}, fieldsB j A = true → k ≤ j + 1 → fromK A k = A
 | [], _, _, _, _ => rfl
 | x :: A, j, k, h, hk => by
  have h' := fieldsB_cons.1 h
  unfold fromK
  have : decide (k ≤ x.key) = true := by simp; omega
  rw [List.filter_cons, this, if_pos rfl]
  have ih := fromK_gt (k := k) h'.2.2.2 (by omega)
  unfold fromK at ih
  rw [ih]
theorem fromK_seven {A : List Fl} (h : fieldsB 0 A = true) : fromK A 7 = [] := by
 unfold fromK
 rw [List.filter_eq_nil_iff]
 intro x hx
 have := (fieldsB_mem h x hx).2.1
 simp; omega
theorem fromK_ge {A : List Fl} {k : Int} : ∀ x ∈ fromK A k, k ≤ x.key := fun x hx => by
 unfold fromK at hx
 simpa using (List.mem_filter.1 hx).2
theorem atF_gt : ∀ {A : List Fl} {j k : Int}, fieldsB j A = true → k ≤ j → atF A k = none
 | [], _, _, _, _ => rfl
 | x :: A, j, k, h, hk => by
  have h' := fieldsB_cons.1 h
  unfold atF
  rw [if_neg (by omega)]; exact atF_gt h'.2.2.2 (by omega)
theorem fromK_step : ∀ {A : List Fl} {j : Int} (k : Int), fieldsB j A = true → fromK A k = (match atF A k with
 | some c => ⟨k, c⟩ :: fromK A (k + 1)
 | none => fromK A (k + 1))
 | [], _, _, _ => rfl
 | x :: A, j, k, h => by
  have h' := fieldsB_cons.1 h
  have ih := fromK_step k h'.2.2.2
  by_cases h1 : x.key = k
  · subst h1
    have e1 : atF (x :: A) x.key = some x.c := by unfold atF; rw [if_pos rfl]
    have e2 : fromK (x :: A) x.key = x :: A := by
     have := fromK_gt h'.2.2.2 (show x.key ≤ x.key + 1 by omega)
     unfold fromK at this ⊢
     rw [List.filter_cons, if_pos (by simp), this]
    have e3 : fromK (x :: A) (x.key + 1) = A := by
     have := fromK_gt h'.2.2.2 (Int.le_refl (x.key + 1))
     unfold fromK at this ⊢
     rw [List.filter_cons, if_neg (by simp; omega), this]
    rw [e1, e2, e3]
  · have e1 : atF (x :: A) k = atF A k := by rw [atF]; rw [if_neg h1]
    rw [e1]
    by_cases h2 : x.key < k
    · have e2 : ∀ k', k ≤ k' → fromK (x :: A) k' = fromK A k' := fun k' hk => by unfold fromK; rw [List.filter_cons, if_neg (by simp; omega)]
      rw [e2 k (by omega), e2 (k + 1) (by omega)]; exact ih
    · have e2 : atF A k = none := atF_gt h'.2.2.2 (by omega)
      rw [e2] at ih ⊢
      have e3 : ∀ k', k' ≤ x.key → fromK (x :: A) k' = x :: fromK A k' := fun k' hk => by unfold fromK; rw [List.filter_cons, if_pos (by simpa using hk)]
      rw [e3 k (by omega), e3 (k + 1) (by omega), ih]
theorem pairs_same (k : Int) (c d : Ch) (A B : List Fl) : pairs (⟨k, c⟩ :: A) (⟨k, d⟩ :: B) = (some ⟨k, c⟩, some ⟨k, d⟩) :: pairs A B := by rw [pairs, if_pos rfl]
theorem pairs_left {k : Int} {c : Ch} {A B : List Fl} (h : ∀ x ∈ B, k + 1 ≤ x.key) : pairs (⟨k, c⟩ :: A) B = (some ⟨k, c⟩, none) :: pairs A B := by
 cases B with
 | nil => rw [pairs]
 | cons y B =>
  have := h y (List.mem_cons_self ..)
  rw [pairs, if_neg (by simp only; omega), if_pos (by simp only; omega)]
theorem pairs_right {k : Int} {d : Ch} {A B : List Fl} (h : ∀ x ∈ A, k + 1 ≤ x.key) : pairs A (⟨k, d⟩ :: B) = (none, some ⟨k, d⟩) :: pairs A B := by
 cases A with
 | nil => rw [pairs]
 | cons x A =>
  have := h x (List.mem_cons_self ..)
  rw [pairs, if_neg (by simp only; omega), if_neg (by simp only; omega)]
theorem copy_row (U : World) (base : Nat) (s : Value) (L : List Int) (hb : base ≤ U.heap.size) (hs : SlI U s L) (hne : 1 ≤ L.length) (hlen : L.length ≤ 1000000) :
 ∃ v' U2, (Builtin.append_ #[33, 33] 33 #[.slice (some ⟨U.heap.size, 0, none⟩) 0 0, s]).run Go.Proofs.Tryz.prog (U.alloc (.cells #[] 3)) = .ok v' U2 ∧ U2.ownsRow base 3 1 v' L.length (ints L) ∧ Ext U U2 := by
 rcases hs.clone with ⟨_, hx⟩ | ⟨a, cap, rfl, h1, h2, h3⟩
 · rw [hx] at hne; simp at hne
 · have ho := own_new U [] 3 base 0 1 rfl hb (by simp)
   obtain ⟨v', w', ha, hown, hg⟩ := append_own (P := Go.Proofs.Tryz.prog) (w := U.alloc (.cells #[] 3)) (t := 33) (ty := 33) (z := .int .i64 0) (ats := [33, 33]) rfl telem_33 tok_3 tzero_3 (by rw [tsz_3]; rfl) (by rw [tsz_3]; omega)
    (by rw [tsz_3]; exact ho) (a := a) (m := L.length) (c := cap) (news := ints L) (by rw [tsz_3, ints_length]; omega)
    (fun j u hj => cell_old (h3 j u hj) _) (fun u hu => by simp [ints] at hu; obtain ⟨n, _, rfl⟩ := hu; rfl) (by unfold maxLen; omega) (by rw [tby_3]; omega) (by rw [World.size_alloc]; omega)
   refine ⟨v', w', ha, ?_, (Ext.alloc _ _).grown hg (fun k hk => ?_)⟩
   · rw [tsz_3] at hown; simpa using hown
   · simp [Value.ownBlock] at hk; omega
theorem bs_none : buildS Go.Proofs.Tryz.prog 33 0 [] = some (3, #[]) := by kernel_rfl
structure JrS (w u : World) (b6 : Nat) (m : Int) (A B : List Value) (v : Value) (acc : List (Fl × Value)) : Prop where
 ext : Ext w u
 kA : Bk u w.heap.size A 24
 kB : Bk u (w.heap.size + 1) B 24
 k4 : Bk u (w.heap.size + 2) [.int .i64 0, .slice none 0 0] 24
 k6 : Bk u b6 [.int .i64 m, v] 24
 own : OwnF u w.heap.size v acc
theorem JrS.next {w u u' : World} {b6 : Nat} {m : Int} {A B : List Value} {v : Value} {acc : List (Fl × Value)} (h : JrS w u b6 m A B v acc) (c : Ext u u') : JrS w u' b6 m A B v acc :=
 ⟨h.ext.trans c, h.kA.ext c, h.kB.ext c, h.k4.ext c, h.k6.ext c, h.own.ext c⟩
theorem JrS.ch {w u u' : World} {b6 b : Nat} {m : Int} {A B : List Value} {v : Value} {acc : List (Fl × Value)} (h : JrS w u b6 m A B v acc) (c : ChP (fun k => k = b) u u') (hb : w.heap.size + 3 ≤ b) (h6 : b6 ≠ b) (ho : Odd u b) : JrS w u' b6 m A B v acc :=
 ⟨c.ext h.ext (fun k hk => by subst hk; omega), c.bk (by omega) h.kA, c.bk (by omega) h.kB, c.bk (by omega) h.k4, c.bk h6 h.k6, h.own.ch c (fun k hk => by subst hk; exact ho)⟩
set_option maxHeartbeats 4000000 in
theorem Joined_c (a b : Fm) (sa sb : Value) (w : World) (hA : SlF w sa a.F) (hB : SlF w sb b.F) (va : a.valid = true) (vb : b.valid = true) : Rets Go.Proofs.Tryz.prog 76 #[fmV a sa, fmV b sb] w (JoinQ a b w) := by
 obtain ⟨pa, ca, rfl, hc1, hc2⟩ := hA.shape
 obtain ⟨pb, cb, rfl, hc3, hc4⟩ := hB.shape
 have fA : fieldsB 0 a.F = true := by have := va; unfold Fm.valid at this; simp only [Bool.and_eq_true] at this; exact this.1
 have fB : fieldsB 0 b.F = true := by have := vb; unfold Fm.valid at this; simp only [Bool.and_eq_true] at this; exact this.1
 obtain ⟨W, hW, A, B, C4, hx⟩ : ∃ W, W = ((w.alloc (.cells #[.int .i64 a.m, .slice pa a.F.length ca] 24)).alloc (.cells #[.int .i64 b.m, .slice pb b.F.length cb] 24)).alloc (.cells #[.int .i64 0, .slice none 0 0] 24) ∧
  Bk W w.heap.size [.int .i64 a.m, .slice pa a.F.length ca] 24 ∧ Bk W (w.heap.size + 1) [.int .i64 b.m, .slice pb b.F.length cb] 24 ∧ Bk W (w.heap.size + 2) [.int .i64 0, .slice none 0 0] 24 ∧ Ext w W := by
  refine ⟨_, rfl, ((Bk.new w _ _).ext (Ext.alloc _ _)).ext (Ext.alloc _ _), ?_, ?_, ((Ext.alloc _ _).trans (Ext.alloc _ _)).trans (Ext.alloc _ _)⟩
  · have := Bk.new (w.alloc (.cells #[.int .i64 a.m, .slice pa a.F.length ca] 24)) [.int .i64 b.m, .slice pb b.F.length cb] 24
    rw [World.size_alloc] at this
    exact this.ext (Ext.alloc _ _)
  · have := Bk.new ((w.alloc (.cells #[.int .i64 a.m, .slice pa a.F.length ca] 24)).alloc (.cells #[.int .i64 b.m, .slice pb b.F.length cb] 24)) [.int .i64 0, .slice none 0 0] 24
    rw [World.size_alloc, World.size_alloc] at this
    exact this
 have hsz : W.heap.size = w.heap.size + 3 := by rw [hW]; simp only [World.size_alloc]
 refine en76 ?_
 refine mwpB_cut 1 (fun e ds w' => e 2 = .pointer (some ⟨w.heap.size, 0, none⟩) ∧ e 3 = .pointer (some ⟨w.heap.size + 1, 0, none⟩) ∧ e 4 = .pointer (some ⟨w.heap.size + 2, 0, none⟩) ∧ ds = [] ∧ w' = W) ?_ ?_
 · simp -dsimp -implicitDefEqProofs only [fmV,headM_zero,headM_seq,World.size_alloc,Nat.add_assoc,← hW,m76,sF76,ZA,↓reduceIte,ZB,ZC,ZJ,ZK,ZE,ZF,ZG,ZH,ZI,reduceCtorEq,ZD,mwV,↓mwD,mwU]
 clear hW
 rintro e ds w0 ⟨k2, k3, k4, rfl, rfl⟩
 have A0 := A.get (o := 0) rfl
 have A1 := A.get (o := 1) rfl
 have B0 := B.get (o := 0) rfl
 have B1 := B.get (o := 1) rfl
 by_cases hm : ¬ a.m = b.m
 · have d1 := C4.set 0 (.int .i64 0)
   have d2 := d1.set 1 (.slice none 0 0)
   have b0 := C4.get (o := 0) rfl
   have b1 := d1.get (o := 1) rfl
   have f0 := C4.frozen 0
   have f1 := d1.frozen 1
   have r0 := d2.get (o := 0) rfl
   have r1 := d2.get (o := 1) rfl
   simp -dsimp -implicitDefEqProofs only [tailM_zero,tailM_seq,k2,k3,k4,A0,B0,hm,bv_fm0,b0,b1,f0,f1,r0,r1,m76,sF76,ZA,↓reduceIte,ZB,ZC,ZJ,ZK,ZE,ZF,ZG,ZH,ZI,reduceCtorEq,ZD,mwV,↓mwD,mwU]
   exact ⟨(hx.setCell (by simp) _).setCell (by simp) _, by rw [if_neg hm]⟩
 replace hm := Decidable.not_not.1 hm
 have dm : decide (a.m = b.m) = true := by simp [hm]
 have C := Bk.new w0 [.int .i64 a.m, .slice none 0 0] 24
 have x6 : Ext w0 (w0.alloc (.cells #[.int .i64 a.m, .slice none 0 0] 24)) := Ext.alloc _ _
 simp -dsimp -implicitDefEqProofs only [tailM_zero,tailM_seq,k2,k3,k4,A0,B0,dm,bv_fm1,setCell_new,m76,sF76,ZA,↓reduceIte,ZB,ZC,ZJ,ZK,ZE,ZF,ZG,ZH,ZI,reduceCtorEq,ZD,mwV,↓mwD,mwU]
 have S0 : JrS w (w0.alloc (.cells #[.int .i64 a.m, .slice none 0 0] 24)) w0.heap.size a.m [.int .i64 a.m, .slice pa a.F.length ca] [.int .i64 b.m, .slice pb b.F.length cb] (.slice none 0 0) [] := ⟨hx.trans x6, A.ext x6, B.ext x6, C4.ext x6, C, World.ownsRow_nil _ _ _ _, fun p hp => by cases hp⟩
 generalize w0.alloc _ = W1 at *
 refine mwpB_loop (fun e ds u => ∃ (k : Nat) (v : Value) (acc : List (Fl × Value)), 1 ≤ k ∧ k ≤ 7 ∧ acc.length ≤ k ∧ e 7 = .int .i64 k ∧ e 2 = .pointer (some ⟨w.heap.size, 0, none⟩) ∧ e 3 = .pointer (some ⟨w.heap.size + 1, 0, none⟩) ∧ e 4 = .pointer (some ⟨w.heap.size + 2, 0, none⟩) ∧ e 6 = .pointer (some ⟨w0.heap.size, 0, none⟩) ∧ ds = [] ∧
  JrS w u w0.heap.size a.m [.int .i64 a.m, .slice pa a.F.length ca] [.int .i64 b.m, .slice pb b.F.length cb] v acc ∧ ∀ o, JoinR (pairs (fromK a.F k) (fromK b.F k)) o → JoinR (pairs a.F b.F) (o.map (acc.map (·.1) ++ ·)))
  (fun e _ => 7 - (intOf (e 7)).toNat) ?_ ?_
 · simp -dsimp -implicitDefEqProofs only [k2,k3,k4,m76,sF76,ZA,↓reduceIte,ZB,ZC,ZJ,ZK,ZE,ZF,ZG,ZH,ZI,reduceCtorEq,ZD,mwV,↓mwD,mwU]
   refine ⟨1, _, [], by omega, by omega, by simp, rfl, S0, fun o ho => ?_⟩
   rw [show ((1 : Nat) : Int) = 1 from rfl, fromK_gt fA (by omega), fromK_gt fB (by omega)] at ho
   simpa using ho
 · rintro e ds u ⟨k, v, acc, hk1, hk7, hal, h7, h2, h3, h4, h6, rfl, S, hK⟩
   simp -dsimp -implicitDefEqProofs only [h7,h2,h3,h4,h6,m76,sF76,ZA,↓reduceIte,ZB,ZC,ZJ,ZK,ZE,ZF,ZG,ZH,ZI,reduceCtorEq,ZD,mwV,↓mwD,mwU]
   refine iteW_dec (fun hlt => ?_) (fun hge => ?_)
   · have hk6 : k ≤ 6 := by omega
     have hw : IntKind.i64.wrap ((k : Int) + 1) = ((k + 1 : Nat) : Int) := by rw [w64 (by omega) (by omega)]; omega
     have ek : ((k + 1 : Nat) : Int) = (k : Int) + 1 := by omega
     have stA := fromK_step (k : Int) fA
     have stB := fromK_step (k : Int) fB
     have geA : ∀ x ∈ fromK a.F ((k : Int) + 1), (k : Int) + 1 ≤ x.key := fromK_ge
     have geB : ∀ x ∈ fromK b.F ((k : Int) + 1), (k : Int) + 1 ≤ x.key := fromK_ge
     have a0 := S.kA.get (o := 0) rfl
     have a1 := S.kA.get (o := 1) rfl
     simp -dsimp -implicitDefEqProofs only [h7,h2,h3,h4,h6,a0,a1,m76,sF76,ZA,↓reduceIte,ZB,ZC,ZJ,ZK,ZE,ZF,ZG,ZH,ZI,reduceCtorEq,ZD,mwV,↓mwD,mwU]
     refine (At_c a _ k w u hA S.ext).use ?_
     rintro r u1 ⟨x1, hr1⟩
     have S1 := S.next x1
     cases hatA : atF a.F (k : Int) with
     | none =>
      rw [hatA] at stA hr1
      simp only at hr1
      subst hr1
      have y1 : Ext u1 (u1.alloc (.cells #[.int .i64 0, .int .i64 0, .slice none 0 0] 35)) := Ext.alloc _ _
      have K8 := Bk.new u1 [.int .i64 0, .int .i64 0, .slice none 0 0] 35
      have S2 := S1.next y1
      have b0 := S2.kB.get (o := 0) rfl
      have b1 := S2.kB.get (o := 1) rfl
      simp -dsimp -implicitDefEqProofs only [h7,h2,h3,h4,h6,chV,b0,b1,m76,sF76,ZA,↓reduceIte,ZB,ZC,ZJ,ZK,ZE,ZF,ZG,ZH,ZI,reduceCtorEq,ZD,mwV,↓mwD,mwU]
      have sz1 : (u1.alloc (.cells #[.int .i64 0, .int .i64 0, .slice none 0 0] 35)).heap.size = u1.heap.size + 1 := World.size_alloc _ _
      generalize u1.alloc (.cells #[.int .i64 0, .int .i64 0, .slice none 0 0] 35) = v1 at *
      replace K8 : Bk v1 u1.heap.size [.int .i64 0, .int .i64 0, .slice none 0 0] 35 := K8
      refine (At_c b _ k w v1 hB S2.ext).use ?_
      rintro r u2' ⟨x2, hr2⟩
      have S3 := S2.next x2
      cases hatB : atF b.F (k : Int) with
      | none =>
       rw [hatB] at stB hr2
       simp only at hr2
       subst hr2
       have y2 : Ext u2' (u2'.alloc (.cells #[.int .i64 0, .int .i64 0, .slice none 0 0] 35)) := Ext.alloc _ _
       have y3 : Ext (u2'.alloc (.cells #[.int .i64 0, .int .i64 0, .slice none 0 0] 35)) ((u2'.alloc (.cells #[.int .i64 0, .int .i64 0, .slice none 0 0] 35)).alloc (.cells #[.int .i64 0, .int .i64 0, .slice none 0 0] 35)) := Ext.alloc _ _
       have K10 := Bk.new u2' [.int .i64 0, .int .i64 0, .slice none 0 0] 35
       have K12 := Bk.new (u2'.alloc (.cells #[.int .i64 0, .int .i64 0, .slice none 0 0] 35)) [.int .i64 0, .int .i64 0, .slice none 0 0] 35
       have K8b := (K8.ext x2).ext y2
       have i0 := K8b.get (o := 0) rfl
       have i1 := K8b.get (o := 1) rfl
       have i2 := K8b.get (o := 2) rfl
       have sz2 : (u2'.alloc (.cells #[.int .i64 0, .int .i64 0, .slice none 0 0] 35)).heap.size = u2'.heap.size + 1 := World.size_alloc _ _
       have S5 := (S3.next y2).next y3
       have hgtb : w.heap.size + 4 ≤ u2'.heap.size := by have := S3.k6.lt; have := K8.lt; have := x2.size; have := S.k6.lt; have := x1.size; omega
       have hg6 : w0.heap.size < u1.heap.size := S1.k6.lt
       have hg7 : u1.heap.size < u2'.heap.size := by have := K8.lt; have := x2.size; omega
       simp -dsimp -implicitDefEqProofs only [h7,h2,h3,h4,h6,chV,i0,i1,i2,hw,m76,sF76,ZA,↓reduceIte,ZB,ZC,ZJ,ZK,ZE,ZF,ZG,ZH,ZI,reduceCtorEq,ZD,mwV,↓mwD,mwU]
       refine ⟨⟨k + 1, v, acc, by omega, by omega, by omega, rfl, S5, fun o ho => hK o ?_⟩, by simp only [intOf]; omega⟩
       rw [stA, stB]
       rw [ek] at ho; exact ho
      | some cB =>
       obtain ⟨xB, hxB, hkB, hcB⟩ := atF_some hatB
       have vBv : cB.valid = true := by rw [← hcB]; exact (fieldsB_mem fB xB hxB).2.2
       have lenB : 1 ≤ cB.L.length ∧ cB.L.length ≤ 20 := ⟨valid_ne vBv, valid_len vBv⟩
       rw [hatB] at stB hr2
       obtain ⟨vB, rfl, hsB⟩ := hr2
       obtain ⟨qcB, ncB, rfl, _, _⟩ := hsB.shape
       have y2 : Ext u2' (u2'.alloc (.cells #[.int .i64 cB.k, .int .i64 cB.d, .slice qcB cB.L.length ncB] 35)) := Ext.alloc _ _
       have y3 : Ext (u2'.alloc (.cells #[.int .i64 cB.k, .int .i64 cB.d, .slice qcB cB.L.length ncB] 35)) ((u2'.alloc (.cells #[.int .i64 cB.k, .int .i64 cB.d, .slice qcB cB.L.length ncB] 35)).alloc (.cells #[.int .i64 0, .int .i64 0, .slice none 0 0] 35)) := Ext.alloc _ _
       have K10 := Bk.new u2' [.int .i64 cB.k, .int .i64 cB.d, .slice qcB cB.L.length ncB] 35
       have K12 := Bk.new (u2'.alloc (.cells #[.int .i64 cB.k, .int .i64 cB.d, .slice qcB cB.L.length ncB] 35)) [.int .i64 0, .int .i64 0, .slice none 0 0] 35
       have K8b := (K8.ext x2).ext y2
       have i0 := K8b.get (o := 0) rfl
       have i1 := K8b.get (o := 1) rfl
       have i2 := K8b.get (o := 2) rfl
       have sz2 : (u2'.alloc (.cells #[.int .i64 cB.k, .int .i64 cB.d, .slice qcB cB.L.length ncB] 35)).heap.size = u2'.heap.size + 1 := World.size_alloc _ _
       have S5 := (S3.next y2).next y3
       have hgtb : w.heap.size + 4 ≤ u2'.heap.size := by have := S3.k6.lt; have := K8.lt; have := x2.size; have := S.k6.lt; have := x1.size; omega
       have hg6 : w0.heap.size < u1.heap.size := S1.k6.lt
       have hg7 : u1.heap.size < u2'.heap.size := by have := K8.lt; have := x2.size; omega
       have K10b := K10.ext y3
       have P := put3 K12 (.int .i64 cB.k) (.int .i64 cB.d) (.slice qcB cB.L.length ncB)
       have j0 := K10b.get (o := 0) rfl
       have j1 := K10b.get (o := 1) rfl
       have j2 := K10b.get (o := 2) rfl
       obtain ⟨w00, c0⟩ := P.c0
       obtain ⟨w01, c1⟩ := P.c1
       obtain ⟨w02, c2⟩ := P.c2
       have z0 := P.z0
       have z1 := P.z1
       have z22 := P.z2
       have Kp := P.bk
       rw [sz2] at c0 c1 c2 z0 z1 z22 Kp K12
       simp -dsimp -implicitDefEqProofs only [h7,h2,h3,h4,h6,chV,i0,i1,i2,m76,sF76,ZA,↓reduceIte,ZB,ZC,ZJ,ZK,ZE,ZF,ZG,ZH,ZI,reduceCtorEq,ZD,mwV,↓mwD,mwU]
       simp -dsimp -implicitDefEqProofs only [h7,h2,h3,h4,h6,sz2,j0,j1,j2,c0,c1,c2,z0,z1,z22,m76,sF76,ZA,↓reduceIte,ZB,ZC,ZJ,ZK,ZE,ZF,ZG,ZH,ZI,reduceCtorEq,ZD,mwV,↓mwD,mwU]
       have chp : ChP (fun j => j = u2'.heap.size + 1) ((u2'.alloc (.cells #[.int .i64 cB.k, .int .i64 cB.d, .slice qcB cB.L.length ncB] 35)).alloc (.cells #[.int .i64 0, .int .i64 0, .slice none 0 0] 35)) (((((u2'.alloc (.cells #[.int .i64 cB.k, .int .i64 cB.d, .slice qcB cB.L.length ncB] 35)).alloc (.cells #[.int .i64 0, .int .i64 0, .slice none 0 0] 35)).setCell ⟨u2'.heap.size + 1, 0, none⟩ (.int .i64 cB.k)).setCell ⟨u2'.heap.size + 1, 1, none⟩ (.int .i64 cB.d)).setCell ⟨u2'.heap.size + 1, 2, none⟩ (.slice qcB cB.L.length ncB)) :=
        ChP.setCell (G := fun j => j = u2'.heap.size + 1) (ChP.setCell (G := fun j => j = u2'.heap.size + 1) (ChP.setCell (G := fun j => j = u2'.heap.size + 1) (ChP.refl _ _) (fun _ => rfl) _) (fun _ => rfl) _) (fun _ => rfl) _
       have SP := S5.ch chp (by omega) (by omega) (K12.odd (by decide) (by decide))
       generalize (((World.setCell _ _ _).setCell _ _).setCell _ _) = U at *
       have K12 := Kp
       have hsl : SlI U _ (Fl.mk k cB).c.L := hsB.ext SP.ext
       have hne := (show 1 ≤ cB.L.length ∧ cB.L.length ≤ 20 from lenB)
       have SU : JrS w U w0.heap.size a.m _ _ v acc := SP
       obtain ⟨vv, U2, happ, hown, xU⟩ := copy_row U w.heap.size _ _ SU.ext.size hsl hne.1 (Nat.le_trans hne.2 (by decide))
       obtain ⟨qv, nv, cv, rfl⟩ := own_slice hown
       have K2 := K12.ext xU
       have z2 := K2.get (o := 2) rfl
       have fz := K2.frozen 2
       have K3 := K2.set 2 (.slice qv nv cv)
       have x0' := K12.get (o := 2) rfl
       have t0 := K3.get (o := 0) rfl
       have t1 := K3.get (o := 1) rfl
       have t2 := K3.get (o := 2) rfl
       have ch3 : ChP (fun j => j = (u2'.heap.size + 1)) U2 (U2.setCell ⟨(u2'.heap.size + 1), 2, none⟩ (.slice qv nv cv)) := ChP.setCell (G := fun j => j = (u2'.heap.size + 1)) (ChP.refl _ U2) (fun _ => rfl) _
       have SU3 := (SU.next xU).ch ch3 (by have := K12.lt; have := hgtb; omega) (by have := hgtb; omega) (K2.odd (by decide) (by decide))
       have hown3 := Own.off (o := 2) (x := .slice qv nv cv) hown (own_ne hown K2 (by decide))
       have y6 := SU3.k6.get (o := 1) rfl
       have xq0 := cell_old x0' (.cells #[] 3)
       simp -dsimp -implicitDefEqProofs only [h7,h2,h3,h4,h6,bs_none,xq0,sz2,m76,sF76,ZA,↓reduceIte,ZB,ZC,ZJ,ZK,ZE,ZF,ZG,ZH,ZI,reduceCtorEq,ZD,mwV,↓mwD,mwU]
       refine appB.mk happ ?_
       simp -dsimp -implicitDefEqProofs only [h7,h2,h3,h4,h6,sz2,z2,fz,m76,sF76,ZA,↓reduceIte,ZB,ZC,ZJ,ZK,ZE,ZF,ZG,ZH,ZI,reduceCtorEq,ZD,mwV,↓mwD,mwU]
       generalize U2.setCell _ _ = U3 at *
       obtain ⟨v2, u2, happ2, hown2, hg2⟩ := append_fl SU3.own.1 (Fl.mk k cB) (.slice qv nv cv) rfl (by omega) SU3.ext.size
       obtain ⟨p1, p2, p3, p4, p5, p6⟩ := OwnF.push SU3.ext SU3.k6 SU3.own (Ext.refl U3) (by omega) hown3 hown2 hg2
       obtain ⟨qw, nw, cw, rfl⟩ := own_slice hown2
       have g1 := p2.get (o := 1) rfl
       have gz := p2.frozen 1
       have bsf := bs_fl (Fl.mk k cB) (.slice qv nv cv)
       simp -dsimp -implicitDefEqProofs only [h7,h2,h3,h4,h6,sz2,y6,t0,t1,t2,bv_fl,bsf,m76,sF76,ZA,↓reduceIte,ZB,ZC,ZJ,ZK,ZE,ZF,ZG,ZH,ZI,reduceCtorEq,ZD,mwV,↓mwD,mwU]
       refine appB.mk happ2 ?_
       simp -dsimp -implicitDefEqProofs only [h7,h2,h3,h4,h6,g1,gz,hw,m76,sF76,ZA,↓reduceIte,ZB,ZC,ZJ,ZK,ZE,ZF,ZG,ZH,ZI,reduceCtorEq,ZD,mwV,↓mwD,mwU]
       have oddF : ∀ {j : Nat} {cs : List Value}, Bk U3 j cs 24 → Odd U3 j := fun h => h.odd (by decide) (by decide)
       refine ⟨⟨k + 1, _, acc ++ [((Fl.mk k cB), .slice qv nv cv)], by omega, by omega, by simp; omega, rfl, ⟨p5, ?_, ?_, ?_, p3, p4⟩, fun o ho => ?_⟩, by simp only [intOf]; omega⟩
       · unfold Bk; rw [p6 _ SU3.kA.lt (by omega) (oddF SU3.kA)]; exact SU3.kA
       · unfold Bk; rw [p6 _ SU3.kB.lt (by omega) (oddF SU3.kB)]; exact SU3.kB
       · unfold Bk; rw [p6 _ SU3.k4.lt (by omega) (oddF SU3.k4)]; exact SU3.k4
       · rw [ek] at ho
         have := hK (o.map ((Fl.mk k cB) :: ·)) (by rw [stA, stB, pairs_right geA]; exact ⟨o, ho, rfl⟩)
         rw [Option.map_map] at this
         have e : ((fun x => List.map (fun x => x.fst) acc ++ x) ∘ fun x => (Fl.mk k cB) :: x) = fun x => List.map (fun x => x.fst) (acc ++ [((Fl.mk k cB), .slice qv nv cv)]) ++ x := by funext l; simp
         rw [e] at this
         exact this
     | some cA =>
      obtain ⟨xA, hxA, hkA, hcA⟩ := atF_some hatA
      have vAv : cA.valid = true := by rw [← hcA]; exact (fieldsB_mem fA xA hxA).2.2
      have lenA : 1 ≤ cA.L.length ∧ cA.L.length ≤ 20 := ⟨valid_ne vAv, valid_len vAv⟩
      rw [hatA] at stA hr1
      obtain ⟨vA, rfl, hsA⟩ := hr1
      obtain ⟨qcA, ncA, rfl, _, _⟩ := hsA.shape
      have y1 : Ext u1 (u1.alloc (.cells #[.int .i64 cA.k, .int .i64 cA.d, .slice qcA cA.L.length ncA] 35)) := Ext.alloc _ _
      have K8 := Bk.new u1 [.int .i64 cA.k, .int .i64 cA.d, .slice qcA cA.L.length ncA] 35
      have S2 := S1.next y1
      have b0 := S2.kB.get (o := 0) rfl
      have b1 := S2.kB.get (o := 1) rfl
      simp -dsimp -implicitDefEqProofs only [h7,h2,h3,h4,h6,chV,b0,b1,m76,sF76,ZA,↓reduceIte,ZB,ZC,ZJ,ZK,ZE,ZF,ZG,ZH,ZI,reduceCtorEq,ZD,mwV,↓mwD,mwU]
      have sz1 : (u1.alloc (.cells #[.int .i64 cA.k, .int .i64 cA.d, .slice qcA cA.L.length ncA] 35)).heap.size = u1.heap.size + 1 := World.size_alloc _ _
      generalize u1.alloc (.cells #[.int .i64 cA.k, .int .i64 cA.d, .slice qcA cA.L.length ncA] 35) = v1 at *
      replace K8 : Bk v1 u1.heap.size [.int .i64 cA.k, .int .i64 cA.d, .slice qcA cA.L.length ncA] 35 := K8
      refine (At_c b _ k w v1 hB S2.ext).use ?_
      rintro r u2' ⟨x2, hr2⟩
      have S3 := S2.next x2
      cases hatB : atF b.F (k : Int) with
      | none =>
       rw [hatB] at stB hr2
       simp only at hr2
       subst hr2
       have y2 : Ext u2' (u2'.alloc (.cells #[.int .i64 0, .int .i64 0, .slice none 0 0] 35)) := Ext.alloc _ _
       have y3 : Ext (u2'.alloc (.cells #[.int .i64 0, .int .i64 0, .slice none 0 0] 35)) ((u2'.alloc (.cells #[.int .i64 0, .int .i64 0, .slice none 0 0] 35)).alloc (.cells #[.int .i64 cA.k, .int .i64 cA.d, .slice qcA cA.L.length ncA] 35)) := Ext.alloc _ _
       have K10 := Bk.new u2' [.int .i64 0, .int .i64 0, .slice none 0 0] 35
       have K12 := Bk.new (u2'.alloc (.cells #[.int .i64 0, .int .i64 0, .slice none 0 0] 35)) [.int .i64 cA.k, .int .i64 cA.d, .slice qcA cA.L.length ncA] 35
       have K8b := (K8.ext x2).ext y2
       have i0 := K8b.get (o := 0) rfl
       have i1 := K8b.get (o := 1) rfl
       have i2 := K8b.get (o := 2) rfl
       have sz2 : (u2'.alloc (.cells #[.int .i64 0, .int .i64 0, .slice none 0 0] 35)).heap.size = u2'.heap.size + 1 := World.size_alloc _ _
       have S5 := (S3.next y2).next y3
       have hgtb : w.heap.size + 4 ≤ u2'.heap.size := by have := S3.k6.lt; have := K8.lt; have := x2.size; have := S.k6.lt; have := x1.size; omega
       have hg6 : w0.heap.size < u1.heap.size := S1.k6.lt
       have hg7 : u1.heap.size < u2'.heap.size := by have := K8.lt; have := x2.size; omega
       simp -dsimp -implicitDefEqProofs only [h7,h2,h3,h4,h6,chV,i0,i1,i2,m76,sF76,ZA,↓reduceIte,ZB,ZC,ZJ,ZK,ZE,ZF,ZG,ZH,ZI,reduceCtorEq,ZD,mwV,↓mwD,mwU]
       generalize hU : (u2'.alloc (.cells #[.int .i64 0, .int .i64 0, .slice none 0 0] 35)).alloc (.cells #[.int .i64 cA.k, .int .i64 cA.d, .slice qcA cA.L.length ncA] 35) = U at *
       rw [sz2] at K12
       have K12 := K12
       have hsl : SlI U _ (Fl.mk k cA).c.L := hsA.ext S5.ext
       have hne := (show 1 ≤ cA.L.length ∧ cA.L.length ≤ 20 from lenA)
       have SU : JrS w U w0.heap.size a.m _ _ v acc := S5
       obtain ⟨vv, U2, happ, hown, xU⟩ := copy_row U w.heap.size _ _ SU.ext.size hsl hne.1 (Nat.le_trans hne.2 (by decide))
       obtain ⟨qv, nv, cv, rfl⟩ := own_slice hown
       have K2 := K12.ext xU
       have z2 := K2.get (o := 2) rfl
       have fz := K2.frozen 2
       have K3 := K2.set 2 (.slice qv nv cv)
       have x0' := K12.get (o := 2) rfl
       have t0 := K3.get (o := 0) rfl
       have t1 := K3.get (o := 1) rfl
       have t2 := K3.get (o := 2) rfl
       have ch3 : ChP (fun j => j = (u2'.heap.size + 1)) U2 (U2.setCell ⟨(u2'.heap.size + 1), 2, none⟩ (.slice qv nv cv)) := ChP.setCell (G := fun j => j = (u2'.heap.size + 1)) (ChP.refl _ U2) (fun _ => rfl) _
       have SU3 := (SU.next xU).ch ch3 (by have := K12.lt; have := hgtb; omega) (by have := hgtb; omega) (K2.odd (by decide) (by decide))
       have hown3 := Own.off (o := 2) (x := .slice qv nv cv) hown (own_ne hown K2 (by decide))
       have y6 := SU3.k6.get (o := 1) rfl
       have xq0 := cell_old x0' (.cells #[] 3)
       simp -dsimp -implicitDefEqProofs only [h7,h2,h3,h4,h6,bs_none,xq0,sz2,m76,sF76,ZA,↓reduceIte,ZB,ZC,ZJ,ZK,ZE,ZF,ZG,ZH,ZI,reduceCtorEq,ZD,mwV,↓mwD,mwU]
       refine appB.mk happ ?_
       simp -dsimp -implicitDefEqProofs only [h7,h2,h3,h4,h6,sz2,z2,fz,m76,sF76,ZA,↓reduceIte,ZB,ZC,ZJ,ZK,ZE,ZF,ZG,ZH,ZI,reduceCtorEq,ZD,mwV,↓mwD,mwU]
       generalize U2.setCell _ _ = U3 at *
       obtain ⟨v2, u2, happ2, hown2, hg2⟩ := append_fl SU3.own.1 (Fl.mk k cA) (.slice qv nv cv) rfl (by omega) SU3.ext.size
       obtain ⟨p1, p2, p3, p4, p5, p6⟩ := OwnF.push SU3.ext SU3.k6 SU3.own (Ext.refl U3) (by omega) hown3 hown2 hg2
       obtain ⟨qw, nw, cw, rfl⟩ := own_slice hown2
       have g1 := p2.get (o := 1) rfl
       have gz := p2.frozen 1
       have bsf := bs_fl (Fl.mk k cA) (.slice qv nv cv)
       simp -dsimp -implicitDefEqProofs only [h7,h2,h3,h4,h6,sz2,y6,t0,t1,t2,bv_fl,bsf,m76,sF76,ZA,↓reduceIte,ZB,ZC,ZJ,ZK,ZE,ZF,ZG,ZH,ZI,reduceCtorEq,ZD,mwV,↓mwD,mwU]
       refine appB.mk happ2 ?_
       simp -dsimp -implicitDefEqProofs only [h7,h2,h3,h4,h6,g1,gz,hw,m76,sF76,ZA,↓reduceIte,ZB,ZC,ZJ,ZK,ZE,ZF,ZG,ZH,ZI,reduceCtorEq,ZD,mwV,↓mwD,mwU]
       have oddF : ∀ {j : Nat} {cs : List Value}, Bk U3 j cs 24 → Odd U3 j := fun h => h.odd (by decide) (by decide)
       refine ⟨⟨k + 1, _, acc ++ [((Fl.mk k cA), .slice qv nv cv)], by omega, by omega, by simp; omega, rfl, ⟨p5, ?_, ?_, ?_, p3, p4⟩, fun o ho => ?_⟩, by simp only [intOf]; omega⟩
       · unfold Bk; rw [p6 _ SU3.kA.lt (by omega) (oddF SU3.kA)]; exact SU3.kA
       · unfold Bk; rw [p6 _ SU3.kB.lt (by omega) (oddF SU3.kB)]; exact SU3.kB
       · unfold Bk; rw [p6 _ SU3.k4.lt (by omega) (oddF SU3.k4)]; exact SU3.k4
       · rw [ek] at ho
         have := hK (o.map ((Fl.mk k cA) :: ·)) (by rw [stA, stB, pairs_left geB]; exact ⟨o, ho, rfl⟩)
         rw [Option.map_map] at this
         have e : ((fun x => List.map (fun x => x.fst) acc ++ x) ∘ fun x => (Fl.mk k cA) :: x) = fun x => List.map (fun x => x.fst) (acc ++ [((Fl.mk k cA), .slice qv nv cv)]) ++ x := by funext l; simp
         rw [e] at this
         exact this
      | some cB =>
       obtain ⟨xB, hxB, hkB, hcB⟩ := atF_some hatB
       have vBv : cB.valid = true := by rw [← hcB]; exact (fieldsB_mem fB xB hxB).2.2
       have lenB : 1 ≤ cB.L.length ∧ cB.L.length ≤ 20 := ⟨valid_ne vBv, valid_len vBv⟩
       rw [hatB] at stB hr2
       obtain ⟨vB, rfl, hsB⟩ := hr2
       obtain ⟨qcB, ncB, rfl, _, _⟩ := hsB.shape
       have y2 : Ext u2' (u2'.alloc (.cells #[.int .i64 cB.k, .int .i64 cB.d, .slice qcB cB.L.length ncB] 35)) := Ext.alloc _ _
       have y3 : Ext (u2'.alloc (.cells #[.int .i64 cB.k, .int .i64 cB.d, .slice qcB cB.L.length ncB] 35)) ((u2'.alloc (.cells #[.int .i64 cB.k, .int .i64 cB.d, .slice qcB cB.L.length ncB] 35)).alloc (.cells #[.int .i64 cA.k, .int .i64 cA.d, .slice qcA cA.L.length ncA] 35)) := Ext.alloc _ _
       have K10 := Bk.new u2' [.int .i64 cB.k, .int .i64 cB.d, .slice qcB cB.L.length ncB] 35
       have K12 := Bk.new (u2'.alloc (.cells #[.int .i64 cB.k, .int .i64 cB.d, .slice qcB cB.L.length ncB] 35)) [.int .i64 cA.k, .int .i64 cA.d, .slice qcA cA.L.length ncA] 35
       have K8b := (K8.ext x2).ext y2
       have i0 := K8b.get (o := 0) rfl
       have i1 := K8b.get (o := 1) rfl
       have i2 := K8b.get (o := 2) rfl
       have sz2 : (u2'.alloc (.cells #[.int .i64 cB.k, .int .i64 cB.d, .slice qcB cB.L.length ncB] 35)).heap.size = u2'.heap.size + 1 := World.size_alloc _ _
       have S5 := (S3.next y2).next y3
       have hgtb : w.heap.size + 4 ≤ u2'.heap.size := by have := S3.k6.lt; have := K8.lt; have := x2.size; have := S.k6.lt; have := x1.size; omega
       have hg6 : w0.heap.size < u1.heap.size := S1.k6.lt
       have hg7 : u1.heap.size < u2'.heap.size := by have := K8.lt; have := x2.size; omega
       rw [sz2] at K12
       have K10b := K10.ext y3
       have K8c := K8b.ext y3
       have j0 := K10b.get (o := 0) rfl
       have j1 := K10b.get (o := 1) rfl
       have j2 := K10b.get (o := 2) rfl
       have l0 := K8c.get (o := 0) rfl
       have l1 := K8c.get (o := 1) rfl
       have l2 := K8c.get (o := 2) rfl
       simp -dsimp -implicitDefEqProofs only [h7,h2,h3,h4,h6,chV,i0,i1,i2,m76,sF76,ZA,↓reduceIte,ZB,ZC,ZJ,ZK,ZE,ZF,ZG,ZH,ZI,reduceCtorEq,ZD,mwV,↓mwD,mwU]
       simp -dsimp -implicitDefEqProofs only [h7,h2,h3,h4,h6,sz2,j0,j1,j2,l0,l1,l2,m76,sF76,ZA,↓reduceIte,ZB,ZC,ZJ,ZK,ZE,ZF,ZG,ZH,ZI,reduceCtorEq,ZD,mwV,↓mwD,mwU]
       generalize hU : (u2'.alloc (.cells #[.int .i64 cB.k, .int .i64 cB.d, .slice qcB cB.L.length ncB] 35)).alloc (.cells #[.int .i64 cA.k, .int .i64 cA.d, .slice qcA cA.L.length ncA] 35) = U0 at *
       refine (Met_c cA cB _ _ U0 vAv vBv (hsA.ext S5.ext) (hsB.ext S5.ext)).use ?_
       rintro r U1 ⟨x5, o', hmet, ho'⟩
       have S6 := S5.next x5
       have K12' := K12.ext x5
       cases o' with
       | none =>
        simp only at ho'
        subst ho'
        have P := put3 K12' (.int .i64 0) (.int .i64 0) (.slice none 0 0)
        obtain ⟨w00, c0⟩ := P.c0
        obtain ⟨w01, c1⟩ := P.c1
        obtain ⟨w02, c2⟩ := P.c2
        have z0 := P.z0
        have z1 := P.z1
        have z22 := P.z2
        have chp : ChP (fun j => j = u2'.heap.size + 1) U1 (((U1.setCell ⟨u2'.heap.size + 1, 0, none⟩ (.int .i64 0)).setCell ⟨u2'.heap.size + 1, 1, none⟩ (.int .i64 0)).setCell ⟨u2'.heap.size + 1, 2, none⟩ (.slice none 0 0)) :=
         ChP.setCell (G := fun j => j = u2'.heap.size + 1) (ChP.setCell (G := fun j => j = u2'.heap.size + 1) (ChP.setCell (G := fun j => j = u2'.heap.size + 1) (ChP.refl _ _) (fun _ => rfl) _) (fun _ => rfl) _) (fun _ => rfl) _
        have SP := S6.ch chp (by omega) (by omega) (K12'.odd (by decide) (by decide))
        have d1 := SP.k4.set 0 (.int .i64 0)
        have d2 := d1.set 1 (.slice none 0 0)
        have e0 := SP.k4.get (o := 0) rfl
        have e1 := d1.get (o := 1) rfl
        have f0 := SP.k4.frozen 0
        have f1 := d1.frozen 1
        have r0 := d2.get (o := 0) rfl
        have r1 := d2.get (o := 1) rfl
        simp -dsimp -implicitDefEqProofs only [h7,h2,h3,h4,h6,sz2,c0,c1,c2,z0,z1,z22,bv_fm0,e0,e1,f0,f1,r0,r1,m76,sF76,ZA,↓reduceIte,ZB,ZC,ZJ,ZK,ZE,ZF,ZG,ZH,ZI,reduceCtorEq,ZD,mwV,↓mwD,mwU]
        refine ⟨(SP.ext.setCell (by simp) _).setCell (by simp) _, ?_⟩
        rw [if_pos hm]
        refine ⟨none, ?_, rfl⟩
        have := hK none (by rw [stA, stB, pairs_same]; exact ⟨none, hmet, rfl⟩)
        exact this
       | some cM =>
        obtain ⟨vM, rfl, hownM⟩ := ho'
        have vMv := (met_ok vAv vBv hmet).1
        have lenM : 1 ≤ cM.L.length ∧ cM.L.length ≤ 20 := ⟨valid_ne vMv, valid_len vMv⟩
        obtain ⟨_, qM, nM, rfl⟩ := own_shape hownM
        have P := put3 K12' (.int .i64 cM.k) (.int .i64 cM.d) (.slice qM cM.L.length nM)
        obtain ⟨w00, c0⟩ := P.c0
        obtain ⟨w01, c1⟩ := P.c1
        obtain ⟨w02, c2⟩ := P.c2
        have z0 := P.z0
        have z1 := P.z1
        have z22 := P.z2
        have Kp := P.bk
        have chp : ChP (fun j => j = u2'.heap.size + 1) U1 (((U1.setCell ⟨u2'.heap.size + 1, 0, none⟩ (.int .i64 cM.k)).setCell ⟨u2'.heap.size + 1, 1, none⟩ (.int .i64 cM.d)).setCell ⟨u2'.heap.size + 1, 2, none⟩ (.slice qM cM.L.length nM)) :=
         ChP.setCell (G := fun j => j = u2'.heap.size + 1) (ChP.setCell (G := fun j => j = u2'.heap.size + 1) (ChP.setCell (G := fun j => j = u2'.heap.size + 1) (ChP.refl _ _) (fun _ => rfl) _) (fun _ => rfl) _) (fun _ => rfl) _
        have SP := S6.ch chp (by omega) (by omega) (K12'.odd (by decide) (by decide))
        have slM : SlI (((U1.setCell ⟨u2'.heap.size + 1, 0, none⟩ (.int .i64 cM.k)).setCell ⟨u2'.heap.size + 1, 1, none⟩ (.int .i64 cM.d)).setCell ⟨u2'.heap.size + 1, 2, none⟩ (.slice qM cM.L.length nM)) (.slice qM cM.L.length nM) cM.L := Own.sl (Own.set3 hownM (by have := K12.lt; omega) _ _ _)
        simp -dsimp -implicitDefEqProofs only [h7,h2,h3,h4,h6,sz2,chV,c0,c1,c2,z0,z1,z22,m76,sF76,ZA,↓reduceIte,ZB,ZC,ZJ,ZK,ZE,ZF,ZG,ZH,ZI,reduceCtorEq,ZD,mwV,↓mwD,mwU]
        generalize (((U1.setCell _ _).setCell _ _).setCell _ _) = U at *
        have K12 := Kp
        have hsl : SlI U _ (Fl.mk k cM).c.L := slM
        have hne := (show 1 ≤ cM.L.length ∧ cM.L.length ≤ 20 from lenM)
        have SU : JrS w U w0.heap.size a.m _ _ v acc := SP
        obtain ⟨vv, U2, happ, hown, xU⟩ := copy_row U w.heap.size _ _ SU.ext.size hsl hne.1 (Nat.le_trans hne.2 (by decide))
        obtain ⟨qv, nv, cv, rfl⟩ := own_slice hown
        have K2 := K12.ext xU
        have z2 := K2.get (o := 2) rfl
        have fz := K2.frozen 2
        have K3 := K2.set 2 (.slice qv nv cv)
        have x0' := K12.get (o := 2) rfl
        have t0 := K3.get (o := 0) rfl
        have t1 := K3.get (o := 1) rfl
        have t2 := K3.get (o := 2) rfl
        have ch3 : ChP (fun j => j = (u2'.heap.size + 1)) U2 (U2.setCell ⟨(u2'.heap.size + 1), 2, none⟩ (.slice qv nv cv)) := ChP.setCell (G := fun j => j = (u2'.heap.size + 1)) (ChP.refl _ U2) (fun _ => rfl) _
        have SU3 := (SU.next xU).ch ch3 (by have := K12.lt; have := hgtb; omega) (by have := hgtb; omega) (K2.odd (by decide) (by decide))
        have hown3 := Own.off (o := 2) (x := .slice qv nv cv) hown (own_ne hown K2 (by decide))
        have y6 := SU3.k6.get (o := 1) rfl
        have xq0 := cell_old x0' (.cells #[] 3)
        simp -dsimp -implicitDefEqProofs only [h7,h2,h3,h4,h6,bs_none,xq0,sz2,m76,sF76,ZA,↓reduceIte,ZB,ZC,ZJ,ZK,ZE,ZF,ZG,ZH,ZI,reduceCtorEq,ZD,mwV,↓mwD,mwU]
        refine appB.mk happ ?_
        simp -dsimp -implicitDefEqProofs only [h7,h2,h3,h4,h6,sz2,z2,fz,m76,sF76,ZA,↓reduceIte,ZB,ZC,ZJ,ZK,ZE,ZF,ZG,ZH,ZI,reduceCtorEq,ZD,mwV,↓mwD,mwU]
        generalize U2.setCell _ _ = U3 at *
        obtain ⟨v2, u2, happ2, hown2, hg2⟩ := append_fl SU3.own.1 (Fl.mk k cM) (.slice qv nv cv) rfl (by omega) SU3.ext.size
        obtain ⟨p1, p2, p3, p4, p5, p6⟩ := OwnF.push SU3.ext SU3.k6 SU3.own (Ext.refl U3) (by omega) hown3 hown2 hg2
        obtain ⟨qw, nw, cw, rfl⟩ := own_slice hown2
        have g1 := p2.get (o := 1) rfl
        have gz := p2.frozen 1
        have bsf := bs_fl (Fl.mk k cM) (.slice qv nv cv)
        simp -dsimp -implicitDefEqProofs only [h7,h2,h3,h4,h6,sz2,y6,t0,t1,t2,bv_fl,bsf,m76,sF76,ZA,↓reduceIte,ZB,ZC,ZJ,ZK,ZE,ZF,ZG,ZH,ZI,reduceCtorEq,ZD,mwV,↓mwD,mwU]
        refine appB.mk happ2 ?_
        simp -dsimp -implicitDefEqProofs only [h7,h2,h3,h4,h6,g1,gz,hw,m76,sF76,ZA,↓reduceIte,ZB,ZC,ZJ,ZK,ZE,ZF,ZG,ZH,ZI,reduceCtorEq,ZD,mwV,↓mwD,mwU]
        have oddF : ∀ {j : Nat} {cs : List Value}, Bk U3 j cs 24 → Odd U3 j := fun h => h.odd (by decide) (by decide)
        refine ⟨⟨k + 1, _, acc ++ [((Fl.mk k cM), .slice qv nv cv)], by omega, by omega, by simp; omega, rfl, ⟨p5, ?_, ?_, ?_, p3, p4⟩, fun o ho => ?_⟩, by simp only [intOf]; omega⟩
        · unfold Bk; rw [p6 _ SU3.kA.lt (by omega) (oddF SU3.kA)]; exact SU3.kA
        · unfold Bk; rw [p6 _ SU3.kB.lt (by omega) (oddF SU3.kB)]; exact SU3.kB
        · unfold Bk; rw [p6 _ SU3.k4.lt (by omega) (oddF SU3.k4)]; exact SU3.k4
        · rw [ek] at ho
          have := hK (o.map ((Fl.mk k cM) :: ·)) (by rw [stA, stB, pairs_same]; exact ⟨some cM, hmet, o, ho, rfl⟩)
          rw [Option.map_map] at this
          have e : ((fun x => List.map (fun x => x.fst) acc ++ x) ∘ fun x => (Fl.mk k cM) :: x) = fun x => List.map (fun x => x.fst) (acc ++ [((Fl.mk k cM), .slice qv nv cv)]) ++ x := by funext l; simp
          rw [e] at this
          exact this
   · have hk : k = 7 := by omega
     subst hk
     obtain ⟨qv, nv, cv, rfl⟩ := own_slice S.own.1
     have c0 := S.k6.get (o := 0) rfl
     have c1 := S.k6.get (o := 1) rfl
     have b0 := S.k4.get (o := 0) rfl
     have d1 := S.k4.set 0 (.int .i64 a.m)
     have b1 := d1.get (o := 1) rfl
     have d2 := d1.set 1 (.slice qv nv cv)
     have f0 := S.k4.frozen 0
     have f1 := d1.frozen 1
     have r0 := d2.get (o := 0) rfl
     have r1 := d2.get (o := 1) rfl
     have hch : ChP (fun j => j = w.heap.size + 2) u ((u.setCell ⟨w.heap.size + 2, 0, none⟩ (.int .i64 a.m)).setCell ⟨w.heap.size + 2, 1, none⟩ (.slice qv nv cv)) := ChP.setCell (G := fun k => k = w.heap.size + 2) (ChP.setCell (G := fun k => k = w.heap.size + 2) (ChP.refl _ u) (fun _ => rfl) _) (fun _ => rfl) _
     simp -dsimp -implicitDefEqProofs only [h7,h2,h3,h4,h6,c0,c1,b0,b1,f0,f1,r0,r1,m76,sF76,ZA,↓reduceIte,ZB,ZC,ZJ,ZK,ZE,ZF,ZG,ZH,ZI,reduceCtorEq,ZD,mwV,↓mwD,mwU]
     refine ⟨hch.ext S.ext (fun b hb => by subst hb; omega), ?_⟩
     rw [if_pos hm]
     refine ⟨some (acc.map (·.1)), ?_, _, acc, rfl, rfl, S.own.ch hch (fun b hb => by subst hb; exact S.k4.odd (by decide) (by decide))⟩
     have := hK (some []) (by rw [show ((7 : Nat) : Int) = 7 from rfl, fromK_seven fA, fromK_seven fB, pairs]; rfl)
     simpa using this
end Go.Proofs.YthcdnjbhhaonhaaGreatDoor

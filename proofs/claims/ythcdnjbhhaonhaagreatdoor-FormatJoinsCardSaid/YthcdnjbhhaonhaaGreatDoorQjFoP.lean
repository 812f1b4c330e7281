/- Layer 02: package format's Field; the reference's among. -/
import Derived.Test.YthcdnjbhhaonhaaGreatDoorQjFoO
import Derived.Test.YthcdnjbhhaonhaaGreatDoorQjChTToChX

namespace Go.Proofs.YthcdnjbhhaonhaaGreatDoor
open Go.RowKit
open Nat renaming reduceEqDiff → ZA, reduceAdd → ZB, reduceMul → ZC, reduceSub → ZD
open Int renaming reduceToNat → ZE, reduceEq → ZF, reduceLT → ZG, reduceLE → ZH, reduceNeg → ZI
open Go.Value renaming oneCell' → ZK, cells → ZJ
set_option linter.unusedSimpArgs false
theorem Field_c (f : Fm) (s : Value) (key : Int) (w : World) (hs : SlF w s f.F) : Rets Go.Proofs.Tryz.prog 41 #[fmV f s, .int .i64 key] w (FieldQ f key w) := by
 obtain ⟨p, cap, rfl, hc1, hc2⟩ := hs.shape
 obtain ⟨W, hW, A, B, hx⟩ := box_fm w [.int .i64 f.m, .slice p f.F.length cap] 24 [.int .i64 0, .int .i64 0, .slice none 0 0] 35
 have hsz : W.heap.size = w.heap.size + 2 := by rw [hW]; simp only [World.size_alloc]
 refine en41 ?_
 refine mwpB_cut 1 (fun e ds w' => e 1 = .int .i64 key ∧ e 2 = .pointer (some ⟨w.heap.size, 0, none⟩) ∧ e 4 = .pointer (some ⟨w.heap.size + 1, 0, none⟩) ∧ ds = [] ∧ w' = W) ?_ ?_
 · simp -dsimp -implicitDefEqProofs only [fmV,headM_zero,headM_seq,World.size_alloc,hW,m41,sF41,ZA,↓reduceIte,ZB,ZC,ZJ,ZK,ZE,ZF,ZG,ZH,ZI,reduceCtorEq,ZD,mwV,↓mwD,mwU]
 rintro e ds w0 ⟨k1, k2, k4, rfl, rfl⟩
 clear hW
 have A0 := A.get (o := 0) rfl
 have A1 := A.get (o := 1) rfl
 simp -dsimp -implicitDefEqProofs only [tailM_zero,tailM_seq,k1,k2,k4,A0,A1,m41,sF41,ZA,↓reduceIte,ZB,ZC,ZJ,ZK,ZE,ZF,ZG,ZH,ZI,reduceCtorEq,ZD,mwV,↓mwD,mwU]
 refine (Valid_c f _ w0 (hs.ext hx)).use ?_
 rintro r w1 ⟨rfl, h1⟩
 have hx1 := hx.trans h1
 have zero : ∀ {w' : World}, Ext w0 w' → Put3 w' (w.heap.size + 1) (.int .i64 0) (.int .i64 0) (.slice none 0 0) 35 := fun h => put3 (B.ext h) _ _ _
 cases hv : f.valid
 · have P := zero h1
   obtain ⟨y0, c0⟩ := P.c0
   obtain ⟨y1, c1⟩ := P.c1
   obtain ⟨y2, c2⟩ := P.c2
   have z0 := P.z0
   have z1 := P.z1
   have z2 := P.z2
   have r0 := P.bk.get (o := 0) rfl
   have r1 := P.bk.get (o := 1) rfl
   have r2 := P.bk.get (o := 2) rfl
   simp -dsimp -implicitDefEqProofs only [k1,k2,k4,bv_ch0,c0,c1,c2,z0,z1,z2,r0,r1,r2,m41,sF41,ZA,↓reduceIte,ZB,ZC,ZJ,ZK,ZE,ZF,ZG,ZH,ZI,reduceCtorEq,ZD,mwV,↓mwD,mwU]
   refine ⟨hx1.set3 (by omega) _ _ _, ?_⟩
   rw [hv]; rfl
 · have A1 := (A.ext h1).get (o := 1) rfl
   simp -dsimp -implicitDefEqProofs only [k1,k2,k4,A1,m41,sF41,ZA,↓reduceIte,ZB,ZC,ZJ,ZK,ZE,ZF,ZG,ZH,ZI,reduceCtorEq,ZD,mwV,↓mwD,mwU]
   refine mwpB_loop (fun e ds w' => ∃ k : Nat, k ≤ f.F.length ∧ e 15 = .int .i64 k ∧ e 14 = .int .i64 f.F.length ∧ e 13 = .slice p f.F.length cap ∧ e 1 = .int .i64 key ∧ e 4 = .pointer (some ⟨w.heap.size + 1, 0, none⟩) ∧ ds = [] ∧ Ext w0 w' ∧ atF f.F key = atF (f.F.drop k) key)
    (fun e _ => f.F.length - (intOf (e 15)).toNat) ?_ ?_
   · simp -dsimp -implicitDefEqProofs only [k1,k2,k4,m41,sF41,ZA,↓reduceIte,ZB,ZC,ZJ,ZK,ZE,ZF,ZG,ZH,ZI,reduceCtorEq,ZD,mwV,↓mwD,mwU]
     exact ⟨0, by omega, rfl, h1, rfl⟩
   · rintro e ds w' ⟨k, hk, h15, h14, h13, k1, k4, rfl, hxx, hat⟩
     simp -dsimp -implicitDefEqProofs only [h15,h14,h13,k1,k4,m41,sF41,ZA,↓reduceIte,ZB,ZC,ZJ,ZK,ZE,ZF,ZG,ZH,ZI,reduceCtorEq,ZD,mwV,↓mwD,mwU]
     refine iteW_dec (fun hlt => ?_) (fun hge => ?_)
     · have hlt' : k < f.F.length := by omega
       obtain ⟨b, o, rfl, hfs⟩ := (hs.ext (hx.trans hxx)).at (by intro h0; rw [h0] at hlt'; simp at hlt')
       obtain ⟨sk, q0, q1, q2, q3, hsk⟩ := hfs.get hlt'
       obtain ⟨ps, cs, rfl, _, _⟩ := hsk.shape
       have hb1 : (0 : Int) ≤ k ∧ (k : Int) < f.F.length := by omega
       have hw := w64_succ hlt' (Nat.le_trans hc1 hc2)
       rw [atF_drop hlt'] at hat
       have vk : f.F[k].c.valid = true := by
        unfold Fm.valid at hv
        simp only [Bool.and_eq_true] at hv
        exact (fieldsB_mem hv.1 _ (List.getElem_mem hlt')).2.2
       have xC : Ext w' (w'.alloc (.cells #[.int .i64 f.F[k].key, .int .i64 f.F[k].c.k, .int .i64 f.F[k].c.d, .slice ps f.F[k].c.L.length cs] 72)) := Ext.alloc _ _
       have C := Bk.new w' [.int .i64 f.F[k].key, .int .i64 f.F[k].c.k, .int .i64 f.F[k].c.d, .slice ps f.F[k].c.L.length cs] 72
       have g1 := C.get (o := 1) rfl
       have g2 := C.get (o := 2) rfl
       have g3 := C.get (o := 3) rfl
       by_cases he : f.F[k].key = key
       · have de : decide (f.F[k].key = key) = true := by simp [he]
         rw [if_pos he] at hat
         simp -dsimp -implicitDefEqProofs only [h15,h14,h13,k1,k4,hb1,and_self,q0,q1,q2,q3,Nat.mul_comm k 4,de,g1,g2,g3,m41,sF41,ZA,↓reduceIte,ZB,ZC,ZJ,ZK,ZE,ZF,ZG,ZH,ZI,reduceCtorEq,ZD,mwV,↓mwD,mwU]
         refine (own_c f.F[k].c _ _ (hsk.ext xC) (by have := valid_len vk; omega)).use ?_
         rintro r w2 ⟨h2, v, rfl, hown⟩
         obtain ⟨_, qv, cv, rfl⟩ := own_shape hown
         have hB := B.ext (hxx.trans (xC.trans h2))
         have P := put3 hB (.int .i64 f.F[k].c.k) (.int .i64 f.F[k].c.d) (.slice qv f.F[k].c.L.length cv)
         obtain ⟨y0, c0⟩ := P.c0
         obtain ⟨y1, c1⟩ := P.c1
         obtain ⟨y2, c2⟩ := P.c2
         have z0 := P.z0
         have z1 := P.z1
         have z2 := P.z2
         have r0 := P.bk.get (o := 0) rfl
         have r1 := P.bk.get (o := 1) rfl
         have r2 := P.bk.get (o := 2) rfl
         have hsl : SlI (((w2.setCell ⟨w.heap.size + 1, 0, none⟩ (.int .i64 f.F[k].c.k)).setCell ⟨w.heap.size + 1, 1, none⟩ (.int .i64 f.F[k].c.d)).setCell ⟨w.heap.size + 1, 2, none⟩ (.slice qv f.F[k].c.L.length cv)) (.slice qv f.F[k].c.L.length cv) f.F[k].c.L :=
          Own.sl (Own.set3 hown (by have := hxx.size; rw [World.size_alloc]; omega) _ _ _)
         simp -dsimp -implicitDefEqProofs only [k1,k4,chV,c0,c1,c2,z0,z1,z2,r0,r1,r2,m41,sF41,ZA,↓reduceIte,ZB,ZC,ZJ,ZK,ZE,ZF,ZG,ZH,ZI,reduceCtorEq,ZD,mwV,↓mwD,mwU]
         refine ⟨((hx.trans hxx).trans (xC.trans h2)).set3 (by omega) _ _ _, ?_⟩
         rw [if_pos hv, hat]
         exact ⟨_, rfl, hsl⟩
       · have de : decide (f.F[k].key = key) = false := by simp [he]
         rw [if_neg he] at hat
         simp -dsimp -implicitDefEqProofs only [h15,h14,h13,k1,k4,hb1,and_self,q0,q1,q2,q3,Nat.mul_comm k 4,de,hw,m41,sF41,ZA,↓reduceIte,ZB,ZC,ZJ,ZK,ZE,ZF,ZG,ZH,ZI,reduceCtorEq,ZD,mwV,↓mwD,mwU]
         exact ⟨⟨k + 1, by omega, rfl, hxx.trans xC, hat⟩, by simp only [intOf]; omega⟩
     · have hkl : k = f.F.length := by omega
       subst hkl
       rw [List.drop_length] at hat
       have P := zero hxx
       obtain ⟨y0, c0⟩ := P.c0
       obtain ⟨y1, c1⟩ := P.c1
       obtain ⟨y2, c2⟩ := P.c2
       have z0 := P.z0
       have z1 := P.z1
       have z2 := P.z2
       have r0 := P.bk.get (o := 0) rfl
       have r1 := P.bk.get (o := 1) rfl
       have r2 := P.bk.get (o := 2) rfl
       simp -dsimp -implicitDefEqProofs only [h15,h14,h13,k1,k4,bv_ch0,c0,c1,c2,z0,z1,z2,r0,r1,r2,m41,sF41,ZA,↓reduceIte,ZB,ZC,ZJ,ZK,ZE,ZF,ZG,ZH,ZI,reduceCtorEq,ZD,mwV,↓mwD,mwU]
       refine ⟨(hx.trans hxx).set3 (by omega) _ _ _, ?_⟩
       rw [if_pos hv, hat]; rfl
theorem among_c (a b : Ch) (sa sb : Value) (w : World) (va : a.valid = true) (vb : b.valid = true) (ha : SlI w sa a.L) (hb : SlI w sb b.L) :
 Rets Go.Proofs.Tryz.prog 82 #[chV a sa, chV b sb] w fun r w' => Ext w w' ∧ ∃ x : Bool, r = .bool x ∧ (x = true ↔ wiC a b) := by
 have fa := valid_fit va
 have fb := valid_fit vb
 obtain ⟨pa, ca, rfl, _, _⟩ := ha.shape
 obtain ⟨pb, cb, rfl, _, _⟩ := hb.shape
 obtain ⟨W, hW, A, B, hx⟩ := box_fm w [.int .i64 a.k, .int .i64 a.d, .slice pa a.L.length ca] 35 [.int .i64 b.k, .int .i64 b.d, .slice pb b.L.length cb] 35
 refine en82 ?_
 refine mwpB_cut 1 (fun e ds w' => e 2 = .pointer (some ⟨w.heap.size, 0, none⟩) ∧ e 3 = .pointer (some ⟨w.heap.size + 1, 0, none⟩) ∧ ds = [] ∧ w' = W) ?_ ?_
 · simp -dsimp -implicitDefEqProofs only [chV,headM_zero,headM_seq,World.size_alloc,hW,m82,sF82,ZA,↓reduceIte,ZB,ZC,ZJ,ZK,ZE,ZF,ZG,ZH,ZI,reduceCtorEq,ZD,mwV,↓mwD,mwU]
 rintro e ds w0 ⟨k2, k3, rfl, rfl⟩
 clear hW
 have cells : ∀ {w' : World}, Ext w0 w' → (w'.cell? ⟨w.heap.size, 0, none⟩ = some (.int .i64 a.k) ∧ w'.cell? ⟨w.heap.size, 1, none⟩ = some (.int .i64 a.d) ∧ w'.cell? ⟨w.heap.size, 2, none⟩ = some (.slice pa a.L.length ca)) ∧
  w'.cell? ⟨w.heap.size + 1, 0, none⟩ = some (.int .i64 b.k) ∧ w'.cell? ⟨w.heap.size + 1, 1, none⟩ = some (.int .i64 b.d) ∧ w'.cell? ⟨w.heap.size + 1, 2, none⟩ = some (.slice pb b.L.length cb) := fun h => ⟨⟨(A.ext h).get rfl, (A.ext h).get rfl, (A.ext h).get rfl⟩, (B.ext h).get rfl, (B.ext h).get rfl, (B.ext h).get rfl⟩
 obtain ⟨⟨A0, A1, A2⟩, B0, B1, B2⟩ := cells (Ext.refl w0)
 -- AMONG
 simp -dsimp -implicitDefEqProofs only [tailM_zero,tailM_seq,k2,k3,A0,A1,A2,m82,sF82,ZA,↓reduceIte,ZB,ZC,ZJ,ZK,ZE,ZF,ZG,ZH,ZI,reduceCtorEq,ZD,mwV,↓mwD,mwU]
 refine (refListed_c a _ w0).use ?_
 rintro r w1 ⟨rfl, h1⟩
 obtain ⟨⟨A0, A1, A2⟩, B0, B1, B2⟩ := cells h1
 cases hl : a.lsd
 · simp -dsimp -implicitDefEqProofs only [k2,k3,B0,B1,B2,m82,sF82,ZA,↓reduceIte,ZB,ZC,ZJ,ZK,ZE,ZF,ZG,ZH,ZI,reduceCtorEq,ZD,mwV,↓mwD,mwU]
   refine (refListed_c b _ w1).use ?_
   rintro r w2 ⟨rfl, h2⟩
   have hx2 := h1.trans h2
   obtain ⟨⟨A0, A1, A2⟩, B0, B1, B2⟩ := cells hx2
   cases hl2 : b.lsd
   · obtain ⟨ra, ka⟩ := fit_range fa hl
     obtain ⟨rb, kb⟩ := fit_range fb hl2
     have hwi := wi_range va vb hl hl2
     have la : 2 ≤ a.L.length := by rcases ka with h | h <;> omega
     obtain ⟨bA, oA, c0, hv, hc1, hc2, hcell⟩ := ha.at (by intro h0; rw [h0] at la; simp at la)
     cases hv
     have q0 := (hx.trans hx2).cell (hcell 0 (by omega))
     have elo : a.L[0] = a.lo := by unfold Ch.lo; rw [getD_get (by omega)]
     rw [elo, Nat.add_zero] at q0
     have hb0 : (0 : Int) < (a.L.length : Int) := by omega
     have hb00 : (0 : Int) ≤ 0 ∧ (0 : Int) < (a.L.length : Int) := by omega
     simp -dsimp -implicitDefEqProofs only [k2,k3,m82,sF82,ZA,↓reduceIte,ZB,ZC,ZJ,ZK,ZE,ZF,ZG,ZH,ZI,reduceCtorEq,ZD,mwV,↓mwD,mwU]
     refine mwpB_drawE ?_
     simp -dsimp -implicitDefEqProofs only [k2,k3,A0,A1,A2,B0,B1,B2,hb00,and_self,q0,m82,sF82,ZA,↓reduceIte,ZB,ZC,ZJ,ZK,ZE,ZF,ZG,ZH,ZI,reduceCtorEq,ZD,mwV,↓mwD,mwU]
     have hxd := hx2.trans (Ext.drew w2)
     refine (Has1_c b _ a.lo w2.drew (hb.ext (hx.trans hxd)) fb).use ?_
     rintro r w3 ⟨rfl, h3⟩
     cases hb1 : b.has a.lo
     · simp -dsimp -implicitDefEqProofs only [h3,m82,sF82,ZA,↓reduceIte,ZB,ZC,ZJ,ZK,ZE,ZF,ZG,ZH,ZI,reduceCtorEq,ZD,mwV,↓mwD,mwU]
       exact ⟨hx.trans (hxd.trans h3), _, rfl, by rw [hwi, hb1]; simp⟩
     · simp -dsimp -implicitDefEqProofs only [h3,k2,k3,A0,A1,A2,B0,B1,B2,m82,sF82,ZA,↓reduceIte,ZB,ZC,ZJ,ZK,ZE,ZF,ZG,ZH,ZI,reduceCtorEq,ZD,mwV,↓mwD,mwU]
       refine (refGreatest_c a _ w3 (ha.ext (hx.trans (hxd.trans h3))) ra ka).use ?_
       rintro r w4 ⟨rfl, h4⟩
       have h34 := h3.trans h4
       simp -dsimp -implicitDefEqProofs only [h34,m82,sF82,ZA,↓reduceIte,ZB,ZC,ZJ,ZK,ZE,ZF,ZG,ZH,ZI,reduceCtorEq,ZD,mwV,↓mwD,mwU]
       refine (Has1_c b _ (grt a) w4 (hb.ext (hx.trans (hxd.trans h34))) fb).use ?_
       rintro r w5 ⟨rfl, h5⟩
       have h35 := h34.trans h5
       have eg : a.lo + (a.hi - a.lo) / a.stp * a.stp = grt a := rfl
       rw [eg] at hwi
       cases hb2 : b.has (grt a)
       · simp -dsimp -implicitDefEqProofs only [h35,m82,sF82,ZA,↓reduceIte,ZB,ZC,ZJ,ZK,ZE,ZF,ZG,ZH,ZI,reduceCtorEq,ZD,mwV,↓mwD,mwU]
         exact ⟨hx.trans (hxd.trans h35), _, rfl, by rw [hwi, hb2]; simp⟩
       · have hx5 := hxd.trans h35
         obtain ⟨⟨A0, A1, A2⟩, B0, B1, B2⟩ := cells hx5
         have q5 := (hxd.trans h35 |> fun _ => h35).cell ((Ext.drew w2).cell q0)
         simp -dsimp -implicitDefEqProofs only [h35,k2,k3,m82,sF82,ZA,↓reduceIte,ZB,ZC,ZJ,ZK,ZE,ZF,ZG,ZH,ZI,reduceCtorEq,ZD,mwV,↓mwD,mwU]
         refine mwpB_drawE ?_
         simp -dsimp -implicitDefEqProofs only [k2,k3,A0,A1,A2,B0,B1,B2,hb00,and_self,q5,m82,sF82,ZA,↓reduceIte,ZB,ZC,ZJ,ZK,ZE,ZF,ZG,ZH,ZI,reduceCtorEq,ZD,mwV,↓mwD,mwU]
         have hx5d := hx5.trans (Ext.drew w5)
         refine (refGreatest_c a _ w5.drew (ha.ext (hx.trans hx5d)) ra ka).use ?_
         rintro r w6 ⟨rfl, h6⟩
         by_cases hg : grt a = a.lo
         · simp -dsimp -implicitDefEqProofs only [h6,hg,m82,sF82,ZA,↓reduceIte,ZB,ZC,ZJ,ZK,ZE,ZF,ZG,ZH,ZI,reduceCtorEq,ZD,mwV,↓mwD,mwU]
           exact ⟨hx.trans (hx5d.trans h6), _, rfl, by rw [hwi, hb1, hb2]; simp [hg]⟩
         · simp -dsimp -implicitDefEqProofs only [h6,hg,k2,k3,A0,A1,A2,B0,B1,B2,m82,sF82,ZA,↓reduceIte,ZB,ZC,ZJ,ZK,ZE,ZF,ZG,ZH,ZI,reduceCtorEq,ZD,mwV,↓mwD,mwU]
           refine (step_c a _ w6 (ha.ext (hx.trans (hx5d.trans h6))) (by omega)).use ?_
           rintro r w7 ⟨rfl, h7⟩
           have h67 := h6.trans h7
           simp -dsimp -implicitDefEqProofs only [h67,k2,k3,A0,A1,A2,B0,B1,B2,m82,sF82,ZA,↓reduceIte,ZB,ZC,ZJ,ZK,ZE,ZF,ZG,ZH,ZI,reduceCtorEq,ZD,mwV,↓mwD,mwU]
           refine (step_c b _ w7 (hb.ext (hx.trans (hx5d.trans h67))) (by omega)).use ?_
           rintro r w8 ⟨rfl, h8⟩
           have h68 := h67.trans h8
           have hc1 : ¬ b.stp = 0 := by have := rb.s0; omega
           have ht : a.stp.tmod b.stp = a.stp % b.stp := Int.tmod_eq_emod_of_nonneg (by have := ra.s0; omega)
           by_cases hm : a.stp % b.stp = 0
           · simp -dsimp -implicitDefEqProofs only [h68,hc1,ht,hm,not_false_eq_true,m82,sF82,ZA,↓reduceIte,ZB,ZC,ZJ,ZK,ZE,ZF,ZG,ZH,ZI,reduceCtorEq,ZD,mwV,↓mwD,mwU]
             exact ⟨hx.trans (hx5d.trans h68), _, rfl, by rw [hwi, hb1, hb2]; simp [hm]⟩
           · simp -dsimp -implicitDefEqProofs only [h68,hc1,ht,hm,not_false_eq_true,m82,sF82,ZA,↓reduceIte,ZB,ZC,ZJ,ZK,ZE,ZF,ZG,ZH,ZI,reduceCtorEq,ZD,mwV,↓mwD,mwU]
             exact ⟨hx.trans (hx5d.trans h68), _, rfl, by rw [hwi, hb1, hb2]; simp [hm, hg]⟩
   · have hwi := wi_first va vb (.inr hl2)
     simp -dsimp -implicitDefEqProofs only [k2,k3,A0,A1,A2,m82,sF82,ZA,↓reduceIte,ZB,ZC,ZJ,ZK,ZE,ZF,ZG,ZH,ZI,reduceCtorEq,ZD,mwV,↓mwD,mwU]
     refine (First_c a _ 21 w2 (ha.ext (hx.trans hx2)) va (by omega)).use ?_
     rintro r w5 ⟨h5, hown⟩
     have hs5 : SlI w5 r (a.first 21) := Own.sl hown
     obtain ⟨_, q, cq, rfl⟩ := own_shape hown
     generalize a.first 21 = F at *
     have hx5 := Ext.trans hx2 h5
     by_cases hF : (20 : Int) < (F.length : Int)
     · simp -dsimp -implicitDefEqProofs only [hF,m82,sF82,ZA,↓reduceIte,ZB,ZC,ZJ,ZK,ZE,ZF,ZG,ZH,ZI,reduceCtorEq,ZD,mwV,↓mwD,mwU]
       exact ⟨hx.trans hx5, _, rfl, by rw [hwi]; simp; omega⟩
     · simp -dsimp -implicitDefEqProofs only [hF,m82,sF82,ZA,↓reduceIte,ZB,ZC,ZJ,ZK,ZE,ZF,ZG,ZH,ZI,reduceCtorEq,ZD,mwV,↓mwD,mwU]
       refine mwpB_loop (fun e ds w' => ∃ k : Nat, k ≤ F.length ∧ e 6 = .int .i64 k ∧ e 5 = .slice q F.length cq ∧ e 3 = .pointer (some ⟨w.heap.size + 1, 0, none⟩) ∧ ds = [] ∧ Ext w5 w' ∧ ∀ n ∈ F.take k, b.has n = true)
        (fun e _ => F.length - (intOf (e 6)).toNat) ?_ ?_
       · simp -dsimp -implicitDefEqProofs only [k3,m82,sF82,ZA,↓reduceIte,ZB,ZC,ZJ,ZK,ZE,ZF,ZG,ZH,ZI,reduceCtorEq,ZD,mwV,↓mwD,mwU]
         exact ⟨0, by omega, rfl, Ext.refl _, fun n hn => by simp at hn⟩
       · rintro e ds w' ⟨k, hk, h6, h5', h3, rfl, hx6, hall⟩
         obtain ⟨_, B0, B1, B2⟩ := cells (hx5.trans hx6)
         simp -dsimp -implicitDefEqProofs only [h6,h5',h3,m82,sF82,ZA,↓reduceIte,ZB,ZC,ZJ,ZK,ZE,ZF,ZG,ZH,ZI,reduceCtorEq,ZD,mwV,↓mwD,mwU]
         refine iteW_dec (fun hlt => ?_) (fun hge => ?_)
         · have hlt' : k < F.length := by omega
           obtain ⟨bb, oo, c0, hv, hc1, hc2, hcell⟩ := hs5.at (by intro h0; rw [h0] at hlt'; simp at hlt')
           cases hv
           have q1 := hx6.cell (hcell k hlt')
           have hb1 : (0 : Int) ≤ k ∧ (k : Int) < F.length := by omega
           have hw := w64_succ hlt' (Nat.le_trans hc1 hc2)
           simp -dsimp -implicitDefEqProofs only [h6,h5',h3,m82,sF82,ZA,↓reduceIte,ZB,ZC,ZJ,ZK,ZE,ZF,ZG,ZH,ZI,reduceCtorEq,ZD,mwV,↓mwD,mwU]
           refine mwpB_drawE ?_
           simp -dsimp -implicitDefEqProofs only [h6,h5',h3,hb1,and_self,q1,B0,B1,B2,m82,sF82,ZA,↓reduceIte,ZB,ZC,ZJ,ZK,ZE,ZF,ZG,ZH,ZI,reduceCtorEq,ZD,mwV,↓mwD,mwU]
           refine (Has1_c b _ F[k] w'.drew (hb.ext ((hx.trans (hx5.trans hx6)).trans (Ext.drew _))) fb).use ?_
           rintro r w7 ⟨rfl, h7⟩
           have hx7 := hx6.trans ((Ext.drew w').trans h7)
           cases hh : b.has F[k]
           · simp -dsimp -implicitDefEqProofs only [h7,m82,sF82,ZA,↓reduceIte,ZB,ZC,ZJ,ZK,ZE,ZF,ZG,ZH,ZI,reduceCtorEq,ZD,mwV,↓mwD,mwU]
             refine ⟨(hx.trans hx5).trans hx7, _, rfl, ?_⟩
             rw [hwi]
             constructor
             · intro h; cases h
             · intro h; have := h.2 _ (List.getElem_mem hlt'); rw [hh] at this; cases this
           · simp -dsimp -implicitDefEqProofs only [h7,h6,h5',h3,hw,m82,sF82,ZA,↓reduceIte,ZB,ZC,ZJ,ZK,ZE,ZF,ZG,ZH,ZI,reduceCtorEq,ZD,mwV,↓mwD,mwU]
             refine ⟨⟨k + 1, by omega, rfl, hx7, fun n hn => ?_⟩, by simp only [intOf]; omega⟩
             rw [List.take_succ_eq_append_getElem hlt'] at hn
             rcases List.mem_append.1 hn with hn | hn
             · exact hall n hn
             · simp at hn; rw [hn]; exact hh
         · have hkl : k = F.length := by omega
           subst hkl
           rw [List.take_length] at hall
           simp -dsimp -implicitDefEqProofs only [h6,h5',h3,m82,sF82,ZA,↓reduceIte,ZB,ZC,ZJ,ZK,ZE,ZF,ZG,ZH,ZI,reduceCtorEq,ZD,mwV,↓mwD,mwU]
           refine ⟨(hx.trans hx5).trans hx6, _, rfl, ?_⟩
           rw [hwi]
           exact ⟨fun _ => ⟨by omega, hall⟩, fun _ => rfl⟩
 · have hwi := wi_first va vb (.inl hl)
   simp -dsimp -implicitDefEqProofs only [k2,k3,A0,A1,A2,m82,sF82,ZA,↓reduceIte,ZB,ZC,ZJ,ZK,ZE,ZF,ZG,ZH,ZI,reduceCtorEq,ZD,mwV,↓mwD,mwU]
   refine (First_c a _ 21 w1 (ha.ext (hx.trans h1)) va (by omega)).use ?_
   rintro r w5 ⟨h5, hown⟩
   have hs5 : SlI w5 r (a.first 21) := Own.sl hown
   obtain ⟨_, q, cq, rfl⟩ := own_shape hown
   generalize a.first 21 = F at *
   have hx5 := Ext.trans h1 h5
   by_cases hF : (20 : Int) < (F.length : Int)
   · simp -dsimp -implicitDefEqProofs only [hF,m82,sF82,ZA,↓reduceIte,ZB,ZC,ZJ,ZK,ZE,ZF,ZG,ZH,ZI,reduceCtorEq,ZD,mwV,↓mwD,mwU]
     exact ⟨hx.trans hx5, _, rfl, by rw [hwi]; simp; omega⟩
   · simp -dsimp -implicitDefEqProofs only [hF,m82,sF82,ZA,↓reduceIte,ZB,ZC,ZJ,ZK,ZE,ZF,ZG,ZH,ZI,reduceCtorEq,ZD,mwV,↓mwD,mwU]
     refine mwpB_loop (fun e ds w' => ∃ k : Nat, k ≤ F.length ∧ e 6 = .int .i64 k ∧ e 5 = .slice q F.length cq ∧ e 3 = .pointer (some ⟨w.heap.size + 1, 0, none⟩) ∧ ds = [] ∧ Ext w5 w' ∧ ∀ n ∈ F.take k, b.has n = true)
      (fun e _ => F.length - (intOf (e 6)).toNat) ?_ ?_
     · simp -dsimp -implicitDefEqProofs only [k3,m82,sF82,ZA,↓reduceIte,ZB,ZC,ZJ,ZK,ZE,ZF,ZG,ZH,ZI,reduceCtorEq,ZD,mwV,↓mwD,mwU]
       exact ⟨0, by omega, rfl, Ext.refl _, fun n hn => by simp at hn⟩
     · rintro e ds w' ⟨k, hk, h6, h5', h3, rfl, hx6, hall⟩
       obtain ⟨_, B0, B1, B2⟩ := cells (hx5.trans hx6)
       simp -dsimp -implicitDefEqProofs only [h6,h5',h3,m82,sF82,ZA,↓reduceIte,ZB,ZC,ZJ,ZK,ZE,ZF,ZG,ZH,ZI,reduceCtorEq,ZD,mwV,↓mwD,mwU]
       refine iteW_dec (fun hlt => ?_) (fun hge => ?_)
       · have hlt' : k < F.length := by omega
         obtain ⟨bb, oo, c0, hv, hc1, hc2, hcell⟩ := hs5.at (by intro h0; rw [h0] at hlt'; simp at hlt')
         cases hv
         have q1 := hx6.cell (hcell k hlt')
         have hb1 : (0 : Int) ≤ k ∧ (k : Int) < F.length := by omega
         have hw := w64_succ hlt' (Nat.le_trans hc1 hc2)
         simp -dsimp -implicitDefEqProofs only [h6,h5',h3,m82,sF82,ZA,↓reduceIte,ZB,ZC,ZJ,ZK,ZE,ZF,ZG,ZH,ZI,reduceCtorEq,ZD,mwV,↓mwD,mwU]
         refine mwpB_drawE ?_
         simp -dsimp -implicitDefEqProofs only [h6,h5',h3,hb1,and_self,q1,B0,B1,B2,m82,sF82,ZA,↓reduceIte,ZB,ZC,ZJ,ZK,ZE,ZF,ZG,ZH,ZI,reduceCtorEq,ZD,mwV,↓mwD,mwU]
         refine (Has1_c b _ F[k] w'.drew (hb.ext ((hx.trans (hx5.trans hx6)).trans (Ext.drew _))) fb).use ?_
         rintro r w7 ⟨rfl, h7⟩
         have hx7 := hx6.trans ((Ext.drew w').trans h7)
         cases hh : b.has F[k]
         · simp -dsimp -implicitDefEqProofs only [h7,m82,sF82,ZA,↓reduceIte,ZB,ZC,ZJ,ZK,ZE,ZF,ZG,ZH,ZI,reduceCtorEq,ZD,mwV,↓mwD,mwU]
           refine ⟨(hx.trans hx5).trans hx7, _, rfl, ?_⟩
           rw [hwi]
           constructor
           · intro h; cases h
           · intro h; have := h.2 _ (List.getElem_mem hlt'); rw [hh] at this; cases this
         · simp -dsimp -implicitDefEqProofs only [h7,h6,h5',h3,hw,m82,sF82,ZA,↓reduceIte,ZB,ZC,ZJ,ZK,ZE,ZF,ZG,ZH,ZI,reduceCtorEq,ZD,mwV,↓mwD,mwU]
           refine ⟨⟨k + 1, by omega, rfl, hx7, fun n hn => ?_⟩, by simp only [intOf]; omega⟩
           rw [List.take_succ_eq_append_getElem hlt'] at hn
           rcases List.mem_append.1 hn with hn | hn
           · exact hall n hn
           · simp at hn; rw [hn]; exact hh
       · have hkl : k = F.length := by omega
         subst hkl
         rw [List.take_length] at hall
         simp -dsimp -implicitDefEqProofs only [h6,h5',h3,m82,sF82,ZA,↓reduceIte,ZB,ZC,ZJ,ZK,ZE,ZF,ZG,ZH,ZI,reduceCtorEq,ZD,mwV,↓mwD,mwU]
         refine ⟨(hx.trans hx5).trans hx6, _, rfl, ?_⟩
         rw [hwi]
         exact ⟨fun _ => ⟨by omega, hall⟩, fun _ => rfl⟩
end Go.Proofs.YthcdnjbhhaonhaaGreatDoor

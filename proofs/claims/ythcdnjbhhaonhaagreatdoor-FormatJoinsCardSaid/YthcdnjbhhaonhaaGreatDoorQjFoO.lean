/- Layer 02: a field's choice, of the program and of the reference. -/
import Derived.Test.YthcdnjbhhaonhaaGreatDoorQjFoLToFoN

namespace Go.Proofs.YthcdnjbhhaonhaaGreatDoor
open Go.RowKit
open Nat renaming reduceEqDiff → ZA, reduceAdd → ZB, reduceMul → ZC, reduceSub → ZD
open Int renaming reduceToNat → ZE, reduceEq → ZF, reduceLT → ZG, reduceLE → ZH, reduceNeg → ZI
open Go.Value renaming oneCell' → ZK, cells → ZJ
set_option linter.unusedSimpArgs false
def atF : List Fl → Int → Option Ch
 | [], _ => none
 | x :: l, k => if x.key = k then some x.c else atF l k
theorem atF_drop {F : List Fl} {k : Nat} (h : k < F.length) (key : Int) : atF (F.drop k) key = if F[k].key = key then some F[k].c else atF (F.drop (k + 1)) key := by
 rw [List.drop_eq_getElem_cons h]; rfl
theorem atF_some : ∀ {F : List Fl} {k : Int} {c : Ch}, atF F k = some c → ∃ x ∈ F, x.key = k ∧ x.c = c
 | [], _, _, h => by cases h
 | x :: F, k, c, h => by
  unfold atF at h
  split at h
  · rename_i hk; cases h; exact ⟨x, List.mem_cons_self .., hk, rfl⟩
  · obtain ⟨y, hy, h1⟩ := atF_some h
    exact ⟨y, List.mem_cons_of_mem _ hy, h1⟩
theorem atF_mem : ∀ {F : List Fl} {k : Int} {x : Fl}, fieldsB k F = true → x ∈ F → atF F x.key = some x.c
 | [], _, _, _, h => by cases h
 | y :: F, k, x, hf, h => by
  have hf' := fieldsB_cons.1 hf
  unfold atF
  rcases List.mem_cons.1 h with rfl | h
  · rw [if_pos rfl]
  · have := (fieldsB_mem hf'.2.2.2 x h).1
    rw [if_neg (by omega)]; exact atF_mem hf'.2.2.2 h
def AtQ (o : Option Ch) (w0 w : World) (r : Value) (w' : World) : Prop := Ext w w' ∧ match o with
 | none => r = .tuple #[.agg #[.int .i64 0, .int .i64 0, .slice none 0 0], .bool false]
 | some c => ∃ v, r = .tuple #[chV c v, .bool true] ∧ SlI w0 v c.L
theorem At_c (f : Fm) (s : Value) (key : Int) (wo w : World) (hs : SlF wo s f.F) (ho : Ext wo w) : Rets Go.Proofs.Tryz.prog 81 #[fmV f s, .int .i64 key] w (AtQ (atF f.F key) wo w) := by
 obtain ⟨p, cap, rfl, hc1, hc2⟩ := hs.shape
 obtain ⟨W, hW, A, B, hx⟩ := box_fm w [.int .i64 f.m, .slice p f.F.length cap] 24 [.int .i64 0, .int .i64 0, .slice none 0 0] 35
 have hsz : W.heap.size = w.heap.size + 2 := by rw [hW]; simp only [World.size_alloc]
 refine en81 ?_
 refine mwpB_cut 1 (fun e ds w' => e 1 = .int .i64 key ∧ e 2 = .pointer (some ⟨w.heap.size, 0, none⟩) ∧ e 4 = .pointer (some ⟨w.heap.size + 1, 0, none⟩) ∧ ds = [] ∧ w' = W) ?_ ?_
 · simp -dsimp -implicitDefEqProofs only [fmV,headM_zero,headM_seq,World.size_alloc,hW,m81,sF81,ZA,↓reduceIte,ZB,ZC,ZJ,ZK,ZE,ZF,ZG,ZH,ZI,reduceCtorEq,ZD,mwV,↓mwD,mwU]
 rintro e ds w0 ⟨k1, k2, k4, rfl, rfl⟩
 clear hW
 have A1 := A.get (o := 1) rfl
 have P := put3 B (.int .i64 0) (.int .i64 0) (.slice none 0 0)
 simp -dsimp -implicitDefEqProofs only [tailM_zero,tailM_seq,k1,k2,k4,m81,sF81,ZA,↓reduceIte,ZB,ZC,ZJ,ZK,ZE,ZF,ZG,ZH,ZI,reduceCtorEq,ZD,mwV,↓mwD,mwU]
 refine mwpB_loop (fun e ds w' => ∃ k : Nat, k ≤ f.F.length ∧ e 6 = .int .i64 k ∧ e 1 = .int .i64 key ∧ e 2 = .pointer (some ⟨w.heap.size, 0, none⟩) ∧ e 4 = .pointer (some ⟨w.heap.size + 1, 0, none⟩) ∧ ds = [] ∧ w' = w0 ∧ atF f.F key = atF (f.F.drop k) key)
  (fun e _ => f.F.length - (intOf (e 6)).toNat) ?_ ?_
 · simp -dsimp -implicitDefEqProofs only [k1,k2,k4,m81,sF81,ZA,↓reduceIte,ZB,ZC,ZJ,ZK,ZE,ZF,ZG,ZH,ZI,reduceCtorEq,ZD,mwV,↓mwD,mwU]
   exact ⟨0, by omega, rfl, rfl⟩
 · rintro e ds w' ⟨k, hk, h6, h1, h2, h4, rfl, rfl, hat⟩
   by_cases hlt : (k : Int) < (f.F.length : Int)
   · have hlt' : k < f.F.length := by omega
     obtain ⟨b, o, rfl, hfs⟩ := hs.at (by intro h0; rw [h0] at hlt'; simp at hlt')
     obtain ⟨sk, q0, q1, q2, q3, hsk⟩ := hfs.get hlt'
     replace q0 := (ho.trans hx).cell q0
     replace q1 := (ho.trans hx).cell q1
     replace q2 := (ho.trans hx).cell q2
     replace q3 := (ho.trans hx).cell q3
     obtain ⟨ps, cs, rfl, _, _⟩ := hsk.shape
     have hb1 : (0 : Int) ≤ k ∧ (k : Int) < f.F.length := by omega
     have hw := w64_succ hlt' (Nat.le_trans hc1 hc2)
     rw [atF_drop hlt'] at hat
     by_cases he : f.F[k].key = key
     · have de : decide (f.F[k].key = key) = true := by simp [he]
       rw [if_pos he] at hat
       have P := put3 B (.int .i64 f.F[k].c.k) (.int .i64 f.F[k].c.d) (.slice ps f.F[k].c.L.length cs)
       obtain ⟨y0, c0⟩ := P.c0
       obtain ⟨y1, c1⟩ := P.c1
       obtain ⟨y2, c2⟩ := P.c2
       have z0 := P.z0
       have z1 := P.z1
       have z2 := P.z2
       have r0 := P.bk.get (o := 0) rfl
       have r1 := P.bk.get (o := 1) rfl
       have r2 := P.bk.get (o := 2) rfl
       simp -dsimp -implicitDefEqProofs only [h6,h1,h2,h4,A1,hlt,hb1,and_self,q0,q1,q2,q3,Nat.mul_comm k 4,de,c0,c1,c2,z0,z1,z2,r0,r1,r2,m81,sF81,ZA,↓reduceIte,ZB,ZC,ZJ,ZK,ZE,ZF,ZG,ZH,ZI,reduceCtorEq,ZD,mwV,↓mwD,mwU]
       refine ⟨hx.set3 (by omega) _ _ _, ?_⟩
       rw [hat]
       exact ⟨_, rfl, hsk⟩
     · have de : decide (f.F[k].key = key) = false := by simp [he]
       rw [if_neg he] at hat
       simp -dsimp -implicitDefEqProofs only [h6,h1,h2,h4,A1,hlt,hb1,and_self,q0,q1,q2,q3,Nat.mul_comm k 4,de,hw,m81,sF81,ZA,↓reduceIte,ZB,ZC,ZJ,ZK,ZE,ZF,ZG,ZH,ZI,reduceCtorEq,ZD,mwV,↓mwD,mwU]
       exact ⟨⟨k + 1, by omega, rfl, hat⟩, by simp only [intOf]; omega⟩
   · have hkl : k = f.F.length := by omega
     subst hkl
     rw [List.drop_length] at hat
     obtain ⟨y0, c0⟩ := P.c0
     obtain ⟨y1, c1⟩ := P.c1
     obtain ⟨y2, c2⟩ := P.c2
     have z0 := P.z0
     have z1 := P.z1
     have z2 := P.z2
     have r0 := P.bk.get (o := 0) rfl
     have r1 := P.bk.get (o := 1) rfl
     have r2 := P.bk.get (o := 2) rfl
     simp -dsimp -implicitDefEqProofs only [h6,h1,h2,h4,A1,hlt,bv_ch0,c0,c1,c2,z0,z1,z2,r0,r1,r2,m81,sF81,ZA,↓reduceIte,ZB,ZC,ZJ,ZK,ZE,ZF,ZG,ZH,ZI,reduceCtorEq,ZD,mwV,↓mwD,mwU]
     refine ⟨hx.set3 (by omega) _ _ _, ?_⟩
     rw [hat]; rfl
def FieldQ (f : Fm) (key : Int) (w : World) (r : Value) (w' : World) : Prop := Ext w w' ∧ if f.valid = true then (match atF f.F key with
 | none => r = .tuple #[.agg #[.int .i64 0, .int .i64 0, .slice none 0 0], .int .i64 8]
 | some c => ∃ v, r = .tuple #[chV c v, .int .i64 0] ∧ SlI w' v c.L)
 else r = .tuple #[.agg #[.int .i64 0, .int .i64 0, .slice none 0 0], .int .i64 1]
theorem refField_c (f : Fm) (s : Value) (key : Int) (w : World) (hs : SlF w s f.F) : Rets Go.Proofs.Tryz.prog 42 #[fmV f s, .int .i64 key] w (FieldQ f key w) := by
 obtain ⟨p, cap, rfl, hc1, hc2⟩ := hs.shape
 obtain ⟨W, hW, A, B, hx⟩ := box_fm w [.int .i64 f.m, .slice p f.F.length cap] 24 [.int .i64 0, .int .i64 0, .slice none 0 0] 35
 have hsz : W.heap.size = w.heap.size + 2 := by rw [hW]; simp only [World.size_alloc]
 refine en42 ?_
 refine mwpB_cut 1 (fun e ds w' => e 1 = .int .i64 key ∧ e 2 = .pointer (some ⟨w.heap.size, 0, none⟩) ∧ e 4 = .pointer (some ⟨w.heap.size + 1, 0, none⟩) ∧ ds = [] ∧ w' = W) ?_ ?_
 · simp -dsimp -implicitDefEqProofs only [fmV,headM_zero,headM_seq,World.size_alloc,hW,m42,sF42,ZA,↓reduceIte,ZB,ZC,ZJ,ZK,ZE,ZF,ZG,ZH,ZI,reduceCtorEq,ZD,mwV,↓mwD,mwU]
 rintro e ds w0 ⟨k1, k2, k4, rfl, rfl⟩
 clear hW
 have A0 := A.get (o := 0) rfl
 have A1 := A.get (o := 1) rfl
 simp -dsimp -implicitDefEqProofs only [tailM_zero,tailM_seq,k1,k2,k4,A0,A1,m42,sF42,ZA,↓reduceIte,ZB,ZC,ZJ,ZK,ZE,ZF,ZG,ZH,ZI,reduceCtorEq,ZD,mwV,↓mwD,mwU]
 refine (refFValid_c f _ w0 (hs.ext hx)).use ?_
 rintro r w1 ⟨rfl, h1⟩
 have hx1 := hx.trans h1
 cases hv : f.valid
 · have P := put3 (B.ext h1) (.int .i64 0) (.int .i64 0) (.slice none 0 0)
   obtain ⟨y0, c0⟩ := P.c0
   obtain ⟨y1, c1⟩ := P.c1
   obtain ⟨y2, c2⟩ := P.c2
   have z0 := P.z0
   have z1 := P.z1
   have z2 := P.z2
   have r0 := P.bk.get (o := 0) rfl
   have r1 := P.bk.get (o := 1) rfl
   have r2 := P.bk.get (o := 2) rfl
   simp -dsimp -implicitDefEqProofs only [k1,k2,k4,bv_ch0,c0,c1,c2,z0,z1,z2,r0,r1,r2,m42,sF42,ZA,↓reduceIte,ZB,ZC,ZJ,ZK,ZE,ZF,ZG,ZH,ZI,reduceCtorEq,ZD,mwV,↓mwD,mwU]
   refine ⟨hx1.set3 (by omega) _ _ _, ?_⟩
   rw [hv]; rfl
 · have A0 := (A.ext h1).get (o := 0) rfl
   have A1 := (A.ext h1).get (o := 1) rfl
   simp -dsimp -implicitDefEqProofs only [k1,k2,k4,A0,A1,m42,sF42,ZA,↓reduceIte,ZB,ZC,ZJ,ZK,ZE,ZF,ZG,ZH,ZI,reduceCtorEq,ZD,mwV,↓mwD,mwU]
   refine (At_c f _ key w w1 hs hx1).use ?_
   rintro r w2 ⟨h2, hr⟩
   have hx2 := hx1.trans h2
   cases hat : atF f.F key with
   | none =>
    rw [hat] at hr
    simp only at hr
    subst hr
    have hB := (B.ext (h1.trans h2)).ext (Ext.alloc w2 (.cells #[.int .i64 0, .int .i64 0, .slice none 0 0] 35))
    have P := put3 hB (.int .i64 0) (.int .i64 0) (.slice none 0 0)
    obtain ⟨y0, c0⟩ := P.c0
    obtain ⟨y1, c1⟩ := P.c1
    obtain ⟨y2, c2⟩ := P.c2
    have z0 := P.z0
    have z1 := P.z1
    have z2 := P.z2
    have r0 := P.bk.get (o := 0) rfl
    have r1 := P.bk.get (o := 1) rfl
    have r2 := P.bk.get (o := 2) rfl
    simp -dsimp -implicitDefEqProofs only [k1,k2,k4,bv_ch0,c0,c1,c2,z0,z1,z2,r0,r1,r2,m42,sF42,ZA,↓reduceIte,ZB,ZC,ZJ,ZK,ZE,ZF,ZG,ZH,ZI,reduceCtorEq,ZD,mwV,↓mwD,mwU]
    refine ⟨(hx2.trans (Ext.alloc _ _)).set3 (by omega) _ _ _, ?_⟩
    rw [if_pos hv, hat]
   | some c =>
    rw [hat] at hr
    obtain ⟨v, rfl, hvs⟩ := hr
    obtain ⟨qv, cv, rfl, _, _⟩ := hvs.shape
    have x3 : Ext w2 (w2.alloc (.cells #[.int .i64 c.k, .int .i64 c.d, .slice qv c.L.length cv] 35)) := Ext.alloc _ _
    have hB := (B.ext (h1.trans h2)).ext x3
    have C := Bk.new w2 [.int .i64 c.k, .int .i64 c.d, .slice qv c.L.length cv] 35
    have g0 := C.get (o := 0) rfl
    have g1 := C.get (o := 1) rfl
    have g2 := C.get (o := 2) rfl
    have P := put3 hB (.int .i64 c.k) (.int .i64 c.d) (.slice qv c.L.length cv)
    obtain ⟨y0, c0⟩ := P.c0
    obtain ⟨y1, c1⟩ := P.c1
    obtain ⟨y2, c2⟩ := P.c2
    have z0 := P.z0
    have z1 := P.z1
    have z2 := P.z2
    have r0 := P.bk.get (o := 0) rfl
    have r1 := P.bk.get (o := 1) rfl
    have r2 := P.bk.get (o := 2) rfl
    simp -dsimp -implicitDefEqProofs only [k1,k2,k4,chV,g0,g1,g2,c0,c1,c2,z0,z1,z2,r0,r1,r2,m42,sF42,ZA,↓reduceIte,ZB,ZC,ZJ,ZK,ZE,ZF,ZG,ZH,ZI,reduceCtorEq,ZD,mwV,↓mwD,mwU]
    have hxf := (hx2.trans x3).set3 (b := w.heap.size + 1) (by omega) (.int .i64 c.k) (.int .i64 c.d) (.slice qv c.L.length cv)
    refine ⟨hxf, ?_⟩
    rw [if_pos hv, hat]
    refine ⟨_, rfl, ?_⟩
    exact hvs.ext hxf
end Go.Proofs.YthcdnjbhhaonhaaGreatDoor

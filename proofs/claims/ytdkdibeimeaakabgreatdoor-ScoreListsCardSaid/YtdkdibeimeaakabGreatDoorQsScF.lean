/- Layer 32: Merge, by the program and by the reference. -/
import Derived.Test.YtdkdibeimeaakabGreatDoorQsScE

namespace Go.Proofs.YtdkdibeimeaakabGreatDoor
open Go.RowKit
open Nat renaming reduceEqDiff → ZA, reduceAdd → ZB, reduceMul → ZC, reduceSub → ZD
open Int renaming reduceToNat → ZE, reduceEq → ZF, reduceLT → ZG, reduceLE → ZH, reduceNeg → ZI
open Go.Value renaming oneCell' → ZK, cells → ZJ
set_option linter.unusedSimpArgs false
set_option linter.unusedVariables false
def Beats (l : List Ev) : Prop := ∀ x ∈ l, beatB x.num x.den = true
theorem Beats.of {l : List Ev} (h : validS l = true) : Beats l := fun x hx => (((validS_iff l).1 h).2.1 x hx).1
theorem Beats.tail {x : Ev} {l : List Ev} (h : Beats (x :: l)) : Beats l := fun y hy => h y (List.mem_cons_of_mem _ hy)
def lenOfV : Value → Nat
  | .slice _ n _ => n
  | _ => 0
set_option maxHeartbeats 4000000 in
theorem merged_c (A B : List Ev) (va vb : Value) (w : World) (hA : SlE w va A) (hB : SlE w vb B) (bA : Beats A) (bB : Beats B) (hn : A.length + B.length ≤ 300) :
    Rets Go.Proofs.Tryz.prog 45 #[va, vb, .func (.func 46) #[] #[]] w fun r w' => Ext w w' ∧ OwnE w' w.heap.size r (mergeF A B) := by
  refine en45 ?_
  simp -dsimp -implicitDefEqProofs only [m45,sF45,ZA,↓reduceIte,ZB,ZC,ZJ,ZK,ZE,ZF,ZG,ZH,ZI,reduceCtorEq,ZD,mwV,↓mwD,mwU]
  refine mwpB_loop (fun e ds w' => ∃ (a b gs : List Ev) (va vb v : Value), e 0 = va ∧ e 1 = vb ∧ e 2 = .func (.func 46) #[] #[] ∧ e 7 = v ∧ ds = [] ∧ Ext w w' ∧ SlE w va a ∧ SlE w vb b ∧ OwnE w' w.heap.size v gs ∧ Beats a ∧ Beats b ∧ mergeF A B = gs ++ mergeF a b ∧ gs.length + a.length + b.length ≤ 300)
    (fun e _ => lenOfV (e 0) + lenOfV (e 1)) ?_ ?_
  · simp -dsimp -implicitDefEqProofs only [m45,sF45,ZA,↓reduceIte,ZB,ZC,ZJ,ZK,ZE,ZF,ZG,ZH,ZI,reduceCtorEq,ZD,mwV,↓mwD,mwU]
    exact ⟨A, B, [], va, vb, _, rfl, rfl, rfl, Ext.refl _, hA, hB, OwnE.nil _ _, bA, bB, rfl, by simp; omega⟩
  · rintro e ds w' ⟨a, b, gs, va, vb, v, h0, h1, h2, h7, rfl, hx, oa, ob, hown, ba, bb, hm, hl⟩
    obtain ⟨qa, ca, rfl, ca1, ca2⟩ := oa.shape
    obtain ⟨qb, cb, rfl, cb1, cb2⟩ := ob.shape
    have hsum : IntKind.i64.wrap ((a.length : Int) + b.length) = (a.length : Int) + b.length := w64 (by omega) (by omega)
    by_cases hz : (0 : Int) < (a.length : Int) + b.length
    rotate_left
    · simp -dsimp -implicitDefEqProofs only [h0,h1,h2,h7,hsum,hz,m45,sF45,ZA,↓reduceIte,ZB,ZC,ZJ,ZK,ZE,ZF,ZG,ZH,ZI,reduceCtorEq,ZD,mwV,↓mwD,mwU]
      obtain rfl : a = [] := List.length_eq_zero_iff.1 (by omega)
      obtain rfl : b = [] := List.length_eq_zero_iff.1 (by omega)
      refine ⟨hx, ?_⟩
      rw [hm, mergeF_nil, List.append_nil]
      exact hown
    by_cases nb : b = []
    · have lb : b.length = 0 := by rw [nb]; rfl
      have lb' : (b.length : Int) = 0 := by omega
      have na : a ≠ [] := fun h => by rw [h] at hz; simp at hz; omega
      obtain ⟨W1, hW1⟩ : ∃ W1, W1 = w'.drew := ⟨_, rfl⟩
      have hX : Ext w' W1 := by rw [hW1]; exact Ext.drew _
      simp -dsimp -implicitDefEqProofs only [h0,h1,h2,h7,hsum,hz,m45,sF45,ZA,↓reduceIte,ZB,ZC,ZJ,ZK,ZE,ZF,ZG,ZH,ZI,reduceCtorEq,ZD,mwV,↓mwD,mwU]
      refine mwpB_drawE ?_
      simp -dsimp -implicitDefEqProofs only [h0,h1,h2,h7,lb',← hW1,m45,sF45,ZA,↓reduceIte,ZB,ZC,ZJ,ZK,ZE,ZF,ZG,ZH,ZI,reduceCtorEq,ZD,mwV,↓mwD,mwU]
      clear hW1
      obtain ⟨x, a', hax⟩ : ∃ x a', a = x :: a' := List.exists_cons_of_ne_nil na
      have hlen : a.length = a'.length + 1 := by rw [hax]; rfl
      have oX : SlE w (.slice qa a.length ca) (x :: a') := by rw [← hax]; exact oa
      obtain ⟨b0, o0, rfl, E⟩ := (oX.ext (hx.trans hX)).get (k := 0) (by simp)
      simp only [List.getElem_cons_zero,Nat.zero_mul,Nat.add_zero] at E
      have hxok : EvOk x := oX.ok x (List.mem_cons_self ..)
      have hsl : (0 : Int) ≤ 1 ∧ (1 : Int) ≤ (a.length : Int) ∧ (a.length : Int) ≤ (ca : Int) := by omega
      have ht1 : ((a.length : Int) - 1).toNat = a'.length := by omega
      have ht2 : ((ca : Int) - 1).toNat = ca - 1 := by omega
      have hb1 : (0 : Int) ≤ 0 ∧ (0 : Int) < a.length := by omega
      have oa' : SlE w (.slice (if (ca : Int) = 1 then some ⟨b0, o0, none⟩ else some ⟨b0, o0 + 10, none⟩) a'.length (ca - 1)) a' := oX.tail _ (fun hne => by rw [if_neg]; have := List.length_pos_iff.2 hne; omega) (by split <;> simp)
      generalize hq : (if (ca : Int) = 1 then some (⟨b0, o0, none⟩ : Addr) else some ⟨b0, o0 + 10, none⟩) = q at *
      have hXd := hx.trans (hX.trans (Ext.drew W1))
      obtain ⟨v', w5, happ, hown5, hext5⟩ := append_ev (hown.ext (hX.trans (Ext.drew W1))) x hxok (by omega) hXd.size
      have ba' : Beats a' := (show Beats (x :: a') by rw [← hax]; exact ba).tail
      have hm2 : mergeF a b = x :: mergeF a' b := by
        rw [nb, mergeF_nilR, mergeF_nilR, hax]
      have E0 : EvAt W1.drew b0 o0 x := E.ext (Ext.drew W1)
      have Ea : EvAt (W1.drew.alloc (.cells #[.int .i64 x.num, .int .i64 x.den, .int .i64 x.o.t, .int .i64 x.o.d, .int .i64 x.o.id, .string x.o.syn, .int .i64 x.o.to, .int .i64 x.o.n, .string x.o.par, .bool x.c] 49)) b0 o0 x := E0.ext (Ext.alloc _ _)
      have E5 : EvAt w5 b0 o0 x := by
        obtain ⟨b1, o1, hq1, F⟩ := (oX.ext (hext5 hXd (Nat.le_refl _))).get (k := 0) (by simp)
        cases hq1
        simpa only [List.getElem_cons_zero,Nat.zero_mul,Nat.add_zero] using F
      refine mwpB_draw (fun w'' => EvAt w'' b0 o0 x) E0 ?_
      simp -dsimp -implicitDefEqProofs only [h0,h1,h2,h7,hb1,hsl,and_self,Int.toNat_zero,Nat.zero_mul,Nat.add_zero,ht1,ht2,hq,m45,sF45,ZA,↓reduceIte,ZB,ZC,ZJ,ZK,ZE,ZF,ZG,ZH,ZI,reduceCtorEq,ZD,mwV,↓mwD,mwU]
      refine softB_load (v := evV x) (fun w'' hw => ?_) ?_
      · exact hw.load
      simp -dsimp -implicitDefEqProofs only [h0,h1,h2,h7,evV,hb1,hsl,and_self,Int.toNat_zero,Nat.zero_mul,Nat.add_zero,ht1,ht2,hq,bs_ev,m45,sF45,ZA,↓reduceIte,ZB,ZC,ZJ,ZK,ZE,ZF,ZG,ZH,ZI,reduceCtorEq,ZD,mwV,↓mwD,mwU]
      refine ⟨Ea, appB.mk happ ⟨E5, ?_⟩⟩
      simp -dsimp -implicitDefEqProofs only [h0,h1,h2,h7,hsl,and_self,ht1,ht2,hq,m45,sF45,ZA,↓reduceIte,ZB,ZC,ZJ,ZK,ZE,ZF,ZG,ZH,ZI,reduceCtorEq,ZD,mwV,↓mwD,mwU]
      exact ⟨⟨a', b, gs ++ [x], _, _, _, rfl, rfl, rfl, hext5 hXd (Nat.le_refl _), oa', ob, hown5, ba', bb, by rw [hm, hm2, List.append_assoc]; rfl, by simp only [List.length_append,List.length_cons,List.length_nil]; omega⟩, by simp only [lenOfV,h1,h0,h1]; omega⟩
    have lb : 0 < b.length := List.length_pos_iff.2 nb
    have lb' : ¬ (b.length : Int) = 0 := by omega
    by_cases na : a = []
    · have la : a.length = 0 := by rw [na]; rfl
      have la' : ¬ (0 : Int) < (a.length : Int) := by omega
      obtain ⟨W1, hW1⟩ : ∃ W1, W1 = w'.drew := ⟨_, rfl⟩
      have hX : Ext w' W1 := by rw [hW1]; exact Ext.drew _
      simp -dsimp -implicitDefEqProofs only [h0,h1,h2,h7,hsum,hz,m45,sF45,ZA,↓reduceIte,ZB,ZC,ZJ,ZK,ZE,ZF,ZG,ZH,ZI,reduceCtorEq,ZD,mwV,↓mwD,mwU]
      refine mwpB_drawE ?_
      simp -dsimp -implicitDefEqProofs only [h0,h1,h2,h7,lb',la',← hW1,m45,sF45,ZA,↓reduceIte,ZB,ZC,ZJ,ZK,ZE,ZF,ZG,ZH,ZI,reduceCtorEq,ZD,mwV,↓mwD,mwU]
      clear hW1
      obtain ⟨x, b', hbx⟩ : ∃ x b', b = x :: b' := List.exists_cons_of_ne_nil nb
      have hlen : b.length = b'.length + 1 := by rw [hbx]; rfl
      have oX : SlE w (.slice qb b.length cb) (x :: b') := by rw [← hbx]; exact ob
      obtain ⟨b0, o0, rfl, E⟩ := (oX.ext (hx.trans hX)).get (k := 0) (by simp)
      simp only [List.getElem_cons_zero,Nat.zero_mul,Nat.add_zero] at E
      have hxok : EvOk x := oX.ok x (List.mem_cons_self ..)
      have hsl : (0 : Int) ≤ 1 ∧ (1 : Int) ≤ (b.length : Int) ∧ (b.length : Int) ≤ (cb : Int) := by omega
      have ht1 : ((b.length : Int) - 1).toNat = b'.length := by omega
      have ht2 : ((cb : Int) - 1).toNat = cb - 1 := by omega
      have hb1 : (0 : Int) ≤ 0 ∧ (0 : Int) < b.length := by omega
      have ob' : SlE w (.slice (if (cb : Int) = 1 then some ⟨b0, o0, none⟩ else some ⟨b0, o0 + 10, none⟩) b'.length (cb - 1)) b' := oX.tail _ (fun hne => by rw [if_neg]; have := List.length_pos_iff.2 hne; omega) (by split <;> simp)
      generalize hq : (if (cb : Int) = 1 then some (⟨b0, o0, none⟩ : Addr) else some ⟨b0, o0 + 10, none⟩) = q at *
      have hXd := hx.trans (hX.trans (Ext.drew W1))
      obtain ⟨v', w5, happ, hown5, hext5⟩ := append_ev (hown.ext (hX.trans (Ext.drew W1))) x hxok (by omega) hXd.size
      have bb' : Beats b' := (show Beats (x :: b') by rw [← hbx]; exact bb).tail
      have hm2 : mergeF a b = x :: mergeF a b' := by
        rw [na, mergeF_nil, mergeF_nil, hbx]
      have E0 : EvAt W1.drew b0 o0 x := E.ext (Ext.drew W1)
      have Ea : EvAt (W1.drew.alloc (.cells #[.int .i64 x.num, .int .i64 x.den, .int .i64 x.o.t, .int .i64 x.o.d, .int .i64 x.o.id, .string x.o.syn, .int .i64 x.o.to, .int .i64 x.o.n, .string x.o.par, .bool x.c] 49)) b0 o0 x := E0.ext (Ext.alloc _ _)
      have E5 : EvAt w5 b0 o0 x := by
        obtain ⟨b1, o1, hq1, F⟩ := (oX.ext (hext5 hXd (Nat.le_refl _))).get (k := 0) (by simp)
        cases hq1
        simpa only [List.getElem_cons_zero,Nat.zero_mul,Nat.add_zero] using F
      refine mwpB_draw (fun w'' => EvAt w'' b0 o0 x) E0 ?_
      simp -dsimp -implicitDefEqProofs only [h0,h1,h2,h7,hb1,hsl,and_self,Int.toNat_zero,Nat.zero_mul,Nat.add_zero,ht1,ht2,hq,m45,sF45,ZA,↓reduceIte,ZB,ZC,ZJ,ZK,ZE,ZF,ZG,ZH,ZI,reduceCtorEq,ZD,mwV,↓mwD,mwU]
      refine softB_load (v := evV x) (fun w'' hw => ?_) ?_
      · exact hw.load
      simp -dsimp -implicitDefEqProofs only [h0,h1,h2,h7,evV,hb1,hsl,and_self,Int.toNat_zero,Nat.zero_mul,Nat.add_zero,ht1,ht2,hq,bs_ev,m45,sF45,ZA,↓reduceIte,ZB,ZC,ZJ,ZK,ZE,ZF,ZG,ZH,ZI,reduceCtorEq,ZD,mwV,↓mwD,mwU]
      refine ⟨Ea, appB.mk happ ⟨E5, ?_⟩⟩
      simp -dsimp -implicitDefEqProofs only [h0,h1,h2,h7,hsl,and_self,ht1,ht2,hq,m45,sF45,ZA,↓reduceIte,ZB,ZC,ZJ,ZK,ZE,ZF,ZG,ZH,ZI,reduceCtorEq,ZD,mwV,↓mwD,mwU]
      exact ⟨⟨a, b', gs ++ [x], _, _, _, rfl, rfl, rfl, hext5 hXd (Nat.le_refl _), oa, ob', hown5, ba, bb', by rw [hm, hm2, List.append_assoc]; rfl, by simp only [List.length_append,List.length_cons,List.length_nil]; omega⟩, by simp only [lenOfV,h0,h0,h1]; omega⟩
    have la : 0 < a.length := List.length_pos_iff.2 na
    have la' : (0 : Int) < (a.length : Int) := by omega
    obtain ⟨x0, a0, ha0⟩ := List.exists_cons_of_ne_nil na
    obtain ⟨y0, b0, hb0⟩ := List.exists_cons_of_ne_nil nb
    have oA : SlE w (.slice qa a.length ca) (x0 :: a0) := by rw [← ha0]; exact oa
    have oB : SlE w (.slice qb b.length cb) (y0 :: b0) := by rw [← hb0]; exact ob
    have hxd := hx.trans (Ext.drew w')
    obtain ⟨p1, p2, hp, EA⟩ := (oA.ext hx).get (k := 0) (by simp)
    obtain ⟨p3, p4, hp', EB⟩ := (oB.ext hx).get (k := 0) (by simp)
    simp only [List.getElem_cons_zero,Nat.zero_mul,Nat.add_zero] at EA EB
    have e1 : (0 : Int) ≤ 0 ∧ (0 : Int) < a.length := by omega
    have e2 : (0 : Int) ≤ 0 ∧ (0 : Int) < b.length := by omega
    have hba : beatB x0.num x0.den = true := ba x0 (by rw [ha0]; exact List.mem_cons_self ..)
    have hbb : beatB y0.num y0.den = true := bb y0 (by rw [hb0]; exact List.mem_cons_self ..)
    simp -dsimp -implicitDefEqProofs only [h0,h1,h2,h7,hsum,hz,m45,sF45,ZA,↓reduceIte,ZB,ZC,ZJ,ZK,ZE,ZF,ZG,ZH,ZI,reduceCtorEq,ZD,mwV,↓mwD,mwU]
    refine mwpB_drawE ?_
    simp -dsimp -implicitDefEqProofs only [h0,h1,h2,h7,okF_46,lb',la',hp,hp',e1,e2,and_self,Int.toNat_zero,Nat.zero_mul,Nat.add_zero,EA.c0,EA.c1,EA.c2,EA.c3,EA.c4,EA.c5,EA.c6,EA.c7,EA.c8,EA.c9,EB.c0,EB.c1,EB.c2,EB.c3,EB.c4,EB.c5,EB.c6,EB.c7,EB.c8,EB.c9,m45,sF45,ZA,↓reduceIte,ZB,ZC,ZJ,ZK,ZE,ZF,ZG,ZH,ZI,reduceCtorEq,ZD,mwV,↓mwD,mwU]
    refine (mless_c y0 x0 w'.drew hbb hba).use ?_
    rintro r W1 ⟨rfl, hX0⟩
    have hX : Ext w' W1 := (Ext.drew w').trans hX0
    by_cases ht : tick y0 < tick x0
    · simp -dsimp -implicitDefEqProofs only [h0,h1,h2,h7,hX0,ht,m45,sF45,ZA,↓reduceIte,ZB,ZC,ZJ,ZK,ZE,ZF,ZG,ZH,ZI,reduceCtorEq,ZD,mwV,↓mwD,mwU]
      obtain ⟨x, b', hbx⟩ : ∃ x b', b = x :: b' := List.exists_cons_of_ne_nil nb
      have hlen : b.length = b'.length + 1 := by rw [hbx]; rfl
      have oX : SlE w (.slice qb b.length cb) (x :: b') := by rw [← hbx]; exact ob
      obtain ⟨b0, o0, rfl, E⟩ := (oX.ext (hx.trans hX)).get (k := 0) (by simp)
      simp only [List.getElem_cons_zero,Nat.zero_mul,Nat.add_zero] at E
      have hxok : EvOk x := oX.ok x (List.mem_cons_self ..)
      have hsl : (0 : Int) ≤ 1 ∧ (1 : Int) ≤ (b.length : Int) ∧ (b.length : Int) ≤ (cb : Int) := by omega
      have ht1 : ((b.length : Int) - 1).toNat = b'.length := by omega
      have ht2 : ((cb : Int) - 1).toNat = cb - 1 := by omega
      have hb1 : (0 : Int) ≤ 0 ∧ (0 : Int) < b.length := by omega
      have ob' : SlE w (.slice (if (cb : Int) = 1 then some ⟨b0, o0, none⟩ else some ⟨b0, o0 + 10, none⟩) b'.length (cb - 1)) b' := oX.tail _ (fun hne => by rw [if_neg]; have := List.length_pos_iff.2 hne; omega) (by split <;> simp)
      generalize hq : (if (cb : Int) = 1 then some (⟨b0, o0, none⟩ : Addr) else some ⟨b0, o0 + 10, none⟩) = q at *
      have hXd := hx.trans (hX.trans (Ext.drew W1))
      obtain ⟨v', w5, happ, hown5, hext5⟩ := append_ev (hown.ext (hX.trans (Ext.drew W1))) x hxok (by omega) hXd.size
      have bb' : Beats b' := (show Beats (x :: b') by rw [← hbx]; exact bb).tail
      have hm2 : mergeF a b = x :: mergeF a b' := by
        rw [ha0, hbx, mergeF_cons, if_pos (by have : y0 = x := (List.cons.inj (hb0.symm.trans hbx)).1; rw [← this]; exact ht)]
      have E0 : EvAt W1.drew b0 o0 x := E.ext (Ext.drew W1)
      have Ea : EvAt (W1.drew.alloc (.cells #[.int .i64 x.num, .int .i64 x.den, .int .i64 x.o.t, .int .i64 x.o.d, .int .i64 x.o.id, .string x.o.syn, .int .i64 x.o.to, .int .i64 x.o.n, .string x.o.par, .bool x.c] 49)) b0 o0 x := E0.ext (Ext.alloc _ _)
      have E5 : EvAt w5 b0 o0 x := by
        obtain ⟨b1, o1, hq1, F⟩ := (oX.ext (hext5 hXd (Nat.le_refl _))).get (k := 0) (by simp)
        cases hq1
        simpa only [List.getElem_cons_zero,Nat.zero_mul,Nat.add_zero] using F
      refine mwpB_draw (fun w'' => EvAt w'' b0 o0 x) E0 ?_
      simp -dsimp -implicitDefEqProofs only [h0,h1,h2,h7,hb1,hsl,and_self,Int.toNat_zero,Nat.zero_mul,Nat.add_zero,ht1,ht2,hq,m45,sF45,ZA,↓reduceIte,ZB,ZC,ZJ,ZK,ZE,ZF,ZG,ZH,ZI,reduceCtorEq,ZD,mwV,↓mwD,mwU]
      refine softB_load (v := evV x) (fun w'' hw => ?_) ?_
      · exact hw.load
      simp -dsimp -implicitDefEqProofs only [h0,h1,h2,h7,evV,hb1,hsl,and_self,Int.toNat_zero,Nat.zero_mul,Nat.add_zero,ht1,ht2,hq,bs_ev,m45,sF45,ZA,↓reduceIte,ZB,ZC,ZJ,ZK,ZE,ZF,ZG,ZH,ZI,reduceCtorEq,ZD,mwV,↓mwD,mwU]
      refine ⟨Ea, appB.mk happ ⟨E5, ?_⟩⟩
      simp -dsimp -implicitDefEqProofs only [h0,h1,h2,h7,hsl,and_self,ht1,ht2,hq,m45,sF45,ZA,↓reduceIte,ZB,ZC,ZJ,ZK,ZE,ZF,ZG,ZH,ZI,reduceCtorEq,ZD,mwV,↓mwD,mwU]
      exact ⟨⟨a, b', gs ++ [x], _, _, _, rfl, rfl, rfl, hext5 hXd (Nat.le_refl _), oa, ob', hown5, ba, bb', by rw [hm, hm2, List.append_assoc]; rfl, by simp only [List.length_append,List.length_cons,List.length_nil]; omega⟩, by simp only [lenOfV,h0,h0,h1]; omega⟩
    · simp -dsimp -implicitDefEqProofs only [h0,h1,h2,h7,hX0,ht,m45,sF45,ZA,↓reduceIte,ZB,ZC,ZJ,ZK,ZE,ZF,ZG,ZH,ZI,reduceCtorEq,ZD,mwV,↓mwD,mwU]
      obtain ⟨x, a', hax⟩ : ∃ x a', a = x :: a' := List.exists_cons_of_ne_nil na
      have hlen : a.length = a'.length + 1 := by rw [hax]; rfl
      have oX : SlE w (.slice qa a.length ca) (x :: a') := by rw [← hax]; exact oa
      obtain ⟨b0, o0, rfl, E⟩ := (oX.ext (hx.trans hX)).get (k := 0) (by simp)
      simp only [List.getElem_cons_zero,Nat.zero_mul,Nat.add_zero] at E
      have hxok : EvOk x := oX.ok x (List.mem_cons_self ..)
      have hsl : (0 : Int) ≤ 1 ∧ (1 : Int) ≤ (a.length : Int) ∧ (a.length : Int) ≤ (ca : Int) := by omega
      have ht1 : ((a.length : Int) - 1).toNat = a'.length := by omega
      have ht2 : ((ca : Int) - 1).toNat = ca - 1 := by omega
      have hb1 : (0 : Int) ≤ 0 ∧ (0 : Int) < a.length := by omega
      have oa' : SlE w (.slice (if (ca : Int) = 1 then some ⟨b0, o0, none⟩ else some ⟨b0, o0 + 10, none⟩) a'.length (ca - 1)) a' := oX.tail _ (fun hne => by rw [if_neg]; have := List.length_pos_iff.2 hne; omega) (by split <;> simp)
      generalize hq : (if (ca : Int) = 1 then some (⟨b0, o0, none⟩ : Addr) else some ⟨b0, o0 + 10, none⟩) = q at *
      have hXd := hx.trans (hX.trans (Ext.drew W1))
      obtain ⟨v', w5, happ, hown5, hext5⟩ := append_ev (hown.ext (hX.trans (Ext.drew W1))) x hxok (by omega) hXd.size
      have ba' : Beats a' := (show Beats (x :: a') by rw [← hax]; exact ba).tail
      have hm2 : mergeF a b = x :: mergeF a' b := by
        rw [hb0, hax, mergeF_cons, if_neg (by have : x0 = x := (List.cons.inj (ha0.symm.trans hax)).1; rw [← this]; exact ht)]
      have E0 : EvAt W1.drew b0 o0 x := E.ext (Ext.drew W1)
      have Ea : EvAt (W1.drew.alloc (.cells #[.int .i64 x.num, .int .i64 x.den, .int .i64 x.o.t, .int .i64 x.o.d, .int .i64 x.o.id, .string x.o.syn, .int .i64 x.o.to, .int .i64 x.o.n, .string x.o.par, .bool x.c] 49)) b0 o0 x := E0.ext (Ext.alloc _ _)
      have E5 : EvAt w5 b0 o0 x := by
        obtain ⟨b1, o1, hq1, F⟩ := (oX.ext (hext5 hXd (Nat.le_refl _))).get (k := 0) (by simp)
        cases hq1
        simpa only [List.getElem_cons_zero,Nat.zero_mul,Nat.add_zero] using F
      refine mwpB_draw (fun w'' => EvAt w'' b0 o0 x) E0 ?_
      simp -dsimp -implicitDefEqProofs only [h0,h1,h2,h7,hb1,hsl,and_self,Int.toNat_zero,Nat.zero_mul,Nat.add_zero,ht1,ht2,hq,m45,sF45,ZA,↓reduceIte,ZB,ZC,ZJ,ZK,ZE,ZF,ZG,ZH,ZI,reduceCtorEq,ZD,mwV,↓mwD,mwU]
      refine softB_load (v := evV x) (fun w'' hw => ?_) ?_
      · exact hw.load
      simp -dsimp -implicitDefEqProofs only [h0,h1,h2,h7,evV,hb1,hsl,and_self,Int.toNat_zero,Nat.zero_mul,Nat.add_zero,ht1,ht2,hq,bs_ev,m45,sF45,ZA,↓reduceIte,ZB,ZC,ZJ,ZK,ZE,ZF,ZG,ZH,ZI,reduceCtorEq,ZD,mwV,↓mwD,mwU]
      refine ⟨Ea, appB.mk happ ⟨E5, ?_⟩⟩
      simp -dsimp -implicitDefEqProofs only [h0,h1,h2,h7,hsl,and_self,ht1,ht2,hq,m45,sF45,ZA,↓reduceIte,ZB,ZC,ZJ,ZK,ZE,ZF,ZG,ZH,ZI,reduceCtorEq,ZD,mwV,↓mwD,mwU]
      exact ⟨⟨a', b, gs ++ [x], _, _, _, rfl, rfl, rfl, hext5 hXd (Nat.le_refl _), oa', ob, hown5, ba', bb, by rw [hm, hm2, List.append_assoc]; rfl, by simp only [List.length_append,List.length_cons,List.length_nil]; omega⟩, by simp only [lenOfV,h1,h0,h1]; omega⟩
end Go.Proofs.YtdkdibeimeaakabGreatDoor

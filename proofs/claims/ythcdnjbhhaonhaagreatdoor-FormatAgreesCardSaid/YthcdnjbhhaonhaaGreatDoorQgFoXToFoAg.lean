/- Layer 02: the reference's Filter. -/
import Derived.Test.YthcdnjbhhaonhaaGreatDoorQgFoQToFoW

namespace Go.Proofs.YthcdnjbhhaonhaaGreatDoor
open Go.RowKit
open Nat renaming reduceEqDiff → ZA, reduceAdd → ZB, reduceMul → ZC, reduceSub → ZD
open Int renaming reduceToNat → ZE, reduceEq → ZF, reduceLT → ZG, reduceLE → ZH, reduceNeg → ZI
open Go.Value renaming oneCell' → ZK, cells → ZJ
open Go.Proofs.Tryz renaming prog → ZP
set_option linter.unusedSimpArgs false
structure FPut (w : World) (b : Nat) (m s : Value) : Prop where
 c0 : ∃ x, w.cell? ⟨b, 0, none⟩ = some x
 z0 : w.frozen? ⟨b, 0, none⟩ = false
 c1 : ∃ x, (w.setCell ⟨b, 0, none⟩ m).cell? ⟨b, 1, none⟩ = some x
 z1 : (w.setCell ⟨b, 0, none⟩ m).frozen? ⟨b, 1, none⟩ = false
 bk : Bk ((w.setCell ⟨b, 0, none⟩ m).setCell ⟨b, 1, none⟩ s) b [m, s] 24
 ch : ChP (fun k => k = b) w ((w.setCell ⟨b, 0, none⟩ m).setCell ⟨b, 1, none⟩ s)
theorem fput {w : World} {b : Nat} {x0 x1 : Value} (h : Bk w b [x0, x1] 24) (m s : Value) : FPut w b m s := by
 have h1 := h.set 0 m
 exact ⟨⟨x0, h.get rfl⟩, h.frozen 0, ⟨x1, h1.get rfl⟩, h1.frozen 1, h1.set 1 s, ChP.setCell (G := fun k => k = b) (ChP.setCell (G := fun k => k = b) (ChP.refl _ w) (fun _ => rfl) _) (fun _ => rfl) _⟩
def KeptJ (x f : Fm) (w0 w' : World) (b : Nat) (c : Value) : Prop := ∃ m q k n d, Bk w' b [.int .i64 m, .slice q k n] 24 ∧ c = .int .i64 d ∧ ((d = 0 ∧ ∃ acc, JoinO x f (some ⟨m, acc.map (·.1)⟩) ∧ OwnF w' w0.heap.size (.slice q k n) acc) ∨ (¬ d = 0 ∧ JoinO x f none))
theorem KeptJ.put {x f : Fm} {w' w3 : World} {m : Int} {q : Option Addr} {k n b base : Nat} {c : Int} (P : FPut w3 b (.int .i64 m) (.slice q k n)) (B : Bk w3 b [.int .i64 0, .slice none 0 0] 24) (hb : w'.heap.size ≤ base)
 (hc : (c = 0 ∧ ∃ acc, JoinO x f (some ⟨m, acc.map (·.1)⟩) ∧ OwnF w3 base (.slice q k n) acc) ∨ (¬ c = 0 ∧ JoinO x f none)) : KeptJ x f w' ((w3.setCell ⟨b, 0, none⟩ (.int .i64 m)).setCell ⟨b, 1, none⟩ (.slice q k n)) b (.int .i64 c) :=
 ⟨m, q, k, n, c, P.bk, rfl, hc.imp (fun ⟨a, acc, d, e⟩ => ⟨a, acc, d, (e.ch P.ch (fun j hj => by subst hj; exact B.odd (by decide) (by decide))).mono hb⟩) id⟩
theorem KeptJ.new {x f : Fm} {w' w3 : World} {m : Int} {q : Option Addr} {k n base : Nat} {c : Int} (hb : w'.heap.size ≤ base)
 (hc : (c = 0 ∧ ∃ acc, JoinO x f (some ⟨m, acc.map (·.1)⟩) ∧ OwnF w3 base (.slice q k n) acc) ∨ (¬ c = 0 ∧ JoinO x f none)) : KeptJ x f w' (w3.alloc (.cells #[.int .i64 m, .slice q k n] 24)) w3.heap.size (.int .i64 c) :=
 ⟨m, q, k, n, c, Bk.new _ _ _, rfl, hc.imp (fun ⟨a, acc, d, e⟩ => ⟨a, acc, d, (e.ext (Ext.alloc _ _)).mono hb⟩) id⟩
set_option maxHeartbeats 1000000 in
theorem refFilter_c (l : List Fm) (f : Fm) (v s : Value) (w : World) (hl : SlG w v l) (hs : SlF w s f.F) : Rets ZP 32 #[v, fmV f s] w (FilQ l f w) := by
 obtain ⟨q, cap, rfl, hc1, hc2⟩ := hl.shape
 obtain ⟨p, cp, rfl, _, _⟩ := hs.shape
 obtain ⟨W, hW, A, x0⟩ := new_bk w [.int .i64 f.m, .slice p f.F.length cp] 24
 refine en32 ?_
 simp -dsimp -implicitDefEqProofs only [fmV,← hW,m32,sF32,ZA,↓reduceIte,ZB,ZC,ZJ,ZK,ZE,ZF,ZG,ZH,ZI,reduceCtorEq,ZD,mwV,↓mwD,mwU]
 clear hW
 refine (right_c _ l W (hl.ext x0)).use ?_
 rintro r w1 ⟨rfl, h1⟩
 cases hr : rightG l
 · simp -dsimp -implicitDefEqProofs only [m32,sF32,ZA,↓reduceIte,ZB,ZC,ZJ,ZK,ZE,ZF,ZG,ZH,ZI,reduceCtorEq,ZD,mwV,↓mwD,mwU]
   exact ⟨x0.trans h1, by rw [hr]; rfl⟩
 have A0 := (A.ext h1).get (o := 0) rfl
 have A1 := (A.ext h1).get (o := 1) rfl
 simp -dsimp -implicitDefEqProofs only [A0,A1,m32,sF32,ZA,↓reduceIte,ZB,ZC,ZJ,ZK,ZE,ZF,ZG,ZH,ZI,reduceCtorEq,ZD,mwV,↓mwD,mwU]
 refine (refFValid_c f _ w1 (hs.ext (x0.trans h1))).use ?_
 rintro r w2 ⟨rfl, h2⟩
 cases vf : f.valid
 · simp -dsimp -implicitDefEqProofs only [m32,sF32,ZA,↓reduceIte,ZB,ZC,ZJ,ZK,ZE,ZF,ZG,ZH,ZI,reduceCtorEq,ZD,mwV,↓mwD,mwU]
   exact ⟨x0.trans (h1.trans h2), by rw [hr, vf]; rfl⟩
 simp -dsimp -implicitDefEqProofs only [m32,sF32,ZA,↓reduceIte,ZB,ZC,ZJ,ZK,ZE,ZF,ZG,ZH,ZI,reduceCtorEq,ZD,mwV,↓mwD,mwU]
 refine mwpB_loop (fun e ds w' => ∃ (k : Nat) (gs : List (Fm × Value)) (v : Value), k ≤ l.length ∧ e 7 = .int .i64 k ∧ e 0 = .slice q l.length cap ∧ e 3 = .pointer (some ⟨w.heap.size, 0, none⟩) ∧ e 6 = v ∧ ds = [] ∧ Ext W w' ∧ OwnG w' W.heap.size v gs ∧ FilR (l.take k) f (gs.map (·.1)) ∧ gs.length ≤ k)
  (fun e _ => l.length - (intOf (e 7)).toNat) ?_ ?_
 · simp -dsimp -implicitDefEqProofs only [m32,sF32,ZA,↓reduceIte,ZB,ZC,ZJ,ZK,ZE,ZF,ZG,ZH,ZI,reduceCtorEq,ZD,mwV,↓mwD,mwU]
   exact ⟨0, [], _, by omega, rfl, rfl, h1.trans h2, OwnG.nil _ _, rfl, by simp⟩
 · rintro e ds w' ⟨k, gs, v, hk, h7, h0, h3, h6, rfl, hx, hown, hfil, hgl⟩
   simp -dsimp -implicitDefEqProofs only [h7,h0,h3,h6,m32,sF32,ZA,↓reduceIte,ZB,ZC,ZJ,ZK,ZE,ZF,ZG,ZH,ZI,reduceCtorEq,ZD,mwV,↓mwD,mwU]
   refine iteW_dec (fun hlt => ?_) (fun hge => ?_)
   · have hlt' : k < l.length := by omega
     obtain ⟨vk, h40⟩ := right_get hr hlt'
     obtain ⟨b, o, pk, ck, rfl, q0, q1, hf⟩ := (hl.ext (x0.trans (hx.trans (Ext.drew w')))).get hlt'
     have hb1 : (0 : Int) ≤ k ∧ (k : Int) < l.length := by omega
     have hw := w64_succ hlt' (Nat.le_trans hc1 hc2)
     have A0 := (A.ext (hx.trans (Ext.drew w'))).get (o := 0) rfl
     have A1 := (A.ext (hx.trans (Ext.drew w'))).get (o := 1) rfl
     have hsd := hs.ext (x0.trans (hx.trans (Ext.drew w')))
     simp -dsimp -implicitDefEqProofs only [h7,h0,h3,h6,m32,sF32,ZA,↓reduceIte,ZB,ZC,ZJ,ZK,ZE,ZF,ZG,ZH,ZI,reduceCtorEq,ZD,mwV,↓mwD,mwU]
     have H7 := h7
     refine mwpB_mid (fun e' ds w5 => e' 7 = .int .i64 k ∧ e' 0 = .slice (some ⟨b, o, none⟩) l.length cap ∧ e' 3 = .pointer (some ⟨w.heap.size, 0, none⟩) ∧ e' 6 = v ∧ ds = [] ∧ Ext w' w5 ∧ ∃ b8, e' 8 = .pointer (some ⟨b8, 0, none⟩) ∧ KeptJ l[k] f w' w5 b8 (e' 9)) ?_ ?_
     · refine mwpB_drawE ?_
       have B := Bk.new w'.drew [.int .i64 0, .slice none 0 0] 24
       have EA' : Ext w'.drew (w'.drew.alloc (.cells #[.int .i64 0, .slice none 0 0] 24)) := Ext.alloc _ _
       simp -dsimp -implicitDefEqProofs only [h7,h0,h3,h6,hb1,and_self,q0,q1,Nat.mul_comm k 2,planEB_two,EA',A0,A1,m32,sF32,ZA,↓reduceIte,ZB,ZC,ZJ,ZK,ZE,ZF,ZG,ZH,ZI,reduceCtorEq,ZD,mwV,↓mwD,mwU]
       refine ⟨?_, ?_⟩
       · refine (Joined_c l[k] f _ _ w'.drew hf hsd vk vf).use ?_
         intro r w3 hj
         obtain ⟨h3', m, qj, kj, cj, c, rfl, hc⟩ := joinQ_tell hj
         have E2 : Ext w'.drew (w3.alloc (.cells #[.int .i64 0, .slice none 0 0] 24)) := h3'.trans (Ext.alloc _ _)
         simp -dsimp -implicitDefEqProofs only [h7,h0,h3,h6,h3',E2,m32,sF32,ZA,↓reduceIte,ZB,ZC,ZJ,ZK,ZE,ZF,ZG,ZH,ZI,reduceCtorEq,ZD,mwV,↓mwD,mwU]
         exact ⟨(Ext.drew w').trans (h3'.trans (Ext.alloc _ _)), _, rfl, .new (Nat.le_refl _) hc⟩
       · refine (Joined_c l[k] f _ _ _ (hf.ext EA') (hsd.ext EA') vk vf).use ?_
         intro r w3 hj
         obtain ⟨h3', m, qj, kj, cj, c, rfl, hc⟩ := joinQ_tell hj
         have P := fput (B.ext h3') (.int .i64 m) (.slice qj kj cj)
         obtain ⟨z0', c0⟩ := P.c0
         obtain ⟨z1', c1⟩ := P.c1
         have z0 := P.z0
         have z1 := P.z1
         have E2 := EA'.trans h3'
         simp -dsimp -implicitDefEqProofs only [h7,h0,h3,h6,E2,c0,c1,z0,z1,m32,sF32,ZA,↓reduceIte,ZB,ZC,ZJ,ZK,ZE,ZF,ZG,ZH,ZI,reduceCtorEq,ZD,mwV,↓mwD,mwU]
         exact ⟨P.ch.ext ((Ext.drew w').trans E2) (fun j hj => by subst hj; exact Nat.le_refl _), _, rfl, .put P (B.ext h3') EA'.size hc⟩
     · rintro e' ds w5 ⟨h7, h0, h3, h6, rfl, hx5, b8, h8, m, qj, kj, cj, c, D, h9, hc⟩
       have D0 := D.get (o := 0) rfl
       have D1 := D.get (o := 1) rfl
       have xx := hx5
       rcases hc with ⟨rfl, acc, hjo, hof⟩ | ⟨hne, hjo⟩
       · obtain ⟨v', w6, happ, hown5, hext5⟩ := append_fm (hown.ext xx) ⟨m, acc.map (·.1)⟩ qj kj cj acc rfl (hof.mono hx.size) (by omega) (hx.trans xx).size
         simp -dsimp -implicitDefEqProofs only [h7,h0,h3,h6,h8,h9,D0,D1,bs_fm,m32,sF32,ZA,↓reduceIte,ZB,ZC,ZJ,ZK,ZE,ZF,ZG,ZH,ZI,reduceCtorEq,ZD,mwV,↓mwD,mwU]
         refine appB.mk happ ?_
         simp -dsimp -implicitDefEqProofs only [h7,h0,h3,h6,hw,m32,sF32,ZA,↓reduceIte,ZB,ZC,ZJ,ZK,ZE,ZF,ZG,ZH,ZI,reduceCtorEq,ZD,mwV,↓mwD,mwU]
         refine ⟨⟨k + 1, gs ++ [(⟨m, acc.map (·.1)⟩, .slice qj kj cj)], _, by omega, rfl, rfl, hext5 (hx.trans xx) (Nat.le_refl _), hown5, ?_, by simp; omega⟩, by simp only [intOf,H7]; omega⟩
         rw [List.take_succ_eq_append_getElem hlt', List.map_append]
         exact FilR_snoc hfil hjo
       · simp -dsimp -implicitDefEqProofs only [h7,h0,h3,h6,h8,h9,hne,hw,m32,sF32,ZA,↓reduceIte,ZB,ZC,ZJ,ZK,ZE,ZF,ZG,ZH,ZI,reduceCtorEq,ZD,mwV,↓mwD,mwU]
         refine ⟨⟨k + 1, gs, _, by omega, rfl, rfl, hx.trans xx, hown.ext xx, ?_, by omega⟩, by simp only [intOf,H7]; omega⟩
         rw [List.take_succ_eq_append_getElem hlt']
         have := FilR_snoc hfil hjo
         simpa using this
   · have hkl : k = l.length := by omega
     rw [hkl, List.take_length] at hfil
     simp -dsimp -implicitDefEqProofs only [h7,h0,h3,h6,m32,sF32,ZA,↓reduceIte,ZB,ZC,ZJ,ZK,ZE,ZF,ZG,ZH,ZI,reduceCtorEq,ZD,mwV,↓mwD,mwU]
     refine ⟨x0.trans hx, ?_⟩
     rw [hr, vf, if_pos (by rfl)]
     exact ⟨_, gs, rfl, hfil, hown.mono x0.size⟩
end Go.Proofs.YthcdnjbhhaonhaaGreatDoor
/- Layer 02: are two lists of formats the same? -/
namespace Go.Proofs.YthcdnjbhhaonhaaGreatDoor
open Go.RowKit
open Nat renaming reduceEqDiff → ZA, reduceAdd → ZB, reduceMul → ZC, reduceSub → ZD
open Int renaming reduceToNat → ZE, reduceEq → ZF, reduceLT → ZG, reduceLE → ZH, reduceNeg → ZI
open Go.Value renaming oneCell' → ZK, cells → ZJ
open Go.Proofs.Tryz renaming prog → ZP
set_option linter.unusedSimpArgs false
theorem same_c (gs : List Fm) (v v' : Value) (w : World) (h : SlG w v gs) (h' : SlG w v' gs) : Rets ZP 33 #[v, v'] w fun r w' => r = .bool true ∧ Ext w w' := by
 obtain ⟨q, cap, rfl, hc1, hc2⟩ := h.shape
 obtain ⟨q', cap', rfl, _, _⟩ := h'.shape
 refine en33 ?_
 simp -dsimp -implicitDefEqProofs only [m33,sF33,ZA,↓reduceIte,ZB,ZC,ZJ,ZK,ZE,ZF,ZG,ZH,ZI,reduceCtorEq,ZD,mwV,↓mwD,mwU]
 refine mwpB_loop (fun e ds w' => ∃ k : Nat, k ≤ gs.length ∧ e 5 = .int .i64 k ∧ e 0 = .slice q gs.length cap ∧ e 1 = .slice q' gs.length cap' ∧ ds = [] ∧ Ext w w')
  (fun e _ => gs.length - (intOf (e 5)).toNat) ?_ ?_
 · simp -dsimp -implicitDefEqProofs only [m33,sF33,ZA,↓reduceIte,ZB,ZC,ZJ,ZK,ZE,ZF,ZG,ZH,ZI,reduceCtorEq,ZD,mwV,↓mwD,mwU]
   exact ⟨0, by omega, rfl, Ext.refl _⟩
 · rintro e ds w' ⟨k, hk, h5, h0, h1, rfl, hx⟩
   simp -dsimp -implicitDefEqProofs only [h5,h0,h1,m33,sF33,ZA,↓reduceIte,ZB,ZC,ZJ,ZK,ZE,ZF,ZG,ZH,ZI,reduceCtorEq,ZD,mwV,↓mwD,mwU]
   refine iteW_dec (fun hlt => ?_) (fun hge => ?_)
   · have hlt' : k < gs.length := by omega
     have hxd := hx.trans (Ext.drew w')
     obtain ⟨b, o, p, c, rfl, q0, q1, hf⟩ := (h.ext hxd).get hlt'
     obtain ⟨b', o', p', c', rfl, q0', q1', hf'⟩ := (h'.ext hxd).get hlt'
     have hb1 : (0 : Int) ≤ k ∧ (k : Int) < gs.length := by omega
     have hw := w64_succ hlt' (Nat.le_trans hc1 hc2)
     simp -dsimp -implicitDefEqProofs only [h5,h0,h1,m33,sF33,ZA,↓reduceIte,ZB,ZC,ZJ,ZK,ZE,ZF,ZG,ZH,ZI,reduceCtorEq,ZD,mwV,↓mwD,mwU]
     refine mwpB_drawE ?_
     simp -dsimp -implicitDefEqProofs only [h5,h0,h1,hb1,and_self,q0,q1,q0',q1',Nat.mul_comm k 2,planEB_two,m33,sF33,ZA,↓reduceIte,ZB,ZC,ZJ,ZK,ZE,ZF,ZG,ZH,ZI,reduceCtorEq,ZD,mwV,↓mwD,mwU]
     refine (refSame_c gs[k] gs[k] _ _ w'.drew hf hf').use ?_
     rintro r w2 ⟨rfl, h2⟩
     have e1 := eqFm_refl gs[k]
     simp -dsimp -implicitDefEqProofs only [h5,h0,h1,e1,h2,hw,m33,sF33,ZA,↓reduceIte,ZB,ZC,ZJ,ZK,ZE,ZF,ZG,ZH,ZI,reduceCtorEq,ZD,mwV,↓mwD,mwU]
     exact ⟨⟨k + 1, by omega, rfl, hxd.trans h2⟩, by simp only [intOf]; omega⟩
   · simp -dsimp -implicitDefEqProofs only [h5,h0,h1,m33,sF33,ZA,↓reduceIte,ZB,ZC,ZJ,ZK,ZE,ZF,ZG,ZH,ZI,reduceCtorEq,ZD,mwV,↓mwD,mwU]
     exact hx
end Go.Proofs.YthcdnjbhhaonhaaGreatDoor
/- Layer 02: Agree, of the program and of the reference. -/
namespace Go.Proofs.YthcdnjbhhaonhaaGreatDoor
open Go.RowKit
open Nat renaming reduceEqDiff → ZA, reduceAdd → ZB, reduceMul → ZC, reduceSub → ZD
open Int renaming reduceToNat → ZE, reduceEq → ZF, reduceLT → ZG, reduceLE → ZH, reduceNeg → ZI
open Go.Value renaming oneCell' → ZK, cells → ZJ
open Go.Proofs.Tryz renaming prog → ZP
set_option linter.unusedSimpArgs false
def AgR (a b : List Fm) (g : Fm) (i j c : Int) : Prop := if (rightG a && rightG b) = true then ∃ o, AgQ a b o ∧ (match o with
 | none => g = ⟨0, []⟩ ∧ i = 0 ∧ j = 0 ∧ c = 13
 | some (x, m, n) => g = ⟨x.m, x.F.map fixF⟩ ∧ i = m ∧ j = n ∧ c = 0) else g = ⟨0, []⟩ ∧ i = 0 ∧ j = 0 ∧ c = 1
theorem AgR.eq {a b : List Fm} {g g' : Fm} {i j c i' j' c' : Int} (h : AgR a b g i j c) (h' : AgR a b g' i' j' c') : g = g' ∧ i = i' ∧ j = j' ∧ c = c' := by
 unfold AgR at h h'
 split at h
 · rename_i hr
   rw [if_pos hr] at h'
   obtain ⟨o, h1, h2⟩ := h
   obtain ⟨o', k1, k2⟩ := h'
   obtain rfl := h1.eq k1
   cases o with
   | none => exact ⟨h2.1.trans k2.1.symm, h2.2.1.trans k2.2.1.symm, h2.2.2.1.trans k2.2.2.1.symm, h2.2.2.2.trans k2.2.2.2.symm⟩
   | some o => exact ⟨h2.1.trans k2.1.symm, h2.2.1.trans k2.2.1.symm, h2.2.2.1.trans k2.2.2.1.symm, h2.2.2.2.trans k2.2.2.2.symm⟩
 · rename_i hr
   rw [if_neg hr] at h'
   exact ⟨h.1.trans h'.1.symm, h.2.1.trans h'.2.1.symm, h.2.2.1.trans h'.2.2.1.symm, h.2.2.2.trans h'.2.2.2.symm⟩
def AgW (a b : List Fm) (w : World) (r : Value) (w' : World) : Prop := Ext w w' ∧ ∃ (g : Fm) (q : Option Addr) (n : Nat) (i j c : Int), r = .tuple #[.agg #[.int .i64 g.m, .slice q g.F.length n], .int .i64 i, .int .i64 j, .int .i64 c] ∧ SlF w' (.slice q g.F.length n) g.F ∧ AgR a b g i j c
theorem JoinO.len {x y g : Fm} (h : JoinO x y (some g)) (vx : x.valid = true) (vy : y.valid = true) : g.F.length ≤ 1000 := by
 unfold JoinO at h
 split at h
 · obtain ⟨o, h1, h2⟩ := h
   cases o with
   | none => cases h2
   | some J =>
    simp only [Option.map_some,Option.some.injEq] at h2
    subst h2
    have fA : fieldsB 0 x.F = true := by have := vx; unfold Fm.valid at this; simp only [Bool.and_eq_true] at this; exact this.1
    have fB : fieldsB 0 y.F = true := by have := vy; unfold Fm.valid at this; simp only [Bool.and_eq_true] at this; exact this.1
    rcases fieldsB_len (join_ok x.F y.F 0 _ fA fB h1).1 with h | h
    · simp only [h,List.length_nil]; omega
    · simp only at h ⊢; omega
 · cases h
def NoneTo (a b : List Fm) (k m : Nat) : Prop := ∀ (i j : Nat) (x y : Fm), a[i]? = some x → b[j]? = some y → (i < k ∨ (i = k ∧ j < m)) → JoinO x y none
theorem NoneTo.zero (a b : List Fm) : NoneTo a b 0 0 := fun i j x y _ _ h => by omega
theorem NoneTo.row {a b : List Fm} {k : Nat} (h : NoneTo a b k b.length) : NoneTo a b (k + 1) 0 := fun i j x y h1 h2 h3 => h i j x y h1 h2 (by have := (List.getElem?_eq_some_iff.1 h2).1; omega)
theorem NoneTo.next {a b : List Fm} {k m : Nat} (h : NoneTo a b k m) (hk : k < a.length) (hm : m < b.length) (hj : JoinO a[k] b[m] none) : NoneTo a b k (m + 1) := fun i j x y h1 h2 h3 => by
 by_cases e : i = k ∧ j = m
 · obtain ⟨rfl, rfl⟩ := e
   rw [List.getElem?_eq_getElem hk] at h1
   rw [List.getElem?_eq_getElem hm] at h2
   cases h1; cases h2; exact hj
 · exact h i j x y h1 h2 (by omega)
theorem NoneTo.all {a b : List Fm} (h : NoneTo a b a.length 0) : AgQ a b none := fun i j x y h1 h2 => h i j x y h1 h2 (.inl (List.getElem?_eq_some_iff.1 h1).1)
theorem NoneTo.hit {a b : List Fm} {k m : Nat} {g : Fm} (h : NoneTo a b k m) (hk : k < a.length) (hm : m < b.length) (hj : JoinO a[k] b[m] (some g)) : AgQ a b (some (g, k, m)) :=
 ⟨a[k], b[m], List.getElem?_eq_getElem hk, List.getElem?_eq_getElem hm, hj, h⟩
set_option maxHeartbeats 1000000 in
theorem Agree_c (a b : List Fm) (va vb : Value) (w : World) (hA : SlG w va a) (hB : SlG w vb b) : Rets ZP 34 #[va, vb] w (AgW a b w) := by
 obtain ⟨qa, ca, rfl, hc1, hc2⟩ := hA.shape
 obtain ⟨qb, cb, rfl, hc3, hc4⟩ := hB.shape
 obtain ⟨W, hW, C, x0⟩ := new_bk w [.int .i64 0, .slice none 0 0] 24
 refine en34 ?_
 simp -dsimp -implicitDefEqProofs only [← hW,m34,sF34,ZA,↓reduceIte,ZB,ZC,ZJ,ZK,ZE,ZF,ZG,ZH,ZI,reduceCtorEq,ZD,mwV,↓mwD,mwU]
 clear hW
 -- an ending that tells a zero format
 have zero : ∀ {u : World}, Ext W u → (∃ x, u.cell? ⟨w.heap.size, 0, none⟩ = some x) := fun h => ⟨_, (C.ext h).get (o := 0) rfl⟩
 refine (valid_c' _ a W (hA.ext x0)).use ?_
 rintro r w1 ⟨rfl, h1⟩
 have lit : ∀ {u : World}, Ext W u → FPut u w.heap.size (.int .i64 0) (.slice none 0 0) ∧ u.cell? ⟨w.heap.size, 0, none⟩ = some (.int .i64 0) ∧ u.cell? ⟨w.heap.size, 1, none⟩ = some (.slice none 0 0) := fun h =>
  ⟨fput (C.ext h) _ _, (C.ext h).get (o := 0) rfl, (C.ext h).get (o := 1) rfl⟩
 have done : ∀ {u : World}, Ext W u → Ext w ((u.setCell ⟨w.heap.size, 0, none⟩ (.int .i64 0)).setCell ⟨w.heap.size, 1, none⟩ (.slice none 0 0)) := fun h => (fput (C.ext h) _ _).ch.ext (x0.trans h) (fun j hj => by subst hj; exact Nat.le_refl _)
 cases ra : rightG a
 · obtain ⟨P, C0, C1⟩ := lit h1
   obtain ⟨z0', c0⟩ := P.c0
   obtain ⟨z1', c1⟩ := P.c1
   have z0 := P.z0
   have z1 := P.z1
   have r0 := P.bk.get (o := 0) rfl
   have r1 := P.bk.get (o := 1) rfl
   simp -dsimp -implicitDefEqProofs only [C0,C1,c1,z0,z1,r0,r1,m34,sF34,ZA,↓reduceIte,ZB,ZC,ZJ,ZK,ZE,ZF,ZG,ZH,ZI,reduceCtorEq,ZD,mwV,↓mwD,mwU]
   exact ⟨done h1, ⟨0, []⟩, none, 0, 0, 0, 1, rfl, SlF.nil _, by unfold AgR; rw [ra]; exact ⟨rfl, rfl, rfl, rfl⟩⟩
 simp -dsimp -implicitDefEqProofs only [m34,sF34,ZA,↓reduceIte,ZB,ZC,ZJ,ZK,ZE,ZF,ZG,ZH,ZI,reduceCtorEq,ZD,mwV,↓mwD,mwU]
 refine (valid_c' _ b w1 (hB.ext (x0.trans h1))).use ?_
 rintro r w2 ⟨rfl, h2⟩
 cases rb : rightG b
 · obtain ⟨P, C0, C1⟩ := lit (h1.trans h2)
   obtain ⟨z1', c1⟩ := P.c1
   have z0 := P.z0
   have z1 := P.z1
   have r0 := P.bk.get (o := 0) rfl
   have r1 := P.bk.get (o := 1) rfl
   simp -dsimp -implicitDefEqProofs only [C0,C1,c1,z0,z1,r0,r1,m34,sF34,ZA,↓reduceIte,ZB,ZC,ZJ,ZK,ZE,ZF,ZG,ZH,ZI,reduceCtorEq,ZD,mwV,↓mwD,mwU]
   exact ⟨done (h1.trans h2), ⟨0, []⟩, none, 0, 0, 0, 1, rfl, SlF.nil _, by unfold AgR; rw [ra, rb]; exact ⟨rfl, rfl, rfl, rfl⟩⟩
 simp -dsimp -implicitDefEqProofs only [m34,sF34,ZA,↓reduceIte,ZB,ZC,ZJ,ZK,ZE,ZF,ZG,ZH,ZI,reduceCtorEq,ZD,mwV,↓mwD,mwU]
 refine mwpB_loop (fun e ds w' => ∃ (k : Nat), k ≤ a.length ∧ e 25 = .int .i64 k ∧ e 24 = .int .i64 a.length ∧ e 23 = .slice qa a.length ca ∧ e 1 = .slice qb b.length cb ∧ e 4 = .pointer (some ⟨w.heap.size, 0, none⟩) ∧ ds = [] ∧ Ext W w' ∧ NoneTo a b k 0)
  (fun e _ => a.length - (intOf (e 25)).toNat) ?_ ?_
 · simp -dsimp -implicitDefEqProofs only [m34,sF34,ZA,↓reduceIte,ZB,ZC,ZJ,ZK,ZE,ZF,ZG,ZH,ZI,reduceCtorEq,ZD,mwV,↓mwD,mwU]
   exact ⟨0, by omega, rfl, h1.trans h2, NoneTo.zero _ _⟩
 · rintro e ds w' ⟨k, hk, h25, h24, h23, h1', h4, rfl, hx, hno⟩
   simp -dsimp -implicitDefEqProofs only [h25,h24,h23,h1',h4,m34,sF34,ZA,↓reduceIte,ZB,ZC,ZJ,ZK,ZE,ZF,ZG,ZH,ZI,reduceCtorEq,ZD,mwV,↓mwD,mwU]
   refine iteW_dec (fun hlt => ?_) (fun hge => ?_)
   · have hlt' : k < a.length := by omega
     obtain ⟨vk, _⟩ := right_get ra hlt'
     obtain ⟨b0, o0, pk, ck, rfl, q0, q1, hf⟩ := (hA.ext (x0.trans hx)).get hlt'
     have hb1 : (0 : Int) ≤ k ∧ (k : Int) < a.length := by omega
     have hw := w64_succ hlt' (Nat.le_trans hc1 hc2)
     obtain ⟨W1, hW1, B, x1⟩ := new_bk w' [.int .i64 a[k].m, .slice pk a[k].F.length ck] 24
     simp -dsimp -implicitDefEqProofs only [h25,h24,h23,h1',h4,hb1,and_self,q0,q1,Nat.mul_comm k 2,← hW1,m34,sF34,ZA,↓reduceIte,ZB,ZC,ZJ,ZK,ZE,ZF,ZG,ZH,ZI,reduceCtorEq,ZD,mwV,↓mwD,mwU]
     clear hW1
     have H25 := h25
     refine mwpB_loop (fun e' ds u => ∃ (m : Nat), m ≤ b.length ∧ e' 32 = .int .i64 m ∧ e' 31 = .int .i64 b.length ∧ e' 30 = .slice qb b.length cb ∧ e' 25 = .int .i64 k ∧ e' 24 = .int .i64 a.length ∧ e' 23 = .slice (some ⟨b0, o0, none⟩) a.length ca ∧ e' 1 = .slice qb b.length cb ∧ e' 4 = .pointer (some ⟨w.heap.size, 0, none⟩) ∧ e' 8 = .int .i64 k ∧ e' 9 = .pointer (some ⟨w'.heap.size, 0, none⟩) ∧ ds = [] ∧ Ext W1 u ∧ NoneTo a b k m)
      (fun e _ => b.length - (intOf (e 32)).toNat) ?_ ?_
     · simp -dsimp -implicitDefEqProofs only [h25,h24,h23,h1',h4,m34,sF34,ZA,↓reduceIte,ZB,ZC,ZJ,ZK,ZE,ZF,ZG,ZH,ZI,reduceCtorEq,ZD,mwV,↓mwD,mwU]
       exact ⟨0, by omega, rfl, Ext.refl _, hno⟩
     · rintro e' ds u ⟨m, hm, h32, h31, h30, h25, h24, h23, h1', h4, h8, h9, rfl, hu, hno'⟩
       simp -dsimp -implicitDefEqProofs only [h32,h31,h30,h25,h24,h23,h1',h4,h8,h9,m34,sF34,ZA,↓reduceIte,ZB,ZC,ZJ,ZK,ZE,ZF,ZG,ZH,ZI,reduceCtorEq,ZD,mwV,↓mwD,mwU]
       refine iteW_dec (fun hlt2 => ?_) (fun hge2 => ?_)
       · have hlt2' : m < b.length := by omega
         obtain ⟨vm, _⟩ := right_get rb hlt2'
         have xu := hx.trans (x1.trans hu)
         obtain ⟨b1, o1, pm, cm, rfl, y0, y1, hg⟩ := (hB.ext (x0.trans xu)).get hlt2'
         have hb2 : (0 : Int) ≤ m ∧ (m : Int) < b.length := by omega
         have hw2 := w64_succ hlt2' (Nat.le_trans hc3 hc4)
         obtain ⟨W2, hW2, D, x2⟩ := new_bk u [.int .i64 b[m].m, .slice pm b[m].F.length cm] 24
         have B0 := (B.ext (hu.trans x2)).get (o := 0) rfl
         have B1 := (B.ext (hu.trans x2)).get (o := 1) rfl
         have D0 := D.get (o := 0) rfl
         have D1 := D.get (o := 1) rfl
         simp -dsimp -implicitDefEqProofs only [h32,h31,h30,h25,h24,h23,h1',h4,h8,h9,hb2,and_self,y0,y1,Nat.mul_comm m 2,← hW2,B0,B1,D0,D1,m34,sF34,ZA,↓reduceIte,ZB,ZC,ZJ,ZK,ZE,ZF,ZG,ZH,ZI,reduceCtorEq,ZD,mwV,↓mwD,mwU]
         clear hW2
         refine (join_r a[k] b[m] _ _ W2 (hf.ext (x1.trans (hu.trans x2))) (hg.ext x2) vk vm).use ?_
         intro r w3 hj
         obtain ⟨h3', m', qj, kj, cj, c, rfl, hc⟩ := joinQ_tell hj
         obtain ⟨W4, hW4, E, x4⟩ := new_bk w3 [.int .i64 m', .slice qj kj cj] 24
         have E0 := E.get (o := 0) rfl
         have E1 := E.get (o := 1) rfl
         have xx : Ext W1 W4 := hu.trans (x2.trans (h3'.trans x4))
         rcases hc with ⟨rfl, acc, hjo, hof⟩ | ⟨hne, hjo⟩
         · have hl := hjo.len vk vm
           have hs4 := (hof.ext x4).slF
           have hfix := fix_c ⟨m', acc.map (·.1)⟩ (.slice qj kj cj) W4 hs4 hl
           simp only [fmV] at hfix
           simp -dsimp -implicitDefEqProofs only [h32,h31,h30,h25,h24,h23,h1',h4,h8,h9,← hW4,E0,E1,m34,sF34,ZA,↓reduceIte,ZB,ZC,ZJ,ZK,ZE,ZF,ZG,ZH,ZI,reduceCtorEq,ZD,mwV,↓mwD,mwU]
           refine hfix.use ?_
           rintro r w5 ⟨h5, sx, acx, rfl, hacx, hox⟩
           have xf := (hx.trans x1).trans (xx.trans h5)
           obtain ⟨qx, kx, cx, rfl⟩ := own_slice hox.1
           have P := fput (C.ext xf) (.int .i64 m') (.slice qx kx cx)
           obtain ⟨z0', c0⟩ := P.c0
           obtain ⟨z1', c1⟩ := P.c1
           have z0 := P.z0
           have z1 := P.z1
           have r0 := P.bk.get (o := 0) rfl
           have r1 := P.bk.get (o := 1) rfl
           simp -dsimp -implicitDefEqProofs only [fmV,h8,h4,c0,c1,z0,z1,r0,r1,m34,sF34,ZA,↓reduceIte,ZB,ZC,ZJ,ZK,ZE,ZF,ZG,ZH,ZI,reduceCtorEq,ZD,mwV,↓mwD,mwU]
           have hs5 := (hox.ch P.ch (fun j hj => by subst hj; exact (C.ext xf).odd (by decide) (by decide))).slF
           rw [hacx] at hs5
           obtain ⟨_, _, e5, _, _⟩ := hs5.shape
           cases e5
           exact ⟨P.ch.ext (x0.trans xf) (fun j hj => by subst hj; exact Nat.le_refl _), ⟨m', (acc.map (·.1)).map fixF⟩, qx, cx, k, m, 0, rfl, hs5, by unfold AgR; rw [ra, rb]; exact ⟨some (_, k, m), hno'.hit hlt' hlt2' hjo, rfl, rfl, rfl, rfl⟩⟩
         · simp -dsimp -implicitDefEqProofs only [h32,h31,h30,h25,h24,h23,h1',h4,h8,h9,← hW4,hne,hw2,m34,sF34,ZA,↓reduceIte,ZB,ZC,ZJ,ZK,ZE,ZF,ZG,ZH,ZI,reduceCtorEq,ZD,mwV,↓mwD,mwU]
           exact ⟨⟨m + 1, by omega, rfl, xx, hno'.next hlt' hlt2' hjo⟩, by simp only [intOf]; omega⟩
       · have hkl : m = b.length := by omega
         subst hkl
         simp -dsimp -implicitDefEqProofs only [h32,h31,h30,h25,h24,h23,h1',h4,h8,h9,hw,m34,sF34,ZA,↓reduceIte,ZB,ZC,ZJ,ZK,ZE,ZF,ZG,ZH,ZI,reduceCtorEq,ZD,mwV,↓mwD,mwU]
         exact ⟨⟨k + 1, by omega, rfl, hx.trans (x1.trans hu), hno'.row⟩, by simp only [intOf,H25]; omega⟩
   · have hkl : k = a.length := by omega
     subst hkl
     obtain ⟨P, C0, C1⟩ := lit hx
     obtain ⟨z1', c1⟩ := P.c1
     have z0 := P.z0
     have z1 := P.z1
     have r0 := P.bk.get (o := 0) rfl
     have r1 := P.bk.get (o := 1) rfl
     simp -dsimp -implicitDefEqProofs only [h25,h24,h23,h1',h4,C0,C1,c1,z0,z1,r0,r1,m34,sF34,ZA,↓reduceIte,ZB,ZC,ZJ,ZK,ZE,ZF,ZG,ZH,ZI,reduceCtorEq,ZD,mwV,↓mwD,mwU]
     exact ⟨done hx, ⟨0, []⟩, none, 0, 0, 0, 13, rfl, SlF.nil _, by unfold AgR; rw [ra, rb]; exact ⟨none, hno.all, rfl, rfl, rfl, rfl⟩⟩
set_option maxHeartbeats 1000000 in
theorem refAgree_c (a b : List Fm) (va vb : Value) (w : World) (hA : SlG w va a) (hB : SlG w vb b) : Rets ZP 35 #[va, vb] w (AgW a b w) := by
 obtain ⟨qa, ca, rfl, hc1, hc2⟩ := hA.shape
 obtain ⟨qb, cb, rfl, hc3, hc4⟩ := hB.shape
 obtain ⟨W, hW, C, x0⟩ := new_bk w [.int .i64 0, .slice none 0 0] 24
 refine en35 ?_
 simp -dsimp -implicitDefEqProofs only [← hW,m35,sF35,ZA,↓reduceIte,ZB,ZC,ZJ,ZK,ZE,ZF,ZG,ZH,ZI,reduceCtorEq,ZD,mwV,↓mwD,mwU]
 clear hW
 refine (right_c _ a W (hA.ext x0)).use ?_
 rintro r w1 ⟨rfl, h1⟩
 have done : ∀ {u : World}, Ext W u → Ext w ((u.setCell ⟨w.heap.size, 0, none⟩ (.int .i64 0)).setCell ⟨w.heap.size, 1, none⟩ (.slice none 0 0)) := fun h => (fput (C.ext h) _ _).ch.ext (x0.trans h) (fun j hj => by subst hj; exact Nat.le_refl _)
 cases ra : rightG a
 · have P := fput (C.ext h1) (.int .i64 0) (.slice none 0 0)
   obtain ⟨z0', c0⟩ := P.c0
   obtain ⟨z1', c1⟩ := P.c1
   have z0 := P.z0
   have z1 := P.z1
   have r0 := P.bk.get (o := 0) rfl
   have r1 := P.bk.get (o := 1) rfl
   simp -dsimp -implicitDefEqProofs only [bv_fm0,c0,c1,z0,z1,r0,r1,m35,sF35,ZA,↓reduceIte,ZB,ZC,ZJ,ZK,ZE,ZF,ZG,ZH,ZI,reduceCtorEq,ZD,mwV,↓mwD,mwU]
   exact ⟨done h1, ⟨0, []⟩, none, 0, 0, 0, 1, rfl, SlF.nil _, by unfold AgR; rw [ra]; exact ⟨rfl, rfl, rfl, rfl⟩⟩
 simp -dsimp -implicitDefEqProofs only [m35,sF35,ZA,↓reduceIte,ZB,ZC,ZJ,ZK,ZE,ZF,ZG,ZH,ZI,reduceCtorEq,ZD,mwV,↓mwD,mwU]
 refine (right_c _ b w1 (hB.ext (x0.trans h1))).use ?_
 rintro r w2 ⟨rfl, h2⟩
 cases rb : rightG b
 · have P := fput (C.ext (h1.trans h2)) (.int .i64 0) (.slice none 0 0)
   obtain ⟨z0', c0⟩ := P.c0
   obtain ⟨z1', c1⟩ := P.c1
   have z0 := P.z0
   have z1 := P.z1
   have r0 := P.bk.get (o := 0) rfl
   have r1 := P.bk.get (o := 1) rfl
   simp -dsimp -implicitDefEqProofs only [bv_fm0,c0,c1,z0,z1,r0,r1,m35,sF35,ZA,↓reduceIte,ZB,ZC,ZJ,ZK,ZE,ZF,ZG,ZH,ZI,reduceCtorEq,ZD,mwV,↓mwD,mwU]
   exact ⟨done (h1.trans h2), ⟨0, []⟩, none, 0, 0, 0, 1, rfl, SlF.nil _, by unfold AgR; rw [ra, rb]; exact ⟨rfl, rfl, rfl, rfl⟩⟩
 simp -dsimp -implicitDefEqProofs only [m35,sF35,ZA,↓reduceIte,ZB,ZC,ZJ,ZK,ZE,ZF,ZG,ZH,ZI,reduceCtorEq,ZD,mwV,↓mwD,mwU]
 refine mwpB_loop (fun e ds w' => ∃ (k : Nat), k ≤ a.length ∧ e 8 = .int .i64 k ∧ e 0 = .slice qa a.length ca ∧ e 1 = .slice qb b.length cb ∧ e 4 = .pointer (some ⟨w.heap.size, 0, none⟩) ∧ ds = [] ∧ Ext W w' ∧ NoneTo a b k 0)
  (fun e _ => a.length - (intOf (e 8)).toNat) ?_ ?_
 · simp -dsimp -implicitDefEqProofs only [m35,sF35,ZA,↓reduceIte,ZB,ZC,ZJ,ZK,ZE,ZF,ZG,ZH,ZI,reduceCtorEq,ZD,mwV,↓mwD,mwU]
   exact ⟨0, by omega, rfl, h1.trans h2, NoneTo.zero _ _⟩
 · rintro e ds w' ⟨k, hk, h8, h0, h1', h4, rfl, hx, hno⟩
   simp -dsimp -implicitDefEqProofs only [h8,h0,h1',h4,m35,sF35,ZA,↓reduceIte,ZB,ZC,ZJ,ZK,ZE,ZF,ZG,ZH,ZI,reduceCtorEq,ZD,mwV,↓mwD,mwU]
   refine iteW_dec (fun hlt => ?_) (fun hge => ?_)
   · have hlt' : k < a.length := by omega
     obtain ⟨vk, _⟩ := right_get ra hlt'
     have hb1 : (0 : Int) ≤ k ∧ (k : Int) < a.length := by omega
     have hw := w64_succ hlt' (Nat.le_trans hc1 hc2)
     simp -dsimp -implicitDefEqProofs only [h8,h0,h1',h4,m35,sF35,ZA,↓reduceIte,ZB,ZC,ZJ,ZK,ZE,ZF,ZG,ZH,ZI,reduceCtorEq,ZD,mwV,↓mwD,mwU]
     have H8 := h8
     refine mwpB_loop (fun e' ds u => ∃ (m : Nat), m ≤ b.length ∧ e' 9 = .int .i64 m ∧ e' 8 = .int .i64 k ∧ e' 0 = .slice qa a.length ca ∧ e' 1 = .slice qb b.length cb ∧ e' 4 = .pointer (some ⟨w.heap.size, 0, none⟩) ∧ ds = [] ∧ Ext W u ∧ NoneTo a b k m)
      (fun e _ => b.length - (intOf (e 9)).toNat) ?_ ?_
     · simp -dsimp -implicitDefEqProofs only [h8,h0,h1',h4,m35,sF35,ZA,↓reduceIte,ZB,ZC,ZJ,ZK,ZE,ZF,ZG,ZH,ZI,reduceCtorEq,ZD,mwV,↓mwD,mwU]
       exact ⟨0, by omega, rfl, hx, hno⟩
     · rintro e' ds u ⟨m, hm, h9, h8, h0, h1', h4, rfl, xu, hno'⟩
       simp -dsimp -implicitDefEqProofs only [h9,h8,h0,h1',h4,m35,sF35,ZA,↓reduceIte,ZB,ZC,ZJ,ZK,ZE,ZF,ZG,ZH,ZI,reduceCtorEq,ZD,mwV,↓mwD,mwU]
       refine iteW_dec (fun hlt2 => ?_) (fun hge2 => ?_)
       · have hlt2' : m < b.length := by omega
         obtain ⟨vm, _⟩ := right_get rb hlt2'
         have xd := x0.trans (xu.trans (Ext.drew u))
         obtain ⟨b0, o0, pk, ck, rfl, q0, q1, hf⟩ := (hA.ext xd).get hlt'
         obtain ⟨b1, o1, pm, cm, rfl, y0, y1, hg⟩ := (hB.ext xd).get hlt2'
         have hb2 : (0 : Int) ≤ m ∧ (m : Int) < b.length := by omega
         have hw2 := w64_succ hlt2' (Nat.le_trans hc3 hc4)
         simp -dsimp -implicitDefEqProofs only [h9,h8,h0,h1',h4,m35,sF35,ZA,↓reduceIte,ZB,ZC,ZJ,ZK,ZE,ZF,ZG,ZH,ZI,reduceCtorEq,ZD,mwV,↓mwD,mwU]
         have H9 := h9
         refine mwpB_mid (fun e' ds w5 => e' 9 = .int .i64 m ∧ e' 8 = .int .i64 k ∧ e' 0 = .slice (some ⟨b0, o0, none⟩) a.length ca ∧ e' 1 = .slice (some ⟨b1, o1, none⟩) b.length cb ∧ e' 4 = .pointer (some ⟨w.heap.size, 0, none⟩) ∧ ds = [] ∧ Ext u w5 ∧ ∃ b8, e' 10 = .pointer (some ⟨b8, 0, none⟩) ∧ KeptJ a[k] b[m] u w5 b8 (e' 11)) ?_ ?_
         · refine mwpB_drawE ?_
           have B := Bk.new u.drew [.int .i64 0, .slice none 0 0] 24
           have EA' : Ext u.drew (u.drew.alloc (.cells #[.int .i64 0, .slice none 0 0] 24)) := Ext.alloc _ _
           simp -dsimp -implicitDefEqProofs only [h9,h8,h0,h1',h4,hb1,hb2,and_self,q0,q1,y0,y1,Nat.mul_comm k 2,Nat.mul_comm m 2,planEB_two,EA',m35,sF35,ZA,↓reduceIte,ZB,ZC,ZJ,ZK,ZE,ZF,ZG,ZH,ZI,reduceCtorEq,ZD,mwV,↓mwD,mwU]
           refine ⟨?_, ?_⟩
           · refine (Joined_c a[k] b[m] _ _ u.drew hf hg vk vm).use ?_
             intro r w3 hj
             obtain ⟨h3', m', qj, kj, cj, c, rfl, hc⟩ := joinQ_tell hj
             have E2 : Ext u.drew (w3.alloc (.cells #[.int .i64 0, .slice none 0 0] 24)) := h3'.trans (Ext.alloc _ _)
             simp -dsimp -implicitDefEqProofs only [h9,h8,h0,h1',h4,h3',E2,m35,sF35,ZA,↓reduceIte,ZB,ZC,ZJ,ZK,ZE,ZF,ZG,ZH,ZI,reduceCtorEq,ZD,mwV,↓mwD,mwU]
             exact ⟨(Ext.drew u).trans (h3'.trans (Ext.alloc _ _)), _, rfl, .new (Nat.le_refl _) hc⟩
           · refine (Joined_c a[k] b[m] _ _ _ (hf.ext EA') (hg.ext EA') vk vm).use ?_
             intro r w3 hj
             obtain ⟨h3', m', qj, kj, cj, c, rfl, hc⟩ := joinQ_tell hj
             have P := fput (B.ext h3') (.int .i64 m') (.slice qj kj cj)
             obtain ⟨z0', c0⟩ := P.c0
             obtain ⟨z1', c1⟩ := P.c1
             have z0 := P.z0
             have z1 := P.z1
             have E2 := EA'.trans h3'
             simp -dsimp -implicitDefEqProofs only [h9,h8,h0,h1',h4,E2,c0,c1,z0,z1,m35,sF35,ZA,↓reduceIte,ZB,ZC,ZJ,ZK,ZE,ZF,ZG,ZH,ZI,reduceCtorEq,ZD,mwV,↓mwD,mwU]
             exact ⟨P.ch.ext ((Ext.drew u).trans E2) (fun j hj => by subst hj; exact Nat.le_refl _), _, rfl, .put P (B.ext h3') EA'.size hc⟩
         · rintro e' ds w5 ⟨h9, h8, h0, h1', h4, rfl, hx5, b8, h10, m', qj, kj, cj, c, D, h11, hc⟩
           have D0 := D.get (o := 0) rfl
           have D1 := D.get (o := 1) rfl
           have xx := xu.trans hx5
           rcases hc with ⟨rfl, acc, hjo, hof⟩ | ⟨hne, hjo⟩
           · have hl := hjo.len vk vm
             have hfix := Fix1_c ⟨m', acc.map (·.1)⟩ (.slice qj kj cj) w5 hof.slF hl
             simp only [fmV] at hfix
             simp -dsimp -implicitDefEqProofs only [h9,h8,h0,h1',h4,h10,h11,D0,D1,m35,sF35,ZA,↓reduceIte,ZB,ZC,ZJ,ZK,ZE,ZF,ZG,ZH,ZI,reduceCtorEq,ZD,mwV,↓mwD,mwU]
             refine hfix.use ?_
             rintro r w6 ⟨h6, sx, acx, rfl, hacx, hox⟩
             have xf := xx.trans h6
             obtain ⟨qx, kx, cx, rfl⟩ := own_slice hox.1
             have P := fput (C.ext xf) (.int .i64 m') (.slice qx kx cx)
             obtain ⟨z0', c0⟩ := P.c0
             obtain ⟨z1', c1⟩ := P.c1
             have z0 := P.z0
             have z1 := P.z1
             have r0 := P.bk.get (o := 0) rfl
             have r1 := P.bk.get (o := 1) rfl
             simp -dsimp -implicitDefEqProofs only [fmV,h9,h8,h4,c0,c1,z0,z1,r0,r1,m35,sF35,ZA,↓reduceIte,ZB,ZC,ZJ,ZK,ZE,ZF,ZG,ZH,ZI,reduceCtorEq,ZD,mwV,↓mwD,mwU]
             have hs5 := (hox.ch P.ch (fun j hj => by subst hj; exact (C.ext xf).odd (by decide) (by decide))).slF
             rw [hacx] at hs5
             obtain ⟨_, _, e5, _, _⟩ := hs5.shape
             cases e5
             exact ⟨P.ch.ext (x0.trans xf) (fun j hj => by subst hj; exact Nat.le_refl _), ⟨m', (acc.map (·.1)).map fixF⟩, qx, cx, k, m, 0, rfl, hs5, by unfold AgR; rw [ra, rb]; exact ⟨some (_, k, m), hno'.hit hlt' hlt2' hjo, rfl, rfl, rfl, rfl⟩⟩
           · simp -dsimp -implicitDefEqProofs only [h9,h8,h0,h1',h4,h10,h11,hne,hw2,m35,sF35,ZA,↓reduceIte,ZB,ZC,ZJ,ZK,ZE,ZF,ZG,ZH,ZI,reduceCtorEq,ZD,mwV,↓mwD,mwU]
             exact ⟨⟨m + 1, by omega, rfl, xx, hno'.next hlt' hlt2' hjo⟩, by simp only [intOf,H9]; omega⟩
       · have hkl : m = b.length := by omega
         subst hkl
         simp -dsimp -implicitDefEqProofs only [h9,h8,h0,h1',h4,hw,m35,sF35,ZA,↓reduceIte,ZB,ZC,ZJ,ZK,ZE,ZF,ZG,ZH,ZI,reduceCtorEq,ZD,mwV,↓mwD,mwU]
         exact ⟨⟨k + 1, by omega, rfl, xu, hno'.row⟩, by simp only [intOf,H8]; omega⟩
   · have hkl : k = a.length := by omega
     subst hkl
     have P := fput (C.ext hx) (.int .i64 0) (.slice none 0 0)
     obtain ⟨z0', c0⟩ := P.c0
     obtain ⟨z1', c1⟩ := P.c1
     have z0 := P.z0
     have z1 := P.z1
     have r0 := P.bk.get (o := 0) rfl
     have r1 := P.bk.get (o := 1) rfl
     simp -dsimp -implicitDefEqProofs only [h8,h0,h1',h4,bv_fm0,c0,c1,z0,z1,r0,r1,m35,sF35,ZA,↓reduceIte,ZB,ZC,ZJ,ZK,ZE,ZF,ZG,ZH,ZI,reduceCtorEq,ZD,mwV,↓mwD,mwU]
     exact ⟨done hx, ⟨0, []⟩, none, 0, 0, 0, 13, rfl, SlF.nil _, by unfold AgR; rw [ra, rb]; exact ⟨none, hno.all, rfl, rfl, rfl, rfl⟩⟩
end Go.Proofs.YthcdnjbhhaonhaaGreatDoor
/- Layer 02: the law FormatAgrees. -/
namespace Go.Proofs.YthcdnjbhhaonhaaGreatDoor
open Go.RowKit
open Nat renaming reduceEqDiff → ZA, reduceAdd → ZB, reduceMul → ZC, reduceSub → ZD
open Int renaming reduceToNat → ZE, reduceEq → ZF, reduceLT → ZG, reduceLE → ZH, reduceNeg → ZI
open Go.Value renaming oneCell' → ZK, cells → ZJ
open Go.Proofs.Tryz renaming prog → ZP
set_option linter.unusedSimpArgs false
theorem filter_tell {l : List Fm} {f : Fm} {w w' : World} {r : Value} (h : FilQ l f w r w') : Ext w w' ∧ ∃ (gs : List Fm) (q : Option Addr) (n : Nat) (c : Int), r = .tuple #[.slice q gs.length n, .int .i64 c] ∧ SlG w' (.slice q gs.length n) gs ∧ (if (rightG l && f.valid) = true then FilR l f gs ∧ c = 0 else gs = [] ∧ c = 1) := by
 obtain ⟨hx, h⟩ := h
 refine ⟨hx, ?_⟩
 by_cases hv : (rightG l && f.valid) = true
 · rw [if_pos hv] at h
   obtain ⟨v, gs, rfl, h1, h2⟩ := h
   have hs := h2.slG
   obtain ⟨q, n, e, _, _⟩ := hs.shape
   exact ⟨gs.map (·.1), q, n, 0, by rw [e], by rw [← e]; exact hs, by rw [if_pos hv]; exact ⟨h1, rfl⟩⟩
 · rw [if_neg hv] at h
   exact ⟨[], none, 0, 1, h, SlG.nil _, by rw [if_neg hv]; exact ⟨rfl, rfl⟩⟩
theorem filter_one {l : List Fm} {f : Fm} {gs gs' : List Fm} {c c' : Int} (h : if (rightG l && f.valid) = true then FilR l f gs ∧ c = 0 else gs = [] ∧ c = 1) (h' : if (rightG l && f.valid) = true then FilR l f gs' ∧ c' = 0 else gs' = [] ∧ c' = 1) : gs = gs' ∧ c = c' := by
 split at h
 · rename_i hv
   rw [if_pos hv] at h'
   exact ⟨h.1.eq h'.1, h.2.trans h'.2.symm⟩
 · rename_i hv
   rw [if_neg hv] at h'
   exact ⟨h.1.trans h'.1.symm, h.2.trans h'.2.symm⟩
theorem wiL_trans {A B C : List Fl} (h : wiL A B) (h' : wiL B C) : wiL A C := fun y hy => by
 obtain ⟨x, hx, k1, w1⟩ := h' y hy
 obtain ⟨z, hz, k2, w2⟩ := h x hx
 exact ⟨z, hz, k2.trans k1, fun n hn => w1 n (w2 n hn)⟩
theorem agree_good {a b : List Fm} {g : Fm} {i j : Int} (h : AgR a b g i j 0) : g.valid = true ∧ fixedB g = true ∧ ∃ (m n : Nat) (hm : m < a.length) (hn : n < b.length), i = m ∧ j = n ∧ a[m].valid = true ∧ b[n].valid = true ∧ wiF g a[m] ∧ wiF g b[n] := by
 unfold AgR at h
 split at h
 · rename_i hr
   simp only [Bool.and_eq_true] at hr
   obtain ⟨o, h1, h2⟩ := h
   cases o with
   | none => exact absurd h2.2.2.2 (by decide)
   | some o =>
    obtain ⟨x, m, n⟩ := o
    obtain ⟨rfl, rfl, rfl, _⟩ := h2
    obtain ⟨xa, yb, ha, hb, hj, _⟩ := h1
    obtain ⟨hm, rfl⟩ := List.getElem?_eq_some_iff.1 ha
    obtain ⟨hn, rfl⟩ := List.getElem?_eq_some_iff.1 hb
    obtain ⟨va, _⟩ := right_get hr.1 hm
    obtain ⟨vb, _⟩ := right_get hr.2 hn
    unfold JoinO at hj
    split at hj
    · rename_i hmm
      obtain ⟨o, k1, k2⟩ := hj
      cases o with
      | none => cases k2
      | some J =>
       simp only [Option.map_some,Option.some.injEq] at k2
       subst k2
       have va' := va
       have vb' := vb
       unfold Fm.valid at va' vb'
       simp only [Bool.and_eq_true] at va' vb'
       obtain ⟨j1, j2, j3⟩ := join_ok _ _ 0 _ va'.1 vb'.1 k1
       obtain ⟨f1, f2⟩ := fixL_ok j1
       refine ⟨?_, ?_, m, n, hm, hn, rfl, rfl, va, vb, ⟨rfl, wiL_trans f2 j2⟩, ⟨hmm, wiL_trans f2 j3⟩⟩
       · unfold Fm.valid
         simp only [Bool.and_eq_true]
         exact ⟨f1, va'.2⟩
       · unfold fixedB
         rw [List.all_map]
         exact List.all_eq_true.2 fun x _ => by simp [fixF]
    · cases hj
 · exact absurd h.2.2.2 (by decide)
set_option maxHeartbeats 4000000 in
theorem lawA_c (a b : List Fm) (f : Fm) (va vb s : Value) (w : World) (ha : SlG w va a) (hb : SlG w vb b) (hf : SlF w s f.F) (haw : ∀ w', Ext w w' → Rets ZP 10 #[] w' fun r w2 => r = .bool true ∧ Ext w' w2) :
 Rets ZP 6 #[va, vb, fmV f s] w fun r w' => r = .bool true ∧ Ext w w' := by
 obtain ⟨qa, na, rfl, _, _⟩ := ha.shape
 obtain ⟨qb, nb, rfl, _, _⟩ := hb.shape
 obtain ⟨p, cp, rfl, _, _⟩ := hf.shape
 obtain ⟨W, hW, A, x0⟩ := new_bk w [.int .i64 f.m, .slice p f.F.length cp] 24
 refine en6 ?_
 refine mwpB_cut 1 (fun e ds w' => e 0 = .slice qa a.length na ∧ e 1 = .slice qb b.length nb ∧ e 5 = .pointer (some ⟨w.heap.size, 0, none⟩) ∧ ds = [] ∧ w' = W) ?_ ?_
 · simp -dsimp -implicitDefEqProofs only [fmV,headM_zero,headM_seq,hW,m6,sF6,ZA,↓reduceIte,ZB,ZC,ZJ,ZK,ZE,ZF,ZG,ZH,ZI,reduceCtorEq,ZD,mwV,↓mwD,mwU]
 clear hW
 rintro e ds w0 ⟨k0, k1, k5, rfl, rfl⟩
 have cells : ∀ {w' : World}, Ext w0 w' → w'.cell? ⟨w.heap.size, 0, none⟩ = some (.int .i64 f.m) ∧ w'.cell? ⟨w.heap.size, 1, none⟩ = some (.slice p f.F.length cp) := fun h => ⟨(A.ext h).get (o := 0) rfl, (A.ext h).get (o := 1) rfl⟩
 have end1 : ∀ {w'}, Ext w0 w' → Rets ZP 10 #[] w' fun r w2 => r = .bool true ∧ Ext w w2 := fun h => (haw _ (x0.trans h)).mono fun r w2 hr => ⟨hr.1, (x0.trans h).trans hr.2⟩
 simp -dsimp -implicitDefEqProofs only [tailM_zero,tailM_seq,k0,k1,k5,m6,sF6,ZA,↓reduceIte,ZB,ZC,ZJ,ZK,ZE,ZF,ZG,ZH,ZI,reduceCtorEq,ZD,mwV,↓mwD,mwU]
 refine (Lights_c a _ w0 (ha.ext x0)).use ?_
 rintro r w1 ⟨rfl, h1⟩
 cases la : lightsB a
 · simp -dsimp -implicitDefEqProofs only [m6,sF6,ZA,↓reduceIte,ZB,ZC,ZJ,ZK,ZE,ZF,ZG,ZH,ZI,reduceCtorEq,ZD,mwV,↓mwD,mwU]
   refine (end1 h1).use ?_
   rintro r w2 ⟨rfl, h2⟩
   simp -dsimp -implicitDefEqProofs only [m6,sF6,ZA,↓reduceIte,ZB,ZC,ZJ,ZK,ZE,ZF,ZG,ZH,ZI,reduceCtorEq,ZD,mwV,↓mwD,mwU]
   exact h2
 simp -dsimp -implicitDefEqProofs only [k0,k1,k5,m6,sF6,ZA,↓reduceIte,ZB,ZC,ZJ,ZK,ZE,ZF,ZG,ZH,ZI,reduceCtorEq,ZD,mwV,↓mwD,mwU]
 refine (Lights_c b _ w1 (hb.ext (x0.trans h1))).use ?_
 rintro r w2 ⟨rfl, h2⟩
 have hx2 := h1.trans h2
 cases lb : lightsB b
 · simp -dsimp -implicitDefEqProofs only [m6,sF6,ZA,↓reduceIte,ZB,ZC,ZJ,ZK,ZE,ZF,ZG,ZH,ZI,reduceCtorEq,ZD,mwV,↓mwD,mwU]
   refine (end1 hx2).use ?_
   rintro r w3 ⟨rfl, h3⟩
   simp -dsimp -implicitDefEqProofs only [m6,sF6,ZA,↓reduceIte,ZB,ZC,ZJ,ZK,ZE,ZF,ZG,ZH,ZI,reduceCtorEq,ZD,mwV,↓mwD,mwU]
   exact h3
 obtain ⟨A0, A1⟩ := cells hx2
 simp -dsimp -implicitDefEqProofs only [k0,k1,k5,A0,A1,m6,sF6,ZA,↓reduceIte,ZB,ZC,ZJ,ZK,ZE,ZF,ZG,ZH,ZI,reduceCtorEq,ZD,mwV,↓mwD,mwU]
 refine (Light_c f _ w2 (hf.ext (x0.trans hx2))).use ?_
 rintro r w3 ⟨rfl, h3⟩
 have hx3 := hx2.trans h3
 cases lf : lightB f
 · simp -dsimp -implicitDefEqProofs only [m6,sF6,ZA,↓reduceIte,ZB,ZC,ZJ,ZK,ZE,ZF,ZG,ZH,ZI,reduceCtorEq,ZD,mwV,↓mwD,mwU]
   refine (end1 hx3).use ?_
   rintro r w4 ⟨rfl, h4⟩
   simp -dsimp -implicitDefEqProofs only [m6,sF6,ZA,↓reduceIte,ZB,ZC,ZJ,ZK,ZE,ZF,ZG,ZH,ZI,reduceCtorEq,ZD,mwV,↓mwD,mwU]
   exact h4
 obtain ⟨A0, A1⟩ := cells hx3
 simp -dsimp -implicitDefEqProofs only [k0,k1,k5,A0,A1,m6,sF6,ZA,↓reduceIte,ZB,ZC,ZJ,ZK,ZE,ZF,ZG,ZH,ZI,reduceCtorEq,ZD,mwV,↓mwD,mwU]
 refine (Filter_c a f _ _ w3 (ha.ext (x0.trans hx3)) (hf.ext (x0.trans hx3))).use ?_
 rintro r w4 hq
 obtain ⟨h4, gs, q4, n4, c4, rfl, hs4, ht4⟩ := filter_tell hq
 have hx4 := hx3.trans h4
 obtain ⟨A0, A1⟩ := cells hx4
 simp -dsimp -implicitDefEqProofs only [k0,k1,k5,A0,A1,m6,sF6,ZA,↓reduceIte,ZB,ZC,ZJ,ZK,ZE,ZF,ZG,ZH,ZI,reduceCtorEq,ZD,mwV,↓mwD,mwU]
 refine (refFilter_c a f _ _ w4 (ha.ext (x0.trans hx4)) (hf.ext (x0.trans hx4))).use ?_
 rintro r w5 hq
 obtain ⟨h5, gs', q5, n5, c5, rfl, hs5, ht5⟩ := filter_tell hq
 obtain ⟨rfl, rfl⟩ := filter_one ht4 ht5
 have hx5 := hx4.trans h5
 simp -dsimp -implicitDefEqProofs only [k0,k1,k5,m6,sF6,ZA,↓reduceIte,ZB,ZC,ZJ,ZK,ZE,ZF,ZG,ZH,ZI,reduceCtorEq,ZD,mwV,↓mwD,mwU]
 refine (same_c gs _ _ w5 (hs4.ext h5) hs5).use ?_
 rintro r w6 ⟨rfl, h6⟩
 have hx6 := hx5.trans h6
 simp -dsimp -implicitDefEqProofs only [k0,k1,k5,m6,sF6,ZA,↓reduceIte,ZB,ZC,ZJ,ZK,ZE,ZF,ZG,ZH,ZI,reduceCtorEq,ZD,mwV,↓mwD,mwU]
 refine (Agree_c a b _ _ w6 (ha.ext (x0.trans hx6)) (hb.ext (x0.trans hx6))).use ?_
 rintro r w7 ⟨h7, g, q7, n7, i, j, c, rfl, hs7, ht7⟩
 obtain ⟨v7, hv7, K7, y7⟩ := new_bk w7 [.int .i64 g.m, .slice q7 g.F.length n7] 24
 have hx7 := hx6.trans (h7.trans y7)
 simp -dsimp -implicitDefEqProofs only [k0,k1,k5,← hv7,m6,sF6,ZA,↓reduceIte,ZB,ZC,ZJ,ZK,ZE,ZF,ZG,ZH,ZI,reduceCtorEq,ZD,mwV,↓mwD,mwU]
 clear hv7
 refine (refAgree_c a b _ _ v7 (ha.ext (x0.trans hx7)) (hb.ext (x0.trans hx7))).use ?_
 rintro r w8 ⟨h8, g', q8, n8, i', j', c', rfl, hs8, ht8⟩
 obtain ⟨rfl, rfl, rfl, rfl⟩ := ht7.eq ht8
 obtain ⟨v8, hv8, K8, y8⟩ := new_bk w8 [.int .i64 g.m, .slice q8 g.F.length n8] 24
 have hx8 := hx7.trans (h8.trans y8)
 have L0 := (K7.ext (h8.trans y8)).get (o := 0) rfl
 have L1 := (K7.ext (h8.trans y8)).get (o := 1) rfl
 have M0 := K8.get (o := 0) rfl
 have M1 := K8.get (o := 1) rfl
 have hs7' := hs7.ext (y7.trans (h8.trans y8))
 simp -dsimp -implicitDefEqProofs only [k0,k1,k5,← hv8,L0,L1,M0,M1,m6,sF6,ZA,↓reduceIte,ZB,ZC,ZJ,ZK,ZE,ZF,ZG,ZH,ZI,reduceCtorEq,ZD,mwV,↓mwD,mwU]
 clear hv8
 refine (refSame_c g g _ _ v8 hs7' (hs8.ext y8)).use ?_
 rintro r w9 ⟨rfl, h9⟩
 have e9 := eqFm_refl g
 have hx9 := hx8.trans h9
 by_cases hc : c = 0
 · subst hc
   obtain ⟨vg, fg, m, n, hm, hn, rfl, rfl, vm, vn, wm, wn⟩ := agree_good ht7
   have hx9d := hx9.trans (Ext.drew w9)
   obtain ⟨b0, o0, pm, cm, rfl, q0, q1, hfm⟩ := (ha.ext (x0.trans hx9d)).get hm
   have L0 := (K7.ext (h8.trans (y8.trans (h9.trans (Ext.drew w9))))).get (o := 0) rfl
   have L1 := (K7.ext (h8.trans (y8.trans (h9.trans (Ext.drew w9))))).get (o := 1) rfl
   have hb1 : (0 : Int) ≤ m ∧ (m : Int) < a.length := by omega
   have hb2 : (0 : Int) ≤ n ∧ (n : Int) < b.length := by omega
   simp -dsimp -implicitDefEqProofs only [k0,k1,k5,e9,m6,sF6,ZA,↓reduceIte,ZB,ZC,ZJ,ZK,ZE,ZF,ZG,ZH,ZI,reduceCtorEq,ZD,mwV,↓mwD,mwU]
   refine mwpB_drawE ?_
   simp -dsimp -implicitDefEqProofs only [k0,k1,k5,L0,L1,hb1,and_self,q0,q1,Nat.mul_comm m 2,planEB_two,m6,sF6,ZA,↓reduceIte,ZB,ZC,ZJ,ZK,ZE,ZF,ZG,ZH,ZI,reduceCtorEq,ZD,mwV,↓mwD,mwU]
   have hsg := hs7'.ext (h9.trans (Ext.drew w9))
   refine (FWithin_c g a[m] _ _ w9.drew hsg hfm).use ?_
   rintro r w10 ⟨h10, hr⟩
   rw [vg, vm] at hr
   obtain ⟨z, rfl, hz⟩ := hr
   obtain rfl := hz.2 wm
   have hx10 := hx9d.trans h10
   have hx10d := hx10.trans (Ext.drew w10)
   obtain ⟨b1, o1, pn, cn, rfl, q0', q1', hfn⟩ := (hb.ext (x0.trans hx10d)).get hn
   have L0 := (K7.ext (h8.trans (y8.trans (h9.trans ((Ext.drew w9).trans (h10.trans (Ext.drew w10))))))).get (o := 0) rfl
   have L1 := (K7.ext (h8.trans (y8.trans (h9.trans ((Ext.drew w9).trans (h10.trans (Ext.drew w10))))))).get (o := 1) rfl
   simp -dsimp -implicitDefEqProofs only [k0,k1,k5,h10,m6,sF6,ZA,↓reduceIte,ZB,ZC,ZJ,ZK,ZE,ZF,ZG,ZH,ZI,reduceCtorEq,ZD,mwV,↓mwD,mwU]
   refine mwpB_drawE ?_
   simp -dsimp -implicitDefEqProofs only [k0,k1,k5,L0,L1,hb2,and_self,q0',q1',Nat.mul_comm n 2,planEB_two,m6,sF6,ZA,↓reduceIte,ZB,ZC,ZJ,ZK,ZE,ZF,ZG,ZH,ZI,reduceCtorEq,ZD,mwV,↓mwD,mwU]
   have hsg2 := hsg.ext (h10.trans (Ext.drew w10))
   refine (FWithin_c g b[n] _ _ w10.drew hsg2 hfn).use ?_
   rintro r w11 ⟨h11, hr⟩
   rw [vg, vn] at hr
   obtain ⟨z, rfl, hz⟩ := hr
   obtain rfl := hz.2 wn
   have L0 := (K7.ext (h8.trans (y8.trans (h9.trans ((Ext.drew w9).trans (h10.trans ((Ext.drew w10).trans h11))))))).get (o := 0) rfl
   have L1 := (K7.ext (h8.trans (y8.trans (h9.trans ((Ext.drew w9).trans (h10.trans ((Ext.drew w10).trans h11))))))).get (o := 1) rfl
   simp -dsimp -implicitDefEqProofs only [k0,k1,k5,h11,L0,L1,m6,sF6,ZA,↓reduceIte,ZB,ZC,ZJ,ZK,ZE,ZF,ZG,ZH,ZI,reduceCtorEq,ZD,mwV,↓mwD,mwU]
   refine (Fixed_c g _ w11 (hsg2.ext h11)).use ?_
   rintro r w12 ⟨rfl, h12⟩
   have e12 : (g.valid && fixedB g) = true := by rw [vg, fg]; rfl
   have hx12 := hx10d.trans (h11.trans h12)
   simp -dsimp -implicitDefEqProofs only [e12,m6,sF6,ZA,↓reduceIte,ZB,ZC,ZJ,ZK,ZE,ZF,ZG,ZH,ZI,reduceCtorEq,ZD,mwV,↓mwD,mwU]
   refine (end1 hx12).use ?_
   rintro r w13 ⟨rfl, h13⟩
   simp -dsimp -implicitDefEqProofs only [m6,sF6,ZA,↓reduceIte,ZB,ZC,ZJ,ZK,ZE,ZF,ZG,ZH,ZI,reduceCtorEq,ZD,mwV,↓mwD,mwU]
   exact h13
 · simp -dsimp -implicitDefEqProofs only [k0,k1,k5,e9,hc,m6,sF6,ZA,↓reduceIte,ZB,ZC,ZJ,ZK,ZE,ZF,ZG,ZH,ZI,reduceCtorEq,ZD,mwV,↓mwD,mwU]
   refine (end1 hx9).use ?_
   rintro r w10 ⟨rfl, h10⟩
   simp -dsimp -implicitDefEqProofs only [m6,sF6,ZA,↓reduceIte,ZB,ZC,ZJ,ZK,ZE,ZF,ZG,ZH,ZI,reduceCtorEq,ZD,mwV,↓mwD,mwU]
   exact h10
end Go.Proofs.YthcdnjbhhaonhaaGreatDoor

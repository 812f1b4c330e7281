/- Layer 02: changes of a few blocks; the fields of two formats side by side. -/
import Derived.Test.YthcdnjbhhaonhaaGreatDoorQgFoSpecToFoA
import Derived.Test.YthcdnjbhhaonhaaGreatDoorQgMwAt

namespace Go.Proofs.YthcdnjbhhaonhaaGreatDoor
open Go.RowKit
open Nat renaming reduceEqDiff → ZA, reduceAdd → ZB, reduceMul → ZC, reduceSub → ZD
open Int renaming reduceToNat → ZE, reduceEq → ZF, reduceLT → ZG, reduceLE → ZH, reduceNeg → ZI
open Go.Value renaming oneCell' → ZK, cells → ZJ
open Go.Proofs.Tryz renaming prog → ZP
set_option linter.unusedSimpArgs false
structure ChP (G : Nat → Prop) (w w' : World) : Prop where
 os : w'.os = w.os
 tape : w'.tape = w.tape
 output : w'.output = w.output
 size : w.heap.size ≤ w'.heap.size
 block : ∀ k, k < w.heap.size → ¬ G k → w'.heap[k]? = w.heap[k]?
theorem ChP.refl (G : Nat → Prop) (w : World) : ChP G w w := ⟨rfl, rfl, rfl, Nat.le_refl _, fun _ _ _ => rfl⟩
theorem ChP.trans {G : Nat → Prop} {a b c : World} (h : ChP G a b) (k : ChP G b c) : ChP G a c :=
 ⟨k.os.trans h.os, k.tape.trans h.tape, k.output.trans h.output, Nat.le_trans h.size k.size, fun i hi hf => (k.block i (Nat.lt_of_lt_of_le hi h.size) hf).trans (h.block i hi hf)⟩
theorem ChP.mono {G H : Nat → Prop} {w w' : World} (h : ChP G w w') (hs : ∀ b, G b → H b) : ChP H w w' := ⟨h.os, h.tape, h.output, h.size, fun k hk hn => h.block k hk (fun hf => hn (hs k hf))⟩
theorem Ext.chp {G : Nat → Prop} {w w' : World} (h : Ext w w') : ChP G w w' := ⟨h.os, h.tape, h.output, h.size, fun k hk _ => h.block k hk⟩
theorem ChP.ext {G : Nat → Prop} {w0 w w' : World} (h : ChP G w w') (he : Ext w0 w) (hG : ∀ b, G b → w0.heap.size ≤ b) : Ext w0 w' :=
 Below.trans he ⟨h.os, h.tape, h.output, h.size, fun k hk => h.block k (Nat.lt_of_lt_of_le hk he.le) (fun hf => by have := hG k hf; omega)⟩
theorem ChP.bk {G : Nat → Prop} {w w' : World} {b : Nat} {cs : List Value} {t : TypeId} (h : ChP G w w') (hb : ¬ G b) (hk : Bk w b cs t) : Bk w' b cs t := by
 have hl := hk.lt
 unfold Bk at hk ⊢; rw [h.block b hl hb]; exact hk
theorem ChP.setCell {G : Nat → Prop} {w0 w : World} (h : ChP G w0 w) {b o : Nat} (hb : b < w0.heap.size → G b) (v : Value) : ChP G w0 (w.setCell ⟨b, o, none⟩ v) :=
 ⟨h.os, h.tape, h.output, by rw [show (w.setCell ⟨b, o, none⟩ v).heap.size = w.heap.size by simp [World.setCell]]; exact h.size, fun k hk hG => (Below.heap_setCell _ _ _ _ (fun e => hG (by subst e; exact hb hk))).trans (h.block k hk hG)⟩
theorem ChP.put {G : Nat → Prop} {w0 w : World} (h : ChP G w0 w) {b : Nat} (hb : b < w0.heap.size → G b) (o : Obj) : ChP G w0 (w.putObj b o) :=
 ⟨h.os, h.tape, h.output, by simpa using h.size, fun k hk hG => (World.putObj_heap_other (fun e => hG (by subst e; exact hb hk))).trans (h.block k hk hG)⟩
def hdP (A B : List Fl) : Option Fl := match A, B with
 | [], _ => none
 | x :: _, [] => some x
 | x :: _, y :: _ => if x.key ≤ y.key then some x else none
def tlP (A B : List Fl) : List Fl := if (hdP A B).isSome then A.tail else A
theorem hdP_le {x y : Fl} {A B : List Fl} (h : x.key ≤ y.key) : hdP (x :: A) (y :: B) = some x := if_pos h
theorem hdP_gt {x y : Fl} {A B : List Fl} (h : ¬ x.key ≤ y.key) : hdP (x :: A) (y :: B) = none := if_neg h
theorem tlP_some {x z : Fl} {A B : List Fl} (h : hdP (x :: A) B = some z) : tlP (x :: A) B = A := by unfold tlP; rw [h]; rfl
theorem tlP_none {A B : List Fl} (h : hdP A B = none) : tlP A B = A := by unfold tlP; rw [h]; rfl
theorem pairs_step {A B : List Fl} (h : A ≠ [] ∨ B ≠ []) : pairs A B = (hdP A B, hdP B A) :: pairs (tlP A B) (tlP B A) := by
 match A, B with
 | [], [] => simp at h
 | x :: A, [] => rw [pairs]; rfl
 | [], y :: B => rw [pairs]; rfl
 | x :: A, y :: B =>
  rw [pairs]
  split
  · rename_i he
    have h1 : hdP (x :: A) (y :: B) = some x := hdP_le (by omega)
    have h2 : hdP (y :: B) (x :: A) = some y := hdP_le (by omega)
    rw [tlP_some h1, tlP_some h2, h1, h2]
  · split
    · have h1 : hdP (x :: A) (y :: B) = some x := hdP_le (by omega)
      have h2 : hdP (y :: B) (x :: A) = none := hdP_gt (by omega)
      rw [tlP_some h1, tlP_none h2, h1, h2]
    · have h1 : hdP (x :: A) (y :: B) = none := hdP_gt (by omega)
      have h2 : hdP (y :: B) (x :: A) = some y := hdP_le (by omega)
      rw [tlP_none h1, tlP_some h2, h1, h2]
def PtF (w : World) (v : Value) : Option Fl → Prop
 | none => v = .pointer none
 | some f => ∃ b o, v = .pointer (some ⟨b, o, none⟩) ∧ FldAt w b o f
theorem PtF.ext {w w' : World} {v : Value} : ∀ {o : Option Fl}, PtF w v o → Ext w w' → PtF w' v o
 | none, h, _ => h
 | some _, ⟨b, o, h1, h2⟩, he => ⟨b, o, h1, h2.ext he⟩
def slen : Option Value → Nat
 | some (.slice _ n _) => n
 | _ => 0
def RoundB (J : List Fl → List Fl → World → Prop) (S : World → Prop) (T : List PanicEntry → World → Prop) (A B : List Fl) (ba bb : Nat) (w : World) (en : Ending) (w' : World) : Prop :=
 (en = .returned (.bool true) ∧ J (tlP A B) (tlP B A) w' ∧ w'.heap[ba]? = w.heap[ba]? ∧ w'.heap[bb]? = w.heap[bb]?) ∨ (en = .returned (.bool false) ∧ S w') ∨ ∃ ch, en = .panicked ch ∧ T ch w'
theorem both_c (va vb : Value) (w : World) : Rets ZP 71 #[va, vb] w fun r w' => r = .func (.func 103) #[] #[.pointer (some ⟨w.heap.size, 0, none⟩), .pointer (some ⟨w.heap.size + 1, 0, none⟩)] ∧ w' = (w.alloc (.cells va.cells 22)).alloc (.cells vb.cells 22) := by
 refine en71 ?_
 simp -dsimp -implicitDefEqProofs only [World.size_alloc,m71,ZA,↓reduceIte,ZB,ZC,ZJ,ZK,ZE,ZF,ZG,ZH,ZI,reduceCtorEq,ZD,mwV,↓mwD,mwU]
end Go.Proofs.YthcdnjbhhaonhaaGreatDoor
/- Layer 02: the fields of two formats, told one by one. -/
namespace Go.Proofs.YthcdnjbhhaonhaaGreatDoor
open Go.RowKit
open Nat renaming reduceEqDiff → ZA, reduceAdd → ZB, reduceMul → ZC, reduceSub → ZD
open Int renaming reduceToNat → ZE, reduceEq → ZF, reduceLT → ZG, reduceLE → ZH, reduceNeg → ZI
open Go.Value renaming oneCell' → ZK, cells → ZJ
open Go.Proofs.Tryz renaming prog → ZP
set_option linter.unusedSimpArgs false
set_option maxHeartbeats 1000000
theorem yield_mono {l : Nat} {args : Array Value} {W : World} {R R' : Ending → World → Prop} (h : YieldAt Fence.wide 1 ZP l args W R) (hq : ∀ e w, R e w → R' e w) : YieldAt Fence.wide 1 ZP l args W R' := by
 obtain ⟨fn, tmps, asg, body, hy, hR⟩ := h
 exact ⟨fn, tmps, asg, body, hy, RoundIn.mono hR hq⟩
theorem both1_c {l ba bb : Nat} {W0 W : World} {A B : List Fl} {va vb : Value} {J : List Fl → List Fl → World → Prop} {S : World → Prop} {T : List PanicEntry → World → Prop}
 (hne : ba ≠ bb) (nA : A.length ≤ 1000) (nB : B.length ≤ 1000) (ha : W0.heap.size ≤ ba) (hb : W0.heap.size ≤ bb) (hA : SlF W0 va A) (hB : SlF W0 vb B) (ka : Bk W ba [va] 22) (kb : Bk W bb [vb] 22)
 (hJx : ∀ A B w, J A B w → Ext W0 w) (hJs : ∀ A B w w', J A B w → ChP (fun k => k = ba ∨ k = bb) w w' → (∃ x, Bk w ba [x] 22) → (∃ x, Bk w bb [x] 22) → J A B w')
 (hY : ∀ A' B' px py w, J A' B' w → A' ≠ [] ∨ B' ≠ [] → PtF W0 px (hdP A' B') → PtF W0 py (hdP B' A') → (∃ x, Bk w ba [x] 22) → (∃ x, Bk w bb [x] 22) → YieldAt Fence.wide 1 ZP l #[px, py] w (RoundB J S T A' B' ba bb w))
 (h0 : J A B W) : Ends ZP 103 #[.func (.yield l) #[] #[], .pointer (some ⟨ba, 0, none⟩), .pointer (some ⟨bb, 0, none⟩)] W (fun _ w' => J [] [] w' ∨ S w') (fun ch w' => T ch w') := by
 refine ends_of_mwp follows_mo Tryz.func103 pl103 st103 ok103 (rs := []) (by kernel_rfl) ?_
 have hbn : bb ≠ ba := Ne.symm hne
 simp -dsimp -implicitDefEqProofs only [m103,sF103,ZA,↓reduceIte,ZB,ZC,ZJ,ZK,ZE,ZF,ZG,ZH,ZI,reduceCtorEq,ZD,mwV,↓mwD,mwU]
 refine mwpB_loop (fun e ds w => ∃ A' B' va' vb', SlF W0 va' A' ∧ SlF W0 vb' B' ∧ A'.length ≤ 1000 ∧ B'.length ≤ 1000 ∧ Bk w ba [va'] 22 ∧ Bk w bb [vb'] 22 ∧ J A' B' w ∧ e 0 = .func (.yield l) #[] #[] ∧ e 1 = .pointer (some ⟨ba, 0, none⟩) ∧ e 2 = .pointer (some ⟨bb, 0, none⟩) ∧ ds = [])
  (fun _ w => slen (w.cell? ⟨ba, 0, none⟩) + slen (w.cell? ⟨bb, 0, none⟩)) ?_ ?_
 · simp -dsimp -implicitDefEqProofs only [m103,sF103,ZA,↓reduceIte,ZB,ZC,ZJ,ZK,ZE,ZF,ZG,ZH,ZI,reduceCtorEq,ZD,mwV,↓mwD,mwU]
   exact ⟨A, B, va, vb, hA, hB, nA, nB, ka, kb, h0⟩
 · rintro e ds w ⟨A', B', va', vb', sA, sB, nA', nB', ka, kb, hj, k0, k1, k2, rfl⟩
   obtain ⟨pa, ca, rfl, lA1, lA2⟩ := sA.shape
   obtain ⟨pb, cb, rfl, lB1, lB2⟩ := sB.shape
   have a0 := ka.get (o := 0) rfl
   have b0 := kb.get (o := 0) rfl
   have hw : IntKind.i64.wrap ((A'.length : Int) + B'.length) = (A'.length : Int) + B'.length := w64 (by omega) (by omega)
   have hxw := hJx _ _ _ hj
   simp -dsimp -implicitDefEqProofs only [k0,k1,k2,a0,b0,hw,m103,sF103,ZA,↓reduceIte,ZB,ZC,ZJ,ZK,ZE,ZF,ZG,ZH,ZI,reduceCtorEq,ZD,mwV,↓mwD,mwU]
   refine iteW_dec (fun hlt => ?_) (fun hge => ?_)
   · match A', B' with
     | [], [] => simp at hlt
     | x :: A1, [] =>
      obtain ⟨bA, oA, rfl, fA⟩ := sA.at (by simp)
      obtain ⟨s, c0, _⟩ := (fA.ext hxw).get (k := 0) (by simp)
      simp only [Nat.mul_zero,Nat.add_zero,List.getElem_cons_zero] at c0
      have hd1 : hdP (x :: A1) ([]) = some x := rfl
      have hd2 : hdP ([]) (x :: A1) = none := rfl
      have hne' : (x :: A1 : List Fl) ≠ [] ∨ ([] : List Fl) ≠ [] := by simp
      generalize hnA : (x :: A1 : List Fl).length = la at *
      generalize hnB : ([] : List Fl).length = lb at *
      have p1 : (0 : Int) < (la : Int) := by simp at hnA; omega
      have p2 : (lb : Int) = 0 := by simp at hnB; omega
      have p3 : ¬ (0 : Int) < (lb : Int) := by simp at hnB; omega
      have p4 : ¬ (la : Int) = 0 := by simp at hnA; omega
      have hs : (0 : Int) ≤ 1 ∧ (1 : Int) ≤ (la : Int) ∧ (la : Int) ≤ (ca : Int) := by omega
      have ht1 : ((la : Int) - 1).toNat = la - 1 := by omega
      have ht2 : ((ca : Int) - 1).toNat = ca - 1 := by omega
      have kdA : Bk w.drew.drew ba _ _ := ka.ext ((Ext.drew w).trans (Ext.drew _))
      have kdB : Bk w.drew.drew bb _ _ := kb.ext ((Ext.drew w).trans (Ext.drew _))
      simp -dsimp -implicitDefEqProofs only [k0,k1,k2,a0,b0,p1,p2,p3,p4,hs,ht1,ht2,hne,hbn,kdA.frozen,kdB.frozen,m103,sF103,ZA,↓reduceIte,ZB,ZC,ZJ,ZK,ZE,ZF,ZG,ZH,ZI,reduceCtorEq,ZD,mwV,↓mwD,mwU]
      refine mwpB_drawE ?_
      simp -dsimp -implicitDefEqProofs only [k0,k1,k2,a0,b0,p1,p2,p3,p4,hs,ht1,ht2,hne,hbn,kdA.frozen,kdB.frozen,m103,sF103,ZA,↓reduceIte,ZB,ZC,ZJ,ZK,ZE,ZF,ZG,ZH,ZI,reduceCtorEq,ZD,mwV,↓mwD,mwU]
      refine mwpB_drawE ?_
      simp -dsimp -implicitDefEqProofs only [k0,k1,k2,a0,b0,p1,p2,p3,p4,hs,ht1,ht2,hne,hbn,kdA.frozen,kdB.frozen,m103,sF103,ZA,↓reduceIte,ZB,ZC,ZJ,ZK,ZE,ZF,ZG,ZH,ZI,reduceCtorEq,ZD,mwV,↓mwD,mwU]
      refine cvB_yield ?_
      have kA : Bk (w.drew.drew.setCell ⟨ba, 0, none⟩ (.slice (if (ca : Int) = 1 then some ⟨bA, oA, none⟩ else some ⟨bA, oA + 4, none⟩) (la - 1) (ca - 1))) ba [.slice (if (ca : Int) = 1 then some ⟨bA, oA, none⟩ else some ⟨bA, oA + 4, none⟩) (la - 1) (ca - 1)] 22 := kdA.set 0 (.slice (if (ca : Int) = 1 then some ⟨bA, oA, none⟩ else some ⟨bA, oA + 4, none⟩) (la - 1) (ca - 1))
      have kB : Bk (w.drew.drew.setCell ⟨ba, 0, none⟩ (.slice (if (ca : Int) = 1 then some ⟨bA, oA, none⟩ else some ⟨bA, oA + 4, none⟩) (la - 1) (ca - 1))) bb [.slice pb lb cb] 22 := kdB.ne hne 0 (.slice (if (ca : Int) = 1 then some ⟨bA, oA, none⟩ else some ⟨bA, oA + 4, none⟩) (la - 1) (ca - 1))
      have hc : ChP (fun k => k = ba ∨ k = bb) w (w.drew.drew.setCell ⟨ba, 0, none⟩ (.slice (if (ca : Int) = 1 then some ⟨bA, oA, none⟩ else some ⟨bA, oA + 4, none⟩) (la - 1) (ca - 1))) := (Ext.chp ((Ext.drew w).trans (Ext.drew _))).setCell (fun _ => .inl rfl) _
      generalize (w.drew.drew.setCell ⟨ba, 0, none⟩ (.slice (if (ca : Int) = 1 then some ⟨bA, oA, none⟩ else some ⟨bA, oA + 4, none⟩) (la - 1) (ca - 1))) = WN at *
      have hj2 := hJs _ _ _ _ hj hc ⟨_, ka⟩ ⟨_, kb⟩
      refine yield_mono (hY _ _ _ _ WN hj2 hne' (by rw [hd1]; exact ⟨bA, oA, rfl, fA 0 x rfl⟩) (by rw [hd2]; rfl) ⟨_, kA⟩ ⟨_, kB⟩) ?_
      rintro en w' (⟨rfl, hj', e1, e2⟩ | ⟨rfl, hs'⟩ | ⟨ch, rfl, ht⟩)
      · simp only [yR]
        have kA' : Bk w' ba _ _ := show _ = _ from e1.trans kA
        have kB' : Bk w' bb _ _ := show _ = _ from e2.trans kB
        simp -dsimp -implicitDefEqProofs only [k0,k1,k2,m103,sF103,ZA,↓reduceIte,ZB,ZC,ZJ,ZK,ZE,ZF,ZG,ZH,ZI,reduceCtorEq,ZD,mwV,↓mwD,mwU]
        refine ⟨⟨_, _, _, _, (by rw [tlP_some hd1]; exact sA.tail _ (fun hn => by rw [if_neg]; have := List.length_pos_iff.2 hn; simp at hnA; omega)), (by rw [tlP_none hd2]; exact sB), (by rw [tlP_some hd1]; simp at hnA; omega), (by rw [tlP_none hd2]; omega), kA', kB', hj'⟩, ?_⟩
        rw [kA'.get (o := 0) rfl, kB'.get (o := 0) rfl, a0, b0]
        simp only [slen]; omega
      · simp only [yR]
        simp -dsimp -implicitDefEqProofs only [k0,k1,k2,m103,sF103,ZA,↓reduceIte,ZB,ZC,ZJ,ZK,ZE,ZF,ZG,ZH,ZI,reduceCtorEq,ZD,mwV,↓mwD,mwU]
        exact .inr hs'
      · simp only [yR]
        simp -dsimp -implicitDefEqProofs only [k0,k1,k2,m103,sF103,ZA,↓reduceIte,ZB,ZC,ZJ,ZK,ZE,ZF,ZG,ZH,ZI,reduceCtorEq,ZD,mwV,↓mwD,mwU]
        exact ht
     | [], y :: B1 =>
      obtain ⟨bB, oB, rfl, fB⟩ := sB.at (by simp)
      obtain ⟨s2, d0, _⟩ := (fB.ext hxw).get (k := 0) (by simp)
      simp only [Nat.mul_zero,Nat.add_zero,List.getElem_cons_zero] at d0
      have hd1 : hdP ([]) (y :: B1) = none := rfl
      have hd2 : hdP (y :: B1) ([]) = some y := rfl
      have hne' : ([] : List Fl) ≠ [] ∨ (y :: B1 : List Fl) ≠ [] := by simp
      generalize hnA : ([] : List Fl).length = la at *
      generalize hnB : (y :: B1 : List Fl).length = lb at *
      have p1 : ¬ (0 : Int) < (la : Int) := by simp at hnA; omega
      have p2 : ¬ (lb : Int) = 0 := by simp at hnB; omega
      have p3 : (0 : Int) < (lb : Int) := by simp at hnB; omega
      have p4 : (la : Int) = 0 := by simp at hnA; omega
      have hs2 : (0 : Int) ≤ 1 ∧ (1 : Int) ≤ (lb : Int) ∧ (lb : Int) ≤ (cb : Int) := by omega
      have ht3 : ((lb : Int) - 1).toNat = lb - 1 := by omega
      have ht4 : ((cb : Int) - 1).toNat = cb - 1 := by omega
      have kdA : Bk w.drew.drew ba _ _ := ka.ext ((Ext.drew w).trans (Ext.drew _))
      have kdB : Bk w.drew.drew bb _ _ := kb.ext ((Ext.drew w).trans (Ext.drew _))
      simp -dsimp -implicitDefEqProofs only [k0,k1,k2,a0,b0,p1,p2,p3,p4,hs2,ht3,ht4,hne,hbn,kdA.frozen,kdB.frozen,m103,sF103,ZA,↓reduceIte,ZB,ZC,ZJ,ZK,ZE,ZF,ZG,ZH,ZI,reduceCtorEq,ZD,mwV,↓mwD,mwU]
      refine mwpB_drawE ?_
      simp -dsimp -implicitDefEqProofs only [k0,k1,k2,a0,b0,p1,p2,p3,p4,hs2,ht3,ht4,hne,hbn,kdA.frozen,kdB.frozen,m103,sF103,ZA,↓reduceIte,ZB,ZC,ZJ,ZK,ZE,ZF,ZG,ZH,ZI,reduceCtorEq,ZD,mwV,↓mwD,mwU]
      refine mwpB_drawE ?_
      simp -dsimp -implicitDefEqProofs only [k0,k1,k2,a0,b0,p1,p2,p3,p4,hs2,ht3,ht4,hne,hbn,kdA.frozen,kdB.frozen,m103,sF103,ZA,↓reduceIte,ZB,ZC,ZJ,ZK,ZE,ZF,ZG,ZH,ZI,reduceCtorEq,ZD,mwV,↓mwD,mwU]
      refine cvB_yield ?_
      have kA : Bk (w.drew.drew.setCell ⟨bb, 0, none⟩ (.slice (if (cb : Int) = 1 then some ⟨bB, oB, none⟩ else some ⟨bB, oB + 4, none⟩) (lb - 1) (cb - 1))) ba [.slice pa la ca] 22 := (kdA).ne hbn 0 (.slice (if (cb : Int) = 1 then some ⟨bB, oB, none⟩ else some ⟨bB, oB + 4, none⟩) (lb - 1) (cb - 1))
      have kB : Bk (w.drew.drew.setCell ⟨bb, 0, none⟩ (.slice (if (cb : Int) = 1 then some ⟨bB, oB, none⟩ else some ⟨bB, oB + 4, none⟩) (lb - 1) (cb - 1))) bb [.slice (if (cb : Int) = 1 then some ⟨bB, oB, none⟩ else some ⟨bB, oB + 4, none⟩) (lb - 1) (cb - 1)] 22 := (kdB).set 0 (.slice (if (cb : Int) = 1 then some ⟨bB, oB, none⟩ else some ⟨bB, oB + 4, none⟩) (lb - 1) (cb - 1))
      have hc : ChP (fun k => k = ba ∨ k = bb) w (w.drew.drew.setCell ⟨bb, 0, none⟩ (.slice (if (cb : Int) = 1 then some ⟨bB, oB, none⟩ else some ⟨bB, oB + 4, none⟩) (lb - 1) (cb - 1))) := (Ext.chp ((Ext.drew w).trans (Ext.drew _))).setCell (fun _ => .inr rfl) _
      generalize (w.drew.drew.setCell ⟨bb, 0, none⟩ (.slice (if (cb : Int) = 1 then some ⟨bB, oB, none⟩ else some ⟨bB, oB + 4, none⟩) (lb - 1) (cb - 1))) = WN at *
      have hj2 := hJs _ _ _ _ hj hc ⟨_, ka⟩ ⟨_, kb⟩
      refine yield_mono (hY _ _ _ _ WN hj2 hne' (by rw [hd1]; rfl) (by rw [hd2]; exact ⟨bB, oB, rfl, fB 0 y rfl⟩) ⟨_, kA⟩ ⟨_, kB⟩) ?_
      rintro en w' (⟨rfl, hj', e1, e2⟩ | ⟨rfl, hs'⟩ | ⟨ch, rfl, ht⟩)
      · simp only [yR]
        have kA' : Bk w' ba _ _ := show _ = _ from e1.trans kA
        have kB' : Bk w' bb _ _ := show _ = _ from e2.trans kB
        simp -dsimp -implicitDefEqProofs only [k0,k1,k2,m103,sF103,ZA,↓reduceIte,ZB,ZC,ZJ,ZK,ZE,ZF,ZG,ZH,ZI,reduceCtorEq,ZD,mwV,↓mwD,mwU]
        refine ⟨⟨_, _, _, _, (by rw [tlP_none hd1]; exact sA), (by rw [tlP_some hd2]; exact sB.tail _ (fun hn => by rw [if_neg]; have := List.length_pos_iff.2 hn; simp at hnB; omega)), (by rw [tlP_none hd1]; omega), (by rw [tlP_some hd2]; simp at hnB; omega), kA', kB', hj'⟩, ?_⟩
        rw [kA'.get (o := 0) rfl, kB'.get (o := 0) rfl, a0, b0]
        simp only [slen]; omega
      · simp only [yR]
        simp -dsimp -implicitDefEqProofs only [k0,k1,k2,m103,sF103,ZA,↓reduceIte,ZB,ZC,ZJ,ZK,ZE,ZF,ZG,ZH,ZI,reduceCtorEq,ZD,mwV,↓mwD,mwU]
        exact .inr hs'
      · simp only [yR]
        simp -dsimp -implicitDefEqProofs only [k0,k1,k2,m103,sF103,ZA,↓reduceIte,ZB,ZC,ZJ,ZK,ZE,ZF,ZG,ZH,ZI,reduceCtorEq,ZD,mwV,↓mwD,mwU]
        exact ht
     | x :: A1, y :: B1 =>
      by_cases hk1 : x.key ≤ y.key
      · by_cases hk2 : y.key ≤ x.key
        · obtain ⟨bA, oA, rfl, fA⟩ := sA.at (by simp)
          obtain ⟨s, c0, _⟩ := (fA.ext hxw).get (k := 0) (by simp)
          simp only [Nat.mul_zero,Nat.add_zero,List.getElem_cons_zero] at c0
          obtain ⟨bB, oB, rfl, fB⟩ := sB.at (by simp)
          obtain ⟨s2, d0, _⟩ := (fB.ext hxw).get (k := 0) (by simp)
          simp only [Nat.mul_zero,Nat.add_zero,List.getElem_cons_zero] at d0
          have hd1 : hdP (x :: A1) (y :: B1) = some x := hdP_le hk1
          have hd2 : hdP (y :: B1) (x :: A1) = some y := hdP_le hk2
          have hne' : (x :: A1 : List Fl) ≠ [] ∨ (y :: B1 : List Fl) ≠ [] := by simp
          generalize hnA : (x :: A1 : List Fl).length = la at *
          generalize hnB : (y :: B1 : List Fl).length = lb at *
          have p1 : (0 : Int) < (la : Int) := by simp at hnA; omega
          have p2 : ¬ (lb : Int) = 0 := by simp at hnB; omega
          have p3 : (0 : Int) < (lb : Int) := by simp at hnB; omega
          have p4 : ¬ (la : Int) = 0 := by simp at hnA; omega
          have hs : (0 : Int) ≤ 1 ∧ (1 : Int) ≤ (la : Int) ∧ (la : Int) ≤ (ca : Int) := by omega
          have ht1 : ((la : Int) - 1).toNat = la - 1 := by omega
          have ht2 : ((ca : Int) - 1).toNat = ca - 1 := by omega
          have hs2 : (0 : Int) ≤ 1 ∧ (1 : Int) ≤ (lb : Int) ∧ (lb : Int) ≤ (cb : Int) := by omega
          have ht3 : ((lb : Int) - 1).toNat = lb - 1 := by omega
          have ht4 : ((cb : Int) - 1).toNat = cb - 1 := by omega
          have kdA : Bk w.drew.drew ba _ _ := ka.ext ((Ext.drew w).trans (Ext.drew _))
          have kdB : Bk w.drew.drew bb _ _ := kb.ext ((Ext.drew w).trans (Ext.drew _))
          have hcb : ∀ v, (w.drew.drew.setCell ⟨ba, 0, none⟩ v).cell? ⟨bb, 0, none⟩ = some (.slice (some ⟨bB, oB, none⟩) lb cb) := fun v => (kdB.ne hne 0 v).get rfl
          have hfz : ∀ v, (w.drew.drew.setCell ⟨ba, 0, none⟩ v).frozen? ⟨bb, 0, none⟩ = false := fun v => (kdB.ne hne 0 v).frozen 0
          simp -dsimp -implicitDefEqProofs only [k0,k1,k2,a0,b0,p1,p2,p3,p4,hs,ht1,ht2,hs2,ht3,ht4,c0,d0,hk1,hk2,hcb,hfz,hne,hbn,kdA.frozen,kdB.frozen,m103,sF103,ZA,↓reduceIte,ZB,ZC,ZJ,ZK,ZE,ZF,ZG,ZH,ZI,reduceCtorEq,ZD,mwV,↓mwD,mwU]
          refine mwpB_drawE ?_
          simp -dsimp -implicitDefEqProofs only [k0,k1,k2,a0,b0,p1,p2,p3,p4,hs,ht1,ht2,hs2,ht3,ht4,c0,d0,hk1,hk2,hcb,hfz,hne,hbn,kdA.frozen,kdB.frozen,m103,sF103,ZA,↓reduceIte,ZB,ZC,ZJ,ZK,ZE,ZF,ZG,ZH,ZI,reduceCtorEq,ZD,mwV,↓mwD,mwU]
          refine mwpB_drawE ?_
          simp -dsimp -implicitDefEqProofs only [k0,k1,k2,a0,b0,p1,p2,p3,p4,hs,ht1,ht2,hs2,ht3,ht4,c0,d0,hk1,hk2,hcb,hfz,hne,hbn,kdA.frozen,kdB.frozen,m103,sF103,ZA,↓reduceIte,ZB,ZC,ZJ,ZK,ZE,ZF,ZG,ZH,ZI,reduceCtorEq,ZD,mwV,↓mwD,mwU]
          refine cvB_yield ?_
          have kA : Bk ((w.drew.drew.setCell ⟨ba, 0, none⟩ (.slice (if (ca : Int) = 1 then some ⟨bA, oA, none⟩ else some ⟨bA, oA + 4, none⟩) (la - 1) (ca - 1))).setCell ⟨bb, 0, none⟩ (.slice (if (cb : Int) = 1 then some ⟨bB, oB, none⟩ else some ⟨bB, oB + 4, none⟩) (lb - 1) (cb - 1))) ba [.slice (if (ca : Int) = 1 then some ⟨bA, oA, none⟩ else some ⟨bA, oA + 4, none⟩) (la - 1) (ca - 1)] 22 := (kdA.set 0 (.slice (if (ca : Int) = 1 then some ⟨bA, oA, none⟩ else some ⟨bA, oA + 4, none⟩) (la - 1) (ca - 1))).ne hbn 0 (.slice (if (cb : Int) = 1 then some ⟨bB, oB, none⟩ else some ⟨bB, oB + 4, none⟩) (lb - 1) (cb - 1))
          have kB : Bk ((w.drew.drew.setCell ⟨ba, 0, none⟩ (.slice (if (ca : Int) = 1 then some ⟨bA, oA, none⟩ else some ⟨bA, oA + 4, none⟩) (la - 1) (ca - 1))).setCell ⟨bb, 0, none⟩ (.slice (if (cb : Int) = 1 then some ⟨bB, oB, none⟩ else some ⟨bB, oB + 4, none⟩) (lb - 1) (cb - 1))) bb [.slice (if (cb : Int) = 1 then some ⟨bB, oB, none⟩ else some ⟨bB, oB + 4, none⟩) (lb - 1) (cb - 1)] 22 := (kdB.ne hne 0 (.slice (if (ca : Int) = 1 then some ⟨bA, oA, none⟩ else some ⟨bA, oA + 4, none⟩) (la - 1) (ca - 1))).set 0 (.slice (if (cb : Int) = 1 then some ⟨bB, oB, none⟩ else some ⟨bB, oB + 4, none⟩) (lb - 1) (cb - 1))
          have hc : ChP (fun k => k = ba ∨ k = bb) w ((w.drew.drew.setCell ⟨ba, 0, none⟩ (.slice (if (ca : Int) = 1 then some ⟨bA, oA, none⟩ else some ⟨bA, oA + 4, none⟩) (la - 1) (ca - 1))).setCell ⟨bb, 0, none⟩ (.slice (if (cb : Int) = 1 then some ⟨bB, oB, none⟩ else some ⟨bB, oB + 4, none⟩) (lb - 1) (cb - 1))) := ((Ext.chp ((Ext.drew w).trans (Ext.drew _))).setCell (fun _ => .inl rfl) _).setCell (fun _ => .inr rfl) _
          generalize ((w.drew.drew.setCell ⟨ba, 0, none⟩ (.slice (if (ca : Int) = 1 then some ⟨bA, oA, none⟩ else some ⟨bA, oA + 4, none⟩) (la - 1) (ca - 1))).setCell ⟨bb, 0, none⟩ (.slice (if (cb : Int) = 1 then some ⟨bB, oB, none⟩ else some ⟨bB, oB + 4, none⟩) (lb - 1) (cb - 1))) = WN at *
          have hj2 := hJs _ _ _ _ hj hc ⟨_, ka⟩ ⟨_, kb⟩
          refine yield_mono (hY _ _ _ _ WN hj2 hne' (by rw [hd1]; exact ⟨bA, oA, rfl, fA 0 x rfl⟩) (by rw [hd2]; exact ⟨bB, oB, rfl, fB 0 y rfl⟩) ⟨_, kA⟩ ⟨_, kB⟩) ?_
          rintro en w' (⟨rfl, hj', e1, e2⟩ | ⟨rfl, hs'⟩ | ⟨ch, rfl, ht⟩)
          · simp only [yR]
            have kA' : Bk w' ba _ _ := show _ = _ from e1.trans kA
            have kB' : Bk w' bb _ _ := show _ = _ from e2.trans kB
            simp -dsimp -implicitDefEqProofs only [k0,k1,k2,m103,sF103,ZA,↓reduceIte,ZB,ZC,ZJ,ZK,ZE,ZF,ZG,ZH,ZI,reduceCtorEq,ZD,mwV,↓mwD,mwU]
            refine ⟨⟨_, _, _, _, (by rw [tlP_some hd1]; exact sA.tail _ (fun hn => by rw [if_neg]; have := List.length_pos_iff.2 hn; simp at hnA; omega)), (by rw [tlP_some hd2]; exact sB.tail _ (fun hn => by rw [if_neg]; have := List.length_pos_iff.2 hn; simp at hnB; omega)), (by rw [tlP_some hd1]; simp at hnA; omega), (by rw [tlP_some hd2]; simp at hnB; omega), kA', kB', hj'⟩, ?_⟩
            rw [kA'.get (o := 0) rfl, kB'.get (o := 0) rfl, a0, b0]
            simp only [slen]; omega
          · simp only [yR]
            simp -dsimp -implicitDefEqProofs only [k0,k1,k2,m103,sF103,ZA,↓reduceIte,ZB,ZC,ZJ,ZK,ZE,ZF,ZG,ZH,ZI,reduceCtorEq,ZD,mwV,↓mwD,mwU]
            exact .inr hs'
          · simp only [yR]
            simp -dsimp -implicitDefEqProofs only [k0,k1,k2,m103,sF103,ZA,↓reduceIte,ZB,ZC,ZJ,ZK,ZE,ZF,ZG,ZH,ZI,reduceCtorEq,ZD,mwV,↓mwD,mwU]
            exact ht
        · obtain ⟨bA, oA, rfl, fA⟩ := sA.at (by simp)
          obtain ⟨s, c0, _⟩ := (fA.ext hxw).get (k := 0) (by simp)
          simp only [Nat.mul_zero,Nat.add_zero,List.getElem_cons_zero] at c0
          obtain ⟨bB, oB, rfl, fB⟩ := sB.at (by simp)
          obtain ⟨s2, d0, _⟩ := (fB.ext hxw).get (k := 0) (by simp)
          simp only [Nat.mul_zero,Nat.add_zero,List.getElem_cons_zero] at d0
          have hd1 : hdP (x :: A1) (y :: B1) = some x := hdP_le hk1
          have hd2 : hdP (y :: B1) (x :: A1) = none := hdP_gt hk2
          have hne' : (x :: A1 : List Fl) ≠ [] ∨ (y :: B1 : List Fl) ≠ [] := by simp
          generalize hnA : (x :: A1 : List Fl).length = la at *
          generalize hnB : (y :: B1 : List Fl).length = lb at *
          have p1 : (0 : Int) < (la : Int) := by simp at hnA; omega
          have p2 : ¬ (lb : Int) = 0 := by simp at hnB; omega
          have p3 : (0 : Int) < (lb : Int) := by simp at hnB; omega
          have p4 : ¬ (la : Int) = 0 := by simp at hnA; omega
          have hs : (0 : Int) ≤ 1 ∧ (1 : Int) ≤ (la : Int) ∧ (la : Int) ≤ (ca : Int) := by omega
          have ht1 : ((la : Int) - 1).toNat = la - 1 := by omega
          have ht2 : ((ca : Int) - 1).toNat = ca - 1 := by omega
          have kdA : Bk w.drew.drew ba _ _ := ka.ext ((Ext.drew w).trans (Ext.drew _))
          have kdB : Bk w.drew.drew bb _ _ := kb.ext ((Ext.drew w).trans (Ext.drew _))
          simp -dsimp -implicitDefEqProofs only [k0,k1,k2,a0,b0,p1,p2,p3,p4,hs,ht1,ht2,c0,d0,hk1,hk2,hne,hbn,kdA.frozen,kdB.frozen,m103,sF103,ZA,↓reduceIte,ZB,ZC,ZJ,ZK,ZE,ZF,ZG,ZH,ZI,reduceCtorEq,ZD,mwV,↓mwD,mwU]
          refine mwpB_drawE ?_
          simp -dsimp -implicitDefEqProofs only [k0,k1,k2,a0,b0,p1,p2,p3,p4,hs,ht1,ht2,c0,d0,hk1,hk2,hne,hbn,kdA.frozen,kdB.frozen,m103,sF103,ZA,↓reduceIte,ZB,ZC,ZJ,ZK,ZE,ZF,ZG,ZH,ZI,reduceCtorEq,ZD,mwV,↓mwD,mwU]
          refine mwpB_drawE ?_
          simp -dsimp -implicitDefEqProofs only [k0,k1,k2,a0,b0,p1,p2,p3,p4,hs,ht1,ht2,c0,d0,hk1,hk2,hne,hbn,kdA.frozen,kdB.frozen,m103,sF103,ZA,↓reduceIte,ZB,ZC,ZJ,ZK,ZE,ZF,ZG,ZH,ZI,reduceCtorEq,ZD,mwV,↓mwD,mwU]
          refine cvB_yield ?_
          have kA : Bk (w.drew.drew.setCell ⟨ba, 0, none⟩ (.slice (if (ca : Int) = 1 then some ⟨bA, oA, none⟩ else some ⟨bA, oA + 4, none⟩) (la - 1) (ca - 1))) ba [.slice (if (ca : Int) = 1 then some ⟨bA, oA, none⟩ else some ⟨bA, oA + 4, none⟩) (la - 1) (ca - 1)] 22 := kdA.set 0 (.slice (if (ca : Int) = 1 then some ⟨bA, oA, none⟩ else some ⟨bA, oA + 4, none⟩) (la - 1) (ca - 1))
          have kB : Bk (w.drew.drew.setCell ⟨ba, 0, none⟩ (.slice (if (ca : Int) = 1 then some ⟨bA, oA, none⟩ else some ⟨bA, oA + 4, none⟩) (la - 1) (ca - 1))) bb [.slice (some ⟨bB, oB, none⟩) lb cb] 22 := kdB.ne hne 0 (.slice (if (ca : Int) = 1 then some ⟨bA, oA, none⟩ else some ⟨bA, oA + 4, none⟩) (la - 1) (ca - 1))
          have hc : ChP (fun k => k = ba ∨ k = bb) w (w.drew.drew.setCell ⟨ba, 0, none⟩ (.slice (if (ca : Int) = 1 then some ⟨bA, oA, none⟩ else some ⟨bA, oA + 4, none⟩) (la - 1) (ca - 1))) := (Ext.chp ((Ext.drew w).trans (Ext.drew _))).setCell (fun _ => .inl rfl) _
          generalize (w.drew.drew.setCell ⟨ba, 0, none⟩ (.slice (if (ca : Int) = 1 then some ⟨bA, oA, none⟩ else some ⟨bA, oA + 4, none⟩) (la - 1) (ca - 1))) = WN at *
          have hj2 := hJs _ _ _ _ hj hc ⟨_, ka⟩ ⟨_, kb⟩
          refine yield_mono (hY _ _ _ _ WN hj2 hne' (by rw [hd1]; exact ⟨bA, oA, rfl, fA 0 x rfl⟩) (by rw [hd2]; rfl) ⟨_, kA⟩ ⟨_, kB⟩) ?_
          rintro en w' (⟨rfl, hj', e1, e2⟩ | ⟨rfl, hs'⟩ | ⟨ch, rfl, ht⟩)
          · simp only [yR]
            have kA' : Bk w' ba _ _ := show _ = _ from e1.trans kA
            have kB' : Bk w' bb _ _ := show _ = _ from e2.trans kB
            simp -dsimp -implicitDefEqProofs only [k0,k1,k2,m103,sF103,ZA,↓reduceIte,ZB,ZC,ZJ,ZK,ZE,ZF,ZG,ZH,ZI,reduceCtorEq,ZD,mwV,↓mwD,mwU]
            refine ⟨⟨_, _, _, _, (by rw [tlP_some hd1]; exact sA.tail _ (fun hn => by rw [if_neg]; have := List.length_pos_iff.2 hn; simp at hnA; omega)), (by rw [tlP_none hd2]; exact sB), (by rw [tlP_some hd1]; simp at hnA; omega), (by rw [tlP_none hd2]; omega), kA', kB', hj'⟩, ?_⟩
            rw [kA'.get (o := 0) rfl, kB'.get (o := 0) rfl, a0, b0]
            simp only [slen]; omega
          · simp only [yR]
            simp -dsimp -implicitDefEqProofs only [k0,k1,k2,m103,sF103,ZA,↓reduceIte,ZB,ZC,ZJ,ZK,ZE,ZF,ZG,ZH,ZI,reduceCtorEq,ZD,mwV,↓mwD,mwU]
            exact .inr hs'
          · simp only [yR]
            simp -dsimp -implicitDefEqProofs only [k0,k1,k2,m103,sF103,ZA,↓reduceIte,ZB,ZC,ZJ,ZK,ZE,ZF,ZG,ZH,ZI,reduceCtorEq,ZD,mwV,↓mwD,mwU]
            exact ht
      · have hk2 : y.key ≤ x.key := by omega
        obtain ⟨bA, oA, rfl, fA⟩ := sA.at (by simp)
        obtain ⟨s, c0, _⟩ := (fA.ext hxw).get (k := 0) (by simp)
        simp only [Nat.mul_zero,Nat.add_zero,List.getElem_cons_zero] at c0
        obtain ⟨bB, oB, rfl, fB⟩ := sB.at (by simp)
        obtain ⟨s2, d0, _⟩ := (fB.ext hxw).get (k := 0) (by simp)
        simp only [Nat.mul_zero,Nat.add_zero,List.getElem_cons_zero] at d0
        have hd1 : hdP (x :: A1) (y :: B1) = none := hdP_gt hk1
        have hd2 : hdP (y :: B1) (x :: A1) = some y := hdP_le hk2
        have hne' : (x :: A1 : List Fl) ≠ [] ∨ (y :: B1 : List Fl) ≠ [] := by simp
        generalize hnA : (x :: A1 : List Fl).length = la at *
        generalize hnB : (y :: B1 : List Fl).length = lb at *
        have p1 : (0 : Int) < (la : Int) := by simp at hnA; omega
        have p2 : ¬ (lb : Int) = 0 := by simp at hnB; omega
        have p3 : (0 : Int) < (lb : Int) := by simp at hnB; omega
        have p4 : ¬ (la : Int) = 0 := by simp at hnA; omega
        have hs2 : (0 : Int) ≤ 1 ∧ (1 : Int) ≤ (lb : Int) ∧ (lb : Int) ≤ (cb : Int) := by omega
        have ht3 : ((lb : Int) - 1).toNat = lb - 1 := by omega
        have ht4 : ((cb : Int) - 1).toNat = cb - 1 := by omega
        have kdA : Bk w.drew.drew ba _ _ := ka.ext ((Ext.drew w).trans (Ext.drew _))
        have kdB : Bk w.drew.drew bb _ _ := kb.ext ((Ext.drew w).trans (Ext.drew _))
        simp -dsimp -implicitDefEqProofs only [k0,k1,k2,a0,b0,p1,p2,p3,p4,hs2,ht3,ht4,c0,d0,hk1,hk2,hne,hbn,kdA.frozen,kdB.frozen,m103,sF103,ZA,↓reduceIte,ZB,ZC,ZJ,ZK,ZE,ZF,ZG,ZH,ZI,reduceCtorEq,ZD,mwV,↓mwD,mwU]
        refine mwpB_drawE ?_
        simp -dsimp -implicitDefEqProofs only [k0,k1,k2,a0,b0,p1,p2,p3,p4,hs2,ht3,ht4,c0,d0,hk1,hk2,hne,hbn,kdA.frozen,kdB.frozen,m103,sF103,ZA,↓reduceIte,ZB,ZC,ZJ,ZK,ZE,ZF,ZG,ZH,ZI,reduceCtorEq,ZD,mwV,↓mwD,mwU]
        refine mwpB_drawE ?_
        simp -dsimp -implicitDefEqProofs only [k0,k1,k2,a0,b0,p1,p2,p3,p4,hs2,ht3,ht4,c0,d0,hk1,hk2,hne,hbn,kdA.frozen,kdB.frozen,m103,sF103,ZA,↓reduceIte,ZB,ZC,ZJ,ZK,ZE,ZF,ZG,ZH,ZI,reduceCtorEq,ZD,mwV,↓mwD,mwU]
        refine cvB_yield ?_
        have kA : Bk (w.drew.drew.setCell ⟨bb, 0, none⟩ (.slice (if (cb : Int) = 1 then some ⟨bB, oB, none⟩ else some ⟨bB, oB + 4, none⟩) (lb - 1) (cb - 1))) ba [.slice (some ⟨bA, oA, none⟩) la ca] 22 := (kdA).ne hbn 0 (.slice (if (cb : Int) = 1 then some ⟨bB, oB, none⟩ else some ⟨bB, oB + 4, none⟩) (lb - 1) (cb - 1))
        have kB : Bk (w.drew.drew.setCell ⟨bb, 0, none⟩ (.slice (if (cb : Int) = 1 then some ⟨bB, oB, none⟩ else some ⟨bB, oB + 4, none⟩) (lb - 1) (cb - 1))) bb [.slice (if (cb : Int) = 1 then some ⟨bB, oB, none⟩ else some ⟨bB, oB + 4, none⟩) (lb - 1) (cb - 1)] 22 := (kdB).set 0 (.slice (if (cb : Int) = 1 then some ⟨bB, oB, none⟩ else some ⟨bB, oB + 4, none⟩) (lb - 1) (cb - 1))
        have hc : ChP (fun k => k = ba ∨ k = bb) w (w.drew.drew.setCell ⟨bb, 0, none⟩ (.slice (if (cb : Int) = 1 then some ⟨bB, oB, none⟩ else some ⟨bB, oB + 4, none⟩) (lb - 1) (cb - 1))) := (Ext.chp ((Ext.drew w).trans (Ext.drew _))).setCell (fun _ => .inr rfl) _
        generalize (w.drew.drew.setCell ⟨bb, 0, none⟩ (.slice (if (cb : Int) = 1 then some ⟨bB, oB, none⟩ else some ⟨bB, oB + 4, none⟩) (lb - 1) (cb - 1))) = WN at *
        have hj2 := hJs _ _ _ _ hj hc ⟨_, ka⟩ ⟨_, kb⟩
        refine yield_mono (hY _ _ _ _ WN hj2 hne' (by rw [hd1]; rfl) (by rw [hd2]; exact ⟨bB, oB, rfl, fB 0 y rfl⟩) ⟨_, kA⟩ ⟨_, kB⟩) ?_
        rintro en w' (⟨rfl, hj', e1, e2⟩ | ⟨rfl, hs'⟩ | ⟨ch, rfl, ht⟩)
        · simp only [yR]
          have kA' : Bk w' ba _ _ := show _ = _ from e1.trans kA
          have kB' : Bk w' bb _ _ := show _ = _ from e2.trans kB
          simp -dsimp -implicitDefEqProofs only [k0,k1,k2,m103,sF103,ZA,↓reduceIte,ZB,ZC,ZJ,ZK,ZE,ZF,ZG,ZH,ZI,reduceCtorEq,ZD,mwV,↓mwD,mwU]
          refine ⟨⟨_, _, _, _, (by rw [tlP_none hd1]; exact sA), (by rw [tlP_some hd2]; exact sB.tail _ (fun hn => by rw [if_neg]; have := List.length_pos_iff.2 hn; simp at hnB; omega)), (by rw [tlP_none hd1]; omega), (by rw [tlP_some hd2]; simp at hnB; omega), kA', kB', hj'⟩, ?_⟩
          rw [kA'.get (o := 0) rfl, kB'.get (o := 0) rfl, a0, b0]
          simp only [slen]; omega
        · simp only [yR]
          simp -dsimp -implicitDefEqProofs only [k0,k1,k2,m103,sF103,ZA,↓reduceIte,ZB,ZC,ZJ,ZK,ZE,ZF,ZG,ZH,ZI,reduceCtorEq,ZD,mwV,↓mwD,mwU]
          exact .inr hs'
        · simp only [yR]
          simp -dsimp -implicitDefEqProofs only [k0,k1,k2,m103,sF103,ZA,↓reduceIte,ZB,ZC,ZJ,ZK,ZE,ZF,ZG,ZH,ZI,reduceCtorEq,ZD,mwV,↓mwD,mwU]
          exact ht
   · obtain rfl : A' = [] := List.eq_nil_of_length_eq_zero (by omega)
     obtain rfl : B' = [] := List.eq_nil_of_length_eq_zero (by omega)
     simp -dsimp -implicitDefEqProofs only [m103,sF103,ZA,↓reduceIte,ZB,ZC,ZJ,ZK,ZE,ZF,ZG,ZH,ZI,reduceCtorEq,ZD,mwV,↓mwD,mwU]
     exact .inl hj
end Go.Proofs.YthcdnjbhhaonhaaGreatDoor
/- Layer 02: package format's within. -/
namespace Go.Proofs.YthcdnjbhhaonhaaGreatDoor
open Go.RowKit
open Nat renaming reduceEqDiff → ZA, reduceAdd → ZB, reduceMul → ZC, reduceSub → ZD
open Int renaming reduceToNat → ZE, reduceEq → ZF, reduceLT → ZG, reduceLE → ZH, reduceNeg → ZI
open Go.Value renaming oneCell' → ZK, cells → ZJ
open Go.Proofs.Tryz renaming prog → ZP
set_option linter.unusedSimpArgs false
theorem IndexFI_c (v : Value) (xs : List Int) (g : FuncId) (cp : Value) (p : Int → Bool) (w : World) (h : SlI w v xs) (hg : okF ZP g = true) (hf : ∀ n w2, Ext w w2 → Rets ZP g #[.int .i64 n, cp] w2 fun v w' => v = .bool (p n) ∧ Ext w2 w') :
 Rets ZP 136 #[v, .func (.func g) #[] #[cp]] w fun r w' => (∃ i : Int, r = .int .i64 i ∧ decide (0 ≤ i) = xs.any p) ∧ Ext w w' := by
 obtain ⟨q, cap, rfl, hc1, hc2⟩ := h.shape
 refine en136 ?_
 simp -dsimp -implicitDefEqProofs only [m136,sF136,ZA,↓reduceIte,ZB,ZC,ZJ,ZK,ZE,ZF,ZG,ZH,ZI,reduceCtorEq,ZD,mwV,↓mwD,mwU]
 refine mwpB_loop (fun e ds w' => ∃ k : Nat, k ≤ xs.length ∧ e 8 = .int .i64 k ∧ e 7 = .int .i64 xs.length ∧ e 0 = .slice q xs.length cap ∧ e 1 = .func (.func g) #[] #[cp] ∧ ds = [] ∧ Ext w w' ∧ (xs.take k).any p = false)
  (fun e _ => xs.length - (intOf (e 8)).toNat) ?_ ?_
 · simp -dsimp -implicitDefEqProofs only [m136,sF136,ZA,↓reduceIte,ZB,ZC,ZJ,ZK,ZE,ZF,ZG,ZH,ZI,reduceCtorEq,ZD,mwV,↓mwD,mwU]
   exact ⟨0, by omega, rfl, Ext.refl _, rfl⟩
 · rintro e ds w' ⟨k, hk, h8, h7, h0, h1, rfl, hx, hp⟩
   simp -dsimp -implicitDefEqProofs only [h8,h7,h0,h1,m136,sF136,ZA,↓reduceIte,ZB,ZC,ZJ,ZK,ZE,ZF,ZG,ZH,ZI,reduceCtorEq,ZD,mwV,↓mwD,mwU]
   refine iteW_dec (fun hlt => ?_) (fun hge => ?_)
   · have hlt' : k < xs.length := by omega
     obtain ⟨b, o, cap', hv, _, _, hcell⟩ := h.at (by intro h0; rw [h0] at hlt'; simp at hlt')
     cases hv
     have hck := hx.cell (hcell k hlt')
     have hb1 : (0 : Int) ≤ k ∧ (k : Int) < xs.length := by omega
     have hw := w64_succ hlt' (Nat.le_trans hc1 hc2)
     simp -dsimp -implicitDefEqProofs only [h8,h7,h0,h1,hb1,and_self,hck,hg,m136,sF136,ZA,↓reduceIte,ZB,ZC,ZJ,ZK,ZE,ZF,ZG,ZH,ZI,reduceCtorEq,ZD,mwV,↓mwD,mwU]
     refine (hf _ _ hx).use ?_
     rintro v w2 ⟨rfl, hx2⟩
     simp -dsimp -implicitDefEqProofs only [h8,h7,h0,h1,hw,m136,sF136,ZA,↓reduceIte,ZB,ZC,ZJ,ZK,ZE,ZF,ZG,ZH,ZI,reduceCtorEq,ZD,mwV,↓mwD,mwU]
     refine iteW_intro (fun hpk => ?_) (fun hpk => ?_)
     · simp -dsimp -implicitDefEqProofs only [h8,h7,h0,h1,m136,sF136,ZA,↓reduceIte,ZB,ZC,ZJ,ZK,ZE,ZF,ZG,ZH,ZI,reduceCtorEq,ZD,mwV,↓mwD,mwU]
       refine ⟨⟨_, rfl, ?_⟩, hx.trans hx2⟩
       have : xs.any p = true := List.any_eq_true.2 ⟨xs[k], List.getElem_mem hlt', hpk⟩
       rw [this]; simp
     · simp -dsimp -implicitDefEqProofs only [h8,h7,h0,h1,hw,m136,sF136,ZA,↓reduceIte,ZB,ZC,ZJ,ZK,ZE,ZF,ZG,ZH,ZI,reduceCtorEq,ZD,mwV,↓mwD,mwU]
       refine ⟨⟨k + 1, by omega, rfl, hx.trans hx2, ?_⟩, ?_⟩
       · rw [List.take_succ_eq_append_getElem hlt', List.any_append, hp]; simp [hpk]
       · simp [intOf]; omega
   · have hkl : k = xs.length := by omega
     subst hkl
     simp -dsimp -implicitDefEqProofs only [h8,h7,h0,h1,m136,sF136,ZA,↓reduceIte,ZB,ZC,ZJ,ZK,ZE,ZF,ZG,ZH,ZI,reduceCtorEq,ZD,mwV,↓mwD,mwU]
     refine ⟨⟨_, rfl, ?_⟩, hx⟩
     rw [List.take_length] at hp
     rw [hp]; simp
theorem ContainsFI_c (v : Value) (xs : List Int) (g : FuncId) (cp : Value) (p : Int → Bool) (w : World) (h : SlI w v xs) (hg : okF ZP g = true) (hf : ∀ n w2, Ext w w2 → Rets ZP g #[.int .i64 n, cp] w2 fun v w' => v = .bool (p n) ∧ Ext w2 w') :
 Rets ZP 104 #[v, .func (.func g) #[] #[cp]] w fun r w' => r = .bool (xs.any p) ∧ Ext w w' := by
 refine en104 ?_
 simp -dsimp -implicitDefEqProofs only [m104,sF104,ZA,↓reduceIte,ZB,ZC,ZJ,ZK,ZE,ZF,ZG,ZH,ZI,reduceCtorEq,ZD,mwV,↓mwD,mwU]
 refine (IndexFI_c v xs g cp p w h hg hf).use ?_
 rintro r w' ⟨⟨i, rfl, hi⟩, hx⟩
 simp -dsimp -implicitDefEqProofs only [hi,m104,sF104,ZA,↓reduceIte,ZB,ZC,ZJ,ZK,ZE,ZF,ZG,ZH,ZI,reduceCtorEq,ZD,mwV,↓mwD,mwU]
 exact hx
theorem lacks1_c {b : Ch} {s : Value} {w : World} {bb : Nat} (hf : Fit b) (hs : SlI w s b.L) (hb : Bk w bb (cellsOf b s) 35) (n : Int) : Rets ZP 105 #[.int .i64 n, .pointer (some ⟨bb, 0, none⟩)] w fun v w' => v = .bool (!b.has n) ∧ Ext w w' := by
 have b0 := hb.get (o := 0) rfl
 have b1 := hb.get (o := 1) rfl
 have b2 := hb.get (o := 2) rfl
 obtain ⟨p, cap, rfl, _, _⟩ := hs.shape
 refine en105 ?_
 simp -dsimp -implicitDefEqProofs only [b0,b1,b2,m105,sF105,ZA,↓reduceIte,ZB,ZC,ZJ,ZK,ZE,ZF,ZG,ZH,ZI,reduceCtorEq,ZD,mwV,↓mwD,mwU]
 refine (numbers_c b _ _ hs).use ?_
 rintro r w1 ⟨rfl, h1⟩
 obtain ⟨g, u, j1, j2, j3⟩ := setHas_c (w := w1) hf (hs.ext h1) n
 simp -dsimp -implicitDefEqProofs only [j1,j2,m105,sF105,ZA,↓reduceIte,ZB,ZC,ZJ,ZK,ZE,ZF,ZG,ZH,ZI,reduceCtorEq,ZD,mwV,↓mwD,mwU]
 refine j3.use ?_
 rintro r w2 ⟨rfl, h2⟩
 simp -dsimp -implicitDefEqProofs only [m105,sF105,ZA,↓reduceIte,ZB,ZC,ZJ,ZK,ZE,ZF,ZG,ZH,ZI,reduceCtorEq,ZD,mwV,↓mwD,mwU]
 exact h1.trans h2
theorem lacks2_c {b : Ch} {s : Value} {w : World} {bb : Nat} (hf : Fit b) (hs : SlI w s b.L) (hb : Bk w bb (cellsOf b s) 35) (n : Int) : Rets ZP 107 #[.int .i64 n, .pointer (some ⟨bb, 0, none⟩)] w fun v w' => v = .bool (!b.has n) ∧ Ext w w' := by
 have b0 := hb.get (o := 0) rfl
 have b1 := hb.get (o := 1) rfl
 have b2 := hb.get (o := 2) rfl
 obtain ⟨p, cap, rfl, _, _⟩ := hs.shape
 refine en107 ?_
 simp -dsimp -implicitDefEqProofs only [b0,b1,b2,m107,sF107,ZA,↓reduceIte,ZB,ZC,ZJ,ZK,ZE,ZF,ZG,ZH,ZI,reduceCtorEq,ZD,mwV,↓mwD,mwU]
 refine (numbers_c b _ _ hs).use ?_
 rintro r w1 ⟨rfl, h1⟩
 obtain ⟨g, u, j1, j2, j3⟩ := setHas_c (w := w1) hf (hs.ext h1) n
 simp -dsimp -implicitDefEqProofs only [j1,j2,m107,sF107,ZA,↓reduceIte,ZB,ZC,ZJ,ZK,ZE,ZF,ZG,ZH,ZI,reduceCtorEq,ZD,mwV,↓mwD,mwU]
 refine j3.use ?_
 rintro r w2 ⟨rfl, h2⟩
 simp -dsimp -implicitDefEqProofs only [m107,sF107,ZA,↓reduceIte,ZB,ZC,ZJ,ZK,ZE,ZF,ZG,ZH,ZI,reduceCtorEq,ZD,mwV,↓mwD,mwU]
 exact h1.trans h2
theorem any_not {l : List Int} {p : Int → Bool} : (l.any fun n => !p n) = false ↔ ∀ n ∈ l, p n = true := by
 simp
theorem within_c (a b : Ch) (sa sb : Value) (w : World) (va : a.valid = true) (vb : b.valid = true) (ha : SlI w sa a.L) (hb : SlI w sb b.L) :
 Rets ZP 72 #[chV a sa, chV b sb] w fun r w' => Ext w w' ∧ ∃ x : Bool, r = .bool x ∧ (x = true ↔ wiC a b) := by
 have fa := valid_fit va
 have fb := valid_fit vb
 obtain ⟨W, hW, A, B, hx⟩ : ∃ W, W = (w.alloc (.cells #[.int .i64 a.k, .int .i64 a.d, sa] 35)).alloc (.cells #[.int .i64 b.k, .int .i64 b.d, sb] 35) ∧ Bk W w.heap.size (cellsOf a sa) 35 ∧ Bk W (w.heap.size + 1) (cellsOf b sb) 35 ∧ Ext w W := by
  refine ⟨_, rfl, (Bk.new w (cellsOf a sa) _).ext (Ext.alloc _ _), ?_, (Ext.alloc _ _).trans (Ext.alloc _ _)⟩
  have := Bk.new (w.alloc (.cells #[.int .i64 a.k, .int .i64 a.d, sa] 35)) (cellsOf b sb) 35
  rw [World.size_alloc] at this
  exact this
 obtain ⟨pa, ca, rfl, _, _⟩ := ha.shape
 obtain ⟨pb, cb, rfl, _, _⟩ := hb.shape
 have A0 := A.get (o := 0) rfl
 have A1 := A.get (o := 1) rfl
 have A2 := A.get (o := 2) rfl
 refine en72 ?_
 simp -dsimp -implicitDefEqProofs only [chV,World.size_alloc,← hW,A0,A1,A2,m72,sF72,ZA,↓reduceIte,ZB,ZC,ZJ,ZK,ZE,ZF,ZG,ZH,ZI,reduceCtorEq,ZD,mwV,↓mwD,mwU]
 refine (form_c a _ _).use ?_
 rintro r w1 ⟨rfl, h1⟩
 cases hl : a.lsd
 · obtain ⟨ra, ka⟩ := fit_range fa hl
   have A0' := (A.ext h1).get (o := 0) rfl
   have A1' := (A.ext h1).get (o := 1) rfl
   have A2' := (A.ext h1).get (o := 2) rfl
   simp -dsimp -implicitDefEqProofs only [A0',A1',A2',World.size_alloc,m72,sF72,ZA,↓reduceIte,ZB,ZC,ZJ,ZK,ZE,ZF,ZG,ZH,ZI,reduceCtorEq,ZD,mwV,↓mwD,mwU]
   refine (numbers_c a _ _ (ha.ext (hx.trans h1))).use ?_
   rintro r w2 ⟨rfl, h2⟩
   rw [setV_range ra ka]
   have B0 := (B.ext (h1.trans h2)).get (o := 0) rfl
   have B1 := (B.ext (h1.trans h2)).get (o := 1) rfl
   have B2 := (B.ext (h1.trans h2)).get (o := 2) rfl
   have hxw := (hx.trans h1).trans h2
   have xX : Ext w2 (w2.alloc (.cells #[.int .i64 a.lo, .int .i64 a.hi, .int .i64 a.stp, .bool (decide (a.k = 3)), .bool true] 112)) := Ext.alloc _ _
   have X := Bk.new w2 [.int .i64 a.lo, .int .i64 a.hi, .int .i64 a.stp, .bool (decide (a.k = 3)), .bool true] 112
   have B0' := xX.cell B0
   have B1' := xX.cell B1
   have B2' := xX.cell B2
   simp -dsimp -implicitDefEqProofs only [spV,World.size_alloc,B0',B1',B2',m72,sF72,ZA,↓reduceIte,ZB,ZC,ZJ,ZK,ZE,ZF,ZG,ZH,ZI,reduceCtorEq,ZD,mwV,↓mwD,mwU]
   generalize w2.alloc _ = W2 at *
   refine (numbers_c b _ _ (hb.ext (hxw.trans xX))).use ?_
   rintro r w3 ⟨rfl, h3⟩
   have hx3 := (hxw.trans xX).trans h3
   have X3 := X.ext h3
   have x0 := X3.get (o := 0) rfl
   have x1 := X3.get (o := 1) rfl
   have x2 := X3.get (o := 2) rfl
   have x3 := X3.get (o := 3) rfl
   have x4 := X3.get (o := 4) rfl
   have xB := ((B.ext (h1.trans h2)).ext xX).ext h3
   cases hl2 : b.lsd
   · obtain ⟨rb, kb⟩ := fit_range fb hl2
     rw [setV_range rb kb]
     simp -dsimp -implicitDefEqProofs only [spV,World.size_alloc,m72,sF72,ZA,↓reduceIte,ZB,ZC,ZJ,ZK,ZE,ZF,ZG,ZH,ZI,reduceCtorEq,ZD,mwV,↓mwD,mwU]
     have xY : Ext w3 (w3.alloc (.cells #[.int .i64 b.lo, .int .i64 b.hi, .int .i64 b.stp, .bool (decide (b.k = 3)), .bool true] 112)) := Ext.alloc _ _
     have Y := Bk.new w3 [.int .i64 b.lo, .int .i64 b.hi, .int .i64 b.stp, .bool (decide (b.k = 3)), .bool true] 112
     generalize w3.alloc _ = W3 at *
     have x0' := xY.cell x0
     have x1' := xY.cell x1
     have x2' := xY.cell x2
     have y0 := Y.get (o := 0) rfl
     have y1 := Y.get (o := 1) rfl
     have y2 := Y.get (o := 2) rfl
     have y3 := Y.get (o := 3) rfl
     have y4 := Y.get (o := 4) rfl
     have s0 := ra.s0
     have l0 := ra.l0
     have l1 := ra.l1
     have l2 := ra.l2
     have s0' := rb.s0
     have g0 : 0 ≤ (a.hi - a.lo) / a.stp * a.stp := Int.mul_nonneg (Int.ediv_nonneg (by omega) (by omega)) (by omega)
     have g1 : (a.hi - a.lo) / a.stp * a.stp ≤ a.hi - a.lo := Int.ediv_mul_le _ (by omega)
     have g2 : 0 ≤ (a.hi - a.lo) / a.stp := Int.ediv_nonneg (by omega) (by omega)
     have g3 : (a.hi - a.lo) / a.stp ≤ a.hi - a.lo := Int.ediv_le_self _ (by omega)
     have hw1 : IntKind.i64.wrap (a.hi - a.lo) = a.hi - a.lo := w64 (by omega) (by omega)
     have hw2 : IntKind.i64.wrap ((a.hi - a.lo) / a.stp) = (a.hi - a.lo) / a.stp := w64 (by omega) (by omega)
     have hw3 : IntKind.i64.wrap ((a.hi - a.lo) / a.stp * a.stp) = (a.hi - a.lo) / a.stp * a.stp := w64 (by omega) (by omega)
     have hw4 : IntKind.i64.wrap (a.lo + (a.hi - a.lo) / a.stp * a.stp) = a.lo + (a.hi - a.lo) / a.stp * a.stp := w64 (by omega) (by omega)
     have hq : (a.hi - a.lo).tdiv a.stp = (a.hi - a.lo) / a.stp := Int.tdiv_eq_ediv_of_nonneg (by omega)
     have hc0 : ¬ a.stp = 0 := by omega
     have hc1 : ¬ b.stp = 0 := by omega
     have ht : a.stp.tmod b.stp = a.stp % b.stp := Int.tmod_eq_emod_of_nonneg (by omega)
     have hwi := wi_range va vb hl hl2
     have hx5 := hx3.trans xY
     refine mwpB_drawE ?_
     simp -dsimp -implicitDefEqProofs only [spV,World.size_alloc,x0',x1',x2',hw1,hw2,hw3,hw4,hq,hc0,not_false_eq_true,m72,sF72,ZA,↓reduceIte,ZB,ZC,ZJ,ZK,ZE,ZF,ZG,ZH,ZI,reduceCtorEq,ZD,mwV,↓mwD,mwU]
     generalize a.lo + (a.hi - a.lo) / a.stp * a.stp = gr at *
     have hx6 := hx5.trans (Ext.drew W3)
     simp -dsimp -implicitDefEqProofs only [spV,World.size_alloc,x0',y0,y1,y2,y3,y4,m72,sF72,ZA,↓reduceIte,ZB,ZC,ZJ,ZK,ZE,ZF,ZG,ZH,ZI,reduceCtorEq,ZD,mwV,↓mwD,mwU]
     refine (stepsHas_c b.lo b.hi b.stp a.lo _ _ W3.drew rb.l0 rb.l2 s0').use ?_
     rintro r w4 ⟨rfl, h4⟩
     rw [has_stB rb]
     cases hb1 : b.has a.lo
     · simp -dsimp -implicitDefEqProofs only [m72,sF72,ZA,↓reduceIte,ZB,ZC,ZJ,ZK,ZE,ZF,ZG,ZH,ZI,reduceCtorEq,ZD,mwV,↓mwD,mwU]
       exact ⟨hx6.trans h4, _, rfl, by rw [hwi, hb1]; simp⟩
     · have Y4 := (Y.ext (Ext.drew W3)).ext h4
       have y0' := Y4.get (o := 0) rfl
       have y1' := Y4.get (o := 1) rfl
       have y2' := Y4.get (o := 2) rfl
       have y3' := Y4.get (o := 3) rfl
       have y4' := Y4.get (o := 4) rfl
       simp -dsimp -implicitDefEqProofs only [spV,World.size_alloc,y0',y1',y2',y3',y4',m72,sF72,ZA,↓reduceIte,ZB,ZC,ZJ,ZK,ZE,ZF,ZG,ZH,ZI,reduceCtorEq,ZD,mwV,↓mwD,mwU]
       refine (stepsHas_c b.lo b.hi b.stp gr _ _ w4 rb.l0 rb.l2 s0').use ?_
       rintro r w5 ⟨rfl, h5⟩
       rw [has_stB rb]
       have X5 := ((((X.ext h3).ext xY).ext (Ext.drew W3)).ext h4).ext h5
       have x0'' := X5.get (o := 0) rfl
       have x2'' := X5.get (o := 2) rfl
       have y2'' := (Y4.ext h5).get (o := 2) rfl
       cases hb2 : b.has gr
       · simp -dsimp -implicitDefEqProofs only [m72,sF72,ZA,↓reduceIte,ZB,ZC,ZJ,ZK,ZE,ZF,ZG,ZH,ZI,reduceCtorEq,ZD,mwV,↓mwD,mwU]
         exact ⟨(hx6.trans h4).trans h5, _, rfl, by rw [hwi, hb2]; simp⟩
       · by_cases he : gr = a.lo
         · simp -dsimp -implicitDefEqProofs only [World.size_alloc,x0'',he,m72,sF72,ZA,↓reduceIte,ZB,ZC,ZJ,ZK,ZE,ZF,ZG,ZH,ZI,reduceCtorEq,ZD,mwV,↓mwD,mwU]
           exact ⟨(hx6.trans h4).trans h5, _, rfl, by rw [hwi, hb1, hb2]; simp [he]⟩
         · by_cases hm : a.stp % b.stp = 0
           · simp -dsimp -implicitDefEqProofs only [World.size_alloc,x0'',he,x2'',y2'',ht,hm,hc1,not_false_eq_true,m72,sF72,ZA,↓reduceIte,ZB,ZC,ZJ,ZK,ZE,ZF,ZG,ZH,ZI,reduceCtorEq,ZD,mwV,↓mwD,mwU]
             exact ⟨(hx6.trans h4).trans h5, _, rfl, by rw [hwi, hb1, hb2]; simp [hm]⟩
           · simp -dsimp -implicitDefEqProofs only [World.size_alloc,x0'',he,x2'',y2'',ht,hm,hc1,not_false_eq_true,m72,sF72,ZA,↓reduceIte,ZB,ZC,ZJ,ZK,ZE,ZF,ZG,ZH,ZI,reduceCtorEq,ZD,mwV,↓mwD,mwU]
             exact ⟨(hx6.trans h4).trans h5, _, rfl, by rw [hwi, hb1, hb2]; simp [hm, he]⟩
   · rw [setV_list (fit_list fb hl2)]
     have xY : Ext w3 (w3.alloc (.cells #[.int .i64 0, .int .i64 0, .int .i64 0, .bool false, .bool false] 112)) := Ext.alloc _ _
     have x0' := xY.cell x0
     have x1' := xY.cell x1
     have x2' := xY.cell x2
     have x3' := xY.cell x3
     have x4' := xY.cell x4
     simp -dsimp -implicitDefEqProofs only [spV,World.size_alloc,x0',x1',x2',x3',x4',m72,sF72,ZA,↓reduceIte,ZB,ZC,ZJ,ZK,ZE,ZF,ZG,ZH,ZI,reduceCtorEq,ZD,mwV,↓mwD,mwU]
     generalize w3.alloc _ = W3 at *
     refine (stepsFirst_c a.lo a.hi a.stp _ _ 21 W3 ra.l0 ra.l2 ra.s0 (by have := ra.s1; omega) (by have := ra.l1; have := ra.l2; omega) (by omega)).use ?_
     rintro r w4 ⟨h4, hown⟩
     have hs4 := Own.sl hown
     obtain ⟨_, q, cq, rfl⟩ := own_shape hown
     have hwi := wi_first va vb (.inr hl2)
     rw [first_range hl] at hwi
     generalize rng a.hi a.stp 21 a.lo = F at *
     have hx5 := (hx3.trans xY).trans h4
     by_cases hF : (F.length : Int) ≤ 20
     · simp -dsimp -implicitDefEqProofs only [World.size_alloc,hF,m72,sF72,ZA,↓reduceIte,ZB,ZC,ZJ,ZK,ZE,ZF,ZG,ZH,ZI,reduceCtorEq,ZD,mwV,↓mwD,mwU]
       refine (ContainsFI_c _ F _ _ (fun n => !b.has n) w4 hs4 okF_107 (fun n w2 hx2 => lacks2_c fb (hb.ext (hx5.trans hx2)) ((xB.ext (xY.trans h4)).ext hx2) n)).use ?_
       rintro r w5 ⟨rfl, h5⟩
       simp -dsimp -implicitDefEqProofs only [m72,sF72,ZA,↓reduceIte,ZB,ZC,ZJ,ZK,ZE,ZF,ZG,ZH,ZI,reduceCtorEq,ZD,mwV,↓mwD,mwU]
       refine ⟨hx5.trans h5, _, rfl, ?_⟩
       rw [Bool.not_eq_true', any_not, hwi]
       exact ⟨fun h => ⟨by omega, h⟩, fun h => h.2⟩
     · simp -dsimp -implicitDefEqProofs only [World.size_alloc,hF,m72,sF72,ZA,↓reduceIte,ZB,ZC,ZJ,ZK,ZE,ZF,ZG,ZH,ZI,reduceCtorEq,ZD,mwV,↓mwD,mwU]
       refine ⟨hx5, _, rfl, ?_⟩
       rw [hwi]
       simp
       omega
 · have A2' := (A.ext h1).get (o := 2) rfl
   simp -dsimp -implicitDefEqProofs only [A2',World.size_alloc,m72,sF72,ZA,↓reduceIte,ZB,ZC,ZJ,ZK,ZE,ZF,ZG,ZH,ZI,reduceCtorEq,ZD,mwV,↓mwD,mwU]
   refine (ContainsFI_c _ a.L _ _ (fun n => !b.has n) w1 (ha.ext (hx.trans h1)) okF_105 (fun n w2 hx2 => lacks1_c fb (hb.ext ((hx.trans h1).trans hx2)) (B.ext (h1.trans hx2)) n)).use ?_
   rintro r w2 ⟨rfl, h2⟩
   simp -dsimp -implicitDefEqProofs only [m72,sF72,ZA,↓reduceIte,ZB,ZC,ZJ,ZK,ZE,ZF,ZG,ZH,ZI,reduceCtorEq,ZD,mwV,↓mwD,mwU]
   refine ⟨(hx.trans h1).trans h2, ?_⟩
   refine ⟨_, rfl, ?_⟩
   rw [Bool.not_eq_true', any_not, wi_list hl]
end Go.Proofs.YthcdnjbhhaonhaaGreatDoor
/- Layer 02: which formats are valid. -/
namespace Go.Proofs.YthcdnjbhhaonhaaGreatDoor
open Go.RowKit
open Nat renaming reduceEqDiff → ZA, reduceAdd → ZB, reduceMul → ZC, reduceSub → ZD
open Int renaming reduceToNat → ZE, reduceEq → ZF, reduceLT → ZG, reduceLE → ZH, reduceNeg → ZI
open Go.Value renaming oneCell' → ZK, cells → ZJ
open Go.Proofs.Tryz renaming prog → ZP
set_option linter.unusedSimpArgs false
def pkey (F : List Fl) : Nat → Int
 | 0 => 0
 | k + 1 => match F[k]? with | some f => f.key | none => 0
theorem pkey_succ {F : List Fl} {k : Nat} (h : k < F.length) : pkey F (k + 1) = F[k].key := by simp [pkey, List.getElem?_eq_getElem h]
theorem fieldsB_drop {F : List Fl} {k : Nat} (h : k < F.length) : fieldsB (pkey F k) (F.drop k) = (decide (pkey F k < F[k].key) && (decide (F[k].key ≤ 6) && (F[k].c.valid && fieldsB (pkey F (k + 1)) (F.drop (k + 1))))) := by
 rw [List.drop_eq_getElem_cons h, pkey_succ h]; rfl
theorem Valid_c (f : Fm) (s : Value) (w : World) (hs : SlF w s f.F) : Rets ZP 43 #[fmV f s] w fun r w' => r = .bool f.valid ∧ Ext w w' := by
 have hx0 : Ext w (w.alloc (.cells #[.int .i64 f.m, s] 24)) := Ext.alloc _ _
 have hB : Bk (w.alloc (.cells #[.int .i64 f.m, s] 24)) w.heap.size [.int .i64 f.m, s] 24 := Bk.new _ _ _
 obtain ⟨p, cap, rfl, hc1, hc2⟩ := hs.shape
 refine en43 ?_
 simp -dsimp -implicitDefEqProofs only [fmV,m43,sF43,ZA,↓reduceIte,ZB,ZC,ZJ,ZK,ZE,ZF,ZG,ZH,ZI,reduceCtorEq,ZD,mwV,↓mwD,mwU]
 generalize w.alloc (.cells #[.int .i64 f.m, .slice p f.F.length cap] 24) = w1 at *
 have b0 := hB.get (o := 0) rfl
 have b1 := hB.get (o := 1) rfl
 refine mwpB_loop (fun e ds w' => ∃ k : Nat, k ≤ f.F.length ∧ e 8 = .int .i64 k ∧ e 7 = .int .i64 f.F.length ∧ e 6 = .slice p f.F.length cap ∧ e 1 = .pointer (some ⟨w.heap.size, 0, none⟩) ∧ ds = [] ∧ Ext w1 w' ∧ 0 ≤ pkey f.F k ∧ fieldsB 0 f.F = fieldsB (pkey f.F k) (f.F.drop k))
  (fun e _ => f.F.length - (intOf (e 8)).toNat) ?_ ?_
 · simp -dsimp -implicitDefEqProofs only [b0,b1,m43,sF43,ZA,↓reduceIte,ZB,ZC,ZJ,ZK,ZE,ZF,ZG,ZH,ZI,reduceCtorEq,ZD,mwV,↓mwD,mwU]
   exact ⟨0, by omega, rfl, Ext.refl _, by simp [pkey], rfl⟩
 · rintro e ds w' ⟨k, hk, h8, h7, h6, h1, rfl, hx, hpk, hF⟩
   simp -dsimp -implicitDefEqProofs only [h8,h7,h6,h1,m43,sF43,ZA,↓reduceIte,ZB,ZC,ZJ,ZK,ZE,ZF,ZG,ZH,ZI,reduceCtorEq,ZD,mwV,↓mwD,mwU]
   have hB' := hB.ext hx
   refine iteW_dec (fun hlt => ?_) (fun hge => ?_)
   · have hlt' : k < f.F.length := by omega
     obtain ⟨b, o, rfl, hfs⟩ := (hs.ext (hx0.trans hx)).at (by intro h0; rw [h0] at hlt'; simp at hlt')
     obtain ⟨sk, q0, q1, q2, q3, hsk⟩ := hfs.get hlt'
     have hb1 : (0 : Int) ≤ k ∧ (k : Int) < f.F.length := by omega
     have hw := w64_succ hlt' (Nat.le_trans hc1 hc2)
     rw [fieldsB_drop hlt'] at hF
     obtain ⟨ps, cs, rfl, _, _⟩ := hsk.shape
     have hC : Bk (w'.alloc (.cells #[.int .i64 f.F[k].key, .int .i64 f.F[k].c.k, .int .i64 f.F[k].c.d, .slice ps f.F[k].c.L.length cs] 72)) w'.heap.size [.int .i64 f.F[k].key, .int .i64 f.F[k].c.k, .int .i64 f.F[k].c.d, .slice ps f.F[k].c.L.length cs] 72 := Bk.new _ _ _
     have hxC : Ext w' (w'.alloc (.cells #[.int .i64 f.F[k].key, .int .i64 f.F[k].c.k, .int .i64 f.F[k].c.d, .slice ps f.F[k].c.L.length cs] 72)) := Ext.alloc _ _
     simp -dsimp -implicitDefEqProofs only [h8,h7,h6,h1,hb1,and_self,q0,q1,q2,q3,Nat.mul_comm k 4,m43,sF43,ZA,↓reduceIte,ZB,ZC,ZJ,ZK,ZE,ZF,ZG,ZH,ZI,reduceCtorEq,ZD,mwV,↓mwD,mwU]
     generalize w'.alloc _ = W2 at *
     have hxW := hx.trans hxC
     have c0 := hC.get (o := 0) rfl
     have c1 := hC.get (o := 1) rfl
     have c2 := hC.get (o := 2) rfl
     have c3 := hC.get (o := 3) rfl
     have d1 := (hB'.ext hxC).get (o := 1) rfl
     have hxd := hxW.trans (Ext.drew W2)
     refine mwpB_drawE ?_
     by_cases t1 : f.F[k].key < 1
     · simp -dsimp -implicitDefEqProofs only [h8,h7,h6,h1,c0,t1,m43,sF43,ZA,↓reduceIte,ZB,ZC,ZJ,ZK,ZE,ZF,ZG,ZH,ZI,reduceCtorEq,ZD,mwV,↓mwD,mwU]
       have : ¬ pkey f.F k < f.F[k].key := by omega
       exact ⟨by unfold Fm.valid; rw [hF]; simp [this], hx0.trans hxd⟩
     by_cases t2 : 6 < f.F[k].key
     · simp -dsimp -implicitDefEqProofs only [h8,h7,h6,h1,c0,t1,t2,m43,sF43,ZA,↓reduceIte,ZB,ZC,ZJ,ZK,ZE,ZF,ZG,ZH,ZI,reduceCtorEq,ZD,mwV,↓mwD,mwU]
       have : ¬ f.F[k].key ≤ 6 := by omega
       exact ⟨by unfold Fm.valid; rw [hF]; simp [this], hx0.trans hxd⟩
     have e2 : f.F[k].key ≤ 6 := by omega
     have fin : ∀ {w3 : World}, Ext W2.drew w3 → Ext w w3 := fun h => (hx0.trans hxd).trans h
     have next : pkey f.F k < f.F[k].key → f.F[k].c.valid = true → 0 ≤ pkey f.F (k + 1) ∧ fieldsB 0 f.F = fieldsB (pkey f.F (k + 1)) (f.F.drop (k + 1)) := fun h h' => by
      refine ⟨by rw [pkey_succ hlt']; omega, ?_⟩
      rw [hF, h']; simp [h, e2]
     rcases Nat.eq_zero_or_pos k with h0 | h0
     · have z : ¬ (0 : Int) < (k : Int) := by omega
       have hp : pkey f.F k < f.F[k].key := by
        have : pkey f.F k = 0 := by rw [h0]; rfl
        omega
       simp -dsimp -implicitDefEqProofs only [h8,h7,h6,h1,c0,c1,c2,c3,t1,t2,z,m43,sF43,ZA,↓reduceIte,ZB,ZC,ZJ,ZK,ZE,ZF,ZG,ZH,ZI,reduceCtorEq,ZD,mwV,↓mwD,mwU]
       refine (ValidChoice_c f.F[k].c _ W2.drew ((hsk.ext hxC).ext (Ext.drew _))).use ?_
       rintro r w3 ⟨rfl, h3⟩
       cases hv : f.F[k].c.valid
       · simp -dsimp -implicitDefEqProofs only [h3,m43,sF43,ZA,↓reduceIte,ZB,ZC,ZJ,ZK,ZE,ZF,ZG,ZH,ZI,reduceCtorEq,ZD,mwV,↓mwD,mwU]
         exact ⟨by unfold Fm.valid; rw [hF, hv]; simp, fin h3⟩
       · simp -dsimp -implicitDefEqProofs only [h3,h8,h7,h6,h1,hw,m43,sF43,ZA,↓reduceIte,ZB,ZC,ZJ,ZK,ZE,ZF,ZG,ZH,ZI,reduceCtorEq,ZD,mwV,↓mwD,mwU]
         exact ⟨⟨k + 1, by omega, rfl, hxd.trans h3, next hp hv⟩, by simp only [intOf]; omega⟩
     · have z : (0 : Int) < (k : Int) := by omega
       have hk1 : k - 1 < f.F.length := by omega
       obtain ⟨sp, p0, _⟩ := ((hfs.ext hxC).ext (Ext.drew _)).get hk1
       have e3 : pkey f.F k = f.F[k - 1].key := by
        have := pkey_succ hk1
        rw [show k - 1 + 1 = k by omega] at this
        exact this
       have hw3 : IntKind.i64.wrap ((k : Int) - 1) = ((k - 1 : Nat) : Int) := by rw [w64 (by omega) (by unfold maxLen at hc2; omega)]; omega
       have hb3 : (0 : Int) ≤ ((k - 1 : Nat) : Int) ∧ ((k - 1 : Nat) : Int) < f.F.length := by omega
       by_cases t4 : f.F[k].key ≤ f.F[k - 1].key
       · simp -dsimp -implicitDefEqProofs only [h8,h7,h6,h1,c0,c1,c2,c3,d1,t1,t2,z,hw3,hb3,and_self,p0,Nat.mul_comm (k - 1) 4,t4,m43,sF43,ZA,↓reduceIte,ZB,ZC,ZJ,ZK,ZE,ZF,ZG,ZH,ZI,reduceCtorEq,ZD,mwV,↓mwD,mwU]
         have : ¬ pkey f.F k < f.F[k].key := by omega
         exact ⟨by unfold Fm.valid; rw [hF]; simp [this], hx0.trans hxd⟩
       · have hp : pkey f.F k < f.F[k].key := by omega
         simp -dsimp -implicitDefEqProofs only [h8,h7,h6,h1,c0,c1,c2,c3,t1,t2,d1,z,hw3,hb3,and_self,p0,Nat.mul_comm (k - 1) 4,t4,m43,sF43,ZA,↓reduceIte,ZB,ZC,ZJ,ZK,ZE,ZF,ZG,ZH,ZI,reduceCtorEq,ZD,mwV,↓mwD,mwU]
         refine (ValidChoice_c f.F[k].c _ W2.drew ((hsk.ext hxC).ext (Ext.drew _))).use ?_
         rintro r w3 ⟨rfl, h3⟩
         cases hv : f.F[k].c.valid
         · simp -dsimp -implicitDefEqProofs only [h3,m43,sF43,ZA,↓reduceIte,ZB,ZC,ZJ,ZK,ZE,ZF,ZG,ZH,ZI,reduceCtorEq,ZD,mwV,↓mwD,mwU]
           exact ⟨by unfold Fm.valid; rw [hF, hv]; simp, fin h3⟩
         · simp -dsimp -implicitDefEqProofs only [h3,h8,h7,h6,h1,hw,m43,sF43,ZA,↓reduceIte,ZB,ZC,ZJ,ZK,ZE,ZF,ZG,ZH,ZI,reduceCtorEq,ZD,mwV,↓mwD,mwU]
           exact ⟨⟨k + 1, by omega, rfl, hxd.trans h3, next hp hv⟩, by simp only [intOf]; omega⟩
   · have hkl : k = f.F.length := by omega
     subst hkl
     rw [List.drop_length] at hF
     have d0 := hB'.get (o := 0) rfl
     have hv : f.valid = (decide (1 ≤ f.m) && decide (f.m ≤ 3)) := by unfold Fm.valid; rw [hF]; rfl
     rw [hv]
     by_cases t1 : 1 ≤ f.m
     · simp -dsimp -implicitDefEqProofs only [h8,h7,h6,h1,d0,t1,m43,sF43,ZA,↓reduceIte,ZB,ZC,ZJ,ZK,ZE,ZF,ZG,ZH,ZI,reduceCtorEq,ZD,mwV,↓mwD,mwU]
       exact ⟨by simp [t1], hx0.trans hx⟩
     · simp -dsimp -implicitDefEqProofs only [h8,h7,h6,h1,d0,t1,m43,sF43,ZA,↓reduceIte,ZB,ZC,ZJ,ZK,ZE,ZF,ZG,ZH,ZI,reduceCtorEq,ZD,mwV,↓mwD,mwU]
       exact ⟨by simp [t1], hx0.trans hx⟩
end Go.Proofs.YthcdnjbhhaonhaaGreatDoor

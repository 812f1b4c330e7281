/- Layer 02: Same, of the program and of the reference. -/
import Derived.Test.YthcdnjbhhaonhaaGreatDoorQjFoI

namespace Go.Proofs.YthcdnjbhhaonhaaGreatDoor
open Go.RowKit
open Nat renaming reduceEqDiff → ZA, reduceAdd → ZB, reduceMul → ZC, reduceSub → ZD
open Int renaming reduceToNat → ZE, reduceEq → ZF, reduceLT → ZG, reduceLE → ZH, reduceNeg → ZI
open Go.Value renaming oneCell' → ZK, cells → ZJ
open Go.Proofs.Tryz renaming prog → ZP
set_option linter.unusedSimpArgs false
def eqCh (a b : Ch) : Bool := decide (a.k = b.k) && (decide (a.d = b.d) && decide (a.L = b.L))
def eqFs : List Fl → List Fl → Bool
 | [], [] => true
 | x :: A, y :: B => decide (x.key = y.key) && (eqCh x.c y.c && eqFs A B)
 | _, _ => false
def eqFm (a b : Fm) : Bool := decide (a.m = b.m) && eqFs a.F b.F
theorem eqCh_refl (a : Ch) : eqCh a a = true := by simp [eqCh]
theorem eqFs_refl : ∀ A : List Fl, eqFs A A = true
 | [] => rfl
 | x :: A => by simp [eqFs, eqCh_refl, eqFs_refl A]
theorem eqFm_refl (a : Fm) : eqFm a a = true := by simp [eqFm, eqFs_refl]
theorem eqFs_len : ∀ {A B : List Fl}, A.length ≠ B.length → eqFs A B = false
 | [], [], h => by simp at h
 | [], y :: B, _ => rfl
 | x :: A, [], _ => rfl
 | x :: A, y :: B, h => by
  rw [eqFs, eqFs_len (A := A) (B := B) (by simpa using h)]; simp
theorem eqFs_drop {A B : List Fl} {k : Nat} (h : k < A.length) (h' : k < B.length) : eqFs (A.drop k) (B.drop k) = (decide (A[k].key = B[k].key) && (eqCh A[k].c B[k].c && eqFs (A.drop (k + 1)) (B.drop (k + 1)))) := by
 rw [List.drop_eq_getElem_cons h, List.drop_eq_getElem_cons h']; rfl
theorem drop_eq_iff {xs ys : List Int} {k : Nat} (h : k < xs.length) (h' : k < ys.length) : (xs.drop k = ys.drop k) ↔ (xs[k] = ys[k] ∧ xs.drop (k + 1) = ys.drop (k + 1)) := by
 rw [List.drop_eq_getElem_cons h, List.drop_eq_getElem_cons h', List.cons.injEq]
theorem EqualI_c (v u : Value) (xs ys : List Int) (w : World) (h : SlI w v xs) (h' : SlI w u ys) : Rets ZP 114 #[v, u] w fun r w' => r = .bool (decide (xs = ys)) ∧ Ext w w' := by
 obtain ⟨q, cap, rfl, hc1, hc2⟩ := h.shape
 obtain ⟨q', cap', rfl, hc3, hc4⟩ := h'.shape
 refine en114 ?_
 by_cases hl : xs.length = ys.length
 · have hl' : (xs.length : Int) = (ys.length : Int) := by omega
   simp -dsimp -implicitDefEqProofs only [hl',m114,sF114,ZA,↓reduceIte,ZB,ZC,ZJ,ZK,ZE,ZF,ZG,ZH,ZI,reduceCtorEq,ZD,mwV,↓mwD,mwU]
   refine mwpB_loop (fun e ds w' => ∃ k : Nat, k ≤ ys.length ∧ e 13 = .int .i64 k ∧ e 12 = .int .i64 ys.length ∧ e 0 = .slice q xs.length cap ∧ e 1 = .slice q' ys.length cap' ∧ ds = [] ∧ Ext w w' ∧ (xs = ys ↔ xs.drop k = ys.drop k))
    (fun e _ => ys.length - (intOf (e 13)).toNat) ?_ ?_
   · simp -dsimp -implicitDefEqProofs only [hl',m114,sF114,ZA,↓reduceIte,ZB,ZC,ZJ,ZK,ZE,ZF,ZG,ZH,ZI,reduceCtorEq,ZD,mwV,↓mwD,mwU]
     exact ⟨0, by omega, rfl, Ext.refl _, Iff.rfl⟩
   · rintro e ds w' ⟨k, hk, h13, h12, h0, h1, rfl, hx, hiff⟩
     simp -dsimp -implicitDefEqProofs only [h13,h12,h0,h1,m114,sF114,ZA,↓reduceIte,ZB,ZC,ZJ,ZK,ZE,ZF,ZG,ZH,ZI,reduceCtorEq,ZD,mwV,↓mwD,mwU]
     refine iteW_dec (fun hlt => ?_) (fun hge => ?_)
     · have hly : k < ys.length := by omega
       have hlx : k < xs.length := by omega
       obtain ⟨b, o, c0, hv, _, _, hcell⟩ := h.at (by intro h0; rw [h0] at hlx; simp at hlx)
       cases hv
       obtain ⟨b', o', c0', hv, _, _, hcell'⟩ := h'.at (by intro h0; rw [h0] at hly; simp at hly)
       cases hv
       have q1 := hx.cell (hcell k hlx)
       have q2 := hx.cell (hcell' k hly)
       have hb1 : (0 : Int) ≤ k ∧ (k : Int) < xs.length := by omega
       have hb2 : (0 : Int) ≤ k ∧ (k : Int) < ys.length := by omega
       have hw := w64_succ hly (Nat.le_trans hc3 hc4)
       simp -dsimp -implicitDefEqProofs only [h13,h12,h0,h1,m114,sF114,ZA,↓reduceIte,ZB,ZC,ZJ,ZK,ZE,ZF,ZG,ZH,ZI,reduceCtorEq,ZD,mwV,↓mwD,mwU]
       refine mwpB_drawE ?_
       have hxd := hx.trans (Ext.drew w')
       rw [drop_eq_iff hlx hly] at hiff
       by_cases he : xs[k] = ys[k]
       · simp -dsimp -implicitDefEqProofs only [h13,h12,h0,h1,hb1,hb2,and_self,q1,q2,he,hw,m114,sF114,ZA,↓reduceIte,ZB,ZC,ZJ,ZK,ZE,ZF,ZG,ZH,ZI,reduceCtorEq,ZD,mwV,↓mwD,mwU]
         refine ⟨⟨k + 1, by omega, rfl, hxd, hiff.trans ⟨fun h => h.2, fun h => ⟨he, h⟩⟩⟩, by simp only [intOf]; omega⟩
       · simp -dsimp -implicitDefEqProofs only [h13,h12,h0,h1,hb1,hb2,and_self,q1,q2,he,m114,sF114,ZA,↓reduceIte,ZB,ZC,ZJ,ZK,ZE,ZF,ZG,ZH,ZI,reduceCtorEq,ZD,mwV,↓mwD,mwU]
         exact ⟨by have : ¬ xs = ys := fun h => he (hiff.1 h).1
                   simp [this], hxd⟩
     · have hkl : k = ys.length := by omega
       subst hkl
       simp -dsimp -implicitDefEqProofs only [h13,h12,h0,h1,m114,sF114,ZA,↓reduceIte,ZB,ZC,ZJ,ZK,ZE,ZF,ZG,ZH,ZI,reduceCtorEq,ZD,mwV,↓mwD,mwU]
       rw [List.drop_length, List.drop_of_length_le (by omega)] at hiff
       exact ⟨by simp [hiff], hx⟩
 · have hl' : ¬ (xs.length : Int) = (ys.length : Int) := by omega
   simp -dsimp -implicitDefEqProofs only [hl',m114,sF114,ZA,↓reduceIte,ZB,ZC,ZJ,ZK,ZE,ZF,ZG,ZH,ZI,reduceCtorEq,ZD,mwV,↓mwD,mwU]
   exact ⟨by have : ¬ xs = ys := fun h => hl (by rw [h])
             simp [this], Ext.refl _⟩
theorem psame_c (a b : Ch) (sa sb : Value) (w : World) (ha : SlI w sa a.L) (hb : SlI w sb b.L) : Rets ZP 86 #[chV a sa, chV b sb] w fun r w' => r = .bool (eqCh a b) ∧ Ext w w' := by
 obtain ⟨W, hW, A, B, hx⟩ : ∃ W, W = (w.alloc (.cells #[.int .i64 a.k, .int .i64 a.d, sa] 35)).alloc (.cells #[.int .i64 b.k, .int .i64 b.d, sb] 35) ∧ Bk W w.heap.size (cellsOf a sa) 35 ∧ Bk W (w.heap.size + 1) (cellsOf b sb) 35 ∧ Ext w W := by
  refine ⟨_, rfl, (Bk.new w (cellsOf a sa) _).ext (Ext.alloc _ _), ?_, (Ext.alloc _ _).trans (Ext.alloc _ _)⟩
  have := Bk.new (w.alloc (.cells #[.int .i64 a.k, .int .i64 a.d, sa] 35)) (cellsOf b sb) 35
  rw [World.size_alloc] at this
  exact this
 obtain ⟨pa, ca, rfl, _, _⟩ := ha.shape
 obtain ⟨pb, cb, rfl, _, _⟩ := hb.shape
 have A0 := A.get (o := 0) rfl
 have A1 := A.get (o := 1) rfl
 have A2 := A.get (o := 2) rfl
 have B0 := B.get (o := 0) rfl
 have B1 := B.get (o := 1) rfl
 have B2 := B.get (o := 2) rfl
 refine en86 ?_
 by_cases hk : a.k = b.k
 · have dk : decide (a.k = b.k) = true := by simp [hk]
   by_cases hd : a.d = b.d
   · have dd : decide (a.d = b.d) = true := by simp [hd]
     simp -dsimp -implicitDefEqProofs only [chV,World.size_alloc,← hW,A0,A1,A2,B0,B1,B2,dk,dd,m86,sF86,ZA,↓reduceIte,ZB,ZC,ZJ,ZK,ZE,ZF,ZG,ZH,ZI,reduceCtorEq,ZD,mwV,↓mwD,mwU]
     refine (EqualI_c _ _ a.L b.L W (ha.ext hx) (hb.ext hx)).use ?_
     rintro r w2 ⟨rfl, h2⟩
     simp -dsimp -implicitDefEqProofs only [m86,sF86,ZA,↓reduceIte,ZB,ZC,ZJ,ZK,ZE,ZF,ZG,ZH,ZI,reduceCtorEq,ZD,mwV,↓mwD,mwU]
     exact ⟨by simp [eqCh, hk, hd], hx.trans h2⟩
   · have dd : decide (a.d = b.d) = false := by simp [hd]
     simp -dsimp -implicitDefEqProofs only [chV,World.size_alloc,← hW,A0,A1,B0,B1,dk,dd,m86,sF86,ZA,↓reduceIte,ZB,ZC,ZJ,ZK,ZE,ZF,ZG,ZH,ZI,reduceCtorEq,ZD,mwV,↓mwD,mwU]
     exact ⟨by simp [eqCh, hd], hx⟩
 · have dk : decide (a.k = b.k) = false := by simp [hk]
   simp -dsimp -implicitDefEqProofs only [chV,World.size_alloc,← hW,A0,B0,dk,m86,sF86,ZA,↓reduceIte,ZB,ZC,ZJ,ZK,ZE,ZF,ZG,ZH,ZI,reduceCtorEq,ZD,mwV,↓mwD,mwU]
   exact ⟨by simp [eqCh, hk], hx⟩
def flA (f : Fl) (s : Value) : Value := .agg #[.int .i64 f.key, .int .i64 f.c.k, .int .i64 f.c.d, s]
theorem Same1_c (x y : Fl) (sx sy : Value) (w : World) (hx : SlI w sx x.c.L) (hy : SlI w sy y.c.L) : Rets ZP 85 #[flA x sx, flA y sy] w fun r w' => r = .bool (decide (x.key = y.key) && eqCh x.c y.c) ∧ Ext w w' := by
 obtain ⟨px, cx, rfl, _, _⟩ := hx.shape
 obtain ⟨py, cy, rfl, _, _⟩ := hy.shape
 obtain ⟨W, hW, A, B, hxW⟩ : ∃ W, W = (w.alloc (.cells #[.int .i64 x.key, .int .i64 x.c.k, .int .i64 x.c.d, .slice px x.c.L.length cx] 72)).alloc (.cells #[.int .i64 y.key, .int .i64 y.c.k, .int .i64 y.c.d, .slice py y.c.L.length cy] 72) ∧ Bk W w.heap.size (flVs x (.slice px x.c.L.length cx)) 72 ∧ Bk W (w.heap.size + 1) (flVs y (.slice py y.c.L.length cy)) 72 ∧ Ext w W := by
  refine ⟨_, rfl, (Bk.new w (flVs x (.slice px x.c.L.length cx)) _).ext (Ext.alloc _ _), ?_, (Ext.alloc _ _).trans (Ext.alloc _ _)⟩
  have := Bk.new (w.alloc (.cells #[.int .i64 x.key, .int .i64 x.c.k, .int .i64 x.c.d, .slice px x.c.L.length cx] 72)) (flVs y (.slice py y.c.L.length cy)) 72
  rw [World.size_alloc] at this
  exact this
 have A0 := A.get (o := 0) rfl
 have A1 := A.get (o := 1) rfl
 have A2 := A.get (o := 2) rfl
 have A3 := A.get (o := 3) rfl
 have B0 := B.get (o := 0) rfl
 have B1 := B.get (o := 1) rfl
 have B2 := B.get (o := 2) rfl
 have B3 := B.get (o := 3) rfl
 refine en85 ?_
 by_cases hk : x.key = y.key
 · have dk : decide (x.key = y.key) = true := by simp [hk]
   simp -dsimp -implicitDefEqProofs only [flA,World.size_alloc,← hW,A0,A1,A2,A3,B0,B1,B2,B3,dk,m85,sF85,ZA,↓reduceIte,ZB,ZC,ZJ,ZK,ZE,ZF,ZG,ZH,ZI,reduceCtorEq,ZD,mwV,↓mwD,mwU]
   refine (psame_c x.c y.c _ _ W (hx.ext hxW) (hy.ext hxW)).use ?_
   rintro r w2 ⟨rfl, h2⟩
   simp -dsimp -implicitDefEqProofs only [m85,sF85,ZA,↓reduceIte,ZB,ZC,ZJ,ZK,ZE,ZF,ZG,ZH,ZI,reduceCtorEq,ZD,mwV,↓mwD,mwU]
   exact ⟨by simp [hk], hxW.trans h2⟩
 · have dk : decide (x.key = y.key) = false := by simp [hk]
   simp -dsimp -implicitDefEqProofs only [flA,World.size_alloc,← hW,A0,B0,dk,m85,sF85,ZA,↓reduceIte,ZB,ZC,ZJ,ZK,ZE,ZF,ZG,ZH,ZI,reduceCtorEq,ZD,mwV,↓mwD,mwU]
   exact ⟨by simp [hk], hxW⟩
theorem EqualF_c (v u : Value) (A B : List Fl) (w : World) (hA : SlF w v A) (hB : SlF w u B) : Rets ZP 84 #[v, u, .func (.func 85) #[] #[]] w fun r w' => r = .bool (eqFs A B) ∧ Ext w w' := by
 obtain ⟨q, cap, rfl, hc1, hc2⟩ := hA.shape
 obtain ⟨q', cap', rfl, hc3, hc4⟩ := hB.shape
 have hok := okF_85
 refine en84 ?_
 by_cases hl : A.length = B.length
 · have hl' : decide ((A.length : Int) = (B.length : Int)) = true := by simp [hl]
   simp -dsimp -implicitDefEqProofs only [hl',m84,sF84,ZA,↓reduceIte,ZB,ZC,ZJ,ZK,ZE,ZF,ZG,ZH,ZI,reduceCtorEq,ZD,mwV,↓mwD,mwU]
   refine mwpB_loop (fun e ds w' => ∃ k : Nat, k ≤ A.length ∧ e 17 = .int .i64 k ∧ e 16 = .int .i64 A.length ∧ e 15 = .slice q A.length cap ∧ e 1 = .slice q' B.length cap' ∧ e 2 = .func (.func 85) #[] #[] ∧ ds = [] ∧ Ext w w' ∧ eqFs A B = eqFs (A.drop k) (B.drop k))
    (fun e _ => A.length - (intOf (e 17)).toNat) ?_ ?_
   · simp -dsimp -implicitDefEqProofs only [hl',m84,sF84,ZA,↓reduceIte,ZB,ZC,ZJ,ZK,ZE,ZF,ZG,ZH,ZI,reduceCtorEq,ZD,mwV,↓mwD,mwU]
     exact ⟨0, by omega, rfl, Ext.refl _, rfl⟩
   · rintro e ds w' ⟨k, hk, h17, h16, h15, h1, h2, rfl, hx, heq⟩
     simp -dsimp -implicitDefEqProofs only [h17,h16,h15,h1,h2,m84,sF84,ZA,↓reduceIte,ZB,ZC,ZJ,ZK,ZE,ZF,ZG,ZH,ZI,reduceCtorEq,ZD,mwV,↓mwD,mwU]
     refine iteW_dec (fun hlt => ?_) (fun hge => ?_)
     · have hlx : k < A.length := by omega
       have hly : k < B.length := by omega
       obtain ⟨b, o, rfl, hfs⟩ := (hA.ext hx).at (by intro h0; rw [h0] at hlx; simp at hlx)
       obtain ⟨b', o', rfl, hfs'⟩ := (hB.ext hx).at (by intro h0; rw [h0] at hly; simp at hly)
       obtain ⟨s, q0, q1, q2, q3, hs⟩ := hfs.get hlx
       obtain ⟨s', r0, r1, r2, r3, hs'⟩ := hfs'.get hly
       obtain ⟨ps, cs, rfl, _, _⟩ := hs.shape
       obtain ⟨ps', cs', rfl, _, _⟩ := hs'.shape
       have hb1 : (0 : Int) ≤ k ∧ (k : Int) < A.length := by omega
       have hb2 : (0 : Int) ≤ k ∧ (k : Int) < B.length := by omega
       have hw := w64_succ hlx (Nat.le_trans hc1 hc2)
       rw [eqFs_drop hlx hly] at heq
       have x1 : Ext w' (w'.alloc (.cells #[.int .i64 A[k].key, .int .i64 A[k].c.k, .int .i64 A[k].c.d, .slice ps A[k].c.L.length cs] 72)) := Ext.alloc _ _
       have r0' := x1.cell r0
       have r1' := x1.cell r1
       have r2' := x1.cell r2
       have r3' := x1.cell r3
       have x2 : Ext (w'.alloc (.cells #[.int .i64 A[k].key, .int .i64 A[k].c.k, .int .i64 A[k].c.d, .slice ps A[k].c.L.length cs] 72)) ((w'.alloc (.cells #[.int .i64 A[k].key, .int .i64 A[k].c.k, .int .i64 A[k].c.d, .slice ps A[k].c.L.length cs] 72)).alloc (.cells #[.int .i64 B[k].key, .int .i64 B[k].c.k, .int .i64 B[k].c.d, .slice ps' B[k].c.L.length cs'] 72)) := Ext.alloc _ _
       have n1 := (Bk.new w' (flVs A[k] (.slice ps A[k].c.L.length cs)) 72).ext x2
       have m0 := n1.get (o := 0) rfl
       have m1 := n1.get (o := 1) rfl
       have m2 := n1.get (o := 2) rfl
       have m3 := n1.get (o := 3) rfl
       simp -dsimp -implicitDefEqProofs only [h17,h16,h15,h1,h2,hb1,hb2,and_self,q0,q1,q2,q3,r0',r1',r2',r3',m0,m1,m2,m3,Nat.mul_comm k 4,hok,m84,sF84,ZA,↓reduceIte,ZB,ZC,ZJ,ZK,ZE,ZF,ZG,ZH,ZI,reduceCtorEq,ZD,mwV,↓mwD,mwU]
       refine (Same1_c A[k] B[k] _ _ _ ((hs.ext x1).ext x2) ((hs'.ext x1).ext x2)).use ?_
       rintro r w3 ⟨rfl, h3⟩
       have hx3 := hx.trans ((x1.trans x2).trans h3)
       rw [← Bool.and_assoc] at heq
       cases he : (decide (A[k].key = B[k].key) && eqCh A[k].c B[k].c)
       · simp -dsimp -implicitDefEqProofs only [m84,sF84,ZA,↓reduceIte,ZB,ZC,ZJ,ZK,ZE,ZF,ZG,ZH,ZI,reduceCtorEq,ZD,mwV,↓mwD,mwU]
         exact ⟨by rw [heq, he]; rfl, hx3⟩
       · simp -dsimp -implicitDefEqProofs only [h17,h16,h15,h1,h2,hw,m84,sF84,ZA,↓reduceIte,ZB,ZC,ZJ,ZK,ZE,ZF,ZG,ZH,ZI,reduceCtorEq,ZD,mwV,↓mwD,mwU]
         refine ⟨⟨k + 1, by omega, rfl, hx3, ?_⟩, by simp only [intOf]; omega⟩
         rw [heq, he]; rfl
     · have hkl : k = A.length := by omega
       subst hkl
       simp -dsimp -implicitDefEqProofs only [h17,h16,h15,h1,h2,m84,sF84,ZA,↓reduceIte,ZB,ZC,ZJ,ZK,ZE,ZF,ZG,ZH,ZI,reduceCtorEq,ZD,mwV,↓mwD,mwU]
       rw [List.drop_length, List.drop_of_length_le (by omega)] at heq
       exact ⟨by rw [heq]; rfl, hx⟩
 · have hl' : decide ((A.length : Int) = (B.length : Int)) = false := by simp; omega
   simp -dsimp -implicitDefEqProofs only [hl',m84,sF84,ZA,↓reduceIte,ZB,ZC,ZJ,ZK,ZE,ZF,ZG,ZH,ZI,reduceCtorEq,ZD,mwV,↓mwD,mwU]
   exact ⟨by rw [eqFs_len hl], Ext.refl _⟩
theorem Same_c (a b : Fm) (sa sb : Value) (w : World) (hA : SlF w sa a.F) (hB : SlF w sb b.F) : Rets ZP 44 #[fmV a sa, fmV b sb] w fun r w' => r = .bool (eqFm a b) ∧ Ext w w' := by
 obtain ⟨pa, ca, rfl, hc1, hc2⟩ := hA.shape
 obtain ⟨pb, cb, rfl, hc3, hc4⟩ := hB.shape
 obtain ⟨W, hW, A, B, hx⟩ : ∃ W, W = (w.alloc (.cells #[.int .i64 a.m, .slice pa a.F.length ca] 24)).alloc (.cells #[.int .i64 b.m, .slice pb b.F.length cb] 24) ∧ Bk W w.heap.size [.int .i64 a.m, .slice pa a.F.length ca] 24 ∧ Bk W (w.heap.size + 1) [.int .i64 b.m, .slice pb b.F.length cb] 24 ∧ Ext w W := by
  refine ⟨_, rfl, (Bk.new w [.int .i64 a.m, .slice pa a.F.length ca] _).ext (Ext.alloc _ _), ?_, (Ext.alloc _ _).trans (Ext.alloc _ _)⟩
  have := Bk.new (w.alloc (.cells #[.int .i64 a.m, .slice pa a.F.length ca] 24)) [.int .i64 b.m, .slice pb b.F.length cb] 24
  rw [World.size_alloc] at this
  exact this
 have A0 := A.get (o := 0) rfl
 have A1 := A.get (o := 1) rfl
 have B0 := B.get (o := 0) rfl
 have B1 := B.get (o := 1) rfl
 refine en44 ?_
 by_cases hm : a.m = b.m
 · have dm : decide (a.m = b.m) = true := by simp [hm]
   simp -dsimp -implicitDefEqProofs only [fmV,World.size_alloc,← hW,A0,A1,B0,B1,dm,m44,sF44,ZA,↓reduceIte,ZB,ZC,ZJ,ZK,ZE,ZF,ZG,ZH,ZI,reduceCtorEq,ZD,mwV,↓mwD,mwU]
   refine (EqualF_c _ _ a.F b.F W (hA.ext hx) (hB.ext hx)).use ?_
   rintro r w2 ⟨rfl, h2⟩
   simp -dsimp -implicitDefEqProofs only [m44,sF44,ZA,↓reduceIte,ZB,ZC,ZJ,ZK,ZE,ZF,ZG,ZH,ZI,reduceCtorEq,ZD,mwV,↓mwD,mwU]
   exact ⟨by simp [eqFm, hm], hx.trans h2⟩
 · have dm : decide (a.m = b.m) = false := by simp [hm]
   simp -dsimp -implicitDefEqProofs only [fmV,World.size_alloc,← hW,A0,B0,dm,m44,sF44,ZA,↓reduceIte,ZB,ZC,ZJ,ZK,ZE,ZF,ZG,ZH,ZI,reduceCtorEq,ZD,mwV,↓mwD,mwU]
   exact ⟨by simp [eqFm, hm], hx⟩
theorem rsame_c (a b : Ch) (sa sb : Value) (w : World) (ha : SlI w sa a.L) (hb : SlI w sb b.L) : Rets ZP 25 #[chV a sa, chV b sb] w fun r w' => r = .bool (eqCh a b) ∧ Ext w w' := by
 obtain ⟨pa, ca, rfl, hca1, hca2⟩ := ha.shape
 obtain ⟨pb, cb, rfl, hcb1, hcb2⟩ := hb.shape
 obtain ⟨W, hW, BA, BB, hxW⟩ : ∃ W, W = (w.alloc (.cells #[.int .i64 a.k, .int .i64 a.d, .slice pa a.L.length ca] 35)).alloc (.cells #[.int .i64 b.k, .int .i64 b.d, .slice pb b.L.length cb] 35) ∧ Bk W w.heap.size [.int .i64 a.k, .int .i64 a.d, .slice pa a.L.length ca] 35 ∧ Bk W (w.heap.size + 1) [.int .i64 b.k, .int .i64 b.d, .slice pb b.L.length cb] 35 ∧ Ext w W := by
  refine ⟨_, rfl, (Bk.new w _ _).ext (Ext.alloc _ _), ?_, (Ext.alloc _ _).trans (Ext.alloc _ _)⟩
  have := Bk.new (w.alloc (.cells #[.int .i64 a.k, .int .i64 a.d, .slice pa a.L.length ca] 35)) [.int .i64 b.k, .int .i64 b.d, .slice pb b.L.length cb] 35
  rw [World.size_alloc] at this
  exact this
 have A0 := BA.get (o := 0) rfl
 have A1 := BA.get (o := 1) rfl
 have A2 := BA.get (o := 2) rfl
 have B0 := BB.get (o := 0) rfl
 have B1 := BB.get (o := 1) rfl
 have B2 := BB.get (o := 2) rfl
 refine en25 ?_
 by_cases hk : ¬ a.k = b.k
 · have dk : decide (a.k = b.k) = false := by simp [hk]
   simp -dsimp -implicitDefEqProofs only [chV,World.size_alloc,← hW,A0,A1,A2,B0,B1,B2,dk,m25,sF25,ZA,↓reduceIte,ZB,ZC,ZJ,ZK,ZE,ZF,ZG,ZH,ZI,reduceCtorEq,ZD,mwV,↓mwD,mwU]
   exact ⟨by simp [eqCh, hk], hxW⟩
 replace hk := Decidable.not_not.1 hk
 have dk : decide (a.k = b.k) = true := by simp [hk]
 by_cases hd : ¬ a.d = b.d
 · have dd : decide (a.d = b.d) = false := by simp [hd]
   simp -dsimp -implicitDefEqProofs only [chV,World.size_alloc,← hW,A0,A1,A2,B0,B1,B2,dk,dd,m25,sF25,ZA,↓reduceIte,ZB,ZC,ZJ,ZK,ZE,ZF,ZG,ZH,ZI,reduceCtorEq,ZD,mwV,↓mwD,mwU]
   exact ⟨by simp [eqCh, hd], hxW⟩
 replace hd := Decidable.not_not.1 hd
 have dd : decide (a.d = b.d) = true := by simp [hd]
 by_cases hl : ¬ a.L.length = b.L.length
 · have dl : decide ((a.L.length : Int) = (b.L.length : Int)) = false := by simp; omega
   simp -dsimp -implicitDefEqProofs only [chV,World.size_alloc,← hW,A0,A1,A2,B0,B1,B2,dk,dd,dl,m25,sF25,ZA,↓reduceIte,ZB,ZC,ZJ,ZK,ZE,ZF,ZG,ZH,ZI,reduceCtorEq,ZD,mwV,↓mwD,mwU]
   exact ⟨by have : ¬ a.L = b.L := fun h => hl (by rw [h])
             simp [eqCh, this], hxW⟩
 replace hl := Decidable.not_not.1 hl
 have dl : decide ((a.L.length : Int) = (b.L.length : Int)) = true := by simp [hl]
 have hv : eqCh a b = decide (a.L = b.L) := by simp [eqCh, hk, hd]
 rw [hv]
 simp -dsimp -implicitDefEqProofs only [chV,World.size_alloc,← hW,A0,A1,A2,B0,B1,B2,dk,dd,dl,m25,sF25,ZA,↓reduceIte,ZB,ZC,ZJ,ZK,ZE,ZF,ZG,ZH,ZI,reduceCtorEq,ZD,mwV,↓mwD,mwU]
 refine mwpB_loop (fun e ds w' => ∃ i : Nat, i ≤ a.L.length ∧ e 5 = .int .i64 i ∧ e 2 = .pointer (some ⟨w.heap.size, 0, none⟩) ∧ e 3 = .pointer (some ⟨w.heap.size + 1, 0, none⟩) ∧ ds = [] ∧ Ext W w' ∧ (a.L = b.L ↔ a.L.drop i = b.L.drop i)) (fun e _ => a.L.length - (intOf (e 5)).toNat) ?_ ?_
 · simp -dsimp -implicitDefEqProofs only [World.size_alloc,m25,sF25,ZA,↓reduceIte,ZB,ZC,ZJ,ZK,ZE,ZF,ZG,ZH,ZI,reduceCtorEq,ZD,mwV,↓mwD,mwU]
   exact ⟨0, by omega, rfl, Ext.refl _, Iff.rfl⟩
 · rintro e ds w1 ⟨i, hi, h5, h2, h3, rfl, hx, hiff⟩
   have a2 := (BA.ext hx).get (o := 2) rfl
   have b2 := (BB.ext hx).get (o := 2) rfl
   by_cases hlt : i < a.L.length
   · have hlt' : (i : Int) < (a.L.length : Int) := by omega
     have hltb : i < b.L.length := by omega
     obtain ⟨ba, oa, c1, hv1, _, _, hcA⟩ := ha.at (by intro h0; rw [h0] at hlt; simp at hlt)
     obtain ⟨bb, ob, c2, hv2, _, _, hcB⟩ := hb.at (by intro h0; rw [h0] at hltb; simp at hltb)
     simp only [Value.slice.injEq] at hv1 hv2
     obtain ⟨rfl, _, rfl⟩ := hv1
     obtain ⟨rfl, _, rfl⟩ := hv2
     have q1 := (hxW.trans hx).cell (hcA i hlt)
     have q2 := (hxW.trans hx).cell (hcB i hltb)
     have hb1 : (0 : Int) ≤ i ∧ (i : Int) < a.L.length := by omega
     have hb2 : (0 : Int) ≤ i ∧ (i : Int) < b.L.length := by omega
     have hw := w64_succ hlt (Nat.le_trans hca1 hca2)
     rw [drop_eq_iff hlt hltb] at hiff
     simp -dsimp -implicitDefEqProofs only [h5,h2,h3,a2,b2,hlt',m25,sF25,ZA,↓reduceIte,ZB,ZC,ZJ,ZK,ZE,ZF,ZG,ZH,ZI,reduceCtorEq,ZD,mwV,↓mwD,mwU]
     refine mwpB_drawE ?_
     have hxd := hx.trans (Ext.drew w1)
     by_cases he : a.L[i] = b.L[i]
     · have de : decide (a.L[i] = b.L[i]) = true := by simp [he]
       simp -dsimp -implicitDefEqProofs only [h5,h2,h3,a2,b2,hb1,hb2,and_self,q1,q2,de,hw,m25,sF25,ZA,↓reduceIte,ZB,ZC,ZJ,ZK,ZE,ZF,ZG,ZH,ZI,reduceCtorEq,ZD,mwV,↓mwD,mwU]
       exact ⟨⟨i + 1, by omega, rfl, hxd, hiff.trans ⟨fun h => h.2, fun h => ⟨he, h⟩⟩⟩, by simp only [intOf]; omega⟩
     · have de : decide (a.L[i] = b.L[i]) = false := by simp [he]
       simp -dsimp -implicitDefEqProofs only [h5,h2,h3,a2,b2,hb1,hb2,and_self,q1,q2,de,m25,sF25,ZA,↓reduceIte,ZB,ZC,ZJ,ZK,ZE,ZF,ZG,ZH,ZI,reduceCtorEq,ZD,mwV,↓mwD,mwU]
       exact ⟨by have : ¬ a.L = b.L := fun h => he (hiff.1 h).1
                 simp [this], hxW.trans hxd⟩
   · have hlt' : ¬ (i : Int) < (a.L.length : Int) := by omega
     simp -dsimp -implicitDefEqProofs only [h5,h2,h3,a2,b2,hlt',m25,sF25,ZA,↓reduceIte,ZB,ZC,ZJ,ZK,ZE,ZF,ZG,ZH,ZI,reduceCtorEq,ZD,mwV,↓mwD,mwU]
     rw [List.drop_of_length_le (by omega), List.drop_of_length_le (by omega)] at hiff
     exact ⟨by simp [hiff], hxW.trans hx⟩
theorem refSame_c (a b : Fm) (sa sb : Value) (w : World) (hA : SlF w sa a.F) (hB : SlF w sb b.F) : Rets ZP 15 #[fmV a sa, fmV b sb] w fun r w' => r = .bool (eqFm a b) ∧ Ext w w' := by
 obtain ⟨pa, ca, rfl, hc1, hc2⟩ := hA.shape
 obtain ⟨pb, cb, rfl, hc3, hc4⟩ := hB.shape
 obtain ⟨W, hW, A, B, hx⟩ : ∃ W, W = (w.alloc (.cells #[.int .i64 a.m, .slice pa a.F.length ca] 24)).alloc (.cells #[.int .i64 b.m, .slice pb b.F.length cb] 24) ∧ Bk W w.heap.size [.int .i64 a.m, .slice pa a.F.length ca] 24 ∧ Bk W (w.heap.size + 1) [.int .i64 b.m, .slice pb b.F.length cb] 24 ∧ Ext w W := by
  refine ⟨_, rfl, (Bk.new w [.int .i64 a.m, .slice pa a.F.length ca] _).ext (Ext.alloc _ _), ?_, (Ext.alloc _ _).trans (Ext.alloc _ _)⟩
  have := Bk.new (w.alloc (.cells #[.int .i64 a.m, .slice pa a.F.length ca] 24)) [.int .i64 b.m, .slice pb b.F.length cb] 24
  rw [World.size_alloc] at this
  exact this
 have A0 := A.get (o := 0) rfl
 have A1 := A.get (o := 1) rfl
 have B0 := B.get (o := 0) rfl
 have B1 := B.get (o := 1) rfl
 refine en15 ?_
 by_cases hm : ¬ a.m = b.m
 · have dm : decide (a.m = b.m) = false := by simp [hm]
   simp -dsimp -implicitDefEqProofs only [fmV,World.size_alloc,← hW,A0,A1,B0,B1,dm,m15,sF15,ZA,↓reduceIte,ZB,ZC,ZJ,ZK,ZE,ZF,ZG,ZH,ZI,reduceCtorEq,ZD,mwV,↓mwD,mwU]
   exact ⟨by simp [eqFm, hm], hx⟩
 replace hm := Decidable.not_not.1 hm
 have dm : decide (a.m = b.m) = true := by simp [hm]
 by_cases hl : ¬ a.F.length = b.F.length
 · have dl : decide ((a.F.length : Int) = (b.F.length : Int)) = false := by simp; omega
   simp -dsimp -implicitDefEqProofs only [fmV,World.size_alloc,← hW,A0,A1,B0,B1,dm,dl,m15,sF15,ZA,↓reduceIte,ZB,ZC,ZJ,ZK,ZE,ZF,ZG,ZH,ZI,reduceCtorEq,ZD,mwV,↓mwD,mwU]
   exact ⟨by simp [eqFm, eqFs_len hl], hx⟩
 replace hl := Decidable.not_not.1 hl
 have dl : decide ((a.F.length : Int) = (b.F.length : Int)) = true := by simp [hl]
 have hv : eqFm a b = eqFs a.F b.F := by simp [eqFm, hm]
 rw [hv]
 simp -dsimp -implicitDefEqProofs only [fmV,World.size_alloc,← hW,A0,A1,B0,B1,dm,dl,m15,sF15,ZA,↓reduceIte,ZB,ZC,ZJ,ZK,ZE,ZF,ZG,ZH,ZI,reduceCtorEq,ZD,mwV,↓mwD,mwU]
 refine mwpB_loop (fun e ds w' => ∃ i : Nat, i ≤ a.F.length ∧ e 5 = .int .i64 i ∧ e 2 = .pointer (some ⟨w.heap.size, 0, none⟩) ∧ e 3 = .pointer (some ⟨w.heap.size + 1, 0, none⟩) ∧ ds = [] ∧ Ext W w' ∧ eqFs a.F b.F = eqFs (a.F.drop i) (b.F.drop i)) (fun e _ => a.F.length - (intOf (e 5)).toNat) ?_ ?_
 · simp -dsimp -implicitDefEqProofs only [World.size_alloc,m15,sF15,ZA,↓reduceIte,ZB,ZC,ZJ,ZK,ZE,ZF,ZG,ZH,ZI,reduceCtorEq,ZD,mwV,↓mwD,mwU]
   exact ⟨0, by omega, rfl, Ext.refl _, rfl⟩
 · rintro e ds w1 ⟨i, hi, h5, h2, h3, rfl, hxx, heq⟩
   have a1 := (A.ext hxx).get (o := 1) rfl
   have b1 := (B.ext hxx).get (o := 1) rfl
   by_cases hlt : i < a.F.length
   · have hlt' : (i : Int) < (a.F.length : Int) := by omega
     have hltb : i < b.F.length := by omega
     have hx1 := hx.trans hxx
     obtain ⟨ba, oa, rfl, hfs⟩ := (hA.ext hx1).at (by intro h0; rw [h0] at hlt; simp at hlt)
     obtain ⟨bb, ob, rfl, hfs'⟩ := (hB.ext hx1).at (by intro h0; rw [h0] at hltb; simp at hltb)
     obtain ⟨s, q0, q1, q2, q3, hs⟩ := hfs.get hlt
     obtain ⟨s', r0, r1, r2, r3, hs'⟩ := hfs'.get hltb
     obtain ⟨ps, cs, rfl, _, _⟩ := hs.shape
     obtain ⟨ps', cs', rfl, _, _⟩ := hs'.shape
     have hb1 : (0 : Int) ≤ i ∧ (i : Int) < a.F.length := by omega
     have hb2 : (0 : Int) ≤ i ∧ (i : Int) < b.F.length := by omega
     have hw := w64_succ hlt (Nat.le_trans hc1 hc2)
     rw [eqFs_drop hlt hltb] at heq
     simp -dsimp -implicitDefEqProofs only [h5,h2,h3,a1,b1,hlt',m15,sF15,ZA,↓reduceIte,ZB,ZC,ZJ,ZK,ZE,ZF,ZG,ZH,ZI,reduceCtorEq,ZD,mwV,↓mwD,mwU]
     refine mwpB_drawE ?_
     have hxd := hxx.trans (Ext.drew w1)
     by_cases he : a.F[i].key = b.F[i].key
     · have de : decide (a.F[i].key = b.F[i].key) = true := by simp [he]
       simp -dsimp -implicitDefEqProofs only [h5,h2,h3,a1,b1,hb1,hb2,and_self,q0,q1,q2,q3,r0,r1,r2,r3,de,Nat.mul_comm i 4,m15,sF15,ZA,↓reduceIte,ZB,ZC,ZJ,ZK,ZE,ZF,ZG,ZH,ZI,reduceCtorEq,ZD,mwV,↓mwD,mwU]
       refine (rsame_c a.F[i].c b.F[i].c _ _ _ (hs.ext (Ext.drew _)) (hs'.ext (Ext.drew _))).use ?_
       rintro r w3 ⟨rfl, h4⟩
       cases hc : eqCh a.F[i].c b.F[i].c
       · simp -dsimp -implicitDefEqProofs only [h4,m15,sF15,ZA,↓reduceIte,ZB,ZC,ZJ,ZK,ZE,ZF,ZG,ZH,ZI,reduceCtorEq,ZD,mwV,↓mwD,mwU]
         exact ⟨by rw [heq, hc]; simp, hx.trans (hxd.trans h4)⟩
       · simp -dsimp -implicitDefEqProofs only [h4,h5,h2,h3,hw,m15,sF15,ZA,↓reduceIte,ZB,ZC,ZJ,ZK,ZE,ZF,ZG,ZH,ZI,reduceCtorEq,ZD,mwV,↓mwD,mwU]
         exact ⟨⟨i + 1, by omega, rfl, hxd.trans h4, by rw [heq, hc, de]; rfl⟩, by simp only [intOf]; omega⟩
     · have de : decide (a.F[i].key = b.F[i].key) = false := by simp [he]
       simp -dsimp -implicitDefEqProofs only [h5,h2,h3,a1,b1,hb1,hb2,and_self,q0,q1,q2,q3,r0,r1,r2,r3,de,Nat.mul_comm i 4,m15,sF15,ZA,↓reduceIte,ZB,ZC,ZJ,ZK,ZE,ZF,ZG,ZH,ZI,reduceCtorEq,ZD,mwV,↓mwD,mwU]
       exact ⟨by rw [heq, de]; rfl, hx.trans hxd⟩
   · have hlt' : ¬ (i : Int) < (a.F.length : Int) := by omega
     simp -dsimp -implicitDefEqProofs only [h5,h2,h3,a1,b1,hlt',m15,sF15,ZA,↓reduceIte,ZB,ZC,ZJ,ZK,ZE,ZF,ZG,ZH,ZI,reduceCtorEq,ZD,mwV,↓mwD,mwU]
     rw [List.drop_of_length_le (by omega), List.drop_of_length_le (by omega)] at heq
     exact ⟨by rw [heq]; rfl, hx.trans hxx⟩
end Go.Proofs.YthcdnjbhhaonhaaGreatDoor
/- Layer 02: Fix, of the program and of the reference. -/
namespace Go.Proofs.YthcdnjbhhaonhaaGreatDoor
open Go.RowKit
open Nat renaming reduceEqDiff → ZA, reduceAdd → ZB, reduceMul → ZC, reduceSub → ZD
open Int renaming reduceToNat → ZE, reduceEq → ZF, reduceLT → ZG, reduceLE → ZH, reduceNeg → ZI
open Go.Value renaming oneCell' → ZK, cells → ZJ
open Go.Proofs.Tryz renaming prog → ZP
set_option linter.unusedSimpArgs false
theorem OwnF.push {w0 u u1 u2 : World} {b4 : Nat} {m v s v2 : Value} {acc : List (Fl × Value)} {f : Fl} (hext : Ext w0 u) (k4 : Bk u b4 [m, v] 24) (h : OwnF u w0.heap.size v acc) (hx : Ext u u1) (h4 : w0.heap.size ≤ b4) (hs : u1.ownsRow w0.heap.size 3 1 s f.c.L.length (ints f.c.L))
 (hown : u2.ownsRow w0.heap.size 72 4 v2 (acc ++ [(f, s)]).length (rowsF (acc ++ [(f, s)]))) (hg : (u1.alloc (.cells #[.int .i64 f.key, .int .i64 f.c.k, .int .i64 f.c.d, s] 72)).grownBy u2 v.ownBlock) :
 Ext w0 u2 ∧ Bk u2 b4 [m, v] 24 ∧ Bk (u2.setCell ⟨b4, 1, none⟩ v2) b4 [m, v2] 24 ∧ OwnF (u2.setCell ⟨b4, 1, none⟩ v2) w0.heap.size v2 (acc ++ [(f, s)]) ∧ Ext w0 (u2.setCell ⟨b4, 1, none⟩ v2) ∧
  ∀ k, k < u.heap.size → k ≠ b4 → Odd u k → (u2.setCell ⟨b4, 1, none⟩ v2).heap[k]? = u.heap[k]? := by
 have hx1 : Ext u (u1.alloc (.cells #[.int .i64 f.key, .int .i64 f.c.k, .int .i64 f.c.d, s] 72)) := hx.trans (Ext.alloc _ _)
 have rowO : ∀ k, v.ownBlock = some k → ∃ cur, u.heap[k]? = some (Obj.cells cur 72) := fun k hk => by
  rcases h.1.2 with ⟨hv, _⟩ | ⟨g, cap, cur, hv, _, hh, _⟩
  · rw [hv] at hk; cases hk
  · rw [hv] at hk; simp only [Value.ownBlock,Option.some.injEq] at hk; subst hk; exact ⟨cur, hh⟩
 have keep2 : ∀ k, k < u.heap.size → (∀ cur, u.heap[k]? ≠ some (Obj.cells cur 72)) → u2.heap[k]? = u.heap[k]? := fun k hk hn => by
  rw [hg.block k (Nat.lt_of_lt_of_le hk hx1.size) (fun e => by obtain ⟨cur, hc⟩ := rowO k e.symm; exact hn cur hc), hx1.block k hk]
 have odd2 : ∀ k, Odd u k → ∀ cur, u.heap[k]? ≠ some (Obj.cells cur 72) := fun k ho cur hc => (ho cur _ hc).1 rfl
 have k42 : Bk u2 b4 [m, v] 24 := by
  unfold Bk; rw [keep2 b4 k4.lt (odd2 _ (k4.odd (by decide) (by decide)))]; exact k4
 have listK : ∀ {k : Nat} {cur : Array Value}, u1.heap[k]? = some (Obj.cells cur 3) → (u2.setCell ⟨b4, 1, none⟩ v2).heap[k]? = u1.heap[k]? := fun {k cur} hk => by
  have hkl := (Array.getElem?_eq_some_iff.1 hk).1
  have hkb : k ≠ b4 := fun e => by
   have := k4.ext hx
   unfold Bk at this
   rw [← e, hk] at this
   simp at this
  rw [Below.heap_setCell _ _ _ _ hkb, hg.block k (by rw [World.size_alloc]; omega) (fun e => ?_), Below.heap_alloc _ _ _ hkl]
  obtain ⟨cur', hc⟩ := rowO k e.symm
  have hku := (Array.getElem?_eq_some_iff.1 hc).1
  rw [hx.block k hku, hc] at hk
  simp at hk
 have hx2 : Ext w0 u2 := ((hext.trans hx).trans (Ext.alloc _ _)).grown hg (fun k hk => (World.ownsRow.lt h.1 k hk).1)
 refine ⟨hx2, k42, k42.set 1 v2, ⟨Own.off hown (own_ne hown k42 (by decide)), fun p hp => ?_⟩, hx2.setCell h4 _, fun k hk hk4 ho => ?_⟩
 · rcases List.mem_append.1 hp with hp | hp
   · exact Own.ch (Own.ext (h.2 p hp) hx) fun k cur hk => listK hk
   · simp only [List.mem_singleton] at hp
     subst hp
     exact Own.ch hs fun k cur hk => listK hk
 · rw [Below.heap_setCell _ _ _ _ hk4]; exact keep2 k hk (odd2 k ho)
theorem box_fm (w : World) (cs : List Value) (t : TypeId) (ds : List Value) (t' : TypeId) : ∃ W, W = (w.alloc (.cells cs.toArray t)).alloc (.cells ds.toArray t') ∧ Bk W w.heap.size cs t ∧ Bk W (w.heap.size + 1) ds t' ∧ Ext w W := by
 refine ⟨_, rfl, (Bk.new w cs t).ext (Ext.alloc _ _), ?_, (Ext.alloc _ _).trans (Ext.alloc _ _)⟩
 have := Bk.new (w.alloc (.cells cs.toArray t)) ds t'
 rw [World.size_alloc] at this
 exact this
def fixF (f : Fl) : Fl := ⟨f.key, ⟨1, f.c.d, [f.c.d]⟩⟩
theorem bv_fm1 (m : Int) : buildV ZP 24 [(0, .int .i64 m)] = some (.agg #[.int .i64 m, .slice none 0 0]) := by kernel_rfl
theorem bv_fix (d : Int) (q : Option Addr) (n c : Nat) : buildV ZP 35 [(0, .int .i64 1), (1, .int .i64 d), (2, .slice q n c)] = some (.agg #[.int .i64 1, .int .i64 d, .slice q n c]) := by kernel_rfl
theorem one_int (u : World) (base : Nat) (d : Int) (hb : base ≤ u.heap.size) : (u.alloc (.cells #[.int .i64 d] 3)).ownsRow base 3 1 (.slice (some ⟨u.heap.size, 0, none⟩) 1 1) 1 (ints [d]) := own_new u (ints [d]) 3 base 1 1 rfl hb (by unfold maxLen; omega)
theorem fix_row (w : World) (cs : List Value) (d : Int) (base : Nat) (hb : base ≤ w.heap.size) : ∃ U3, U3 = ((w.alloc (.cells cs.toArray 72)).alloc (.cells #[.int .i64 d] 3)).alloc (.cells #[.int .i64 1, .int .i64 d, .slice (some ⟨w.heap.size + 1, 0, none⟩) 1 1] 35) ∧ Bk U3 w.heap.size cs 72 ∧
 U3.ownsRow base 3 1 (.slice (some ⟨w.heap.size + 1, 0, none⟩) 1 1) 1 (ints [d]) ∧ Bk U3 (w.heap.size + 1 + 1) [.int .i64 1, .int .i64 d, .slice (some ⟨w.heap.size + 1, 0, none⟩) 1 1] 35 ∧ Ext w U3 := by
 refine ⟨_, rfl, ((Bk.new w cs _).ext (Ext.alloc _ _)).ext (Ext.alloc _ _), ?_, ?_, ((Ext.alloc _ _).trans (Ext.alloc _ _)).trans (Ext.alloc _ _)⟩
 · have := one_int (w.alloc (.cells cs.toArray 72)) base d (by rw [World.size_alloc]; omega)
   rw [World.size_alloc] at this
   exact Own.ext this (Ext.alloc _ _)
 · have := Bk.new ((w.alloc (.cells cs.toArray 72)).alloc (.cells #[.int .i64 d] 3)) [.int .i64 1, .int .i64 d, .slice (some ⟨w.heap.size + 1, 0, none⟩) 1 1] 35
   rw [World.size_alloc, World.size_alloc] at this
   exact this
def FixQ (f : Fm) (w : World) (r : Value) (w' : World) : Prop := Ext w w' ∧ ∃ s acc, r = fmV ⟨f.m, f.F.map fixF⟩ s ∧ acc.map (·.1) = f.F.map fixF ∧ OwnF w' w.heap.size s acc
theorem fix_c (f : Fm) (s : Value) (w : World) (hs : SlF w s f.F) (hlen : f.F.length ≤ 1000) : Rets ZP 77 #[fmV f s] w (FixQ f w) := by
 obtain ⟨p, cap, rfl, hc1, hc2⟩ := hs.shape
 obtain ⟨W, hW, A, B, hx⟩ := box_fm w [.int .i64 f.m, .slice p f.F.length cap] 24 [.int .i64 0, .slice none 0 0] 24
 have hsz : W.heap.size = w.heap.size + 2 := by rw [hW]; simp only [World.size_alloc]
 refine en77 ?_
 refine mwpB_cut 1 (fun e ds w' => e 1 = .pointer (some ⟨w.heap.size, 0, none⟩) ∧ e 2 = .pointer (some ⟨w.heap.size + 1, 0, none⟩) ∧ ds = [] ∧ w' = W) ?_ ?_
 · simp -dsimp -implicitDefEqProofs only [fmV,headM_zero,headM_seq,World.size_alloc,hW,m77,sF77,ZA,↓reduceIte,ZB,ZC,ZJ,ZK,ZE,ZF,ZG,ZH,ZI,reduceCtorEq,ZD,mwV,↓mwD,mwU]
 rintro e ds w0 ⟨k1, k2, rfl, rfl⟩
 clear hW
 have A0 := A.get (o := 0) rfl
 have A1 := A.get (o := 1) rfl
 have x3 : Ext w0 (w0.alloc (.cells #[.int .i64 f.m, .slice none 0 0] 24)) := Ext.alloc _ _
 have C := Bk.new w0 [.int .i64 f.m, .slice none 0 0] 24
 have A1' := x3.cell A1
 simp -dsimp -implicitDefEqProofs only [tailM_zero,tailM_seq,k1,k2,A0,bv_fm1,setCell_new,A1',m77,sF77,ZA,↓reduceIte,ZB,ZC,ZJ,ZK,ZE,ZF,ZG,ZH,ZI,reduceCtorEq,ZD,mwV,↓mwD,mwU]
 replace A := A.ext x3
 replace B := B.ext x3
 have hx3 := hx.trans x3
 have hsz3 : (w0.alloc (.cells #[.int .i64 f.m, .slice none 0 0] 24)).heap.size = w0.heap.size + 1 := World.size_alloc _ _
 generalize hW1 : w0.alloc _ = W1 at *
 have hC : Bk W1 w0.heap.size [.int .i64 f.m, .slice none 0 0] 24 := C
 refine mwpB_loop (fun e ds w' => ∃ (k : Nat) (acc : List (Fl × Value)) (v : Value), k ≤ f.F.length ∧ e 13 = .int .i64 k ∧ e 12 = .int .i64 f.F.length ∧ e 11 = .slice p f.F.length cap ∧ e 2 = .pointer (some ⟨w.heap.size + 1, 0, none⟩) ∧ e 3 = .pointer (some ⟨w0.heap.size, 0, none⟩) ∧ ds = [] ∧
  Ext w w' ∧ Bk w' (w.heap.size + 1) [.int .i64 0, .slice none 0 0] 24 ∧ Bk w' w0.heap.size [.int .i64 f.m, v] 24 ∧ OwnF w' w.heap.size v acc ∧ acc.map (·.1) = (f.F.take k).map fixF)
  (fun e _ => f.F.length - (intOf (e 13)).toNat) ?_ ?_
 · simp -dsimp -implicitDefEqProofs only [k2,m77,sF77,ZA,↓reduceIte,ZB,ZC,ZJ,ZK,ZE,ZF,ZG,ZH,ZI,reduceCtorEq,ZD,mwV,↓mwD,mwU]
   exact ⟨0, [], _, by omega, rfl, hx3, B, hC, ⟨World.ownsRow_nil _ _ _ _, fun p hp => by cases hp⟩, rfl⟩
 · rintro e ds w' ⟨k, acc, v, hk, h13, h12, h11, h2, h3, rfl, hxw, kB, kC, hown, hacc⟩
   simp -dsimp -implicitDefEqProofs only [h13,h12,h11,h2,h3,m77,sF77,ZA,↓reduceIte,ZB,ZC,ZJ,ZK,ZE,ZF,ZG,ZH,ZI,reduceCtorEq,ZD,mwV,↓mwD,mwU]
   refine iteW_dec (fun hlt => ?_) (fun hge => ?_)
   · have hlt' : k < f.F.length := by omega
     have hal : acc.length = k := by have := congrArg List.length hacc; simp at this; omega
     obtain ⟨b, o, rfl, hfs⟩ := (hs.ext hxw).at (by intro h0; rw [h0] at hlt'; simp at hlt')
     obtain ⟨sk, q0, q1, q2, q3, hsk⟩ := hfs.get hlt'
     obtain ⟨ps, cs, rfl, _, _⟩ := hsk.shape
     have hb1 : (0 : Int) ≤ k ∧ (k : Int) < f.F.length := by omega
     have hw := w64_succ hlt' (Nat.le_trans hc1 hc2)
     obtain ⟨U3, hU3, F0, R1, C2, x3'⟩ := fix_row w' (flVs f.F[k] (.slice ps f.F[k].c.L.length cs)) f.F[k].c.d w.heap.size hxw.size
     have c0 := C2.get (o := 0) rfl
     have c1 := C2.get (o := 1) rfl
     have c2 := C2.get (o := 2) rfl
     have g0 := F0.get (o := 0) rfl
     have v1 := (kC.ext x3').get (o := 1) rfl
     obtain ⟨v2, u2, happ, hown2, hg2⟩ := append_fl (hown.ext x3').1 (fixF f.F[k]) (.slice (some ⟨w'.heap.size + 1, 0, none⟩) 1 1) rfl (by omega) (hxw.trans x3').size
     obtain ⟨p1, p2, p3, p4, p5, p6⟩ := OwnF.push hxw kC hown x3' (by omega) R1 hown2 hg2
     have r1 := p2.get (o := 1) rfl
     have fz := p2.frozen 1
     obtain ⟨qv, nv, cv, rfl⟩ := own_slice hown2
     have bsf := bs_fl (fixF f.F[k]) (.slice (some ⟨w'.heap.size + 1, 0, none⟩) 1 1)
     simp only [fixF] at bsf
     simp -dsimp -implicitDefEqProofs only [h13,h12,h11,h2,h3,hb1,and_self,q0,q1,q2,q3,Nat.mul_comm k 4,bs_one,bv_fix,m77,sF77,ZA,↓reduceIte,ZB,ZC,ZJ,ZK,ZE,ZF,ZG,ZH,ZI,reduceCtorEq,ZD,mwV,↓mwD,mwU]
     simp only [flVs] at hU3
     simp -dsimp -implicitDefEqProofs only [World.size_alloc,← hU3,h3,v1,g0,c0,c1,c2,bv_fl,bsf,m77,sF77,ZA,↓reduceIte,ZB,ZC,ZJ,ZK,ZE,ZF,ZG,ZH,ZI,reduceCtorEq,ZD,mwV,↓mwD,mwU]
     refine appB.mk happ ?_
     simp -dsimp -implicitDefEqProofs only [h13,h12,h11,h2,h3,r1,fz,hw,m77,sF77,ZA,↓reduceIte,ZB,ZC,ZJ,ZK,ZE,ZF,ZG,ZH,ZI,reduceCtorEq,ZD,mwV,↓mwD,mwU]
     refine ⟨⟨k + 1, acc ++ [(fixF f.F[k], .slice (some ⟨w'.heap.size + 1, 0, none⟩) 1 1)], _, by omega, rfl, p5, ?_, p3, p4, ?_⟩, by simp only [intOf]; omega⟩
     · unfold Bk
       rw [p6 _ kB.lt (by omega) (kB.odd (by decide) (by decide))]; exact kB
     · rw [List.map_append, hacc, List.take_succ_eq_append_getElem hlt', List.map_append]; rfl
   · have hkl : k = f.F.length := by omega
     subst hkl
     rw [List.take_length] at hacc
     obtain ⟨qv, nv, cv, rfl⟩ := own_slice hown.1
     have c0 := kC.get (o := 0) rfl
     have c1 := kC.get (o := 1) rfl
     have b0 := kB.get (o := 0) rfl
     have d1 := kB.set 0 (.int .i64 f.m)
     have b1 := d1.get (o := 1) rfl
     have d2 := d1.set 1 (.slice qv nv cv)
     have f0 := kB.frozen 0
     have f1 := d1.frozen 1
     have r0 := d2.get (o := 0) rfl
     have r1 := d2.get (o := 1) rfl
     have hch : ChP (fun j => j = w.heap.size + 1) w' ((w'.setCell ⟨w.heap.size + 1, 0, none⟩ (.int .i64 f.m)).setCell ⟨w.heap.size + 1, 1, none⟩ (.slice qv nv cv)) := ChP.setCell (G := fun k => k = w.heap.size + 1) (ChP.setCell (G := fun k => k = w.heap.size + 1) (ChP.refl _ w') (fun _ => rfl) _) (fun _ => rfl) _
     simp -dsimp -implicitDefEqProofs only [h13,h12,h11,h2,h3,c0,c1,b0,b1,f0,f1,r0,r1,m77,sF77,ZA,↓reduceIte,ZB,ZC,ZJ,ZK,ZE,ZF,ZG,ZH,ZI,reduceCtorEq,ZD,mwV,↓mwD,mwU]
     exact ⟨hch.ext hxw (fun b hb => by subst hb; omega), _, acc, rfl, hacc, hown.ch hch (fun b hb => by subst hb; exact kB.odd (by decide) (by decide))⟩
theorem Fix1_c (f : Fm) (s : Value) (w : World) (hs : SlF w s f.F) (hlen : f.F.length ≤ 1000) : Rets ZP 78 #[fmV f s] w (FixQ f w) := by
 obtain ⟨p, cap, rfl, hc1, hc2⟩ := hs.shape
 obtain ⟨W, hW, A, B, hx⟩ := box_fm w [.int .i64 f.m, .slice p f.F.length cap] 24 [.int .i64 0, .slice none 0 0] 24
 have hsz : W.heap.size = w.heap.size + 2 := by rw [hW]; simp only [World.size_alloc]
 refine en78 ?_
 refine mwpB_cut 1 (fun e ds w' => e 1 = .pointer (some ⟨w.heap.size, 0, none⟩) ∧ e 2 = .pointer (some ⟨w.heap.size + 1, 0, none⟩) ∧ ds = [] ∧ w' = W) ?_ ?_
 · simp -dsimp -implicitDefEqProofs only [fmV,headM_zero,headM_seq,World.size_alloc,hW,m78,sF78,ZA,↓reduceIte,ZB,ZC,ZJ,ZK,ZE,ZF,ZG,ZH,ZI,reduceCtorEq,ZD,mwV,↓mwD,mwU]
 rintro e ds w0 ⟨k1, k2, rfl, rfl⟩
 clear hW
 have A0 := A.get (o := 0) rfl
 have A1 := A.get (o := 1) rfl
 have x3 : Ext w0 (w0.alloc (.cells #[.int .i64 f.m, .slice none 0 0] 24)) := Ext.alloc _ _
 have C := Bk.new w0 [.int .i64 f.m, .slice none 0 0] 24
 have A1' := x3.cell A1
 simp -dsimp -implicitDefEqProofs only [tailM_zero,tailM_seq,k1,k2,A0,bv_fm1,setCell_new,A1',m78,sF78,ZA,↓reduceIte,ZB,ZC,ZJ,ZK,ZE,ZF,ZG,ZH,ZI,reduceCtorEq,ZD,mwV,↓mwD,mwU]
 replace A := A.ext x3
 replace B := B.ext x3
 have hx3 := hx.trans x3
 have hsz3 : (w0.alloc (.cells #[.int .i64 f.m, .slice none 0 0] 24)).heap.size = w0.heap.size + 1 := World.size_alloc _ _
 generalize hW1 : w0.alloc _ = W1 at *
 have hC : Bk W1 w0.heap.size [.int .i64 f.m, .slice none 0 0] 24 := C
 refine mwpB_loop (fun e ds w' => ∃ (k : Nat) (acc : List (Fl × Value)) (v : Value), k ≤ f.F.length ∧ e 4 = .int .i64 k ∧ e 1 = .pointer (some ⟨w.heap.size, 0, none⟩) ∧ e 2 = .pointer (some ⟨w.heap.size + 1, 0, none⟩) ∧ e 3 = .pointer (some ⟨w0.heap.size, 0, none⟩) ∧ ds = [] ∧
  Ext w w' ∧ Bk w' w.heap.size [.int .i64 f.m, .slice p f.F.length cap] 24 ∧ Bk w' (w.heap.size + 1) [.int .i64 0, .slice none 0 0] 24 ∧ Bk w' w0.heap.size [.int .i64 f.m, v] 24 ∧ OwnF w' w.heap.size v acc ∧ acc.map (·.1) = (f.F.take k).map fixF)
  (fun e _ => f.F.length - (intOf (e 4)).toNat) ?_ ?_
 · simp -dsimp -implicitDefEqProofs only [k1,k2,m78,sF78,ZA,↓reduceIte,ZB,ZC,ZJ,ZK,ZE,ZF,ZG,ZH,ZI,reduceCtorEq,ZD,mwV,↓mwD,mwU]
   exact ⟨0, [], _, by omega, rfl, hx3, A, B, hC, ⟨World.ownsRow_nil _ _ _ _, fun p hp => by cases hp⟩, rfl⟩
 · rintro e ds w' ⟨k, acc, v, hk, h4, h1, h2, h3, rfl, hxw, kA, kB, kC, hown, hacc⟩
   have a1 := kA.get (o := 1) rfl
   simp -dsimp -implicitDefEqProofs only [h4,h1,h2,h3,a1,m78,sF78,ZA,↓reduceIte,ZB,ZC,ZJ,ZK,ZE,ZF,ZG,ZH,ZI,reduceCtorEq,ZD,mwV,↓mwD,mwU]
   refine iteW_dec (fun hlt => ?_) (fun hge => ?_)
   · have hlt' : k < f.F.length := by omega
     have hal : acc.length = k := by have := congrArg List.length hacc; simp at this; omega
     obtain ⟨b, o, rfl, hfs0⟩ := hs.at (by intro h0; rw [h0] at hlt'; simp at hlt')
     obtain ⟨sk, q0', _⟩ := hfs0.get hlt'
     have q0 := hxw.cell q0'
     obtain ⟨_, _, _, q2, _⟩ := (hfs0.ext hxw).get hlt'
     have hb1 : (0 : Int) ≤ k ∧ (k : Int) < f.F.length := by omega
     have hw := w64_succ hlt' (Nat.le_trans hc1 hc2)
     have c1 := kC.get (o := 1) rfl
     simp -dsimp -implicitDefEqProofs only [h4,h1,h2,h3,a1,hb1,and_self,q2,Nat.mul_comm k 4,m78,sF78,ZA,↓reduceIte,ZB,ZC,ZJ,ZK,ZE,ZF,ZG,ZH,ZI,reduceCtorEq,ZD,mwV,↓mwD,mwU]
     refine mwpB_draw (fun w'' => w''.cell? ⟨w0.heap.size, 1, none⟩ = some v ∧ w''.cell? ⟨w.heap.size, 1, none⟩ = some (.slice (some ⟨b, o, none⟩) f.F.length cap) ∧ w''.cell? ⟨b, o + 4 * k, none⟩ = some (.int .i64 f.F[k].key)) ⟨c1, a1, q0⟩ ?_
     simp -dsimp -implicitDefEqProofs only [h4,h1,h2,h3,m78,sF78,ZA,↓reduceIte,ZB,ZC,ZJ,ZK,ZE,ZF,ZG,ZH,ZI,reduceCtorEq,ZD,mwV,↓mwD,mwU]
     refine softB_load (v := v) (fun w'' hw' => ?_) ?_
     · simp -dsimp -implicitDefEqProofs only [h3,hw'.1,m78,sF78,ZA,↓reduceIte,ZB,ZC,ZJ,ZK,ZE,ZF,ZG,ZH,ZI,reduceCtorEq,ZD,mwV,↓mwD,mwU]
     simp -dsimp -implicitDefEqProofs only [h4,h1,h2,h3,m78,sF78,ZA,↓reduceIte,ZB,ZC,ZJ,ZK,ZE,ZF,ZG,ZH,ZI,reduceCtorEq,ZD,mwV,↓mwD,mwU]
     refine softB_load (v := .slice (some ⟨b, o, none⟩) f.F.length cap) (fun w'' hw' => ?_) ?_
     · simp -dsimp -implicitDefEqProofs only [h1,hw'.2.1,m78,sF78,ZA,↓reduceIte,ZB,ZC,ZJ,ZK,ZE,ZF,ZG,ZH,ZI,reduceCtorEq,ZD,mwV,↓mwD,mwU]
     simp -dsimp -implicitDefEqProofs only [h4,h1,h2,h3,hb1,and_self,Nat.mul_comm k 4,m78,sF78,ZA,↓reduceIte,ZB,ZC,ZJ,ZK,ZE,ZF,ZG,ZH,ZI,reduceCtorEq,ZD,mwV,↓mwD,mwU]
     refine softB_load (v := .int .i64 f.F[k].key) (fun w'' hw' => ?_) ?_
     · simp -dsimp -implicitDefEqProofs only [hw'.2.2,m78,sF78,ZA,↓reduceIte,ZB,ZC,ZJ,ZK,ZE,ZF,ZG,ZH,ZI,reduceCtorEq,ZD,mwV,↓mwD,mwU]
     have bsf := bs_fl (fixF f.F[k]) (.slice (some ⟨w'.drew.heap.size, 0, none⟩) 1 1)
     simp only [fixF] at bsf
     simp -dsimp -implicitDefEqProofs only [h4,h1,h2,h3,bs_one,bv_fix,bv_fl,bsf,m78,sF78,ZA,↓reduceIte,ZB,ZC,ZJ,ZK,ZE,ZF,ZG,ZH,ZI,reduceCtorEq,ZD,mwV,↓mwD,mwU]
     have R1 := one_int w'.drew w.heap.size f.F[k].c.d hxw.size
     have x3' : Ext w' (w'.drew.alloc (.cells #[.int .i64 f.F[k].c.d] 3)) := (Ext.drew w').trans (Ext.alloc _ _)
     have xr : ∀ (o : Obj), Ext w' ((w'.drew.alloc (.cells #[.int .i64 f.F[k].c.d] 3)).alloc o) := fun o => x3'.trans (Ext.alloc _ _)
     refine ⟨⟨x3'.cell c1, x3'.cell a1, x3'.cell q0⟩, ⟨(xr _).cell c1, (xr _).cell a1, (xr _).cell q0⟩, ?_⟩
     obtain ⟨v2, u2, happ, hown2, hg2⟩ := append_fl (hown.ext x3').1 (fixF f.F[k]) (.slice (some ⟨w'.drew.heap.size, 0, none⟩) 1 1) rfl (by omega) (hxw.trans x3').size
     obtain ⟨p1, p2, p3, p4, p5, p6⟩ := OwnF.push hxw kC hown x3' (by omega) R1 hown2 hg2
     have r1 := p2.get (o := 1) rfl
     have fz := p2.frozen 1
     obtain ⟨qv, nv, cv, rfl⟩ := own_slice hown2
     refine appB.mk happ ?_
     have oddF : ∀ {j : Nat} {cs : List Value}, Bk w' j cs 24 → Odd w' j := fun h => h.odd (by decide) (by decide)
     have a2 : u2.cell? ⟨w.heap.size, 1, none⟩ = some (.slice (some ⟨b, o, none⟩) f.F.length cap) := by
      have := p6 _ kA.lt (by omega) (oddF kA)
      rw [Below.heap_setCell _ _ _ _ (by simp; omega)] at this
      rw [World.cell?_of_block (w := w') this]; exact a1
     refine ⟨⟨r1, a2, p1.cell q0'⟩, ?_⟩
     simp -dsimp -implicitDefEqProofs only [h4,h1,h2,h3,r1,fz,hw,m78,sF78,ZA,↓reduceIte,ZB,ZC,ZJ,ZK,ZE,ZF,ZG,ZH,ZI,reduceCtorEq,ZD,mwV,↓mwD,mwU]
     refine ⟨⟨k + 1, acc ++ [(fixF f.F[k], .slice (some ⟨w'.drew.heap.size, 0, none⟩) 1 1)], _, by omega, rfl, p5, ?_, ?_, p3, p4, ?_⟩, by simp only [intOf]; omega⟩
     · unfold Bk
       rw [p6 _ kA.lt (by omega) (oddF kA)]; exact kA
     · unfold Bk
       rw [p6 _ kB.lt (by omega) (oddF kB)]; exact kB
     · rw [List.map_append, hacc, List.take_succ_eq_append_getElem hlt', List.map_append]; rfl
   · have hkl : k = f.F.length := by omega
     subst hkl
     rw [List.take_length] at hacc
     obtain ⟨qv, nv, cv, rfl⟩ := own_slice hown.1
     have c0 := kC.get (o := 0) rfl
     have c1 := kC.get (o := 1) rfl
     have b0 := kB.get (o := 0) rfl
     have d1 := kB.set 0 (.int .i64 f.m)
     have b1 := d1.get (o := 1) rfl
     have d2 := d1.set 1 (.slice qv nv cv)
     have f0 := kB.frozen 0
     have f1 := d1.frozen 1
     have r0 := d2.get (o := 0) rfl
     have r1 := d2.get (o := 1) rfl
     have hch : ChP (fun j => j = w.heap.size + 1) w' ((w'.setCell ⟨w.heap.size + 1, 0, none⟩ (.int .i64 f.m)).setCell ⟨w.heap.size + 1, 1, none⟩ (.slice qv nv cv)) := ChP.setCell (G := fun k => k = w.heap.size + 1) (ChP.setCell (G := fun k => k = w.heap.size + 1) (ChP.refl _ w') (fun _ => rfl) _) (fun _ => rfl) _
     simp -dsimp -implicitDefEqProofs only [h4,h1,h2,h3,c0,c1,b0,b1,f0,f1,r0,r1,m78,sF78,ZA,↓reduceIte,ZB,ZC,ZJ,ZK,ZE,ZF,ZG,ZH,ZI,reduceCtorEq,ZD,mwV,↓mwD,mwU]
     exact ⟨hch.ext hxw (fun b hb => by subst hb; omega), _, acc, rfl, hacc, hown.ch hch (fun b hb => by subst hb; exact kB.odd (by decide) (by decide))⟩
end Go.Proofs.YthcdnjbhhaonhaaGreatDoor
/- Layer 02: Fix and Fixed, of the program and of the reference. -/
namespace Go.Proofs.YthcdnjbhhaonhaaGreatDoor
open Go.RowKit
open Nat renaming reduceEqDiff → ZA, reduceAdd → ZB, reduceMul → ZC, reduceSub → ZD
open Int renaming reduceToNat → ZE, reduceEq → ZF, reduceLT → ZG, reduceLE → ZH, reduceNeg → ZI
open Go.Value renaming oneCell' → ZK, cells → ZJ
open Go.Proofs.Tryz renaming prog → ZP
set_option linter.unusedSimpArgs false
theorem valid_lenF {f : Fm} (h : f.valid = true) : f.F.length ≤ 1000 := by
 unfold Fm.valid at h
 simp only [Bool.and_eq_true] at h
 rcases fieldsB_len h.1 with h | h
 · rw [h]; simp
 · omega
def FixR (f : Fm) (w : World) (r : Value) (w' : World) : Prop := Ext w w' ∧ if f.valid = true then ∃ s acc, r = .tuple #[fmV ⟨f.m, f.F.map fixF⟩ s, .int .i64 0] ∧ acc.map (·.1) = f.F.map fixF ∧ OwnF w' w.heap.size s acc else r = .tuple #[.agg #[.int .i64 0, .slice none 0 0], .int .i64 1]
theorem Fix_c (f : Fm) (s : Value) (w : World) (hs : SlF w s f.F) : Rets ZP 38 #[fmV f s] w (FixR f w) := by
 obtain ⟨p, cap, rfl, hc1, hc2⟩ := hs.shape
 obtain ⟨W, hW, A, B, hx⟩ := box_fm w [.int .i64 f.m, .slice p f.F.length cap] 24 [.int .i64 0, .slice none 0 0] 24
 have hsz : W.heap.size = w.heap.size + 2 := by rw [hW]; simp only [World.size_alloc]
 refine en38 ?_
 refine mwpB_cut 1 (fun e ds w' => e 1 = .pointer (some ⟨w.heap.size, 0, none⟩) ∧ e 2 = .pointer (some ⟨w.heap.size + 1, 0, none⟩) ∧ ds = [] ∧ w' = W) ?_ ?_
 · simp -dsimp -implicitDefEqProofs only [fmV,headM_zero,headM_seq,World.size_alloc,hW,m38,sF38,ZA,↓reduceIte,ZB,ZC,ZJ,ZK,ZE,ZF,ZG,ZH,ZI,reduceCtorEq,ZD,mwV,↓mwD,mwU]
 rintro e ds w0 ⟨k1, k2, rfl, rfl⟩
 clear hW
 have A0 := A.get (o := 0) rfl
 have A1 := A.get (o := 1) rfl
 simp -dsimp -implicitDefEqProofs only [tailM_zero,tailM_seq,k1,k2,A0,A1,m38,sF38,ZA,↓reduceIte,ZB,ZC,ZJ,ZK,ZE,ZF,ZG,ZH,ZI,reduceCtorEq,ZD,mwV,↓mwD,mwU]
 refine (Valid_c f _ w0 (hs.ext hx)).use ?_
 rintro r w1 ⟨rfl, h1⟩
 have kB := B.ext h1
 cases hv : f.valid
 · have d1 := kB.set 0 (.int .i64 0)
   have d2 := d1.set 1 (.slice none 0 0)
   have b0 := kB.get (o := 0) rfl
   have b1 := d1.get (o := 1) rfl
   have f0 := kB.frozen 0
   have f1 := d1.frozen 1
   have r0 := d2.get (o := 0) rfl
   have r1 := d2.get (o := 1) rfl
   simp -dsimp -implicitDefEqProofs only [k1,k2,bv_fm0,b0,b1,f0,f1,r0,r1,m38,sF38,ZA,↓reduceIte,ZB,ZC,ZJ,ZK,ZE,ZF,ZG,ZH,ZI,reduceCtorEq,ZD,mwV,↓mwD,mwU]
   exact ⟨((hx.trans h1).setCell (by simp) _).setCell (by simp) _, by rw [hv]; simp⟩
 · have A0 := (A.ext h1).get (o := 0) rfl
   have A1 := (A.ext h1).get (o := 1) rfl
   simp -dsimp -implicitDefEqProofs only [k1,k2,A0,A1,m38,sF38,ZA,↓reduceIte,ZB,ZC,ZJ,ZK,ZE,ZF,ZG,ZH,ZI,reduceCtorEq,ZD,mwV,↓mwD,mwU]
   refine (fix_c f _ w1 (hs.ext (hx.trans h1)) (valid_lenF hv)).use ?_
   rintro r w2 ⟨h2, s2, acc, rfl, hacc, hown⟩
   obtain ⟨qv, nv, cv, rfl⟩ := own_slice hown.1
   replace kB := kB.ext h2
   have d1 := kB.set 0 (.int .i64 f.m)
   have d2 := d1.set 1 (.slice qv nv cv)
   have b0 := kB.get (o := 0) rfl
   have b1 := d1.get (o := 1) rfl
   have f0 := kB.frozen 0
   have f1 := d1.frozen 1
   have r0 := d2.get (o := 0) rfl
   have r1 := d2.get (o := 1) rfl
   have hch : ChP (fun j => j = w.heap.size + 1) w2 ((w2.setCell ⟨w.heap.size + 1, 0, none⟩ (.int .i64 f.m)).setCell ⟨w.heap.size + 1, 1, none⟩ (.slice qv nv cv)) := ChP.setCell (G := fun k => k = w.heap.size + 1) (ChP.setCell (G := fun k => k = w.heap.size + 1) (ChP.refl _ w2) (fun _ => rfl) _) (fun _ => rfl) _
   simp -dsimp -implicitDefEqProofs only [k1,k2,fmV,b0,b1,f0,f1,r0,r1,m38,sF38,ZA,↓reduceIte,ZB,ZC,ZJ,ZK,ZE,ZF,ZG,ZH,ZI,reduceCtorEq,ZD,mwV,↓mwD,mwU]
   have hx2 := (hx.trans h1).trans h2
   refine ⟨hch.ext hx2 (fun b hb => by subst hb; omega), ?_⟩
   rw [if_pos hv]
   exact ⟨_, acc, rfl, hacc, (hown.ch hch (fun b hb => by subst hb; exact kB.odd (by decide) (by decide))).mono (hx.trans h1).size⟩
theorem refFix_c (f : Fm) (s : Value) (w : World) (hs : SlF w s f.F) : Rets ZP 39 #[fmV f s] w (FixR f w) := by
 obtain ⟨p, cap, rfl, hc1, hc2⟩ := hs.shape
 obtain ⟨W, hW, A, B, hx⟩ := box_fm w [.int .i64 f.m, .slice p f.F.length cap] 24 [.int .i64 0, .slice none 0 0] 24
 have hsz : W.heap.size = w.heap.size + 2 := by rw [hW]; simp only [World.size_alloc]
 refine en39 ?_
 refine mwpB_cut 1 (fun e ds w' => e 1 = .pointer (some ⟨w.heap.size, 0, none⟩) ∧ e 2 = .pointer (some ⟨w.heap.size + 1, 0, none⟩) ∧ ds = [] ∧ w' = W) ?_ ?_
 · simp -dsimp -implicitDefEqProofs only [fmV,headM_zero,headM_seq,World.size_alloc,hW,m39,sF39,ZA,↓reduceIte,ZB,ZC,ZJ,ZK,ZE,ZF,ZG,ZH,ZI,reduceCtorEq,ZD,mwV,↓mwD,mwU]
 rintro e ds w0 ⟨k1, k2, rfl, rfl⟩
 clear hW
 have A0 := A.get (o := 0) rfl
 have A1 := A.get (o := 1) rfl
 simp -dsimp -implicitDefEqProofs only [tailM_zero,tailM_seq,k1,k2,A0,A1,m39,sF39,ZA,↓reduceIte,ZB,ZC,ZJ,ZK,ZE,ZF,ZG,ZH,ZI,reduceCtorEq,ZD,mwV,↓mwD,mwU]
 refine (refFValid_c f _ w0 (hs.ext hx)).use ?_
 rintro r w1 ⟨rfl, h1⟩
 have kB := B.ext h1
 cases hv : f.valid
 · have d1 := kB.set 0 (.int .i64 0)
   have d2 := d1.set 1 (.slice none 0 0)
   have b0 := kB.get (o := 0) rfl
   have b1 := d1.get (o := 1) rfl
   have f0 := kB.frozen 0
   have f1 := d1.frozen 1
   have r0 := d2.get (o := 0) rfl
   have r1 := d2.get (o := 1) rfl
   simp -dsimp -implicitDefEqProofs only [k1,k2,bv_fm0,b0,b1,f0,f1,r0,r1,m39,sF39,ZA,↓reduceIte,ZB,ZC,ZJ,ZK,ZE,ZF,ZG,ZH,ZI,reduceCtorEq,ZD,mwV,↓mwD,mwU]
   exact ⟨((hx.trans h1).setCell (by simp) _).setCell (by simp) _, by rw [hv]; simp⟩
 · have A0 := (A.ext h1).get (o := 0) rfl
   have A1 := (A.ext h1).get (o := 1) rfl
   simp -dsimp -implicitDefEqProofs only [k1,k2,A0,A1,m39,sF39,ZA,↓reduceIte,ZB,ZC,ZJ,ZK,ZE,ZF,ZG,ZH,ZI,reduceCtorEq,ZD,mwV,↓mwD,mwU]
   refine (Fix1_c f _ w1 (hs.ext (hx.trans h1)) (valid_lenF hv)).use ?_
   rintro r w2 ⟨h2, s2, acc, rfl, hacc, hown⟩
   obtain ⟨qv, nv, cv, rfl⟩ := own_slice hown.1
   replace kB := kB.ext h2
   have d1 := kB.set 0 (.int .i64 f.m)
   have d2 := d1.set 1 (.slice qv nv cv)
   have b0 := kB.get (o := 0) rfl
   have b1 := d1.get (o := 1) rfl
   have f0 := kB.frozen 0
   have f1 := d1.frozen 1
   have r0 := d2.get (o := 0) rfl
   have r1 := d2.get (o := 1) rfl
   have hch : ChP (fun j => j = w.heap.size + 1) w2 ((w2.setCell ⟨w.heap.size + 1, 0, none⟩ (.int .i64 f.m)).setCell ⟨w.heap.size + 1, 1, none⟩ (.slice qv nv cv)) := ChP.setCell (G := fun k => k = w.heap.size + 1) (ChP.setCell (G := fun k => k = w.heap.size + 1) (ChP.refl _ w2) (fun _ => rfl) _) (fun _ => rfl) _
   simp -dsimp -implicitDefEqProofs only [k1,k2,fmV,b0,b1,f0,f1,r0,r1,m39,sF39,ZA,↓reduceIte,ZB,ZC,ZJ,ZK,ZE,ZF,ZG,ZH,ZI,reduceCtorEq,ZD,mwV,↓mwD,mwU]
   have hx2 := (hx.trans h1).trans h2
   refine ⟨hch.ext hx2 (fun b hb => by subst hb; omega), ?_⟩
   rw [if_pos hv]
   exact ⟨_, acc, rfl, hacc, (hown.ch hch (fun b hb => by subst hb; exact kB.odd (by decide) (by decide))).mono (hx.trans h1).size⟩
def fixedB (f : Fm) : Bool := f.F.all fun x => decide (x.c.k = 1)
theorem Fixed1_c (x : Fl) (s : Value) (w : World) : Rets ZP 80 #[flA x s] w fun r w' => r = .bool (!decide (x.c.k = 1)) ∧ Ext w w' := by
 refine en80 ?_
 simp -dsimp -implicitDefEqProofs only [flA,m80,sF80,ZA,↓reduceIte,ZB,ZC,ZJ,ZK,ZE,ZF,ZG,ZH,ZI,reduceCtorEq,ZD,mwV,↓mwD,mwU]
 exact Ext.alloc _ _
theorem IndexFF_c (v : Value) (A : List Fl) (w : World) (hA : SlF w v A) : Rets ZP 112 #[v, .func (.func 80) #[] #[]] w fun r w' => (∃ i : Int, r = .int .i64 i ∧ decide (0 ≤ i) = !(A.all fun x => decide (x.c.k = 1))) ∧ Ext w w' := by
 obtain ⟨q, cap, rfl, hc1, hc2⟩ := hA.shape
 have hok := okF_80
 refine en112 ?_
 simp -dsimp -implicitDefEqProofs only [m112,sF112,ZA,↓reduceIte,ZB,ZC,ZJ,ZK,ZE,ZF,ZG,ZH,ZI,reduceCtorEq,ZD,mwV,↓mwD,mwU]
 refine mwpB_loop (fun e ds w' => ∃ k : Nat, k ≤ A.length ∧ e 8 = .int .i64 k ∧ e 7 = .int .i64 A.length ∧ e 0 = .slice q A.length cap ∧ e 1 = .func (.func 80) #[] #[] ∧ ds = [] ∧ Ext w w' ∧ ((A.take k).all fun x => decide (x.c.k = 1)) = true)
  (fun e _ => A.length - (intOf (e 8)).toNat) ?_ ?_
 · simp -dsimp -implicitDefEqProofs only [m112,sF112,ZA,↓reduceIte,ZB,ZC,ZJ,ZK,ZE,ZF,ZG,ZH,ZI,reduceCtorEq,ZD,mwV,↓mwD,mwU]
   exact ⟨0, by omega, rfl, Ext.refl _, rfl⟩
 · rintro e ds w' ⟨k, hk, h8, h7, h0, h1, rfl, hx, hall⟩
   simp -dsimp -implicitDefEqProofs only [h8,h7,h0,h1,m112,sF112,ZA,↓reduceIte,ZB,ZC,ZJ,ZK,ZE,ZF,ZG,ZH,ZI,reduceCtorEq,ZD,mwV,↓mwD,mwU]
   refine iteW_dec (fun hlt => ?_) (fun hge => ?_)
   · have hlt' : k < A.length := by omega
     obtain ⟨b, o, rfl, hfs⟩ := (hA.ext hx).at (by intro h0; rw [h0] at hlt'; simp at hlt')
     obtain ⟨s, q0, q1, q2, q3, hs⟩ := hfs.get hlt'
     have hb1 : (0 : Int) ≤ k ∧ (k : Int) < A.length := by omega
     have hw := w64_succ hlt' (Nat.le_trans hc1 hc2)
     simp -dsimp -implicitDefEqProofs only [h8,h7,h0,h1,hb1,and_self,q0,q1,q2,q3,Nat.mul_comm k 4,hok,m112,sF112,ZA,↓reduceIte,ZB,ZC,ZJ,ZK,ZE,ZF,ZG,ZH,ZI,reduceCtorEq,ZD,mwV,↓mwD,mwU]
     refine (Fixed1_c A[k] s w').use ?_
     rintro r w2 ⟨rfl, h2⟩
     by_cases hk1 : A[k].c.k = 1
     · have dk : decide (A[k].c.k = 1) = true := by simp [hk1]
       simp -dsimp -implicitDefEqProofs only [h8,h7,h0,h1,dk,hw,m112,sF112,ZA,↓reduceIte,ZB,ZC,ZJ,ZK,ZE,ZF,ZG,ZH,ZI,reduceCtorEq,ZD,mwV,↓mwD,mwU]
       refine ⟨⟨k + 1, by omega, rfl, hx.trans h2, ?_⟩, by simp only [intOf]; omega⟩
       rw [List.take_succ_eq_append_getElem hlt', List.all_append, hall]; simp [hk1]
     · have dk : decide (A[k].c.k = 1) = false := by simp [hk1]
       simp -dsimp -implicitDefEqProofs only [h8,h7,h0,h1,dk,m112,sF112,ZA,↓reduceIte,ZB,ZC,ZJ,ZK,ZE,ZF,ZG,ZH,ZI,reduceCtorEq,ZD,mwV,↓mwD,mwU]
       refine ⟨⟨_, rfl, ?_⟩, hx.trans h2⟩
       have : (A.all fun x => decide (x.c.k = 1)) = false := by
        rw [List.all_eq_false]; exact ⟨A[k], List.getElem_mem hlt', by simp [hk1]⟩
       rw [this]; simp
   · have hkl : k = A.length := by omega
     subst hkl
     simp -dsimp -implicitDefEqProofs only [h8,h7,h0,h1,m112,sF112,ZA,↓reduceIte,ZB,ZC,ZJ,ZK,ZE,ZF,ZG,ZH,ZI,reduceCtorEq,ZD,mwV,↓mwD,mwU]
     refine ⟨⟨_, rfl, ?_⟩, hx⟩
     rw [List.take_length] at hall
     rw [hall]; rfl
theorem Fixed_c (f : Fm) (s : Value) (w : World) (hs : SlF w s f.F) : Rets ZP 36 #[fmV f s] w fun r w' => r = .bool (f.valid && fixedB f) ∧ Ext w w' := by
 have x0 : Ext w (w.alloc (.cells #[.int .i64 f.m, s] 24)) := Ext.alloc _ _
 have A := Bk.new w [.int .i64 f.m, s] 24
 obtain ⟨p, cap, rfl, hc1, hc2⟩ := hs.shape
 refine en36 ?_
 simp -dsimp -implicitDefEqProofs only [fmV,m36,sF36,ZA,↓reduceIte,ZB,ZC,ZJ,ZK,ZE,ZF,ZG,ZH,ZI,reduceCtorEq,ZD,mwV,↓mwD,mwU]
 replace A : Bk (w.alloc (.cells #[.int .i64 f.m, .slice p f.F.length cap] 24)) w.heap.size _ _ := A
 generalize w.alloc _ = W at *
 refine (Valid_c f _ W (hs.ext x0)).use ?_
 rintro r w1 ⟨rfl, h1⟩
 cases hv : f.valid
 · simp -dsimp -implicitDefEqProofs only [m36,sF36,ZA,↓reduceIte,ZB,ZC,ZJ,ZK,ZE,ZF,ZG,ZH,ZI,reduceCtorEq,ZD,mwV,↓mwD,mwU]
   exact ⟨by simp, x0.trans h1⟩
 · have A1 := (A.ext h1).get (o := 1) rfl
   simp -dsimp -implicitDefEqProofs only [A1,m36,sF36,ZA,↓reduceIte,ZB,ZC,ZJ,ZK,ZE,ZF,ZG,ZH,ZI,reduceCtorEq,ZD,mwV,↓mwD,mwU]
   have hcf : Rets ZP 79 #[.slice p f.F.length cap, .func (.func 80) #[] #[]] w1 fun r w' => r = .bool (!fixedB f) ∧ Ext w1 w' := by
    refine en79 ?_
    simp -dsimp -implicitDefEqProofs only [m79,sF79,ZA,↓reduceIte,ZB,ZC,ZJ,ZK,ZE,ZF,ZG,ZH,ZI,reduceCtorEq,ZD,mwV,↓mwD,mwU]
    refine (IndexFF_c _ f.F w1 (hs.ext (x0.trans h1))).use ?_
    rintro r w2 ⟨⟨i, rfl, hi⟩, h2⟩
    simp -dsimp -implicitDefEqProofs only [hi,m79,sF79,ZA,↓reduceIte,ZB,ZC,ZJ,ZK,ZE,ZF,ZG,ZH,ZI,reduceCtorEq,ZD,mwV,↓mwD,mwU]
    exact ⟨rfl, h2⟩
   refine hcf.use ?_
   rintro r w2 ⟨rfl, h2⟩
   simp -dsimp -implicitDefEqProofs only [m36,sF36,ZA,↓reduceIte,ZB,ZC,ZJ,ZK,ZE,ZF,ZG,ZH,ZI,reduceCtorEq,ZD,mwV,↓mwD,mwU]
   exact ⟨by simp, (x0.trans h1).trans h2⟩
theorem refFixed_c (f : Fm) (s : Value) (w : World) (hs : SlF w s f.F) : Rets ZP 45 #[fmV f s] w fun r w' => r = .bool (f.valid && fixedB f) ∧ Ext w w' := by
 have x0 : Ext w (w.alloc (.cells #[.int .i64 f.m, s] 24)) := Ext.alloc _ _
 have A := Bk.new w [.int .i64 f.m, s] 24
 obtain ⟨p, cap, rfl, hc1, hc2⟩ := hs.shape
 refine en45 ?_
 simp -dsimp -implicitDefEqProofs only [fmV,m45,sF45,ZA,↓reduceIte,ZB,ZC,ZJ,ZK,ZE,ZF,ZG,ZH,ZI,reduceCtorEq,ZD,mwV,↓mwD,mwU]
 replace A : Bk (w.alloc (.cells #[.int .i64 f.m, .slice p f.F.length cap] 24)) w.heap.size _ _ := A
 generalize w.alloc _ = W at *
 have A0 := A.get (o := 0) rfl
 have A1 := A.get (o := 1) rfl
 refine mwpB_loop (fun e ds w' => ∃ k : Nat, k ≤ f.F.length ∧ e 3 = .int .i64 k ∧ e 1 = .pointer (some ⟨w.heap.size, 0, none⟩) ∧ ds = [] ∧ w' = W ∧ ((f.F.take k).all fun x => decide (x.c.k = 1)) = true)
  (fun e _ => f.F.length - (intOf (e 3)).toNat) ?_ ?_
 · simp -dsimp -implicitDefEqProofs only [m45,sF45,ZA,↓reduceIte,ZB,ZC,ZJ,ZK,ZE,ZF,ZG,ZH,ZI,reduceCtorEq,ZD,mwV,↓mwD,mwU]
   exact ⟨0, by omega, rfl, rfl⟩
 · rintro e ds w' ⟨k, hk, h3, h1, rfl, rfl, hall⟩
   by_cases hlt : (k : Int) < (f.F.length : Int)
   · have hlt' : k < f.F.length := by omega
     obtain ⟨b, o, rfl, hfs⟩ := (hs.ext x0).at (by intro h0; rw [h0] at hlt'; simp at hlt')
     obtain ⟨s, q0, q1, q2, q3, hs⟩ := hfs.get hlt'
     have hb1 : (0 : Int) ≤ k ∧ (k : Int) < f.F.length := by omega
     have hw := w64_succ hlt' (Nat.le_trans hc1 hc2)
     by_cases hk1 : f.F[k].c.k = 1
     · have dk : decide (f.F[k].c.k = 1) = true := by simp [hk1]
       simp -dsimp -implicitDefEqProofs only [h3,h1,A1,hlt,hb1,and_self,q1,Nat.mul_comm k 4,dk,hw,m45,sF45,ZA,↓reduceIte,ZB,ZC,ZJ,ZK,ZE,ZF,ZG,ZH,ZI,reduceCtorEq,ZD,mwV,↓mwD,mwU]
       refine ⟨⟨k + 1, by omega, rfl, ?_⟩, by simp only [intOf]; omega⟩
       rw [List.take_succ_eq_append_getElem hlt', List.all_append, hall]; simp [hk1]
     · have dk : decide (f.F[k].c.k = 1) = false := by simp [hk1]
       simp -dsimp -implicitDefEqProofs only [h3,h1,A1,hlt,hb1,and_self,q1,Nat.mul_comm k 4,dk,m45,sF45,ZA,↓reduceIte,ZB,ZC,ZJ,ZK,ZE,ZF,ZG,ZH,ZI,reduceCtorEq,ZD,mwV,↓mwD,mwU]
       refine ⟨?_, x0⟩
       have : fixedB f = false := by
        unfold fixedB; rw [List.all_eq_false]; exact ⟨f.F[k], List.getElem_mem hlt', by simp [hk1]⟩
       rw [this]; simp
   · have hkl : k = f.F.length := by omega
     simp -dsimp -implicitDefEqProofs only [h3,h1,A0,A1,hlt,m45,sF45,ZA,↓reduceIte,ZB,ZC,ZJ,ZK,ZE,ZF,ZG,ZH,ZI,reduceCtorEq,ZD,mwV,↓mwD,mwU]
     refine (refFValid_c f _ w' (hs.ext x0)).use ?_
     rintro r w2 ⟨rfl, h2⟩
     simp -dsimp -implicitDefEqProofs only [m45,sF45,ZA,↓reduceIte,ZB,ZC,ZJ,ZK,ZE,ZF,ZG,ZH,ZI,reduceCtorEq,ZD,mwV,↓mwD,mwU]
     rw [hkl, List.take_length] at hall
     exact ⟨by unfold fixedB; rw [hall]; simp, x0.trans h2⟩
end Go.Proofs.YthcdnjbhhaonhaaGreatDoor

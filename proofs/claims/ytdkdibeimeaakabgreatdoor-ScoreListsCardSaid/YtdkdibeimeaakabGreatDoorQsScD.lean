/- Layer 32: what is wrong in a score, by the program and by the reference. -/
import Derived.Test.YtdkdibeimeaakabGreatDoorQsScC

namespace Go.Proofs.YtdkdibeimeaakabGreatDoor
open Go.RowKit
open Nat renaming reduceEqDiff → ZA, reduceAdd → ZB, reduceMul → ZC, reduceSub → ZD
open Int renaming reduceToNat → ZE, reduceEq → ZF, reduceLT → ZG, reduceLE → ZH, reduceNeg → ZI
open Go.Value renaming oneCell' → ZK, cells → ZJ
open Go.Proofs.Tryz renaming prog → ZP
set_option linter.unusedSimpArgs false
set_option linter.unusedVariables false
def sglE (x : Ev) : Int := if beatB x.num x.den = false then 7 else if (!okO x.o || decide (x.o.t ≠ 0)) = true then 1 else if (x.c && decide (x.o.d ≠ 4)) = true then 10 else 0
def prevE (l : List Ev) : Nat → Option Ev
  | 0 => none
  | k + 1 => l[k]?
theorem errE_single (p : Option Ev) (x : Ev) (e : Int) (he : e = sglE x) : errE p x = if e ≠ 7 ∧ (match p with | some p => decide (tick x < tick p) | none => false) = true then 9 else e := by
  subst he
  unfold errE sglE
  cases hb : beatB x.num x.den
  · simp
  · have h1 : (decide (x.o.t ≠ 0) || !okO x.o) = (!okO x.o || decide (x.o.t ≠ 0)) := Bool.or_comm _ _
    rw [h1]
    cases p with
    | none =>
      simp only [Bool.true_eq_false,if_false,Bool.false_eq_true,and_false]
    | some p =>
      simp only [Bool.true_eq_false,if_false,decide_eq_true_eq]
      by_cases ht : tick x < tick p
      · rw [if_pos ht]
        have h7 : (if (!okO x.o || decide (x.o.t ≠ 0)) = true then (1 : Int) else if (x.c && decide (x.o.d ≠ 4)) = true then 10 else 0) ≠ 7 := by
          split
          · decide
          · split <;> decide
        rw [if_pos ⟨h7, ht⟩]
      · simp only [ht,and_false,if_false]
theorem wrongF_step {l : List Ev} {k : Nat} (h : k < l.length) (p : Option Ev) : wrongF p k (l.drop k) = if errE p l[k] = 0 then wrongF (some l[k]) ((k : Int) + 1) (l.drop (k + 1)) else ((k : Int), errE p l[k]) := by
  rw [List.drop_eq_getElem_cons h, wrongF]
theorem prev_succ {l : List Ev} {k : Nat} (h : k < l.length) : prevE l (k + 1) = some l[k] := List.getElem?_eq_getElem h
theorem take_beat {l : List Ev} {k : Nat} (h : k < l.length) (hp : ∀ y ∈ l.take k, beatB y.num y.den = true) (hx : beatB l[k].num l[k].den = true) : ∀ y ∈ l.take (k + 1), beatB y.num y.den = true := by
  intro y hy
  rw [List.take_succ_eq_append_getElem h, List.mem_append, List.mem_singleton] at hy
  rcases hy with hy | rfl
  · exact hp y hy
  · exact hx
theorem wB {x y : Ev} (hx : beatB x.num x.den = true) (hy : beatB y.num y.den = true) : 0 ≤ x.num * y.den ∧ x.num * y.den ≤ 960000000 := by
  obtain ⟨a1, a2, _⟩ := beat_iff.1 hx
  obtain ⟨_, _, b3, b4, _⟩ := beat_iff.1 hy
  obtain ⟨c1, _⟩ := den_mul b3 b4
  refine ⟨Int.mul_nonneg a1 (by omega), ?_⟩
  calc x.num * y.den ≤ 1000000 * y.den := Int.mul_le_mul_of_nonneg_right a2 (by omega)
    _ ≤ 1000000 * 960 := Int.mul_le_mul_of_nonneg_left c1 (by omega)
theorem before_iff {x y : Ev} (hx : beatB x.num x.den = true) (hy : beatB y.num y.den = true) : x.num * y.den < y.num * x.den ↔ tick x < tick y := by
  obtain ⟨_, _, a3, a4, _⟩ := beat_iff.1 hx
  obtain ⟨_, _, b3, b4, _⟩ := beat_iff.1 hy
  obtain ⟨_, e1, p1, _⟩ := den_mul a3 a4
  obtain ⟨_, e2, p2, _⟩ := den_mul b3 b4
  unfold tick
  generalize 960 / x.den = k at *
  generalize 960 / y.den = j at *
  have hkj : 0 < k * j := Int.mul_pos (by omega) (by omega)
  have h1 : x.num * y.den * (k * j) = x.num * k * 960 := by
    calc x.num * y.den * (k * j) = x.num * k * (y.den * j) := by ac_rfl
      _ = x.num * k * 960 := by rw [e2]
  have h2 : y.num * x.den * (k * j) = y.num * j * 960 := by
    calc y.num * x.den * (k * j) = y.num * j * (x.den * k) := by ac_rfl
      _ = y.num * j * 960 := by rw [e1]
  constructor
  · intro h
    have := Int.mul_lt_mul_of_pos_right h hkj
    rw [h1, h2] at this
    omega
  · intro h
    rcases Int.lt_or_le (x.num * y.den) (y.num * x.den) with h' | h'
    · exact h'
    · have := Int.mul_le_mul_of_nonneg_right h' (Int.le_of_lt hkj)
      rw [h1, h2] at this
      omega
theorem before_c (x y : Ev) (w : World) (hx : beatB x.num x.den = true) (hy : beatB y.num y.den = true) : Rets ZP 37 #[evV x, evV y] w fun r w' => r = .bool (decide (tick x < tick y)) ∧ Ext w w' := by
  have m1 := wB hx hy
  have m2 := wB hy hx
  have w1 : IntKind.i64.wrap (x.num * y.den) = x.num * y.den := w64 (by omega) (by omega)
  have w2 : IntKind.i64.wrap (y.num * x.den) = y.num * x.den := w64 (by omega) (by omega)
  have hd : decide (x.num * y.den < y.num * x.den) = decide (tick x < tick y) := decide_eq_decide.2 (before_iff hx hy)
  obtain ⟨W, hW, A, x0⟩ := new_bk' w (evC x) 49
  obtain ⟨W2, hW2, B, x1⟩ := new_bk' W (evC y) 49
  have a0 := (A.ext x1).get (o := 0) rfl
  have a1 := (A.ext x1).get (o := 1) rfl
  have b0 := B.get (o := 0) rfl
  have b1 := B.get (o := 1) rfl
  simp only [evC] at hW hW2
  refine en37 ?_
  simp -dsimp -implicitDefEqProofs only [evV,← hW,← hW2,a0,a1,b0,b1,w1,w2,m37,sF37,ZA,↓reduceIte,ZB,ZC,ZJ,ZK,ZE,ZF,ZG,ZH,ZI,reduceCtorEq,ZD,mwV,↓mwD,mwU]
  exact ⟨by rw [hd], x0.trans x1⟩
theorem single_c (x : Ev) (w : World) (hx : EvOk x) : Rets ZP 36 #[evV x] w fun r w' => r = .int .i64 (sglE x) ∧ Ext w w' := by
  obtain ⟨W, hW, A, x0⟩ := new_bk' w (evC x) 49
  have a0 := A.get (o := 0) rfl
  have a1 := A.get (o := 1) rfl
  simp only [evC] at hW
  refine en36 ?_
  simp -dsimp -implicitDefEqProofs only [evV,← hW,a0,a1,m36,sF36,ZA,↓reduceIte,ZB,ZC,ZJ,ZK,ZE,ZF,ZG,ZH,ZI,reduceCtorEq,ZD,mwV,↓mwD,mwU]
  clear hW
  refine (rbeat_c x.num x.den W hx.num hx.den).use ?_
  rintro r w1 ⟨rfl, h1⟩
  have hx1 := x0.trans h1
  cases hb : beatB x.num x.den
  · simp -dsimp -implicitDefEqProofs only [m36,sF36,ZA,↓reduceIte,ZB,ZC,ZJ,ZK,ZE,ZF,ZG,ZH,ZI,reduceCtorEq,ZD,mwV,↓mwD,mwU]
    exact ⟨by unfold sglE; rw [hb]; rfl, hx1⟩
  have A' := A.ext h1
  have c2 := A'.get (o := 2) rfl
  have c3 := A'.get (o := 3) rfl
  have c4 := A'.get (o := 4) rfl
  have c5 := A'.get (o := 5) rfl
  have c6 := A'.get (o := 6) rfl
  have c7 := A'.get (o := 7) rfl
  have c8 := A'.get (o := 8) rfl
  have c9 := A'.get (o := 9) rfl
  simp -dsimp -implicitDefEqProofs only [c2,c3,c4,c5,c6,c7,c8,m36,sF36,ZA,↓reduceIte,ZB,ZC,ZJ,ZK,ZE,ZF,ZG,ZH,ZI,reduceCtorEq,ZD,mwV,↓mwD,mwU]
  refine (rvalid_c x.o w1).use ?_
  rintro r w2 ⟨rfl, h2⟩
  have hx2 := hx1.trans h2
  have d2 := h2.cell c2
  have d3 := h2.cell c3
  have d9 := h2.cell c9
  cases hv : okO x.o
  · simp -dsimp -implicitDefEqProofs only [m36,sF36,ZA,↓reduceIte,ZB,ZC,ZJ,ZK,ZE,ZF,ZG,ZH,ZI,reduceCtorEq,ZD,mwV,↓mwD,mwU]
    exact ⟨by unfold sglE; rw [hb, hv]; rfl, hx2⟩
  by_cases ht : x.o.t = 0
  · cases hc : x.c
    · simp -dsimp -implicitDefEqProofs only [d2,ht,d9,hc,m36,sF36,ZA,↓reduceIte,ZB,ZC,ZJ,ZK,ZE,ZF,ZG,ZH,ZI,reduceCtorEq,ZD,mwV,↓mwD,mwU]
      exact ⟨by unfold sglE; rw [hb, hv, hc]; simp [ht], hx2⟩
    · by_cases hd : x.o.d = 4
      · simp -dsimp -implicitDefEqProofs only [d2,ht,d9,hc,d3,hd,m36,sF36,ZA,↓reduceIte,ZB,ZC,ZJ,ZK,ZE,ZF,ZG,ZH,ZI,reduceCtorEq,ZD,mwV,↓mwD,mwU]
        exact ⟨by unfold sglE; rw [hb, hv, hc]; simp [ht, hd], hx2⟩
      · simp -dsimp -implicitDefEqProofs only [d2,ht,d9,hc,d3,hd,m36,sF36,ZA,↓reduceIte,ZB,ZC,ZJ,ZK,ZE,ZF,ZG,ZH,ZI,reduceCtorEq,ZD,mwV,↓mwD,mwU]
        exact ⟨by unfold sglE; rw [hb, hv, hc]; simp [ht, hd], hx2⟩
  · simp -dsimp -implicitDefEqProofs only [d2,ht,m36,sF36,ZA,↓reduceIte,ZB,ZC,ZJ,ZK,ZE,ZF,ZG,ZH,ZI,reduceCtorEq,ZD,mwV,↓mwD,mwU]
    exact ⟨by unfold sglE; rw [hb, hv]; simp [ht], hx2⟩
theorem sglE_beat {x : Ev} (h : sglE x ≠ 7) : beatB x.num x.den = true := by
  unfold sglE at h
  cases hb : beatB x.num x.den
  · rw [hb] at h; simp at h
  · rfl
set_option maxHeartbeats 1000000 in
theorem rwrong_c (l : List Ev) (v : Value) (w : World) (hl : SlE w v l) : Rets ZP 13 #[v] w fun r w' => r = .tuple #[.int .i64 (wrongS l).1, .int .i64 (wrongS l).2] ∧ Ext w w' := by
  obtain ⟨q, cap, rfl, hc1, hc2⟩ := hl.shape
  refine en13 ?_
  by_cases h300 : (300 : Int) < l.length
  · simp -dsimp -implicitDefEqProofs only [h300,m13,sF13,ZA,↓reduceIte,ZB,ZC,ZJ,ZK,ZE,ZF,ZG,ZH,ZI,reduceCtorEq,ZD,mwV,↓mwD,mwU]
    exact ⟨by unfold wrongS; rw [if_pos (by omega)], Ext.refl _⟩
  have hS : wrongS l = wrongF none 0 l := by unfold wrongS; rw [if_neg (by omega)]
  rw [hS]
  simp -dsimp -implicitDefEqProofs only [h300,m13,sF13,ZA,↓reduceIte,ZB,ZC,ZJ,ZK,ZE,ZF,ZG,ZH,ZI,reduceCtorEq,ZD,mwV,↓mwD,mwU]
  refine mwpB_loop (fun e ds w' => ∃ k : Nat, k ≤ l.length ∧ e 4 = .int .i64 k ∧ e 0 = .slice q l.length cap ∧ ds = [] ∧ Ext w w' ∧ wrongF none 0 l = wrongF (prevE l k) k (l.drop k) ∧ ∀ y ∈ l.take k, beatB y.num y.den = true)
    (fun e _ => l.length - (intOf (e 4)).toNat) ?_ ?_
  · simp -dsimp -implicitDefEqProofs only [m13,sF13,ZA,↓reduceIte,ZB,ZC,ZJ,ZK,ZE,ZF,ZG,ZH,ZI,reduceCtorEq,ZD,mwV,↓mwD,mwU]
    exact ⟨0, by omega, rfl, Ext.refl _, rfl, by simp⟩
  · rintro e ds w' ⟨k, hk, h4, h0, rfl, hx, hS2, hB⟩
    by_cases hlt : (k : Int) < l.length
    · have hlt' : k < l.length := by omega
      obtain ⟨b, o, rfl, E⟩ := (hl.ext hx).get hlt'
      have hb1 : (0 : Int) ≤ k ∧ (k : Int) < l.length := by omega
      have hw := w64_succ hlt' (Nat.le_trans hc1 hc2)
      rw [wrongF_step hlt'] at hS2
      simp -dsimp -implicitDefEqProofs only [h4,h0,hlt,hb1,and_self,E.c0,E.c1,E.c2,E.c3,E.c4,E.c5,E.c6,E.c7,E.c8,E.c9,m13,sF13,ZA,↓reduceIte,ZB,ZC,ZJ,ZK,ZE,ZF,ZG,ZH,ZI,reduceCtorEq,ZD,mwV,↓mwD,mwU]
      refine (single_c l[k] w' (hl.ok _ (List.getElem_mem hlt'))).use ?_
      rintro r w1 ⟨rfl, h1⟩
      have hx1 := hx.trans h1
      have hxd := hx1.trans (Ext.drew w1)
      have hE := errE_single (prevE l k) l[k] (sglE l[k]) rfl
      by_cases s7 : sglE l[k] = 7
      · rw [if_neg (fun h => h.1 s7), s7] at hE
        rw [if_neg (by rw [hE]; decide), hE] at hS2
        simp -dsimp -implicitDefEqProofs only [h4,h0,s7,m13,sF13,ZA,↓reduceIte,ZB,ZC,ZJ,ZK,ZE,ZF,ZG,ZH,ZI,reduceCtorEq,ZD,mwV,↓mwD,mwU]
        refine mwpB_drawE ?_
        simp -dsimp -implicitDefEqProofs only [h4,h0,s7,m13,sF13,ZA,↓reduceIte,ZB,ZC,ZJ,ZK,ZE,ZF,ZG,ZH,ZI,reduceCtorEq,ZD,mwV,↓mwD,mwU]
        exact ⟨by rw [hS2], hxd⟩
      have hbk := sglE_beat s7
      have hB' := take_beat hlt' hB hbk
      cases k with
      | zero =>
        rw [if_neg (fun h => by cases h.2)] at hE
        simp only [Int.natCast_zero,Nat.zero_add] at h4 hw hS2 hlt
        have g0 : ¬ (0 : Int) < 0 := by decide
        by_cases s0 : sglE l[0] = 0
        · rw [if_pos (by rw [hE, s0])] at hS2
          simp -dsimp -implicitDefEqProofs only [h4,h0,s7,g0,s0,m13,sF13,ZA,↓reduceIte,ZB,ZC,ZJ,ZK,ZE,ZF,ZG,ZH,ZI,reduceCtorEq,ZD,mwV,↓mwD,mwU]
          refine mwpB_drawE ?_
          simp -dsimp -implicitDefEqProofs only [h4,h0,s7,g0,s0,hw,m13,sF13,ZA,↓reduceIte,ZB,ZC,ZJ,ZK,ZE,ZF,ZG,ZH,ZI,reduceCtorEq,ZD,mwV,↓mwD,mwU]
          exact ⟨⟨1, by omega, rfl, hxd, by rw [hS2, prev_succ hlt']; rfl, hB'⟩, by simp only [intOf]; omega⟩
        · rw [if_neg (by rw [hE]; exact s0), hE] at hS2
          simp -dsimp -implicitDefEqProofs only [h4,h0,s7,g0,s0,m13,sF13,ZA,↓reduceIte,ZB,ZC,ZJ,ZK,ZE,ZF,ZG,ZH,ZI,reduceCtorEq,ZD,mwV,↓mwD,mwU]
          refine mwpB_drawE ?_
          simp -dsimp -implicitDefEqProofs only [h4,h0,s7,g0,s0,hw,m13,sF13,ZA,↓reduceIte,ZB,ZC,ZJ,ZK,ZE,ZF,ZG,ZH,ZI,reduceCtorEq,ZD,mwV,↓mwD,mwU]
          exact ⟨by rw [hS2], hxd⟩
      | succ m =>
        have hm : m < l.length := by omega
        obtain ⟨b', o', hq, G⟩ := (hl.ext hxd).get hm
        cases hq
        have E' := E.ext (h1.trans (Ext.drew w1))
        have g0 : (0 : Int) < ((m + 1 : Nat) : Int) := by omega
        have hm1 : IntKind.i64.wrap (((m + 1 : Nat) : Int) - 1) = (m : Int) := by rw [w64 (by omega) (by omega)]; omega
        have hb2 : (0 : Int) ≤ m ∧ (m : Int) < l.length := by omega
        have hpm : prevE l (m + 1) = some l[m] := prev_succ hm
        have hbm : beatB l[m].num l[m].den = true := hB l[m] (by rw [List.take_succ_eq_append_getElem hm]; exact List.mem_append_right _ (List.mem_singleton_self _))
        rw [hpm] at hE hS2
        simp only at hE
        simp -dsimp -implicitDefEqProofs only [h4,h0,s7,g0,m13,sF13,ZA,↓reduceIte,ZB,ZC,ZJ,ZK,ZE,ZF,ZG,ZH,ZI,reduceCtorEq,ZD,mwV,↓mwD,mwU]
        refine mwpB_drawE ?_
        simp -dsimp -implicitDefEqProofs only [h4,h0,s7,g0,hb1,and_self,hm1,hb2,Int.toNat_natCast,E'.c0,E'.c1,E'.c2,E'.c3,E'.c4,E'.c5,E'.c6,E'.c7,E'.c8,E'.c9,G.c0,G.c1,G.c2,G.c3,G.c4,G.c5,G.c6,G.c7,G.c8,G.c9,m13,sF13,ZA,↓reduceIte,ZB,ZC,ZJ,ZK,ZE,ZF,ZG,ZH,ZI,reduceCtorEq,ZD,mwV,↓mwD,mwU]
        refine (before_c l[m + 1] l[m] w1.drew hbk hbm).use ?_
        rintro r w2 ⟨rfl, h2⟩
        have hx2 := hxd.trans h2
        by_cases ht : tick l[m + 1] < tick l[m]
        · rw [if_pos ⟨s7, decide_eq_true ht⟩] at hE
          rw [if_neg (by rw [hE]; decide), hE] at hS2
          simp -dsimp -implicitDefEqProofs only [h2,h4,h0,ht,m13,sF13,ZA,↓reduceIte,ZB,ZC,ZJ,ZK,ZE,ZF,ZG,ZH,ZI,reduceCtorEq,ZD,mwV,↓mwD,mwU]
          exact ⟨by rw [hS2], hx2⟩
        · rw [if_neg (fun h => ht (of_decide_eq_true h.2))] at hE
          by_cases s0 : sglE l[m + 1] = 0
          · rw [if_pos (by rw [hE, s0])] at hS2
            simp -dsimp -implicitDefEqProofs only [h2,h4,h0,ht,s0,hw,m13,sF13,ZA,↓reduceIte,ZB,ZC,ZJ,ZK,ZE,ZF,ZG,ZH,ZI,reduceCtorEq,ZD,mwV,↓mwD,mwU]
            exact ⟨⟨m + 1 + 1, by omega, rfl, hx2, by rw [hS2, prev_succ hlt']; rfl, hB'⟩, by simp only [intOf]; omega⟩
          · rw [if_neg (by rw [hE]; exact s0), hE] at hS2
            simp -dsimp -implicitDefEqProofs only [h2,h4,h0,ht,s0,hw,m13,sF13,ZA,↓reduceIte,ZB,ZC,ZJ,ZK,ZE,ZF,ZG,ZH,ZI,reduceCtorEq,ZD,mwV,↓mwD,mwU]
            exact ⟨by rw [hS2], hx2⟩
    · have hkl : k = l.length := by omega
      rw [hkl, List.drop_length] at hS2
      simp -dsimp -implicitDefEqProofs only [h4,h0,hlt,m13,sF13,ZA,↓reduceIte,ZB,ZC,ZJ,ZK,ZE,ZF,ZG,ZH,ZI,reduceCtorEq,ZD,mwV,↓mwD,mwU]
      exact ⟨by rw [hS2]; rfl, hx⟩
theorem rValid_c (l : List Ev) (v : Value) (w : World) (hl : SlE w v l) : Rets ZP 15 #[v] w fun r w' => r = .bool (validS l) ∧ Ext w w' := by
  refine en15 ?_
  simp -dsimp -implicitDefEqProofs only [m15,sF15,ZA,↓reduceIte,ZB,ZC,ZJ,ZK,ZE,ZF,ZG,ZH,ZI,reduceCtorEq,ZD,mwV,↓mwD,mwU]
  refine (rwrong_c l v w hl).use ?_
  rintro r w1 ⟨rfl, h1⟩
  simp -dsimp -implicitDefEqProofs only [m15,sF15,ZA,↓reduceIte,ZB,ZC,ZJ,ZK,ZE,ZF,ZG,ZH,ZI,reduceCtorEq,ZD,mwV,↓mwD,mwU]
  exact ⟨rfl, h1⟩
theorem sgl_vals {x : Ev} (hb : beatB x.num x.den = true) : (x.o.t ≠ 0 → sglE x = 1) ∧ (okO x.o = false → sglE x = 1) ∧ (x.o.t = 0 → okO x.o = true → x.c = false → sglE x = 0) ∧ (x.o.t = 0 → okO x.o = true → x.c = true → x.o.d = 4 → sglE x = 0) ∧ (x.o.t = 0 → okO x.o = true → x.c = true → ¬ x.o.d = 4 → sglE x = 10) := by
  unfold sglE
  rw [hb]
  refine ⟨fun h => by simp [h], fun h => by simp [h], fun h1 h2 h3 => by simp [h1, h2, h3], fun h1 h2 h3 h4 => by simp [h1, h2, h3, h4], fun h1 h2 h3 h4 => by simp [h1, h2, h3, h4]⟩
set_option maxHeartbeats 2000000 in
theorem swrong_c (l : List Ev) (v : Value) (w : World) (hl : SlE w v l) : Rets ZP 12 #[v] w fun r w' => r = .tuple #[.int .i64 (wrongS l).1, .int .i64 (wrongS l).2] ∧ Ext w w' := by
  obtain ⟨q, cap, rfl, hc1, hc2⟩ := hl.shape
  refine en12 ?_
  by_cases h300 : (300 : Int) < l.length
  · simp -dsimp -implicitDefEqProofs only [h300,m12,sF12,ZA,↓reduceIte,ZB,ZC,ZJ,ZK,ZE,ZF,ZG,ZH,ZI,reduceCtorEq,ZD,mwV,↓mwD,mwU]
    exact ⟨by unfold wrongS; rw [if_pos (by omega)], Ext.refl _⟩
  have hS : wrongS l = wrongF none 0 l := by unfold wrongS; rw [if_neg (by omega)]
  rw [hS]
  simp -dsimp -implicitDefEqProofs only [h300,m12,sF12,ZA,↓reduceIte,ZB,ZC,ZJ,ZK,ZE,ZF,ZG,ZH,ZI,reduceCtorEq,ZD,mwV,↓mwD,mwU]
  refine mwpB_loop (fun e ds w' => ∃ k : Nat, k ≤ l.length ∧ e 11 = .int .i64 k ∧ e 10 = .int .i64 l.length ∧ e 9 = .slice q l.length cap ∧ e 0 = .slice q l.length cap ∧ ds = [] ∧ Ext w w' ∧ wrongF none 0 l = wrongF (prevE l k) k (l.drop k) ∧ ∀ y ∈ l.take k, beatB y.num y.den = true)
    (fun e _ => l.length - (intOf (e 11)).toNat) ?_ ?_
  · simp -dsimp -implicitDefEqProofs only [m12,sF12,ZA,↓reduceIte,ZB,ZC,ZJ,ZK,ZE,ZF,ZG,ZH,ZI,reduceCtorEq,ZD,mwV,↓mwD,mwU]
    exact ⟨0, by omega, rfl, Ext.refl _, rfl, by simp⟩
  · rintro e ds w' ⟨k, hk, h11, h10, h9, h0, rfl, hx, hS2, hB⟩
    by_cases hlt : (k : Int) < l.length
    · have hlt' : k < l.length := by omega
      obtain ⟨b, o, rfl, E⟩ := (hl.ext hx).get hlt'
      have hb1 : (0 : Int) ≤ k ∧ (k : Int) < l.length := by omega
      have hw := w64_succ hlt' (Nat.le_trans hc1 hc2)
      have hok := hl.ok _ (List.getElem_mem hlt')
      rw [wrongF_step hlt'] at hS2
      obtain ⟨W, hW, A, x0⟩ := new_bk' w' (evC l[k]) 49
      have a0 := A.get (o := 0) rfl
      have a1 := A.get (o := 1) rfl
      simp only [evC] at hW
      simp -dsimp -implicitDefEqProofs only [h11,h10,h9,h0,hlt,hb1,and_self,E.c0,E.c1,E.c2,E.c3,E.c4,E.c5,E.c6,E.c7,E.c8,E.c9,← hW,a0,a1,m12,sF12,ZA,↓reduceIte,ZB,ZC,ZJ,ZK,ZE,ZF,ZG,ZH,ZI,reduceCtorEq,ZD,mwV,↓mwD,mwU]
      clear hW
      refine (sbeat_c l[k].num l[k].den W hok.num hok.den).use ?_
      rintro r w1 ⟨rfl, h1⟩
      have hx1 := hx.trans (x0.trans h1)
      cases hbk : beatB l[k].num l[k].den
      · have hE : errE (prevE l k) l[k] = 7 := by unfold errE; rw [if_pos hbk]
        rw [if_neg (by rw [hE]; decide), hE] at hS2
        simp -dsimp -implicitDefEqProofs only [h11,h10,h9,h0,m12,sF12,ZA,↓reduceIte,ZB,ZC,ZJ,ZK,ZE,ZF,ZG,ZH,ZI,reduceCtorEq,ZD,mwV,↓mwD,mwU]
        exact ⟨by rw [hS2], hx1⟩
      have hB' := take_beat hlt' hB hbk
      have hE := errE_single (prevE l k) l[k] (sglE l[k]) rfl
      have A1 := A.ext h1
      cases k with
      | zero =>
        rw [if_neg (fun h => by cases h.2)] at hE
        simp only [Int.natCast_zero,Nat.zero_add] at h11 hw hS2 hlt
        have g0 : ¬ (0 : Int) < 0 := by decide
        simp -dsimp -implicitDefEqProofs only [h11,h10,h9,h0,g0,m12,sF12,ZA,↓reduceIte,ZB,ZC,ZJ,ZK,ZE,ZF,ZG,ZH,ZI,reduceCtorEq,ZD,mwV,↓mwD,mwU]
        refine mwpB_drawE ?_
        simp -dsimp -implicitDefEqProofs only [h11,h10,h9,h0,g0,m12,sF12,ZA,↓reduceIte,ZB,ZC,ZJ,ZK,ZE,ZF,ZG,ZH,ZI,reduceCtorEq,ZD,mwV,↓mwD,mwU]
        have C : Bk w1 w'.heap.size (evC l[0]) 49 := A.ext h1
        have c2 := C.get (o := 2) rfl
        have c3 := C.get (o := 3) rfl
        have c4 := C.get (o := 4) rfl
        have c5 := C.get (o := 5) rfl
        have c6 := C.get (o := 6) rfl
        have c7 := C.get (o := 7) rfl
        have c8 := C.get (o := 8) rfl
        have c9 := C.get (o := 9) rfl
        have hxc : Ext w w1.drew := hx.trans (x0.trans (h1.trans (Ext.drew w1)))
        obtain ⟨v1, v2, v3, v4, v5⟩ := sgl_vals hbk
        have bad : ∀ {c : Int} {w3 : World}, Ext w w3 → sglE l[0] = c → c ≠ 0 → Value.tuple #[.int .i64 (0), .int .i64 c] = .tuple #[.int .i64 (wrongF none 0 l).1, .int .i64 (wrongF none 0 l).2] ∧ Ext w w3 := fun h1 h2 h3 => by
          rw [if_neg (by rw [hE, h2]; exact h3), hE, h2] at hS2
          exact ⟨by rw [hS2], h1⟩
        have good : sglE l[0] = 0 → wrongF none 0 l = wrongF (prevE l (0 + 1)) ((0 + 1 : Nat) : Int) (l.drop (0 + 1)) := fun h2 => by
          rw [if_pos (by rw [hE, h2])] at hS2
          rw [hS2, prev_succ hlt']; rfl
        by_cases ht0 : l[0].o.t = 0
        · have q0 : decide (l[0].o.t = 0) = true := by simp [ht0]
          simp -dsimp -implicitDefEqProofs only [h11,h10,h9,h0,c2,q0,c3,c4,c5,c6,c7,c8,m12,sF12,ZA,↓reduceIte,ZB,ZC,ZJ,ZK,ZE,ZF,ZG,ZH,ZI,reduceCtorEq,ZD,mwV,↓mwD,mwU]
          refine (svalid_c l[0].o w1.drew).use ?_
          rintro r w3 ⟨rfl, h3⟩
          have hx3 := hxc.trans h3
          have d9 := ((Ext.drew w1).trans h3).cell c9
          have d3 := ((Ext.drew w1).trans h3).cell c3
          cases hv : okO l[0].o
          · simp -dsimp -implicitDefEqProofs only [h11,h10,h9,h0,m12,sF12,ZA,↓reduceIte,ZB,ZC,ZJ,ZK,ZE,ZF,ZG,ZH,ZI,reduceCtorEq,ZD,mwV,↓mwD,mwU]
            exact bad hx3 (v2 hv) (by decide)
          cases hc : l[0].c
          · simp -dsimp -implicitDefEqProofs only [h11,h10,h9,h0,d9,hc,hw,m12,sF12,ZA,↓reduceIte,ZB,ZC,ZJ,ZK,ZE,ZF,ZG,ZH,ZI,reduceCtorEq,ZD,mwV,↓mwD,mwU]
            exact ⟨⟨0 + 1, by omega, rfl, hx3, good (v3 ht0 hv hc), hB'⟩, by simp only [intOf]; omega⟩
          by_cases hd : l[0].o.d = 4
          · simp -dsimp -implicitDefEqProofs only [h11,h10,h9,h0,d9,hc,d3,hd,hw,m12,sF12,ZA,↓reduceIte,ZB,ZC,ZJ,ZK,ZE,ZF,ZG,ZH,ZI,reduceCtorEq,ZD,mwV,↓mwD,mwU]
            exact ⟨⟨0 + 1, by omega, rfl, hx3, good (v4 ht0 hv hc hd), hB'⟩, by simp only [intOf]; omega⟩
          · simp -dsimp -implicitDefEqProofs only [h11,h10,h9,h0,d9,hc,d3,hd,hw,m12,sF12,ZA,↓reduceIte,ZB,ZC,ZJ,ZK,ZE,ZF,ZG,ZH,ZI,reduceCtorEq,ZD,mwV,↓mwD,mwU]
            exact bad hx3 (v5 ht0 hv hc hd) (by decide)
        · have q0 : decide (l[0].o.t = 0) = false := by simp [ht0]
          simp -dsimp -implicitDefEqProofs only [h11,h10,h9,h0,c2,q0,m12,sF12,ZA,↓reduceIte,ZB,ZC,ZJ,ZK,ZE,ZF,ZG,ZH,ZI,reduceCtorEq,ZD,mwV,↓mwD,mwU]
          exact bad hxc (v1 ht0) (by decide)
      | succ m =>
        have hm : m < l.length := by omega
        obtain ⟨b', o', hq, G⟩ := ((hl.ext hx1).ext (Ext.drew w1)).get hm
        cases hq
        have g0 : (0 : Int) < ((m + 1 : Nat) : Int) := by omega
        have hm1 : IntKind.i64.wrap (((m + 1 : Nat) : Int) - 1) = (m : Int) := by rw [w64 (by omega) (by omega)]; omega
        have hb2 : (0 : Int) ≤ m ∧ (m : Int) < l.length := by omega
        have hpm : prevE l (m + 1) = some l[m] := prev_succ hm
        have hbm : beatB l[m].num l[m].den = true := hB l[m] (by rw [List.take_succ_eq_append_getElem hm]; exact List.mem_append_right _ (List.mem_singleton_self _))
        rw [hpm] at hE hS2
        simp only at hE
        have AD := A1.ext (Ext.drew w1)
        have e0 := AD.get (o := 0) rfl
        have e1 := AD.get (o := 1) rfl
        have e2 := AD.get (o := 2) rfl
        have e3 := AD.get (o := 3) rfl
        have e4 := AD.get (o := 4) rfl
        have e5 := AD.get (o := 5) rfl
        have e6 := AD.get (o := 6) rfl
        have e7 := AD.get (o := 7) rfl
        have e8 := AD.get (o := 8) rfl
        have e9 := AD.get (o := 9) rfl
        simp -dsimp -implicitDefEqProofs only [h11,h10,h9,h0,g0,m12,sF12,ZA,↓reduceIte,ZB,ZC,ZJ,ZK,ZE,ZF,ZG,ZH,ZI,reduceCtorEq,ZD,mwV,↓mwD,mwU]
        refine mwpB_drawE ?_
        simp -dsimp -implicitDefEqProofs only [h11,h10,h9,h0,g0,and_self,hm1,hb2,Int.toNat_natCast,e0,e1,e2,e3,e4,e5,e6,e7,e8,e9,G.c0,G.c1,G.c2,G.c3,G.c4,G.c5,G.c6,G.c7,G.c8,G.c9,m12,sF12,ZA,↓reduceIte,ZB,ZC,ZJ,ZK,ZE,ZF,ZG,ZH,ZI,reduceCtorEq,ZD,mwV,↓mwD,mwU]
        refine (tick_c l[m] w1.drew hbm).use ?_
        rintro r w2 ⟨rfl, h2⟩
        simp -dsimp -implicitDefEqProofs only [h2,h11,h10,h9,h0,m12,sF12,ZA,↓reduceIte,ZB,ZC,ZJ,ZK,ZE,ZF,ZG,ZH,ZI,reduceCtorEq,ZD,mwV,↓mwD,mwU]
        refine (tick_c l[m + 1] w2 hbk).use ?_
        rintro r w4 ⟨rfl, h4⟩
        have h24 := h2.trans h4
        have hx4 : Ext w w4 := hx1.trans ((Ext.drew w1).trans h24)
        by_cases ht : tick l[m + 1] < tick l[m]
        · rw [if_pos ⟨by rw [sglE, if_neg (by rw [hbk]; decide)]; split <;> first | decide | (split <;> decide), decide_eq_true ht⟩] at hE
          rw [if_neg (by rw [hE]; decide), hE] at hS2
          simp -dsimp -implicitDefEqProofs only [h24,h11,h10,h9,h0,ht,m12,sF12,ZA,↓reduceIte,ZB,ZC,ZJ,ZK,ZE,ZF,ZG,ZH,ZI,reduceCtorEq,ZD,mwV,↓mwD,mwU]
          exact ⟨by rw [hS2], hx4⟩
        rw [if_neg (fun h => ht (of_decide_eq_true h.2))] at hE
        simp -dsimp -implicitDefEqProofs only [h24,h11,h10,h9,h0,ht,m12,sF12,ZA,↓reduceIte,ZB,ZC,ZJ,ZK,ZE,ZF,ZG,ZH,ZI,reduceCtorEq,ZD,mwV,↓mwD,mwU]
        have C : Bk w4 w'.heap.size (evC l[m + 1]) 49 := A.ext (h1.trans ((Ext.drew w1).trans h24))
        have c2 := C.get (o := 2) rfl
        have c3 := C.get (o := 3) rfl
        have c4 := C.get (o := 4) rfl
        have c5 := C.get (o := 5) rfl
        have c6 := C.get (o := 6) rfl
        have c7 := C.get (o := 7) rfl
        have c8 := C.get (o := 8) rfl
        have c9 := C.get (o := 9) rfl
        have hxc : Ext w w4 := hx.trans (x0.trans (h1.trans ((Ext.drew w1).trans h24)))
        obtain ⟨v1, v2, v3, v4, v5⟩ := sgl_vals hbk
        have bad : ∀ {c : Int} {w3 : World}, Ext w w3 → sglE l[m + 1] = c → c ≠ 0 → Value.tuple #[.int .i64 (((m + 1 : Nat) : Int)), .int .i64 c] = .tuple #[.int .i64 (wrongF none 0 l).1, .int .i64 (wrongF none 0 l).2] ∧ Ext w w3 := fun h1 h2 h3 => by
          rw [if_neg (by rw [hE, h2]; exact h3), hE, h2] at hS2
          exact ⟨by rw [hS2], h1⟩
        have good : sglE l[m + 1] = 0 → wrongF none 0 l = wrongF (prevE l (m + 1 + 1)) ((m + 1 + 1 : Nat) : Int) (l.drop (m + 1 + 1)) := fun h2 => by
          rw [if_pos (by rw [hE, h2])] at hS2
          rw [hS2, prev_succ hlt']; rfl
        by_cases ht0 : l[m + 1].o.t = 0
        · have q0 : decide (l[m + 1].o.t = 0) = true := by simp [ht0]
          simp -dsimp -implicitDefEqProofs only [h11,h10,h9,h0,c2,q0,c3,c4,c5,c6,c7,c8,m12,sF12,ZA,↓reduceIte,ZB,ZC,ZJ,ZK,ZE,ZF,ZG,ZH,ZI,reduceCtorEq,ZD,mwV,↓mwD,mwU]
          refine (svalid_c l[m + 1].o w4).use ?_
          rintro r w3 ⟨rfl, h3⟩
          have hx3 := hxc.trans h3
          have d9 := h3.cell c9
          have d3 := h3.cell c3
          cases hv : okO l[m + 1].o
          · simp -dsimp -implicitDefEqProofs only [h11,h10,h9,h0,m12,sF12,ZA,↓reduceIte,ZB,ZC,ZJ,ZK,ZE,ZF,ZG,ZH,ZI,reduceCtorEq,ZD,mwV,↓mwD,mwU]
            exact bad hx3 (v2 hv) (by decide)
          cases hc : l[m + 1].c
          · simp -dsimp -implicitDefEqProofs only [h11,h10,h9,h0,d9,hc,hw,m12,sF12,ZA,↓reduceIte,ZB,ZC,ZJ,ZK,ZE,ZF,ZG,ZH,ZI,reduceCtorEq,ZD,mwV,↓mwD,mwU]
            exact ⟨⟨m + 1 + 1, by omega, rfl, hx3, good (v3 ht0 hv hc), hB'⟩, by simp only [intOf]; omega⟩
          by_cases hd : l[m + 1].o.d = 4
          · simp -dsimp -implicitDefEqProofs only [h11,h10,h9,h0,d9,hc,d3,hd,hw,m12,sF12,ZA,↓reduceIte,ZB,ZC,ZJ,ZK,ZE,ZF,ZG,ZH,ZI,reduceCtorEq,ZD,mwV,↓mwD,mwU]
            exact ⟨⟨m + 1 + 1, by omega, rfl, hx3, good (v4 ht0 hv hc hd), hB'⟩, by simp only [intOf]; omega⟩
          · simp -dsimp -implicitDefEqProofs only [h11,h10,h9,h0,d9,hc,d3,hd,hw,m12,sF12,ZA,↓reduceIte,ZB,ZC,ZJ,ZK,ZE,ZF,ZG,ZH,ZI,reduceCtorEq,ZD,mwV,↓mwD,mwU]
            exact bad hx3 (v5 ht0 hv hc hd) (by decide)
        · have q0 : decide (l[m + 1].o.t = 0) = false := by simp [ht0]
          simp -dsimp -implicitDefEqProofs only [h11,h10,h9,h0,c2,q0,m12,sF12,ZA,↓reduceIte,ZB,ZC,ZJ,ZK,ZE,ZF,ZG,ZH,ZI,reduceCtorEq,ZD,mwV,↓mwD,mwU]
          exact bad hxc (v1 ht0) (by decide)
    · have hkl : k = l.length := by omega
      rw [hkl, List.drop_length] at hS2
      simp -dsimp -implicitDefEqProofs only [h11,h10,h9,h0,hlt,m12,sF12,ZA,↓reduceIte,ZB,ZC,ZJ,ZK,ZE,ZF,ZG,ZH,ZI,reduceCtorEq,ZD,mwV,↓mwD,mwU]
      exact ⟨by rw [hS2]; rfl, hx⟩
theorem sValid_c (l : List Ev) (v : Value) (w : World) (hl : SlE w v l) : Rets ZP 14 #[v] w fun r w' => r = .bool (validS l) ∧ Ext w w' := by
  refine en14 ?_
  simp -dsimp -implicitDefEqProofs only [m14,sF14,ZA,↓reduceIte,ZB,ZC,ZJ,ZK,ZE,ZF,ZG,ZH,ZI,reduceCtorEq,ZD,mwV,↓mwD,mwU]
  refine (swrong_c l v w hl).use ?_
  rintro r w1 ⟨rfl, h1⟩
  simp -dsimp -implicitDefEqProofs only [m14,sF14,ZA,↓reduceIte,ZB,ZC,ZJ,ZK,ZE,ZF,ZG,ZH,ZI,reduceCtorEq,ZD,mwV,↓mwD,mwU]
  exact ⟨rfl, h1⟩
end Go.Proofs.YtdkdibeimeaakabGreatDoor

/- Layer 32: a move of a score by a beat, by the program. -/
import Derived.Test.YtdkdibeimeaakabGreatDoorQsScH

namespace Go.Proofs.YtdkdibeimeaakabGreatDoor
open Go.RowKit
open Nat renaming reduceEqDiff → ZA, reduceAdd → ZB, reduceMul → ZC, reduceSub → ZD
open Int renaming reduceToNat → ZE, reduceEq → ZF, reduceLT → ZG, reduceLE → ZH, reduceNeg → ZI
open Go.Value renaming oneCell' → ZK, cells → ZJ
set_option linter.unusedSimpArgs false
set_option linter.unusedVariables false
set_option maxHeartbeats 4000000 in
theorem sShift_c (l : List Ev) (v : Value) (num den : Int) (w : World) (hl : SlE w v l) (hn : inE num) (hd : inE den) : Rets Go.Proofs.Tryz.prog 23 #[v, .int .i64 num, .int .i64 den] w (EvQ (shiftS l num den) w) := by
  obtain ⟨q, cap, rfl, hc1, hc2⟩ := hl.shape
  refine en23 ?_
  simp -dsimp -implicitDefEqProofs only [m23,sF23,ZA,↓reduceIte,ZB,ZC,ZJ,ZK,ZE,ZF,ZG,ZH,ZI,reduceCtorEq,ZD,mwV,↓mwD,mwU]
  refine (sValid_c l _ w hl).use ?_
  rintro r w1 ⟨rfl, h1⟩
  cases vl : validS l
  · simp -dsimp -implicitDefEqProofs only [m23,sF23,ZA,↓reduceIte,ZB,ZC,ZJ,ZK,ZE,ZF,ZG,ZH,ZI,reduceCtorEq,ZD,mwV,↓mwD,mwU]
    exact .none (shiftS_inv vl) h1
  simp -dsimp -implicitDefEqProofs only [m23,sF23,ZA,↓reduceIte,ZB,ZC,ZJ,ZK,ZE,ZF,ZG,ZH,ZI,reduceCtorEq,ZD,mwV,↓mwD,mwU]
  refine (swithin_c num (-1000000) 1000000 w1).use ?_
  rintro r w2 ⟨rfl, rfl⟩
  by_cases hr : ShIn num den
  rotate_left
  · have hr' : num < -1000000 ∨ 1000000 < num ∨ den < 1 := by
      rcases Int.lt_or_le num (-1000000) with h | h
      · exact .inl h
      · rcases Int.lt_or_le 1000000 num with h' | h'
        · exact .inr (.inl h')
        · rcases Int.lt_or_le den 1 with h2 | h2
          · exact .inr (.inr h2)
          · exact absurd ⟨h, h', h2, hd.2⟩ hr
    by_cases hw : -1000000 ≤ num ∧ num ≤ 1000000
    · have hd1 : den < 1 := by omega
      simp -dsimp -implicitDefEqProofs only [hw.1,hw.2,decide_true,Bool.and_true,hd1,m23,sF23,ZA,↓reduceIte,ZB,ZC,ZJ,ZK,ZE,ZF,ZG,ZH,ZI,reduceCtorEq,ZD,mwV,↓mwD,mwU]
      exact .none (shiftS_rng vl hr') h1
    · have hw' : (decide (-1000000 ≤ num) && decide (num ≤ 1000000)) = false := by
        rcases Int.lt_or_le num (-1000000) with h | h
        · rw [decide_eq_false (by omega)]; rfl
        · rw [decide_eq_false (p := num ≤ 1000000) (by omega), Bool.and_false]
      simp -dsimp -implicitDefEqProofs only [hw',m23,sF23,ZA,↓reduceIte,ZB,ZC,ZJ,ZK,ZE,ZF,ZG,ZH,ZI,reduceCtorEq,ZD,mwV,↓mwD,mwU]
      exact .none (shiftS_rng vl hr') h1
  have hlo := hr.lo
  have hhi := hr.hi
  have hd1 := hr.d1
  have hnd : ¬ den < 1 := by omega
  have wn : IntKind.i64.wrap (0 - num) = -num := by rw [Int.zero_sub]; exact w64 (by omega) (by omega)
  have g1 := hr.g1
  obtain ⟨D, hD⟩ : ∃ D, D = shD num den := ⟨_, rfl⟩
  obtain ⟨N, hN⟩ : ∃ N, N = shN num den := ⟨_, rfl⟩
  obtain ⟨D1, D2⟩ := hr.D1
  obtain ⟨N1, N2⟩ := hr.N1
  rw [← hD] at D1 D2
  rw [← hN] at N1 N2
  simp -dsimp -implicitDefEqProofs only [hlo,hhi,decide_true,Bool.and_true,hnd,wn,max_abs,m23,sF23,ZA,↓reduceIte,ZB,ZC,ZJ,ZK,ZE,ZF,ZG,ZH,ZI,reduceCtorEq,ZD,mwV,↓mwD,mwU]
  rw [show (Value.int .i64 den) = .int .i64 (den.toNat : Int) by rw [Int.toNat_of_nonneg (by omega)]]
  refine (sgcd_c den.toNat num.natAbs w2).use ?_
  rintro r w3 ⟨rfl, h3⟩
  rw [Int.toNat_of_nonneg (show 0 ≤ den by omega)]
  have gne : ¬ ((Nat.gcd den.toNat num.natAbs : Nat) : Int) = 0 := by have h : 1 ≤ Nat.gcd den.toNat num.natAbs := g1; omega
  have wq1 : IntKind.i64.wrap (num.tdiv ((Nat.gcd den.toNat num.natAbs : Nat) : Int)) = N := by
    have h : num.tdiv ((Nat.gcd den.toNat num.natAbs : Nat) : Int) = N := hN.symm
    rw [h]; exact w64 (by omega) (by omega)
  have wq2 : IntKind.i64.wrap (den.tdiv ((Nat.gcd den.toNat num.natAbs : Nat) : Int)) = D := by
    have h : den.tdiv ((Nat.gcd den.toNat num.natAbs : Nat) : Int) = D := by rw [Int.tdiv_eq_ediv_of_nonneg (by omega), hD]; rfl
    rw [h]; exact w64 (by omega) (by have := hr.big; omega)
  simp -dsimp -implicitDefEqProofs only [m23,sF23,ZA,↓reduceIte,ZB,ZC,ZJ,ZK,ZE,ZF,ZG,ZH,ZI,reduceCtorEq,ZD,mwV,↓mwD,mwU]
  refine mwpB_drawE ?_
  simp -dsimp -implicitDefEqProofs only [gne,wq1,wq2,m23,sF23,ZA,↓reduceIte,ZB,ZC,ZJ,ZK,ZE,ZF,ZG,ZH,ZI,reduceCtorEq,ZD,mwV,↓mwD,mwU]
  have hx3 : Ext w w3.drew := h1.trans (h3.trans (Ext.drew _))
  refine mwpB_loop (fun e ds w' => ∃ (k : Nat) (gs : List Ev) (v : Value), k ≤ l.length ∧ e 39 = .int .i64 k ∧ e 38 = .int .i64 l.length ∧ e 37 = .slice q l.length cap ∧ e 1 = .int .i64 N ∧ e 2 = .int .i64 D ∧ e 6 = v ∧ e 7 = .int .i64 0 ∧ ds = [] ∧ Ext w3.drew w' ∧ OwnE w' w3.drew.heap.size v gs ∧ gs.length = k ∧ (0 < k → 960 % D = 0) ∧ shiftL (shT num den) l = (shiftL (shT num den) (l.drop k)).map (gs ++ ·))
    (fun e _ => l.length - (intOf (e 39)).toNat) ?_ ?_
  · simp -dsimp -implicitDefEqProofs only [m23,sF23,ZA,↓reduceIte,ZB,ZC,ZJ,ZK,ZE,ZF,ZG,ZH,ZI,reduceCtorEq,ZD,mwV,↓mwD,mwU]
    refine ⟨0, [], _, by omega, rfl, rfl, Ext.refl _, OwnE.nil _ _, rfl, fun h => by omega, ?_⟩
    simp
  · rintro e ds w' ⟨k, gs, v, hk, h39, h38, h37, hN1, hD1, h6, h7, rfl, hx, hown, hgl, hq0, hS⟩
    have hX := hx3.trans hx
    by_cases hlt : (k : Int) < l.length
    rotate_left
    · have hkl : k = l.length := by omega
      obtain ⟨ql, nl, cl, rfl⟩ : ∃ q n c, v = .slice q n c := by obtain ⟨p, c, h, _⟩ := hown.sl.shape; exact ⟨_, _, _, h⟩
      simp -dsimp -implicitDefEqProofs only [h39,h38,h37,hN1,hD1,h6,h7,hlt,m23,sF23,ZA,↓reduceIte,ZB,ZC,ZJ,ZK,ZE,ZF,ZG,ZH,ZI,reduceCtorEq,ZD,mwV,↓mwD,mwU]
      refine .some (shiftS_some vl hr ?_ ?_) hX hown.sl
      · by_cases he : l = []
        · exact .inl he
        · exact .inr (by rw [← hD]; exact hq0 (by have := List.length_pos_iff.2 he; omega))
      · rw [hS, hkl, List.drop_length]
        simp [shiftL]
    have hlt' : k < l.length := by omega
    have l300 := ((validS_iff l).1 vl).1
    have hne : l ≠ [] := fun h => by rw [h] at hlt'; simp at hlt'
    obtain ⟨b, o, rfl, E⟩ := (hl.ext hX).get hlt'
    have hb1 : (0 : Int) ≤ k ∧ (k : Int) < l.length := by omega
    have hw := w64_succ hlt' (Nat.le_trans hc1 hc2)
    have hok := hl.ok _ (List.getElem_mem hlt')
    have hbk : beatB l[k].num l[k].den = true := Beats.of vl _ (List.getElem_mem hlt')
    obtain ⟨W, hW, A, x0⟩ := new_bk' w' (evC l[k]) 49
    simp only [evC] at hW
    have tD := t960 D1
    have hDz : ¬ D = 0 := by omega
    by_cases hq : 960 % D = 0
    rotate_left
    · simp -dsimp -implicitDefEqProofs only [h39,h38,h37,hN1,hD1,h6,h7,hlt,hb1,and_self,E.c0,E.c1,E.c2,E.c3,E.c4,E.c5,E.c6,E.c7,E.c8,E.c9,← hW,hDz,tD,hq,m23,sF23,ZA,↓reduceIte,ZB,ZC,ZJ,ZK,ZE,ZF,ZG,ZH,ZI,reduceCtorEq,ZD,mwV,↓mwD,mwU]
      exact .none (shiftS_bad vl hr hne (by rw [← hD]; exact hq)) (hX.trans x0)
    simp -dsimp -implicitDefEqProofs only [h39,h38,h37,hN1,hD1,h6,h7,hlt,hb1,and_self,E.c0,E.c1,E.c2,E.c3,E.c4,E.c5,E.c6,E.c7,E.c8,E.c9,← hW,hDz,tD,hq,m23,sF23,ZA,↓reduceIte,ZB,ZC,ZJ,ZK,ZE,ZF,ZG,ZH,ZI,reduceCtorEq,ZD,mwV,↓mwD,mwU]
    clear hW
    have hq' : 960 % shD num den = 0 := by rw [← hD]; exact hq
    obtain ⟨Q1, Q2, _⟩ := hr.q1 hq'
    obtain ⟨T1, T2⟩ := hr.T1 hq'
    obtain ⟨K1, K2⟩ := tick_bd hbk
    obtain ⟨S, hSd⟩ : ∃ S, S = shT num den := ⟨_, rfl⟩
    rw [← hD] at Q1 Q2
    rw [← hSd] at T1 T2
    have AD := A.ext (Ext.drew W)
    have a0 := AD.get (o := 0) rfl
    have a1 := AD.get (o := 1) rfl
    have a2 := AD.get (o := 2) rfl
    have a3 := AD.get (o := 3) rfl
    have a4 := AD.get (o := 4) rfl
    have a5 := AD.get (o := 5) rfl
    have a6 := AD.get (o := 6) rfl
    have a7 := AD.get (o := 7) rfl
    have a8 := AD.get (o := 8) rfl
    have a9 := AD.get (o := 9) rfl
    have m1 : IntKind.i64.wrap (960 / D) = 960 / D := w64 (by omega) (by omega)
    have m2 : IntKind.i64.wrap (N * (960 / D)) = S := by
      have h : N * (960 / D) = S := by rw [hSd, hN, hD]; rfl
      rw [h]; exact w64 (by omega) (by omega)
    have m3 : IntKind.i64.wrap (tick l[k] + S) = tick l[k] + S := w64 (by omega) (by omega)
    refine mwpB_drawE ?_
    simp -dsimp -implicitDefEqProofs only [h39,h38,h37,hN1,hD1,h6,h7,a0,a1,a2,a3,a4,a5,a6,a7,a8,a9,hDz,d960,m1,m2,m23,sF23,ZA,↓reduceIte,ZB,ZC,ZJ,ZK,ZE,ZF,ZG,ZH,ZI,reduceCtorEq,ZD,mwV,↓mwD,mwU]
    refine (tick_c l[k] W.drew hbk).use ?_
    rintro r w4 ⟨rfl, h4⟩
    obtain ⟨t, ht⟩ : ∃ t, t = tick l[k] + S := ⟨_, rfl⟩
    have t1 : -2000000000 ≤ t ∧ t ≤ 2000000000 := by omega
    have m4 : IntKind.i64.wrap (0 - t) = -t := by rw [Int.zero_sub]; exact w64 (by omega) (by omega)
    have m3' : IntKind.i64.wrap (tick l[k] + S) = t := by rw [m3, ht]
    simp -dsimp -implicitDefEqProofs only [h39,h38,h37,hN1,hD1,h6,h7,m3',h4,m4,max_abs,m23,sF23,ZA,↓reduceIte,ZB,ZC,ZJ,ZK,ZE,ZF,ZG,ZH,ZI,reduceCtorEq,ZD,mwV,↓mwD,mwU]
    have gc := sgcd_c 960 t.natAbs w4
    rw [show ((960 : Nat) : Int) = 960 from rfl] at gc
    refine gc.use ?_
    rintro r w5 ⟨rfl, h5⟩
    obtain ⟨G, hG⟩ : ∃ G : Nat, G = Nat.gcd 960 t.natAbs := ⟨_, rfl⟩
    have G1 : 1 ≤ G := hG ▸ gcd960_pos _
    have G2 : G ≤ 960 := hG ▸ Nat.le_of_dvd (by decide) (Nat.gcd_dvd_left _ _)
    rw [← hG]
    have gz : ¬ (G : Int) = 0 := by omega
    obtain ⟨u1, u2⟩ := tdiv_abs (g := G) t1.1 t1.2 (by decide)
    have hd9 : (960 : Int).tdiv (G : Int) = 960 / (G : Int) := Int.tdiv_eq_ediv_of_nonneg (by decide)
    have d91 : (0 : Int) ≤ 960 / (G : Int) := Int.ediv_nonneg (by decide) (by omega)
    have d92 : (960 : Int) / (G : Int) ≤ 960 := Int.ediv_le_self _ (by decide)
    have n2 : IntKind.i64.wrap ((960 : Int).tdiv (G : Int)) = 960 / (G : Int) := by rw [hd9]; exact w64 (by omega) (by omega)
    obtain ⟨y, hy⟩ : ∃ y, y = atTick l[k] t := ⟨_, rfl⟩
    have yn : y.num = t.tdiv (G : Int) := by rw [hy, hG]; rfl
    have yd : y.den = 960 / (G : Int) := by rw [hy, hG]; rfl
    have n1 : IntKind.i64.wrap (t.tdiv (G : Int)) = y.num := by rw [yn]; exact w64 (by omega) (by omega)
    rw [← yn] at u1 u2
    rw [← yd] at n2 d91 d92
    have B5 : Bk w5.drew w'.heap.size (evC l[k]) 49 := AD.ext (h4.trans (h5.trans (Ext.drew w5)))
    have b0 := B5.get (o := 0) rfl
    have B6 := B5.set 0 (.int .i64 y.num)
    have b1 := B6.get (o := 1) rfl
    have B7 := B6.set 1 (.int .i64 y.den)
    have f0 := B5.frozen 0
    have f1 := B6.frozen 1
    obtain ⟨W2, hW2⟩ : ∃ W2, W2 = (w5.drew.setCell ⟨w'.heap.size, 0, none⟩ (.int .i64 y.num)).setCell ⟨w'.heap.size, 1, none⟩ (.int .i64 y.den) := ⟨_, rfl⟩
    have xd : Ext w' w5.drew := x0.trans ((Ext.drew W).trans (h4.trans (h5.trans (Ext.drew w5))))
    have xW2 : Ext w' W2 := by rw [hW2]; exact Ext.setCell (Ext.setCell xd (Nat.le_refl _) _) (Nat.le_refl _) _
    have C : Bk W2 w'.heap.size (evC y) 49 := by
      rw [hW2]
      have e : ((evC l[k]).set 0 (.int .i64 y.num)).set 1 (.int .i64 y.den) = evC y := by rw [hy]; rfl
      rw [← e]; exact B7
    have hE : shiftE (shT num den) l[k] = if beatB y.num y.den = true then some y else none := by rw [hy, ht, hSd]; rfl
    rw [shiftL_step hlt', hE] at hS
    have c0 := C.get (o := 0) rfl
    have c1 := C.get (o := 1) rfl
    simp -dsimp -implicitDefEqProofs only [m23,sF23,ZA,↓reduceIte,ZB,ZC,ZJ,ZK,ZE,ZF,ZG,ZH,ZI,reduceCtorEq,ZD,mwV,↓mwD,mwU]
    refine mwpB_drawE ?_
    simp -dsimp -implicitDefEqProofs only [gz,n1,n2,b0,b1,f0,f1,← hW2,c0,c1,m23,sF23,ZA,↓reduceIte,ZB,ZC,ZJ,ZK,ZE,ZF,ZG,ZH,ZI,reduceCtorEq,ZD,mwV,↓mwD,mwU]
    refine (sbeat_c y.num y.den W2 ⟨by omega, by omega⟩ ⟨by omega, by omega⟩).use ?_
    rintro r w6 ⟨rfl, h6'⟩
    have xw6 := xW2.trans h6'
    cases hby : beatB y.num y.den
    · simp -dsimp -implicitDefEqProofs only [h39,h38,h37,hN1,hD1,h6,h7,m23,sF23,ZA,↓reduceIte,ZB,ZC,ZJ,ZK,ZE,ZF,ZG,ZH,ZI,reduceCtorEq,ZD,mwV,↓mwD,mwU]
      refine .none (shiftS_none vl hr hne ?_) (hX.trans xw6)
      rw [hS, hby]; rfl
    rw [hby, if_pos rfl] at hE hS
    have hyok := shiftE_ok hok hE
    obtain ⟨v', w7, happ, hown7, hext7⟩ := append_ev (hown.ext xw6) y hyok (by omega) (hx.trans xw6).size
    obtain ⟨ql, nl, cl, rfl⟩ : ∃ q n c, v = .slice q n c := by obtain ⟨p, c, h, _⟩ := hown.sl.shape; exact ⟨_, _, _, h⟩
    have C6 := C.ext h6'
    have g0 := C6.get (o := 0) rfl
    have g1' := C6.get (o := 1) rfl
    have g2 := C6.get (o := 2) rfl
    have g3 := C6.get (o := 3) rfl
    have g4 := C6.get (o := 4) rfl
    have g5 := C6.get (o := 5) rfl
    have g6 := C6.get (o := 6) rfl
    have g7 := C6.get (o := 7) rfl
    have g8 := C6.get (o := 8) rfl
    have g9 := C6.get (o := 9) rfl
    simp -dsimp -implicitDefEqProofs only [h39,h38,h37,hN1,hD1,h6,h7,g0,g1',g2,g3,g4,g5,g6,g7,g8,g9,bs_ev,m23,sF23,ZA,↓reduceIte,ZB,ZC,ZJ,ZK,ZE,ZF,ZG,ZH,ZI,reduceCtorEq,ZD,mwV,↓mwD,mwU]
    refine appB.mk happ ?_
    simp -dsimp -implicitDefEqProofs only [h39,h38,h37,hN1,hD1,h6,h7,hw,m23,sF23,ZA,↓reduceIte,ZB,ZC,ZJ,ZK,ZE,ZF,ZG,ZH,ZI,reduceCtorEq,ZD,mwV,↓mwD,mwU]
    refine ⟨⟨k + 1, gs ++ [y], v', by omega, rfl, rfl, hext7 (hx.trans xw6) (Nat.le_refl _), hown7, by rw [List.length_append, hgl]; rfl, fun _ => hq, ?_⟩, by simp only [intOf]; omega⟩
    rw [hS]
    cases shiftL (shT num den) (l.drop (k + 1)) <;> simp
end Go.Proofs.YtdkdibeimeaakabGreatDoor

/- Layer 32: a move of a score by a beat, by the reference. -/
import Derived.Test.YtdkdibeimeaakabGreatDoorQsScI

namespace Go.Proofs.YtdkdibeimeaakabGreatDoor
open Go.RowKit
open Nat renaming reduceEqDiff → ZA, reduceAdd → ZB, reduceMul → ZC, reduceSub → ZD
open Int renaming reduceToNat → ZE, reduceEq → ZF, reduceLT → ZG, reduceLE → ZH, reduceNeg → ZI
open Go.Value renaming oneCell' → ZK, cells → ZJ
set_option linter.unusedSimpArgs false
set_option linter.unusedVariables false
set_option maxHeartbeats 4000000 in
theorem rShift_c (l : List Ev) (v : Value) (num den : Int) (w : World) (hl : SlE w v l) (hn : inE num) (hd : inE den) : Rets Go.Proofs.Tryz.prog 24 #[v, .int .i64 num, .int .i64 den] w (EvQ (shiftS l num den) w) := by
  obtain ⟨q, cap, rfl, hc1, hc2⟩ := hl.shape
  refine en24 ?_
  simp -dsimp -implicitDefEqProofs only [m24,sF24,ZA,↓reduceIte,ZB,ZC,ZJ,ZK,ZE,ZF,ZG,ZH,ZI,reduceCtorEq,ZD,mwV,↓mwD,mwU]
  refine (rValid_c l _ w hl).use ?_
  rintro r w2 ⟨rfl, h1⟩
  cases vl : validS l
  · simp -dsimp -implicitDefEqProofs only [m24,sF24,ZA,↓reduceIte,ZB,ZC,ZJ,ZK,ZE,ZF,ZG,ZH,ZI,reduceCtorEq,ZD,mwV,↓mwD,mwU]
    exact .none (shiftS_inv vl) h1
  by_cases hr : ShIn num den
  rotate_left
  · have hr' : num < -1000000 ∨ 1000000 < num ∨ den < 1 := by
      rcases Int.lt_or_le num (-1000000) with h | h
      · exact .inl h
      · rcases Int.lt_or_le 1000000 num with h' | h'
        · exact .inr (.inl h')
        · rcases Int.lt_or_le den 1 with h2 | h2
          · exact .inr (.inr h2)
          · exact absurd ⟨h, h', h2, hd.2⟩ hr
    by_cases ha : num < -1000000
    · simp -dsimp -implicitDefEqProofs only [ha,m24,sF24,ZA,↓reduceIte,ZB,ZC,ZJ,ZK,ZE,ZF,ZG,ZH,ZI,reduceCtorEq,ZD,mwV,↓mwD,mwU]
      exact .none (shiftS_rng vl hr') h1
    by_cases hb : 1000000 < num
    · simp -dsimp -implicitDefEqProofs only [ha,hb,m24,sF24,ZA,↓reduceIte,ZB,ZC,ZJ,ZK,ZE,ZF,ZG,ZH,ZI,reduceCtorEq,ZD,mwV,↓mwD,mwU]
      exact .none (shiftS_rng vl hr') h1
    have hc : den < 1 := by omega
    simp -dsimp -implicitDefEqProofs only [ha,hb,hc,m24,sF24,ZA,↓reduceIte,ZB,ZC,ZJ,ZK,ZE,ZF,ZG,ZH,ZI,reduceCtorEq,ZD,mwV,↓mwD,mwU]
    exact .none (shiftS_rng vl hr') h1
  have hlo := hr.lo
  have hhi := hr.hi
  have hd1 := hr.d1
  have hnd : ¬ den < 1 := by omega
  have hna : ¬ num < -1000000 := by omega
  have hnb : ¬ 1000000 < num := by omega
  have wn : IntKind.i64.wrap (0 - num) = -num := by rw [Int.zero_sub]; exact w64 (by omega) (by omega)
  have g1 := hr.g1
  obtain ⟨D, hD⟩ : ∃ D, D = shD num den := ⟨_, rfl⟩
  obtain ⟨N, hN⟩ : ∃ N, N = shN num den := ⟨_, rfl⟩
  obtain ⟨D1, D2⟩ := hr.D1
  obtain ⟨N1, N2⟩ := hr.N1
  rw [← hD] at D1 D2
  rw [← hN] at N1 N2
  simp -dsimp -implicitDefEqProofs only [hna,hnb,hnd,wn,max_abs,m24,sF24,ZA,↓reduceIte,ZB,ZC,ZJ,ZK,ZE,ZF,ZG,ZH,ZI,reduceCtorEq,ZD,mwV,↓mwD,mwU]
  rw [show (Value.int .i64 den) = .int .i64 (den.toNat : Int) by rw [Int.toNat_of_nonneg (by omega)]]
  refine (rgcd_c den.toNat num.natAbs w2).use ?_
  rintro r w3 ⟨rfl, h3⟩
  rw [Int.toNat_of_nonneg (show 0 ≤ den by omega)]
  have gne : ¬ ((Nat.gcd den.toNat num.natAbs : Nat) : Int) = 0 := by have h : 1 ≤ Nat.gcd den.toNat num.natAbs := g1; omega
  have wq1 : IntKind.i64.wrap (num.tdiv ((Nat.gcd den.toNat num.natAbs : Nat) : Int)) = N := by
    have h : num.tdiv ((Nat.gcd den.toNat num.natAbs : Nat) : Int) = N := hN.symm
    rw [h]; exact w64 (by omega) (by omega)
  have wq2 : IntKind.i64.wrap (den.tdiv ((Nat.gcd den.toNat num.natAbs : Nat) : Int)) = D := by
    have h : den.tdiv ((Nat.gcd den.toNat num.natAbs : Nat) : Int) = D := by rw [Int.tdiv_eq_ediv_of_nonneg (by omega), hD]; rfl
    rw [h]; exact w64 (by omega) (by have := hr.big; omega)
  simp -dsimp -implicitDefEqProofs only [m24,sF24,ZA,↓reduceIte,ZB,ZC,ZJ,ZK,ZE,ZF,ZG,ZH,ZI,reduceCtorEq,ZD,mwV,↓mwD,mwU]
  refine mwpB_drawE ?_
  simp -dsimp -implicitDefEqProofs only [gne,wq1,wq2,m24,sF24,ZA,↓reduceIte,ZB,ZC,ZJ,ZK,ZE,ZF,ZG,ZH,ZI,reduceCtorEq,ZD,mwV,↓mwD,mwU]
  have hx3 : Ext w w3.drew := h1.trans (h3.trans (Ext.drew _))
  have l300 := ((validS_iff l).1 vl).1
  refine mwpB_loop (fun e ds w' => ∃ (k : Nat) (gs : List Ev) (v : Value), k ≤ l.length ∧ e 10 = .int .i64 k ∧ e 0 = .slice q l.length cap ∧ e 1 = .int .i64 N ∧ e 2 = .int .i64 D ∧ e 9 = v ∧ ds = [] ∧ Ext w3.drew w' ∧ OwnE w' w3.drew.heap.size v gs ∧ gs.length = k ∧ (0 < k → 960 % D = 0) ∧ shiftL (shT num den) l = (shiftL (shT num den) (l.drop k)).map (gs ++ ·))
    (fun e _ => l.length - (intOf (e 10)).toNat) ?_ ?_
  · simp -dsimp -implicitDefEqProofs only [m24,sF24,ZA,↓reduceIte,ZB,ZC,ZJ,ZK,ZE,ZF,ZG,ZH,ZI,reduceCtorEq,ZD,mwV,↓mwD,mwU]
    refine ⟨0, [], _, by omega, rfl, rfl, Ext.refl _, OwnE.nil _ _, rfl, fun h => by omega, ?_⟩
    simp
  · rintro e ds w' ⟨k, gs, v, hk, h10, h0, hN1, hD1, h9, rfl, hx, hown, hgl, hq0, hS⟩
    have hX := hx3.trans hx
    by_cases hlt : (k : Int) < l.length
    rotate_left
    · have hkl : k = l.length := by omega
      obtain ⟨ql, nl, cl, rfl⟩ : ∃ q n c, v = .slice q n c := by obtain ⟨p, c, h, _⟩ := hown.sl.shape; exact ⟨_, _, _, h⟩
      simp -dsimp -implicitDefEqProofs only [h10,h0,hN1,hD1,h9,hlt,m24,sF24,ZA,↓reduceIte,ZB,ZC,ZJ,ZK,ZE,ZF,ZG,ZH,ZI,reduceCtorEq,ZD,mwV,↓mwD,mwU]
      refine .some (shiftS_some vl hr ?_ ?_) hX hown.sl
      · by_cases he : l = []
        · exact .inl he
        · exact .inr (by rw [← hD]; exact hq0 (by have := List.length_pos_iff.2 he; omega))
      · rw [hS, hkl, List.drop_length]
        simp [shiftL]
    have hlt' : k < l.length := by omega
    have hne : l ≠ [] := fun h => by rw [h] at hlt'; simp at hlt'
    obtain ⟨b, o, rfl, E⟩ := (hl.ext hX).get hlt'
    have hb1 : (0 : Int) ≤ k ∧ (k : Int) < l.length := by omega
    have hw := w64_succ hlt' (Nat.le_trans hc1 hc2)
    have hok := hl.ok _ (List.getElem_mem hlt')
    have hbk : beatB l[k].num l[k].den = true := Beats.of vl _ (List.getElem_mem hlt')
    obtain ⟨W, hW, A, x0⟩ := new_bk' w' (evC l[k]) 49
    simp only [evC] at hW
    have tD := t960 D1
    have hDz : ¬ D = 0 := by omega
    by_cases hq : 960 % D = 0
    rotate_left
    · by_cases hD9 : 960 < D
      · simp -dsimp -implicitDefEqProofs only [h10,h0,hN1,hD1,h9,hlt,hDz,tD,hq,hD9,m24,sF24,ZA,↓reduceIte,ZB,ZC,ZJ,ZK,ZE,ZF,ZG,ZH,ZI,reduceCtorEq,ZD,mwV,↓mwD,mwU]
        exact .none (shiftS_bad vl hr hne (by rw [← hD]; exact hq)) hX
      · simp -dsimp -implicitDefEqProofs only [h10,h0,hN1,hD1,h9,hlt,hDz,tD,hq,hD9,m24,sF24,ZA,↓reduceIte,ZB,ZC,ZJ,ZK,ZE,ZF,ZG,ZH,ZI,reduceCtorEq,ZD,mwV,↓mwD,mwU]
        exact .none (shiftS_bad vl hr hne (by rw [← hD]; exact hq)) hX
    have hq' : 960 % shD num den = 0 := by rw [← hD]; exact hq
    obtain ⟨Q1, Q2, Q3⟩ := hr.q1 hq'
    rw [← hD] at Q1 Q2 Q3
    have hD9 : ¬ 960 < D := by omega
    obtain ⟨X1, X2, X3, X4, _⟩ := beat_iff.1 hbk
    obtain ⟨X5, _, _, _⟩ := den_mul X3 X4
    obtain ⟨p1, p2⟩ := mul_le_abs (a := l[k].num) (b := D) (m := 1000000) (n := 960) (by omega) X2 (by omega) Q3 (by decide)
    obtain ⟨p3, p4⟩ := mul_le_abs (a := N) (b := l[k].den) (m := 1000000) (n := 960) N1 N2 (by omega) X5 (by decide)
    obtain ⟨_, p5⟩ := mul_le_abs (a := l[k].den) (b := D) (m := 960) (n := 960) (by omega) X5 (by omega) Q3 (by decide)
    have p6 : 1 ≤ l[k].den * D := Int.le_trans (by decide) (Int.mul_le_mul X3 D1 (by decide) (by omega))
    have a0 := A.get (o := 0) rfl
    have a1 := A.get (o := 1) rfl
    have a0' := (A.ext (Ext.drew W)).get (o := 0) rfl
    have a1' := (A.ext (Ext.drew W)).get (o := 1) rfl
    have m1 : IntKind.i64.wrap (l[k].num * D) = l[k].num * D := w64 (by omega) (by omega)
    have m2 : IntKind.i64.wrap (N * l[k].den) = N * l[k].den := w64 (by omega) (by omega)
    have m3 : IntKind.i64.wrap (l[k].num * D + N * l[k].den) = l[k].num * D + N * l[k].den := w64 (by omega) (by omega)
    have m4 : IntKind.i64.wrap (l[k].den * D) = l[k].den * D := w64 (by omega) (by omega)
    have hR : shiftE (shT num den) l[k] = shiftR N D l[k] := by rw [hN, hD]; exact (shift_ref hbk hr.D1.1 hq').symm
    unfold shiftR at hR
    simp only at hR
    generalize hnn : l[k].num * D + N * l[k].den = n at *
    generalize hdd : l[k].den * D = d at *
    rw [shiftL_step hlt', hR] at hS
    simp -dsimp -implicitDefEqProofs only [h10,h0,hN1,hD1,h9,hlt,hb1,and_self,E.c0,E.c1,E.c2,E.c3,E.c4,E.c5,E.c6,E.c7,E.c8,E.c9,← hW,hDz,tD,hq,hD9,a0,a1,m1,m2,m3,m4,m24,sF24,ZA,↓reduceIte,ZB,ZC,ZJ,ZK,ZE,ZF,ZG,ZH,ZI,reduceCtorEq,ZD,mwV,↓mwD,mwU]
    clear hW
    refine mwpB_drawE ?_
    by_cases hneg : n < 0
    · simp -dsimp -implicitDefEqProofs only [h10,h0,hN1,hD1,h9,a0',a1',m1,m2,m3,m4,hneg,hnn,hdd,m24,sF24,ZA,↓reduceIte,ZB,ZC,ZJ,ZK,ZE,ZF,ZG,ZH,ZI,reduceCtorEq,ZD,mwV,↓mwD,mwU]
      refine .none (shiftS_none vl hr hne ?_) (hX.trans (x0.trans (Ext.drew W)))
      rw [hS, if_pos hneg]; rfl
    simp -dsimp -implicitDefEqProofs only [h10,h0,hN1,hD1,h9,a0',a1',m1,m2,m3,m4,hneg,hnn,hdd,m24,sF24,ZA,↓reduceIte,ZB,ZC,ZJ,ZK,ZE,ZF,ZG,ZH,ZI,reduceCtorEq,ZD,mwV,↓mwD,mwU]
    rw [if_neg hneg] at hS hR
    rw [show (Value.int .i64 d) = .int .i64 (d.toNat : Int) by rw [Int.toNat_of_nonneg (by omega)], show (Value.int .i64 n) = .int .i64 (n.toNat : Int) by rw [Int.toNat_of_nonneg (by omega)]]
    refine (rgcd_c d.toNat n.toNat W.drew).use ?_
    rintro r w5 ⟨rfl, h5⟩
    rw [Int.toNat_of_nonneg (show 0 ≤ n by omega), Int.toNat_of_nonneg (show 0 ≤ d by omega)]
    obtain ⟨G, hG⟩ : ∃ G : Nat, G = Nat.gcd d.toNat n.toNat := ⟨_, rfl⟩
    have G1 : 1 ≤ G := hG ▸ Nat.gcd_pos_of_pos_left _ (by omega)
    rw [← hG] at hS hR ⊢
    have gz : ¬ (G : Int) = 0 := by omega
    have u0 : n.tdiv (G : Int) = n / (G : Int) := Int.tdiv_eq_ediv_of_nonneg (by omega)
    have u1 : 0 ≤ n / (G : Int) := Int.ediv_nonneg (by omega) (by omega)
    have u2 : n / (G : Int) ≤ n := Int.ediv_le_self _ (by omega)
    have d0 : d.tdiv (G : Int) = d / (G : Int) := Int.tdiv_eq_ediv_of_nonneg (by omega)
    have d91 : 0 ≤ d / (G : Int) := Int.ediv_nonneg (by omega) (by omega)
    have d92 : d / (G : Int) ≤ d := Int.ediv_le_self _ (by omega)
    obtain ⟨y, hy⟩ : ∃ y : Ev, y = { l[k] with num := n / (G : Int), den := d / (G : Int) } := ⟨_, rfl⟩
    have yn : y.num = n / (G : Int) := by rw [hy]
    have yd : y.den = d / (G : Int) := by rw [hy]
    have n1 : IntKind.i64.wrap (n.tdiv (G : Int)) = y.num := by rw [yn, u0]; exact w64 (by omega) (by omega)
    have n2 : IntKind.i64.wrap (d.tdiv (G : Int)) = y.den := by rw [yd, d0]; exact w64 (by omega) (by omega)
    rw [← hy, ← yn, ← yd] at hS hR
    rw [← yn] at u1 u2
    rw [← yd] at d91 d92
    have B5 : Bk w5.drew w'.heap.size (evC l[k]) 49 := A.ext ((Ext.drew W).trans (h5.trans (Ext.drew w5)))
    have b0 := B5.get (o := 0) rfl
    have B6 := B5.set 0 (.int .i64 y.num)
    have b1 := B6.get (o := 1) rfl
    have B7 := B6.set 1 (.int .i64 y.den)
    have f0 := B5.frozen 0
    have f1 := B6.frozen 1
    obtain ⟨W2, hW2⟩ : ∃ W2, W2 = (w5.drew.setCell ⟨w'.heap.size, 0, none⟩ (.int .i64 y.num)).setCell ⟨w'.heap.size, 1, none⟩ (.int .i64 y.den) := ⟨_, rfl⟩
    have xd : Ext w' w5.drew := x0.trans ((Ext.drew W).trans (h5.trans (Ext.drew w5)))
    have xW2 : Ext w' W2 := by rw [hW2]; exact Ext.setCell (Ext.setCell xd (Nat.le_refl _) _) (Nat.le_refl _) _
    have C : Bk W2 w'.heap.size (evC y) 49 := by
      rw [hW2]
      have e : ((evC l[k]).set 0 (.int .i64 y.num)).set 1 (.int .i64 y.den) = evC y := by rw [hy]; rfl
      rw [← e]; exact B7
    have c0 := C.get (o := 0) rfl
    have c1 := C.get (o := 1) rfl
    simp -dsimp -implicitDefEqProofs only [m24,sF24,ZA,↓reduceIte,ZB,ZC,ZJ,ZK,ZE,ZF,ZG,ZH,ZI,reduceCtorEq,ZD,mwV,↓mwD,mwU]
    refine mwpB_drawE ?_
    simp -dsimp -implicitDefEqProofs only [gz,n1,n2,b0,b1,f0,f1,← hW2,c0,c1,m24,sF24,ZA,↓reduceIte,ZB,ZC,ZJ,ZK,ZE,ZF,ZG,ZH,ZI,reduceCtorEq,ZD,mwV,↓mwD,mwU]
    refine (rbeat_c y.num y.den W2 ⟨by omega, by omega⟩ ⟨by omega, by omega⟩).use ?_
    rintro r w6 ⟨rfl, h6'⟩
    have xw6 := xW2.trans h6'
    cases hby : beatB y.num y.den
    · simp -dsimp -implicitDefEqProofs only [h10,h0,hN1,hD1,h9,m24,sF24,ZA,↓reduceIte,ZB,ZC,ZJ,ZK,ZE,ZF,ZG,ZH,ZI,reduceCtorEq,ZD,mwV,↓mwD,mwU]
      refine .none (shiftS_none vl hr hne ?_) (hX.trans xw6)
      rw [hS, hby]; rfl
    rw [hby, if_pos rfl] at hR hS
    have hyok := shiftE_ok hok hR
    obtain ⟨v', w7, happ, hown7, hext7⟩ := append_ev (hown.ext xw6) y hyok (by omega) (hx.trans xw6).size
    obtain ⟨ql, nl, cl, rfl⟩ : ∃ q n c, v = .slice q n c := by obtain ⟨p, c, h, _⟩ := hown.sl.shape; exact ⟨_, _, _, h⟩
    have C6 := C.ext h6'
    have g0 := C6.get (o := 0) rfl
    have g1' := C6.get (o := 1) rfl
    have g2 := C6.get (o := 2) rfl
    have g3 := C6.get (o := 3) rfl
    have g4 := C6.get (o := 4) rfl
    have g5 := C6.get (o := 5) rfl
    have g6 := C6.get (o := 6) rfl
    have g7 := C6.get (o := 7) rfl
    have g8 := C6.get (o := 8) rfl
    have g9 := C6.get (o := 9) rfl
    simp -dsimp -implicitDefEqProofs only [h10,h0,hN1,hD1,h9,g0,g1',g2,g3,g4,g5,g6,g7,g8,g9,bs_ev,m24,sF24,ZA,↓reduceIte,ZB,ZC,ZJ,ZK,ZE,ZF,ZG,ZH,ZI,reduceCtorEq,ZD,mwV,↓mwD,mwU]
    refine appB.mk happ ?_
    simp -dsimp -implicitDefEqProofs only [h10,h0,hN1,hD1,h9,hw,m24,sF24,ZA,↓reduceIte,ZB,ZC,ZJ,ZK,ZE,ZF,ZG,ZH,ZI,reduceCtorEq,ZD,mwV,↓mwD,mwU]
    refine ⟨⟨k + 1, gs ++ [y], v', by omega, rfl, rfl, hext7 (hx.trans xw6) (Nat.le_refl _), hown7, by rw [List.length_append, hgl]; rfl, fun _ => hq, ?_⟩, by simp only [intOf]; omega⟩
    rw [hS]
    cases shiftL (shT num den) (l.drop (k + 1)) <;> simp
end Go.Proofs.YtdkdibeimeaakabGreatDoor

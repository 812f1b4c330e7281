/- Layer 32: ticks, and what is a valid order, by the program and by the reference. -/
import Derived.Test.YtdkdibeimeaakabGreatDoorQsScA

namespace Go.Proofs.YtdkdibeimeaakabGreatDoor
open Go.RowKit
open Nat renaming reduceEqDiff → ZA, reduceAdd → ZB, reduceMul → ZC, reduceSub → ZD
open Int renaming reduceToNat → ZE, reduceEq → ZF, reduceLT → ZG, reduceLE → ZH, reduceNeg → ZI
open Go.Value renaming oneCell' → ZK, cells → ZJ
open Go.Proofs.Tryz renaming prog → ZP
set_option linter.unusedSimpArgs false
set_option linter.unusedVariables false
theorem tick_bd {x : Ev} (hb : beatB x.num x.den = true) : 0 ≤ tick x ∧ tick x ≤ 960000000 := by
  obtain ⟨b1, b2, b3, b4, _⟩ := beat_iff.1 hb
  obtain ⟨_, _, e2, e3⟩ := den_mul b3 b4
  unfold tick
  refine ⟨Int.mul_nonneg b1 (by omega), ?_⟩
  calc x.num * (960 / x.den) ≤ 1000000 * (960 / x.den) := Int.mul_le_mul_of_nonneg_right b2 (by omega)
    _ ≤ 1000000 * 960 := Int.mul_le_mul_of_nonneg_left e3 (by omega)
theorem tick_c (x : Ev) (w : World) (hb : beatB x.num x.den = true) : Rets ZP 34 #[evV x] w fun r w' => r = .int .i64 (tick x) ∧ Ext w w' := by
  obtain ⟨b1, b2, b3, b4, _⟩ := beat_iff.1 hb
  obtain ⟨_, _, e2, e3⟩ := den_mul b3 b4
  have hbd := tick_bd hb
  obtain ⟨W, hW, A, x0⟩ := new_bk' w (evC x) 49
  simp only [evC] at hW
  refine en34 ?_
  simp -dsimp -implicitDefEqProofs only [evV,← hW,m34,sF34,ZA,↓reduceIte,ZB,ZC,ZJ,ZK,ZE,ZF,ZG,ZH,ZI,reduceCtorEq,ZD,mwV,↓mwD,mwU]
  have D0 := (Ext.drew W).cell (A.get (o := 0) rfl)
  have D1 := (Ext.drew W).cell (A.get (o := 1) rfl)
  have hn0 : ¬ x.den = 0 := by omega
  have w1 : IntKind.i64.wrap (960 / x.den) = 960 / x.den := w64 (by omega) (by omega)
  have w2 : IntKind.i64.wrap (x.num * (960 / x.den)) = tick x := w64 (n := tick x) (by omega) (by omega)
  refine mwpB_drawE ?_
  simp -dsimp -implicitDefEqProofs only [D0,D1,hn0,not_false_eq_true,d960,w1,w2,m34,sF34,ZA,↓reduceIte,ZB,ZC,ZJ,ZK,ZE,ZF,ZG,ZH,ZI,reduceCtorEq,ZD,mwV,↓mwD,mwU]
  exact x0.trans (Ext.drew W)
theorem okO_iff (o : Od) : okO o = true ↔ (1 ≤ o.d ∧ o.d ≤ 7 ∧ 0 ≤ o.t ∧ o.t ≤ 1000000000 ∧ 1 ≤ o.id ∧ o.id ≤ 1000000000 ∧ 0 ≤ o.to ∧ o.to ≤ 1000000000) ∧ (o.d = 1 ∨ o.syn = eB) ∧ (o.d = 1 ∨ o.d = 2 ∨ o.d = 5 ∨ o.to = 0) ∧ (o.d = 4 ∨ o.d = 7 ∨ o.par = eB) ∧ loD o.d ≤ o.n ∧ o.n ≤ hiD o.d ∧ o.syn.size ≤ 20 ∧ o.par.size ≤ 20 := by
  unfold okO toD paD
  simp only [Bool.and_eq_true,Bool.or_eq_true,decide_eq_true_eq,and_assoc,or_assoc]
theorem okO_no {o : Od} (h : okO o = true → False) : okO o = false := Bool.eq_false_iff.2 h
theorem bv_s1 : buildV ZP 92 [(0, .bool true), (1, .bool true), (4, .int .i64 1)] = some (.agg #[.bool true, .bool true, .bool false, .int .i64 0, .int .i64 1]) := by kernel_rfl
theorem bv_s2 : buildV ZP 92 [(1, .bool true), (4, .int .i64 1)] = some (.agg #[.bool false, .bool true, .bool false, .int .i64 0, .int .i64 1]) := by kernel_rfl
theorem bv_s3 : buildV ZP 92 [] = some (.agg #[.bool false, .bool false, .bool false, .int .i64 0, .int .i64 0]) := by kernel_rfl
theorem bv_s4 : buildV ZP 92 [(2, .bool true), (3, .int .i64 (-1099511627776)), (4, .int .i64 1099511627776)] = some (.agg #[.bool false, .bool false, .bool true, .int .i64 (-1099511627776), .int .i64 1099511627776]) := by kernel_rfl
theorem bv_s6 : buildV ZP 92 [(4, .int .i64 1)] = some (.agg #[.bool false, .bool false, .bool false, .int .i64 0, .int .i64 1]) := by kernel_rfl
theorem bv_s7 : buildV ZP 92 [(2, .bool true), (3, .int .i64 (-1)), (4, .int .i64 15)] = some (.agg #[.bool false, .bool false, .bool true, .int .i64 (-1), .int .i64 15]) := by kernel_rfl
def shapeC : List Value := [.bool false, .bool false, .bool false, .int .i64 0, .int .i64 0,
  .bool true, .bool true, .bool false, .int .i64 0, .int .i64 1, .bool false, .bool true, .bool false, .int .i64 0, .int .i64 1, .bool false, .bool false, .bool false, .int .i64 0, .int .i64 0,
  .bool false, .bool false, .bool true, .int .i64 (-1099511627776), .int .i64 1099511627776, .bool false, .bool true, .bool false, .int .i64 0, .int .i64 1, .bool false, .bool false, .bool false, .int .i64 0, .int .i64 1,
  .bool false, .bool false, .bool true, .int .i64 (-1), .int .i64 15]
theorem bs_shapes : buildS ZP 93 8 [(1, .agg #[.bool true, .bool true, .bool false, .int .i64 0, .int .i64 1]), (2, .agg #[.bool false, .bool true, .bool false, .int .i64 0, .int .i64 1]), (3, .agg #[.bool false, .bool false, .bool false, .int .i64 0, .int .i64 0]),
    (4, .agg #[.bool false, .bool false, .bool true, .int .i64 (-1099511627776), .int .i64 1099511627776]), (5, .agg #[.bool false, .bool true, .bool false, .int .i64 0, .int .i64 1]), (6, .agg #[.bool false, .bool false, .bool false, .int .i64 0, .int .i64 1]), (7, .agg #[.bool false, .bool false, .bool true, .int .i64 (-1), .int .i64 15])] = some (92, shapeC.toArray) := by kernel_rfl
theorem shapes_c (w : World) : Rets ZP 66 #[] w fun r w' => r = .slice (some ⟨w.heap.size, 0, none⟩) 8 8 ∧ w' = w.alloc (.cells shapeC.toArray 92) := by
  refine en66 ?_
  simp -dsimp -implicitDefEqProofs only [bv_s1,bv_s2,bv_s3,bv_s4,bv_s6,bv_s7,bs_shapes,m66,sF66,ZA,↓reduceIte,ZB,ZC,ZJ,ZK,ZE,ZF,ZG,ZH,ZI,reduceCtorEq,ZD,mwV,↓mwD,mwU]
theorem shape_at {w : World} {b : Nat} {d : Int} (S : Bk w b shapeC 92) (h1 : 1 ≤ d) (h2 : d ≤ 7) : ∃ k : Nat, d = k ∧ k < 8 ∧ w.cell? ⟨b, k * 5, none⟩ = some (.bool (decide (d = 1))) ∧ w.cell? ⟨b, k * 5 + 1, none⟩ = some (.bool (toD d)) ∧ w.cell? ⟨b, k * 5 + 2, none⟩ = some (.bool (paD d)) ∧ w.cell? ⟨b, k * 5 + 3, none⟩ = some (.int .i64 (loD d)) ∧ w.cell? ⟨b, k * 5 + 4, none⟩ = some (.int .i64 (hiD d)) := by
  have h7 : d = 1 ∨ d = 2 ∨ d = 3 ∨ d = 4 ∨ d = 5 ∨ d = 6 ∨ d = 7 := by omega
  rcases h7 with rfl | rfl | rfl | rfl | rfl | rfl | rfl
  · exact ⟨1, rfl, by decide, S.get (o := 5) rfl, S.get (o := 6) rfl, S.get (o := 7) rfl, S.get (o := 8) rfl, S.get (o := 9) rfl⟩
  · exact ⟨2, rfl, by decide, S.get (o := 10) rfl, S.get (o := 11) rfl, S.get (o := 12) rfl, S.get (o := 13) rfl, S.get (o := 14) rfl⟩
  · exact ⟨3, rfl, by decide, S.get (o := 15) rfl, S.get (o := 16) rfl, S.get (o := 17) rfl, S.get (o := 18) rfl, S.get (o := 19) rfl⟩
  · exact ⟨4, rfl, by decide, S.get (o := 20) rfl, S.get (o := 21) rfl, S.get (o := 22) rfl, S.get (o := 23) rfl, S.get (o := 24) rfl⟩
  · exact ⟨5, rfl, by decide, S.get (o := 25) rfl, S.get (o := 26) rfl, S.get (o := 27) rfl, S.get (o := 28) rfl, S.get (o := 29) rfl⟩
  · exact ⟨6, rfl, by decide, S.get (o := 30) rfl, S.get (o := 31) rfl, S.get (o := 32) rfl, S.get (o := 33) rfl, S.get (o := 34) rfl⟩
  · exact ⟨7, rfl, by decide, S.get (o := 35) rfl, S.get (o := 36) rfl, S.get (o := 37) rfl, S.get (o := 38) rfl, S.get (o := 39) rfl⟩
set_option maxHeartbeats 4000000 in
theorem svalid_c (x : Od) (w : World) : Rets ZP 35 #[odV x] w fun r w' => r = .bool (okO x) ∧ Ext w w' := by
  obtain ⟨t, d, id, syn, to, n, par⟩ := x
  have no : (okO ⟨t, d, id, syn, to, n, par⟩ = true → False) → okO ⟨t, d, id, syn, to, n, par⟩ = false := okO_no
  have yes := okO_iff ⟨t, d, id, syn, to, n, par⟩
  simp only [eB] at yes
  generalize okO ⟨t, d, id, syn, to, n, par⟩ = res at *
  obtain ⟨W, hW, A, x0⟩ := new_bk' w [.int .i64 t, .int .i64 d, .int .i64 id, .string syn, .int .i64 to, .int .i64 n, .string par] 40
  have A0 := A.get (o := 0) rfl
  have A1 := A.get (o := 1) rfl
  have A2 := A.get (o := 2) rfl
  have A4 := A.get (o := 4) rfl
  refine en35 ?_
  refine mwpB_cut 3 (fun e ds w' => e 1 = .pointer (some ⟨w.heap.size, 0, none⟩) ∧ (∃ bs, e 3 = .pointer (some ⟨bs, 0, none⟩) ∧ Bk w' bs [.bool (decide (d = 1)), .bool (toD d), .bool (paD d), .int .i64 (loD d), .int .i64 (hiD d)] 92) ∧ ds = [] ∧ Ext W w' ∧ (1 ≤ d ∧ d ≤ 7 ∧ 0 ≤ t ∧ t ≤ 1000000000 ∧ 1 ≤ id ∧ id ≤ 1000000000 ∧ 0 ≤ to ∧ to ≤ 1000000000)) ?_ ?_
  · simp -dsimp -implicitDefEqProofs only [odV,headM_zero,headM_seq,← hW,A0,A1,A2,A4,m35,sF35,ZA,↓reduceIte,ZB,ZC,ZJ,ZK,ZE,ZF,ZG,ZH,ZI,reduceCtorEq,ZD,mwV,↓mwD,mwU]
    clear hW
    refine (vwithin_c d 1 7 W).use ?_
    rintro r w1 ⟨rfl, rfl⟩
    cases g1 : (decide (1 ≤ d) && decide (d ≤ 7))
    · simp -dsimp -implicitDefEqProofs only [m35,sF35,ZA,↓reduceIte,ZB,ZC,ZJ,ZK,ZE,ZF,ZG,ZH,ZI,reduceCtorEq,ZD,mwV,↓mwD,mwU]
      have e := no fun h => by
        have h2 := (yes.1 h).1
        have : (decide (1 ≤ d) && decide (d ≤ 7)) = true := by simp only [Bool.and_eq_true,decide_eq_true_eq]; omega
        rw [g1] at this; cases this
      exact ⟨by rw [e], x0⟩
    simp -dsimp -implicitDefEqProofs only [A0,A1,A2,A4,m35,sF35,ZA,↓reduceIte,ZB,ZC,ZJ,ZK,ZE,ZF,ZG,ZH,ZI,reduceCtorEq,ZD,mwV,↓mwD,mwU]
    refine (vwithin_c t 0 1000000000 w1).use ?_
    rintro r w2 ⟨rfl, rfl⟩
    cases g2 : (decide (0 ≤ t) && decide (t ≤ 1000000000))
    · simp -dsimp -implicitDefEqProofs only [m35,sF35,ZA,↓reduceIte,ZB,ZC,ZJ,ZK,ZE,ZF,ZG,ZH,ZI,reduceCtorEq,ZD,mwV,↓mwD,mwU]
      have e := no fun h => by
        have h2 := (yes.1 h).1
        have : (decide (0 ≤ t) && decide (t ≤ 1000000000)) = true := by simp only [Bool.and_eq_true,decide_eq_true_eq]; omega
        rw [g2] at this; cases this
      exact ⟨by rw [e], x0⟩
    simp -dsimp -implicitDefEqProofs only [A0,A1,A2,A4,m35,sF35,ZA,↓reduceIte,ZB,ZC,ZJ,ZK,ZE,ZF,ZG,ZH,ZI,reduceCtorEq,ZD,mwV,↓mwD,mwU]
    refine (vwithin_c id 1 1000000000 w2).use ?_
    rintro r w3 ⟨rfl, rfl⟩
    cases g3 : (decide (1 ≤ id) && decide (id ≤ 1000000000))
    · simp -dsimp -implicitDefEqProofs only [m35,sF35,ZA,↓reduceIte,ZB,ZC,ZJ,ZK,ZE,ZF,ZG,ZH,ZI,reduceCtorEq,ZD,mwV,↓mwD,mwU]
      have e := no fun h => by
        have h2 := (yes.1 h).1
        have : (decide (1 ≤ id) && decide (id ≤ 1000000000)) = true := by simp only [Bool.and_eq_true,decide_eq_true_eq]; omega
        rw [g3] at this; cases this
      exact ⟨by rw [e], x0⟩
    simp -dsimp -implicitDefEqProofs only [A0,A1,A2,A4,m35,sF35,ZA,↓reduceIte,ZB,ZC,ZJ,ZK,ZE,ZF,ZG,ZH,ZI,reduceCtorEq,ZD,mwV,↓mwD,mwU]
    refine (vwithin_c to 0 1000000000 w3).use ?_
    rintro r w4 ⟨rfl, rfl⟩
    cases g4 : (decide (0 ≤ to) && decide (to ≤ 1000000000))
    · simp -dsimp -implicitDefEqProofs only [m35,sF35,ZA,↓reduceIte,ZB,ZC,ZJ,ZK,ZE,ZF,ZG,ZH,ZI,reduceCtorEq,ZD,mwV,↓mwD,mwU]
      have e := no fun h => by
        have h2 := (yes.1 h).1
        have : (decide (0 ≤ to) && decide (to ≤ 1000000000)) = true := by simp only [Bool.and_eq_true,decide_eq_true_eq]; omega
        rw [g4] at this; cases this
      exact ⟨by rw [e], x0⟩
    simp -dsimp -implicitDefEqProofs only [A0,A1,A2,A4,m35,sF35,ZA,↓reduceIte,ZB,ZC,ZJ,ZK,ZE,ZF,ZG,ZH,ZI,reduceCtorEq,ZD,mwV,↓mwD,mwU]
    simp only [Bool.and_eq_true,decide_eq_true_eq] at g1 g2 g3 g4
    refine mwpB_drawE ?_
    have a1 := (Ext.drew w4).cell A1
    simp -dsimp -implicitDefEqProofs only [a1,planEB_two,m35,sF35,ZA,↓reduceIte,ZB,ZC,ZJ,ZK,ZE,ZF,ZG,ZH,ZI,reduceCtorEq,ZD,mwV,↓mwD,mwU]
    refine ⟨?_, ?_⟩
    · refine (shapes_c w4.drew).use ?_
      rintro r w5 ⟨rfl, hw5⟩
      have x5 : Ext w4.drew w5 := by rw [hw5]; exact Ext.alloc _ _
      have S : Bk w5 w4.drew.heap.size shapeC 92 := by rw [hw5]; exact Bk.new _ _ _
      clear hw5
      generalize w4.drew.heap.size = bs at *
      obtain ⟨k, hk, hk8, s0, s1, s2, s3, s4⟩ := shape_at S g1.1 g1.2
      have e1 : (0 : Int) ≤ d ∧ d < 8 := by omega
      have e2 : d.toNat = k := by omega
      simp -dsimp -implicitDefEqProofs only [e1,and_self,e2,s0,s1,s2,s3,s4,x5,planEB_two,m35,sF35,ZA,↓reduceIte,ZB,ZC,ZJ,ZK,ZE,ZF,ZG,ZH,ZI,reduceCtorEq,ZD,mwV,↓mwD,mwU]
      have fin : (∃ b, Value.pointer (some { block := w5.heap.size, off := 0 }) = Value.pointer (some { block := b, off := 0 }) ∧ Bk (w5.alloc (.cells #[.bool (decide (d = 1)), .bool (toD d), .bool (paD d), .int .i64 (loD d), .int .i64 (hiD d)] 92)) b [.bool (decide (d = 1)), .bool (toD d), .bool (paD d), .int .i64 (loD d), .int .i64 (hiD d)] 92) ∧ Ext w4 (w5.alloc (.cells #[.bool (decide (d = 1)), .bool (toD d), .bool (paD d), .int .i64 (loD d), .int .i64 (hiD d)] 92)) ∧ 1 ≤ d ∧ d ≤ 7 ∧ 0 ≤ t ∧ t ≤ 1000000000 ∧ 1 ≤ id ∧ id ≤ 1000000000 ∧ 0 ≤ to ∧ to ≤ 1000000000 :=
        ⟨⟨_, rfl, Bk.new w5 [.bool (decide (d = 1)), .bool (toD d), .bool (paD d), .int .i64 (loD d), .int .i64 (hiD d)] _⟩, (Ext.drew w4).trans (x5.trans (Ext.alloc _ _)), g1.1, g1.2, g2.1, g2.2, g3.1, g3.2, g4⟩
      refine ⟨⟨x5.trans (Ext.alloc _ _), fin⟩, x5.trans (Ext.alloc _ _), ?_⟩
      have t0 := cell_old s0 (.cells #[.bool false, .bool false, .bool false, .int .i64 0, .int .i64 0] 92)
      have t1 := cell_old s1 (.cells #[.bool false, .bool false, .bool false, .int .i64 0, .int .i64 0] 92)
      have t2 := cell_old s2 (.cells #[.bool false, .bool false, .bool false, .int .i64 0, .int .i64 0] 92)
      have t3 := cell_old s3 (.cells #[.bool false, .bool false, .bool false, .int .i64 0, .int .i64 0] 92)
      have t4 := cell_old s4 (.cells #[.bool false, .bool false, .bool false, .int .i64 0, .int .i64 0] 92)
      simp -dsimp -implicitDefEqProofs only [t0,t1,t2,t3,t4,setCell_new,m35,sF35,ZA,↓reduceIte,ZB,ZC,ZJ,ZK,ZE,ZF,ZG,ZH,ZI,reduceCtorEq,ZD,mwV,↓mwD,mwU]
      exact ⟨x5.trans (Ext.alloc _ _), fin⟩
    · have x4 : Ext w4.drew (w4.drew.alloc (.cells #[.bool false, .bool false, .bool false, .int .i64 0, .int .i64 0] 92)) := Ext.alloc _ _
      have B4 := Bk.new w4.drew [.bool false, .bool false, .bool false, .int .i64 0, .int .i64 0] 92
      refine ⟨x4, (shapes_c _).use ?_⟩
      rintro r w5 ⟨rfl, hw5⟩
      have x5 : Ext (w4.drew.alloc (.cells #[.bool false, .bool false, .bool false, .int .i64 0, .int .i64 0] 92)) w5 := by rw [hw5]; exact Ext.alloc _ _
      have S : Bk w5 (w4.drew.alloc (.cells #[.bool false, .bool false, .bool false, .int .i64 0, .int .i64 0] 92)).heap.size shapeC 92 := by rw [hw5]; exact Bk.new _ _ _
      clear hw5
      have B5 := B4.ext x5
      have hlt : (w4.drew.alloc (.cells #[.bool false, .bool false, .bool false, .int .i64 0, .int .i64 0] 92)).heap.size = w4.drew.heap.size + 1 := World.size_alloc _ _
      have hge : w4.heap.size ≤ w4.drew.heap.size := Nat.le_refl _
      generalize hz : (w4.drew.alloc (.cells #[.bool false, .bool false, .bool false, .int .i64 0, .int .i64 0] 92)).heap.size = bs at *
      obtain ⟨k, hk, hk8, s0, s1, s2, s3, s4⟩ := shape_at S g1.1 g1.2
      have e1 : (0 : Int) ≤ d ∧ d < 8 := by omega
      have e2 : d.toNat = k := by omega
      have b0 := B5.get (o := 0) rfl
      have B6 := B5.set 0 (.bool (decide (d = 1)))
      have b1 := B6.get (o := 1) rfl
      have B7 := B6.set 1 (.bool (toD d))
      have b2 := B7.get (o := 2) rfl
      have B8 := B7.set 2 (.bool (paD d))
      have b3 := B8.get (o := 3) rfl
      have B9 := B8.set 3 (.int .i64 (loD d))
      have b4 := B9.get (o := 4) rfl
      have B10 := B9.set 4 (.int .i64 (hiD d))
      have f0 := B5.frozen 0
      have f1 := B6.frozen 1
      have f2 := B7.frozen 2
      have f3 := B8.frozen 3
      have f4 := B9.frozen 4
      have x45 := x4.trans x5
      simp -dsimp -implicitDefEqProofs only [e1,and_self,e2,s0,s1,s2,s3,s4,x45,b0,b1,b2,b3,b4,f0,f1,f2,f3,f4,m35,sF35,ZA,↓reduceIte,ZB,ZC,ZJ,ZK,ZE,ZF,ZG,ZH,ZI,reduceCtorEq,ZD,mwV,↓mwD,mwU]
      exact ⟨⟨_, rfl, B10⟩, Ext.setCell (Ext.setCell (Ext.setCell (Ext.setCell (Ext.setCell ((Ext.drew w4).trans x45) hge _) hge _) hge _) hge _) hge _, g1.1, g1.2, g2.1, g2.2, g3.1, g3.2, g4⟩
  rintro e ds w' ⟨k1, ⟨bs, k3, S⟩, rfl, hx, hb⟩
  have A' := A.ext hx
  have a3 := A'.get (o := 3) rfl
  have a4 := A'.get (o := 4) rfl
  have a5 := A'.get (o := 5) rfl
  have a6 := A'.get (o := 6) rfl
  have s0 := S.get (o := 0) rfl
  have s1 := S.get (o := 1) rfl
  have s2 := S.get (o := 2) rfl
  have s3 := S.get (o := 3) rfl
  have s4 := S.get (o := 4) rfl
  have x1 := x0.trans hx
  have hS : ((decide (d = 1) = true ∧ True) ∨ (decide (d = 1) = false ∧ decide (syn = ⟨#[]⟩) = true)) ∨ (decide (d = 1) = false ∧ decide (syn = ⟨#[]⟩) = false) := by
    cases decide (d = 1) <;> cases decide (syn = ⟨#[]⟩) <;> simp
  have hT : ((toD d = true ∧ True) ∨ (toD d = false ∧ decide (to = 0) = true)) ∨ (toD d = false ∧ decide (to = 0) = false) := by
    cases toD d <;> cases decide (to = 0) <;> simp
  have hP : ((paD d = true ∧ True) ∨ (paD d = false ∧ decide (par = ⟨#[]⟩) = true)) ∨ (paD d = false ∧ decide (par = ⟨#[]⟩) = false) := by
    cases paD d <;> cases decide (par = ⟨#[]⟩) <;> simp
  have tS : ((decide (d = 1) = true ∧ True) ∨ (decide (d = 1) = false ∧ decide (syn = ⟨#[]⟩) = true)) → (d = 1 ∨ syn = ⟨#[]⟩) := fun h => by simpa only [decide_eq_true_eq,and_true] using h.imp (fun q => q) (·.2)
  have tT : ((toD d = true ∧ True) ∨ (toD d = false ∧ decide (to = 0) = true)) → (d = 1 ∨ d = 2 ∨ d = 5 ∨ to = 0) := fun h => by
    have := h.imp (·.1) (·.2)
    unfold toD at this
    simpa only [Bool.or_eq_true,decide_eq_true_eq,or_assoc] using this
  have tP : ((paD d = true ∧ True) ∨ (paD d = false ∧ decide (par = ⟨#[]⟩) = true)) → (d = 4 ∨ d = 7 ∨ par = ⟨#[]⟩) := fun h => by
    have := h.imp (·.1) (·.2)
    unfold paD at this
    simpa only [Bool.or_eq_true,decide_eq_true_eq,or_assoc] using this
  rcases hS with hS | ⟨f0, fs⟩
  rotate_left
  · simp -dsimp -implicitDefEqProofs only [tailM_zero,tailM_seq,k1,k3,s0,a3,f0,fs,binV_eqS,m35,sF35,ZA,↓reduceIte,ZB,ZC,ZJ,ZK,ZE,ZF,ZG,ZH,ZI,reduceCtorEq,ZD,mwV,↓mwD,mwU]
    have e := no fun h => by
      have h2 := (yes.1 h).2.1
      simp only [decide_eq_false_iff_not] at f0 fs
      exact h2.elim f0 fs
    exact ⟨by rw [e], x1⟩
  have uS := tS hS
  rcases hT with hT | ⟨f1, ft⟩
  rotate_left
  · have e := no fun h => by
      have h2 := (yes.1 h).2.2.1
      unfold toD at f1
      simp only [Bool.or_eq_false_iff,decide_eq_false_iff_not] at f1 ft
      omega
    rcases hS with ⟨f0, fs⟩ | ⟨f0, fs⟩
    all_goals (
      simp -dsimp -implicitDefEqProofs only [tailM_zero,tailM_seq,k1,k3,s0,s1,a3,a4,f0,fs,f1,ft,binV_eqS,m35,sF35,ZA,↓reduceIte,ZB,ZC,ZJ,ZK,ZE,ZF,ZG,ZH,ZI,reduceCtorEq,ZD,mwV,↓mwD,mwU]
      exact ⟨by rw [e], x1⟩)
  have uT := tT hT
  rcases hP with hP | ⟨f2, fp⟩
  rotate_left
  · have e := no fun h => by
      have h2 := (yes.1 h).2.2.2.1
      unfold paD at f2
      simp only [Bool.or_eq_false_iff,decide_eq_false_iff_not] at f2 fp
      exact h2.elim f2.1 (·.elim f2.2 fp)
    rcases hS with ⟨f0, fs⟩ | ⟨f0, fs⟩
    all_goals (rcases hT with ⟨f1, ft⟩ | ⟨f1, ft⟩)
    all_goals (
      simp -dsimp -implicitDefEqProofs only [tailM_zero,tailM_seq,k1,k3,s0,s1,s2,a3,a4,a6,f0,fs,f1,ft,f2,fp,binV_eqS,m35,sF35,ZA,↓reduceIte,ZB,ZC,ZJ,ZK,ZE,ZF,ZG,ZH,ZI,reduceCtorEq,ZD,mwV,↓mwD,mwU]
      exact ⟨by rw [e], x1⟩)
  have uP := tP hP
  rcases hS with ⟨f0, fs⟩ | ⟨f0, fs⟩
  all_goals (rcases hT with ⟨f1, ft⟩ | ⟨f1, ft⟩)
  all_goals (rcases hP with ⟨f2, fp⟩ | ⟨f2, fp⟩)
  all_goals (
    simp -dsimp -implicitDefEqProofs only [tailM_zero,tailM_seq,k1,k3,s0,s1,s2,s3,s4,a3,a4,a5,a6,f0,fs,f1,ft,f2,fp,binV_eqS,m35,sF35,ZA,↓reduceIte,ZB,ZC,ZJ,ZK,ZE,ZF,ZG,ZH,ZI,reduceCtorEq,ZD,mwV,↓mwD,mwU]
    refine (vwithin_c n (loD d) (hiD d) w').use ?_
    rintro r w5 ⟨rfl, rfl⟩
    cases g : (decide (loD d ≤ n) && decide (n ≤ hiD d))
    · simp -dsimp -implicitDefEqProofs only [m35,sF35,ZA,↓reduceIte,ZB,ZC,ZJ,ZK,ZE,ZF,ZG,ZH,ZI,reduceCtorEq,ZD,mwV,↓mwD,mwU]
      have e := no fun h => by
        have h2 := (yes.1 h).2.2.2.2
        have : (decide (loD d ≤ n) && decide (n ≤ hiD d)) = true := by simp only [Bool.and_eq_true,decide_eq_true_eq]; exact ⟨h2.1, h2.2.1⟩
        rw [g] at this; cases this
      exact ⟨by rw [e], x1⟩
    simp only [Bool.and_eq_true,decide_eq_true_eq] at g
    by_cases z1 : (syn.size : Int) ≤ 20
    · by_cases z2 : (par.size : Int) ≤ 20
      · simp -dsimp -implicitDefEqProofs only [k1,a3,a6,z1,z2,m35,sF35,ZA,↓reduceIte,ZB,ZC,ZJ,ZK,ZE,ZF,ZG,ZH,ZI,reduceCtorEq,ZD,mwV,↓mwD,mwU]
        have e : res = true := yes.2 ⟨hb, uS, uT, uP, g.1, g.2, by omega, by omega⟩
        exact ⟨by rw [e], x1⟩
      · simp -dsimp -implicitDefEqProofs only [k1,a3,a6,z1,z2,m35,sF35,ZA,↓reduceIte,ZB,ZC,ZJ,ZK,ZE,ZF,ZG,ZH,ZI,reduceCtorEq,ZD,mwV,↓mwD,mwU]
        have e := no fun h => by have h2 := (yes.1 h).2.2.2.2; omega
        exact ⟨by rw [e], x1⟩
    · simp -dsimp -implicitDefEqProofs only [k1,a3,a6,z1,m35,sF35,ZA,↓reduceIte,ZB,ZC,ZJ,ZK,ZE,ZF,ZG,ZH,ZI,reduceCtorEq,ZD,mwV,↓mwD,mwU]
      have e := no fun h => by have h2 := (yes.1 h).2.2.2.2; omega
      exact ⟨by rw [e], x1⟩)
end Go.Proofs.YtdkdibeimeaakabGreatDoor

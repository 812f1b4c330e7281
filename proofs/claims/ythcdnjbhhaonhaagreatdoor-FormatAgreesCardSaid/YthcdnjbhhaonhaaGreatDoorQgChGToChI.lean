/- Layer 02: package format's greatest, common. -/
import Derived.Test.YthcdnjbhhaonhaaGreatDoorQgChF
import Derived.Test.YthcdnjbhhaonhaaGreatDoorQgMwJoin

namespace Go.Proofs.YthcdnjbhhaonhaaGreatDoor
open Go.RowKit
open Nat renaming reduceEqDiff → ZA, reduceAdd → ZB, reduceMul → ZC, reduceSub → ZD
open Int renaming reduceToNat → ZE, reduceEq → ZF, reduceLT → ZG, reduceLE → ZH, reduceNeg → ZI
open Go.Value renaming oneCell' → ZK, cells → ZJ
open Go.Proofs.Tryz renaming prog → ZP
set_option linter.unusedSimpArgs false
theorem gcd_c (x y : Nat) (w : World) (hx : x ≤ 1000000) (hy : y ≤ 1000000) : Rets ZP 159 #[.int .i64 x, .int .i64 y] w fun r w' => r = .int .i64 (Nat.gcd x y : Nat) ∧ Ext w w' := by
  refine en159 ?_
  simp -dsimp -implicitDefEqProofs only [m159,sF159,ZA,↓reduceIte,ZB,ZC,ZJ,ZK,ZE,ZF,ZG,ZH,ZI,reduceCtorEq,ZD,mwV,↓mwD,mwU]
  refine mwpB_loop (fun e ds w' => ∃ m n : Nat, e 0 = .int .i64 m ∧ e 1 = .int .i64 n ∧ ds = [] ∧ Ext w w' ∧ Nat.gcd m n = Nat.gcd x y ∧ m ≤ 1000000 ∧ n ≤ 1000000) (fun e _ => (intOf (e 1)).toNat) ?_ ?_
  · simp -dsimp -implicitDefEqProofs only [m159,sF159,ZA,↓reduceIte,ZB,ZC,ZJ,ZK,ZE,ZF,ZG,ZH,ZI,reduceCtorEq,ZD,mwV,↓mwD,mwU]
    exact ⟨x, y, rfl, rfl, Ext.refl _, rfl, hx, hy⟩
  · rintro e ds w' ⟨m, n, h0, h1, rfl, hxw, hg, hm, hn⟩
    by_cases hp : 0 < n
    · have hp' : (0 : Int) < (n : Int) := by omega
      have hn0 : ¬ (n : Int) = 0 := by omega
      have ht : (m : Int).tmod (n : Int) = ((m % n : Nat) : Int) := rfl
      simp -dsimp -implicitDefEqProofs only [h0,h1,hp',m159,sF159,ZA,↓reduceIte,ZB,ZC,ZJ,ZK,ZE,ZF,ZG,ZH,ZI,reduceCtorEq,ZD,mwV,↓mwD,mwU]
      refine mwpB_drawE ?_
      simp -dsimp -implicitDefEqProofs only [h0,h1,hn0,ht,not_false_eq_true,m159,sF159,ZA,↓reduceIte,ZB,ZC,ZJ,ZK,ZE,ZF,ZG,ZH,ZI,reduceCtorEq,ZD,mwV,↓mwD,mwU]
      have hlt := Nat.mod_lt m hp
      refine ⟨⟨n, m % n, rfl, rfl, hxw.trans (Ext.drew _), ?_, hn, by omega⟩, ?_⟩
      · rw [← hg, Nat.gcd_comm m n, Nat.gcd_rec n m, Nat.gcd_comm]
      · simp only [intOf]; omega
    · obtain rfl : n = 0 := by omega
      simp -dsimp -implicitDefEqProofs only [h0,h1,Int.natCast_zero,Int.lt_irrefl,m159,sF159,ZA,↓reduceIte,ZB,ZC,ZJ,ZK,ZE,ZF,ZG,ZH,ZI,reduceCtorEq,ZD,mwV,↓mwD,mwU]
      refine ⟨?_, hxw⟩
      rw [← hg]; simp
theorem has_stB {c : Ch} (h : Rg c) (n : Int) : stB c.lo c.hi c.stp n = c.has n := by unfold Ch.has stB; rw [h.nl]; rfl
theorem bs_two (x y : Int) : buildS ZP 33 2 [(0, .int .i64 x), (1, .int .i64 y)] = some (3, #[.int .i64 x, .int .i64 y]) := by kernel_rfl
theorem bs_three (x y z : Int) : buildS ZP 33 3 [(0, .int .i64 x), (1, .int .i64 y), (2, .int .i64 z)] = some (3, #[.int .i64 x, .int .i64 y, .int .i64 z]) := by kernel_rfl
theorem common_c (a b : Ch) (oa ob : Bool) (w : World) (ha : Rg a) (hb : Rg b) :
    Rets ZP 135 #[spV a.lo a.hi a.stp (decide (a.k = 3)) oa, spV b.lo b.hi b.stp (decide (b.k = 3)) ob] w fun r w' => Ext w w' ∧ ∃ f, FirstIs a b f ∧
      match f with
      | none => r = .tuple #[.agg #[.int .i64 0, .int .i64 0, .slice none 0 0], .bool false]
      | some f => ∃ v, r = .tuple #[chV ⟨(metR a b f).1, 0, (metR a b f).2⟩ v, .bool true] ∧ w'.ownsRow w.heap.size 3 1 v (metR a b f).2.length (ints (metR a b f).2) := by
  have a0 := ha.l0
  have a1 := ha.l1
  have a2 := ha.l2
  have a3 := ha.s0
  have a4 := ha.s1
  have b0 := hb.l0
  have b1 := hb.l1
  have b2 := hb.l2
  have b3 := hb.s0
  have b4 := hb.s1
  obtain ⟨W, hW, hxW, hsW, BA, BB, BC⟩ : ∃ W, W = ((w.alloc (.cells #[.int .i64 a.lo, .int .i64 a.hi, .int .i64 a.stp, .bool (decide (a.k = 3)), .bool oa] 112)).alloc (.cells #[.int .i64 b.lo, .int .i64 b.hi, .int .i64 b.stp, .bool (decide (b.k = 3)), .bool ob] 112)).alloc (.cells #[.int .i64 0, .int .i64 0, .slice none 0 0] 35) ∧ Ext w W ∧ W.heap.size = w.heap.size + 3 ∧
      Bk W w.heap.size [.int .i64 a.lo, .int .i64 a.hi, .int .i64 a.stp, .bool (decide (a.k = 3)), .bool oa] 112 ∧ Bk W (w.heap.size + 1) [.int .i64 b.lo, .int .i64 b.hi, .int .i64 b.stp, .bool (decide (b.k = 3)), .bool ob] 112 ∧ Bk W (w.heap.size + 2) [.int .i64 0, .int .i64 0, .slice none 0 0] 35 := by
    refine ⟨_, rfl, ((Ext.alloc _ _).trans (Ext.alloc _ _)).trans (Ext.alloc _ _), by simp only [World.size_alloc], ?_, ?_, ?_⟩
    · exact ((Bk.new w [.int .i64 a.lo, .int .i64 a.hi, .int .i64 a.stp, .bool (decide (a.k = 3)), .bool oa] _).ext (Ext.alloc _ _)).ext (Ext.alloc _ _)
    · have := (Bk.new (w.alloc (.cells #[.int .i64 a.lo, .int .i64 a.hi, .int .i64 a.stp, .bool (decide (a.k = 3)), .bool oa] 112)) [.int .i64 b.lo, .int .i64 b.hi, .int .i64 b.stp, .bool (decide (b.k = 3)), .bool ob] 112).ext (Ext.alloc _ (.cells #[.int .i64 0, .int .i64 0, .slice none 0 0] 35))
      rw [World.size_alloc] at this
      exact this
    · have := Bk.new ((w.alloc (.cells #[.int .i64 a.lo, .int .i64 a.hi, .int .i64 a.stp, .bool (decide (a.k = 3)), .bool oa] 112)).alloc (.cells #[.int .i64 b.lo, .int .i64 b.hi, .int .i64 b.stp, .bool (decide (b.k = 3)), .bool ob] 112)) [.int .i64 0, .int .i64 0, .slice none 0 0] 35
      rw [World.size_alloc, World.size_alloc] at this
      exact this
  refine en135 ?_
  refine mwpB_cut 4 (fun e ds w' => ∃ at' : Int, e 8 = .int .i64 at' ∧ e 7 = .int .i64 (min a.hi b.hi) ∧ e 2 = .pointer (some ⟨w.heap.size, 0, none⟩) ∧ e 3 = .pointer (some ⟨w.heap.size + 1, 0, none⟩) ∧ e 4 = .pointer (some ⟨w.heap.size + 2, 0, none⟩) ∧ ds = [] ∧ Ext w w' ∧ w.heap.size + 3 ≤ w'.heap.size ∧
    Bk w' w.heap.size [.int .i64 a.lo, .int .i64 a.hi, .int .i64 a.stp, .bool (decide (a.k = 3)), .bool oa] 112 ∧ Bk w' (w.heap.size + 1) [.int .i64 b.lo, .int .i64 b.hi, .int .i64 b.stp, .bool (decide (b.k = 3)), .bool ob] 112 ∧ Bk w' (w.heap.size + 2) [.int .i64 0, .int .i64 0, .slice none 0 0] 35 ∧
    Stand a b at' ∧ at' ≤ 1002000000 ∧ (min a.hi b.hi < at' ∨ b.has at' = true ∨ max a.lo b.lo + b.stp * a.stp ≤ at')) ?_ ?_
  · simp -dsimp -implicitDefEqProofs only [spV,headM_zero,headM_seq,m135,sF135,ZA,↓reduceIte,ZB,ZC,ZJ,ZK,ZE,ZF,ZG,ZH,ZI,reduceCtorEq,ZD,mwV,↓mwD,mwU]
    simp only [World.size_alloc,Nat.add_assoc,ZB]
    rw [← hW]
    clear hW
    have c0 := BA.get (o := 0) rfl
    have c1 := BA.get (o := 1) rfl
    have c2 := BA.get (o := 2) rfl
    have d0 := BB.get (o := 0) rfl
    have d1 := BB.get (o := 1) rfl
    have e1 : (if a.lo < b.lo then b.lo else a.lo) = max a.lo b.lo := by split <;> omega
    have e2 : (if b.hi < a.hi then b.hi else a.hi) = min a.hi b.hi := by split <;> omega
    have e3 : (if max a.lo b.lo - a.lo < 0 then 0 else max a.lo b.lo - a.lo) = max a.lo b.lo - a.lo := by split <;> omega
    obtain ⟨hst, hlt⟩ := stand_start ha hb
    have hq0 : 0 ≤ (max a.lo b.lo - a.lo + a.stp - 1) / a.stp := Int.ediv_nonneg (by omega) (by omega)
    have hq1 : 0 ≤ (max a.lo b.lo - a.lo + a.stp - 1) / a.stp * a.stp := Int.mul_nonneg hq0 (by omega)
    have hq2 : (max a.lo b.lo - a.lo + a.stp - 1) / a.stp ≤ max a.lo b.lo - a.lo + a.stp - 1 := Int.ediv_le_self _ (by omega)
    have hlow := hst.low
    generalize hq : (max a.lo b.lo - a.lo + a.stp - 1) / a.stp = q0 at *
    generalize hqs : q0 * a.stp = q1 at *
    have w1 : IntKind.i64.wrap (max a.lo b.lo - a.lo) = max a.lo b.lo - a.lo := w64 (by omega) (by omega)
    have w2 : IntKind.i64.wrap (max a.lo b.lo - a.lo + a.stp) = max a.lo b.lo - a.lo + a.stp := w64 (by omega) (by omega)
    have w3 : IntKind.i64.wrap (max a.lo b.lo - a.lo + a.stp - 1) = max a.lo b.lo - a.lo + a.stp - 1 := w64 (by omega) (by omega)
    have w4 : (max a.lo b.lo - a.lo + a.stp - 1).tdiv a.stp = q0 := by rw [Int.tdiv_eq_ediv_of_nonneg (by omega)]; exact hq
    have w5 : IntKind.i64.wrap q0 = q0 := w64 (by omega) (by omega)
    have w6 : IntKind.i64.wrap q1 = q1 := w64 (by omega) (by omega)
    have w7 : IntKind.i64.wrap (a.lo + q1) = a.lo + q1 := w64 (by omega) (by omega)
    have s0 : ¬ a.stp = 0 := by omega
    refine mwpB_drawE ?_
    simp -dsimp -implicitDefEqProofs only [c0,c1,d0,d1,headM_zero,headM_seq,e1,e2,m135,sF135,ZA,↓reduceIte,ZB,ZC,ZJ,ZK,ZE,ZF,ZG,ZH,ZI,reduceCtorEq,ZD,mwV,↓mwD,mwU]
    refine mwpB_drawE ?_
    simp -dsimp -implicitDefEqProofs only [c0,c2,headM_zero,headM_seq,e3,w1,w2,w3,w4,w5,hqs,w6,w7,s0,not_false_eq_true,m135,sF135,ZA,↓reduceIte,ZB,ZC,ZJ,ZK,ZE,ZF,ZG,ZH,ZI,reduceCtorEq,ZD,mwV,↓mwD,mwU]
    refine mwpB_loop (fun e ds w' => ∃ (k : Nat) (at' : Int), e 9 = .int .i64 k ∧ e 8 = .int .i64 at' ∧ e 7 = .int .i64 (min a.hi b.hi) ∧ e 2 = .pointer (some ⟨w.heap.size, 0, none⟩) ∧ e 3 = .pointer (some ⟨w.heap.size + 1, 0, none⟩) ∧ e 4 = .pointer (some ⟨w.heap.size + 2, 0, none⟩) ∧ ds = [] ∧ Ext W w' ∧ (k : Int) ≤ b.stp ∧ Stand a b at' ∧
      max a.lo b.lo + (k : Int) * a.stp ≤ at' ∧ at' < max a.lo b.lo + ((k : Int) + 1) * a.stp) (fun e _ => (b.stp - intOf (e 9)).toNat) ?_ ?_
    · simp -dsimp -implicitDefEqProofs only [m135,sF135,ZA,↓reduceIte,ZB,ZC,ZJ,ZK,ZE,ZF,ZG,ZH,ZI,reduceCtorEq,ZD,mwV,↓mwD,mwU]
      exact ⟨0, a.lo + q1, rfl, rfl, (Ext.drew _).trans (Ext.drew _), by omega, hst, by omega, by simp; omega⟩
    · rintro e ds w' ⟨k, at', h9, h8, h7, h2, h3, h4, rfl, hx, hk, hs, hl1, hl2⟩
      have hkb : (k : Int) * a.stp ≤ 1000 * 1000 := Int.mul_le_mul (by omega) (by omega) (by omega) (by omega)
      have hk1 : ((k : Int) + 1) * a.stp = (k : Int) * a.stp + a.stp := by rw [Int.add_mul]; omega
      rw [hk1] at hl2
      have q2 := (BA.ext hx).get (o := 2) rfl
      have p0 := (BB.ext hx).get (o := 0) rfl
      have p1 := (BB.ext hx).get (o := 1) rfl
      have p2 := (BB.ext hx).get (o := 2) rfl
      have p3 := (BB.ext hx).get (o := 3) rfl
      have p4 := (BB.ext hx).get (o := 4) rfl
      by_cases hkb2 : (k : Int) < b.stp
      · by_cases hah : at' ≤ min a.hi b.hi
        · simp -dsimp -implicitDefEqProofs only [h9,h8,h7,h2,h3,h4,p0,p1,p2,p3,p4,hkb2,hah,m135,sF135,ZA,↓reduceIte,ZB,ZC,ZJ,ZK,ZE,ZF,ZG,ZH,ZI,reduceCtorEq,ZD,mwV,↓mwD,mwU]
          refine (stepsHas_c b.lo b.hi b.stp at' (decide (b.k = 3)) ob w' b0 b2 b3).use ?_
          rintro r w2 ⟨rfl, hx2⟩
          rw [has_stB hb]
          have hxx := hx.trans hx2
          have q2' := (BA.ext hxx).get (o := 2) rfl
          cases hh : b.has at'
          · have hlow2 := hs.low
            have u1 : IntKind.i64.wrap (at' + a.stp) = at' + a.stp := w64 (by omega) (by omega)
            have u2 : IntKind.i64.wrap ((k : Int) + 1) = ((k + 1 : Nat) : Int) := by rw [w64 (by omega) (by omega)]; omega
            simp -dsimp -implicitDefEqProofs only [h9,h8,h7,h2,h3,h4,q2',u1,u2,m135,sF135,ZA,↓reduceIte,ZB,ZC,ZJ,ZK,ZE,ZF,ZG,ZH,ZI,reduceCtorEq,ZD,mwV,↓mwD,mwU]
            refine ⟨⟨k + 1, at' + a.stp, rfl, rfl, hxx, by omega, stand_next ha hb hs hh, ?_, ?_⟩, ?_⟩
            · have e5 : (((k + 1 : Nat) : Int)) * a.stp = (k : Int) * a.stp + a.stp := by rw [Int.natCast_add, Int.add_mul]; omega
              rw [e5]; omega
            · have e5 : (((k + 1 : Nat) : Int) + 1) * a.stp = (k : Int) * a.stp + a.stp + a.stp := by rw [Int.natCast_add, Int.add_mul, Int.add_mul]; omega
              rw [e5]; omega
            · simp only [intOf]; omega
          · simp -dsimp -implicitDefEqProofs only [h9,h8,h7,h2,h3,h4,headM_zero,headM_seq,m135,sF135,ZA,↓reduceIte,ZB,ZC,ZJ,ZK,ZE,ZF,ZG,ZH,ZI,reduceCtorEq,ZD,mwV,↓mwD,mwU]
            exact ⟨at', rfl, hxW.trans hxx, by have := hxx.size; omega, BA.ext hxx, BB.ext hxx, BC.ext hxx, hs, by omega, .inr (.inl hh)⟩
        · simp -dsimp -implicitDefEqProofs only [h9,h8,h7,h2,h3,h4,p2,hkb2,hah,headM_zero,headM_seq,m135,sF135,ZA,↓reduceIte,ZB,ZC,ZJ,ZK,ZE,ZF,ZG,ZH,ZI,reduceCtorEq,ZD,mwV,↓mwD,mwU]
          exact ⟨at', rfl, hxW.trans hx, by have := hx.size; omega, BA.ext hx, BB.ext hx, BC.ext hx, hs, by omega, .inl (by omega)⟩
      · simp -dsimp -implicitDefEqProofs only [h9,h8,h7,h2,h3,h4,p2,hkb2,headM_zero,headM_seq,m135,sF135,ZA,↓reduceIte,ZB,ZC,ZJ,ZK,ZE,ZF,ZG,ZH,ZI,reduceCtorEq,ZD,mwV,↓mwD,mwU]
        have hke : (k : Int) = b.stp := by omega
        rw [hke] at hl1
        exact ⟨at', rfl, hxW.trans hx, by have := hx.size; omega, BA.ext hx, BB.ext hx, BC.ext hx, hs, by omega, .inr (.inr hl1)⟩
  · rintro e ds w' ⟨at', h8, h7, h2, h3, h4, rfl, hx, hsz, KA, KB, KC, hs, hat, hor⟩
    have hlow := hs.low
    have q2 := KA.get (o := 2) rfl
    have p0 := KB.get (o := 0) rfl
    have p1 := KB.get (o := 1) rfl
    have p2 := KB.get (o := 2) rfl
    have p3 := KB.get (o := 3) rfl
    have p4 := KB.get (o := 4) rfl
    by_cases hgt : min a.hi b.hi < at'
    · have hP := put3 KC (.int .i64 0) (.int .i64 0) (.slice none 0 0)
      obtain ⟨y0, c0⟩ := hP.c0
      obtain ⟨y1, c1⟩ := hP.c1
      obtain ⟨y2, c2⟩ := hP.c2
      have z0 := hP.z0
      have z1 := hP.z1
      have z2 := hP.z2
      have k0 := hP.bk.get (o := 0) rfl
      have k1 := hP.bk.get (o := 1) rfl
      have k2 := hP.bk.get (o := 2) rfl
      simp -dsimp -implicitDefEqProofs only [h8,h7,h2,h3,h4,tailM_zero,tailM_seq,hgt,bv_ch0,c0,c1,c2,z0,z1,z2,k0,k1,k2,m135,sF135,ZA,↓reduceIte,ZB,ZC,ZJ,ZK,ZE,ZF,ZG,ZH,ZI,reduceCtorEq,ZD,mwV,↓mwD,mwU]
      exact ⟨hx.set3 (by omega) _ _ _, none, ⟨stand_none ha hb hs (.inl hgt), trivial⟩⟩
    · simp -dsimp -implicitDefEqProofs only [h8,h7,h2,h3,h4,tailM_zero,tailM_seq,hgt,p0,p1,p2,p3,p4,m135,sF135,ZA,↓reduceIte,ZB,ZC,ZJ,ZK,ZE,ZF,ZG,ZH,ZI,reduceCtorEq,ZD,mwV,↓mwD,mwU]
      refine (stepsHas_c b.lo b.hi b.stp at' (decide (b.k = 3)) ob w' b0 b2 b3).use ?_
      rintro r w2 ⟨rfl, hx2⟩
      rw [has_stB hb]
      replace KA := KA.ext hx2
      replace KB := KB.ext hx2
      replace KC := KC.ext hx2
      replace hx := hx.trans hx2
      replace hsz := Nat.le_trans hsz hx2.size
      cases hh : b.has at'
      · have hP := put3 KC (.int .i64 0) (.int .i64 0) (.slice none 0 0)
        obtain ⟨y0, c0⟩ := hP.c0
        obtain ⟨y1, c1⟩ := hP.c1
        obtain ⟨y2, c2⟩ := hP.c2
        have z0 := hP.z0
        have z1 := hP.z1
        have z2 := hP.z2
        have k0 := hP.bk.get (o := 0) rfl
        have k1 := hP.bk.get (o := 1) rfl
        have k2 := hP.bk.get (o := 2) rfl
        have hend : max a.lo b.lo + b.stp * a.stp ≤ at' := by
          rcases hor with h | h | h
          · omega
          · rw [hh] at h; cases h
          · exact h
        simp -dsimp -implicitDefEqProofs only [h8,h7,h2,h3,h4,bv_ch0,c0,c1,c2,z0,z1,z2,k0,k1,k2,m135,sF135,ZA,↓reduceIte,ZB,ZC,ZJ,ZK,ZE,ZF,ZG,ZH,ZI,reduceCtorEq,ZD,mwV,↓mwD,mwU]
        exact ⟨hx.set3 (by omega) _ _ _, none, ⟨stand_none ha hb hs (.inr ⟨hh, hend⟩), trivial⟩⟩
      · have hf := stand_both ha hb hs (by omega) hh
        simp -dsimp -implicitDefEqProofs only [h8,h7,h2,h3,h4,m135,sF135,ZA,↓reduceIte,ZB,ZC,ZJ,ZK,ZE,ZF,ZG,ZH,ZI,reduceCtorEq,ZD,mwV,↓mwD,mwU]
        refine mwpB_drawE ?_
        have g2 := KA.get (o := 2) rfl
        have g3 := KB.get (o := 2) rfl
        have ea : ((a.stp.toNat : Nat) : Int) = a.stp := Int.toNat_of_nonneg (by omega)
        have eb : ((b.stp.toNat : Nat) : Int) = b.stp := Int.toNat_of_nonneg (by omega)
        have hgc := gcd_c a.stp.toNat b.stp.toNat w2.drew (by omega) (by omega)
        rw [ea, eb] at hgc
        have hgp : 0 < Nat.gcd a.stp.toNat b.stp.toNat := Nat.gcd_pos_of_pos_left _ (by omega)
        have hby := by_eq a b
        have ht : Int.tdiv ((a.stp.toNat : Nat) : Int) ((Nat.gcd a.stp.toNat b.stp.toNat : Nat) : Int) = ((a.stp.toNat / Nat.gcd a.stp.toNat b.stp.toNat : Nat) : Int) := rfl
        rw [ea] at ht
        have hdl : a.stp.toNat / Nat.gcd a.stp.toNat b.stp.toNat ≤ a.stp.toNat := Nat.div_le_self _ _
        rw [Int.natCast_mul, eb] at hby
        generalize hgg : Nat.gcd a.stp.toNat b.stp.toNat = g at *
        generalize a.stp.toNat / g = dd at *
        have hg0 : ¬ (g : Int) = 0 := by omega
        have hbyl := by_le ha hb
        have hbyp := by_pos ha hb
        have hss : a.stp * b.stp ≤ 1000 * 1000 := Int.mul_le_mul (by omega) (by omega) (by omega) (by omega)
        have v1 : IntKind.i64.wrap (dd : Int) = (dd : Int) := w64 (by omega) (by omega)
        have v2 : IntKind.i64.wrap ((dd : Int) * b.stp) = byO a b := by rw [← hby]; exact w64 (by omega) (by omega)
        obtain ⟨n1, n2, n3⟩ := cnt_pos ha hb hf
        have hq0 : 0 ≤ (min a.hi b.hi - at') / byO a b := Int.ediv_nonneg (by omega) (by omega)
        have hq1 : 0 ≤ (min a.hi b.hi - at') / byO a b * byO a b := Int.mul_nonneg hq0 (by omega)
        have hq2 : (min a.hi b.hi - at') / byO a b * byO a b ≤ min a.hi b.hi - at' := Int.ediv_mul_le _ (by omega)
        have hq3 : (min a.hi b.hi - at') / byO a b ≤ min a.hi b.hi - at' := Int.ediv_le_self _ (by omega)
        have hcq : ((cntO a b at' : Nat) : Int) = (min a.hi b.hi - at') / byO a b + 1 := by unfold cntO; omega
        have hlast : at' + ((cntO a b at' : Int) - 1) * byO a b = at' + (min a.hi b.hi - at') / byO a b * byO a b := by rw [hcq, Int.add_sub_cancel]
        generalize hq : (min a.hi b.hi - at') / byO a b = q at *
        have v3 : IntKind.i64.wrap (min a.hi b.hi - at') = min a.hi b.hi - at' := w64 (by omega) (by omega)
        have v4 : (min a.hi b.hi - at').tdiv (byO a b) = q := by rw [Int.tdiv_eq_ediv_of_nonneg (by omega)]; exact hq
        have v5 : IntKind.i64.wrap q = q := w64 (by omega) (by omega)
        have v6 : IntKind.i64.wrap (q * byO a b) = q * byO a b := w64 (by omega) (by omega)
        have v7 : IntKind.i64.wrap (at' + q * byO a b) = at' + q * byO a b := w64 (by omega) (by omega)
        have v8 : IntKind.i64.wrap (at' + q * byO a b - at') = q * byO a b := by rw [w64 (by omega) (by omega)]; omega
        have v9 : (q * byO a b).tdiv (byO a b) = q := Int.mul_tdiv_cancel _ (by omega)
        have v10 : IntKind.i64.wrap (q + 1) = ((cntO a b at' : Nat) : Int) := by rw [hcq]; exact w64 (by omega) (by omega)
        have hby0 : ¬ byO a b = 0 := by omega
        simp -dsimp -implicitDefEqProofs only [h8,h7,h2,h3,h4,g2,g3,m135,sF135,ZA,↓reduceIte,ZB,ZC,ZJ,ZK,ZE,ZF,ZG,ZH,ZI,reduceCtorEq,ZD,mwV,↓mwD,mwU]
        refine hgc.use ?_
        rintro r w3 ⟨rfl, hx3⟩
        simp -dsimp -implicitDefEqProofs only [h8,h7,h2,h3,h4,g2,g3,hx3,hg0,ht,not_false_eq_true,v1,v2,v3,v4,v5,v6,v7,v8,v9,v10,hby0,m135,sF135,ZA,↓reduceIte,ZB,ZC,ZJ,ZK,ZE,ZF,ZG,ZH,ZI,reduceCtorEq,ZD,mwV,↓mwD,mwU]
        replace hx3 : Ext w2 w3 := (Ext.drew _).trans hx3
        replace KA := KA.ext hx3
        replace KB := KB.ext hx3
        replace KC := KC.ext hx3
        replace hx := hx.trans hx3
        replace hsz := Nat.le_trans hsz hx3.size
        have g5 := KA.get (o := 3) rfl
        have g6 := KB.get (o := 3) rfl
        -- what is written at the end
        have fin : ∀ (W5 : World) (K : Int) (L : List Int) (qq : Option Addr) (cc : Nat), Ext w3 W5 → metR a b at' = (K, L) → W5.ownsRow w3.heap.size 3 1 (.slice qq L.length cc) L.length (ints L) →
            Put3 W5 (w.heap.size + 2) (.int .i64 K) (.int .i64 0) (.slice qq L.length cc) 35 ∧
            (Ext w (((W5.setCell ⟨w.heap.size + 2, 0, none⟩ (.int .i64 K)).setCell ⟨w.heap.size + 2, 1, none⟩ (.int .i64 0)).setCell ⟨w.heap.size + 2, 2, none⟩ (.slice qq L.length cc)) ∧ ∃ f, FirstIs a b f ∧
      match f with
      | none => Value.tuple #[.agg #[.int .i64 K, .int .i64 0, .slice qq L.length cc], .bool true] = .tuple #[.agg #[.int .i64 0, .int .i64 0, .slice none 0 0], .bool false]
      | some f => ∃ v, Value.tuple #[.agg #[.int .i64 K, .int .i64 0, .slice qq L.length cc], .bool true] = .tuple #[chV ⟨(metR a b f).1, 0, (metR a b f).2⟩ v, .bool true] ∧ (((W5.setCell ⟨w.heap.size + 2, 0, none⟩ (.int .i64 K)).setCell ⟨w.heap.size + 2, 1, none⟩ (.int .i64 0)).setCell ⟨w.heap.size + 2, 2, none⟩ (.slice qq L.length cc)).ownsRow w.heap.size 3 1 v (metR a b f).2.length (ints (metR a b f).2)) := fun W5 K L qq cc hx5 hm hown => by
          refine ⟨put3 (KC.ext hx5) _ _ _, (hx.trans hx5).set3 (by omega) _ _ _, some at', hf, .slice qq L.length cc, ?_, ?_⟩
          · rw [hm]; rfl
          · rw [hm]
            exact Own.mono (Own.set3 hown (by omega) _ _ _) (by omega)
        by_cases hc1 : cntO a b at' = 1
        · have hc1' : ((cntO a b at' : Nat) : Int) = 1 := by omega
          simp -dsimp -implicitDefEqProofs only [h8,h7,h2,h3,h4,hc1',bs_one,m135,sF135,ZA,↓reduceIte,ZB,ZC,ZJ,ZK,ZE,ZF,ZG,ZH,ZI,reduceCtorEq,ZD,mwV,↓mwD,mwU]
          have ho := own_new w3 [.int .i64 at'] 3 w3.heap.size 1 1 rfl (Nat.le_refl _) (by decide)
          refine (listed_c _ [at'] _ (Own.sl (cs := ints [at']) ho)).use ?_
          rintro r w5 ⟨rfl, hx5⟩
          have hm : metR a b at' = (lstK [at'], [at']) := by
            unfold metR
            rw [if_pos (.inl (by omega)), hc1]
            simp [seqL]
          obtain ⟨hP, hres⟩ := fin w5 (lstK [at']) [at'] (some ⟨w3.heap.size, 0, none⟩) 1 ((Ext.alloc _ _).trans hx5) hm (Own.ext ho hx5)
          obtain ⟨y0, c0⟩ := hP.c0
          obtain ⟨y1, c1⟩ := hP.c1
          obtain ⟨y2, c2⟩ := hP.c2
          have z0 := hP.z0
          have z1 := hP.z1
          have z2 := hP.z2
          have k0 := hP.bk.get (o := 0) rfl
          have k1 := hP.bk.get (o := 1) rfl
          have k2 := hP.bk.get (o := 2) rfl
          simp only [List.length_cons,List.length_nil,Nat.zero_add] at c0 c1 c2 z0 z1 z2 k0 k1 k2 hres
          simp -dsimp -implicitDefEqProofs only [h8,h7,h2,h3,h4,chV,c0,c1,c2,z0,z1,z2,k0,k1,k2,m135,sF135,ZA,↓reduceIte,ZB,ZC,ZJ,ZK,ZE,ZF,ZG,ZH,ZI,reduceCtorEq,ZD,mwV,↓mwD,mwU]
          exact hres
        · have hc1' : ¬ ((cntO a b at' : Nat) : Int) = 1 := by omega
          by_cases hcut : cntO a b at' ≤ 20 ∨ 1000 < byO a b
          · have hcases : 1000 < byO a b ∨ (¬ 1000 < byO a b ∧ ((cntO a b at' : Nat) : Int) ≤ 20) := by omega
            have hsf : Rets ZP 106 #[spV at' (at' + q * byO a b) (byO a b) false true, .int .i64 20] w3 fun v w' => Ext w3 w' ∧ w'.ownsRow w3.heap.size 3 1 v (rng (at' + q * byO a b) (byO a b) 20 at').length (ints (rng (at' + q * byO a b) (byO a b) 20 at')) :=
              stepsFirst_c at' (at' + q * byO a b) (byO a b) false true 20 w3 (by omega) (by omega) (by omega) (by omega) (by omega) (by decide)
            have hrng : rng (at' + q * byO a b) (byO a b) 20 at' = seqL at' (byO a b) (min (cntO a b at') 20) := by rw [← hlast]; exact rng_seq hbyp 20 _ at'
            rw [hrng] at hsf
            have hm : metR a b at' = (lstK (seqL at' (byO a b) (min (cntO a b at') 20)), seqL at' (byO a b) (min (cntO a b at') 20)) := by unfold metR; rw [if_pos hcut]
            generalize seqL at' (byO a b) (min (cntO a b at') 20) = S at *
            rcases hcases with hb1 | ⟨hb1, hb2⟩
            · simp -dsimp -implicitDefEqProofs only [h8,h7,h2,h3,h4,hc1',hb1,bv_sp,m135,sF135,ZA,↓reduceIte,ZB,ZC,ZJ,ZK,ZE,ZF,ZG,ZH,ZI,reduceCtorEq,ZD,mwV,↓mwD,mwU]
              refine hsf.use ?_
              rintro r w4 ⟨hx4, hown4⟩
              obtain ⟨_, qq, cc, rfl⟩ := own_shape hown4
              simp -dsimp -implicitDefEqProofs only [h8,h7,h2,h3,h4,m135,sF135,ZA,↓reduceIte,ZB,ZC,ZJ,ZK,ZE,ZF,ZG,ZH,ZI,reduceCtorEq,ZD,mwV,↓mwD,mwU]
              refine (listed_c _ S _ (Own.sl hown4)).use ?_
              rintro r w5 ⟨rfl, hx5⟩
              obtain ⟨hP, hres⟩ := fin w5 (lstK S) S qq cc (hx4.trans hx5) hm (Own.ext hown4 hx5)
              obtain ⟨y0, c0⟩ := hP.c0
              obtain ⟨y1, c1⟩ := hP.c1
              obtain ⟨y2, c2⟩ := hP.c2
              have z0 := hP.z0
              have z1 := hP.z1
              have z2 := hP.z2
              have k0 := hP.bk.get (o := 0) rfl
              have k1 := hP.bk.get (o := 1) rfl
              have k2 := hP.bk.get (o := 2) rfl
              simp -dsimp -implicitDefEqProofs only [h8,h7,h2,h3,h4,chV,c0,c1,c2,z0,z1,z2,k0,k1,k2,m135,sF135,ZA,↓reduceIte,ZB,ZC,ZJ,ZK,ZE,ZF,ZG,ZH,ZI,reduceCtorEq,ZD,mwV,↓mwD,mwU]
              exact hres
            · simp -dsimp -implicitDefEqProofs only [h8,h7,h2,h3,h4,hc1',hb1,hb2,bv_sp,m135,sF135,ZA,↓reduceIte,ZB,ZC,ZJ,ZK,ZE,ZF,ZG,ZH,ZI,reduceCtorEq,ZD,mwV,↓mwD,mwU]
              refine hsf.use ?_
              rintro r w4 ⟨hx4, hown4⟩
              obtain ⟨_, qq, cc, rfl⟩ := own_shape hown4
              simp -dsimp -implicitDefEqProofs only [h8,h7,h2,h3,h4,m135,sF135,ZA,↓reduceIte,ZB,ZC,ZJ,ZK,ZE,ZF,ZG,ZH,ZI,reduceCtorEq,ZD,mwV,↓mwD,mwU]
              refine (listed_c _ S _ (Own.sl hown4)).use ?_
              rintro r w5 ⟨rfl, hx5⟩
              obtain ⟨hP, hres⟩ := fin w5 (lstK S) S qq cc (hx4.trans hx5) hm (Own.ext hown4 hx5)
              obtain ⟨y0, c0⟩ := hP.c0
              obtain ⟨y1, c1⟩ := hP.c1
              obtain ⟨y2, c2⟩ := hP.c2
              have z0 := hP.z0
              have z1 := hP.z1
              have z2 := hP.z2
              have k0 := hP.bk.get (o := 0) rfl
              have k1 := hP.bk.get (o := 1) rfl
              have k2 := hP.bk.get (o := 2) rfl
              simp -dsimp -implicitDefEqProofs only [h8,h7,h2,h3,h4,chV,c0,c1,c2,z0,z1,z2,k0,k1,k2,m135,sF135,ZA,↓reduceIte,ZB,ZC,ZJ,ZK,ZE,ZF,ZG,ZH,ZI,reduceCtorEq,ZD,mwV,↓mwD,mwU]
              exact hres
          · have hb1 : ¬ 1000 < byO a b := fun h => hcut (.inr h)
            have hb2 : ¬ ((cntO a b at' : Nat) : Int) ≤ 20 := fun h => hcut (.inl (by omega))
            by_cases hk : a.k = 3 ∧ b.k = 3
            · have hk1 := hk.1
              have hk2 := hk.2
              have hm : metR a b at' = (3, [at', at' + q * byO a b]) := by unfold metR; rw [if_neg hcut, if_pos hk, hlast]
              have ho := own_new w3 [.int .i64 at', .int .i64 (at' + q * byO a b)] 3 w3.heap.size 2 1 rfl (Nat.le_refl _) (by decide)
              obtain ⟨hP, hres⟩ := fin _ 3 [at', at' + q * byO a b] (some ⟨w3.heap.size, 0, none⟩) 2 (Ext.alloc _ _) hm ho
              obtain ⟨y0, c0⟩ := hP.c0
              obtain ⟨y1, c1⟩ := hP.c1
              obtain ⟨y2, c2⟩ := hP.c2
              have z0 := hP.z0
              have z1 := hP.z1
              have z2 := hP.z2
              have k0 := hP.bk.get (o := 0) rfl
              have k1 := hP.bk.get (o := 1) rfl
              have k2 := hP.bk.get (o := 2) rfl
              simp only [List.length_cons,List.length_nil,Nat.zero_add,ZB] at c0 c1 c2 z0 z1 z2 k0 k1 k2 hres
              simp only [hk1,hk2,decide_true] at g5 g6
              simp -dsimp -implicitDefEqProofs only [h8,h7,h2,h3,h4,hc1',hb1,hb2,g5,g6,bs_two,bv_ch,c0,c1,c2,z0,z1,z2,k0,k1,k2,m135,sF135,ZA,↓reduceIte,ZB,ZC,ZJ,ZK,ZE,ZF,ZG,ZH,ZI,reduceCtorEq,ZD,mwV,↓mwD,mwU]
              exact hres
            · have hm : metR a b at' = (4, [at', at' + q * byO a b, byO a b]) := by unfold metR; rw [if_neg hcut, if_neg hk, hlast]
              have ho := own_new w3 [.int .i64 at', .int .i64 (at' + q * byO a b), .int .i64 (byO a b)] 3 w3.heap.size 3 1 rfl (Nat.le_refl _) (by decide)
              obtain ⟨hP, hres⟩ := fin _ 4 [at', at' + q * byO a b, byO a b] (some ⟨w3.heap.size, 0, none⟩) 3 (Ext.alloc _ _) hm ho
              obtain ⟨y0, c0⟩ := hP.c0
              obtain ⟨y1, c1⟩ := hP.c1
              obtain ⟨y2, c2⟩ := hP.c2
              have z0 := hP.z0
              have z1 := hP.z1
              have z2 := hP.z2
              have k0 := hP.bk.get (o := 0) rfl
              have k1 := hP.bk.get (o := 1) rfl
              have k2 := hP.bk.get (o := 2) rfl
              simp only [List.length_cons,List.length_nil,Nat.zero_add,ZB] at c0 c1 c2 z0 z1 z2 k0 k1 k2 hres
              by_cases hka : a.k = 3
              · have hkb : ¬ b.k = 3 := fun h => hk ⟨hka, h⟩
                simp only [hka,hkb,decide_true,decide_false] at g5 g6
                simp -dsimp -implicitDefEqProofs only [h8,h7,h2,h3,h4,hc1',hb1,hb2,g5,g6,bs_three,bv_ch,c0,c1,c2,z0,z1,z2,k0,k1,k2,m135,sF135,ZA,↓reduceIte,ZB,ZC,ZJ,ZK,ZE,ZF,ZG,ZH,ZI,reduceCtorEq,ZD,mwV,↓mwD,mwU]
                exact hres
              · simp only [hka,decide_false] at g5
                simp -dsimp -implicitDefEqProofs only [h8,h7,h2,h3,h4,hc1',hb1,hb2,g5,bs_three,bv_ch,c0,c1,c2,z0,z1,z2,k0,k1,k2,m135,sF135,ZA,↓reduceIte,ZB,ZC,ZJ,ZK,ZE,ZF,ZG,ZH,ZI,reduceCtorEq,ZD,mwV,↓mwD,mwU]
                exact hres
end Go.Proofs.YthcdnjbhhaonhaaGreatDoor
/- Layer 02: package format's meet, Meet. -/
namespace Go.Proofs.YthcdnjbhhaonhaaGreatDoor
open Go.RowKit
open Nat renaming reduceEqDiff → ZA, reduceAdd → ZB, reduceMul → ZC, reduceSub → ZD
open Int renaming reduceToNat → ZE, reduceEq → ZF, reduceLT → ZG, reduceLE → ZH, reduceNeg → ZI
open Go.Value renaming oneCell' → ZK, cells → ZJ
open Go.Proofs.Tryz renaming prog → ZP
set_option linter.unusedSimpArgs false
def fnv (f : FuncId) : Value := .func (.func f) #[] #[]
def meetArr : Value := .agg #[fnv 130, fnv 132, fnv 133, fnv 134]
theorem bv_m1 (f g : FuncId) : buildV ZP 114 [(0, .func (.func f) #[] #[]), (1, .func (.func g) #[] #[])] = some (.agg #[fnv f, fnv g]) := by kernel_rfl
theorem bv_m2 (f g h i : FuncId) : buildV ZP 115 [(0, .agg #[fnv f, fnv g]), (1, .agg #[fnv h, fnv i])] = some (.agg #[fnv f, fnv g, fnv h, fnv i]) := by kernel_rfl
theorem meetings_c (w : World) : Rets ZP 96 #[] w fun r w' => r = meetArr ∧ Ext w w' := by
  refine en96 ?_
  simp -dsimp -implicitDefEqProofs only [bv_m1,bv_m2,setCell_new,m96,sF96,ZA,↓reduceIte,ZB,ZC,ZJ,ZK,ZE,ZF,ZG,ZH,ZI,reduceCtorEq,ZD,mwV,↓mwD,mwU]
  exact ⟨rfl, rfl, rfl, rfl, rfl, Ext.alloc _ _⟩
def Out (a b : Ch) (o : Option (Int × List Int)) : Prop :=
  if a.lsd || b.lsd then o = (if keptL a b = [] then none else some (lstK (keptL a b), keptL a b)) else ∃ f, FirstIs a b f ∧ o = f.map (metR a b)
theorem Out.met {a b : Ch} {o : Option (Int × List Int)} (h : Out a b o) : Met a b (o.map fun p => wish p.1 p.2 a.d b.d) := by
  unfold Out at h
  unfold Met
  split
  · rename_i hc
    rw [if_pos hc] at h
    rw [h]
    split <;> rfl
  · rename_i hc
    rw [if_neg hc] at h
    obtain ⟨f, h1, h2⟩ := h
    refine ⟨f, h1, ?_⟩
    rw [h2]
    cases f <;> rfl
def OutR (w : World) (a b : Ch) (r : Value) (w' : World) : Prop := Ext w w' ∧ ∃ o, Out a b o ∧ match o with
  | none => ∃ x y q n c, r = .tuple #[.agg #[.int .i64 x, .int .i64 y, .slice q n c], .bool false]
  | some p => ∃ q c, r = .tuple #[.agg #[.int .i64 p.1, .int .i64 0, .slice q p.2.length c], .bool true] ∧ w'.ownsRow w.heap.size 3 1 (.slice q p.2.length c) p.2.length (ints p.2)
theorem setV_range {c : Ch} (h : Rg c) (hk : c.k = 3 ∧ c.L.length = 2 ∨ c.k = 4 ∧ c.L.length = 3) (s : Value) : setV c s = .iface 112 (spV c.lo c.hi c.stp (decide (c.k = 3)) true) := by
  unfold setV
  rw [if_neg (nl_of h.nl)]
  rcases hk with ⟨k3, l2⟩ | ⟨k4, l3⟩
  · rw [if_pos ⟨k3, l2⟩]
    have e : c.stp = 1 := by unfold Ch.stp; rw [if_neg (by omega)]
    rw [e]; simp [k3]
  · rw [if_neg (by omega), if_pos ⟨k4, l3⟩]
    have e : c.L.getD 2 0 = c.stp := by unfold Ch.stp; rw [if_pos k4]
    rw [e]; simp [k4]
theorem setV_list {c : Ch} (h : (c.k = 1 ∧ c.L.length = 1) ∨ c.k = 2) (s : Value) : setV c s = .iface 110 s := by unfold setV; rw [if_pos h]
theorem fit_list {c : Ch} (h : Fit c) (hl : c.lsd = true) : (c.k = 1 ∧ c.L.length = 1) ∨ c.k = 2 := by
  rcases h with h | ⟨h, _⟩
  · exact h
  · rw [h.nl] at hl; cases hl
theorem fit_range {c : Ch} (h : Fit c) (hl : c.lsd = false) : Rg c ∧ (c.k = 3 ∧ c.L.length = 2 ∨ c.k = 4 ∧ c.L.length = 3) := by
  rcases h with h | h
  · rw [lsd_of h] at hl; cases hl
  · exact h
theorem kept_out {a b : Ch} {F : List Int} (hl : (a.lsd || b.lsd) = true) (hF : keptL a b = F) : Out a b (if F = [] then none else some (lstK F, F)) := by
  unfold Out; rw [if_pos hl, hF]
theorem meet1_c (a b : Ch) (sa sb : Value) (w : World) (fa : Fit a) (fb : Fit b) (hl : a.lsd = true) (ha : SlI w sa a.L) (hb : SlI w sb b.L) (hn1 : a.L.length ≤ 1000000) :
    Rets ZP 130 #[setV a sa, setV b sb] w (OutR w a b) := by
  have hx0 : Ext w (w.alloc (.cells #[.int .i64 0, .int .i64 0, .slice none 0 0] 35)) := Ext.alloc _ _
  have hsz : (w.alloc (.cells #[.int .i64 0, .int .i64 0, .slice none 0 0] 35)).heap.size = w.heap.size + 1 := World.size_alloc _ _
  have hB : Bk (w.alloc (.cells #[.int .i64 0, .int .i64 0, .slice none 0 0] 35)) w.heap.size [.int .i64 0, .int .i64 0, .slice none 0 0] 35 := Bk.new _ _ _
  have hK : keptL a b = a.L.filter b.has := by unfold keptL; rw [if_pos hl]
  refine en130 ?_
  rw [setV_list (fit_list fa hl) sa]
  simp -dsimp -implicitDefEqProofs only [m130,sF130,ZA,↓reduceIte,ZB,ZC,ZJ,ZK,ZE,ZF,ZG,ZH,ZI,reduceCtorEq,ZD,mwV,↓mwD,mwU]
  generalize w.alloc (.cells #[.int .i64 0, .int .i64 0, .slice none 0 0] 35) = w1 at *
  refine (kept_c sa a.L b sb w1 (ha.ext hx0) fb (hb.ext hx0) hn1).use ?_
  rintro r w2 ⟨hx2, v, rfl, hown⟩
  rw [← hK] at hown ⊢
  have hout := kept_out (a := a) (b := b) (by simp [hl]) rfl
  generalize keptL a b = F at *
  obtain ⟨_, q, cc, rfl⟩ := own_shape hown
  have hP := put3 (hB.ext hx2) (.int .i64 (lstK F)) (.int .i64 0) (.slice q F.length cc)
  obtain ⟨y0, c0⟩ := hP.c0
  obtain ⟨y1, c1⟩ := hP.c1
  obtain ⟨y2, c2⟩ := hP.c2
  have z0 := hP.z0
  have z1 := hP.z1
  have z2 := hP.z2
  have k0 := hP.bk.get (o := 0) rfl
  have k1 := hP.bk.get (o := 1) rfl
  have k2 := hP.bk.get (o := 2) rfl
  simp -dsimp -implicitDefEqProofs only [chV,c0,c1,c2,z0,z1,z2,k0,k1,k2,m130,sF130,ZA,↓reduceIte,ZB,ZC,ZJ,ZK,ZE,ZF,ZG,ZH,ZI,reduceCtorEq,ZD,mwV,↓mwD,mwU]
  refine ⟨(hx0.trans hx2).set3 (Nat.le_refl _) _ _ _, _, hout, ?_⟩
  by_cases hF : F = []
  · rw [if_pos hF]
    exact ⟨_, _, _, _, _, by rw [hF]; rfl⟩
  · rw [if_neg hF]
    have hp : 0 < F.length := List.length_pos_iff.2 hF
    refine ⟨q, cc, by simp [hp], Own.mono (Own.set3 hown (by omega) _ _ _) (by omega)⟩
theorem meet2_c (a b : Ch) (sa sb : Value) (w : World) (fa : Fit a) (fb : Fit b) (hl : a.lsd = true) (ha : SlI w sa a.L) (hb : SlI w sb b.L) (hn1 : a.L.length ≤ 1000000) :
    Rets ZP 132 #[setV a sa, setV b sb] w (OutR w a b) := by
  have hx0 : Ext w (w.alloc (.cells #[.int .i64 0, .int .i64 0, .slice none 0 0] 35)) := Ext.alloc _ _
  have hsz : (w.alloc (.cells #[.int .i64 0, .int .i64 0, .slice none 0 0] 35)).heap.size = w.heap.size + 1 := World.size_alloc _ _
  have hB : Bk (w.alloc (.cells #[.int .i64 0, .int .i64 0, .slice none 0 0] 35)) w.heap.size [.int .i64 0, .int .i64 0, .slice none 0 0] 35 := Bk.new _ _ _
  have hK : keptL a b = a.L.filter b.has := by unfold keptL; rw [if_pos hl]
  refine en132 ?_
  rw [setV_list (fit_list fa hl) sa]
  simp -dsimp -implicitDefEqProofs only [m132,sF132,ZA,↓reduceIte,ZB,ZC,ZJ,ZK,ZE,ZF,ZG,ZH,ZI,reduceCtorEq,ZD,mwV,↓mwD,mwU]
  generalize w.alloc (.cells #[.int .i64 0, .int .i64 0, .slice none 0 0] 35) = w1 at *
  refine (kept_c sa a.L b sb w1 (ha.ext hx0) fb (hb.ext hx0) hn1).use ?_
  rintro r w2 ⟨hx2, v, rfl, hown⟩
  rw [← hK] at hown ⊢
  have hout := kept_out (a := a) (b := b) (by simp [hl]) rfl
  generalize keptL a b = F at *
  obtain ⟨_, q, cc, rfl⟩ := own_shape hown
  have hP := put3 (hB.ext hx2) (.int .i64 (lstK F)) (.int .i64 0) (.slice q F.length cc)
  obtain ⟨y0, c0⟩ := hP.c0
  obtain ⟨y1, c1⟩ := hP.c1
  obtain ⟨y2, c2⟩ := hP.c2
  have z0 := hP.z0
  have z1 := hP.z1
  have z2 := hP.z2
  have k0 := hP.bk.get (o := 0) rfl
  have k1 := hP.bk.get (o := 1) rfl
  have k2 := hP.bk.get (o := 2) rfl
  simp -dsimp -implicitDefEqProofs only [chV,c0,c1,c2,z0,z1,z2,k0,k1,k2,m132,sF132,ZA,↓reduceIte,ZB,ZC,ZJ,ZK,ZE,ZF,ZG,ZH,ZI,reduceCtorEq,ZD,mwV,↓mwD,mwU]
  refine ⟨(hx0.trans hx2).set3 (Nat.le_refl _) _ _ _, _, hout, ?_⟩
  by_cases hF : F = []
  · rw [if_pos hF]
    exact ⟨_, _, _, _, _, by rw [hF]; rfl⟩
  · rw [if_neg hF]
    have hp : 0 < F.length := List.length_pos_iff.2 hF
    refine ⟨q, cc, by simp [hp], Own.mono (Own.set3 hown (by omega) _ _ _) (by omega)⟩
theorem meet3_c (a b : Ch) (sa sb : Value) (w : World) (fa : Fit a) (fb : Fit b) (hl : b.lsd = true) (hn : a.lsd = false) (ha : SlI w sa a.L) (hb : SlI w sb b.L) (hn1 : b.L.length ≤ 1000000) :
    Rets ZP 133 #[setV a sa, setV b sb] w (OutR w a b) := by
  have hx0 : Ext w (w.alloc (.cells #[.int .i64 0, .int .i64 0, .slice none 0 0] 35)) := Ext.alloc _ _
  have hsz : (w.alloc (.cells #[.int .i64 0, .int .i64 0, .slice none 0 0] 35)).heap.size = w.heap.size + 1 := World.size_alloc _ _
  have hB : Bk (w.alloc (.cells #[.int .i64 0, .int .i64 0, .slice none 0 0] 35)) w.heap.size [.int .i64 0, .int .i64 0, .slice none 0 0] 35 := Bk.new _ _ _
  have hK : keptL a b = b.L.filter a.has := by unfold keptL; rw [if_neg (by simp [hn])]
  refine en133 ?_
  rw [setV_list (fit_list fb hl) sb]
  simp -dsimp -implicitDefEqProofs only [m133,sF133,ZA,↓reduceIte,ZB,ZC,ZJ,ZK,ZE,ZF,ZG,ZH,ZI,reduceCtorEq,ZD,mwV,↓mwD,mwU]
  generalize w.alloc (.cells #[.int .i64 0, .int .i64 0, .slice none 0 0] 35) = w1 at *
  refine (kept_c sb b.L a sa w1 (hb.ext hx0) fa (ha.ext hx0) hn1).use ?_
  rintro r w2 ⟨hx2, v, rfl, hown⟩
  rw [← hK] at hown ⊢
  have hout := kept_out (a := a) (b := b) (by simp [hl]) rfl
  generalize keptL a b = F at *
  obtain ⟨_, q, cc, rfl⟩ := own_shape hown
  have hP := put3 (hB.ext hx2) (.int .i64 (lstK F)) (.int .i64 0) (.slice q F.length cc)
  obtain ⟨y0, c0⟩ := hP.c0
  obtain ⟨y1, c1⟩ := hP.c1
  obtain ⟨y2, c2⟩ := hP.c2
  have z0 := hP.z0
  have z1 := hP.z1
  have z2 := hP.z2
  have k0 := hP.bk.get (o := 0) rfl
  have k1 := hP.bk.get (o := 1) rfl
  have k2 := hP.bk.get (o := 2) rfl
  simp -dsimp -implicitDefEqProofs only [chV,c0,c1,c2,z0,z1,z2,k0,k1,k2,m133,sF133,ZA,↓reduceIte,ZB,ZC,ZJ,ZK,ZE,ZF,ZG,ZH,ZI,reduceCtorEq,ZD,mwV,↓mwD,mwU]
  refine ⟨(hx0.trans hx2).set3 (Nat.le_refl _) _ _ _, _, hout, ?_⟩
  by_cases hF : F = []
  · rw [if_pos hF]
    exact ⟨_, _, _, _, _, by rw [hF]; rfl⟩
  · rw [if_neg hF]
    have hp : 0 < F.length := List.length_pos_iff.2 hF
    refine ⟨q, cc, by simp [hp], Own.mono (Own.set3 hown (by omega) _ _ _) (by omega)⟩
theorem meet4_c (a b : Ch) (sa sb : Value) (w : World) (fa : Fit a) (fb : Fit b) (ha : a.lsd = false) (hb : b.lsd = false) :
    Rets ZP 134 #[setV a sa, setV b sb] w (OutR w a b) := by
  obtain ⟨ra, ka⟩ := fit_range fa ha
  obtain ⟨rb, kb⟩ := fit_range fb hb
  have hx0 : Ext w (w.alloc (.cells #[.int .i64 0, .int .i64 0, .slice none 0 0] 35)) := Ext.alloc _ _
  have hsz : (w.alloc (.cells #[.int .i64 0, .int .i64 0, .slice none 0 0] 35)).heap.size = w.heap.size + 1 := World.size_alloc _ _
  have hB : Bk (w.alloc (.cells #[.int .i64 0, .int .i64 0, .slice none 0 0] 35)) w.heap.size [.int .i64 0, .int .i64 0, .slice none 0 0] 35 := Bk.new _ _ _
  refine en134 ?_
  rw [setV_range ra ka, setV_range rb kb]
  simp -dsimp -implicitDefEqProofs only [m134,sF134,ZA,↓reduceIte,ZB,ZC,ZJ,ZK,ZE,ZF,ZG,ZH,ZI,reduceCtorEq,ZD,mwV,↓mwD,mwU]
  generalize w.alloc (.cells #[.int .i64 0, .int .i64 0, .slice none 0 0] 35) = w1 at *
  refine mwpB_drawE ?_
  simp -dsimp -implicitDefEqProofs only [m134,sF134,ZA,↓reduceIte,ZB,ZC,ZJ,ZK,ZE,ZF,ZG,ZH,ZI,reduceCtorEq,ZD,mwV,↓mwD,mwU]
  refine (common_c a b true true w1.drew ra rb).use ?_
  rintro r w2 ⟨hx2, f, hf, hm⟩
  have hxx : Ext w1 w2 := (Ext.drew _).trans hx2
  have hout : Out a b (f.map (metR a b)) := by unfold Out; rw [if_neg (by simp [ha, hb])]; exact ⟨f, hf, rfl⟩
  cases f with
  | none =>
    simp only at hm
    subst hm
    have hP := put3 (hB.ext hxx) (.int .i64 0) (.int .i64 0) (.slice none 0 0)
    obtain ⟨y0, c0⟩ := hP.c0
    obtain ⟨y1, c1⟩ := hP.c1
    obtain ⟨y2, c2⟩ := hP.c2
    have z0 := hP.z0
    have z1 := hP.z1
    have z2 := hP.z2
    have k0 := hP.bk.get (o := 0) rfl
    have k1 := hP.bk.get (o := 1) rfl
    have k2 := hP.bk.get (o := 2) rfl
    simp -dsimp -implicitDefEqProofs only [hx2,c0,c1,c2,z0,z1,z2,k0,k1,k2,m134,sF134,ZA,↓reduceIte,ZB,ZC,ZJ,ZK,ZE,ZF,ZG,ZH,ZI,reduceCtorEq,ZD,mwV,↓mwD,mwU]
    exact ⟨(hx0.trans hxx).set3 (Nat.le_refl _) _ _ _, none, hout, _, _, _, _, _, rfl⟩
  | some f =>
    obtain ⟨v, rfl, hown⟩ := hm
    obtain ⟨_, q, cc, rfl⟩ := own_shape hown
    have hP := put3 (hB.ext hxx) (.int .i64 (metR a b f).1) (.int .i64 0) (.slice q (metR a b f).2.length cc)
    obtain ⟨y0, c0⟩ := hP.c0
    obtain ⟨y1, c1⟩ := hP.c1
    obtain ⟨y2, c2⟩ := hP.c2
    have z0 := hP.z0
    have z1 := hP.z1
    have z2 := hP.z2
    have k0 := hP.bk.get (o := 0) rfl
    have k1 := hP.bk.get (o := 1) rfl
    have k2 := hP.bk.get (o := 2) rfl
    simp -dsimp -implicitDefEqProofs only [hx2,chV,c0,c1,c2,z0,z1,z2,k0,k1,k2,m134,sF134,ZA,↓reduceIte,ZB,ZC,ZJ,ZK,ZE,ZF,ZG,ZH,ZI,reduceCtorEq,ZD,mwV,↓mwD,mwU]
    have hsz2 : w.heap.size < w1.drew.heap.size := by show w.heap.size < w1.heap.size; omega
    exact ⟨(hx0.trans hxx).set3 (Nat.le_refl _) _ _ _, some (metR a b f), hout, q, cc, rfl, Own.mono (Own.set3 hown hsz2 _ _ _) (by omega)⟩
end Go.Proofs.YthcdnjbhhaonhaaGreatDoor
/- Layer 02: package format's meet: the call in which the kinds of two sets meet. -/
namespace Go.Proofs.YthcdnjbhhaonhaaGreatDoor
open Go.RowKit
open Nat renaming reduceEqDiff → ZA, reduceAdd → ZB, reduceMul → ZC, reduceSub → ZD
open Int renaming reduceToNat → ZE, reduceEq → ZF, reduceLT → ZG, reduceLE → ZH, reduceNeg → ZI
open Go.Value renaming oneCell' → ZK, cells → ZJ
open Go.Proofs.Tryz renaming prog → ZP
set_option linter.unusedSimpArgs false
theorem Own.off {w : World} {base b o : Nat} {e : TypeId} {size : Nat} {v x : Value} {n : Nat} {cs : List Value} (h : w.ownsRow base e size v n cs) (hne : v.ownBlock ≠ some b) : (w.setCell ⟨b, o, none⟩ x).ownsRow base e size v n cs := by
  refine ⟨h.1, ?_⟩
  rcases h.2 with h2 | ⟨g, cap, cur, hv, hg, hh, r⟩
  · exact .inl h2
  · refine .inr ⟨g, cap, cur, hv, hg, ?_, r⟩
    rw [Below.heap_setCell _ _ _ _ (by simp only; intro e; apply hne; rw [hv, e]; rfl)]
    exact hh
def cellsOf (c : Ch) (s : Value) : List Value := [.int .i64 c.k, .int .i64 c.d, s]
def MidM (a b : Ch) (sa sb : Value) (w w' : World) (p6 v7 : Value) : Prop :=
  ∃ blk o ok, p6 = .pointer (some ⟨blk, 0, none⟩) ∧ v7 = .bool ok ∧ Ext w w' ∧ w.heap.size + 3 ≤ blk ∧ Bk w' w.heap.size (cellsOf a sa) 35 ∧ Bk w' (w.heap.size + 1) (cellsOf b sb) 35 ∧ Bk w' (w.heap.size + 2) [.int .i64 0, .int .i64 0, .slice none 0 0] 35 ∧ Out a b o ∧
    match o with
    | none => ok = false
    | some p => ok = true ∧ ∃ q c, Bk w' blk [.int .i64 p.1, .int .i64 0, .slice q p.2.length c] 35 ∧ w'.ownsRow w.heap.size 3 1 (.slice q p.2.length c) p.2.length (ints p.2) ∧ (Value.slice q p.2.length c).ownBlock ≠ some blk
structure Own3 (a b : Ch) (sa sb : Value) (w W : World) : Prop where
  ext : Ext w W
  size : w.heap.size + 3 ≤ W.heap.size
  A : Bk W w.heap.size (cellsOf a sa) 35
  B : Bk W (w.heap.size + 1) (cellsOf b sb) 35
  C : Bk W (w.heap.size + 2) [.int .i64 0, .int .i64 0, .slice none 0 0] 35
theorem Own3.next {a b : Ch} {sa sb : Value} {w W W' : World} (h : Own3 a b sa sb w W) (hx : Ext W W') : Own3 a b sa sb w W' :=
  ⟨h.ext.trans hx, Nat.le_trans h.size hx.size, h.A.ext hx, h.B.ext hx, h.C.ext hx⟩
theorem Own3.set3 {a b : Ch} {sa sb : Value} {w W : World} {blk : Nat} (h : Own3 a b sa sb w W) (hb : w.heap.size + 3 ≤ blk) (a0 a1 a2 : Value) : Own3 a b sa sb w (((W.setCell ⟨blk, 0, none⟩ a0).setCell ⟨blk, 1, none⟩ a1).setCell ⟨blk, 2, none⟩ a2) :=
  ⟨h.ext.set3 (by omega) _ _ _, by have := h.size; simpa [World.setCell] using this,
   ((h.A.ne (by omega) 0 a0).ne (by omega) 1 a1).ne (by omega) 2 a2, ((h.B.ne (by omega) 0 a0).ne (by omega) 1 a1).ne (by omega) 2 a2, ((h.C.ne (by omega) 0 a0).ne (by omega) 1 a1).ne (by omega) 2 a2⟩
theorem mid_after {a b : Ch} {sa sb : Value} {w W w5 w6 : World} {r : Value} (h : Own3 a b sa sb w W) (hx : Ext W w5) (ho : OutR w5 a b r w6) :
    ∃ x y z ok, r = .tuple #[.agg #[.int .i64 x, .int .i64 y, z], .bool ok] ∧ z.oneCell' = true ∧ Ext w5 w6 ∧ MidM a b sa sb w (w6.alloc (.cells #[.int .i64 x, .int .i64 y, z] 35)) (.pointer (some ⟨w6.heap.size, 0, none⟩)) (.bool ok) := by
  obtain ⟨hx6, o, hout, hm⟩ := ho
  have h6 := (h.next hx).next hx6
  have h7 := fun cs => h6.next (Ext.alloc w6 (.cells cs 35))
  cases o with
  | none =>
    obtain ⟨x, y, q, n, c, rfl⟩ := hm
    exact ⟨x, y, _, false, rfl, rfl, hx6, _, none, false, rfl, rfl, (h7 _).ext, h6.size, (h7 _).A, (h7 _).B, (h7 _).C, hout, rfl⟩
  | some p =>
    obtain ⟨q, c, rfl, hown⟩ := hm
    refine ⟨p.1, 0, _, true, rfl, rfl, hx6, _, some p, true, rfl, rfl, (h7 _).ext, h6.size, (h7 _).A, (h7 _).B, (h7 _).C, hout, rfl, q, c, Bk.new _ _ _, Own.mono (Own.ext hown (Ext.alloc _ _)) (by have := (h.next hx).size; omega), fun e => ?_⟩
    have := (World.ownsRow.lt hown _ e).2
    omega
theorem mid_before {a b : Ch} {sa sb : Value} {w W w5 w6 : World} {r : Value} {blk : Nat} {x0 x1 x2 : Value} (h : Own3 a b sa sb w W) (hx : Ext W w5) (hb : W.heap.size ≤ blk) (hB : Bk w5 blk [x0, x1, x2] 35) (ho : OutR w5 a b r w6) :
    ∃ x y z ok, r = .tuple #[.agg #[.int .i64 x, .int .i64 y, z], .bool ok] ∧ z.oneCell' = true ∧ Ext w5 w6 ∧ Put3 w6 blk (.int .i64 x) (.int .i64 y) z 35 ∧
      MidM a b sa sb w (((w6.setCell ⟨blk, 0, none⟩ (.int .i64 x)).setCell ⟨blk, 1, none⟩ (.int .i64 y)).setCell ⟨blk, 2, none⟩ z) (.pointer (some ⟨blk, 0, none⟩)) (.bool ok) := by
  obtain ⟨hx6, o, hout, hm⟩ := ho
  have h6 := (h.next hx).next hx6
  have hs := h.size
  have keep : ∀ (k : Nat) (cs : List Value) (a0 a1 a2 : Value), k < blk → Bk w6 k cs 35 → Bk (((w6.setCell ⟨blk, 0, none⟩ a0).setCell ⟨blk, 1, none⟩ a1).setCell ⟨blk, 2, none⟩ a2) k cs 35 := fun k cs a0 a1 a2 hk hB => by
    have hne : blk ≠ k := by omega
    exact ((hB.ne hne 0 a0).ne hne 1 a1).ne hne 2 a2
  have hlt : blk < w5.heap.size := hB.lt
  cases o with
  | none =>
    obtain ⟨x, y, q, n, c, rfl⟩ := hm
    have hP := put3 (hB.ext hx6) (.int .i64 x) (.int .i64 y) (.slice q n c)
    exact ⟨x, y, _, false, rfl, rfl, hx6, hP, _, none, false, rfl, rfl, h6.ext.set3 (by omega) _ _ _, by omega, keep _ _ _ _ _ (by omega) h6.A, keep _ _ _ _ _ (by omega) h6.B, keep _ _ _ _ _ (by omega) h6.C, hout, rfl⟩
  | some p =>
    obtain ⟨q, c, rfl, hown⟩ := hm
    have hP := put3 (hB.ext hx6) (.int .i64 p.1) (.int .i64 0) (.slice q p.2.length c)
    refine ⟨p.1, 0, _, true, rfl, rfl, hx6, hP, _, some p, true, rfl, rfl, h6.ext.set3 (by omega) _ _ _, by omega, keep _ _ _ _ _ (by omega) h6.A, keep _ _ _ _ _ (by omega) h6.B, keep _ _ _ _ _ (by omega) h6.C, hout, rfl, q, c, hP.bk, Own.mono (Own.set3 hown hlt _ _ _) (by have := (h.next hx).size; omega), fun e => ?_⟩
    have := (World.ownsRow.lt hown _ e).1
    omega
def meetF (a b : Ch) : FuncId := if a.lsd then (if b.lsd then 130 else 132) else (if b.lsd then 133 else 134)
theorem meetF_c (a b : Ch) (sa sb : Value) (w : World) (fa : Fit a) (fb : Fit b) (ha : SlI w sa a.L) (hb : SlI w sb b.L) (na : a.L.length ≤ 1000000) (nb : b.L.length ≤ 1000000) : okF ZP (meetF a b) = true ∧ Rets ZP (meetF a b) #[setV a sa, setV b sb] w (OutR w a b) := by
  unfold meetF
  cases la : a.lsd <;> cases lb : b.lsd
  · exact ⟨okF_134, meet4_c a b sa sb w fa fb la lb⟩
  · exact ⟨okF_133, meet3_c a b sa sb w fa fb lb la ha hb nb⟩
  · exact ⟨okF_132, meet2_c a b sa sb w fa fb la ha hb na⟩
  · exact ⟨okF_130, meet1_c a b sa sb w fa fb la ha hb na⟩
theorem meet_ix (a b : Ch) : ∃ u, idxV ZP 115 meetArr (.int .i64 (if a.lsd = true then 0 else 1)) = some u ∧ idxV ZP 114 u (.int .i64 (if b.lsd = true then 0 else 1)) = some (fnv (meetF a b)) := by
  unfold meetF
  cases a.lsd <;> cases b.lsd
  · exact ⟨.agg #[fnv 133, fnv 134], by kernel_rfl, by kernel_rfl⟩
  · exact ⟨.agg #[fnv 133, fnv 134], by kernel_rfl, by kernel_rfl⟩
  · exact ⟨.agg #[fnv 130, fnv 132], by kernel_rfl, by kernel_rfl⟩
  · exact ⟨.agg #[fnv 130, fnv 132], by kernel_rfl, by kernel_rfl⟩
end Go.Proofs.YthcdnjbhhaonhaaGreatDoor

/- Layer 02: a format as a value, by the reference. -/
import Derived.Test.YthcdnjbhhaonhaaGreatDoorQvVaOToVaT

namespace Go.Proofs.YthcdnjbhhaonhaaGreatDoor
open Go.RowKit
open Nat renaming reduceEqDiff → ZA, reduceAdd → ZB, reduceMul → ZC, reduceSub → ZD
open Int renaming reduceToNat → ZE, reduceEq → ZF, reduceLT → ZG, reduceLE → ZH, reduceNeg → ZI
open Go.Value renaming oneCell' → ZK, cells → ZJ
set_option linter.unusedSimpArgs false
set_option maxHeartbeats 8000000 in
theorem refFValue_c (f : Fm) (s : Value) (w : World) (hs : SlF w s f.F) (hlt0 : f.F.length ≤ 12) (hl60 : ∀ x ∈ f.F, x.c.L.length ≤ 60) : Rets Go.Proofs.Tryz.prog 48 #[fmV f s] w (ValQ f w) := by
  obtain ⟨p, cap, rfl, hc1, hc2⟩ := hs.shape
  obtain ⟨W, hW, A, B, hx⟩ := box_fv w (.int .i64 f.m) (.slice p f.F.length cap)
  have hsz : W.heap.size = w.heap.size + 2 := by rw [hW]; simp only [World.size_alloc]
  refine en48 ?_
  refine mwpB_cut 1 (fun e ds w' => e 1 = .pointer (some ⟨w.heap.size, 0, none⟩) ∧ e 2 = .pointer (some ⟨w.heap.size + 1, 0, none⟩) ∧ ds = [] ∧ w' = W) ?_ ?_
  · simp -dsimp -implicitDefEqProofs only [fmV,headM_zero,headM_seq,World.size_alloc,hW,m48,sF48,ZA,↓reduceIte,ZB,ZC,ZJ,ZK,ZE,ZF,ZG,ZH,ZI,reduceCtorEq,ZD,mwV,↓mwD,mwU]
  clear hW
  rintro e ds w0 ⟨k1, k2, rfl, rfl⟩
  have A0 := A.get (o := 0) rfl
  have A1 := A.get (o := 1) rfl
  simp -dsimp -implicitDefEqProofs only [tailM_zero,tailM_seq,k1,A0,A1,m48,sF48,ZA,↓reduceIte,ZB,ZC,ZJ,ZK,ZE,ZF,ZG,ZH,ZI,reduceCtorEq,ZD,mwV,↓mwD,mwU]
  refine (refFValid_c f _ w0 (hs.ext hx)).use ?_
  rintro r w1 ⟨rfl, hx1⟩
  have hxw := hx.trans hx1
  cases hv : f.valid
  · obtain ⟨⟨u0, y0⟩, y1, ⟨u2, y2⟩, y3, ⟨u4, y4⟩, y5, ⟨u6, y6⟩, y7, ⟨u8, y8⟩, y9, y10, y11, _⟩ := put5 (B.ext hx1) (.int .i64 0) (.int .i64 0) (.string ⟨#[]⟩) (.slice none 0 0) (.slice none 0 0)
    have g0 := y10.get (o := 0) rfl
    have g1 := y10.get (o := 1) rfl
    have g2 := y10.get (o := 2) rfl
    have g3 := y10.get (o := 3) rfl
    have g4 := y10.get (o := 4) rfl
    simp -dsimp -implicitDefEqProofs only [k1,k2,bv_v0,y0,y1,y2,y3,y4,y5,y6,y7,y8,y9,g0,g1,g2,g3,g4,m48,sF48,ZA,↓reduceIte,ZB,ZC,ZJ,ZK,ZE,ZF,ZG,ZH,ZI,reduceCtorEq,ZD,mwV,↓mwD,mwU]
    exact ⟨y11 hxw (by omega), zeroVt, none, none, 0, 0, 1, rfl, vat_zero _, .inl ⟨rfl, rfl, hv⟩⟩
  have hv' := hv
  unfold Fm.valid at hv'
  simp only [Bool.and_eq_true,decide_eq_true_eq] at hv'
  obtain ⟨hF, hm1, hm2⟩ := hv'
  have A0 := (A.ext hx1).get (o := 0) rfl
  have xA : Ext w1 (w1.alloc (.cells #[.int .i64 8, .int .i64 f.m, .string ⟨#[]⟩, .slice none 0 0, .slice none 0 0] 64)) := Ext.alloc _ _
  have C := Bk.new w1 [.int .i64 8, .int .i64 f.m, .string ⟨#[]⟩, .slice none 0 0, .slice none 0 0] 64
  have A2 := A.ext (hx1.trans xA)
  simp -dsimp -implicitDefEqProofs only [k1,k2,A0,bv_v2,setCell_new,m48,sF48,ZA,↓reduceIte,ZB,ZC,ZJ,ZK,ZE,ZF,ZG,ZH,ZI,reduceCtorEq,ZD,mwV,↓mwD,mwU]
  have hbv : w.heap.size + 2 ≤ w1.heap.size := by have := hx1.size; omega
  replace C : Bk (w1.alloc (.cells #[.int .i64 8, .int .i64 f.m, .string ⟨#[]⟩, .slice none 0 0, .slice none 0 0] 64)) w1.heap.size [.int .i64 8, .int .i64 f.m, .string ⟨#[]⟩, .slice none 0 0, .slice none 0 0] 64 := C
  have hszA : (w1.alloc (.cells #[.int .i64 8, .int .i64 f.m, .string ⟨#[]⟩, .slice none 0 0, .slice none 0 0] 64)).heap.size = w1.heap.size + 1 := World.size_alloc _ _
  replace A2 : Bk (w1.alloc (.cells #[.int .i64 8, .int .i64 f.m, .string ⟨#[]⟩, .slice none 0 0, .slice none 0 0] 64)) w.heap.size [.int .i64 f.m, .slice p f.F.length cap] 24 := A2
  generalize w1.alloc (.cells #[.int .i64 8, .int .i64 f.m, .string ⟨#[]⟩, .slice none 0 0, .slice none 0 0] 64) = wA at *
  generalize hbve : w1.heap.size = bv at *
  refine mwpB_loop (fun e ds w' => ∃ (i : Nat) (acc : List (Vt × Value × Value)) (ks vs : Value), i ≤ f.F.length ∧ e 5 = .int .i64 i ∧ e 1 = .pointer (some ⟨w.heap.size, 0, none⟩) ∧ e 2 = .pointer (some ⟨w.heap.size + 1, 0, none⟩) ∧ e 4 = .pointer (some ⟨bv, 0, none⟩) ∧ ds = [] ∧
      bv + 1 ≤ w'.heap.size ∧ ValS w w' (bv + 1) bv (w.heap.size + 1) f.m ks vs ks vs ((f.F.take i).map (·.key)) acc ∧ (acc.map (·.1) = (f.F.take i).map fun x => chVt x.c) ∧ Bk w' w.heap.size [.int .i64 f.m, .slice p f.F.length cap] 24)
    (fun e _ => f.F.length - (intOf (e 5)).toNat) ?_ ?_
  · simp -dsimp -implicitDefEqProofs only [k1,k2,m48,sF48,ZA,↓reduceIte,ZB,ZC,ZJ,ZK,ZE,ZF,ZG,ZH,ZI,reduceCtorEq,ZD,mwV,↓mwD,mwU]
    exact ⟨0, [], _, _, by omega, rfl, by omega, ⟨hxw.trans xA, C, (B.ext hx1).ext xA, World.ownsRow_nil _ _ _ _, World.ownsRow_nil _ _ _ _, fun p hp => by cases hp⟩, rfl, A2⟩
  clear k1 k2 A2
  rintro e ds w' ⟨i, acc, ks, vs, hi, h5, h1, h2, h4, rfl, hbw, hV, hacc, hA⟩
  have hal : acc.length = i := by have := congrArg List.length hacc; simp at this; omega
  obtain ⟨qk, nk, ck, rfl⟩ := own_slice hV.keys
  obtain ⟨qv, nv, cv, rfl⟩ := own_slice hV.top
  have a1 := hA.get (o := 1) rfl
  simp -dsimp -implicitDefEqProofs only [h5,h1,h2,h4,a1,m48,sF48,ZA,↓reduceIte,ZB,ZC,ZJ,ZK,ZE,ZF,ZG,ZH,ZI,reduceCtorEq,ZD,mwV,↓mwD,mwU]
  refine iteW_dec (fun hlt => ?_) (fun hge => ?_)
  · have hlt' : i < f.F.length := by omega
    obtain ⟨b, o, rfl, hfs0⟩ := hs.at (by intro h0; rw [h0] at hlt'; simp at hlt')
    obtain ⟨_, q0w, _⟩ := hfs0.get hlt'
    obtain ⟨sk, q0, q1, q2, q3, hsk⟩ := (hfs0.ext hV.ext).get hlt'
    obtain ⟨ps, cs, rfl, hcs1, hcs2⟩ := hsk.shape
    have hb1 : (0 : Int) ≤ i ∧ (i : Int) < f.F.length := by omega
    have hw := w64_succ hlt' (Nat.le_trans hc1 hc2)
    obtain ⟨hk0, hk6, hvk⟩ := fieldsB_mem hF _ (List.getElem_mem hlt')
    have hl6 := hl60 _ (List.getElem_mem hlt')
    have H5 := h5
    obtain ⟨W2, hW2, D2, x2⟩ : ∃ W', W' = w'.alloc (.cells #[.int .i64 f.F[i].c.k, .int .i64 f.F[i].c.d, .slice ps f.F[i].c.L.length cs] 35) ∧ Bk W' w'.heap.size [.int .i64 f.F[i].c.k, .int .i64 f.F[i].c.d, .slice ps f.F[i].c.L.length cs] 35 ∧ Ext w' W' := ⟨_, rfl, Bk.new _ _ _, Ext.alloc _ _⟩
    have hszW2 : W2.heap.size = w'.heap.size + 1 := by rw [hW2]; exact World.size_alloc _ _
    have d0 := D2.get (o := 0) rfl
    have d1 := D2.get (o := 1) rfl
    have R3 : (W2.alloc (.cells #[.int .i64 3, .int .i64 f.F[i].c.d, .string ⟨#[]⟩, .slice none 0 0, .slice none 0 0] 64)).ownsRow (w'.heap.size + 1) 64 5 (.slice (some ⟨W2.heap.size, 0, none⟩) 1 1) (numAcc [f.F[i].c.d]).length (rowsV (numAcc [f.F[i].c.d])) := own_new W2 (rowsV (numAcc [f.F[i].c.d])) 64 (w'.heap.size + 1) 1 5 rfl (by omega) (by unfold maxLen; omega)
    have x3 : Ext W2 (W2.alloc (.cells #[.int .i64 3, .int .i64 f.F[i].c.d, .string ⟨#[]⟩, .slice none 0 0, .slice none 0 0] 64)) := Ext.alloc _ _
    have hszW3 : (W2.alloc (.cells #[.int .i64 3, .int .i64 f.F[i].c.d, .string ⟨#[]⟩, .slice none 0 0, .slice none 0 0] 64)).heap.size = W2.heap.size + 1 := World.size_alloc _ _
    simp -dsimp -implicitDefEqProofs only [h5,h1,h2,h4,a1,hb1,and_self,q0,q1,q2,q3,Nat.mul_comm i 4,← hW2,d0,d1,bv_v2,bs_v,m48,sF48,ZA,↓reduceIte,ZB,ZC,ZJ,ZK,ZE,ZF,ZG,ZH,ZI,reduceCtorEq,ZD,mwV,↓mwD,mwU]
    generalize hW3 : W2.alloc (.cells #[.int .i64 3, .int .i64 f.F[i].c.d, .string ⟨#[]⟩, .slice none 0 0, .slice none 0 0] 64) = W3 at *
    have C4 := Bk.new W3 [.int .i64 9, .int .i64 f.F[i].c.k, .string ⟨#[]⟩, .slice none 0 0, .slice (some ⟨W2.heap.size, 0, none⟩) 1 1] 64
    have x4 : Ext W3 (W3.alloc (.cells #[.int .i64 9, .int .i64 f.F[i].c.k, .string ⟨#[]⟩, .slice none 0 0, .slice (some ⟨W2.heap.size, 0, none⟩) 1 1] 64)) := Ext.alloc _ _
    replace C4 : Bk (W3.alloc (.cells #[.int .i64 9, .int .i64 f.F[i].c.k, .string ⟨#[]⟩, .slice none 0 0, .slice (some ⟨W2.heap.size, 0, none⟩) 1 1] 64)) W3.heap.size [.int .i64 9, .int .i64 f.F[i].c.k, .string ⟨#[]⟩, .slice none 0 0, .slice (some ⟨W2.heap.size, 0, none⟩) 1 1] 64 := C4
    have R4 := Own.ext R3 x4
    have x14 := x2.trans (x3.trans x4)
    have D4 := D2.ext (x3.trans x4)
    have vtop : ∀ k, (Value.slice qv nv cv).ownBlock = some k → k < w'.heap.size := fun k hk => (own_lt hV.top hk).2
    simp -dsimp -implicitDefEqProofs only [bv_v3,setCell_new,m48,sF48,ZA,↓reduceIte,ZB,ZC,ZJ,ZK,ZE,ZF,ZG,ZH,ZI,reduceCtorEq,ZD,mwV,↓mwD,mwU]
    have hb4 : ∀ k, (Value.slice (some ⟨W2.heap.size, 0, none⟩) 1 1).ownBlock = some k → k ≠ W3.heap.size := fun k h => by
      simp only [Value.ownBlock,Option.some.injEq] at h
      omega
    have hbc : w'.heap.size < W3.heap.size := by omega
    generalize W3.alloc (.cells #[.int .i64 9, .int .i64 f.F[i].c.k, .string ⟨#[]⟩, .slice none 0 0, .slice (some ⟨W2.heap.size, 0, none⟩) 1 1] 64) = W4 at *
    generalize W3.heap.size = bc at *
    generalize (some (⟨W2.heap.size, 0, none⟩ : Addr)) = q4 at *
    clear hW3 hW2
    refine mwpB_loop (fun e ds u => ∃ (j : Nat) (q5 : Option Addr) (n5 c5 : Nat), j ≤ f.F[i].c.L.length ∧ (f.F[i].c.k = 1 → j = 0) ∧ e 8 = .int .i64 j ∧ e 7 = .pointer (some ⟨bc, 0, none⟩) ∧ e 6 = .pointer (some ⟨w'.heap.size, 0, none⟩) ∧ e 5 = .int .i64 i ∧ e 1 = .pointer (some ⟨w.heap.size, 0, none⟩) ∧ e 2 = .pointer (some ⟨w.heap.size + 1, 0, none⟩) ∧ e 4 = .pointer (some ⟨bv, 0, none⟩) ∧ ds = [] ∧
        Ext w' u ∧ Bk u w'.heap.size [.int .i64 f.F[i].c.k, .int .i64 f.F[i].c.d, .slice ps f.F[i].c.L.length cs] 35 ∧ Bk u bc [.int .i64 9, .int .i64 f.F[i].c.k, .string ⟨#[]⟩, .slice none 0 0, .slice q5 n5 c5] 64 ∧ u.ownsRow (w'.heap.size + 1) 64 5 (.slice q5 n5 c5) (numAcc (f.F[i].c.d :: f.F[i].c.L.take j)).length (rowsV (numAcc (f.F[i].c.d :: f.F[i].c.L.take j))) ∧ ∀ k, (Value.slice q5 n5 c5).ownBlock = some k → k ≠ bc)
      (fun e _ => f.F[i].c.L.length - (intOf (e 8)).toNat) ?_ ?_
    · simp -dsimp -implicitDefEqProofs only [h5,h1,h2,h4,m48,sF48,ZA,↓reduceIte,ZB,ZC,ZJ,ZK,ZE,ZF,ZG,ZH,ZI,reduceCtorEq,ZD,mwV,↓mwD,mwU]
      exact ⟨0, q4, 1, 1, by omega, fun _ => rfl, rfl, x14, D4, C4, R4, hb4⟩
    clear h5 h1 h2 h4 x4 x14 D4 C4 R4 hb4
    rintro e ds u ⟨j, q5, n5, c5, hj, hj1, h8, h7, h6, h5, h1, h2, h4, rfl, hx5, D5, hC, hrow, hne⟩
    have z0c := D5.get (o := 0) rfl
    have z2c := D5.get (o := 2) rfl
    -- what stands behind the loop
    have out : ¬((j : Int) < f.F[i].c.L.length ∧ f.F[i].c.k ≠ 1) → f.F[i].c.d :: f.F[i].c.L.take j = numsC f.F[i].c := fun h => by
      unfold numsC
      by_cases m1 : f.F[i].c.k = 1
      · rw [if_pos m1, hj1 m1]; rfl
      · rw [if_neg m1, List.take_of_length_le (by omega)]
    by_cases hgo : (j : Int) < f.F[i].c.L.length ∧ f.F[i].c.k ≠ 1
    · obtain ⟨hlt2, m1⟩ := hgo
      have e1 := decide_eq_false m1
      have hlj : j < f.F[i].c.L.length := by omega
      obtain ⟨bl, ol, capl, hql, _, _, hcl⟩ := hsk.at (by intro h0; rw [h0] at hlj; simp at hlj)
      cases hql
      have hcj0 := hcl j hlj
      have hcj := hx5.cell hcj0
      have hb5 : (0 : Int) ≤ j ∧ (j : Int) < f.F[i].c.L.length := by omega
      have hs4 := w64_succ hlj (Nat.le_trans hcs1 hcs2)
      have z4 := hC.get (o := 4) rfl
      have hCd := hC.ext (Ext.drew u)
      have D5d := D5.ext (Ext.drew u)
      have hrowd := Own.ext hrow (Ext.drew u)
      have hb6 : w'.heap.size + 1 ≤ u.drew.heap.size := by have := hCd.lt; omega
      obtain ⟨v', u2, happ, hown2, hkeep, hext2, hnew, hsz2⟩ := append_vt hrowd (numV f.F[i].c.L[j]) (.slice none 0 0) (.slice none 0 0) rfl rfl (by rw [numAcc_len]; simp; omega) hb6
      replace happ : (Builtin.append_ #[62, 62] 62 #[.slice q5 n5 c5, .slice (some ⟨u.drew.heap.size, 0, none⟩) 1 1]).run Go.Proofs.Tryz.prog (u.drew.alloc (.cells #[.int .i64 3, .int .i64 f.F[i].c.L[j], .string ⟨#[]⟩, .slice none 0 0, .slice none 0 0] 64)) = .ok v' u2 := happ
      have hC2 : Bk u2 bc [.int .i64 9, .int .i64 f.F[i].c.k, .string ⟨#[]⟩, .slice none 0 0, .slice q5 n5 c5] 64 := by
        unfold Bk; rw [hkeep bc hCd.lt (fun h => hne _ h rfl)]; exact hCd
      have D6 : Bk u2 w'.heap.size [.int .i64 f.F[i].c.k, .int .i64 f.F[i].c.d, .slice (some ⟨bl, ol, none⟩) f.F[i].c.L.length cs] 35 := by
        unfold Bk; rw [hkeep _ D5d.lt (fun h => by have := (own_lt hrow h).1; omega)]; exact D5d
      have t4 := hC2.get (o := 4) rfl
      have t4f := hC2.frozen 4
      have hne' : ∀ k, v'.ownBlock = some k → k ≠ bc := fun k hk => by
        rcases hnew k hk with h | h
        · exact hne k h
        · have := hCd.lt; omega
      obtain ⟨q2', n2', c2', rfl⟩ := own_slice hown2
      have H8 := h8
      have hx2' : Ext w' u2 := hext2 (hx5.trans (Ext.drew u)) (by omega)
      simp -dsimp -implicitDefEqProofs only [h8,h7,h6,h5,h1,h2,h4,z0c,z2c,hlt2,e1,m48,sF48,ZA,↓reduceIte,ZB,ZC,ZJ,ZK,ZE,ZF,ZG,ZH,ZI,reduceCtorEq,ZD,mwV,↓mwD,mwU]
      refine mwpB_draw (fun w'' => w''.cell? ⟨bc, 4, none⟩ = some (.slice q5 n5 c5) ∧ w''.cell? ⟨w'.heap.size, 2, none⟩ = some (.slice (some ⟨bl, ol, none⟩) f.F[i].c.L.length cs) ∧ w''.cell? ⟨bl, ol + j, none⟩ = some (.int .i64 f.F[i].c.L[j])) ⟨z4, z2c, hcj⟩ ?_
      simp -dsimp -implicitDefEqProofs only [h8,h7,h6,m48,sF48,ZA,↓reduceIte,ZB,ZC,ZJ,ZK,ZE,ZF,ZG,ZH,ZI,reduceCtorEq,ZD,mwV,↓mwD,mwU]
      refine softB_load (v := .slice q5 n5 c5) (fun w'' hw' => ?_) ?_
      · simp -dsimp -implicitDefEqProofs only [h7,hw'.1,m48,sF48,ZA,↓reduceIte,ZB,ZC,ZJ,ZK,ZE,ZF,ZG,ZH,ZI,reduceCtorEq,ZD,mwV,↓mwD,mwU]
      simp -dsimp -implicitDefEqProofs only [h8,h7,h6,m48,sF48,ZA,↓reduceIte,ZB,ZC,ZJ,ZK,ZE,ZF,ZG,ZH,ZI,reduceCtorEq,ZD,mwV,↓mwD,mwU]
      refine softB_load (v := .slice (some ⟨bl, ol, none⟩) f.F[i].c.L.length cs) (fun w'' hw' => ?_) ?_
      · simp -dsimp -implicitDefEqProofs only [h6,hw'.2.1,m48,sF48,ZA,↓reduceIte,ZB,ZC,ZJ,ZK,ZE,ZF,ZG,ZH,ZI,reduceCtorEq,ZD,mwV,↓mwD,mwU]
      simp -dsimp -implicitDefEqProofs only [h8,h7,h6,hb5,and_self,m48,sF48,ZA,↓reduceIte,ZB,ZC,ZJ,ZK,ZE,ZF,ZG,ZH,ZI,reduceCtorEq,ZD,mwV,↓mwD,mwU]
      refine softB_load (v := .int .i64 f.F[i].c.L[j]) (fun w'' hw' => ?_) ?_
      · simp -dsimp -implicitDefEqProofs only [hw'.2.2,m48,sF48,ZA,↓reduceIte,ZB,ZC,ZJ,ZK,ZE,ZF,ZG,ZH,ZI,reduceCtorEq,ZD,mwV,↓mwD,mwU]
      simp -dsimp -implicitDefEqProofs only [h8,h7,h6,bv_v2,bs_v,m48,sF48,ZA,↓reduceIte,ZB,ZC,ZJ,ZK,ZE,ZF,ZG,ZH,ZI,reduceCtorEq,ZD,mwV,↓mwD,mwU]
      have xq : Ext u (u.drew.alloc (.cells #[.int .i64 3, .int .i64 f.F[i].c.L[j], .string ⟨#[]⟩, .slice none 0 0, .slice none 0 0] 64)) := (Ext.drew u).trans (Ext.alloc _ _)
      refine ⟨⟨xq.cell z4, xq.cell z2c, xq.cell hcj⟩, ?_⟩
      refine appB.mk happ ?_
      refine ⟨⟨t4, D6.get (o := 2) rfl, hx2'.cell hcj0⟩, ?_⟩
      simp -dsimp -implicitDefEqProofs only [h8,h7,h6,h5,h1,h2,h4,t4,t4f,hs4,m48,sF48,ZA,↓reduceIte,ZB,ZC,ZJ,ZK,ZE,ZF,ZG,ZH,ZI,reduceCtorEq,ZD,mwV,↓mwD,mwU]
      refine ⟨⟨j + 1, _, _, _, by omega, fun h => absurd h m1, rfl, Ext.setCell (p := ⟨bc, 4, none⟩) hx2' (by show w'.heap.size ≤ bc; omega) _, D6.ne (by omega) 4 _, hC2.set 4 _, ?_, hne'⟩, by simp only [intOf,H8]; omega⟩
      rw [List.take_succ_eq_append_getElem hlj, ← List.cons_append, numAcc_app]
      exact Own.off hown2 (fun h => hne' _ h rfl)
    have hnums := out hgo
    rw [hnums] at hrow
    have H5' := H5
    by_cases hlt2 : (j : Int) < f.F[i].c.L.length
    have m1 : f.F[i].c.k = 1 := Classical.byContradiction fun h => hgo ⟨hlt2, h⟩
    have e1 := decide_eq_true m1
    simp -dsimp -implicitDefEqProofs only [h8,h7,h6,h5,h1,h2,h4,z0c,z2c,hlt2,e1,m48,sF48,ZA,↓reduceIte,ZB,ZC,ZJ,ZK,ZE,ZF,ZG,ZH,ZI,reduceCtorEq,ZD,mwV,↓mwD,mwU]
    rotate_left
    simp -dsimp -implicitDefEqProofs only [h8,h7,h6,h5,h1,h2,h4,z2c,hlt2,m48,sF48,ZA,↓reduceIte,ZB,ZC,ZJ,ZK,ZE,ZF,ZG,ZH,ZI,reduceCtorEq,ZD,mwV,↓mwD,mwU]
    all_goals
      have hV5 := hV.next hx5
      have s1 := hV5.bk.get (o := 3) rfl
      have s2 := (hA.ext hx5).get (o := 1) rfl
      have s3 := (hV.ext.trans hx5).cell q0w
      have s4 := hV5.bk.get (o := 4) rfl
      have s5 := hC.get (o := 0) rfl
      have s6 := hC.get (o := 1) rfl
      have s7 := hC.get (o := 2) rfl
      have s8 := hC.get (o := 3) rfl
      have s9 := hC.get (o := 4) rfl
      have toS : ∀ {u' : World}, Ext w u' → Bk u' bv [.int .i64 8, .int .i64 f.m, .string ⟨#[]⟩, .slice qk nk ck, .slice qv nv cv] 64 → Bk u' w.heap.size [.int .i64 f.m, .slice (some ⟨b, o, none⟩) f.F.length cap] 24 → Bk u' bc [.int .i64 9, .int .i64 f.F[i].c.k, .string ⟨#[]⟩, .slice none 0 0, .slice q5 n5 c5] 64 →
          u'.cell? ⟨bv, 3, none⟩ = some (.slice qk nk ck) ∧ u'.cell? ⟨w.heap.size, 1, none⟩ = some (.slice (some ⟨b, o, none⟩) f.F.length cap) ∧ u'.cell? ⟨b, o + 4 * i, none⟩ = some (.int .i64 f.F[i].key) ∧ u'.cell? ⟨bv, 4, none⟩ = some (.slice qv nv cv) ∧ u'.cell? ⟨bc, 0, none⟩ = some (.int .i64 9) ∧ u'.cell? ⟨bc, 1, none⟩ = some (.int .i64 f.F[i].c.k) ∧ u'.cell? ⟨bc, 2, none⟩ = some (.string ⟨#[]⟩) ∧ u'.cell? ⟨bc, 3, none⟩ = some (.slice none 0 0) ∧ u'.cell? ⟨bc, 4, none⟩ = some (.slice q5 n5 c5) := fun g1 g2 g3 g4 =>
        ⟨g2.get (o := 3) rfl, g3.get (o := 1) rfl, g1.cell q0w, g2.get (o := 4) rfl, g4.get (o := 0) rfl, g4.get (o := 1) rfl, g4.get (o := 2) rfl, g4.get (o := 3) rfl, g4.get (o := 4) rfl⟩
      refine mwpB_draw (fun w'' => w''.cell? ⟨bv, 3, none⟩ = some (.slice qk nk ck) ∧ w''.cell? ⟨w.heap.size, 1, none⟩ = some (.slice (some ⟨b, o, none⟩) f.F.length cap) ∧ w''.cell? ⟨b, o + 4 * i, none⟩ = some (.int .i64 f.F[i].key) ∧ w''.cell? ⟨bv, 4, none⟩ = some (.slice qv nv cv) ∧ w''.cell? ⟨bc, 0, none⟩ = some (.int .i64 9) ∧ w''.cell? ⟨bc, 1, none⟩ = some (.int .i64 f.F[i].c.k) ∧ w''.cell? ⟨bc, 2, none⟩ = some (.string ⟨#[]⟩) ∧ w''.cell? ⟨bc, 3, none⟩ = some (.slice none 0 0) ∧ w''.cell? ⟨bc, 4, none⟩ = some (.slice q5 n5 c5)) ⟨s1, s2, s3, s4, s5, s6, s7, s8, s9⟩ ?_
      simp -dsimp -implicitDefEqProofs only [h7,h5,h1,h4,m48,sF48,ZA,↓reduceIte,ZB,ZC,ZJ,ZK,ZE,ZF,ZG,ZH,ZI,reduceCtorEq,ZD,mwV,↓mwD,mwU]
      refine softB_load (v := .slice qk nk ck) (fun w'' hw' => ?_) ?_
      · simp -dsimp -implicitDefEqProofs only [h4,hw'.1,m48,sF48,ZA,↓reduceIte,ZB,ZC,ZJ,ZK,ZE,ZF,ZG,ZH,ZI,reduceCtorEq,ZD,mwV,↓mwD,mwU]
      simp -dsimp -implicitDefEqProofs only [h7,h5,h1,h4,m48,sF48,ZA,↓reduceIte,ZB,ZC,ZJ,ZK,ZE,ZF,ZG,ZH,ZI,reduceCtorEq,ZD,mwV,↓mwD,mwU]
      refine softB_load (v := .slice (some ⟨b, o, none⟩) f.F.length cap) (fun w'' hw' => ?_) ?_
      · simp -dsimp -implicitDefEqProofs only [h1,hw'.2.1,m48,sF48,ZA,↓reduceIte,ZB,ZC,ZJ,ZK,ZE,ZF,ZG,ZH,ZI,reduceCtorEq,ZD,mwV,↓mwD,mwU]
      simp -dsimp -implicitDefEqProofs only [h7,h5,h1,h4,hb1,and_self,Nat.mul_comm i 4,m48,sF48,ZA,↓reduceIte,ZB,ZC,ZJ,ZK,ZE,ZF,ZG,ZH,ZI,reduceCtorEq,ZD,mwV,↓mwD,mwU]
      refine softB_load (v := .int .i64 f.F[i].key) (fun w'' hw' => ?_) ?_
      · simp -dsimp -implicitDefEqProofs only [hw'.2.2.1,m48,sF48,ZA,↓reduceIte,ZB,ZC,ZJ,ZK,ZE,ZF,ZG,ZH,ZI,reduceCtorEq,ZD,mwV,↓mwD,mwU]
      simp -dsimp -implicitDefEqProofs only [h7,h5,h1,h4,m48,sF48,ZA,↓reduceIte,ZB,ZC,ZJ,ZK,ZE,ZF,ZG,ZH,ZI,reduceCtorEq,ZD,mwV,↓mwD,mwU]
      refine softB_load (v := .slice qv nv cv) (fun w'' hw' => ?_) ?_
      · simp -dsimp -implicitDefEqProofs only [h4,hw'.2.2.2.1,m48,sF48,ZA,↓reduceIte,ZB,ZC,ZJ,ZK,ZE,ZF,ZG,ZH,ZI,reduceCtorEq,ZD,mwV,↓mwD,mwU]
      simp -dsimp -implicitDefEqProofs only [h7,h5,h1,h4,m48,sF48,ZA,↓reduceIte,ZB,ZC,ZJ,ZK,ZE,ZF,ZG,ZH,ZI,reduceCtorEq,ZD,mwV,↓mwD,mwU]
      refine softB_load (v := .agg #[.int .i64 9, .int .i64 f.F[i].c.k, .string ⟨#[]⟩, .slice none 0 0, .slice q5 n5 c5]) (fun w'' hw' => ?_) ?_
      · obtain ⟨_, _, _, _, y0, y1, y2, y3, y4⟩ := hw'
        simp -dsimp -implicitDefEqProofs only [h7,y0,y1,y2,y3,y4,m48,sF48,ZA,↓reduceIte,ZB,ZC,ZJ,ZK,ZE,ZF,ZG,ZH,ZI,reduceCtorEq,ZD,mwV,↓mwD,mwU]
      simp -dsimp -implicitDefEqProofs only [h7,h5,h1,h4,planB_two,bs_int,bs_v,m48,sF48,ZA,↓reduceIte,ZB,ZC,ZJ,ZK,ZE,ZF,ZG,ZH,ZI,reduceCtorEq,ZD,mwV,↓mwD,mwU]
      have hsu := hx5.size
      have hrowB : u.ownsRow (bv + 1) 64 5 (.slice q5 n5 c5) (numAcc (numsC f.F[i].c)).length (rowsV (numAcc (numsC f.F[i].c))) := Own.mono hrow (by omega)
      have T0 : RefS w u.drew (bv + 1) bv (w.heap.size + 1) w.heap.size bc f.m (.slice (some ⟨b, o, none⟩) f.F.length cap) (.slice qk nk ck) (.slice qv nv cv) (.slice qk nk ck) (.slice qv nv cv) ((f.F.take i).map (·.key)) acc f.F[i].c (.slice q5 n5 c5) :=
        ⟨hV5.next (Ext.drew u), (hA.ext hx5).ext (Ext.drew u), hC.ext (Ext.drew u), Own.ext hrowB (Ext.drew u), fun k hk h => by have := (own_lt hrow hk).1; have := vtop k h; omega, fun h => by have := vtop _ h; omega⟩
      have hszd : u.drew.heap.size = u.heap.size := rfl
      have hbd : bv + 1 ≤ u.drew.heap.size := by omega
      clear hV5 hx5 D5 hC hrow hrowB s1 s2 s3 s4 s5 s6 s7 s8 s9 hne hsu
      generalize u.drew = U at *
      -- the worlds ahead of the row of keys
      have TA := T0.next (Ext.alloc U (.cells #[.int .i64 f.F[i].key] 3))
      have hszA1 : (U.alloc (.cells #[.int .i64 f.F[i].key] 3)).heap.size = U.heap.size + 1 := World.size_alloc _ _
      have Ak : (U.alloc (.cells #[.int .i64 f.F[i].key] 3)).cell? ⟨U.heap.size, 0, none⟩ = some (.int .i64 f.F[i].key) := by rw [World.cell?_alloc_new]; rfl
      have TC0 := T0.next (Ext.alloc U (.cells #[.int .i64 9, .int .i64 f.F[i].c.k, .string ⟨#[]⟩, .slice none 0 0, .slice q5 n5 c5] 64))
      have Ckid0 : Bk (U.alloc (.cells #[.int .i64 9, .int .i64 f.F[i].c.k, .string ⟨#[]⟩, .slice none 0 0, .slice q5 n5 c5] 64)) U.heap.size (vtCs (chVt f.F[i].c) (.slice none 0 0) (.slice q5 n5 c5)) 64 := Bk.new U (vtCs (chVt f.F[i].c) (.slice none 0 0) (.slice q5 n5 c5)) 64
      have hszC1 : (U.alloc (.cells #[.int .i64 9, .int .i64 f.F[i].c.k, .string ⟨#[]⟩, .slice none 0 0, .slice q5 n5 c5] 64)).heap.size = U.heap.size + 1 := World.size_alloc _ _
      generalize U.alloc (.cells #[.int .i64 f.F[i].key] 3) = UA at *
      generalize U.alloc (.cells #[.int .i64 9, .int .i64 f.F[i].c.k, .string ⟨#[]⟩, .slice none 0 0, .slice q5 n5 c5] 64) = UC at *
      refine ⟨⟨toS TA.val.ext TA.val.bk TA.fm TA.bx, ?_, ?_⟩, toS TC0.val.ext TC0.val.bk TC0.fm TC0.bx, ?_⟩
      · have Ab : bv + 1 ≤ UA.heap.size := by omega
        obtain ⟨ks', u6, happ1, hown1, hext1, hbk1, hsz6⟩ := append_ig TA.val.keys f.F[i].key (b := U.heap.size) Ak (by simp; omega) Ab
        have T6 := TA.key (by omega) hown1 hext1 hbk1
        obtain ⟨qk', nk', ck', rfl⟩ := own_slice hown1
        refine appB.mk happ1 ?_
        refine ⟨toS T6.val.ext T6.val.bk T6.fm T6.bx, ?_⟩
        simp -dsimp -implicitDefEqProofs only [h7,h4,bs_v,m48,sF48,ZA,↓reduceIte,ZB,ZC,ZJ,ZK,ZE,ZF,ZG,ZH,ZI,reduceCtorEq,ZD,mwV,↓mwD,mwU]
        have T7 := T6.next (Ext.alloc u6 (.cells #[.int .i64 9, .int .i64 f.F[i].c.k, .string ⟨#[]⟩, .slice none 0 0, .slice q5 n5 c5] 64))
        have kb := Bk.new u6 (vtCs (chVt f.F[i].c) (.slice none 0 0) (.slice q5 n5 c5)) 64
        replace kb : Bk (u6.alloc (.cells #[.int .i64 9, .int .i64 f.F[i].c.k, .string ⟨#[]⟩, .slice none 0 0, .slice q5 n5 c5] 64)) u6.heap.size (vtCs (chVt f.F[i].c) (.slice none 0 0) (.slice q5 n5 c5)) 64 := kb
        have hsz7 : u6.heap.size ≤ (u6.alloc (.cells #[.int .i64 9, .int .i64 f.F[i].c.k, .string ⟨#[]⟩, .slice none 0 0, .slice q5 n5 c5] 64)).heap.size := by rw [World.size_alloc]; omega
        generalize u6.alloc (.cells #[.int .i64 9, .int .i64 f.F[i].c.k, .string ⟨#[]⟩, .slice none 0 0, .slice q5 n5 c5] 64) = u7 at *
        refine ⟨toS T7.val.ext T7.val.bk T7.fm T7.bx, ?_⟩
        obtain ⟨vs', u8, happ2, hown2, hkeep2, hext2, hnew2, hsz8⟩ := append_vg T7.val.top (chVt f.F[i].c) (.slice none 0 0) (.slice q5 n5 c5) rfl rfl kb (by omega) (by have := Ab; omega)
        have hV8 := T7.val.kid (by omega) (by omega) (by omega) hvk T7.row T7.ne1 hown2 hkeep2 hext2 hnew2
        have fm8 : Bk u8 w.heap.size [.int .i64 f.m, .slice (some ⟨b, o, none⟩) f.F.length cap] 24 := by
          unfold Bk; rw [hkeep2 _ T7.fm.lt (fun h => by have := (own_lt T7.val.top h).1; omega)]; exact T7.fm
        have bx8 : Bk u8 bc [.int .i64 9, .int .i64 f.F[i].c.k, .string ⟨#[]⟩, .slice none 0 0, .slice q5 n5 c5] 64 := by
          unfold Bk; rw [hkeep2 _ T7.bx.lt T7.ne2]; exact T7.bx
        obtain ⟨qw, nw, cw, rfl⟩ := own_slice hown2
        have g3 := hV8.bk.get (o := 3) rfl
        have g3f := hV8.bk.frozen 3
        have hV9 := hV8.set (kc' := .slice qk' nk' ck') (vc' := .slice qv nv cv) (by omega) (by omega) (by omega) 3 (.slice qk' nk' ck') rfl
        have g4 := hV9.bk.get (o := 4) rfl
        have g4f := hV9.bk.frozen 4
        have hV10 := hV9.set (kc' := .slice qk' nk' ck') (vc' := .slice qw nw cw) (by omega) (by omega) (by omega) 4 (.slice qw nw cw) rfl
        refine appB.mk happ2 ?_
        refine ⟨toS hV8.ext hV8.bk fm8 bx8, ?_⟩
        simp -dsimp -implicitDefEqProofs only [h8,h7,h6,h5,h1,h2,h4,g3,g3f,g4,g4f,hw,m48,sF48,ZA,↓reduceIte,ZB,ZC,ZJ,ZK,ZE,ZF,ZG,ZH,ZI,reduceCtorEq,ZD,mwV,↓mwD,mwU]
        refine ⟨⟨i + 1, acc ++ [(chVt f.F[i].c, nilS, .slice q5 n5 c5)], .slice qk' nk' ck', .slice qw nw cw, by omega, rfl, ?_, ?_, ?_, ?_⟩, by simp only [intOf,H5]; omega⟩
        · exact hV10.bk.lt
        · rw [List.take_succ_eq_append_getElem hlt', List.map_append]
          exact hV10
        · rw [List.take_succ_eq_append_getElem hlt', List.map_append, List.map_append, hacc]; rfl
        · exact (fm8.ne (by omega) 3 _).ne (by omega) 4 _
      · have TB := TA.next (Ext.alloc UA (.cells #[.int .i64 9, .int .i64 f.F[i].c.k, .string ⟨#[]⟩, .slice none 0 0, .slice q5 n5 c5] 64))
        have hszB : (UA.alloc (.cells #[.int .i64 9, .int .i64 f.F[i].c.k, .string ⟨#[]⟩, .slice none 0 0, .slice q5 n5 c5] 64)).heap.size = UA.heap.size + 1 := World.size_alloc _ _
        have Bk' := (Ext.alloc UA (.cells #[.int .i64 9, .int .i64 f.F[i].c.k, .string ⟨#[]⟩, .slice none 0 0, .slice q5 n5 c5] 64)).cell Ak
        have Bkid : Bk (UA.alloc (.cells #[.int .i64 9, .int .i64 f.F[i].c.k, .string ⟨#[]⟩, .slice none 0 0, .slice q5 n5 c5] 64)) UA.heap.size (vtCs (chVt f.F[i].c) (.slice none 0 0) (.slice q5 n5 c5)) 64 := Bk.new UA (vtCs (chVt f.F[i].c) (.slice none 0 0) (.slice q5 n5 c5)) 64
        generalize UA.alloc (.cells #[.int .i64 9, .int .i64 f.F[i].c.k, .string ⟨#[]⟩, .slice none 0 0, .slice q5 n5 c5] 64) = UB at *
        have Bb : bv + 1 ≤ UB.heap.size := by omega
        refine ⟨toS TB.val.ext TB.val.bk TB.fm TB.bx, ?_⟩
        obtain ⟨ks', u6, happ1, hown1, hext1, hbk1, hsz6⟩ := append_ig TB.val.keys f.F[i].key (b := U.heap.size) Bk' (by simp; omega) Bb
        have T6 := TB.key (by omega) hown1 hext1 hbk1
        obtain ⟨qk', nk', ck', rfl⟩ := own_slice hown1
        refine appB.mk happ1 ?_
        refine ⟨toS T6.val.ext T6.val.bk T6.fm T6.bx, ?_⟩
        have T7 := T6
        have kb : Bk u6 UA.heap.size (vtCs (chVt f.F[i].c) (.slice none 0 0) (.slice q5 n5 c5)) 64 := hbk1 Bkid (by decide)
        have hsz7 : u6.heap.size ≤ u6.heap.size := Nat.le_refl _
        simp -dsimp -implicitDefEqProofs only [h7,h4,m48,sF48,ZA,↓reduceIte,ZB,ZC,ZJ,ZK,ZE,ZF,ZG,ZH,ZI,reduceCtorEq,ZD,mwV,↓mwD,mwU]
        clear happ1 hown1 hext1 hbk1
        generalize u6 = u7 at *
        obtain ⟨vs', u8, happ2, hown2, hkeep2, hext2, hnew2, hsz8⟩ := append_vg T7.val.top (chVt f.F[i].c) (.slice none 0 0) (.slice q5 n5 c5) rfl rfl kb (by omega) (by have := Bb; omega)
        have hV8 := T7.val.kid (by omega) (by omega) (by omega) hvk T7.row T7.ne1 hown2 hkeep2 hext2 hnew2
        have fm8 : Bk u8 w.heap.size [.int .i64 f.m, .slice (some ⟨b, o, none⟩) f.F.length cap] 24 := by
          unfold Bk; rw [hkeep2 _ T7.fm.lt (fun h => by have := (own_lt T7.val.top h).1; omega)]; exact T7.fm
        have bx8 : Bk u8 bc [.int .i64 9, .int .i64 f.F[i].c.k, .string ⟨#[]⟩, .slice none 0 0, .slice q5 n5 c5] 64 := by
          unfold Bk; rw [hkeep2 _ T7.bx.lt T7.ne2]; exact T7.bx
        obtain ⟨qw, nw, cw, rfl⟩ := own_slice hown2
        have g3 := hV8.bk.get (o := 3) rfl
        have g3f := hV8.bk.frozen 3
        have hV9 := hV8.set (kc' := .slice qk' nk' ck') (vc' := .slice qv nv cv) (by omega) (by omega) (by omega) 3 (.slice qk' nk' ck') rfl
        have g4 := hV9.bk.get (o := 4) rfl
        have g4f := hV9.bk.frozen 4
        have hV10 := hV9.set (kc' := .slice qk' nk' ck') (vc' := .slice qw nw cw) (by omega) (by omega) (by omega) 4 (.slice qw nw cw) rfl
        refine appB.mk happ2 ?_
        refine ⟨toS hV8.ext hV8.bk fm8 bx8, ?_⟩
        simp -dsimp -implicitDefEqProofs only [h8,h7,h6,h5,h1,h2,h4,g3,g3f,g4,g4f,hw,m48,sF48,ZA,↓reduceIte,ZB,ZC,ZJ,ZK,ZE,ZF,ZG,ZH,ZI,reduceCtorEq,ZD,mwV,↓mwD,mwU]
        refine ⟨⟨i + 1, acc ++ [(chVt f.F[i].c, nilS, .slice q5 n5 c5)], .slice qk' nk' ck', .slice qw nw cw, by omega, rfl, ?_, ?_, ?_, ?_⟩, by simp only [intOf,H5]; omega⟩
        · exact hV10.bk.lt
        · rw [List.take_succ_eq_append_getElem hlt', List.map_append]
          exact hV10
        · rw [List.take_succ_eq_append_getElem hlt', List.map_append, List.map_append, hacc]; rfl
        · exact (fm8.ne (by omega) 3 _).ne (by omega) 4 _
      · have TD := TC0.next (Ext.alloc UC (.cells #[.int .i64 f.F[i].key] 3))
        have hszD : (UC.alloc (.cells #[.int .i64 f.F[i].key] 3)).heap.size = UC.heap.size + 1 := World.size_alloc _ _
        have Dk : (UC.alloc (.cells #[.int .i64 f.F[i].key] 3)).cell? ⟨UC.heap.size, 0, none⟩ = some (.int .i64 f.F[i].key) := by rw [World.cell?_alloc_new]; rfl
        have Dkid := Ckid0.ext (Ext.alloc UC (.cells #[.int .i64 f.F[i].key] 3))
        generalize UC.alloc (.cells #[.int .i64 f.F[i].key] 3) = UD at *
        have Db : bv + 1 ≤ UD.heap.size := by omega
        refine ⟨toS TD.val.ext TD.val.bk TD.fm TD.bx, ?_⟩
        obtain ⟨ks', u6, happ1, hown1, hext1, hbk1, hsz6⟩ := append_ig TD.val.keys f.F[i].key (b := UC.heap.size) Dk (by simp; omega) Db
        have T6 := TD.key (by omega) hown1 hext1 hbk1
        obtain ⟨qk', nk', ck', rfl⟩ := own_slice hown1
        refine appB.mk happ1 ?_
        refine ⟨toS T6.val.ext T6.val.bk T6.fm T6.bx, ?_⟩
        have T7 := T6
        have kb : Bk u6 U.heap.size (vtCs (chVt f.F[i].c) (.slice none 0 0) (.slice q5 n5 c5)) 64 := hbk1 Dkid (by decide)
        have hsz7 : u6.heap.size ≤ u6.heap.size := Nat.le_refl _
        simp -dsimp -implicitDefEqProofs only [h7,h4,m48,sF48,ZA,↓reduceIte,ZB,ZC,ZJ,ZK,ZE,ZF,ZG,ZH,ZI,reduceCtorEq,ZD,mwV,↓mwD,mwU]
        clear happ1 hown1 hext1 hbk1
        generalize u6 = u7 at *
        obtain ⟨vs', u8, happ2, hown2, hkeep2, hext2, hnew2, hsz8⟩ := append_vg T7.val.top (chVt f.F[i].c) (.slice none 0 0) (.slice q5 n5 c5) rfl rfl kb (by omega) (by have := Db; omega)
        have hV8 := T7.val.kid (by omega) (by omega) (by omega) hvk T7.row T7.ne1 hown2 hkeep2 hext2 hnew2
        have fm8 : Bk u8 w.heap.size [.int .i64 f.m, .slice (some ⟨b, o, none⟩) f.F.length cap] 24 := by
          unfold Bk; rw [hkeep2 _ T7.fm.lt (fun h => by have := (own_lt T7.val.top h).1; omega)]; exact T7.fm
        have bx8 : Bk u8 bc [.int .i64 9, .int .i64 f.F[i].c.k, .string ⟨#[]⟩, .slice none 0 0, .slice q5 n5 c5] 64 := by
          unfold Bk; rw [hkeep2 _ T7.bx.lt T7.ne2]; exact T7.bx
        obtain ⟨qw, nw, cw, rfl⟩ := own_slice hown2
        have g3 := hV8.bk.get (o := 3) rfl
        have g3f := hV8.bk.frozen 3
        have hV9 := hV8.set (kc' := .slice qk' nk' ck') (vc' := .slice qv nv cv) (by omega) (by omega) (by omega) 3 (.slice qk' nk' ck') rfl
        have g4 := hV9.bk.get (o := 4) rfl
        have g4f := hV9.bk.frozen 4
        have hV10 := hV9.set (kc' := .slice qk' nk' ck') (vc' := .slice qw nw cw) (by omega) (by omega) (by omega) 4 (.slice qw nw cw) rfl
        refine appB.mk happ2 ?_
        refine ⟨toS hV8.ext hV8.bk fm8 bx8, ?_⟩
        simp -dsimp -implicitDefEqProofs only [h8,h7,h6,h5,h1,h2,h4,g3,g3f,g4,g4f,hw,m48,sF48,ZA,↓reduceIte,ZB,ZC,ZJ,ZK,ZE,ZF,ZG,ZH,ZI,reduceCtorEq,ZD,mwV,↓mwD,mwU]
        refine ⟨⟨i + 1, acc ++ [(chVt f.F[i].c, nilS, .slice q5 n5 c5)], .slice qk' nk' ck', .slice qw nw cw, by omega, rfl, ?_, ?_, ?_, ?_⟩, by simp only [intOf,H5]; omega⟩
        · exact hV10.bk.lt
        · rw [List.take_succ_eq_append_getElem hlt', List.map_append]
          exact hV10
        · rw [List.take_succ_eq_append_getElem hlt', List.map_append, List.map_append, hacc]; rfl
        · exact (fm8.ne (by omega) 3 _).ne (by omega) 4 _
  · have hil : i = f.F.length := by omega
    rw [hil, List.take_length] at hacc hV
    have c0 := hV.bk.get (o := 0) rfl
    have c1' := hV.bk.get (o := 1) rfl
    have c2' := hV.bk.get (o := 2) rfl
    have c3' := hV.bk.get (o := 3) rfl
    have c4' := hV.bk.get (o := 4) rfl
    obtain ⟨⟨u0, y0⟩, y1, ⟨u2, y2⟩, y3, ⟨u4, y4⟩, y5, ⟨u6, y6⟩, y7, ⟨u8, y8⟩, y9, y10, y11, y12⟩ := put5 hV.rk (.int .i64 8) (.int .i64 f.m) (.string ⟨#[]⟩) (.slice qk nk ck) (.slice qv nv cv)
    have g0 := y10.get (o := 0) rfl
    have g1 := y10.get (o := 1) rfl
    have g2 := y10.get (o := 2) rfl
    have g3 := y10.get (o := 3) rfl
    have g4 := y10.get (o := 4) rfl
    simp -dsimp -implicitDefEqProofs only [h5,h1,h2,h4,c0,c1',c2',c3',c4',y0,y1,y2,y3,y4,y5,y6,y7,y8,y9,g0,g1,g2,g3,g4,m48,sF48,ZA,↓reduceIte,ZB,ZC,ZJ,ZK,ZE,ZF,ZG,ZH,ZI,reduceCtorEq,ZD,mwV,↓mwD,mwU]
    have hVA := hV.vatp (by omega) y12 ⟨hm1, hm2⟩ (by simp; omega)
    rw [hacc] at hVA
    have hfm : (Vt.mk 8 f.m ⟨#[]⟩ (f.F.map (·.key)) (f.F.map fun x => chVt x.c)) = fmVt f := rfl
    rw [hfm] at hVA
    obtain ⟨_, _, e1, _, _⟩ := hVA.ks.shape
    obtain ⟨_, _, e2, _, _⟩ := hVA.vs.shape
    simp only [Value.slice.injEq] at e1 e2
    obtain ⟨_, e1, _⟩ := e1
    obtain ⟨_, e2, _⟩ := e2
    have hfin := y11 hV.ext (by omega)
    clear y0 y1 y2 y3 y4 y5 y6 y7 y8 y9 y10 y11 y12 g0 g1 g2 g3 g4 c0 c1' c2' c3' c4' hV
    subst e1
    subst e2
    exact ⟨hfin, fmVt f, qk, qv, ck, cv, 0, rfl, hVA, .inr ⟨rfl, rfl, hv⟩⟩
end Go.Proofs.YthcdnjbhhaonhaaGreatDoor
/- Layer 02 in plain Lean: a format comes back from its value. -/
namespace Go.Proofs.YthcdnjbhhaonhaaGreatDoor
open Go.RowKit
open Nat renaming reduceEqDiff → ZA, reduceAdd → ZB, reduceMul → ZC, reduceSub → ZD
open Int renaming reduceToNat → ZE, reduceEq → ZF, reduceLT → ZG, reduceLE → ZH, reduceNeg → ZI
open Go.Value renaming oneCell' → ZK, cells → ZJ
set_option linter.unusedSimpArgs false
theorem num_formed (n : Int) : AllV (numV n) := by
  refine allV_iff.2 ⟨(formed_3 rfl).2 ⟨.inl rfl, .inr rfl, .inr rfl, .inr rfl⟩, fun x hx => by cases hx⟩
theorem getD_mem_or (L : List Int) (i : Nat) : L.getD i 0 ∈ L ∨ L.getD i 0 = 0 := by
  by_cases hi : i < L.length
  · rw [getD_get hi]; exact .inl (List.getElem_mem hi)
  · right; rw [List.getD_eq_getElem?_getD, List.getElem?_eq_none (by omega)]; rfl
theorem nums_of_valid {c : Ch} (h : c.valid = true) : NumsOk c.k (numsC c) ∧ (if c.k = 1 then [c.d] else c.L) = c.L ∧ c.L.length ≤ 20 := by
  obtain ⟨hd, hL⟩ := valid_nums h
  have hk := valid_k h
  unfold Ch.valid at h
  simp only [Bool.and_eq_true] at h
  obtain ⟨⟨_, hf⟩, hh⟩ := h
  have bd : ∀ i, 0 ≤ c.L.getD i 0 ∧ c.L.getD i 0 ≤ 1000000000 := fun i => by
    rcases getD_mem_or c.L i with h | h
    · exact hL _ h
    · rw [h]; omega
  have b0 := bd 0
  have b1 := bd 1
  have b2 := bd 2
  unfold Ch.form at hf
  by_cases k1 : c.k = 1
  · rw [if_pos k1] at hf
    have hl : c.L.length = 1 := by simpa using hf
    unfold Ch.has Ch.lsd at hh
    simp only [k1,decide_true,Bool.true_or,if_true] at hh
    obtain ⟨x, hx⟩ : ∃ x, c.L = [x] := List.length_eq_one_iff.1 hl
    rw [hx] at hh
    have hxd : c.d = x := by simpa using hh
    refine ⟨?_, by rw [if_pos k1, hx, hxd], by omega⟩
    unfold numsC
    rw [if_pos k1]
    exact .inl ⟨k1, rfl⟩
  rw [if_neg k1] at hf
  have hnc : numsC c = c.d :: c.L := by unfold numsC; rw [if_neg k1]
  rw [hnc]
  refine ⟨?_, by rw [if_neg k1], ?_⟩
  · by_cases k2 : c.k = 2
    · rw [if_pos k2] at hf
      simp only [Bool.and_eq_true,decide_eq_true_eq] at hf
      unfold Ch.has Ch.lsd at hh
      simp only [k2,decide_true,Bool.or_true,if_true] at hh
      exact .inr (.inl ⟨k2, hf.2, hh⟩)
    rw [if_neg k2] at hf
    have hls : c.lsd = false := by unfold Ch.lsd; simp [k1, k2]
    unfold Ch.has at hh
    rw [hls] at hh
    simp only [Bool.false_eq_true,if_false,Bool.and_eq_true,decide_eq_true_eq] at hh
    unfold Ch.lo Ch.hi at hh
    by_cases k3 : c.k = 3
    · rw [if_pos k3] at hf
      simp only [Bool.and_eq_true,decide_eq_true_eq] at hf
      exact .inr (.inr (.inl ⟨k3, hf.1, hh.1, hh.2.1⟩))
    · have k4 : c.k = 4 := by omega
      rw [if_neg k3, if_pos k4] at hf
      have hst : c.stp = c.L.getD 2 0 := by unfold Ch.stp; rw [if_pos k4]
      rw [hst] at hh hf
      simp only [Bool.and_eq_true,decide_eq_true_eq] at hf
      refine .inr (.inr (.inr ⟨k4, hf.1.1, by omega, hh.1, hh.2.1, ?_⟩))
      have e1 : IntKind.u64.wrap c.d = c.d := by rw [IntKind.wrap_u64]; omega
      have e2 : IntKind.u64.wrap (c.L.getD 0 0) = c.L.getD 0 0 := by rw [IntKind.wrap_u64]; omega
      have e3 : IntKind.u64.wrap (c.L.getD 2 0) = c.L.getD 2 0 := by rw [IntKind.wrap_u64]; omega
      have e4 : IntKind.u64.wrap (c.d - c.L.getD 0 0) = c.d - c.L.getD 0 0 := by rw [IntKind.wrap_u64]; omega
      rw [e1, e2, e3, e4, Int.tmod_eq_emod_of_nonneg (by omega)]
      exact hh.2.2
  · by_cases k2 : c.k = 2
    · rw [if_pos k2] at hf
      simp only [Bool.and_eq_true,decide_eq_true_eq] at hf
      omega
    rw [if_neg k2] at hf
    by_cases k3 : c.k = 3
    · rw [if_pos k3] at hf
      simp only [Bool.and_eq_true,decide_eq_true_eq] at hf
      omega
    · have k4 : c.k = 4 := by omega
      rw [if_neg k3, if_pos k4] at hf
      simp only [Bool.and_eq_true,decide_eq_true_eq] at hf
      omega
theorem numsC_len {c : Ch} (h : c.valid = true) : (numsC c).length ≤ 21 := by
  have := (nums_of_valid h).2.2
  unfold numsC
  split
  · simp
  · simp; omega
theorem ch_all {c : Ch} (h : c.valid = true) : AllV (chVt c) := by
  refine allV_iff.2 ⟨(formed_9 rfl).2 ⟨⟨.inl rfl, .inr rfl, .inr rfl, .inl rfl⟩, ?_, ?_⟩, ?_⟩
  · rw [chVt_kids]
    intro x hx
    obtain ⟨n, _, rfl⟩ := List.mem_map.1 hx
    rfl
  · rw [chVt_kids, List.map_map]
    have : (numsC c).map (Vt.n ∘ numV) = numsC c := by
      conv => rhs; rw [← List.map_id (numsC c)]
      exact List.map_congr_left fun n _ => rfl
    rw [this]
    exact (nums_of_valid h).1
  · rw [chVt_kids]
    intro x hx
    obtain ⟨n, _, rfl⟩ := List.mem_map.1 hx
    exact num_formed n
theorem chOf_chVt {c : Ch} (h : c.valid = true) : chOf (chVt c) = c := by
  have h2 := (nums_of_valid h).2.1
  have hm : (chVt c).kids.map Vt.n = numsC c := by
    rw [chVt_kids, List.map_map]
    conv => rhs; rw [← List.map_id (numsC c)]
    exact List.map_congr_left fun n _ => rfl
  have h0 : (numsC c).getD 0 0 = c.d := rfl
  have h1 : (numsC c).drop 1 = if c.k = 1 then [] else c.L := rfl
  unfold chOf
  rw [hm, h0, h1]
  show (⟨c.k, c.d, if c.k = 1 then [c.d] else if c.k = 1 then [] else c.L⟩ : Ch) = c
  by_cases k1 : c.k = 1
  · rw [if_pos k1] at h2 ⊢
    rw [h2]
  · rw [if_neg k1, if_neg k1]
theorem massL_nums (L : List Int) : massL (L.map numV) = L.length := by
  induction L with
  | nil => rfl
  | cons n L ih => rw [List.map_cons, massL, ih]; show 1 + 0 + 0 / 64 + 0 + _ = _; simp; omega
theorem mass_ch (c : Ch) : massV (chVt c) = 1 + (numsC c).length := by
  rw [massV_eq, chVt_kids, massL_nums]
  show 1 + 0 + 0 / 64 + _ = _
  omega
theorem mass_chs : ∀ {l : List Fl}, (∀ x ∈ l, x.c.valid = true) → massL (l.map fun x => chVt x.c) ≤ 22 * l.length
  | [], _ => by simp [massL]
  | x :: l, h => by
    rw [List.map_cons, massL, mass_ch]
    have h1 := numsC_len (h x (List.mem_cons_self ..))
    have h2 := mass_chs (l := l) fun y hy => h y (List.mem_cons_of_mem _ hy)
    rw [List.length_cons]; omega
theorem deepL_le {l : List Vt} {m : Nat} : (∀ x ∈ l, deepV x ≤ m) → deepL l ≤ m := by
  induction l with
  | nil => intro _; simp [deepL]
  | cons x l ih =>
    intro h
    rw [deepL]
    have h1 := h x (List.mem_cons_self ..)
    have h2 := ih fun y hy => h y (List.mem_cons_of_mem _ hy)
    omega
theorem deep_ch (c : Ch) : deepV (chVt c) ≤ 2 := by
  rw [deepV_eq, chVt_kids]
  have : deepL ((numsC c).map numV) ≤ 1 := deepL_le fun x hx => by
    obtain ⟨n, _, rfl⟩ := List.mem_map.1 hx
    rw [deepV_eq]; show deepL [] + 1 ≤ 1; simp [deepL]
  omega
theorem keys_of_fields : ∀ {l : List Fl} {k : Int}, fieldsB k l = true → 0 ≤ k → ∀ i, i < l.length → k < (l.map (·.key)).getD i 0 ∧ (l.map (·.key)).getD i 0 ≤ 6 ∧ (i = 0 ∨ (l.map (·.key)).getD (i - 1) 0 < (l.map (·.key)).getD i 0)
  | [], _, _, _, i, hi => by simp at hi
  | f :: l, k, h, hk, i, hi => by
    have h' := fieldsB_cons.1 h
    cases i with
    | zero => exact ⟨h'.1, h'.2.1, .inl rfl⟩
    | succ i =>
      have ih := keys_of_fields (l := l) h'.2.2.2 (by omega) i (by simpa using hi)
      refine ⟨?_, ?_, .inr ?_⟩
      · simp only [List.map_cons,List.getD_cons_succ]; omega
      · simp only [List.map_cons,List.getD_cons_succ]; exact ih.2.1
      · cases i with
        | zero => simp only [List.map_cons,List.getD_cons_succ,Nat.zero_add,Nat.sub_self,List.getD_cons_zero]; exact ih.1
        | succ i =>
          have := ih.2.2
          simp only [List.map_cons,List.getD_cons_succ,Nat.add_sub_cancel] at this ⊢
          omega
theorem mass_fm {f : Fm} (h : f.valid = true) : massV (fmVt f) ≤ 200 := by
  unfold Fm.valid at h
  simp only [Bool.and_eq_true,decide_eq_true_eq] at h
  have hlen : f.F.length ≤ 6 := by
    rcases fieldsB_len h.1 with h | h
    · rw [h]; simp
    · omega
  have hm := mass_chs (l := f.F) fun x hx => (fieldsB_mem h.1 x hx).2.2
  rw [massV_eq]
  show 1 + (f.F.map (·.key)).length + 0 / 64 + massL (f.F.map fun x => chVt x.c) ≤ 200
  rw [List.length_map]; omega
theorem from_fm {f : Fm} (h : f.valid = true) : FromA (fmVt f) f 0 := by
  have hv := h
  have hmass := mass_fm h
  unfold Fm.valid at h
  simp only [Bool.and_eq_true,decide_eq_true_eq] at h
  obtain ⟨hF, hm1, hm2⟩ := h
  have hkey := keys_of_fields hF (by omega)
  have hmem := fieldsB_mem hF
  have hback : fmOf (fmVt f) = f := by
    unfold fmOf
    show (⟨f.m, fldsOf (f.F.map (·.key)) (f.F.map fun x => chVt x.c)⟩ : Fm) = f
    have : fldsOf (f.F.map (·.key)) (f.F.map fun x => chVt x.c) = f.F := by
      unfold fldsOf
      rw [List.zipWith_map, List.zipWith_self]
      conv => rhs; rw [← List.map_id f.F]
      exact List.map_congr_left fun x hx => by rw [chOf_chVt (hmem x hx).2.2]; rfl
    rw [this]
  have hform : Formed (fmVt f) := by
    refine (formed_8 rfl).2 ⟨⟨rfl, ?_, ?_, ?_⟩, ?_⟩
    · show 0 ≤ f.m; omega
    · show f.m ≤ 2147483647; omega
    · show (f.F.map (·.key)).length = (f.F.map fun x => chVt x.c).length; simp
    · intro i hi
      have hi' : i < f.F.length := by simpa [fmVt, Vt.keys] using hi
      obtain ⟨a, b, c⟩ := hkey i hi'
      exact ⟨by show 0 ≤ (f.F.map (·.key)).getD i 0; omega, by show (f.F.map (·.key)).getD i 0 ≤ _; omega, c.imp id fun h => .inl h⟩
  have hall : AllV (fmVt f) := allV_iff.2 ⟨hform, fun x hx => by
    obtain ⟨y, hy, rfl⟩ := List.mem_map.1 (show x ∈ f.F.map fun x => chVt x.c from hx)
    exact ch_all (hmem y hy).2.2⟩
  have hdeep : deepV (fmVt f) ≤ 10 := by
    rw [deepV_eq]
    have : deepL (fmVt f).kids ≤ 2 := deepL_le fun x hx => by
      obtain ⟨y, _, rfl⟩ := List.mem_map.1 (show x ∈ f.F.map fun x => chVt x.c from hx)
      exact deep_ch y.c
    omega
  refine .inr (.inr ⟨rfl, hback.symm, ⟨⟨hall, hdeep, ?_, ?_⟩, rfl, hm1, hm2, fun i hi => ?_⟩, by rw [hback]; exact hv⟩)
  · have := countV_mass (fmVt f); omega
  · have := sizeV_mass (fmVt f); omega
  · have hi' : i < f.F.length := by simpa [fmVt, Vt.kids] using hi
    obtain ⟨a, b, _⟩ := hkey i hi'
    refine ⟨by show 1 ≤ (f.F.map (·.key)).getD i 0; omega, by show (f.F.map (·.key)).getD i 0 ≤ 6; omega, ?_⟩
    rw [kid_k hi]
    show ((f.F.map fun x => chVt x.c)[i]'(by simpa using hi')).k = 9
    simp [chVt, Vt.k]
end Go.Proofs.YthcdnjbhhaonhaaGreatDoor

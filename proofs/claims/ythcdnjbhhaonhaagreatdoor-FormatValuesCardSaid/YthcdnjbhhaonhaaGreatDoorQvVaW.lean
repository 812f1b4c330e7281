/- Layer 02: the law FormatValues. -/
import Derived.Test.YthcdnjbhhaonhaaGreatDoorQvVaUToVaV
import Derived.Test.YthcdnjbhhaonhaaGreatDoorQvFoK

namespace Go.Proofs.YthcdnjbhhaonhaaGreatDoor
open Go.RowKit
open Nat renaming reduceEqDiff → ZA, reduceAdd → ZB, reduceMul → ZC, reduceSub → ZD
open Int renaming reduceToNat → ZE, reduceEq → ZF, reduceLT → ZG, reduceLE → ZH, reduceNeg → ZI
open Go.Value renaming oneCell' → ZK, cells → ZJ
set_option linter.unusedSimpArgs false
theorem box_fvt (w : World) (f : Fm) (s : Value) (v : Vt) (s1 s2 : Value) : ∃ W, W = (w.alloc (.cells #[.int .i64 f.m, s] 24)).alloc (.cells #[.int .i64 v.k, .int .i64 v.n, .string v.s, s1, s2] 64) ∧ Bk W w.heap.size [.int .i64 f.m, s] 24 ∧ Bk W (w.heap.size + 1) (vtCs v s1 s2) 64 ∧ Ext w W := by
  refine ⟨_, rfl, (Bk.new w [.int .i64 f.m, s] _).ext (Ext.alloc _ _), ?_, (Ext.alloc _ _).trans (Ext.alloc _ _)⟩
  have := Bk.new (w.alloc (.cells #[.int .i64 f.m, s] 24)) (vtCs v s1 s2) 64
  rw [World.size_alloc] at this
  exact this
theorem ValQ.eq {f : Fm} {t t' : Vt} {c c' : Int} (h : (c = 1 ∧ t = zeroVt ∧ f.valid = false) ∨ (c = 0 ∧ t = fmVt f ∧ f.valid = true)) (h' : (c' = 1 ∧ t' = zeroVt ∧ f.valid = false) ∨ (c' = 0 ∧ t' = fmVt f ∧ f.valid = true)) : t = t' ∧ c = c' := by
  rcases h with ⟨rfl, rfl, h1⟩ | ⟨rfl, rfl, h1⟩ <;> rcases h' with ⟨rfl, rfl, h2⟩ | ⟨rfl, rfl, h2⟩
  · exact ⟨rfl, rfl⟩
  · rw [h1] at h2; cases h2
  · rw [h1] at h2; cases h2
  · exact ⟨rfl, rfl⟩
set_option maxHeartbeats 4000000 in
theorem lawV_c (f : Fm) (v : Vt) (s s1 s2 : Value) (w : World) (hf : SlF w s f.F) (hv : VAt w v s1 s2) (haw : ∀ w', Ext w w' → Rets Go.Proofs.Tryz.prog 10 #[] w' fun r w2 => r = .bool true ∧ Ext w' w2) :
    Rets Go.Proofs.Tryz.prog 8 #[fmV f s, vtV v s1 s2] w fun r w' => r = .bool true ∧ Ext w w' := by
  obtain ⟨p, cp, rfl, _, _⟩ := hf.shape
  obtain ⟨q1, c1, rfl, _, _⟩ := hv.ks.shape
  obtain ⟨q2, c2, rfl, _, _⟩ := hv.vs.shape
  obtain ⟨W, hW, A, B, x0⟩ := box_fvt w f (.slice p f.F.length cp) v (.slice q1 v.keys.length c1) (.slice q2 v.kids.length c2)
  refine en8 ?_
  refine mwpB_cut 1 (fun e ds w' => e 2 = .pointer (some ⟨w.heap.size, 0, none⟩) ∧ e 3 = .pointer (some ⟨w.heap.size + 1, 0, none⟩) ∧ ds = [] ∧ w' = W) ?_ ?_
  · simp -dsimp -implicitDefEqProofs only [fmV,vtV,headM_zero,headM_seq,World.size_alloc,hW,m8,sF8,ZA,↓reduceIte,ZB,ZC,ZJ,ZK,ZE,ZF,ZG,ZH,ZI,reduceCtorEq,ZD,mwV,↓mwD,mwU]
  clear hW
  rintro e ds w0 ⟨k2, k3, rfl, rfl⟩
  have cells : ∀ {w' : World}, Ext w0 w' → (w'.cell? ⟨w.heap.size, 0, none⟩ = some (.int .i64 f.m) ∧ w'.cell? ⟨w.heap.size, 1, none⟩ = some (.slice p f.F.length cp)) ∧ VtB w' (w.heap.size + 1) v q1 q2 c1 c2 := fun h => ⟨⟨(A.ext h).get (o := 0) rfl, (A.ext h).get (o := 1) rfl⟩, bk_vt B h⟩
  have end1 : ∀ {w'}, Ext w0 w' → Rets Go.Proofs.Tryz.prog 10 #[] w' fun r w2 => r = .bool true ∧ Ext w w2 := fun h => (haw _ (x0.trans h)).mono fun r w2 hr => ⟨hr.1, (x0.trans h).trans hr.2⟩
  obtain ⟨⟨A0, A1⟩, a0, a1, a2, a3, a4⟩ := cells (Ext.refl w0)
  simp -dsimp -implicitDefEqProofs only [tailM_zero,tailM_seq,k2,k3,A0,A1,m8,sF8,ZA,↓reduceIte,ZB,ZC,ZJ,ZK,ZE,ZF,ZG,ZH,ZI,reduceCtorEq,ZD,mwV,↓mwD,mwU]
  refine (Light_c f _ w0 (hf.ext x0)).use ?_
  rintro r w1 ⟨rfl, h1⟩
  cases lf : lightB f
  · simp -dsimp -implicitDefEqProofs only [m8,sF8,ZA,↓reduceIte,ZB,ZC,ZJ,ZK,ZE,ZF,ZG,ZH,ZI,reduceCtorEq,ZD,mwV,↓mwD,mwU]
    refine (end1 h1).use ?_
    rintro r w2 ⟨rfl, h2⟩
    simp -dsimp -implicitDefEqProofs only [m8,sF8,ZA,↓reduceIte,ZB,ZC,ZJ,ZK,ZE,ZF,ZG,ZH,ZI,reduceCtorEq,ZD,mwV,↓mwD,mwU]
    exact h2
  obtain ⟨⟨A0, A1⟩, a0, a1, a2, a3, a4⟩ := cells h1
  simp -dsimp -implicitDefEqProofs only [k2,k3,a0,a1,a2,a3,a4,m8,sF8,ZA,↓reduceIte,ZB,ZC,ZJ,ZK,ZE,ZF,ZG,ZH,ZI,reduceCtorEq,ZD,mwV,↓mwD,mwU]
  refine (lightV_c v _ _ w1 (hv.ext (x0.trans h1))).use ?_
  rintro r w2 ⟨rfl, h2⟩
  have hx2 := h1.trans h2
  by_cases lv : 0 < weightV v 3000
  rotate_left
  · simp -dsimp -implicitDefEqProofs only [lv,m8,sF8,ZA,↓reduceIte,ZB,ZC,ZJ,ZK,ZE,ZF,ZG,ZH,ZI,reduceCtorEq,ZD,mwV,↓mwD,mwU]
    refine (end1 hx2).use ?_
    rintro r w3 ⟨rfl, h3⟩
    simp -dsimp -implicitDefEqProofs only [m8,sF8,ZA,↓reduceIte,ZB,ZC,ZJ,ZK,ZE,ZF,ZG,ZH,ZI,reduceCtorEq,ZD,mwV,↓mwD,mwU]
    exact h3
  have hm := light_mass lv
  have hl12 : f.F.length ≤ 12 ∧ ∀ x ∈ f.F, x.c.L.length ≤ 60 := by
    unfold lightB at lf
    simp only [Bool.and_eq_true,decide_eq_true_eq,List.all_eq_true] at lf
    refine ⟨lf.2, fun x hx => ?_⟩
    rw [List.take_of_length_le lf.2] at lf
    exact lf.1 x hx
  obtain ⟨⟨A0, A1⟩, a0, a1, a2, a3, a4⟩ := cells hx2
  simp -dsimp -implicitDefEqProofs only [k2,k3,lv,A0,A1,m8,sF8,ZA,↓reduceIte,ZB,ZC,ZJ,ZK,ZE,ZF,ZG,ZH,ZI,reduceCtorEq,ZD,mwV,↓mwD,mwU]
  refine (FValue_c f _ w2 (hf.ext (x0.trans hx2)) hl12.1 hl12.2).use ?_
  rintro r w3 ⟨h3, t, p1, p2, n1, n2, c, rfl, ht, hq⟩
  obtain ⟨v3, hv3, K3, y3⟩ := new_vt w3 t (.slice p1 t.keys.length n1) (.slice p2 t.kids.length n2)
  have hx3 := hx2.trans (h3.trans y3)
  obtain ⟨⟨A0, A1⟩, _⟩ := cells hx3
  simp -dsimp -implicitDefEqProofs only [k2,k3,vtV,← hv3,A0,A1,m8,sF8,ZA,↓reduceIte,ZB,ZC,ZJ,ZK,ZE,ZF,ZG,ZH,ZI,reduceCtorEq,ZD,mwV,↓mwD,mwU]
  clear hv3
  refine (refFValue_c f _ v3 (hf.ext (x0.trans hx3)) hl12.1 hl12.2).use ?_
  rintro r w4 ⟨h4, t', p3, p4, n3, n4, c', rfl, ht', hq'⟩
  obtain ⟨rfl, rfl⟩ := ValQ.eq hq hq'
  obtain ⟨v4, hv4, K4, y4⟩ := new_vt w4 t (.slice p3 t.keys.length n3) (.slice p4 t.kids.length n4)
  have hx4 := hx3.trans (h4.trans y4)
  obtain ⟨_, a0, a1, a2, a3, a4⟩ := cells hx4
  simp -dsimp -implicitDefEqProofs only [k2,k3,vtV,← hv4,a0,a1,a2,a3,a4,m8,sF8,ZA,↓reduceIte,ZB,ZC,ZJ,ZK,ZE,ZF,ZG,ZH,ZI,reduceCtorEq,ZD,mwV,↓mwD,mwU]
  clear hv4
  refine (FromValue_c v _ _ v4 (hv.ext (x0.trans hx4)) hm).use ?_
  rintro r w5 ⟨h5, g, q5, n5, d, rfl, hs5, hg⟩
  obtain ⟨v5, hv5, K5, y5⟩ : ∃ W', W' = w5.alloc (.cells #[.int .i64 g.m, .slice q5 g.F.length n5] 24) ∧ Bk W' w5.heap.size [.int .i64 g.m, .slice q5 g.F.length n5] 24 ∧ Ext w5 W' := ⟨_, rfl, Bk.new _ _ _, Ext.alloc _ _⟩
  have hx5 := hx4.trans (h5.trans y5)
  obtain ⟨_, a0, a1, a2, a3, a4⟩ := cells hx5
  simp -dsimp -implicitDefEqProofs only [k2,k3,← hv5,a0,a1,a2,a3,a4,m8,sF8,ZA,↓reduceIte,ZB,ZC,ZJ,ZK,ZE,ZF,ZG,ZH,ZI,reduceCtorEq,ZD,mwV,↓mwD,mwU]
  clear hv5
  refine (refFromValue_c v _ _ v5 (hv.ext (x0.trans hx5)) hm).use ?_
  rintro r w6 ⟨h6, g', q6, n6, d', rfl, hs6, hg'⟩
  obtain ⟨rfl, rfl⟩ := hg.eq hg'
  obtain ⟨v6, hv6, K6, y6⟩ : ∃ W', W' = w6.alloc (.cells #[.int .i64 g.m, .slice q6 g.F.length n6] 24) ∧ Bk W' w6.heap.size [.int .i64 g.m, .slice q6 g.F.length n6] 24 ∧ Ext w6 W' := ⟨_, rfl, Bk.new _ _ _, Ext.alloc _ _⟩
  have x36 : Ext v3 v6 := (h4.trans y4).trans ((h5.trans y5).trans (h6.trans y6))
  have x46 : Ext v4 v6 := (h5.trans y5).trans (h6.trans y6)
  have x56 : Ext v5 v6 := h6.trans y6
  have hx6 := hx5.trans x56
  obtain ⟨l0, l1, l2, l3, l4⟩ := bk_vt K3 x36
  obtain ⟨m0, m1, m2, m3, m4⟩ := bk_vt K4 x46
  simp -dsimp -implicitDefEqProofs only [k2,k3,← hv6,l0,l1,l2,l3,l4,m0,m1,m2,m3,m4,m8,sF8,ZA,↓reduceIte,ZB,ZC,ZJ,ZK,ZE,ZF,ZG,ZH,ZI,reduceCtorEq,ZD,mwV,↓mwD,mwU]
  clear hv6
  refine (SameV_c t _ _ _ _ v6 (ht.ext (y3.trans x36)) (ht'.ext (y4.trans x46))).use ?_
  rintro r w7 ⟨rfl, h7⟩
  have L0 := (K5.ext (x56.trans h7)).get (o := 0) rfl
  have L1 := (K5.ext (x56.trans h7)).get (o := 1) rfl
  have M0 := (K6.ext h7).get (o := 0) rfl
  have M1 := (K6.ext h7).get (o := 1) rfl
  have ec : decide (c = c) = true := by simp
  have ed : decide (d = d) = true := by simp
  simp -dsimp -implicitDefEqProofs only [k2,k3,L0,L1,M0,M1,ec,m8,sF8,ZA,↓reduceIte,ZB,ZC,ZJ,ZK,ZE,ZF,ZG,ZH,ZI,reduceCtorEq,ZD,mwV,↓mwD,mwU]
  refine (refSame_c g g _ _ w7 (hs5.ext (y5.trans (x56.trans h7))) (hs6.ext (y6.trans h7))).use ?_
  rintro r w8 ⟨rfl, h8⟩
  have e6 := eqFm_refl g
  have hx8 := hx6.trans (h7.trans h8)
  by_cases hc0 : c = 0
  rotate_left
  · have dc := decide_eq_false hc0
    simp -dsimp -implicitDefEqProofs only [k2,k3,e6,ed,dc,m8,sF8,ZA,↓reduceIte,ZB,ZC,ZJ,ZK,ZE,ZF,ZG,ZH,ZI,reduceCtorEq,ZD,mwV,↓mwD,mwU]
    refine (end1 hx8).use ?_
    rintro r w9 ⟨rfl, h9⟩
    simp -dsimp -implicitDefEqProofs only [m8,sF8,ZA,↓reduceIte,ZB,ZC,ZJ,ZK,ZE,ZF,ZG,ZH,ZI,reduceCtorEq,ZD,mwV,↓mwD,mwU]
    exact h9
  have dc := decide_eq_true hc0
  obtain ⟨rfl, hval⟩ : t = fmVt f ∧ f.valid = true := by
    rcases hq with ⟨h, _⟩ | ⟨_, h1, h2⟩
    · omega
    · exact ⟨h1, h2⟩
  obtain ⟨l0, l1, l2, l3, l4⟩ := bk_vt K3 (x36.trans (h7.trans h8))
  simp -dsimp -implicitDefEqProofs only [k2,k3,e6,ed,dc,l0,l1,l2,l3,l4,m8,sF8,ZA,↓reduceIte,ZB,ZC,ZJ,ZK,ZE,ZF,ZG,ZH,ZI,reduceCtorEq,ZD,mwV,↓mwD,mwU]
  refine (FromValue_c (fmVt f) _ _ w8 (ht.ext (y3.trans (x36.trans (h7.trans h8)))) (by have := mass_fm hval; omega)).use ?_
  rintro r w9 ⟨h9, g2, q9, n9, d2, rfl, hs9, hg2⟩
  obtain ⟨rfl, rfl⟩ := hg2.eq (from_fm hval)
  obtain ⟨v9, hv9, K9, y9⟩ : ∃ W', W' = w9.alloc (.cells #[.int .i64 g2.m, .slice q9 g2.F.length n9] 24) ∧ Bk W' w9.heap.size [.int .i64 g2.m, .slice q9 g2.F.length n9] 24 ∧ Ext w9 W' := ⟨_, rfl, Bk.new _ _ _, Ext.alloc _ _⟩
  have hx9 := hx8.trans (h9.trans y9)
  obtain ⟨⟨A0, A1⟩, _⟩ := cells hx9
  have N0 := K9.get (o := 0) rfl
  have N1 := K9.get (o := 1) rfl
  simp -dsimp -implicitDefEqProofs only [k2,k3,← hv9,A0,A1,N0,N1,m8,sF8,ZA,↓reduceIte,ZB,ZC,ZJ,ZK,ZE,ZF,ZG,ZH,ZI,reduceCtorEq,ZD,mwV,↓mwD,mwU]
  clear hv9
  refine (refSame_c g2 g2 _ _ v9 (hs9.ext y9) (hf.ext (x0.trans hx9))).use ?_
  rintro r w10 ⟨rfl, h10⟩
  have e8 := eqFm_refl g2
  simp -dsimp -implicitDefEqProofs only [e8,m8,sF8,ZA,↓reduceIte,ZB,ZC,ZJ,ZK,ZE,ZF,ZG,ZH,ZI,reduceCtorEq,ZD,mwV,↓mwD,mwU]
  refine (end1 (hx9.trans h10)).use ?_
  rintro r w11 ⟨rfl, h11⟩
  simp -dsimp -implicitDefEqProofs only [m8,sF8,ZA,↓reduceIte,ZB,ZC,ZJ,ZK,ZE,ZF,ZG,ZH,ZI,reduceCtorEq,ZD,mwV,↓mwD,mwU]
  exact h11
end Go.Proofs.YthcdnjbhhaonhaaGreatDoor

/- Layer 01: choices by the program. -/
import Derived.Test.YthcdnjbhhaonhaaGreatDoorQvVaE
import Derived.Test.YthcdnjbhhaonhaaGreatDoorQvChS

namespace Go.Proofs.YthcdnjbhhaonhaaGreatDoor
open Go.RowKit
open Nat renaming reduceEqDiff → ZA, reduceAdd → ZB, reduceMul → ZC, reduceSub → ZD
open Int renaming reduceToNat → ZE, reduceEq → ZF, reduceLT → ZG, reduceLE → ZH, reduceNeg → ZI
open Go.Value renaming oneCell' → ZK, cells → ZJ
open Go.Proofs.Tryz renaming prog → ZP
set_option linter.unusedSimpArgs false
theorem SlV.first {w : World} {p : Option Addr} {n cap : Nat} {x : Vt} {l : List Vt} (h : SlV w (.slice p n cap) (x :: l)) : ∃ b o, p = some ⟨b, o, none⟩ ∧ w.cell? ⟨b, o, none⟩ = some (.int .i64 x.k) ∧ w.cell? ⟨b, o + 1, none⟩ = some (.int .i64 x.n) := by
  obtain ⟨b, o, q1, m1, c1, q2, c2, hp, k0, k1, _⟩ := h.get (i := 0) (by simp)
  exact ⟨b, o, hp, k0, k1⟩
theorem SlV.num {w : World} {p : Option Addr} {n cap i : Nat} {l : List Vt} (h : SlV w (.slice p n cap) l) (hi : i < l.length) : ∃ b o, p = some ⟨b, o, none⟩ ∧ w.cell? ⟨b, o + 5 * i + 1, none⟩ = some (.int .i64 ((l.map Vt.n).getD i 0)) := by
  obtain ⟨b, o, q1, m1, c1, q2, c2, hp, k0, k1, _⟩ := h.get hi
  refine ⟨b, o, hp, ?_⟩
  rw [List.getD_eq_getElem?_getD, List.getElem?_map, List.getElem?_eq_getElem hi]
  exact k1
theorem MapB.ext {w w' : World} {b : Nat} {xs : List Int} (h : MapB w b xs) (he : Ext w w') : MapB w' b xs := by
  obtain ⟨es, ck, ho, hk, hv⟩ := h.ex
  exact ⟨es, ck, by rw [he.block b (Array.getElem?_eq_some_iff.1 ho).1]; exact ho, hk, hv⟩
set_option maxHeartbeats 4000000 in
theorem choiceV_c (v : Vt) (s1 s2 : Value) (w : World) (hv : VAt w v s1 s2) : Rets ZP 193 #[vtV v s1 s2] w (YesQ ((∀ x ∈ v.kids, x.k = 3) ∧ NumsOk v.n (v.kids.map Vt.n)) w) := by
  obtain ⟨q1, c1, rfl, hd1, hd2⟩ := hv.ks.shape
  obtain ⟨q2, c2, rfl, hc1, hc2⟩ := hv.vs.shape
  obtain ⟨W, hW, A, x0⟩ := new_vt w v (.slice q1 v.keys.length c1) (.slice q2 v.kids.length c2)
  refine en193 ?_
  refine mwpB_cut 1 (fun e ds w' => e 1 = .pointer (some ⟨w.heap.size, 0, none⟩) ∧ ds = [] ∧ w' = W) ?_ ?_
  · simp -dsimp -implicitDefEqProofs only [headM_zero,headM_seq,vtV,hW,m193,sF193,ZA,↓reduceIte,ZB,ZC,ZJ,ZK,ZE,ZF,ZG,ZH,ZI,reduceCtorEq,ZD,mwV,↓mwD,mwU]
  clear hW
  rintro e ds w0 ⟨h1, rfl, rfl⟩
  obtain ⟨a0, a1, a2, a3, a4⟩ := bk_vt A (Ext.refl w0)
  by_cases h0 : v.kids = []
  · have hl : (v.kids.length : Int) = 0 := by rw [h0]; rfl
    simp -dsimp -implicitDefEqProofs only [tailM_zero,tailM_seq,h1,a4,hl,m193,sF193,ZA,↓reduceIte,ZB,ZC,ZJ,ZK,ZE,ZF,ZG,ZH,ZI,reduceCtorEq,ZD,mwV,↓mwD,mwU]
    exact .no x0 (fun h => by rw [h0] at h; exact h.2)
  have hpos : 0 < v.kids.length := List.length_pos_iff.2 h0
  have hl : ¬ (v.kids.length : Int) = 0 := by omega
  simp -dsimp -implicitDefEqProofs only [tailM_zero,tailM_seq,h1,a4,hl,m193,sF193,ZA,↓reduceIte,ZB,ZC,ZJ,ZK,ZE,ZF,ZG,ZH,ZI,reduceCtorEq,ZD,mwV,↓mwD,mwU]
  refine (ints_c _ v.kids w0 (hv.vs.ext x0)).use ?_
  rintro r w1 ⟨hx1, b, rfl, hb⟩
  cases b
  · simp -dsimp -implicitDefEqProofs only [m193,sF193,ZA,↓reduceIte,ZB,ZC,ZJ,ZK,ZE,ZF,ZG,ZH,ZI,reduceCtorEq,ZD,mwV,↓mwD,mwU]
    exact .no (x0.trans hx1) (fun h => by have := hb.2 h.1; cases this)
  have hint := hb.1 rfl
  rw [show ((∀ x ∈ v.kids, x.k = 3) ∧ NumsOk v.n (v.kids.map Vt.n)) ↔ NumsOk v.n (v.kids.map Vt.n) from ⟨fun h => h.2, fun h => ⟨hint, h⟩⟩]
  have hx := x0.trans hx1
  obtain ⟨x, l, hk⟩ : ∃ x l, v.kids = x :: l := List.exists_cons_of_ne_nil h0
  have hvk := hv.vs.ext hx
  have hlen : v.kids.length = l.length + 1 := by rw [hk]; rfl
  obtain ⟨b, o, rfl, k0, k1⟩ := (show SlV w1 (.slice q2 v.kids.length c2) (x :: l) by rw [← hk]; exact hvk).first
  have hsl : (0 : Int) ≤ 1 ∧ (1 : Int) ≤ (v.kids.length : Int) ∧ (v.kids.length : Int) ≤ (c2 : Int) := by omega
  have ht1 : ((v.kids.length : Int) - 1).toNat = l.length := by omega
  have ht2 : ((c2 : Int) - 1).toNat = c2 - 1 := by omega
  have hb1 : (0 : Int) ≤ 0 ∧ (0 : Int) < v.kids.length := by omega
  obtain ⟨a0, a1, a2, a3, a4⟩ := bk_vt A hx1
  have hlv : SlV w1 (.slice (if (c2 : Int) = 1 then some ⟨b, o, none⟩ else some ⟨b, o + 5, none⟩) l.length (c2 - 1)) l := by
    have := (show SlV w1 (.slice (some ⟨b, o, none⟩) v.kids.length c2) (x :: l) by rw [← hk]; exact hvk).tail (if (c2 : Int) = 1 then some ⟨b, o, none⟩ else some ⟨b, o + 5, none⟩) (fun hne => by rw [if_neg]; have := List.length_pos_iff.2 hne; omega)
    rw [show v.kids.length - 1 = l.length by omega] at this
    exact this
  obtain ⟨_, _, hv0, hcl1, hcl2⟩ := hlv.shape
  cases hv0
  generalize hq : (if (c2 : Int) = 1 then some (⟨b, o, none⟩ : Addr) else some ⟨b, o + 5, none⟩) = q at *
  have hmap : v.kids.map Vt.n = x.n :: l.map Vt.n := by rw [hk]; rfl
  rw [hmap]
  simp -dsimp -implicitDefEqProofs only [h1,m193,sF193,ZA,↓reduceIte,ZB,ZC,ZJ,ZK,ZE,ZF,ZG,ZH,ZI,reduceCtorEq,ZD,mwV,↓mwD,mwU]
  refine mwpB_drawE ?_
  clear hl hsl
  have hsl : (0 : Int) ≤ 1 ∧ (1 : Int) ≤ (v.kids.length : Int) ∧ (v.kids.length : Int) ≤ (c2 : Int) := by omega
  have hxd := hx.trans (Ext.drew w1)
  have num : ∀ {w' : World} (i : Nat) (hi : i < l.length), Ext w1 w' → ∃ b o, q = some ⟨b, o, none⟩ ∧ w'.cell? ⟨b, o + 5 * i + 1, none⟩ = some (.int .i64 ((l.map Vt.n).getD i 0)) := fun {w'} i hi he => (hlv.ext he).num hi
  by_cases n1 : v.n = 1
  · have d1 : decide (v.n = 1) = true := by simpa using n1
    simp -dsimp -implicitDefEqProofs only [h1,a1,a4,hb1,and_self,k0,k1,hsl,ht1,ht2,Nat.mul_zero,Nat.zero_mul,Nat.add_zero,Int.toNat_zero,hq,d1,m193,sF193,ZA,↓reduceIte,ZB,ZC,ZJ,ZK,ZE,ZF,ZG,ZH,ZI,reduceCtorEq,ZD,mwV,↓mwD,mwU]
    refine .mk' hxd ?_
    simp [NumsOk, n1]
  have d1 : decide (v.n = 1) = false := by simpa using n1
  by_cases n2 : v.n = 2
  · have d2 : decide (v.n = 2) = true := by simpa using n2
    simp -dsimp -implicitDefEqProofs only [h1,a1,a4,hb1,and_self,k0,k1,hsl,ht1,ht2,Nat.mul_zero,Nat.zero_mul,Nat.add_zero,Int.toNat_zero,hq,d1,d2,m193,sF193,ZA,↓reduceIte,ZB,ZC,ZJ,ZK,ZE,ZF,ZG,ZH,ZI,reduceCtorEq,ZD,mwV,↓mwD,mwU]
    refine opB_makeMap' ?_
    simp -dsimp -implicitDefEqProofs only [World.size_drew,m193,sF193,ZA,↓reduceIte,ZB,ZC,ZJ,ZK,ZE,ZF,ZG,ZH,ZI,reduceCtorEq,ZD,mwV,↓mwD,mwU]
    have hsz : (w1.drew.alloc (.map #[] 0)).heap.size = w1.heap.size + 1 := World.size_alloc _ _
    refine mwpB_loop (fun e ds w' => ∃ k : Nat, k ≤ l.length ∧ e 38 = .int .i64 k ∧ e 37 = .int .i64 l.length ∧ e 36 = .slice q l.length (c2 - 1) ∧ e 3 = .int .i64 x.n ∧ e 5 = .map (some w1.heap.size) ∧ ds = [] ∧ Ext w1 w' ∧ MapB w' w1.heap.size ((l.map Vt.n).take k) ∧ dis ((l.map Vt.n).take k) = true)
      (fun e _ => l.length - (intOf (e 38)).toNat) ?_ ?_
    · simp -dsimp -implicitDefEqProofs only [m193,sF193,ZA,↓reduceIte,ZB,ZC,ZJ,ZK,ZE,ZF,ZG,ZH,ZI,reduceCtorEq,ZD,mwV,↓mwD,mwU]
      exact ⟨0, by omega, rfl, (Ext.drew w1).trans (Ext.alloc _ _), ⟨#[], 0, heap_alloc_new w1.drew _, rfl, fun e he => by simp at he⟩, rfl⟩
    · rintro e ds w' ⟨k, hkl, h38, h37, h36, h3, h5, rfl, hxw, hm, hdis⟩
      simp -dsimp -implicitDefEqProofs only [h38,h37,h36,h3,h5,m193,sF193,ZA,↓reduceIte,ZB,ZC,ZJ,ZK,ZE,ZF,ZG,ZH,ZI,reduceCtorEq,ZD,mwV,↓mwD,mwU]
      refine iteW_dec (fun hlt => ?_) (fun hge => ?_)
      · have hlt' : k < l.length := by omega
        obtain ⟨b, o, t1, m1, e1, t2, e2, rfl, k0, k1, k2, k3, k4, hkv, rfl⟩ := (hlv.ext hxw).get hlt'
        have hb1 : (0 : Int) ≤ k ∧ (k : Int) < l.length := by omega
        have hs1 := w64_succ hlt' (Nat.le_trans hcl1 hcl2)
        obtain ⟨W2, hW2, A2, y0⟩ := new_vt w' l[k] (.slice t1 l[k].keys.length e1) (.slice t2 l[k].kids.length e2)
        obtain ⟨b0, b1, b2, b3, b4⟩ := bk_vt A2 (Ext.refl W2)
        have hm2 := hm.ext y0
        have hkl' : k < (l.map Vt.n).length := by simpa using hlt'
        have hget : (l.map Vt.n)[k] = l[k].n := by simp
        have htk := List.take_succ_eq_append_getElem hkl'
        rw [hget] at htk
        simp -dsimp -implicitDefEqProofs only [h38,h37,h36,h3,h5,hb1,and_self,Nat.mul_comm k 5,k0,k1,k2,k3,k4,← hW2,b0,b1,b2,b3,b4,m193,sF193,ZA,↓reduceIte,ZB,ZC,ZJ,ZK,ZE,ZF,ZG,ZH,ZI,reduceCtorEq,ZD,mwV,↓mwD,mwU]
        clear hW2
        refine opB_lookup' (v := .bool (((l.map Vt.n).take k).contains l[k].n)) ?_ ?_
        · simp -dsimp -implicitDefEqProofs only [h5,m193,sF193,ZA,↓reduceIte,ZB,ZC,ZJ,ZK,ZE,ZF,ZG,ZH,ZI,reduceCtorEq,ZD,mwV,↓mwD,mwU]
          exact look_met hm2 _
        · cases hc : ((l.map Vt.n).take k).contains l[k].n
          · simp -dsimp -implicitDefEqProofs only [h38,h37,h36,h3,h5,b1,m193,sF193,ZA,↓reduceIte,ZB,ZC,ZJ,ZK,ZE,ZF,ZG,ZH,ZI,reduceCtorEq,ZD,mwV,↓mwD,mwU]
            obtain ⟨w2, u1, u2, u3, u4, u5, u6, u7⟩ := upd_met hm2 l[k].n hc
            refine opB_mapUpdate' (w' := w2) ?_ ?_
            · simp -dsimp -implicitDefEqProofs only [h5,m193,sF193,ZA,↓reduceIte,ZB,ZC,ZJ,ZK,ZE,ZF,ZG,ZH,ZI,reduceCtorEq,ZD,mwV,↓mwD,mwU]
              exact u1
            · simp -dsimp -implicitDefEqProofs only [h38,h37,h36,h3,h5,hs1,m193,sF193,ZA,↓reduceIte,ZB,ZC,ZJ,ZK,ZE,ZF,ZG,ZH,ZI,reduceCtorEq,ZD,mwV,↓mwD,mwU]
              refine ⟨⟨k + 1, by omega, rfl, ?_, by rw [htk]; exact u2, by rw [htk, dis_app, hdis, hc]; rfl⟩, by simp only [intOf,h38]; omega⟩
              exact Below.trans (hxw.trans y0) ⟨u3, u4, u5, by omega, fun k hk => u7 k (by omega)⟩
          · simp -dsimp -implicitDefEqProofs only [h38,h37,h36,h3,h5,b1,m193,sF193,ZA,↓reduceIte,ZB,ZC,ZJ,ZK,ZE,ZF,ZG,ZH,ZI,reduceCtorEq,ZD,mwV,↓mwD,mwU]
            refine .no (hx.trans (hxw.trans y0)) (fun h => ?_)
            have hd : dis (l.map Vt.n) = true := by
              rcases h with h | h | h | h
              · exact absurd (n2.symm.trans h.1) (by decide)
              · exact h.2.1
              · exact absurd (n2.symm.trans h.1) (by decide)
              · exact absurd (n2.symm.trans h.1) (by decide)
            have := dis_pre ((l.map Vt.n).take (k + 1)) ((l.map Vt.n).drop (k + 1)) (by rw [List.take_append_drop]; exact hd)
            rw [htk, dis_app, hc] at this
            simp at this
      · have hke : k = (l.map Vt.n).length := by simp; omega
        rw [hke, List.take_length] at hm hdis
        simp -dsimp -implicitDefEqProofs only [h38,h37,h36,h3,h5,m193,sF193,ZA,↓reduceIte,ZB,ZC,ZJ,ZK,ZE,ZF,ZG,ZH,ZI,reduceCtorEq,ZD,mwV,↓mwD,mwU]
        refine opB_lookup' (v := .bool ((l.map Vt.n).contains x.n)) ?_ ?_
        · simp -dsimp -implicitDefEqProofs only [h5,h3,m193,sF193,ZA,↓reduceIte,ZB,ZC,ZJ,ZK,ZE,ZF,ZG,ZH,ZI,reduceCtorEq,ZD,mwV,↓mwD,mwU]
          exact look_met hm _
        · simp -dsimp -implicitDefEqProofs only [m193,sF193,ZA,↓reduceIte,ZB,ZC,ZJ,ZK,ZE,ZF,ZG,ZH,ZI,reduceCtorEq,ZD,mwV,↓mwD,mwU]
          refine .mk' (hx.trans hxw) ?_
          simp only [NumsOk,n2,hdis]
          simp
  have d2 : decide (v.n = 2) = false := by simpa using n2
  by_cases n3 : v.n = 3
  · have d3 : decide (v.n = 3) = true := by simpa using n3
    by_cases l2 : (l.length : Int) = 2
    rotate_left
    · simp -dsimp -implicitDefEqProofs only [h1,a1,a4,hb1,and_self,k0,k1,hsl,ht1,ht2,Nat.mul_zero,Nat.zero_mul,Nat.add_zero,Int.toNat_zero,hq,d1,d2,d3,l2,m193,sF193,ZA,↓reduceIte,ZB,ZC,ZJ,ZK,ZE,ZF,ZG,ZH,ZI,reduceCtorEq,ZD,mwV,↓mwD,mwU]
      refine .no hxd ?_
      simp only [NumsOk,n3,List.length_map]
      omega
    obtain ⟨b2, o2, hq2, m0⟩ := num 0 (by omega) (Ext.refl w1)
    obtain ⟨b3, o3, hq3, m1⟩ := num 1 (by omega) (Ext.refl w1)
    rw [hq2] at hq3
    cases hq3
    simp only [Nat.mul_zero,Nat.add_zero] at m0
    have m1a : w1.cell? ⟨b2, o2 + 5 + 1, none⟩ = some (.int .i64 ((l.map Vt.n).getD 1 0)) := m1
    have m1b : w1.cell? ⟨b2, o2 + 6, none⟩ = some (.int .i64 ((l.map Vt.n).getD 1 0)) := m1
    have hb3 : (0 : Int) ≤ 0 ∧ (0 : Int) < l.length := by omega
    have hb4 : (0 : Int) ≤ 1 ∧ (1 : Int) < l.length := by omega
    have hno : NumsOk v.n (x.n :: l.map Vt.n) ↔ (l.map Vt.n).getD 0 0 ≤ x.n ∧ x.n ≤ (l.map Vt.n).getD 1 0 := by
      simp only [NumsOk]
      constructor
      · rintro (h | h | h | h)
        · exact absurd (n3.symm.trans h.1) (by decide)
        · exact absurd (n3.symm.trans h.1) (by decide)
        · exact h.2.2
        · exact absurd (n3.symm.trans h.1) (by decide)
      · exact fun h => .inr (.inr (.inl ⟨n3, by rw [List.length_map]; omega, h⟩))
    rw [hno]
    generalize (l.map Vt.n).getD 0 0 = y0 at *
    generalize (l.map Vt.n).getD 1 0 = y1 at *
    by_cases e1 : y0 ≤ x.n
    · by_cases e2 : x.n ≤ y1
      · simp -dsimp -implicitDefEqProofs only [h1,a1,a4,hb1,and_self,k0,k1,hsl,ht1,ht2,Nat.mul_zero,Nat.zero_mul,Nat.add_zero,Int.toNat_zero,hq,d1,d2,d3,hq2,hb3,hb4,m0,m1a,m1b,l2,e1,e2,m193,sF193,ZA,↓reduceIte,ZB,ZC,ZJ,ZK,ZE,ZF,ZG,ZH,ZI,reduceCtorEq,ZD,mwV,↓mwD,mwU]
        exact .yes hxd (by trivial)
      · simp -dsimp -implicitDefEqProofs only [h1,a1,a4,hb1,and_self,k0,k1,hsl,ht1,ht2,Nat.mul_zero,Nat.zero_mul,Nat.add_zero,Int.toNat_zero,hq,d1,d2,d3,hq2,hb3,hb4,m0,m1a,m1b,l2,e1,e2,m193,sF193,ZA,↓reduceIte,ZB,ZC,ZJ,ZK,ZE,ZF,ZG,ZH,ZI,reduceCtorEq,ZD,mwV,↓mwD,mwU]
        exact .no hxd (by simp)
    · simp -dsimp -implicitDefEqProofs only [h1,a1,a4,hb1,and_self,k0,k1,hsl,ht1,ht2,Nat.mul_zero,Nat.zero_mul,Nat.add_zero,Int.toNat_zero,hq,d1,d2,d3,hq2,hb3,hb4,m0,m1a,m1b,l2,e1,m193,sF193,ZA,↓reduceIte,ZB,ZC,ZJ,ZK,ZE,ZF,ZG,ZH,ZI,reduceCtorEq,ZD,mwV,↓mwD,mwU]
      exact .no hxd (by simp)
  have d3 : decide (v.n = 3) = false := by simpa using n3
  by_cases n4 : v.n = 4
  · have d4 : decide (v.n = 4) = true := by simpa using n4
    by_cases l3 : (l.length : Int) = 3
    rotate_left
    · simp -dsimp -implicitDefEqProofs only [h1,a1,a4,hb1,and_self,k0,k1,hsl,ht1,ht2,Nat.mul_zero,Nat.zero_mul,Nat.add_zero,Int.toNat_zero,hq,d1,d2,d3,d4,m193,sF193,ZA,↓reduceIte,ZB,ZC,ZJ,ZK,ZE,ZF,ZG,ZH,ZI,reduceCtorEq,ZD,mwV,↓mwD,mwU]
      refine mwpB_drawE ?_
      simp -dsimp -implicitDefEqProofs only [l3,m193,sF193,ZA,↓reduceIte,ZB,ZC,ZJ,ZK,ZE,ZF,ZG,ZH,ZI,reduceCtorEq,ZD,mwV,↓mwD,mwU]
      refine .no (hxd.trans (Ext.drew _)) ?_
      simp only [NumsOk,n4,List.length_map]
      omega
    obtain ⟨b2, o2, hq2, m0⟩ := num 0 (by omega) (Ext.refl w1)
    obtain ⟨b3, o3, hq3, m1⟩ := num 1 (by omega) (Ext.refl w1)
    rw [hq2] at hq3
    cases hq3
    obtain ⟨b3, o3, hq3, m2⟩ := num 2 (by omega) (Ext.refl w1)
    rw [hq2] at hq3
    cases hq3
    simp only [Nat.mul_zero,Nat.add_zero] at m0
    have m1a : w1.cell? ⟨b2, o2 + 5 + 1, none⟩ = some (.int .i64 ((l.map Vt.n).getD 1 0)) := m1
    have m1b : w1.cell? ⟨b2, o2 + 6, none⟩ = some (.int .i64 ((l.map Vt.n).getD 1 0)) := m1
    have m2a : w1.cell? ⟨b2, o2 + 10 + 1, none⟩ = some (.int .i64 ((l.map Vt.n).getD 2 0)) := m2
    have m2b : w1.cell? ⟨b2, o2 + 11, none⟩ = some (.int .i64 ((l.map Vt.n).getD 2 0)) := m2
    have hb3 : (0 : Int) ≤ 0 ∧ (0 : Int) < l.length := by omega
    have hb4 : (0 : Int) ≤ 1 ∧ (1 : Int) < l.length := by omega
    have hb5 : (0 : Int) ≤ 2 ∧ (2 : Int) < l.length := by omega
    have hno : NumsOk v.n (x.n :: l.map Vt.n) ↔ 0 < (l.map Vt.n).getD 2 0 ∧ (l.map Vt.n).getD 0 0 ≤ x.n ∧ x.n ≤ (l.map Vt.n).getD 1 0 ∧ (IntKind.u64.wrap (IntKind.u64.wrap x.n - IntKind.u64.wrap ((l.map Vt.n).getD 0 0))).tmod (IntKind.u64.wrap ((l.map Vt.n).getD 2 0)) = 0 := by
      simp only [NumsOk]
      constructor
      · rintro (h | h | h | h)
        · exact absurd (n4.symm.trans h.1) (by decide)
        · exact absurd (n4.symm.trans h.1) (by decide)
        · exact absurd (n4.symm.trans h.1) (by decide)
        · exact h.2.2
      · exact fun h => .inr (.inr (.inr ⟨n4, by rw [List.length_map]; omega, h⟩))
    have hy2 : 0 < (l.map Vt.n).getD 2 0 → ¬ IntKind.u64.wrap ((l.map Vt.n).getD 2 0) = 0 := fun h => by
      obtain ⟨_, _, _, _, _, _, _, _, _, _, _, _, _, hk2, _⟩ := hlv.get (i := 2) (by omega)
      have hb := hk2.text
      have he : (l.map Vt.n).getD 2 0 = (l[2]'(by omega)).n := by rw [List.getD_eq_getElem?_getD, List.getElem?_map, List.getElem?_eq_getElem (by omega)]; rfl
      rw [he] at h ⊢
      rw [IntKind.wrap_u64]
      omega
    rw [hno]
    generalize (l.map Vt.n).getD 0 0 = y0 at *
    generalize (l.map Vt.n).getD 1 0 = y1 at *
    generalize (l.map Vt.n).getD 2 0 = y2 at *
    by_cases e0 : 0 < y2
    rotate_left
    · simp -dsimp -implicitDefEqProofs only [h1,a1,a4,hb1,and_self,k0,k1,hsl,ht1,ht2,Nat.mul_zero,Nat.zero_mul,Nat.add_zero,Int.toNat_zero,hq,d1,d2,d3,d4,m193,sF193,ZA,↓reduceIte,ZB,ZC,ZJ,ZK,ZE,ZF,ZG,ZH,ZI,reduceCtorEq,ZD,mwV,↓mwD,mwU]
      refine mwpB_drawE ?_
      simp -dsimp -implicitDefEqProofs only [hq2,hb3,hb4,hb5,and_self,Nat.mul_zero,Nat.zero_mul,Nat.add_zero,Int.toNat_zero,m0,m1a,m1b,m2a,m2b,l3,e0,m193,sF193,ZA,↓reduceIte,ZB,ZC,ZJ,ZK,ZE,ZF,ZG,ZH,ZI,reduceCtorEq,ZD,mwV,↓mwD,mwU]
      exact .no (hxd.trans (Ext.drew _)) (by simp)
    by_cases e1 : y0 ≤ x.n
    rotate_left
    · simp -dsimp -implicitDefEqProofs only [h1,a1,a4,hb1,and_self,k0,k1,hsl,ht1,ht2,Nat.mul_zero,Nat.zero_mul,Nat.add_zero,Int.toNat_zero,hq,d1,d2,d3,d4,m193,sF193,ZA,↓reduceIte,ZB,ZC,ZJ,ZK,ZE,ZF,ZG,ZH,ZI,reduceCtorEq,ZD,mwV,↓mwD,mwU]
      refine mwpB_drawE ?_
      simp -dsimp -implicitDefEqProofs only [hq2,hb3,hb4,hb5,and_self,Nat.mul_zero,Nat.zero_mul,Nat.add_zero,Int.toNat_zero,m0,m1a,m1b,m2a,m2b,l3,e0,e1,m193,sF193,ZA,↓reduceIte,ZB,ZC,ZJ,ZK,ZE,ZF,ZG,ZH,ZI,reduceCtorEq,ZD,mwV,↓mwD,mwU]
      exact .no (hxd.trans (Ext.drew _)) (by simp)
    by_cases e2 : x.n ≤ y1
    rotate_left
    · simp -dsimp -implicitDefEqProofs only [h1,a1,a4,hb1,and_self,k0,k1,hsl,ht1,ht2,Nat.mul_zero,Nat.zero_mul,Nat.add_zero,Int.toNat_zero,hq,d1,d2,d3,d4,m193,sF193,ZA,↓reduceIte,ZB,ZC,ZJ,ZK,ZE,ZF,ZG,ZH,ZI,reduceCtorEq,ZD,mwV,↓mwD,mwU]
      refine mwpB_drawE ?_
      simp -dsimp -implicitDefEqProofs only [hq2,hb3,hb4,hb5,and_self,Nat.mul_zero,Nat.zero_mul,Nat.add_zero,Int.toNat_zero,m0,m1a,m1b,m2a,m2b,l3,e0,e1,e2,m193,sF193,ZA,↓reduceIte,ZB,ZC,ZJ,ZK,ZE,ZF,ZG,ZH,ZI,reduceCtorEq,ZD,mwV,↓mwD,mwU]
      exact .no (hxd.trans (Ext.drew _)) (by simp)
    simp -dsimp -implicitDefEqProofs only [h1,a1,a4,hb1,and_self,k0,k1,hsl,ht1,ht2,Nat.mul_zero,Nat.zero_mul,Nat.add_zero,Int.toNat_zero,hq,d1,d2,d3,d4,m193,sF193,ZA,↓reduceIte,ZB,ZC,ZJ,ZK,ZE,ZF,ZG,ZH,ZI,reduceCtorEq,ZD,mwV,↓mwD,mwU]
    refine mwpB_drawE ?_
    simp -dsimp -implicitDefEqProofs only [hq2,hb3,hb4,hb5,and_self,Nat.mul_zero,Nat.zero_mul,Nat.add_zero,Int.toNat_zero,m0,m1a,m1b,m2a,m2b,l3,e0,e1,e2,m193,sF193,ZA,↓reduceIte,ZB,ZC,ZJ,ZK,ZE,ZF,ZG,ZH,ZI,reduceCtorEq,ZD,mwV,↓mwD,mwU]
    exact ⟨hy2 e0, .mk' (hxd.trans (Ext.drew _)) decide_eq_true_iff⟩
  have d4 : decide (v.n = 4) = false := by simpa using n4
  simp -dsimp -implicitDefEqProofs only [h1,a1,a4,hb1,and_self,k0,k1,hsl,ht1,ht2,Nat.mul_zero,Nat.zero_mul,Nat.add_zero,Int.toNat_zero,hq,d1,d2,d3,d4,m193,sF193,ZA,↓reduceIte,ZB,ZC,ZJ,ZK,ZE,ZF,ZG,ZH,ZI,reduceCtorEq,ZD,mwV,↓mwD,mwU]
  refine .no hxd ?_
  simp only [NumsOk]
  omega
end Go.Proofs.YthcdnjbhhaonhaaGreatDoor
/- Layer 01: a value alone, by the program. -/
namespace Go.Proofs.YthcdnjbhhaonhaaGreatDoor
open Go.RowKit
open Nat renaming reduceEqDiff → ZA, reduceAdd → ZB, reduceMul → ZC, reduceSub → ZD
open Int renaming reduceToNat → ZE, reduceEq → ZF, reduceLT → ZG, reduceLE → ZH, reduceNeg → ZI
open Go.Value renaming oneCell' → ZK, cells → ZJ
open Go.Proofs.Tryz renaming prog → ZP
set_option linter.unusedSimpArgs false
theorem form9_c (v : Vt) (s1 s2 : Value) (w : World) (hv : VAt w v s1 s2) : Rets ZP 192 #[vtV v s1 s2] w (YesQ (Bare v true false false true ∧ (∀ x ∈ v.kids, x.k = 3) ∧ NumsOk v.n (v.kids.map Vt.n)) w) := by
  obtain ⟨q1, c1, rfl, hd1, hd2⟩ := hv.ks.shape
  obtain ⟨q2, c2, rfl, hc1, hc2⟩ := hv.vs.shape
  obtain ⟨W, hW, A, x0⟩ := new_vt w v (.slice q1 v.keys.length c1) (.slice q2 v.kids.length c2)
  refine en192 ?_
  refine mwpB_cut 1 (fun e ds w' => e 1 = .pointer (some ⟨w.heap.size, 0, none⟩) ∧ ds = [] ∧ w' = W) ?_ ?_
  · simp -dsimp -implicitDefEqProofs only [headM_zero,headM_seq,vtV,hW,m192,sF192,ZA,↓reduceIte,ZB,ZC,ZJ,ZK,ZE,ZF,ZG,ZH,ZI,reduceCtorEq,ZD,mwV,↓mwD,mwU]
  clear hW
  rintro e ds w0 ⟨h1, rfl, rfl⟩
  obtain ⟨a0, a1, a2, a3, a4⟩ := bk_vt A (Ext.refl w0)
  simp -dsimp -implicitDefEqProofs only [tailM_zero,tailM_seq,h1,a0,a1,a2,a3,a4,m192,sF192,ZA,↓reduceIte,ZB,ZC,ZJ,ZK,ZE,ZF,ZG,ZH,ZI,reduceCtorEq,ZD,mwV,↓mwD,mwU]
  refine (bare_c v _ _ true false false true w0 (hv.ext x0)).use ?_
  rintro r w1 ⟨hx, b, rfl, hb⟩
  cases b
  · simp -dsimp -implicitDefEqProofs only [h1,m192,sF192,ZA,↓reduceIte,ZB,ZC,ZJ,ZK,ZE,ZF,ZG,ZH,ZI,reduceCtorEq,ZD,mwV,↓mwD,mwU]
    exact .no (x0.trans hx) (fun h => by have := hb.2 h.1; cases this)
  obtain ⟨a0, a1, a2, a3, a4⟩ := bk_vt A hx
  simp -dsimp -implicitDefEqProofs only [h1,a0,a1,a2,a3,a4,m192,sF192,ZA,↓reduceIte,ZB,ZC,ZJ,ZK,ZE,ZF,ZG,ZH,ZI,reduceCtorEq,ZD,mwV,↓mwD,mwU]
  refine (choiceV_c v _ _ w1 (hv.ext (x0.trans hx))).use ?_
  rintro r w2 ⟨hx2, b, rfl, hb2⟩
  simp -dsimp -implicitDefEqProofs only [m192,sF192,ZA,↓reduceIte,ZB,ZC,ZJ,ZK,ZE,ZF,ZG,ZH,ZI,reduceCtorEq,ZD,mwV,↓mwD,mwU]
  exact .mk' (x0.trans (hx.trans hx2)) (hb2.trans ⟨fun h => ⟨hb.1 rfl, h⟩, fun h => h.2⟩)
def formT : List Value := [.nilFunc, .func (.func 179) #[] #[], .func (.func 181) #[] #[], .func (.func 182) #[] #[], .func (.func 183) #[] #[], .func (.func 185) #[] #[], .func (.func 186) #[] #[], .func (.func 190) #[] #[], .func (.func 191) #[] #[], .func (.func 192) #[] #[], .func (.func 194) #[] #[]]
theorem bs_forms : buildS ZP 162 11 [(1, .func (.func 179) #[] #[]), (2, .func (.func 181) #[] #[]), (3, .func (.func 182) #[] #[]), (4, .func (.func 183) #[] #[]), (5, .func (.func 185) #[] #[]), (6, .func (.func 186) #[] #[]), (7, .func (.func 190) #[] #[]), (8, .func (.func 191) #[] #[]), (9, .func (.func 192) #[] #[]), (10, .func (.func 194) #[] #[])] = some (65, formT.toArray) := by kernel_rfl
theorem forms_c (w : World) : Rets ZP 162 #[] w fun r w' => Ext w w' ∧ ∃ b, r = .slice (some ⟨b, 0, none⟩) 11 11 ∧ ∀ k v, formT[k]? = some v → w'.cell? ⟨b, k, none⟩ = some v := by
  refine en162 ?_
  simp -dsimp -implicitDefEqProofs only [bs_forms,m162,sF162,ZA,↓reduceIte,ZB,ZC,ZJ,ZK,ZE,ZF,ZG,ZH,ZI,reduceCtorEq,ZD,mwV,↓mwD,mwU]
  exact ⟨Ext.alloc _ _, _, rfl, fun k v h => by have := row_new w formT 65 k v h; simpa using this⟩
theorem formed_1 {v : Vt} (hk : v.k = 1) : Formed v ↔ Bare v false false false false := by
  unfold Formed
  constructor
  · rintro (h | h | h | h | h | h | h | h | h | h)
    · exact h.2
    · exact absurd (hk.symm.trans h.1) (by decide)
    · exact absurd (hk.symm.trans h.1) (by decide)
    · exact absurd (hk.symm.trans h.1) (by decide)
    · exact absurd (hk.symm.trans h.1) (by decide)
    · exact absurd (hk.symm.trans h.1) (by decide)
    · exact absurd (hk.symm.trans h.1) (by decide)
    · exact absurd (hk.symm.trans h.1) (by decide)
    · exact absurd (hk.symm.trans h.1) (by decide)
    · exact absurd (hk.symm.trans h.1) (by decide)
  · exact fun h => .inl ⟨hk, h⟩
theorem formed_2 {v : Vt} (hk : v.k = 2) : Formed v ↔ (v.n = 0 ∨ v.n = 1) ∧ Bare v true false false false := by
  unfold Formed
  constructor
  · rintro (h | h | h | h | h | h | h | h | h | h)
    · exact absurd (hk.symm.trans h.1) (by decide)
    · exact h.2
    · exact absurd (hk.symm.trans h.1) (by decide)
    · exact absurd (hk.symm.trans h.1) (by decide)
    · exact absurd (hk.symm.trans h.1) (by decide)
    · exact absurd (hk.symm.trans h.1) (by decide)
    · exact absurd (hk.symm.trans h.1) (by decide)
    · exact absurd (hk.symm.trans h.1) (by decide)
    · exact absurd (hk.symm.trans h.1) (by decide)
    · exact absurd (hk.symm.trans h.1) (by decide)
  · exact fun h => .inr (.inl ⟨hk, h⟩)
theorem formed_3 {v : Vt} (hk : v.k = 3) : Formed v ↔ Bare v true false false false := by
  unfold Formed
  constructor
  · rintro (h | h | h | h | h | h | h | h | h | h)
    · exact absurd (hk.symm.trans h.1) (by decide)
    · exact absurd (hk.symm.trans h.1) (by decide)
    · exact h.2
    · exact absurd (hk.symm.trans h.1) (by decide)
    · exact absurd (hk.symm.trans h.1) (by decide)
    · exact absurd (hk.symm.trans h.1) (by decide)
    · exact absurd (hk.symm.trans h.1) (by decide)
    · exact absurd (hk.symm.trans h.1) (by decide)
    · exact absurd (hk.symm.trans h.1) (by decide)
    · exact absurd (hk.symm.trans h.1) (by decide)
  · exact fun h => .inr (.inr (.inl ⟨hk, h⟩))
theorem formed_4 {v : Vt} (hk : v.k = 4) : Formed v ↔ 0 ∉ v.s.data.toList ∧ Bare v false true false false := by
  unfold Formed
  constructor
  · rintro (h | h | h | h | h | h | h | h | h | h)
    · exact absurd (hk.symm.trans h.1) (by decide)
    · exact absurd (hk.symm.trans h.1) (by decide)
    · exact absurd (hk.symm.trans h.1) (by decide)
    · exact h.2
    · exact absurd (hk.symm.trans h.1) (by decide)
    · exact absurd (hk.symm.trans h.1) (by decide)
    · exact absurd (hk.symm.trans h.1) (by decide)
    · exact absurd (hk.symm.trans h.1) (by decide)
    · exact absurd (hk.symm.trans h.1) (by decide)
    · exact absurd (hk.symm.trans h.1) (by decide)
  · exact fun h => .inr (.inr (.inr (.inl ⟨hk, h⟩)))
theorem formed_5 {v : Vt} (hk : v.k = 5) : Formed v ↔ Bare v false true false false := by
  unfold Formed
  constructor
  · rintro (h | h | h | h | h | h | h | h | h | h)
    · exact absurd (hk.symm.trans h.1) (by decide)
    · exact absurd (hk.symm.trans h.1) (by decide)
    · exact absurd (hk.symm.trans h.1) (by decide)
    · exact absurd (hk.symm.trans h.1) (by decide)
    · exact h.2
    · exact absurd (hk.symm.trans h.1) (by decide)
    · exact absurd (hk.symm.trans h.1) (by decide)
    · exact absurd (hk.symm.trans h.1) (by decide)
    · exact absurd (hk.symm.trans h.1) (by decide)
    · exact absurd (hk.symm.trans h.1) (by decide)
  · exact fun h => .inr (.inr (.inr (.inr (.inl ⟨hk, h⟩))))
theorem formed_6 {v : Vt} (hk : v.k = 6) : Formed v ↔ Bare v false false false true ∧ ListOk v.kids := by
  unfold Formed
  constructor
  · rintro (h | h | h | h | h | h | h | h | h | h)
    · exact absurd (hk.symm.trans h.1) (by decide)
    · exact absurd (hk.symm.trans h.1) (by decide)
    · exact absurd (hk.symm.trans h.1) (by decide)
    · exact absurd (hk.symm.trans h.1) (by decide)
    · exact absurd (hk.symm.trans h.1) (by decide)
    · exact h.2
    · exact absurd (hk.symm.trans h.1) (by decide)
    · exact absurd (hk.symm.trans h.1) (by decide)
    · exact absurd (hk.symm.trans h.1) (by decide)
    · exact absurd (hk.symm.trans h.1) (by decide)
  · exact fun h => .inr (.inr (.inr (.inr (.inr (.inl ⟨hk, h⟩)))))
theorem formed_7 {v : Vt} (hk : v.k = 7) : Formed v ↔ Bare v false false false true := by
  unfold Formed
  constructor
  · rintro (h | h | h | h | h | h | h | h | h | h)
    · exact absurd (hk.symm.trans h.1) (by decide)
    · exact absurd (hk.symm.trans h.1) (by decide)
    · exact absurd (hk.symm.trans h.1) (by decide)
    · exact absurd (hk.symm.trans h.1) (by decide)
    · exact absurd (hk.symm.trans h.1) (by decide)
    · exact absurd (hk.symm.trans h.1) (by decide)
    · exact h.2
    · exact absurd (hk.symm.trans h.1) (by decide)
    · exact absurd (hk.symm.trans h.1) (by decide)
    · exact absurd (hk.symm.trans h.1) (by decide)
  · exact fun h => .inr (.inr (.inr (.inr (.inr (.inr (.inl ⟨hk, h⟩))))))
theorem formed_8 {v : Vt} (hk : v.k = 8) : Formed v ↔ (v.s = ⟨#[]⟩ ∧ 0 ≤ v.n ∧ v.n ≤ 2147483647 ∧ v.keys.length = v.kids.length) ∧ KeysOk 2147483647 true v.keys := by
  unfold Formed
  constructor
  · rintro (h | h | h | h | h | h | h | h | h | h)
    · exact absurd (hk.symm.trans h.1) (by decide)
    · exact absurd (hk.symm.trans h.1) (by decide)
    · exact absurd (hk.symm.trans h.1) (by decide)
    · exact absurd (hk.symm.trans h.1) (by decide)
    · exact absurd (hk.symm.trans h.1) (by decide)
    · exact absurd (hk.symm.trans h.1) (by decide)
    · exact absurd (hk.symm.trans h.1) (by decide)
    · exact h.2
    · exact absurd (hk.symm.trans h.1) (by decide)
    · exact absurd (hk.symm.trans h.1) (by decide)
  · exact fun h => .inr (.inr (.inr (.inr (.inr (.inr (.inr (.inl ⟨hk, h⟩)))))))
theorem formed_9 {v : Vt} (hk : v.k = 9) : Formed v ↔ Bare v true false false true ∧ (∀ x ∈ v.kids, x.k = 3) ∧ NumsOk v.n (v.kids.map Vt.n) := by
  unfold Formed
  constructor
  · rintro (h | h | h | h | h | h | h | h | h | h)
    · exact absurd (hk.symm.trans h.1) (by decide)
    · exact absurd (hk.symm.trans h.1) (by decide)
    · exact absurd (hk.symm.trans h.1) (by decide)
    · exact absurd (hk.symm.trans h.1) (by decide)
    · exact absurd (hk.symm.trans h.1) (by decide)
    · exact absurd (hk.symm.trans h.1) (by decide)
    · exact absurd (hk.symm.trans h.1) (by decide)
    · exact absurd (hk.symm.trans h.1) (by decide)
    · exact h.2
    · exact absurd (hk.symm.trans h.1) (by decide)
  · exact fun h => .inr (.inr (.inr (.inr (.inr (.inr (.inr (.inr (.inl ⟨hk, h⟩))))))))
theorem formed_10 {v : Vt} (hk : v.k = 10) : Formed v ↔ (v.s = ⟨#[]⟩ ∧ v.n = 0 ∧ v.keys.length = v.kids.length) ∧ KeysOk 1000000000 false v.keys ∧ ∀ x, x ∈ v.kids → x.k ≠ 10 := by
  unfold Formed
  constructor
  · rintro (h | h | h | h | h | h | h | h | h | h)
    · exact absurd (hk.symm.trans h.1) (by decide)
    · exact absurd (hk.symm.trans h.1) (by decide)
    · exact absurd (hk.symm.trans h.1) (by decide)
    · exact absurd (hk.symm.trans h.1) (by decide)
    · exact absurd (hk.symm.trans h.1) (by decide)
    · exact absurd (hk.symm.trans h.1) (by decide)
    · exact absurd (hk.symm.trans h.1) (by decide)
    · exact absurd (hk.symm.trans h.1) (by decide)
    · exact absurd (hk.symm.trans h.1) (by decide)
    · exact h.2
  · exact fun h => .inr (.inr (.inr (.inr (.inr (.inr (.inr (.inr (.inr (⟨hk, h⟩)))))))))
set_option maxHeartbeats 4000000 in
theorem formed_c (v : Vt) (s1 s2 : Value) (w : World) (hv : VAt w v s1 s2) : Rets ZP 139 #[vtV v s1 s2] w (YesQ (Formed v) w) := by
  obtain ⟨q1, c1, rfl, hd1, hd2⟩ := hv.ks.shape
  obtain ⟨q2, c2, rfl, hc1, hc2⟩ := hv.vs.shape
  obtain ⟨W, hW, A, x0⟩ := new_vt w v (.slice q1 v.keys.length c1) (.slice q2 v.kids.length c2)
  refine en139 ?_
  refine mwpB_cut 1 (fun e ds w' => e 1 = .pointer (some ⟨w.heap.size, 0, none⟩) ∧ ds = [] ∧ w' = W) ?_ ?_
  · simp -dsimp -implicitDefEqProofs only [headM_zero,headM_seq,vtV,hW,m139,sF139,ZA,↓reduceIte,ZB,ZC,ZJ,ZK,ZE,ZF,ZG,ZH,ZI,reduceCtorEq,ZD,mwV,↓mwD,mwU]
  clear hW
  rintro e ds w0 ⟨h1, rfl, rfl⟩
  have hxd := x0.trans (Ext.drew w0)
  obtain ⟨a0, a1, a2, a3, a4⟩ := bk_vt A (Ext.refl w0)
  simp -dsimp -implicitDefEqProofs only [tailM_zero,tailM_seq,h1,m139,sF139,ZA,↓reduceIte,ZB,ZC,ZJ,ZK,ZE,ZF,ZG,ZH,ZI,reduceCtorEq,ZD,mwV,↓mwD,mwU]
  refine mwpB_drawE ?_
  by_cases p1 : 1 ≤ v.k
  rotate_left
  · simp -dsimp -implicitDefEqProofs only [h1,a0,p1,m139,sF139,ZA,↓reduceIte,ZB,ZC,ZJ,ZK,ZE,ZF,ZG,ZH,ZI,reduceCtorEq,ZD,mwV,↓mwD,mwU]
    exact .no hxd (fun h => by have := h.kind; omega)
  by_cases p2 : v.k ≤ 10
  rotate_left
  · simp -dsimp -implicitDefEqProofs only [h1,a0,p1,p2,m139,sF139,ZA,↓reduceIte,ZB,ZC,ZJ,ZK,ZE,ZF,ZG,ZH,ZI,reduceCtorEq,ZD,mwV,↓mwD,mwU]
    exact .no hxd (fun h => by have := h.kind; omega)
  have hkb : (0 : Int) ≤ v.k ∧ v.k < 11 := by omega
  obtain ⟨g, hg, hgo, hfo⟩ : ∃ g, formT[v.k.toNat]? = some (.func (.func g) #[] #[]) ∧ okF ZP g = true ∧ ∀ w', VAt w' v (.slice q1 v.keys.length c1) (.slice q2 v.kids.length c2) → Rets ZP g #[vtV v (.slice q1 v.keys.length c1) (.slice q2 v.kids.length c2)] w' (YesQ (Formed v) w') := by
    have : v.k = 1 ∨ v.k = 2 ∨ v.k = 3 ∨ v.k = 4 ∨ v.k = 5 ∨ v.k = 6 ∨ v.k = 7 ∨ v.k = 8 ∨ v.k = 9 ∨ v.k = 10 := by omega
    rcases this with hk | hk | hk | hk | hk | hk | hk | hk | hk | hk
    · exact ⟨179, by rw [hk]; rfl, okF_179, fun w' hv' => by rw [formed_1 hk]; exact form1_c v _ _ w' hv'⟩
    · exact ⟨181, by rw [hk]; rfl, okF_181, fun w' hv' => by rw [formed_2 hk]; exact form2_c v _ _ w' hv'⟩
    · exact ⟨182, by rw [hk]; rfl, okF_182, fun w' hv' => by rw [formed_3 hk]; exact form3_c v _ _ w' hv'⟩
    · exact ⟨183, by rw [hk]; rfl, okF_183, fun w' hv' => by rw [formed_4 hk]; exact form4_c v _ _ w' hv'⟩
    · exact ⟨185, by rw [hk]; rfl, okF_185, fun w' hv' => by rw [formed_5 hk]; exact form5_c v _ _ w' hv'⟩
    · exact ⟨186, by rw [hk]; rfl, okF_186, fun w' hv' => by rw [formed_6 hk]; exact form6_c v _ _ w' hv'⟩
    · exact ⟨190, by rw [hk]; rfl, okF_190, fun w' hv' => by rw [formed_7 hk]; exact form7_c v _ _ w' hv'⟩
    · exact ⟨191, by rw [hk]; rfl, okF_191, fun w' hv' => by rw [formed_8 hk]; exact form8_c v _ _ w' hv'⟩
    · exact ⟨192, by rw [hk]; rfl, okF_192, fun w' hv' => by rw [formed_9 hk]; exact form9_c v _ _ w' hv'⟩
    · exact ⟨194, by rw [hk]; rfl, okF_194, fun w' hv' => by rw [formed_10 hk]; exact form10_c v _ _ w' hv'⟩
  have hed : Ext w0.drew w0.drew := Ext.refl _
  simp -dsimp -implicitDefEqProofs only [h1,a0,a1,a2,a3,a4,p1,p2,planEB_two,hed,m139,sF139,ZA,↓reduceIte,ZB,ZC,ZJ,ZK,ZE,ZF,ZG,ZH,ZI,reduceCtorEq,ZD,mwV,↓mwD,mwU]
  refine (forms_c _).use ?_
  rintro r w2 ⟨hx2, b, rfl, hcell⟩
  have hc := hcell _ _ hg
  simp -dsimp -implicitDefEqProofs only [hkb,and_self,hc,hgo,planEB_two,hx2,Nat.mul_one,Nat.zero_add,m139,sF139,ZA,↓reduceIte,ZB,ZC,ZJ,ZK,ZE,ZF,ZG,ZH,ZI,reduceCtorEq,ZD,mwV,↓mwD,mwU]
  refine (hfo w2 (hv.ext (hxd.trans hx2))).use ?_
  rintro r w3 ⟨hx3, y, rfl, hy⟩
  have hx23 := hx2.trans hx3
  simp -dsimp -implicitDefEqProofs only [hx23,m139,sF139,ZA,↓reduceIte,ZB,ZC,ZJ,ZK,ZE,ZF,ZG,ZH,ZI,reduceCtorEq,ZD,mwV,↓mwD,mwU]
  exact .mk' (hxd.trans hx23) hy
end Go.Proofs.YthcdnjbhhaonhaaGreatDoor

/- Layer 02: the reference's First, Numbers, list, lcm, greatest. -/
import Derived.Test.YthcdnjbhhaonhaaGreatDoorQgChRToChS

namespace Go.Proofs.YthcdnjbhhaonhaaGreatDoor
open Go.RowKit
open Nat renaming reduceEqDiff → ZA, reduceAdd → ZB, reduceMul → ZC, reduceSub → ZD
open Int renaming reduceToNat → ZE, reduceEq → ZF, reduceLT → ZG, reduceLE → ZH, reduceNeg → ZI
open Go.Value renaming oneCell' → ZK, cells → ZJ
set_option linter.unusedSimpArgs false
end Go.Proofs.YthcdnjbhhaonhaaGreatDoor
/- Layer 02: the reference's Numbers, list, lcm, greatest, wished. -/
namespace Go.Proofs.YthcdnjbhhaonhaaGreatDoor
open Go.RowKit
open Nat renaming reduceEqDiff → ZA, reduceAdd → ZB, reduceMul → ZC, reduceSub → ZD
open Int renaming reduceToNat → ZE, reduceEq → ZF, reduceLT → ZG, reduceLE → ZH, reduceNeg → ZI
open Go.Value renaming oneCell' → ZK, cells → ZJ
set_option linter.unusedSimpArgs false
theorem list_c (v : Value) (xs : List Int) (w : World) (h : SlI w v xs) : Rets Go.Proofs.Tryz.prog 100 #[v] w fun r w' => r = chV ⟨lstK xs, 0, xs⟩ v ∧ Ext w w' := by
 obtain ⟨q, cap, rfl, hc1, hc2⟩ := h.shape
 refine en100 ?_
 by_cases h1 : xs.length = 1
 · have e1 : (xs.length : Int) = 1 := by omega
   simp -dsimp -implicitDefEqProofs only [e1,bv_ch,setCell_new,m100,sF100,ZA,↓reduceIte,ZB,ZC,ZJ,ZK,ZE,ZF,ZG,ZH,ZI,reduceCtorEq,ZD,mwV,↓mwD,mwU]
   exact ⟨by simp [chV, lstK, h1], Ext.alloc _ _⟩
 · have e1 : ¬ (xs.length : Int) = 1 := by omega
   simp -dsimp -implicitDefEqProofs only [e1,bv_ch,setCell_new,m100,sF100,ZA,↓reduceIte,ZB,ZC,ZJ,ZK,ZE,ZF,ZG,ZH,ZI,reduceCtorEq,ZD,mwV,↓mwD,mwU]
   exact ⟨by simp [chV, lstK, h1], Ext.alloc _ _⟩
theorem lcm_c (x y : Nat) (w : World) (hx : 1 ≤ x) (hx2 : x ≤ 1000) (hy : 1 ≤ y) (hy2 : y ≤ 1000) : Rets Go.Proofs.Tryz.prog 101 #[.int .i64 x, .int .i64 y] w fun r w' => r = .int .i64 (Nat.lcm x y : Nat) ∧ w' = w := by
 refine en101 ?_
 simp -dsimp -implicitDefEqProofs only [m101,sF101,ZA,↓reduceIte,ZB,ZC,ZJ,ZK,ZE,ZF,ZG,ZH,ZI,reduceCtorEq,ZD,mwV,↓mwD,mwU]
 refine mwpB_loop (fun e ds w' => ∃ j : Nat, 1 ≤ j ∧ j ≤ y ∧ e 5 = .int .i64 ((j * x : Nat) : Int) ∧ e 0 = .int .i64 x ∧ e 1 = .int .i64 y ∧ ds = [] ∧ w' = w ∧ ∀ i, 1 ≤ i → i < j → ¬ y ∣ i * x) (fun e _ => x * y - (intOf (e 5)).toNat) ?_ ?_
 · simp -dsimp -implicitDefEqProofs only [m101,sF101,ZA,↓reduceIte,ZB,ZC,ZJ,ZK,ZE,ZF,ZG,ZH,ZI,reduceCtorEq,ZD,mwV,↓mwD,mwU]
   exact ⟨1, by omega, hy, by rw [Nat.one_mul], fun i h1 h2 => by omega⟩
 · rintro e ds w' ⟨j, hj, hjy, h5, h0, h1, rfl, rfl, hno⟩
   have hy0 : ¬ (y : Int) = 0 := by omega
   have ht : ((j * x : Nat) : Int).tmod (y : Int) = ((j * x % y : Nat) : Int) := rfl
   have hjx : j * x ≤ y * x := Nat.mul_le_mul_right x hjy
   have hyx : y * x ≤ 1000 * 1000 := Nat.mul_le_mul hy2 hx2
   have hxy : x * y = y * x := Nat.mul_comm _ _
   by_cases hd : j * x % y = 0
   · have hd' : ((j * x % y : Nat) : Int) = 0 := by omega
     simp -dsimp -implicitDefEqProofs only [h5,h0,h1,hy0,ht,not_false_eq_true,hd',m101,sF101,ZA,↓reduceIte,ZB,ZC,ZJ,ZK,ZE,ZF,ZG,ZH,ZI,reduceCtorEq,ZD,mwV,↓mwD,mwU]
     have hdv : y ∣ j * x := Nat.dvd_of_mod_eq_zero hd
     have l1 : Nat.lcm x y ∣ j * x := Nat.lcm_dvd (Nat.dvd_mul_left _ _) hdv
     have lp : 0 < Nat.lcm x y := Nat.lcm_pos (by omega) (by omega)
     have hp : 0 < j * x := Nat.mul_pos (by omega) (by omega)
     have l2 := Nat.le_of_dvd hp l1
     obtain ⟨i, hi⟩ := Nat.dvd_lcm_left x y
     have hi1 : 1 ≤ i := by
      cases i with
      | zero => omega
      | succ i => omega
     have l3 : j ≤ i := by
      by_cases h : j ≤ i
      · exact h
      · exact absurd (by rw [Nat.mul_comm, ← hi]; exact Nat.dvd_lcm_right x y) (hno i hi1 (by omega))
     have l4 : j * x ≤ i * x := Nat.mul_le_mul_right x l3
     rw [Nat.mul_comm i x, ← hi] at l4
     have : j * x = Nat.lcm x y := by omega
     rw [this]
   · have hd' : ¬ ((j * x % y : Nat) : Int) = 0 := by omega
     have hjlt : j < y := by
      by_cases h : j < y
      · exact h
      · obtain rfl : j = y := by omega
        exact absurd (Nat.mul_mod_right _ _) hd
     have h1x : (j + 1) * x ≤ y * x := Nat.mul_le_mul_right x hjlt
     have he : (j + 1) * x = j * x + x := Nat.succ_mul _ _
     have hw : IntKind.i64.wrap (((j * x : Nat) : Int) + (x : Int)) = (((j + 1) * x : Nat) : Int) := by rw [w64 (by omega) (by omega), he]; omega
     simp -dsimp -implicitDefEqProofs only [h5,h0,h1,hy0,ht,not_false_eq_true,hd',hw,m101,sF101,ZA,↓reduceIte,ZB,ZC,ZJ,ZK,ZE,ZF,ZG,ZH,ZI,reduceCtorEq,ZD,mwV,↓mwD,mwU]
     refine ⟨⟨j + 1, by omega, hjlt, rfl, fun i h1 h2 => ?_⟩, ?_⟩
     · by_cases hij : i = j
       · subst hij; exact fun h => hd (Nat.mod_eq_zero_of_dvd h)
       · exact hno i h1 (by omega)
     · simp only [intOf]; omega
def grt (c : Ch) : Int := c.lo + (c.hi - c.lo) / c.stp * c.stp
theorem refGreatest_c (c : Ch) (s : Value) (w : World) (hs : SlI w s c.L) (hr : Rg c) (hk : c.k = 3 ∧ c.L.length = 2 ∨ c.k = 4 ∧ c.L.length = 3) : Rets Go.Proofs.Tryz.prog 102 #[chV c s] w fun r w' => r = .int .i64 (grt c) ∧ Ext w w' := by
 obtain ⟨p, cap, rfl, hc1, hc2⟩ := hs.shape
 have hx0 : Ext w (w.alloc (.cells #[.int .i64 c.k, .int .i64 c.d, .slice p c.L.length cap] 35)) := Ext.alloc _ _
 have hB : Bk (w.alloc (.cells #[.int .i64 c.k, .int .i64 c.d, .slice p c.L.length cap] 35)) w.heap.size [.int .i64 c.k, .int .i64 c.d, .slice p c.L.length cap] 35 := Bk.new _ _ _
 have l0 := hr.l0
 have l1 := hr.l1
 have l2 := hr.l2
 have s0 := hr.s0
 have s1 := hr.s1
 have hlen : 2 ≤ c.L.length := by omega
 have h3 : c.k = 4 → 3 ≤ c.L.length := by omega
 obtain ⟨b, o, cap', hv', _, _, hcell⟩ := hs.at (by intro e; rw [e] at hlen; simp at hlen)
 cases hv'
 have e0 : c.lo = c.L[0] := getD_get (by omega)
 have e1 : c.hi = c.L[1] := getD_get (by omega)
 have q0 := hx0.cell (hcell 0 (by omega))
 have q1 := hx0.cell (hcell 1 (by omega))
 simp only [Nat.add_zero] at q0
 rw [← e0] at q0
 rw [← e1] at q1
 have b0 : (0 : Int) < (c.L.length : Int) := by omega
 have b1 : (1 : Int) < (c.L.length : Int) := by omega
 have B0 := hB.get (o := 0) rfl
 have B1 := hB.get (o := 1) rfl
 have B2 := hB.get (o := 2) rfl
 refine en102 ?_
 simp -dsimp -implicitDefEqProofs only [chV,m102,sF102,ZA,↓reduceIte,ZB,ZC,ZJ,ZK,ZE,ZF,ZG,ZH,ZI,reduceCtorEq,ZD,mwV,↓mwD,mwU]
 generalize w.alloc (.cells #[.int .i64 c.k, .int .i64 c.d, .slice (some ⟨b, o, none⟩) c.L.length cap] 35) = W at *
 refine mwpB_drawE ?_
 simp -dsimp -implicitDefEqProofs only [B0,B1,B2,q0,q1,b0,b1,m102,sF102,ZA,↓reduceIte,ZB,ZC,ZJ,ZK,ZE,ZF,ZG,ZH,ZI,reduceCtorEq,ZD,mwV,↓mwD,mwU]
 refine (step_c c _ W.drew (hs.ext (hx0.trans (Ext.drew _))) h3).use ?_
 rintro r w2 ⟨rfl, hx2⟩
 have hs0 : ¬ c.stp = 0 := by omega
 have hq0 : 0 ≤ (c.hi - c.lo) / c.stp := Int.ediv_nonneg (by omega) (by omega)
 have hq1 : 0 ≤ (c.hi - c.lo) / c.stp * c.stp := Int.mul_nonneg hq0 (by omega)
 have hq2 : (c.hi - c.lo) / c.stp * c.stp ≤ c.hi - c.lo := Int.ediv_mul_le _ (by omega)
 have hq3 : (c.hi - c.lo) / c.stp ≤ c.hi - c.lo := Int.ediv_le_self _ (by omega)
 have v1 : IntKind.i64.wrap (c.hi - c.lo) = c.hi - c.lo := w64 (by omega) (by omega)
 have v2 : (c.hi - c.lo).tdiv c.stp = (c.hi - c.lo) / c.stp := Int.tdiv_eq_ediv_of_nonneg (by omega)
 have v3 : IntKind.i64.wrap ((c.hi - c.lo) / c.stp) = (c.hi - c.lo) / c.stp := w64 (by omega) (by omega)
 have v4 : IntKind.i64.wrap ((c.hi - c.lo) / c.stp * c.stp) = (c.hi - c.lo) / c.stp * c.stp := w64 (by omega) (by omega)
 have v5 : IntKind.i64.wrap (c.lo + (c.hi - c.lo) / c.stp * c.stp) = c.lo + (c.hi - c.lo) / c.stp * c.stp := w64 (by omega) (by omega)
 simp -dsimp -implicitDefEqProofs only [hx2,hs0,not_false_eq_true,v1,v2,v3,m102,sF102,ZA,↓reduceIte,ZB,ZC,ZJ,ZK,ZE,ZF,ZG,ZH,ZI,reduceCtorEq,ZD,mwV,↓mwD,mwU]
 refine (step_c c _ w2 (hs.ext (hx0.trans ((Ext.drew _).trans hx2))) h3).use ?_
 rintro r w3 ⟨rfl, hx3⟩
 have hx23 := hx2.trans hx3
 simp -dsimp -implicitDefEqProofs only [hx23,v4,v5,m102,sF102,ZA,↓reduceIte,ZB,ZC,ZJ,ZK,ZE,ZF,ZG,ZH,ZI,reduceCtorEq,ZD,mwV,↓mwD,mwU]
 exact ⟨rfl, hx0.trans ((Ext.drew _).trans hx23)⟩
end Go.Proofs.YthcdnjbhhaonhaaGreatDoor
/- Layer 02: the reference's wished. -/
namespace Go.Proofs.YthcdnjbhhaonhaaGreatDoor
open Go.RowKit
open Nat renaming reduceEqDiff → ZA, reduceAdd → ZB, reduceMul → ZC, reduceSub → ZD
open Int renaming reduceToNat → ZE, reduceEq → ZF, reduceLT → ZG, reduceLE → ZH, reduceNeg → ZI
open Go.Value renaming oneCell' → ZK, cells → ZJ
set_option linter.unusedSimpArgs false
theorem wished_c (K d0 : Int) (L : List Int) (a b : Ch) (so sa sb : Value) (w : World) (hs : SlI w so L) (hf : Fit ⟨K, d0, L⟩) (hne : 1 ≤ L.length) (qa qb : Option Addr) (na ca nb cb : Nat) (ea : sa = .slice qa na ca) (eb : sb = .slice qb nb cb) :
 Rets Go.Proofs.Tryz.prog 99 #[chV ⟨K, d0, L⟩ so, chV a sa, chV b sb] w fun r w' => r = chV (wish K L a.d b.d) so ∧ Ext w w' := by
 subst ea eb
 obtain ⟨p, cap, rfl, hc1, hc2⟩ := hs.shape
 obtain ⟨W, hW, hxW, hsW, BO, BA, BB, BR⟩ : ∃ W, W = (((w.alloc (.cells #[.int .i64 K, .int .i64 d0, .slice p L.length cap] 35)).alloc (.cells #[.int .i64 a.k, .int .i64 a.d, .slice qa na ca] 35)).alloc (.cells #[.int .i64 b.k, .int .i64 b.d, .slice qb nb cb] 35)).alloc (.cells #[.int .i64 0, .int .i64 0, .slice none 0 0] 35) ∧ Ext w W ∧ W.heap.size = w.heap.size + 4 ∧
  Bk W w.heap.size [.int .i64 K, .int .i64 d0, .slice p L.length cap] 35 ∧ Bk W (w.heap.size + 1) [.int .i64 a.k, .int .i64 a.d, .slice qa na ca] 35 ∧ Bk W (w.heap.size + 2) [.int .i64 b.k, .int .i64 b.d, .slice qb nb cb] 35 ∧ Bk W (w.heap.size + 3) [.int .i64 0, .int .i64 0, .slice none 0 0] 35 := by
  refine ⟨_, rfl, (((Ext.alloc _ _).trans (Ext.alloc _ _)).trans (Ext.alloc _ _)).trans (Ext.alloc _ _), by simp only [World.size_alloc], ?_, ?_, ?_, ?_⟩
  · exact (((Bk.new w [.int .i64 K, .int .i64 d0, .slice p L.length cap] _).ext (Ext.alloc _ _)).ext (Ext.alloc _ _)).ext (Ext.alloc _ _)
  · have := ((Bk.new (w.alloc (.cells #[.int .i64 K, .int .i64 d0, .slice p L.length cap] 35)) [.int .i64 a.k, .int .i64 a.d, .slice qa na ca] 35).ext (Ext.alloc _ (.cells #[.int .i64 b.k, .int .i64 b.d, .slice qb nb cb] 35))).ext (Ext.alloc _ (.cells #[.int .i64 0, .int .i64 0, .slice none 0 0] 35))
    rw [World.size_alloc] at this
    exact this
  · have := (Bk.new ((w.alloc (.cells #[.int .i64 K, .int .i64 d0, .slice p L.length cap] 35)).alloc (.cells #[.int .i64 a.k, .int .i64 a.d, .slice qa na ca] 35)) [.int .i64 b.k, .int .i64 b.d, .slice qb nb cb] 35).ext (Ext.alloc _ (.cells #[.int .i64 0, .int .i64 0, .slice none 0 0] 35))
    rw [World.size_alloc, World.size_alloc] at this
    exact this
  · have := Bk.new (((w.alloc (.cells #[.int .i64 K, .int .i64 d0, .slice p L.length cap] 35)).alloc (.cells #[.int .i64 a.k, .int .i64 a.d, .slice qa na ca] 35)).alloc (.cells #[.int .i64 b.k, .int .i64 b.d, .slice qb nb cb] 35)) [.int .i64 0, .int .i64 0, .slice none 0 0] 35
    rw [World.size_alloc, World.size_alloc, World.size_alloc] at this
    exact this
 have O0 := BO.get (o := 0) rfl
 have O1 := BO.get (o := 1) rfl
 have O2 := BO.get (o := 2) rfl
 have A1 := BA.get (o := 1) rfl
 -- a default is written, then the whole is handed out
 have fin : ∀ (w5 : World) (hx5 : Ext W w5) (d : Int), (∃ x, w5.cell? ⟨w.heap.size, 1, none⟩ = some x) ∧ w5.frozen? ⟨w.heap.size, 1, none⟩ = false ∧
  (w5.setCell ⟨w.heap.size, 1, none⟩ (.int .i64 d)).cell? ⟨w.heap.size, 0, none⟩ = some (.int .i64 K) ∧ (w5.setCell ⟨w.heap.size, 1, none⟩ (.int .i64 d)).cell? ⟨w.heap.size, 1, none⟩ = some (.int .i64 d) ∧ (w5.setCell ⟨w.heap.size, 1, none⟩ (.int .i64 d)).cell? ⟨w.heap.size, 2, none⟩ = some (.slice p L.length cap) ∧
  Put3 (w5.setCell ⟨w.heap.size, 1, none⟩ (.int .i64 d)) (w.heap.size + 3) (.int .i64 K) (.int .i64 d) (.slice p L.length cap) 35 ∧
  Ext w ((((w5.setCell ⟨w.heap.size, 1, none⟩ (.int .i64 d)).setCell ⟨w.heap.size + 3, 0, none⟩ (.int .i64 K)).setCell ⟨w.heap.size + 3, 1, none⟩ (.int .i64 d)).setCell ⟨w.heap.size + 3, 2, none⟩ (.slice p L.length cap)) := fun w5 hx5 d => by
  have h5 := BO.ext hx5
  have h6 := h5.set 1 (.int .i64 d)
  exact ⟨⟨_, h5.get (o := 1) rfl⟩, h5.frozen 1, h6.get (o := 0) rfl, h6.get (o := 1) rfl, h6.get (o := 2) rfl, put3 ((BR.ext hx5).ne (by omega) 1 _) _ _ _, ((hxW.trans hx5).setCell (by simp only; omega) _).set3 (by omega) _ _ _⟩
 refine en99 ?_
 simp -dsimp -implicitDefEqProofs only [chV,World.size_alloc,Nat.add_assoc,← hW,O0,O1,O2,A1,m99,sF99,ZA,↓reduceIte,ZB,ZC,ZJ,ZK,ZE,ZF,ZG,ZH,ZI,reduceCtorEq,ZD,mwV,↓mwD,mwU]
 refine (Has1_c ⟨K, d0, L⟩ (.slice p L.length cap) a.d W (hs.ext hxW) hf).use ?_
 rintro r w1 ⟨rfl, hx1⟩
 have hka : (Ch.mk K d0 L).has a.d = (Ch.mk K 0 L).has a.d := has_kL rfl rfl _
 have hkb : (Ch.mk K d0 L).has b.d = (Ch.mk K 0 L).has b.d := has_kL rfl rfl _
 rw [hka]
 cases ha : (Ch.mk K 0 L).has a.d
 · have O0' := (BO.ext hx1).get (o := 0) rfl
   have O1' := (BO.ext hx1).get (o := 1) rfl
   have O2' := (BO.ext hx1).get (o := 2) rfl
   have B1' := (BB.ext hx1).get (o := 1) rfl
   simp -dsimp -implicitDefEqProofs only [World.size_alloc,Nat.add_assoc,O0',O1',O2',B1',m99,sF99,ZA,↓reduceIte,ZB,ZC,ZJ,ZK,ZE,ZF,ZG,ZH,ZI,reduceCtorEq,ZD,mwV,↓mwD,mwU]
   refine (Has1_c ⟨K, d0, L⟩ (.slice p L.length cap) b.d w1 (hs.ext (hxW.trans hx1)) hf).use ?_
   rintro r w2 ⟨rfl, hx2⟩
   rw [hkb]
   have hx12 := hx1.trans hx2
   cases hb : (Ch.mk K 0 L).has b.d
   · obtain ⟨g, o, cg, hv', _, _, hcell⟩ := hs.at (by intro e; rw [e] at hne; simp at hne)
     cases hv'
     have l0 := (hxW.trans hx12).cell (hcell 0 (by omega))
     simp only [Nat.add_zero] at l0
     have b0 : (0 : Int) < (L.length : Int) := by omega
     have Q2 := (BO.ext hx12).get (o := 2) rfl
     obtain ⟨⟨_, n1⟩, nz, m0, m1, m2, hP, hend⟩ := fin w2 hx12 L[0]
     obtain ⟨y0, c0⟩ := hP.c0
     obtain ⟨y1, c1⟩ := hP.c1
     obtain ⟨y2, c2⟩ := hP.c2
     have z0 := hP.z0
     have z1 := hP.z1
     have z2 := hP.z2
     have k0 := hP.bk.get (o := 0) rfl
     have k1 := hP.bk.get (o := 1) rfl
     have k2 := hP.bk.get (o := 2) rfl
     simp -dsimp -implicitDefEqProofs only [World.size_alloc,Nat.add_assoc,Q2,l0,b0,n1,nz,m0,m1,m2,c0,c1,c2,z0,z1,z2,k0,k1,k2,m99,sF99,ZA,↓reduceIte,ZB,ZC,ZJ,ZK,ZE,ZF,ZG,ZH,ZI,reduceCtorEq,ZD,mwV,↓mwD,mwU]
     refine ⟨?_, hend⟩
     have e0 : L.getD 0 0 = L[0] := getD_get (by omega)
     simp only [wish,ha,hb,e0]
     rfl
   · have B1'' := (BB.ext hx12).get (o := 1) rfl
     obtain ⟨⟨_, n1⟩, nz, m0, m1, m2, hP, hend⟩ := fin w2 hx12 b.d
     obtain ⟨y0, c0⟩ := hP.c0
     obtain ⟨y1, c1⟩ := hP.c1
     obtain ⟨y2, c2⟩ := hP.c2
     have z0 := hP.z0
     have z1 := hP.z1
     have z2 := hP.z2
     have k0 := hP.bk.get (o := 0) rfl
     have k1 := hP.bk.get (o := 1) rfl
     have k2 := hP.bk.get (o := 2) rfl
     simp -dsimp -implicitDefEqProofs only [World.size_alloc,Nat.add_assoc,B1'',n1,nz,m0,m1,m2,c0,c1,c2,z0,z1,z2,k0,k1,k2,m99,sF99,ZA,↓reduceIte,ZB,ZC,ZJ,ZK,ZE,ZF,ZG,ZH,ZI,reduceCtorEq,ZD,mwV,↓mwD,mwU]
     refine ⟨?_, hend⟩
     simp only [wish,ha,hb]
     rfl
 · have A1' := (BA.ext hx1).get (o := 1) rfl
   obtain ⟨⟨_, n1⟩, nz, m0, m1, m2, hP, hend⟩ := fin w1 hx1 a.d
   obtain ⟨y0, c0⟩ := hP.c0
   obtain ⟨y1, c1⟩ := hP.c1
   obtain ⟨y2, c2⟩ := hP.c2
   have z0 := hP.z0
   have z1 := hP.z1
   have z2 := hP.z2
   have k0 := hP.bk.get (o := 0) rfl
   have k1 := hP.bk.get (o := 1) rfl
   have k2 := hP.bk.get (o := 2) rfl
   simp -dsimp -implicitDefEqProofs only [World.size_alloc,Nat.add_assoc,A1',n1,nz,m0,m1,m2,c0,c1,c2,z0,z1,z2,k0,k1,k2,m99,sF99,ZA,↓reduceIte,ZB,ZC,ZJ,ZK,ZE,ZF,ZG,ZH,ZI,reduceCtorEq,ZD,mwV,↓mwD,mwU]
   refine ⟨?_, hend⟩
   simp only [wish,ha]
   rfl
end Go.Proofs.YthcdnjbhhaonhaaGreatDoor
/- Layer 02: the reference's Met, for ranges. -/
namespace Go.Proofs.YthcdnjbhhaonhaaGreatDoor
open Go.RowKit
open Nat renaming reduceEqDiff → ZA, reduceAdd → ZB, reduceMul → ZC, reduceSub → ZD
open Int renaming reduceToNat → ZE, reduceEq → ZF, reduceLT → ZG, reduceLE → ZH, reduceNeg → ZI
open Go.Value renaming oneCell' → ZK, cells → ZJ
set_option linter.unusedSimpArgs false
section
variable {P : Program} {e : Env} {ds : List Deferred} {w : World} {N : Env → List Deferred → World → Prop} {E : Nat → Env → List Deferred → World → Prop} {R : Env → List Deferred → World → Prop} {Y : Env → List PanicEntry → List Deferred → World → Prop}
theorem mwpB_exitMid {A : MC} {t} (id : Nat) (J : Env → List Deferred → World → Prop) (h2 : ∀ e ds w, J e ds w → E id e ds w) (h1 : mwpB P A e ds w N (fun i e ds w => if i = id then J e ds w else E i e ds w) R Y ⟨⟩) : mwpB P A e ds w N E R Y t := by
 unfold mwpB at h1 ⊢
 exact mwp_mono A _ _ _ _ _ _ _ (fun _ _ _ h => h) (fun i e ds w h => by
  split at h
  · rename_i hi; subst hi; exact h2 _ _ _ h
  · exact h) h1
end
theorem both_grt {a b : Ch} (ha : Rg a) (hb : Rg b) {n : Int} (h : both a b n = true) : n ≤ min (grt a) (grt b) := by
 obtain ⟨⟨a1, a2, a3⟩, b1, b2, b3⟩ := (both_iff ha hb).1 h
 have one : ∀ {c : Ch}, Rg c → c.lo ≤ n → n ≤ c.hi → c.stp ∣ n - c.lo → n ≤ grt c := fun {c} hc h1 h2 h3 => by
  obtain ⟨k, hk⟩ := h3
  have hs := hc.s0
  have : k ≤ (c.hi - c.lo) / c.stp := by
   rw [Int.le_ediv_iff_mul_le (by omega), Int.mul_comm, ← hk]
   omega
  have h4 : k * c.stp ≤ (c.hi - c.lo) / c.stp * c.stp := Int.mul_le_mul_of_nonneg_right this (by omega)
  unfold grt
  rw [Int.mul_comm] at hk
  omega
 have := one ha a1 a2 a3
 have := one hb b1 b2 b3
 omega
theorem grt_le {c : Ch} (h : Rg c) : c.lo ≤ grt c ∧ grt c ≤ c.hi := by
 have hs := h.s0
 have h1 := h.l1
 have h2 : 0 ≤ (c.hi - c.lo) / c.stp * c.stp := Int.mul_nonneg (Int.ediv_nonneg (by omega) (by omega)) (by omega)
 have h3 : (c.hi - c.lo) / c.stp * c.stp ≤ c.hi - c.lo := Int.ediv_mul_le _ (by omega)
 unfold grt
 omega
theorem cnt_grt {a b : Ch} (ha : Rg a) (hb : Rg b) {f : Int} (hf : FirstIs a b (some f)) : ((cntO a b f : Nat) : Int) = (min (grt a) (grt b) - f) / byO a b + 1 := by
 obtain ⟨c1, c2, c3⟩ := cnt_pos ha hb hf
 have hp := by_pos ha hb
 have ga := grt_le ha
 have gb := grt_le hb
 have hlast : both a b (f + ((cntO a b f : Int) - 1) * byO a b) = true := (both_seq ha hb hf).2 (seqL_mem.2 ⟨cntO a b f - 1, by omega, by rw [show ((cntO a b f - 1 : Nat) : Int) = (cntO a b f : Int) - 1 by omega]⟩)
 have h1 := both_grt ha hb hlast
 have h2 : (min (grt a) (grt b) - f) / byO a b = (cntO a b f : Int) - 1 := by
  apply Int.le_antisymm
  · have : (min (grt a) (grt b) - f) / byO a b < (cntO a b f : Int) := by
     rw [Int.ediv_lt_iff_lt_mul (by omega)]
     omega
    omega
  · rw [Int.le_ediv_iff_mul_le (by omega)]
    omega
 omega
set_option maxHeartbeats 4000000 in
theorem MetR_c (a b : Ch) (sa sb : Value) (w : World) (hl : (a.lsd || b.lsd) = false) (va : a.valid = true) (vb : b.valid = true) (ha : SlI w sa a.L) (hb : SlI w sb b.L) :
 Rets Go.Proofs.Tryz.prog 69 #[chV a sa, chV b sb] w fun r w' => Ext w w' ∧ ∃ o, Met a b o ∧ match o with
  | none => r = .tuple #[.agg #[.int .i64 0, .int .i64 0, .slice none 0 0], .bool false]
  | some c => ∃ v, r = .tuple #[chV c v, .bool true] ∧ w'.ownsRow w.heap.size 3 1 v c.L.length (ints c.L) := by
 have fa := valid_fit va
 have fb := valid_fit vb
 have na := valid_len va
 have nb := valid_len vb
 obtain ⟨W, hW, h⟩ : ∃ W, W = ((w.alloc (.cells #[.int .i64 a.k, .int .i64 a.d, sa] 35)).alloc (.cells #[.int .i64 b.k, .int .i64 b.d, sb] 35)).alloc (.cells #[.int .i64 0, .int .i64 0, .slice none 0 0] 35) ∧ Own3 a b sa sb w W := by
  refine ⟨_, rfl, ((Ext.alloc _ _).trans (Ext.alloc _ _)).trans (Ext.alloc _ _), by simp only [World.size_alloc]; omega, ?_, ?_, ?_⟩
  · exact ((Bk.new w (cellsOf a sa) _).ext (Ext.alloc _ _)).ext (Ext.alloc _ _)
  · have := (Bk.new (w.alloc (.cells #[.int .i64 a.k, .int .i64 a.d, sa] 35)) (cellsOf b sb) 35).ext (Ext.alloc _ (.cells #[.int .i64 0, .int .i64 0, .slice none 0 0] 35))
    rw [World.size_alloc] at this
    exact this
  · have := Bk.new ((w.alloc (.cells #[.int .i64 a.k, .int .i64 a.d, sa] 35)).alloc (.cells #[.int .i64 b.k, .int .i64 b.d, sb] 35)) [.int .i64 0, .int .i64 0, .slice none 0 0] 35
    rw [World.size_alloc, World.size_alloc] at this
    exact this
 obtain ⟨pa, ca, rfl, _, _⟩ := ha.shape
 obtain ⟨pb, cb, rfl, _, _⟩ := hb.shape
 have A0 := h.A.get (o := 0) rfl
 have A1 := h.A.get (o := 1) rfl
 have A2 := h.A.get (o := 2) rfl
 refine en69 ?_
 -- the first statements: the boxes, and whether one of both is a list
 refine mwpB_cut 1 (fun e ds w' => e 2 = .pointer (some ⟨w.heap.size, 0, none⟩) ∧ e 3 = .pointer (some ⟨w.heap.size + 1, 0, none⟩) ∧ e 4 = .pointer (some ⟨w.heap.size + 2, 0, none⟩) ∧ ds = [] ∧ w' = W) ?_ ?_
 · simp -dsimp -implicitDefEqProofs only [chV,headM_zero,headM_seq,World.size_alloc,Nat.add_assoc,← hW,m69,sF69,ZA,↓reduceIte,ZB,ZC,ZJ,ZK,ZE,ZF,ZG,ZH,ZI,reduceCtorEq,ZD,mwV,↓mwD,mwU]
 · clear hW
   rintro e ds w0 ⟨h2, h3, h4, rfl, rfl⟩
   simp only [m69,tailM_seq,tailM_zero,mwpB_seq]
   refine mwpB_mid (fun e' ds w' => e' 2 = e 2 ∧ e' 3 = e 3 ∧ e' 4 = e 4 ∧ e' 23 = .bool (a.lsd || b.lsd) ∧ ds = [] ∧ Own3 a b (.slice pa a.L.length ca) (.slice pb b.L.length cb) w w') ?_ ?_
   · simp -dsimp -implicitDefEqProofs only [h2,h3,h4,A0,A1,A2,m69,sF69,ZA,↓reduceIte,ZB,ZC,ZJ,ZK,ZE,ZF,ZG,ZH,ZI,reduceCtorEq,ZD,mwV,↓mwD,mwU]
     refine (refListed_c a _ w0).use ?_
     rintro r w1 ⟨rfl, hx1⟩
     have h1 := h.next hx1
     have B0 := h1.B.get (o := 0) rfl
     have B1 := h1.B.get (o := 1) rfl
     have B2 := h1.B.get (o := 2) rfl
     cases la : a.lsd
     · simp -dsimp -implicitDefEqProofs only [h2,h3,h4,B0,B1,B2,m69,sF69,ZA,↓reduceIte,ZB,ZC,ZJ,ZK,ZE,ZF,ZG,ZH,ZI,reduceCtorEq,ZD,mwV,↓mwD,mwU]
       refine (refListed_c b _ w1).use ?_
       rintro r w2 ⟨rfl, hx2⟩
       simp -dsimp -implicitDefEqProofs only [h2,h3,h4,m69,sF69,ZA,↓reduceIte,ZB,ZC,ZJ,ZK,ZE,ZF,ZG,ZH,ZI,reduceCtorEq,ZD,mwV,↓mwD,mwU]
       exact ⟨rfl, h1.next hx2⟩
     · simp -dsimp -implicitDefEqProofs only [h2,h3,h4,m69,sF69,ZA,↓reduceIte,ZB,ZC,ZJ,ZK,ZE,ZF,ZG,ZH,ZI,reduceCtorEq,ZD,mwV,↓mwD,mwU]
       exact ⟨rfl, h1⟩
   rintro e1 ds w1 ⟨q2, q3, q4, h23, rfl, hown⟩
   rw [h2] at q2
   rw [h3] at q3
   rw [h4] at q4
   clear h2 h3 h4 h A0 A1 A2
   have h2 := q2
   have h3 := q3
   have h4 := q4
   clear q2 q3 q4
   have A0 := hown.A.get (o := 0) rfl
   have A1 := hown.A.get (o := 1) rfl
   have A2 := hown.A.get (o := 2) rfl
   have B0 := hown.B.get (o := 0) rfl
   have B1 := hown.B.get (o := 1) rfl
   have B2 := hown.B.get (o := 2) rfl
   obtain ⟨la, lb⟩ : a.lsd = false ∧ b.lsd = false := by simpa using hl
   obtain ⟨ra, ka⟩ := fit_range fa la
   obtain ⟨rb, kb⟩ := fit_range fb lb
   have a0 := ra.l0
   have a1 := ra.l1
   have a2 := ra.l2
   have a3 := ra.s0
   have a4 := ra.s1
   have b0 := rb.l0
   have b1 := rb.l1
   have b2 := rb.l2
   have b3 := rb.s0
   have b4 := rb.s1
   have ea : ((a.stp.toNat : Nat) : Int) = a.stp := Int.toNat_of_nonneg (by omega)
   have eb : ((b.stp.toNat : Nat) : Int) = b.stp := Int.toNat_of_nonneg (by omega)
   rw [hl] at h23
   simp -dsimp -implicitDefEqProofs only [h2,h3,h4,h23,m69,sF69,ZA,↓reduceIte,ZB,ZC,ZJ,ZK,ZE,ZF,ZG,ZH,ZI,reduceCtorEq,ZD,mwV,↓mwD,mwU]
   refine mwpB_drawE ?_
   simp -dsimp -implicitDefEqProofs only [h2,h3,h4,A0,A1,A2,B0,B1,B2,m69,sF69,ZA,↓reduceIte,ZB,ZC,ZJ,ZK,ZE,ZF,ZG,ZH,ZI,reduceCtorEq,ZD,mwV,↓mwD,mwU]
   refine (step_c a _ w1.drew (ha.ext (hown.ext.trans (Ext.drew _))) (by omega)).use ?_
   rintro r w2 ⟨rfl, hx2⟩
   simp -dsimp -implicitDefEqProofs only [hx2,m69,sF69,ZA,↓reduceIte,ZB,ZC,ZJ,ZK,ZE,ZF,ZG,ZH,ZI,reduceCtorEq,ZD,mwV,↓mwD,mwU]
   refine (step_c b _ w2 (hb.ext (hown.ext.trans ((Ext.drew _).trans hx2))) (by omega)).use ?_
   rintro r w3 ⟨rfl, hx3⟩
   have hx23 := hx2.trans hx3
   have hlc := lcm_c a.stp.toNat b.stp.toNat w3 (by omega) (by omega) (by omega) (by omega)
   rw [ea, eb, show ((Nat.lcm a.stp.toNat b.stp.toNat : Nat) : Int) = byO a b from rfl] at hlc
   simp -dsimp -implicitDefEqProofs only [hx23,m69,sF69,ZA,↓reduceIte,ZB,ZC,ZJ,ZK,ZE,ZF,ZG,ZH,ZI,reduceCtorEq,ZD,mwV,↓mwD,mwU]
   refine hlc.use ?_
   rintro r w4 ⟨rfl, rfl⟩
   have own4 := hown.next ((Ext.drew _).trans hx23)
   simp -dsimp -implicitDefEqProofs only [hx23,m69,sF69,ZA,↓reduceIte,ZB,ZC,ZJ,ZK,ZE,ZF,ZG,ZH,ZI,reduceCtorEq,ZD,mwV,↓mwD,mwU]
   refine mwpB_drawE ?_
   have A0' := own4.A.get (o := 0) rfl
   have A1' := own4.A.get (o := 1) rfl
   have A2' := own4.A.get (o := 2) rfl
   have B0' := own4.B.get (o := 0) rfl
   have B1' := own4.B.get (o := 1) rfl
   have B2' := own4.B.get (o := 2) rfl
   have hla : 2 ≤ a.L.length := by omega
   have hlb : 2 ≤ b.L.length := by omega
   obtain ⟨ba, oa, ca', hva, _, _, hca⟩ := ha.at (by intro e; rw [e] at hla; simp at hla)
   obtain ⟨bb, ob, cb', hvb, _, _, hcb⟩ := hb.at (by intro e; rw [e] at hlb; simp at hlb)
   simp only [Value.slice.injEq] at hva hvb
   obtain ⟨rfl, _, rfl⟩ := hva
   obtain ⟨rfl, _, rfl⟩ := hvb
   have qa := own4.ext.cell (hca 0 (by omega))
   have qb := own4.ext.cell (hcb 0 (by omega))
   simp only [Nat.add_zero] at qa qb
   rw [← show a.lo = a.L[0] from getD_get (by omega)] at qa
   rw [← show b.lo = b.L[0] from getD_get (by omega)] at qb
   have la0 : (0 : Int) < (a.L.length : Int) := by omega
   have lb0 : (0 : Int) < (b.L.length : Int) := by omega
   have emax : (if a.lo < b.lo then b.lo else a.lo) = max a.lo b.lo := by split <;> omega
   have emin : (if grt b < grt a then grt b else grt a) = min (grt a) (grt b) := by split <;> omega
   simp -dsimp -implicitDefEqProofs only [h2,h3,h4,A0',A1',A2',B0',B1',B2',qa,qb,la0,lb0,emax,m69,sF69,ZA,↓reduceIte,ZB,ZC,ZJ,ZK,ZE,ZF,ZG,ZH,ZI,reduceCtorEq,ZD,mwV,↓mwD,mwU]
   refine (refGreatest_c a _ _ (ha.ext (own4.ext.trans (Ext.drew _))) ra ka).use ?_
   rintro r w5 ⟨rfl, hx5⟩
   simp -dsimp -implicitDefEqProofs only [hx5,m69,sF69,ZA,↓reduceIte,ZB,ZC,ZJ,ZK,ZE,ZF,ZG,ZH,ZI,reduceCtorEq,ZD,mwV,↓mwD,mwU]
   refine (refGreatest_c b _ w5 (hb.ext (own4.ext.trans ((Ext.drew _).trans hx5))) rb kb).use ?_
   rintro r w6 ⟨rfl, hx6⟩
   have hx56 := hx5.trans hx6
   have own6 := own4.next ((Ext.drew _).trans hx56)
   simp -dsimp -implicitDefEqProofs only [hx56,emin,m69,sF69,ZA,↓reduceIte,ZB,ZC,ZJ,ZK,ZE,ZF,ZG,ZH,ZI,reduceCtorEq,ZD,mwV,↓mwD,mwU]
   have hbyp := by_pos ra rb
   have hbyl := by_le ra rb
   have hss : a.stp * b.stp ≤ 1000 * 1000 := Int.mul_le_mul (by omega) (by omega) (by omega) (by omega)
   have ga := grt_le ra
   have gb := grt_le rb
   refine mwpB_exitMid 2 (fun e' ds w' => e' 2 = .pointer (some ⟨w.heap.size, 0, none⟩) ∧ e' 3 = .pointer (some ⟨w.heap.size + 1, 0, none⟩) ∧ e' 4 = .pointer (some ⟨w.heap.size + 2, 0, none⟩) ∧ e' 10 = .int .i64 (byO a b) ∧ e' 12 = .int .i64 (min (grt a) (grt b)) ∧ ds = [] ∧ Own3 a b (.slice (some ⟨ba, oa, none⟩) a.L.length ca) (.slice (some ⟨bb, ob, none⟩) b.L.length cb) w w' ∧
    ∃ f, FirstIs a b f ∧ e' 13 = .int .i64 (f.getD (-1))) ?_ ?_
   · rintro e7 ds w7 ⟨m2, m3, m4, m10, m12, rfl, own7, f, hf, m13⟩
     have hmet : Met a b (f.map fun f => wish (metR a b f).1 (metR a b f).2 a.d b.d) := by unfold Met; rw [if_neg (by simp [hl])]; exact ⟨f, hf, rfl⟩
     cases f with
     | none =>
      simp only [Option.getD_none] at m13
      have hP := put3 own7.C (.int .i64 0) (.int .i64 0) (.slice none 0 0)
      obtain ⟨y0, c0⟩ := hP.c0
      obtain ⟨y1, c1⟩ := hP.c1
      obtain ⟨y2, c2⟩ := hP.c2
      have z0 := hP.z0
      have z1 := hP.z1
      have z2 := hP.z2
      have k0 := hP.bk.get (o := 0) rfl
      have k1 := hP.bk.get (o := 1) rfl
      have k2 := hP.bk.get (o := 2) rfl
      simp -dsimp -implicitDefEqProofs only [m2,m3,m4,m10,m12,m13,bv_ch0,c0,c1,c2,z0,z1,z2,k0,k1,k2,m69,sF69,ZA,↓reduceIte,ZB,ZC,ZJ,ZK,ZE,ZF,ZG,ZH,ZI,reduceCtorEq,ZD,mwV,↓mwD,mwU]
      exact ⟨own7.ext.set3 (by omega) _ _ _, none, hmet, trivial⟩
     | some f =>
      have hf0 : 0 ≤ f := by obtain ⟨⟨u1, _⟩, _⟩ := (both_iff ra rb).1 hf.1; omega
      have hfG := both_grt ra rb hf.1
      simp only [Option.getD_some] at m13
      have nf0 : ¬ f < 0 := by omega
      have hby0 : ¬ byO a b = 0 := by omega
      have hcnt := cnt_grt ra rb hf
      obtain ⟨n1, n2, n3⟩ := cnt_pos ra rb hf
      have hq0 : (min (grt a) (grt b) - f) / byO a b ≤ min (grt a) (grt b) - f := Int.ediv_le_self _ (by omega)
      have v1 : IntKind.i64.wrap (min (grt a) (grt b) - f) = min (grt a) (grt b) - f := w64 (by omega) (by omega)
      have v2 : (min (grt a) (grt b) - f).tdiv (byO a b) = (min (grt a) (grt b) - f) / byO a b := Int.tdiv_eq_ediv_of_nonneg (by omega)
      have v2b : IntKind.i64.wrap ((min (grt a) (grt b) - f) / byO a b) = (min (grt a) (grt b) - f) / byO a b := w64 (by omega) (by omega)
      have v3 : IntKind.i64.wrap ((min (grt a) (grt b) - f) / byO a b + 1) = ((cntO a b f : Nat) : Int) := by rw [hcnt]; exact w64 (by omega) (by omega)
      have hfit : Fit ⟨(metR a b f).1, 0, (metR a b f).2⟩ := by
       have h1 := valid_fit (metR_ok ra rb hf a.d b.d).1
       have e1' := wish_k (metR a b f).1 (metR a b f).2 a.d b.d
       have e2' := wish_L (metR a b f).1 (metR a b f).2 a.d b.d
       generalize wish (metR a b f).1 (metR a b f).2 a.d b.d = u at *
       obtain ⟨uk, ud, uL⟩ := u
       simp only at e1' e2'
       subst e1' e2'
       exact fit_kL h1
      simp only [Option.map_some] at hmet
      by_cases hcut : cntO a b f ≤ 20 ∨ 1000 < byO a b
      · have hmr : metR a b f = (lstK (seqL f (byO a b) (min (cntO a b f) 20)), seqL f (byO a b) (min (cntO a b f) 20)) := by unfold metR; rw [if_pos hcut]
        by_cases nc1 : ((cntO a b f : Nat) : Int) ≤ 20
        · simp -dsimp -implicitDefEqProofs only [m2,m3,m4,m10,m12,m13,nf0,v1,v2,v3,hby0,not_false_eq_true,nc1,v2b,m69,sF69,ZA,↓reduceIte,ZB,ZC,ZJ,ZK,ZE,ZF,ZG,ZH,ZI,reduceCtorEq,ZD,mwV,↓mwD,mwU]
          refine mwpB_exitMid 5 (fun e' ds w' => e' 2 = .pointer (some ⟨w.heap.size, 0, none⟩) ∧ e' 3 = .pointer (some ⟨w.heap.size + 1, 0, none⟩) ∧ e' 4 = .pointer (some ⟨w.heap.size + 2, 0, none⟩) ∧ ds = [] ∧ Ext w7 w' ∧ w'.ownsRow w7.heap.size 3 1 (e' 16) (min (cntO a b f) 20) (ints (seqL f (byO a b) (min (cntO a b f) 20)))) ?_ ?_
          · rintro e8 ds w8 ⟨p2, p3, p4, rfl, hx8, hrow⟩
            have own8 := own7.next hx8
            replace hrow : w8.ownsRow w7.heap.size 3 1 (e8 16) (seqL f (byO a b) (min (cntO a b f) 20)).length (ints (seqL f (byO a b) (min (cntO a b f) 20))) := by rw [seqL_length]; exact hrow
            have hF1 : 1 ≤ (seqL f (byO a b) (min (cntO a b f) 20)).length := by rw [seqL_length]; omega
            generalize seqL f (byO a b) (min (cntO a b f) 20) = S at *
            obtain ⟨_, q8, cap8, p16⟩ := own_shape hrow
            rw [p16] at hrow
            have J0 := own8.A.get (o := 0) rfl
            have J1 := own8.A.get (o := 1) rfl
            have J2 := own8.A.get (o := 2) rfl
            have L0 := own8.B.get (o := 0) rfl
            have L1 := own8.B.get (o := 1) rfl
            have L2 := own8.B.get (o := 2) rfl
            simp -dsimp -implicitDefEqProofs only [p2,p3,p4,p16,m69,sF69,ZA,↓reduceIte,ZB,ZC,ZJ,ZK,ZE,ZF,ZG,ZH,ZI,reduceCtorEq,ZD,mwV,↓mwD,mwU]
            refine mwpB_drawE ?_
            simp -dsimp -implicitDefEqProofs only [p2,p3,p4,p16,J0,J1,J2,L0,L1,L2,m69,sF69,ZA,↓reduceIte,ZB,ZC,ZJ,ZK,ZE,ZF,ZG,ZH,ZI,reduceCtorEq,ZD,mwV,↓mwD,mwU]
            refine (list_c _ S w8.drew (Own.sl (Own.ext hrow (Ext.drew _)))).use ?_
            rintro r w9 ⟨rfl, hx9⟩
            have hx89 : Ext w8 w9 := (Ext.drew _).trans hx9
            rw [hmr] at hfit hmet
            simp -dsimp -implicitDefEqProofs only [hx9,m69,sF69,ZA,↓reduceIte,ZB,ZC,ZJ,ZK,ZE,ZF,ZG,ZH,ZI,reduceCtorEq,ZD,mwV,↓mwD,mwU]
            refine (wished_c (lstK S) 0 S a b _ _ _ w9 (Own.sl (Own.ext hrow hx89)) hfit hF1 (some ⟨ba, oa, none⟩) (some ⟨bb, ob, none⟩) _ ca _ cb rfl rfl).use ?_
            rintro r w10 ⟨rfl, hx10⟩
            have hx910 := hx9.trans hx10
            have hx810 := hx89.trans hx10
            have hP := put3 (own8.C.ext hx810) (.int .i64 (wish (lstK S) S a.d b.d).k) (.int .i64 (wish (lstK S) S a.d b.d).d) (.slice q8 S.length cap8)
            obtain ⟨y0, c0⟩ := hP.c0
            obtain ⟨y1, c1⟩ := hP.c1
            obtain ⟨y2, c2⟩ := hP.c2
            have z0 := hP.z0
            have z1 := hP.z1
            have z2 := hP.z2
            have k0 := hP.bk.get (o := 0) rfl
            have k1 := hP.bk.get (o := 1) rfl
            have k2 := hP.bk.get (o := 2) rfl
            simp -dsimp -implicitDefEqProofs only [hx910,p4,chV,c0,c1,c2,z0,z1,z2,k0,k1,k2,m69,sF69,ZA,↓reduceIte,ZB,ZC,ZJ,ZK,ZE,ZF,ZG,ZH,ZI,reduceCtorEq,ZD,mwV,↓mwD,mwU]
            refine ⟨(own8.ext.trans hx810).set3 (by omega) _ _ _, _, hmet, _, rfl, ?_⟩
            rw [wish_L]
            exact Own.mono (Own.set3 (Own.ext hrow hx810) (by have := own7.size; omega) _ _ _) (by have := own7.size; omega)
          · refine mwpB_loop (fun e' ds w' => ∃ i : Nat, i ≤ min (cntO a b f) 20 ∧ e' 17 = .int .i64 i ∧ e' 15 = .int .i64 ((cntO a b f : Nat) : Int) ∧ e' 13 = .int .i64 f ∧ e' 10 = .int .i64 (byO a b) ∧ e' 2 = .pointer (some ⟨w.heap.size, 0, none⟩) ∧ e' 3 = .pointer (some ⟨w.heap.size + 1, 0, none⟩) ∧ e' 4 = .pointer (some ⟨w.heap.size + 2, 0, none⟩) ∧ ds = [] ∧ Ext w7 w' ∧
             w'.ownsRow w7.heap.size 3 1 (e' 16) i (ints (seqL f (byO a b) i))) (fun e' _ => 20 - (intOf (e' 17)).toNat) ?_ ?_
            · simp -dsimp -implicitDefEqProofs only [m2,m3,m4,m10,m13,m69,sF69,ZA,↓reduceIte,ZB,ZC,ZJ,ZK,ZE,ZF,ZG,ZH,ZI,reduceCtorEq,ZD,mwV,↓mwD,mwU]
              exact ⟨0, by omega, rfl, Ext.refl _, World.ownsRow_nil _ _ _ _⟩
            · rintro e8 ds w8 ⟨i, hi, p17, p15, p13, p10, p2, p3, p4, rfl, hx8, hrow⟩
              by_cases i1 : i < cntO a b f
              · have i1' : (i : Int) < ((cntO a b f : Nat) : Int) := by omega
                by_cases i2 : i < 20
                · have i2' : (i : Int) < 20 := by omega
                  have hib : (i : Int) * byO a b ≤ 20 * 1000000 := Int.mul_le_mul (by omega) (by omega) (by omega) (by omega)
                  have hib0 : 0 ≤ (i : Int) * byO a b := Int.mul_nonneg (by omega) (by omega)
                  have u1 : IntKind.i64.wrap ((i : Int) * byO a b) = (i : Int) * byO a b := w64 (by omega) (by omega)
                  have u2 : IntKind.i64.wrap (f + (i : Int) * byO a b) = f + (i : Int) * byO a b := w64 (by omega) (by omega)
                  have u3 : IntKind.i64.wrap ((i : Int) + 1) = ((i + 1 : Nat) : Int) := by rw [w64 (by omega) (by omega)]; omega
                  simp -dsimp -implicitDefEqProofs only [p17,p15,p13,p10,p2,p3,p4,i1',i2',u1,u2,bs_one,m69,sF69,ZA,↓reduceIte,ZB,ZC,ZJ,ZK,ZE,ZF,ZG,ZH,ZI,reduceCtorEq,ZD,mwV,↓mwD,mwU]
                  obtain ⟨v9, w9, ha9, hown9, hg9⟩ := append_int hrow (f + (i : Int) * byO a b) (by omega) hx8.size
                  refine appB.mk ha9 ?_
                  simp -dsimp -implicitDefEqProofs only [p17,p15,p13,p10,p2,p3,p4,u3,m69,sF69,ZA,↓reduceIte,ZB,ZC,ZJ,ZK,ZE,ZF,ZG,ZH,ZI,reduceCtorEq,ZD,mwV,↓mwD,mwU]
                  refine ⟨⟨i + 1, by omega, rfl, append_ext hx8 hrow hg9, by rw [seqL_succ]; exact hown9⟩, ?_⟩
                  simp only [intOf]; omega
                · have i2' : ¬ (i : Int) < 20 := by omega
                  simp -dsimp -implicitDefEqProofs only [p17,p15,p13,p10,p2,p3,p4,i1',i2',m69,sF69,ZA,↓reduceIte,ZB,ZC,ZJ,ZK,ZE,ZF,ZG,ZH,ZI,reduceCtorEq,ZD,mwV,↓mwD,mwU]
                  rw [show min (cntO a b f) 20 = i by omega]
                  exact ⟨hx8, hrow⟩
              · have i1' : ¬ (i : Int) < ((cntO a b f : Nat) : Int) := by omega
                simp -dsimp -implicitDefEqProofs only [p17,p15,p13,p10,p2,p3,p4,i1',m69,sF69,ZA,↓reduceIte,ZB,ZC,ZJ,ZK,ZE,ZF,ZG,ZH,ZI,reduceCtorEq,ZD,mwV,↓mwD,mwU]
                rw [show min (cntO a b f) 20 = i by omega]
                exact ⟨hx8, hrow⟩
        · have nc2 : 1000 < byO a b := by omega
          simp -dsimp -implicitDefEqProofs only [m2,m3,m4,m10,m12,m13,nf0,v1,v2,v3,hby0,not_false_eq_true,nc1,nc2,v2b,m69,sF69,ZA,↓reduceIte,ZB,ZC,ZJ,ZK,ZE,ZF,ZG,ZH,ZI,reduceCtorEq,ZD,mwV,↓mwD,mwU]
          refine mwpB_exitMid 5 (fun e' ds w' => e' 2 = .pointer (some ⟨w.heap.size, 0, none⟩) ∧ e' 3 = .pointer (some ⟨w.heap.size + 1, 0, none⟩) ∧ e' 4 = .pointer (some ⟨w.heap.size + 2, 0, none⟩) ∧ ds = [] ∧ Ext w7 w' ∧ w'.ownsRow w7.heap.size 3 1 (e' 16) (min (cntO a b f) 20) (ints (seqL f (byO a b) (min (cntO a b f) 20)))) ?_ ?_
          · rintro e8 ds w8 ⟨p2, p3, p4, rfl, hx8, hrow⟩
            have own8 := own7.next hx8
            replace hrow : w8.ownsRow w7.heap.size 3 1 (e8 16) (seqL f (byO a b) (min (cntO a b f) 20)).length (ints (seqL f (byO a b) (min (cntO a b f) 20))) := by rw [seqL_length]; exact hrow
            have hF1 : 1 ≤ (seqL f (byO a b) (min (cntO a b f) 20)).length := by rw [seqL_length]; omega
            generalize seqL f (byO a b) (min (cntO a b f) 20) = S at *
            obtain ⟨_, q8, cap8, p16⟩ := own_shape hrow
            rw [p16] at hrow
            have J0 := own8.A.get (o := 0) rfl
            have J1 := own8.A.get (o := 1) rfl
            have J2 := own8.A.get (o := 2) rfl
            have L0 := own8.B.get (o := 0) rfl
            have L1 := own8.B.get (o := 1) rfl
            have L2 := own8.B.get (o := 2) rfl
            simp -dsimp -implicitDefEqProofs only [p2,p3,p4,p16,m69,sF69,ZA,↓reduceIte,ZB,ZC,ZJ,ZK,ZE,ZF,ZG,ZH,ZI,reduceCtorEq,ZD,mwV,↓mwD,mwU]
            refine mwpB_drawE ?_
            simp -dsimp -implicitDefEqProofs only [p2,p3,p4,p16,J0,J1,J2,L0,L1,L2,m69,sF69,ZA,↓reduceIte,ZB,ZC,ZJ,ZK,ZE,ZF,ZG,ZH,ZI,reduceCtorEq,ZD,mwV,↓mwD,mwU]
            refine (list_c _ S w8.drew (Own.sl (Own.ext hrow (Ext.drew _)))).use ?_
            rintro r w9 ⟨rfl, hx9⟩
            have hx89 : Ext w8 w9 := (Ext.drew _).trans hx9
            rw [hmr] at hfit hmet
            simp -dsimp -implicitDefEqProofs only [hx9,m69,sF69,ZA,↓reduceIte,ZB,ZC,ZJ,ZK,ZE,ZF,ZG,ZH,ZI,reduceCtorEq,ZD,mwV,↓mwD,mwU]
            refine (wished_c (lstK S) 0 S a b _ _ _ w9 (Own.sl (Own.ext hrow hx89)) hfit hF1 (some ⟨ba, oa, none⟩) (some ⟨bb, ob, none⟩) _ ca _ cb rfl rfl).use ?_
            rintro r w10 ⟨rfl, hx10⟩
            have hx910 := hx9.trans hx10
            have hx810 := hx89.trans hx10
            have hP := put3 (own8.C.ext hx810) (.int .i64 (wish (lstK S) S a.d b.d).k) (.int .i64 (wish (lstK S) S a.d b.d).d) (.slice q8 S.length cap8)
            obtain ⟨y0, c0⟩ := hP.c0
            obtain ⟨y1, c1⟩ := hP.c1
            obtain ⟨y2, c2⟩ := hP.c2
            have z0 := hP.z0
            have z1 := hP.z1
            have z2 := hP.z2
            have k0 := hP.bk.get (o := 0) rfl
            have k1 := hP.bk.get (o := 1) rfl
            have k2 := hP.bk.get (o := 2) rfl
            simp -dsimp -implicitDefEqProofs only [hx910,p4,chV,c0,c1,c2,z0,z1,z2,k0,k1,k2,m69,sF69,ZA,↓reduceIte,ZB,ZC,ZJ,ZK,ZE,ZF,ZG,ZH,ZI,reduceCtorEq,ZD,mwV,↓mwD,mwU]
            refine ⟨(own8.ext.trans hx810).set3 (by omega) _ _ _, _, hmet, _, rfl, ?_⟩
            rw [wish_L]
            exact Own.mono (Own.set3 (Own.ext hrow hx810) (by have := own7.size; omega) _ _ _) (by have := own7.size; omega)
          · refine mwpB_loop (fun e' ds w' => ∃ i : Nat, i ≤ min (cntO a b f) 20 ∧ e' 17 = .int .i64 i ∧ e' 15 = .int .i64 ((cntO a b f : Nat) : Int) ∧ e' 13 = .int .i64 f ∧ e' 10 = .int .i64 (byO a b) ∧ e' 2 = .pointer (some ⟨w.heap.size, 0, none⟩) ∧ e' 3 = .pointer (some ⟨w.heap.size + 1, 0, none⟩) ∧ e' 4 = .pointer (some ⟨w.heap.size + 2, 0, none⟩) ∧ ds = [] ∧ Ext w7 w' ∧
             w'.ownsRow w7.heap.size 3 1 (e' 16) i (ints (seqL f (byO a b) i))) (fun e' _ => 20 - (intOf (e' 17)).toNat) ?_ ?_
            · simp -dsimp -implicitDefEqProofs only [m2,m3,m4,m10,m13,m69,sF69,ZA,↓reduceIte,ZB,ZC,ZJ,ZK,ZE,ZF,ZG,ZH,ZI,reduceCtorEq,ZD,mwV,↓mwD,mwU]
              exact ⟨0, by omega, rfl, Ext.refl _, World.ownsRow_nil _ _ _ _⟩
            · rintro e8 ds w8 ⟨i, hi, p17, p15, p13, p10, p2, p3, p4, rfl, hx8, hrow⟩
              by_cases i1 : i < cntO a b f
              · have i1' : (i : Int) < ((cntO a b f : Nat) : Int) := by omega
                by_cases i2 : i < 20
                · have i2' : (i : Int) < 20 := by omega
                  have hib : (i : Int) * byO a b ≤ 20 * 1000000 := Int.mul_le_mul (by omega) (by omega) (by omega) (by omega)
                  have hib0 : 0 ≤ (i : Int) * byO a b := Int.mul_nonneg (by omega) (by omega)
                  have u1 : IntKind.i64.wrap ((i : Int) * byO a b) = (i : Int) * byO a b := w64 (by omega) (by omega)
                  have u2 : IntKind.i64.wrap (f + (i : Int) * byO a b) = f + (i : Int) * byO a b := w64 (by omega) (by omega)
                  have u3 : IntKind.i64.wrap ((i : Int) + 1) = ((i + 1 : Nat) : Int) := by rw [w64 (by omega) (by omega)]; omega
                  simp -dsimp -implicitDefEqProofs only [p17,p15,p13,p10,p2,p3,p4,i1',i2',u1,u2,bs_one,m69,sF69,ZA,↓reduceIte,ZB,ZC,ZJ,ZK,ZE,ZF,ZG,ZH,ZI,reduceCtorEq,ZD,mwV,↓mwD,mwU]
                  obtain ⟨v9, w9, ha9, hown9, hg9⟩ := append_int hrow (f + (i : Int) * byO a b) (by omega) hx8.size
                  refine appB.mk ha9 ?_
                  simp -dsimp -implicitDefEqProofs only [p17,p15,p13,p10,p2,p3,p4,u3,m69,sF69,ZA,↓reduceIte,ZB,ZC,ZJ,ZK,ZE,ZF,ZG,ZH,ZI,reduceCtorEq,ZD,mwV,↓mwD,mwU]
                  refine ⟨⟨i + 1, by omega, rfl, append_ext hx8 hrow hg9, by rw [seqL_succ]; exact hown9⟩, ?_⟩
                  simp only [intOf]; omega
                · have i2' : ¬ (i : Int) < 20 := by omega
                  simp -dsimp -implicitDefEqProofs only [p17,p15,p13,p10,p2,p3,p4,i1',i2',m69,sF69,ZA,↓reduceIte,ZB,ZC,ZJ,ZK,ZE,ZF,ZG,ZH,ZI,reduceCtorEq,ZD,mwV,↓mwD,mwU]
                  rw [show min (cntO a b f) 20 = i by omega]
                  exact ⟨hx8, hrow⟩
              · have i1' : ¬ (i : Int) < ((cntO a b f : Nat) : Int) := by omega
                simp -dsimp -implicitDefEqProofs only [p17,p15,p13,p10,p2,p3,p4,i1',m69,sF69,ZA,↓reduceIte,ZB,ZC,ZJ,ZK,ZE,ZF,ZG,ZH,ZI,reduceCtorEq,ZD,mwV,↓mwD,mwU]
                rw [show min (cntO a b f) 20 = i by omega]
                exact ⟨hx8, hrow⟩
      · have nc1 : ¬ ((cntO a b f : Nat) : Int) ≤ 20 := by omega
        have nc2 : ¬ 1000 < byO a b := by omega
        have v4 : IntKind.i64.wrap (((cntO a b f : Nat) : Int) - 1) = ((cntO a b f : Nat) : Int) - 1 := w64 (by omega) (by omega)
        have hm0 : 0 ≤ (((cntO a b f : Nat) : Int) - 1) * byO a b := Int.mul_nonneg (by omega) (by omega)
        have v5 : IntKind.i64.wrap ((((cntO a b f : Nat) : Int) - 1) * byO a b) = (((cntO a b f : Nat) : Int) - 1) * byO a b := w64 (by omega) (by omega)
        have v6 : IntKind.i64.wrap (f + (((cntO a b f : Nat) : Int) - 1) * byO a b) = f + (((cntO a b f : Nat) : Int) - 1) * byO a b := w64 (by omega) (by omega)
        have D0 := own7.A.get (o := 0) rfl
        have D0b := own7.B.get (o := 0) rfl
        by_cases hk : a.k = 3 ∧ b.k = 3
        · have hk1 : decide (a.k = 3) = true := by simp [hk.1]
          have hk2 : decide (b.k = 3) = true := by simp [hk.2]
          have hmr : metR a b f = (3, [f, f + (((cntO a b f : Nat) : Int) - 1) * byO a b]) := by unfold metR; rw [if_neg hcut, if_pos hk]
          have ho := own_new w7 [.int .i64 f, .int .i64 (f + (((cntO a b f : Nat) : Int) - 1) * byO a b)] 3 w7.heap.size 2 1 rfl (Nat.le_refl _) (by decide)
          have hx8 : Ext w7 (w7.alloc (.cells #[.int .i64 f, .int .i64 (f + (((cntO a b f : Nat) : Int) - 1) * byO a b)] 3)) := Ext.alloc _ _
          have own8 := own7.next hx8
          have J0 := own8.A.get (o := 0) rfl
          have J1 := own8.A.get (o := 1) rfl
          have J2 := own8.A.get (o := 2) rfl
          have L0 := own8.B.get (o := 0) rfl
          have L1 := own8.B.get (o := 1) rfl
          have L2 := own8.B.get (o := 2) rfl
          rw [hmr] at hfit hmet
          simp -dsimp -implicitDefEqProofs only [m2,m3,m4,m10,m12,m13,nf0,v1,v2,v3,hby0,not_false_eq_true,nc1,nc2,v2b,hk1,hk2,D0,D0b,v4,v5,v6,bs_two,bv_ch,J0,J1,J2,L0,L1,L2,m69,sF69,ZA,↓reduceIte,ZB,ZC,ZJ,ZK,ZE,ZF,ZG,ZH,ZI,reduceCtorEq,ZD,mwV,↓mwD,mwU]
          refine (wished_c 3 0 [f, f + (((cntO a b f : Nat) : Int) - 1) * byO a b] a b _ _ _ _ (Own.sl (cs := ints [f, f + (((cntO a b f : Nat) : Int) - 1) * byO a b]) ho) hfit (by simp) (some ⟨ba, oa, none⟩) (some ⟨bb, ob, none⟩) _ ca _ cb rfl rfl).use ?_
          rintro r w10 ⟨rfl, hx10⟩
          have hP := put3 (own8.C.ext hx10) (.int .i64 (wish 3 [f, f + (((cntO a b f : Nat) : Int) - 1) * byO a b] a.d b.d).k) (.int .i64 (wish 3 [f, f + (((cntO a b f : Nat) : Int) - 1) * byO a b] a.d b.d).d) (.slice (some ⟨w7.heap.size, 0, none⟩) 2 2)
          obtain ⟨y0, c0⟩ := hP.c0
          obtain ⟨y1, c1⟩ := hP.c1
          obtain ⟨y2, c2⟩ := hP.c2
          have z0 := hP.z0
          have z1 := hP.z1
          have z2 := hP.z2
          have k0 := hP.bk.get (o := 0) rfl
          have k1 := hP.bk.get (o := 1) rfl
          have k2 := hP.bk.get (o := 2) rfl
          simp -dsimp -implicitDefEqProofs only [m2,m3,m4,chV,c0,c1,c2,z0,z1,z2,k0,k1,k2,m69,sF69,ZA,↓reduceIte,ZB,ZC,ZJ,ZK,ZE,ZF,ZG,ZH,ZI,reduceCtorEq,ZD,mwV,↓mwD,mwU]
          refine ⟨(own8.ext.trans hx10).set3 (by omega) _ _ _, _, hmet, _, rfl, ?_⟩
          rw [wish_L]
          exact Own.mono (Own.set3 (Own.ext ho hx10) (by have := own7.size; omega) _ _ _) (by have := own7.size; omega)
        · have hmr : metR a b f = (4, [f, f + (((cntO a b f : Nat) : Int) - 1) * byO a b, byO a b]) := by unfold metR; rw [if_neg hcut, if_neg hk]
          by_cases hka : a.k = 3
          · have hkb : ¬ b.k = 3 := fun h => hk ⟨hka, h⟩
            have dka : decide (a.k = 3) = true := by simp [hka]
            have dkb : decide (b.k = 3) = false := by simp [hkb]
            have ho := own_new w7 [.int .i64 f, .int .i64 (f + (((cntO a b f : Nat) : Int) - 1) * byO a b), .int .i64 (byO a b)] 3 w7.heap.size 3 1 rfl (Nat.le_refl _) (by decide)
            have hx8 : Ext w7 (w7.alloc (.cells #[.int .i64 f, .int .i64 (f + (((cntO a b f : Nat) : Int) - 1) * byO a b), .int .i64 (byO a b)] 3)) := Ext.alloc _ _
            have own8 := own7.next hx8
            have J0 := own8.A.get (o := 0) rfl
            have J1 := own8.A.get (o := 1) rfl
            have J2 := own8.A.get (o := 2) rfl
            have L0 := own8.B.get (o := 0) rfl
            have L1 := own8.B.get (o := 1) rfl
            have L2 := own8.B.get (o := 2) rfl
            rw [hmr] at hfit hmet
            simp -dsimp -implicitDefEqProofs only [m2,m3,m4,m10,m12,m13,nf0,v1,v2,v3,hby0,not_false_eq_true,nc1,nc2,v2b,dka,dkb,D0,D0b,v4,v5,v6,bs_three,bv_ch,J0,J1,J2,L0,L1,L2,m69,sF69,ZA,↓reduceIte,ZB,ZC,ZJ,ZK,ZE,ZF,ZG,ZH,ZI,reduceCtorEq,ZD,mwV,↓mwD,mwU]
            refine (wished_c 4 0 [f, f + (((cntO a b f : Nat) : Int) - 1) * byO a b, byO a b] a b _ _ _ _ (Own.sl (cs := ints [f, f + (((cntO a b f : Nat) : Int) - 1) * byO a b, byO a b]) ho) hfit (by simp) (some ⟨ba, oa, none⟩) (some ⟨bb, ob, none⟩) _ ca _ cb rfl rfl).use ?_
            rintro r w10 ⟨rfl, hx10⟩
            have hP := put3 (own8.C.ext hx10) (.int .i64 (wish 4 [f, f + (((cntO a b f : Nat) : Int) - 1) * byO a b, byO a b] a.d b.d).k) (.int .i64 (wish 4 [f, f + (((cntO a b f : Nat) : Int) - 1) * byO a b, byO a b] a.d b.d).d) (.slice (some ⟨w7.heap.size, 0, none⟩) 3 3)
            obtain ⟨y0, c0⟩ := hP.c0
            obtain ⟨y1, c1⟩ := hP.c1
            obtain ⟨y2, c2⟩ := hP.c2
            have z0 := hP.z0
            have z1 := hP.z1
            have z2 := hP.z2
            have k0 := hP.bk.get (o := 0) rfl
            have k1 := hP.bk.get (o := 1) rfl
            have k2 := hP.bk.get (o := 2) rfl
            simp -dsimp -implicitDefEqProofs only [m2,m3,m4,chV,c0,c1,c2,z0,z1,z2,k0,k1,k2,m69,sF69,ZA,↓reduceIte,ZB,ZC,ZJ,ZK,ZE,ZF,ZG,ZH,ZI,reduceCtorEq,ZD,mwV,↓mwD,mwU]
            refine ⟨(own8.ext.trans hx10).set3 (by omega) _ _ _, _, hmet, _, rfl, ?_⟩
            rw [wish_L]
            exact Own.mono (Own.set3 (Own.ext ho hx10) (by have := own7.size; omega) _ _ _) (by have := own7.size; omega)
          · have dka : decide (a.k = 3) = false := by simp [hka]
            have ho := own_new w7 [.int .i64 f, .int .i64 (f + (((cntO a b f : Nat) : Int) - 1) * byO a b), .int .i64 (byO a b)] 3 w7.heap.size 3 1 rfl (Nat.le_refl _) (by decide)
            have hx8 : Ext w7 (w7.alloc (.cells #[.int .i64 f, .int .i64 (f + (((cntO a b f : Nat) : Int) - 1) * byO a b), .int .i64 (byO a b)] 3)) := Ext.alloc _ _
            have own8 := own7.next hx8
            have J0 := own8.A.get (o := 0) rfl
            have J1 := own8.A.get (o := 1) rfl
            have J2 := own8.A.get (o := 2) rfl
            have L0 := own8.B.get (o := 0) rfl
            have L1 := own8.B.get (o := 1) rfl
            have L2 := own8.B.get (o := 2) rfl
            rw [hmr] at hfit hmet
            simp -dsimp -implicitDefEqProofs only [m2,m3,m4,m10,m12,m13,nf0,v1,v2,v3,hby0,not_false_eq_true,nc1,nc2,v2b,dka,D0,D0b,v4,v5,v6,bs_three,bv_ch,J0,J1,J2,L0,L1,L2,m69,sF69,ZA,↓reduceIte,ZB,ZC,ZJ,ZK,ZE,ZF,ZG,ZH,ZI,reduceCtorEq,ZD,mwV,↓mwD,mwU]
            refine (wished_c 4 0 [f, f + (((cntO a b f : Nat) : Int) - 1) * byO a b, byO a b] a b _ _ _ _ (Own.sl (cs := ints [f, f + (((cntO a b f : Nat) : Int) - 1) * byO a b, byO a b]) ho) hfit (by simp) (some ⟨ba, oa, none⟩) (some ⟨bb, ob, none⟩) _ ca _ cb rfl rfl).use ?_
            rintro r w10 ⟨rfl, hx10⟩
            have hP := put3 (own8.C.ext hx10) (.int .i64 (wish 4 [f, f + (((cntO a b f : Nat) : Int) - 1) * byO a b, byO a b] a.d b.d).k) (.int .i64 (wish 4 [f, f + (((cntO a b f : Nat) : Int) - 1) * byO a b, byO a b] a.d b.d).d) (.slice (some ⟨w7.heap.size, 0, none⟩) 3 3)
            obtain ⟨y0, c0⟩ := hP.c0
            obtain ⟨y1, c1⟩ := hP.c1
            obtain ⟨y2, c2⟩ := hP.c2
            have z0 := hP.z0
            have z1 := hP.z1
            have z2 := hP.z2
            have k0 := hP.bk.get (o := 0) rfl
            have k1 := hP.bk.get (o := 1) rfl
            have k2 := hP.bk.get (o := 2) rfl
            simp -dsimp -implicitDefEqProofs only [m2,m3,m4,chV,c0,c1,c2,z0,z1,z2,k0,k1,k2,m69,sF69,ZA,↓reduceIte,ZB,ZC,ZJ,ZK,ZE,ZF,ZG,ZH,ZI,reduceCtorEq,ZD,mwV,↓mwD,mwU]
            refine ⟨(own8.ext.trans hx10).set3 (by omega) _ _ _, _, hmet, _, rfl, ?_⟩
            rw [wish_L]
            exact Own.mono (Own.set3 (Own.ext ho hx10) (by have := own7.size; omega) _ _ _) (by have := own7.size; omega)
   · have wlb : IntKind.i64.wrap (max a.lo b.lo + byO a b) = max a.lo b.lo + byO a b := w64 (by omega) (by omega)
     refine mwpB_loop (fun e' ds w' => ∃ (n : Int) (f : Option Int), e' 14 = .int .i64 n ∧ e' 13 = .int .i64 (f.getD (-1)) ∧ e' 11 = .int .i64 (max a.lo b.lo) ∧ e' 2 = .pointer (some ⟨w.heap.size, 0, none⟩) ∧ e' 3 = .pointer (some ⟨w.heap.size + 1, 0, none⟩) ∧ e' 4 = .pointer (some ⟨w.heap.size + 2, 0, none⟩) ∧ e' 10 = .int .i64 (byO a b) ∧ e' 12 = .int .i64 (min (grt a) (grt b)) ∧ ds = [] ∧
      Own3 a b (.slice (some ⟨ba, oa, none⟩) a.L.length ca) (.slice (some ⟨bb, ob, none⟩) b.L.length cb) w w' ∧ max a.lo b.lo ≤ n ∧ n ≤ max a.lo b.lo + byO a b ∧ (∀ m, both a b m = true → f = none → n ≤ m) ∧ (∀ g, f = some g → FirstIs a b (some g))) (fun e' _ => (max a.lo b.lo + byO a b - intOf (e' 14)).toNat) ?_ ?_
     · simp -dsimp -implicitDefEqProofs only [h2,h3,h4,m69,sF69,ZA,↓reduceIte,ZB,ZC,ZJ,ZK,ZE,ZF,ZG,ZH,ZI,reduceCtorEq,ZD,mwV,↓mwD,mwU]
       exact ⟨_, none, rfl, rfl, own6, Int.le_refl _, by omega, fun m hm _ => by obtain ⟨⟨u1, _⟩, u2, _⟩ := (both_iff ra rb).1 hm; omega, fun g hg => by cases hg⟩
     · rintro e7 ds w7 ⟨n, f, m14, m13, m11, m2, m3, m4, m10, m12, rfl, own7, hn1, hn2, hno, hsome⟩
       cases f with
       | some f =>
        have hf := hsome f rfl
        have hf0 : 0 ≤ f := by obtain ⟨⟨u1, _⟩, _⟩ := (both_iff ra rb).1 hf.1; omega
        simp only [Option.getD_some] at m13
        have n0 : ¬ f < 0 := by omega
        by_cases c1 : n ≤ min (grt a) (grt b)
        · by_cases c2 : n < max a.lo b.lo + byO a b
          · simp -dsimp -implicitDefEqProofs only [m14,m13,m11,m2,m3,m4,m10,m12,c1,c2,wlb,n0,m69,sF69,ZA,↓reduceIte,ZB,ZC,ZJ,ZK,ZE,ZF,ZG,ZH,ZI,reduceCtorEq,ZD,mwV,↓mwD,mwU]
            exact ⟨own7, some f, hf, rfl⟩
          · simp -dsimp -implicitDefEqProofs only [m14,m13,m11,m2,m3,m4,m10,m12,c1,c2,wlb,m69,sF69,ZA,↓reduceIte,ZB,ZC,ZJ,ZK,ZE,ZF,ZG,ZH,ZI,reduceCtorEq,ZD,mwV,↓mwD,mwU]
            exact ⟨own7, some f, hf, rfl⟩
        · simp -dsimp -implicitDefEqProofs only [m14,m13,m11,m2,m3,m4,m10,m12,c1,m69,sF69,ZA,↓reduceIte,ZB,ZC,ZJ,ZK,ZE,ZF,ZG,ZH,ZI,reduceCtorEq,ZD,mwV,↓mwD,mwU]
          exact ⟨own7, some f, hf, rfl⟩
       | none =>
        simp only [Option.getD_none] at m13
        have hno' : ∀ m, both a b m = true → n ≤ m := fun m hm => hno m hm rfl
        by_cases c1 : n ≤ min (grt a) (grt b)
        · by_cases c2 : n < max a.lo b.lo + byO a b
          · have A0' := own7.A.get (o := 0) rfl
            have A1' := own7.A.get (o := 1) rfl
            have A2' := own7.A.get (o := 2) rfl
            have wn : IntKind.i64.wrap (n + 1) = n + 1 := w64 (by omega) (by omega)
            simp -dsimp -implicitDefEqProofs only [m14,m13,m11,m2,m3,m4,m10,m12,c1,c2,wlb,A0',A1',A2',m69,sF69,ZA,↓reduceIte,ZB,ZC,ZJ,ZK,ZE,ZF,ZG,ZH,ZI,reduceCtorEq,ZD,mwV,↓mwD,mwU]
            refine (Has1_c a _ n w7 (ha.ext own7.ext) fa).use ?_
            rintro r w8 ⟨rfl, hx8⟩
            have own8 := own7.next hx8
            have B0' := own8.B.get (o := 0) rfl
            have B1' := own8.B.get (o := 1) rfl
            have B2' := own8.B.get (o := 2) rfl
            cases ha1 : a.has n
            · simp -dsimp -implicitDefEqProofs only [m14,m13,m11,m2,m3,m4,m10,m12,wn,m69,sF69,ZA,↓reduceIte,ZB,ZC,ZJ,ZK,ZE,ZF,ZG,ZH,ZI,reduceCtorEq,ZD,mwV,↓mwD,mwU]
              refine ⟨⟨n + 1, none, rfl, rfl, own8, by omega, by omega, fun m hm _ => ?_, fun g hg => by cases hg⟩, ?_⟩
              · have := hno' m hm
                by_cases hmn : m = n
                · subst hmn; unfold both at hm; rw [ha1] at hm; cases hm
                · omega
              · simp only [intOf]; omega
            · simp -dsimp -implicitDefEqProofs only [m14,m13,m11,m2,m3,m4,m10,m12,B0',B1',B2',m69,sF69,ZA,↓reduceIte,ZB,ZC,ZJ,ZK,ZE,ZF,ZG,ZH,ZI,reduceCtorEq,ZD,mwV,↓mwD,mwU]
              refine (Has1_c b _ n w8 (hb.ext own8.ext) fb).use ?_
              rintro r w9 ⟨rfl, hx9⟩
              have own9 := own8.next hx9
              cases hb1 : b.has n
              · simp -dsimp -implicitDefEqProofs only [m14,m13,m11,m2,m3,m4,m10,m12,wn,m69,sF69,ZA,↓reduceIte,ZB,ZC,ZJ,ZK,ZE,ZF,ZG,ZH,ZI,reduceCtorEq,ZD,mwV,↓mwD,mwU]
                refine ⟨⟨n + 1, none, rfl, rfl, own9, by omega, by omega, fun m hm _ => ?_, fun g hg => by cases hg⟩, ?_⟩
                · have := hno' m hm
                  by_cases hmn : m = n
                  · subst hmn; unfold both at hm; rw [hb1, Bool.and_false] at hm; cases hm
                  · omega
                · simp only [intOf]; omega
              · simp -dsimp -implicitDefEqProofs only [m14,m13,m11,m2,m3,m4,m10,m12,wn,m69,sF69,ZA,↓reduceIte,ZB,ZC,ZJ,ZK,ZE,ZF,ZG,ZH,ZI,reduceCtorEq,ZD,mwV,↓mwD,mwU]
                refine ⟨⟨n + 1, some n, rfl, rfl, own9, by omega, by omega, fun m hm h0 => (by cases h0), fun g hg => ?_⟩, ?_⟩
                · cases hg
                  exact ⟨by unfold both; rw [ha1, hb1]; rfl, hno'⟩
                · simp only [intOf]; omega
          · simp -dsimp -implicitDefEqProofs only [m14,m13,m11,m2,m3,m4,m10,m12,c1,c2,wlb,m69,sF69,ZA,↓reduceIte,ZB,ZC,ZJ,ZK,ZE,ZF,ZG,ZH,ZI,reduceCtorEq,ZD,mwV,↓mwD,mwU]
            refine ⟨own7, none, none_or fun m hm => ?_, rfl⟩
            obtain ⟨g, hg, hgm⟩ := first_ex ra hm
            have := first_lt ra rb hg
            have := hno' g hg.1
            omega
        · simp -dsimp -implicitDefEqProofs only [m14,m13,m11,m2,m3,m4,m10,m12,c1,m69,sF69,ZA,↓reduceIte,ZB,ZC,ZJ,ZK,ZE,ZF,ZG,ZH,ZI,reduceCtorEq,ZD,mwV,↓mwD,mwU]
          refine ⟨own7, none, none_or fun m hm => ?_, rfl⟩
          have := both_grt ra rb hm
          have := hno' m hm
          omega
end Go.Proofs.YthcdnjbhhaonhaaGreatDoor

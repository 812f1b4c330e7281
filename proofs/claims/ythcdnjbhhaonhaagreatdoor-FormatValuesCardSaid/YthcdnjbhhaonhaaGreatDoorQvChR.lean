/- Layer 02: the reference's step, listed, Has1, ValidChoice, Has. -/
import Derived.Test.YthcdnjbhhaonhaaGreatDoorQvChGToChJ

namespace Go.Proofs.YthcdnjbhhaonhaaGreatDoor
open Go.RowKit
open Nat renaming reduceEqDiff → ZA, reduceAdd → ZB, reduceMul → ZC, reduceSub → ZD
open Int renaming reduceToNat → ZE, reduceEq → ZF, reduceLT → ZG, reduceLE → ZH, reduceNeg → ZI
open Go.Value renaming oneCell' → ZK, cells → ZJ
set_option linter.unusedSimpArgs false
theorem step_c (c : Ch) (s : Value) (w : World) (hs : SlI w s c.L) (hl : c.k = 4 → 3 ≤ c.L.length) : Rets Go.Proofs.Tryz.prog 70 #[chV c s] w fun r w' => r = .int .i64 c.stp ∧ Ext w w' := by
 obtain ⟨k, d, L⟩ := c
 simp only at hs hl
 obtain ⟨p, cap, rfl, _, _⟩ := hs.shape
 have hx : Ext w (w.alloc (.cells #[.int .i64 k, .int .i64 d, .slice p L.length cap] 35)) := Ext.alloc _ _
 refine en70 ?_
 by_cases k4 : k = 4
 · subst k4
   have h3 := hl rfl
   obtain ⟨b, o, cap', hv, _, _, hcell⟩ := hs.at (by intro e; rw [e] at h3; simp at h3)
   cases hv
   have q2 := hx.cell (hcell 2 (by omega))
   have hb : (2 : Int) < (L.length : Int) := by omega
   simp -dsimp -implicitDefEqProofs only [chV,q2,hb,m70,sF70,ZA,↓reduceIte,ZB,ZC,ZJ,ZK,ZE,ZF,ZG,ZH,ZI,reduceCtorEq,ZD,mwV,↓mwD,mwU]
   refine ⟨?_, hx⟩
   simp only [Ch.stp,if_true]
   rw [List.getD_eq_getElem?_getD, List.getElem?_eq_getElem (by omega)]
   rfl
 · simp -dsimp -implicitDefEqProofs only [chV,k4,m70,sF70,ZA,↓reduceIte,ZB,ZC,ZJ,ZK,ZE,ZF,ZG,ZH,ZI,reduceCtorEq,ZD,mwV,↓mwD,mwU]
   exact ⟨by simp [Ch.stp, k4], hx⟩
theorem getD_get {L : List Int} {i : Nat} (h : i < L.length) : L.getD i 0 = L[i] := by rw [List.getD_eq_getElem?_getD, List.getElem?_eq_getElem h]; rfl
theorem Has1_c (c : Ch) (s : Value) (n : Int) (w : World) (hs : SlI w s c.L) (hf : Fit c) : Rets Go.Proofs.Tryz.prog 26 #[chV c s, .int .i64 n] w fun r w' => r = .bool (c.has n) ∧ Ext w w' := by
 obtain ⟨p, cap, rfl, hc1, hc2⟩ := hs.shape
 have hx : Ext w (w.alloc (.cells #[.int .i64 c.k, .int .i64 c.d, .slice p c.L.length cap] 35)) := Ext.alloc _ _
 have hB : Bk (w.alloc (.cells #[.int .i64 c.k, .int .i64 c.d, .slice p c.L.length cap] 35)) w.heap.size [.int .i64 c.k, .int .i64 c.d, .slice p c.L.length cap] 35 := Bk.new _ _ _
 have B0 := hB.get (o := 0) rfl
 have B1 := hB.get (o := 1) rfl
 have B2 := hB.get (o := 2) rfl
 refine en26 ?_
 cases hl : c.lsd
 · obtain ⟨hr, hk⟩ := fit_range hf hl
   have l0 := hr.l0
   have l1 := hr.l1
   have l2 := hr.l2
   have s0 := hr.s0
   have s1 := hr.s1
   have hlen : 2 ≤ c.L.length := by omega
   have h3 : c.k = 4 → 3 ≤ c.L.length := by omega
   have hk1 : ¬ c.k = 1 := by omega
   have hk2 : ¬ c.k = 2 := by omega
   obtain ⟨b, o, cap', hv, _, _, hcell⟩ := hs.at (by intro e; rw [e] at hlen; simp at hlen)
   cases hv
   have e0 : c.lo = c.L[0] := getD_get (by omega)
   have e1 : c.hi = c.L[1] := getD_get (by omega)
   have q0 := hx.cell (hcell 0 (by omega))
   have q1 := hx.cell (hcell 1 (by omega))
   simp only [Nat.add_zero] at q0
   rw [← e0] at q0
   rw [← e1] at q1
   have b0 : (0 : Int) < (c.L.length : Int) := by omega
   have b1 : (1 : Int) < (c.L.length : Int) := by omega
   have hst := fun w' (hh : Ext w w') => step_c c (.slice (some ⟨b, o, none⟩) c.L.length cap) w' (hs.ext hh) h3
   simp -dsimp -implicitDefEqProofs only [chV,hk1,hk2,m26,sF26,ZA,↓reduceIte,ZB,ZC,ZJ,ZK,ZE,ZF,ZG,ZH,ZI,reduceCtorEq,ZD,mwV,↓mwD,mwU]
   generalize w.alloc (.cells #[.int .i64 c.k, .int .i64 c.d, .slice (some ⟨b, o, none⟩) c.L.length cap] 35) = W at *
   have hh : c.has n = (decide (c.lo ≤ n) && (decide (n ≤ c.hi) && decide ((n - c.lo) % c.stp = 0))) := by unfold Ch.has; rw [hl]; rfl
   rw [hh]
   refine mwpB_drawE ?_
   by_cases h1 : c.lo ≤ n
   · by_cases h2 : n ≤ c.hi
     · have hw : IntKind.i64.wrap (n - c.lo) = n - c.lo := w64 (by omega) (by omega)
       have ht : (n - c.lo).tmod c.stp = (n - c.lo) % c.stp := Int.tmod_eq_emod_of_nonneg (by omega)
       have hs0 : ¬ c.stp = 0 := by omega
       simp -dsimp -implicitDefEqProofs only [h1,h2,B0,B1,B2,q0,q1,b0,b1,m26,sF26,ZA,↓reduceIte,ZB,ZC,ZJ,ZK,ZE,ZF,ZG,ZH,ZI,reduceCtorEq,ZD,mwV,↓mwD,mwU]
       refine (hst W.drew (hx.trans (Ext.drew _))).use ?_
       rintro r w2 ⟨rfl, hx2⟩
       simp -dsimp -implicitDefEqProofs only [hx2,hs0,hw,ht,not_false_eq_true,m26,sF26,ZA,↓reduceIte,ZB,ZC,ZJ,ZK,ZE,ZF,ZG,ZH,ZI,reduceCtorEq,ZD,mwV,↓mwD,mwU]
       exact ⟨by simp [h1, h2], hx.trans ((Ext.drew _).trans hx2)⟩
     · simp -dsimp -implicitDefEqProofs only [h1,h2,B0,B1,B2,q0,q1,b0,b1,Ext.refl,m26,sF26,ZA,↓reduceIte,ZB,ZC,ZJ,ZK,ZE,ZF,ZG,ZH,ZI,reduceCtorEq,ZD,mwV,↓mwD,mwU]
       exact ⟨by simp [h2], hx.trans (Ext.drew _)⟩
   · simp -dsimp -implicitDefEqProofs only [h1,B0,B1,B2,q0,q1,b0,b1,Ext.refl,m26,sF26,ZA,↓reduceIte,ZB,ZC,ZJ,ZK,ZE,ZF,ZG,ZH,ZI,reduceCtorEq,ZD,mwV,↓mwD,mwU]
     exact ⟨by simp [h1], hx.trans (Ext.drew _)⟩
 · have hk := fit_list hf hl
   have hkk : c.k = 1 ∨ c.k = 2 := by omega
   rw [has_list hl]
   rcases hkk with hk1 | hk1
   all_goals
    rw [hk1] at B2 hx
    simp -dsimp -implicitDefEqProofs only [chV,hk1,m26,sF26,ZA,↓reduceIte,ZB,ZC,ZJ,ZK,ZE,ZF,ZG,ZH,ZI,reduceCtorEq,ZD,mwV,↓mwD,mwU]
    refine mwpB_loop (fun e ds w' => ∃ i : Nat, i ≤ c.L.length ∧ e 5 = .int .i64 i ∧ e 1 = .int .i64 n ∧ e 2 = .pointer (some ⟨w.heap.size, 0, none⟩) ∧ ds = [] ∧ Ext w w' ∧ w'.cell? ⟨w.heap.size, 2, none⟩ = some (.slice p c.L.length cap) ∧ (c.L.take i).contains n = false)
     (fun e _ => c.L.length - (intOf (e 5)).toNat) ?_ ?_
    · simp -dsimp -implicitDefEqProofs only [m26,sF26,ZA,↓reduceIte,ZB,ZC,ZJ,ZK,ZE,ZF,ZG,ZH,ZI,reduceCtorEq,ZD,mwV,↓mwD,mwU]
      exact ⟨0, by omega, rfl, hx, rfl⟩
    · rintro e ds w' ⟨i, hi, h5, h1, h2, rfl, hxw, q2, hp⟩
      simp -dsimp -implicitDefEqProofs only [h5,h1,h2,q2,m26,sF26,ZA,↓reduceIte,ZB,ZC,ZJ,ZK,ZE,ZF,ZG,ZH,ZI,reduceCtorEq,ZD,mwV,↓mwD,mwU]
      refine iteW_dec (fun hlt => ?_) (fun hge => ?_)
      · have hlt' : i < c.L.length := by omega
        obtain ⟨b, o, cap', hv, _, _, hcell⟩ := hs.at (by intro h0; rw [h0] at hlt'; simp at hlt')
        cases hv
        have hck := hxw.cell (hcell i hlt')
        have hb1 : (0 : Int) ≤ i ∧ (i : Int) < c.L.length := by omega
        have hw := w64_succ hlt' (Nat.le_trans hc1 hc2)
        have hsu := contains_take_succ hlt' n
        simp -dsimp -implicitDefEqProofs only [h5,h1,h2,q2,hb1,and_self,hck,m26,sF26,ZA,↓reduceIte,ZB,ZC,ZJ,ZK,ZE,ZF,ZG,ZH,ZI,reduceCtorEq,ZD,mwV,↓mwD,mwU]
        refine iteW_dec (fun he => ?_) (fun he => ?_)
        · simp -dsimp -implicitDefEqProofs only [h5,h1,h2,m26,sF26,ZA,↓reduceIte,ZB,ZC,ZJ,ZK,ZE,ZF,ZG,ZH,ZI,reduceCtorEq,ZD,mwV,↓mwD,mwU]
          refine ⟨?_, hxw⟩
          have : c.L.contains n = true := by rw [List.contains_eq_mem, decide_eq_true_eq, ← he]; exact List.getElem_mem hlt'
          rw [this]
        · simp -dsimp -implicitDefEqProofs only [h5,h1,h2,hw,m26,sF26,ZA,↓reduceIte,ZB,ZC,ZJ,ZK,ZE,ZF,ZG,ZH,ZI,reduceCtorEq,ZD,mwV,↓mwD,mwU]
          refine ⟨⟨i + 1, by omega, rfl, hxw, q2, ?_⟩, ?_⟩
          · rw [hsu, hp]; simp [show ¬ n = c.L[i] from fun e => he e.symm]
          · simp only [intOf]; omega
      · have hil : i = c.L.length := by omega
        subst hil
        rw [List.take_length] at hp
        simp -dsimp -implicitDefEqProofs only [h5,h1,h2,m26,sF26,ZA,↓reduceIte,ZB,ZC,ZJ,ZK,ZE,ZF,ZG,ZH,ZI,reduceCtorEq,ZD,mwV,↓mwD,mwU]
        exact ⟨by rw [hp], hxw⟩
end Go.Proofs.YthcdnjbhhaonhaaGreatDoor

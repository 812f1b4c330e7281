/- Layer 02: package format's within. -/
import Derived.Test.YthcdnjbhhaonhaaGreatDoorQvFoC
import Derived.Test.YthcdnjbhhaonhaaGreatDoorQvChS

namespace Go.Proofs.YthcdnjbhhaonhaaGreatDoor
open Go.RowKit
open Nat renaming reduceEqDiff → ZA, reduceAdd → ZB, reduceMul → ZC, reduceSub → ZD
open Int renaming reduceToNat → ZE, reduceEq → ZF, reduceLT → ZG, reduceLE → ZH, reduceNeg → ZI
open Go.Value renaming oneCell' → ZK, cells → ZJ
set_option linter.unusedSimpArgs false
end Go.Proofs.YthcdnjbhhaonhaaGreatDoor
/- Layer 02: which formats are valid. -/
namespace Go.Proofs.YthcdnjbhhaonhaaGreatDoor
open Go.RowKit
open Nat renaming reduceEqDiff → ZA, reduceAdd → ZB, reduceMul → ZC, reduceSub → ZD
open Int renaming reduceToNat → ZE, reduceEq → ZF, reduceLT → ZG, reduceLE → ZH, reduceNeg → ZI
open Go.Value renaming oneCell' → ZK, cells → ZJ
set_option linter.unusedSimpArgs false
def pkey (F : List Fl) : Nat → Int
 | 0 => 0
 | k + 1 => match F[k]? with | some f => f.key | none => 0
theorem pkey_succ {F : List Fl} {k : Nat} (h : k < F.length) : pkey F (k + 1) = F[k].key := by simp [pkey, List.getElem?_eq_getElem h]
theorem fieldsB_drop {F : List Fl} {k : Nat} (h : k < F.length) : fieldsB (pkey F k) (F.drop k) = (decide (pkey F k < F[k].key) && (decide (F[k].key ≤ 6) && (F[k].c.valid && fieldsB (pkey F (k + 1)) (F.drop (k + 1))))) := by
 rw [List.drop_eq_getElem_cons h, pkey_succ h]; rfl
theorem Valid_c (f : Fm) (s : Value) (w : World) (hs : SlF w s f.F) : Rets Go.Proofs.Tryz.prog 43 #[fmV f s] w fun r w' => r = .bool f.valid ∧ Ext w w' := by
 have hx0 : Ext w (w.alloc (.cells #[.int .i64 f.m, s] 24)) := Ext.alloc _ _
 have hB : Bk (w.alloc (.cells #[.int .i64 f.m, s] 24)) w.heap.size [.int .i64 f.m, s] 24 := Bk.new _ _ _
 obtain ⟨p, cap, rfl, hc1, hc2⟩ := hs.shape
 refine en43 ?_
 simp -dsimp -implicitDefEqProofs only [fmV,m43,sF43,ZA,↓reduceIte,ZB,ZC,ZJ,ZK,ZE,ZF,ZG,ZH,ZI,reduceCtorEq,ZD,mwV,↓mwD,mwU]
 generalize w.alloc (.cells #[.int .i64 f.m, .slice p f.F.length cap] 24) = w1 at *
 have b0 := hB.get (o := 0) rfl
 have b1 := hB.get (o := 1) rfl
 refine mwpB_loop (fun e ds w' => ∃ k : Nat, k ≤ f.F.length ∧ e 8 = .int .i64 k ∧ e 7 = .int .i64 f.F.length ∧ e 6 = .slice p f.F.length cap ∧ e 1 = .pointer (some ⟨w.heap.size, 0, none⟩) ∧ ds = [] ∧ Ext w1 w' ∧ 0 ≤ pkey f.F k ∧ fieldsB 0 f.F = fieldsB (pkey f.F k) (f.F.drop k))
  (fun e _ => f.F.length - (intOf (e 8)).toNat) ?_ ?_
 · simp -dsimp -implicitDefEqProofs only [b0,b1,m43,sF43,ZA,↓reduceIte,ZB,ZC,ZJ,ZK,ZE,ZF,ZG,ZH,ZI,reduceCtorEq,ZD,mwV,↓mwD,mwU]
   exact ⟨0, by omega, rfl, Ext.refl _, by simp [pkey], rfl⟩
 · rintro e ds w' ⟨k, hk, h8, h7, h6, h1, rfl, hx, hpk, hF⟩
   simp -dsimp -implicitDefEqProofs only [h8,h7,h6,h1,m43,sF43,ZA,↓reduceIte,ZB,ZC,ZJ,ZK,ZE,ZF,ZG,ZH,ZI,reduceCtorEq,ZD,mwV,↓mwD,mwU]
   have hB' := hB.ext hx
   refine iteW_dec (fun hlt => ?_) (fun hge => ?_)
   · have hlt' : k < f.F.length := by omega
     obtain ⟨b, o, rfl, hfs⟩ := (hs.ext (hx0.trans hx)).at (by intro h0; rw [h0] at hlt'; simp at hlt')
     obtain ⟨sk, q0, q1, q2, q3, hsk⟩ := hfs.get hlt'
     have hb1 : (0 : Int) ≤ k ∧ (k : Int) < f.F.length := by omega
     have hw := w64_succ hlt' (Nat.le_trans hc1 hc2)
     rw [fieldsB_drop hlt'] at hF
     obtain ⟨ps, cs, rfl, _, _⟩ := hsk.shape
     have hC : Bk (w'.alloc (.cells #[.int .i64 f.F[k].key, .int .i64 f.F[k].c.k, .int .i64 f.F[k].c.d, .slice ps f.F[k].c.L.length cs] 72)) w'.heap.size [.int .i64 f.F[k].key, .int .i64 f.F[k].c.k, .int .i64 f.F[k].c.d, .slice ps f.F[k].c.L.length cs] 72 := Bk.new _ _ _
     have hxC : Ext w' (w'.alloc (.cells #[.int .i64 f.F[k].key, .int .i64 f.F[k].c.k, .int .i64 f.F[k].c.d, .slice ps f.F[k].c.L.length cs] 72)) := Ext.alloc _ _
     simp -dsimp -implicitDefEqProofs only [h8,h7,h6,h1,hb1,and_self,q0,q1,q2,q3,Nat.mul_comm k 4,m43,sF43,ZA,↓reduceIte,ZB,ZC,ZJ,ZK,ZE,ZF,ZG,ZH,ZI,reduceCtorEq,ZD,mwV,↓mwD,mwU]
     generalize w'.alloc _ = W2 at *
     have hxW := hx.trans hxC
     have c0 := hC.get (o := 0) rfl
     have c1 := hC.get (o := 1) rfl
     have c2 := hC.get (o := 2) rfl
     have c3 := hC.get (o := 3) rfl
     have d1 := (hB'.ext hxC).get (o := 1) rfl
     have hxd := hxW.trans (Ext.drew W2)
     refine mwpB_drawE ?_
     by_cases t1 : f.F[k].key < 1
     · simp -dsimp -implicitDefEqProofs only [h8,h7,h6,h1,c0,t1,m43,sF43,ZA,↓reduceIte,ZB,ZC,ZJ,ZK,ZE,ZF,ZG,ZH,ZI,reduceCtorEq,ZD,mwV,↓mwD,mwU]
       have : ¬ pkey f.F k < f.F[k].key := by omega
       exact ⟨by unfold Fm.valid; rw [hF]; simp [this], hx0.trans hxd⟩
     by_cases t2 : 6 < f.F[k].key
     · simp -dsimp -implicitDefEqProofs only [h8,h7,h6,h1,c0,t1,t2,m43,sF43,ZA,↓reduceIte,ZB,ZC,ZJ,ZK,ZE,ZF,ZG,ZH,ZI,reduceCtorEq,ZD,mwV,↓mwD,mwU]
       have : ¬ f.F[k].key ≤ 6 := by omega
       exact ⟨by unfold Fm.valid; rw [hF]; simp [this], hx0.trans hxd⟩
     have e2 : f.F[k].key ≤ 6 := by omega
     have fin : ∀ {w3 : World}, Ext W2.drew w3 → Ext w w3 := fun h => (hx0.trans hxd).trans h
     have next : pkey f.F k < f.F[k].key → f.F[k].c.valid = true → 0 ≤ pkey f.F (k + 1) ∧ fieldsB 0 f.F = fieldsB (pkey f.F (k + 1)) (f.F.drop (k + 1)) := fun h h' => by
      refine ⟨by rw [pkey_succ hlt']; omega, ?_⟩
      rw [hF, h']; simp [h, e2]
     rcases Nat.eq_zero_or_pos k with h0 | h0
     · have z : ¬ (0 : Int) < (k : Int) := by omega
       have hp : pkey f.F k < f.F[k].key := by
        have : pkey f.F k = 0 := by rw [h0]; rfl
        omega
       simp -dsimp -implicitDefEqProofs only [h8,h7,h6,h1,c0,c1,c2,c3,t1,t2,z,m43,sF43,ZA,↓reduceIte,ZB,ZC,ZJ,ZK,ZE,ZF,ZG,ZH,ZI,reduceCtorEq,ZD,mwV,↓mwD,mwU]
       refine (ValidChoice_c f.F[k].c _ W2.drew ((hsk.ext hxC).ext (Ext.drew _))).use ?_
       rintro r w3 ⟨rfl, h3⟩
       cases hv : f.F[k].c.valid
       · simp -dsimp -implicitDefEqProofs only [h3,m43,sF43,ZA,↓reduceIte,ZB,ZC,ZJ,ZK,ZE,ZF,ZG,ZH,ZI,reduceCtorEq,ZD,mwV,↓mwD,mwU]
         exact ⟨by unfold Fm.valid; rw [hF, hv]; simp, fin h3⟩
       · simp -dsimp -implicitDefEqProofs only [h3,h8,h7,h6,h1,hw,m43,sF43,ZA,↓reduceIte,ZB,ZC,ZJ,ZK,ZE,ZF,ZG,ZH,ZI,reduceCtorEq,ZD,mwV,↓mwD,mwU]
         exact ⟨⟨k + 1, by omega, rfl, hxd.trans h3, next hp hv⟩, by simp only [intOf]; omega⟩
     · have z : (0 : Int) < (k : Int) := by omega
       have hk1 : k - 1 < f.F.length := by omega
       obtain ⟨sp, p0, _⟩ := ((hfs.ext hxC).ext (Ext.drew _)).get hk1
       have e3 : pkey f.F k = f.F[k - 1].key := by
        have := pkey_succ hk1
        rw [show k - 1 + 1 = k by omega] at this
        exact this
       have hw3 : IntKind.i64.wrap ((k : Int) - 1) = ((k - 1 : Nat) : Int) := by rw [w64 (by omega) (by unfold maxLen at hc2; omega)]; omega
       have hb3 : (0 : Int) ≤ ((k - 1 : Nat) : Int) ∧ ((k - 1 : Nat) : Int) < f.F.length := by omega
       by_cases t4 : f.F[k].key ≤ f.F[k - 1].key
       · simp -dsimp -implicitDefEqProofs only [h8,h7,h6,h1,c0,c1,c2,c3,d1,t1,t2,z,hw3,hb3,and_self,p0,Nat.mul_comm (k - 1) 4,t4,m43,sF43,ZA,↓reduceIte,ZB,ZC,ZJ,ZK,ZE,ZF,ZG,ZH,ZI,reduceCtorEq,ZD,mwV,↓mwD,mwU]
         have : ¬ pkey f.F k < f.F[k].key := by omega
         exact ⟨by unfold Fm.valid; rw [hF]; simp [this], hx0.trans hxd⟩
       · have hp : pkey f.F k < f.F[k].key := by omega
         simp -dsimp -implicitDefEqProofs only [h8,h7,h6,h1,c0,c1,c2,c3,t1,t2,d1,z,hw3,hb3,and_self,p0,Nat.mul_comm (k - 1) 4,t4,m43,sF43,ZA,↓reduceIte,ZB,ZC,ZJ,ZK,ZE,ZF,ZG,ZH,ZI,reduceCtorEq,ZD,mwV,↓mwD,mwU]
         refine (ValidChoice_c f.F[k].c _ W2.drew ((hsk.ext hxC).ext (Ext.drew _))).use ?_
         rintro r w3 ⟨rfl, h3⟩
         cases hv : f.F[k].c.valid
         · simp -dsimp -implicitDefEqProofs only [h3,m43,sF43,ZA,↓reduceIte,ZB,ZC,ZJ,ZK,ZE,ZF,ZG,ZH,ZI,reduceCtorEq,ZD,mwV,↓mwD,mwU]
           exact ⟨by unfold Fm.valid; rw [hF, hv]; simp, fin h3⟩
         · simp -dsimp -implicitDefEqProofs only [h3,h8,h7,h6,h1,hw,m43,sF43,ZA,↓reduceIte,ZB,ZC,ZJ,ZK,ZE,ZF,ZG,ZH,ZI,reduceCtorEq,ZD,mwV,↓mwD,mwU]
           exact ⟨⟨k + 1, by omega, rfl, hxd.trans h3, next hp hv⟩, by simp only [intOf]; omega⟩
   · have hkl : k = f.F.length := by omega
     subst hkl
     rw [List.drop_length] at hF
     have d0 := hB'.get (o := 0) rfl
     have hv : f.valid = (decide (1 ≤ f.m) && decide (f.m ≤ 3)) := by unfold Fm.valid; rw [hF]; rfl
     rw [hv]
     by_cases t1 : 1 ≤ f.m
     · simp -dsimp -implicitDefEqProofs only [h8,h7,h6,h1,d0,t1,m43,sF43,ZA,↓reduceIte,ZB,ZC,ZJ,ZK,ZE,ZF,ZG,ZH,ZI,reduceCtorEq,ZD,mwV,↓mwD,mwU]
       exact ⟨by simp [t1], hx0.trans hx⟩
     · simp -dsimp -implicitDefEqProofs only [h8,h7,h6,h1,d0,t1,m43,sF43,ZA,↓reduceIte,ZB,ZC,ZJ,ZK,ZE,ZF,ZG,ZH,ZI,reduceCtorEq,ZD,mwV,↓mwD,mwU]
       exact ⟨by simp [t1], hx0.trans hx⟩
end Go.Proofs.YthcdnjbhhaonhaaGreatDoor
/- Layer 02: the reference's Valid; which formats are light. -/
namespace Go.Proofs.YthcdnjbhhaonhaaGreatDoor
open Go.RowKit
open Nat renaming reduceEqDiff → ZA, reduceAdd → ZB, reduceMul → ZC, reduceSub → ZD
open Int renaming reduceToNat → ZE, reduceEq → ZF, reduceLT → ZG, reduceLE → ZH, reduceNeg → ZI
open Go.Value renaming oneCell' → ZK, cells → ZJ
set_option linter.unusedSimpArgs false
theorem refFValid_c (f : Fm) (s : Value) (w : World) (hs : SlF w s f.F) : Rets Go.Proofs.Tryz.prog 27 #[fmV f s] w fun r w' => r = .bool f.valid ∧ Ext w w' := by
 have hx0 : Ext w (w.alloc (.cells #[.int .i64 f.m, s] 24)) := Ext.alloc _ _
 have hB : Bk (w.alloc (.cells #[.int .i64 f.m, s] 24)) w.heap.size [.int .i64 f.m, s] 24 := Bk.new _ _ _
 obtain ⟨p, cap, rfl, hc1, hc2⟩ := hs.shape
 refine en27 ?_
 by_cases m1 : f.m < 1
 · simp -dsimp -implicitDefEqProofs only [fmV,m1,m27,sF27,ZA,↓reduceIte,ZB,ZC,ZJ,ZK,ZE,ZF,ZG,ZH,ZI,reduceCtorEq,ZD,mwV,↓mwD,mwU]
   exact ⟨by have : ¬ 1 ≤ f.m := by omega
             simp [Fm.valid, this], hx0⟩
 by_cases m2 : 3 < f.m
 · simp -dsimp -implicitDefEqProofs only [fmV,m1,m2,m27,sF27,ZA,↓reduceIte,ZB,ZC,ZJ,ZK,ZE,ZF,ZG,ZH,ZI,reduceCtorEq,ZD,mwV,↓mwD,mwU]
   exact ⟨by have : ¬ f.m ≤ 3 := by omega
             simp [Fm.valid, this], hx0⟩
 have hv : f.valid = fieldsB 0 f.F := by
  have e1 : 1 ≤ f.m := by omega
  have e2 : f.m ≤ 3 := by omega
  simp [Fm.valid, e1, e2]
 rw [hv]
 simp -dsimp -implicitDefEqProofs only [fmV,m1,m2,m27,sF27,ZA,↓reduceIte,ZB,ZC,ZJ,ZK,ZE,ZF,ZG,ZH,ZI,reduceCtorEq,ZD,mwV,↓mwD,mwU]
 generalize w.alloc (.cells #[.int .i64 f.m, .slice p f.F.length cap] 24) = w1 at *
 refine mwpB_loop (fun e ds w' => ∃ k : Nat, k ≤ f.F.length ∧ e 3 = .int .i64 k ∧ e 1 = .pointer (some ⟨w.heap.size, 0, none⟩) ∧ ds = [] ∧ Ext w1 w' ∧ 0 ≤ pkey f.F k ∧ fieldsB 0 f.F = fieldsB (pkey f.F k) (f.F.drop k))
  (fun e _ => f.F.length - (intOf (e 3)).toNat) ?_ ?_
 · simp -dsimp -implicitDefEqProofs only [m27,sF27,ZA,↓reduceIte,ZB,ZC,ZJ,ZK,ZE,ZF,ZG,ZH,ZI,reduceCtorEq,ZD,mwV,↓mwD,mwU]
   exact ⟨0, by omega, rfl, Ext.refl _, by simp [pkey], rfl⟩
 · rintro e ds w' ⟨k, hk, h3, h1, rfl, hx, hpk, hF⟩
   have hB' := hB.ext hx
   have d1 := hB'.get (o := 1) rfl
   simp -dsimp -implicitDefEqProofs only [h3,h1,d1,m27,sF27,ZA,↓reduceIte,ZB,ZC,ZJ,ZK,ZE,ZF,ZG,ZH,ZI,reduceCtorEq,ZD,mwV,↓mwD,mwU]
   refine iteW_dec (fun hlt => ?_) (fun hge => ?_)
   · have hlt' : k < f.F.length := by omega
     obtain ⟨b, o, rfl, hfs⟩ := (hs.ext (hx0.trans hx)).at (by intro h0; rw [h0] at hlt'; simp at hlt')
     obtain ⟨sk, q0, q1, q2, q3, hsk⟩ := hfs.get hlt'
     have hb1 : (0 : Int) ≤ k ∧ (k : Int) < f.F.length := by omega
     have hw := w64_succ hlt' (Nat.le_trans hc1 hc2)
     rw [fieldsB_drop hlt'] at hF
     obtain ⟨ps, cs, rfl, _, _⟩ := hsk.shape
     by_cases t1 : f.F[k].key < 1
     · simp -dsimp -implicitDefEqProofs only [h3,h1,d1,hb1,and_self,q0,Nat.mul_comm k 4,t1,m27,sF27,ZA,↓reduceIte,ZB,ZC,ZJ,ZK,ZE,ZF,ZG,ZH,ZI,reduceCtorEq,ZD,mwV,↓mwD,mwU]
       have : ¬ pkey f.F k < f.F[k].key := by omega
       exact ⟨by rw [hF]; simp [this], hx0.trans hx⟩
     by_cases t2 : 6 < f.F[k].key
     · simp -dsimp -implicitDefEqProofs only [h3,h1,d1,hb1,and_self,q0,Nat.mul_comm k 4,t1,t2,m27,sF27,ZA,↓reduceIte,ZB,ZC,ZJ,ZK,ZE,ZF,ZG,ZH,ZI,reduceCtorEq,ZD,mwV,↓mwD,mwU]
       have : ¬ f.F[k].key ≤ 6 := by omega
       exact ⟨by rw [hF]; simp [this], hx0.trans hx⟩
     have e2 : f.F[k].key ≤ 6 := by omega
     have next : pkey f.F k < f.F[k].key → f.F[k].c.valid = true → 0 ≤ pkey f.F (k + 1) ∧ fieldsB 0 f.F = fieldsB (pkey f.F (k + 1)) (f.F.drop (k + 1)) := fun h h' => by
      refine ⟨by rw [pkey_succ hlt']; omega, ?_⟩
      rw [hF, h']; simp [h, e2]
     rcases Nat.eq_zero_or_pos k with h0 | h0
     · have z : ¬ (0 : Int) < (k : Int) := by omega
       have hp : pkey f.F k < f.F[k].key := by
        have : pkey f.F k = 0 := by rw [h0]; rfl
        omega
       simp -dsimp -implicitDefEqProofs only [h3,h1,d1,hb1,and_self,q0,q1,q2,q3,Nat.mul_comm k 4,t1,t2,z,m27,sF27,ZA,↓reduceIte,ZB,ZC,ZJ,ZK,ZE,ZF,ZG,ZH,ZI,reduceCtorEq,ZD,mwV,↓mwD,mwU]
       refine (refValid_c f.F[k].c _ w' hsk).use ?_
       rintro r w3 ⟨rfl, h4⟩
       cases hv : f.F[k].c.valid
       · simp -dsimp -implicitDefEqProofs only [m27,sF27,ZA,↓reduceIte,ZB,ZC,ZJ,ZK,ZE,ZF,ZG,ZH,ZI,reduceCtorEq,ZD,mwV,↓mwD,mwU]
         exact ⟨by rw [hF, hv]; simp, hx0.trans (hx.trans h4)⟩
       · simp -dsimp -implicitDefEqProofs only [h3,h1,hw,m27,sF27,ZA,↓reduceIte,ZB,ZC,ZJ,ZK,ZE,ZF,ZG,ZH,ZI,reduceCtorEq,ZD,mwV,↓mwD,mwU]
         exact ⟨⟨k + 1, by omega, rfl, hx.trans h4, next hp hv⟩, by simp only [intOf]; omega⟩
     · have z : (0 : Int) < (k : Int) := by omega
       have hk1 : k - 1 < f.F.length := by omega
       obtain ⟨sp, p0, _⟩ := hfs.get hk1
       have e3 : pkey f.F k = f.F[k - 1].key := by
        have := pkey_succ hk1
        rw [show k - 1 + 1 = k by omega] at this
        exact this
       have hw3 : IntKind.i64.wrap ((k : Int) - 1) = ((k - 1 : Nat) : Int) := by rw [w64 (by omega) (by unfold maxLen at hc2; omega)]; omega
       have hb3 : (0 : Int) ≤ ((k - 1 : Nat) : Int) ∧ ((k - 1 : Nat) : Int) < f.F.length := by omega
       by_cases t4 : f.F[k].key ≤ f.F[k - 1].key
       · simp -dsimp -implicitDefEqProofs only [h3,h1,d1,hb1,and_self,q0,q1,q2,q3,Nat.mul_comm k 4,t1,t2,z,hw3,hb3,p0,Nat.mul_comm (k - 1) 4,t4,m27,sF27,ZA,↓reduceIte,ZB,ZC,ZJ,ZK,ZE,ZF,ZG,ZH,ZI,reduceCtorEq,ZD,mwV,↓mwD,mwU]
         have : ¬ pkey f.F k < f.F[k].key := by omega
         exact ⟨by rw [hF]; simp [this], hx0.trans hx⟩
       · have hp : pkey f.F k < f.F[k].key := by omega
         simp -dsimp -implicitDefEqProofs only [h3,h1,d1,hb1,and_self,q0,q1,q2,q3,Nat.mul_comm k 4,t1,t2,z,hw3,hb3,p0,Nat.mul_comm (k - 1) 4,t4,m27,sF27,ZA,↓reduceIte,ZB,ZC,ZJ,ZK,ZE,ZF,ZG,ZH,ZI,reduceCtorEq,ZD,mwV,↓mwD,mwU]
         refine (refValid_c f.F[k].c _ w' hsk).use ?_
         rintro r w3 ⟨rfl, h4⟩
         cases hv : f.F[k].c.valid
         · simp -dsimp -implicitDefEqProofs only [m27,sF27,ZA,↓reduceIte,ZB,ZC,ZJ,ZK,ZE,ZF,ZG,ZH,ZI,reduceCtorEq,ZD,mwV,↓mwD,mwU]
           exact ⟨by rw [hF, hv]; simp, hx0.trans (hx.trans h4)⟩
         · simp -dsimp -implicitDefEqProofs only [h3,h1,hw,m27,sF27,ZA,↓reduceIte,ZB,ZC,ZJ,ZK,ZE,ZF,ZG,ZH,ZI,reduceCtorEq,ZD,mwV,↓mwD,mwU]
           exact ⟨⟨k + 1, by omega, rfl, hx.trans h4, next hp hv⟩, by simp only [intOf]; omega⟩
   · have hkl : k = f.F.length := by omega
     subst hkl
     rw [List.drop_length] at hF
     simp -dsimp -implicitDefEqProofs only [h3,h1,m27,sF27,ZA,↓reduceIte,ZB,ZC,ZJ,ZK,ZE,ZF,ZG,ZH,ZI,reduceCtorEq,ZD,mwV,↓mwD,mwU]
     exact ⟨by rw [hF]; rfl, hx0.trans hx⟩
def lightB (f : Fm) : Bool := (f.F.take 12).all (fun x => decide (x.c.L.length ≤ 60)) && decide (f.F.length ≤ 12)
theorem Light_c (f : Fm) (s : Value) (w : World) (hs : SlF w s f.F) : Rets Go.Proofs.Tryz.prog 9 #[fmV f s] w fun r w' => r = .bool (lightB f) ∧ Ext w w' := by
 have hx0 : Ext w (w.alloc (.cells #[.int .i64 f.m, s] 24)) := Ext.alloc _ _
 have hB : Bk (w.alloc (.cells #[.int .i64 f.m, s] 24)) w.heap.size [.int .i64 f.m, s] 24 := Bk.new _ _ _
 obtain ⟨p, cap, rfl, hc1, hc2⟩ := hs.shape
 refine en9 ?_
 simp -dsimp -implicitDefEqProofs only [fmV,m9,sF9,ZA,↓reduceIte,ZB,ZC,ZJ,ZK,ZE,ZF,ZG,ZH,ZI,reduceCtorEq,ZD,mwV,↓mwD,mwU]
 generalize w.alloc (.cells #[.int .i64 f.m, .slice p f.F.length cap] 24) = w1 at *
 have d1 := hB.get (o := 1) rfl
 refine mwpB_loop (fun e ds w' => ∃ k : Nat, k ≤ f.F.length ∧ k ≤ 12 ∧ e 3 = .int .i64 k ∧ e 1 = .pointer (some ⟨w.heap.size, 0, none⟩) ∧ ds = [] ∧ w' = w1 ∧ (f.F.take k).all (fun x => decide (x.c.L.length ≤ 60)) = true)
  (fun e _ => f.F.length - (intOf (e 3)).toNat) ?_ ?_
 · simp -dsimp -implicitDefEqProofs only [m9,sF9,ZA,↓reduceIte,ZB,ZC,ZJ,ZK,ZE,ZF,ZG,ZH,ZI,reduceCtorEq,ZD,mwV,↓mwD,mwU]
   exact ⟨0, by omega, by omega, rfl, rfl⟩
 · rintro e ds w' ⟨k, hk, hk12, h3, h1, rfl, rfl, hall⟩
   by_cases t1 : (k : Int) < (f.F.length : Int)
   · by_cases t2 : (k : Int) < 12
     · have hlt' : k < f.F.length := by omega
       obtain ⟨b, o, rfl, hfs⟩ := (hs.ext hx0).at (by intro h0; rw [h0] at hlt'; simp at hlt')
       obtain ⟨sk, q0, q1, q2, q3, hsk⟩ := hfs.get hlt'
       have hb1 : (0 : Int) ≤ k ∧ (k : Int) < f.F.length := by omega
       have hw := w64_succ hlt' (Nat.le_trans hc1 hc2)
       obtain ⟨ps, cs, rfl, _, _⟩ := hsk.shape
       by_cases t3 : (60 : Int) < (f.F[k].c.L.length : Int)
       · simp -dsimp -implicitDefEqProofs only [h3,h1,d1,t1,t2,hb1,and_self,q3,Nat.mul_comm k 4,t3,m9,sF9,ZA,↓reduceIte,ZB,ZC,ZJ,ZK,ZE,ZF,ZG,ZH,ZI,reduceCtorEq,ZD,mwV,↓mwD,mwU]
         refine ⟨?_, hx0⟩
         have : (f.F.take 12).all (fun x => decide (x.c.L.length ≤ 60)) = false := by
          rw [List.all_eq_false]
          refine ⟨f.F[k], List.mem_take_iff_getElem.2 ⟨k, by omega, rfl⟩, ?_⟩
          simp; omega
         simp [lightB, this]
       · simp -dsimp -implicitDefEqProofs only [h3,h1,d1,t1,t2,hb1,and_self,q3,Nat.mul_comm k 4,t3,hw,m9,sF9,ZA,↓reduceIte,ZB,ZC,ZJ,ZK,ZE,ZF,ZG,ZH,ZI,reduceCtorEq,ZD,mwV,↓mwD,mwU]
         refine ⟨⟨k + 1, by omega, by omega, rfl, ?_⟩, by simp only [intOf]; omega⟩
         rw [List.take_succ_eq_append_getElem hlt', List.all_append, hall]
         simp; omega
     · have hk12' : k = 12 := by omega
       have hn : ¬ (f.F.length : Int) ≤ 12 := by omega
       simp -dsimp -implicitDefEqProofs only [h3,h1,d1,t1,t2,hn,m9,sF9,ZA,↓reduceIte,ZB,ZC,ZJ,ZK,ZE,ZF,ZG,ZH,ZI,reduceCtorEq,ZD,mwV,↓mwD,mwU]
       have hn' : ¬ f.F.length ≤ 12 := by omega
       exact ⟨by simp [lightB, hn'], hx0⟩
   · have hkl : k = f.F.length := by omega
     subst hkl
     have hn : (f.F.length : Int) ≤ 12 := by omega
     have hn' : f.F.length ≤ 12 := by omega
     simp -dsimp -implicitDefEqProofs only [h3,h1,d1,t1,hn,m9,sF9,ZA,↓reduceIte,ZB,ZC,ZJ,ZK,ZE,ZF,ZG,ZH,ZI,reduceCtorEq,ZD,mwV,↓mwD,mwU]
     refine ⟨?_, hx0⟩
     rw [List.take_length] at hall
     simp only [lightB,List.take_of_length_le hn',hall,hn',decide_true,Bool.and_self]
end Go.Proofs.YthcdnjbhhaonhaaGreatDoor
/- Layer 02: package format's Within. -/
namespace Go.Proofs.YthcdnjbhhaonhaaGreatDoor
open Go.RowKit
open Nat renaming reduceEqDiff → ZA, reduceAdd → ZB, reduceMul → ZC, reduceSub → ZD
open Int renaming reduceToNat → ZE, reduceEq → ZF, reduceLT → ZG, reduceLE → ZH, reduceNeg → ZI
open Go.Value renaming oneCell' → ZK, cells → ZJ
set_option linter.unusedSimpArgs false
section
variable {P : Program} {n : Nat}
theorem mwpB_rng {rf A B : Code} {g : Operand} {ps : Array Tmp} (hrf : rf = .rangeFunc g ps A B) {e : Env} {ds : List Deferred} {w : World} {N : Env → List Deferred → World → Prop} {E : Nat → Env → List Deferred → World → Prop} {R : Env → List Deferred → World → Prop} {X : Env → List PanicEntry → List Deferred → World → Prop} {tk}
 {gf : FuncId} {first cap : Array Value} (hg : ev e g = .func (.func gf) first cap) (hok : okF P gf = true)
 (h : ∀ (n : Nat) (fn : FuncId) (tmps : Array Value), tmps.size = n → (∀ t, t < n → tmps[t]? = some (e t)) → fits n (.rangeFunc g ps A B) = true →
  Calls P gf (first ++ #[.func (.yield (w.heap.size + 1)) #[] #[]] ++ cap) ((w.alloc (.deferred (some []))).alloc (.loop (loopRec fn tmps ps A B w.heap.size))) fun en w3 =>
   ∃ v pend w4, en = .returned v ∧ (Instr.endLoop (w.heap.size + 1)).run P w3 = .ok pend w4 ∧ (match pend with
    | none => N e ({ target := .collected w.heap.size, args := #[] } :: ds) w4
    | some .ret => R e ({ target := .collected w.heap.size, args := #[] } :: ds) w4
    | some (.exit i) => E i e ({ target := .collected w.heap.size, args := #[] } :: ds) w4
    | _ => False)) : mwpB P (.raw rf) e ds w N E R X tk := by
 subst hrf
 unfold mwpB
 exact mwp_rangeFunc hg hok h
theorem yield_rnd {l : Nat} {fn : FuncId} {tmps : Array Value} {ps : Array Tmp} {A B : Code} {D : Nat} {args : Array Value} {W : World} {e0 : Env} {g : Operand} {pl : Nat → Plan} {ma mb : MC} {R : Ending → World → Prop} (hm : P.follows .mixedOrders = true) (hl : W.heap[l]? = some (.loop (loopRec fn tmps ps A B D)))
 (hsz : args.size = ps.size) (hn : tmps.size = n) (ht : ∀ t, t < n → tmps[t]? = some (e0 t)) (hf : fits n (.rangeFunc g ps A B) = true)
 (hokA : (plansOk pl A && noDefer A) = true) (hokB : (plansOk pl B && noDefer B) = true) (hsA : strip pl A = ma) (hsB : strip pl B = mb)
 (h : mwpB P ma (setPs e0 ps.toList args.toList) [] W
  (fun e1 ds1 W1 => ds1 = [] ∧ ∃ r1, W1.heap[l]? = some (.loop r1) ∧ r1.state = .ready ∧ mwpB P mb e1 [] (W1.putObj l (.loop { r1 with state := .busy }))
   (fun _ _ W2 => ∃ r2, W2.heap[l]? = some (.loop r2) ∧ R (.returned (.bool true)) (W2.putObj l (.loop { r2 with state := .ready, pending := none })))
   (fun i _ _ W2 => ∃ r2, W2.heap[l]? = some (.loop r2) ∧ R (.returned (.bool false)) (W2.putObj l (.loop { r2 with state := .done, pending := some (.exit i) })))
   (fun _ _ W2 => ∃ r2, W2.heap[l]? = some (.loop r2) ∧ R (.returned (.bool false)) (W2.putObj l (.loop { r2 with state := .done, pending := some .ret })))
   (fun _ _ _ _ => False) ⟨⟩)
  (fun _ _ _ _ => False) (fun _ _ _ => False) (fun _ _ _ _ => False) ⟨⟩) : YieldAt Fence.wide 1 P l args W R := by
 subst hsA
 subst hsB
 unfold mwpB at h
 simp only [Bool.and_eq_true] at hokA hokB
 exact yieldAt_round (r := loopRec fn tmps ps A B D) hm hl hsz hn ht hf ⟨hokA.2, hokA.1⟩ ⟨hokB.2, hokB.1⟩ h
end
theorem endW_nil {P : Program} {rs : List ResultVar} {e : Env} {w : World} {Q : Value → World → Prop} : endW P rs [] e w Q = resW P rs e w fun v => Q v w := by with_unfolding_all rfl
theorem endW_cons {P : Program} {rs : List ResultVar} {d : Deferred} {ds : List Deferred} {e : Env} {w : World} {Q : Value → World → Prop} : endW P rs (d :: ds) e w Q = ∃ r w', d.target = .collected r ∧ (Instr.takeDeferred r).run P w = .ok [] w' ∧ endW P rs ds e w' Q := by with_unfolding_all rfl
theorem setPs_two (e : Env) (p q : Nat) (v u : Value) : setPs e [p, q] [v, u] = upd (upd e p v) q u := rfl
theorem Bk.put {w : World} {b D : Nat} {cs : List Value} {t : TypeId} (h : Bk w b cs t) (hne : D ≠ b) (o : Obj) : Bk (w.putObj D o) b cs t := by
 unfold Bk at h ⊢
 rw [World.putObj_heap_other (Ne.symm hne)]; exact h
structure Set2 (w : World) (b4 b5 : Nat) (v4 v5 : Value) (t4 t5 : TypeId) : Prop where
 s4 : (w.cell? ⟨b4, 0, none⟩).isSome = true
 z4 : w.frozen? ⟨b4, 0, none⟩ = false
 s5 : ((w.setCell ⟨b4, 0, none⟩ v4).cell? ⟨b5, 0, none⟩).isSome = true
 z5 : (w.setCell ⟨b4, 0, none⟩ v4).frozen? ⟨b5, 0, none⟩ = false
 k4 : Bk ((w.setCell ⟨b4, 0, none⟩ v4).setCell ⟨b5, 0, none⟩ v5) b4 [v4] t4
 k5 : Bk ((w.setCell ⟨b4, 0, none⟩ v4).setCell ⟨b5, 0, none⟩ v5) b5 [v5] t5
 ch : ChP (fun k => k = b4 ∨ k = b5) w ((w.setCell ⟨b4, 0, none⟩ v4).setCell ⟨b5, 0, none⟩ v5)
theorem Ends.calls {P : Program} {f : FuncId} {args : Array Value} {w : World} {Q : Value → World → Prop} {X : List PanicEntry → World → Prop} (h : Ends P f args w Q X) : Calls P f args w (endR Q X) := by unfold Ends at h; exact h
theorem FldAt.cells {w : World} {b o : Nat} {f : Fl} (h : FldAt w b o f) : ∃ s, w.cell? ⟨b, o, none⟩ = some (.int .i64 f.key) ∧ w.cell? ⟨b, o + 1, none⟩ = some (.int .i64 f.c.k) ∧ w.cell? ⟨b, o + 2, none⟩ = some (.int .i64 f.c.d) ∧ w.cell? ⟨b, o + 3, none⟩ = some s ∧ SlI w s f.c.L := by
 obtain ⟨s, h1, h2⟩ := h
 exact ⟨s, h1 0 _ rfl, h1 1 _ rfl, h1 2 _ rfl, h1 3 _ rfl, h2⟩
structure WiS (w0 u : World) (D l : Nat) (rec : Loop) (b4 b5 : Nat) (x4 : Bool) : Prop where
 ext : Ext w0 u
 dead : u.heap[D]? = some (.deferred (some []))
 loop : u.heap[l]? = some (.loop rec)
 k4 : Bk u b4 [.bool x4] 4
 k5 : Bk u b5 [.int .i64 0] 28
section
variable {w0 u u' : World} {D l b4 b5 : Nat} {rec r2 : Loop} {x4 : Bool}
theorem WiS.chp {G : Nat → Prop} (h : WiS w0 u D l rec b4 b5 x4) (c : ChP G u u') (hG : ∀ b, G b → w0.heap.size ≤ b) (h1 : ¬ G D) (h2 : ¬ G l) (h3 : ¬ G b4) (h4 : ¬ G b5) : WiS w0 u' D l rec b4 b5 x4 :=
 ⟨c.ext h.ext hG, by rw [c.block D (Array.getElem?_eq_some_iff.1 h.dead).1 h1]; exact h.dead, by rw [c.block l (Array.getElem?_eq_some_iff.1 h.loop).1 h2]; exact h.loop, c.bk h3 h.k4, c.bk h4 h.k5⟩
theorem WiS.next (h : WiS w0 u D l rec b4 b5 x4) (c : Ext u u') : WiS w0 u' D l rec b4 b5 x4 := h.chp (G := fun _ => False) (Ext.chp c) (fun _ h => h.elim) id id id id
theorem WiS.put (h : WiS w0 u D l rec b4 b5 x4) (h0 : w0.heap.size ≤ l) (h1 : l ≠ D) (h3 : l ≠ b4) (h4 : l ≠ b5) : WiS w0 (u.putObj l (.loop r2)) D l r2 b4 b5 x4 := by
 have c : ChP (fun k => k = l) u (u.putObj l (.loop r2)) := ChP.put (G := fun k => k = l) (ChP.refl _ u) (fun _ => rfl) _
 refine ⟨c.ext h.ext (fun b hb => by subst hb; exact h0), by rw [World.putObj_heap_other (Ne.symm h1)]; exact h.dead, ?_, h.k4.put h3 _, h.k5.put h4 _⟩
 exact World.putObj_heap_same (Array.getElem?_eq_some_iff.1 h.loop).1
end
theorem fieldsB_len : ∀ {l : List Fl} {k : Int}, fieldsB k l = true → l = [] ∨ (l.length : Int) + k ≤ 6
 | [], _, _ => .inl rfl
 | f :: l, k, h => by
  have h' := fieldsB_cons.1 h
  rcases fieldsB_len h'.2.2.2 with rfl | h2
  · right; simp; omega
  · right; simp only [List.length_cons]; omega
end Go.Proofs.YthcdnjbhhaonhaaGreatDoor

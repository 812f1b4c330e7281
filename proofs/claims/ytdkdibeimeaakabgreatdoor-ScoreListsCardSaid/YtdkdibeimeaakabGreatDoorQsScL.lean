/- Layer 32: the law ScoreLists. -/
import Derived.Test.YtdkdibeimeaakabGreatDoorQsScK
import Derived.Test.YtdkdibeimeaakabGreatDoorQsRunAw32

namespace Go.Proofs.YtdkdibeimeaakabGreatDoor
open Go.RowKit
open Nat renaming reduceEqDiff → ZA, reduceAdd → ZB, reduceMul → ZC, reduceSub → ZD
open Int renaming reduceToNat → ZE, reduceEq → ZF, reduceLT → ZG, reduceLE → ZH, reduceNeg → ZI
open Go.Value renaming oneCell' → ZK, cells → ZJ
set_option linter.unusedSimpArgs false
set_option linter.unusedVariables false
theorem shiftS_ok {l : List Ev} {num den : Int} (h : (shiftS l num den).2 = 0) : -1000000 ≤ num ∧ num ≤ 1000000 := by
  unfold shiftS at h
  split at h
  · cases h
  · split at h
    · cases h
    · omega
set_option maxHeartbeats 4000000 in
theorem scoreLists_c (a b : List Ev) (va vb : Value) (num den : Int) (w : World) (hE : EnvS w) (hA : SlE w va a) (hB : SlE w vb b) (hn : inE num) (hd : inE den) :
    Rets Go.Proofs.Tryz.prog 5 #[va, vb, .int .i64 num, .int .i64 den] w fun r w' => r = .bool true ∧ Ext w w' := by
  obtain ⟨qa, ca, rfl, ca1, ca2⟩ := hA.shape
  obtain ⟨qb, cb, rfl, cb1, cb2⟩ := hB.shape
  refine en5 ?_
  have aw : ∀ {w' : World}, Ext w w' → Rets Go.Proofs.Tryz.prog 6 #[] w' fun r w'' => r = .bool true ∧ Ext w' w'' := fun hx => awake_c (hE.ext hx)
  by_cases la : (310 : Int) < a.length
  · simp -dsimp -implicitDefEqProofs only [la,m5,sF5,ZA,↓reduceIte,ZB,ZC,ZJ,ZK,ZE,ZF,ZG,ZH,ZI,reduceCtorEq,ZD,mwV,↓mwD,mwU]
    refine (aw (Ext.refl _)).use ?_
    rintro r w1 ⟨rfl, h1⟩
    simp -dsimp -implicitDefEqProofs only [m5,sF5,ZA,↓reduceIte,ZB,ZC,ZJ,ZK,ZE,ZF,ZG,ZH,ZI,reduceCtorEq,ZD,mwV,↓mwD,mwU]
    exact h1
  by_cases lb : (310 : Int) < b.length
  · simp -dsimp -implicitDefEqProofs only [la,lb,m5,sF5,ZA,↓reduceIte,ZB,ZC,ZJ,ZK,ZE,ZF,ZG,ZH,ZI,reduceCtorEq,ZD,mwV,↓mwD,mwU]
    refine (aw (Ext.refl _)).use ?_
    rintro r w1 ⟨rfl, h1⟩
    simp -dsimp -implicitDefEqProofs only [m5,sF5,ZA,↓reduceIte,ZB,ZC,ZJ,ZK,ZE,ZF,ZG,ZH,ZI,reduceCtorEq,ZD,mwV,↓mwD,mwU]
    exact h1
  simp -dsimp -implicitDefEqProofs only [la,lb,m5,sF5,ZA,↓reduceIte,ZB,ZC,ZJ,ZK,ZE,ZF,ZG,ZH,ZI,reduceCtorEq,ZD,mwV,↓mwD,mwU]
  refine (sMerge_c a b _ _ w hA hB).use ?_
  rintro r w1 ⟨x1, v1, rfl, s1⟩
  simp -dsimp -implicitDefEqProofs only [m5,sF5,ZA,↓reduceIte,ZB,ZC,ZJ,ZK,ZE,ZF,ZG,ZH,ZI,reduceCtorEq,ZD,mwV,↓mwD,mwU]
  refine (rMerge_c a b _ _ w1 (hA.ext x1) (hB.ext x1)).use ?_
  rintro r w2 ⟨x2, v2, rfl, s2⟩
  have y2 := x1.trans x2
  simp -dsimp -implicitDefEqProofs only [m5,sF5,ZA,↓reduceIte,ZB,ZC,ZJ,ZK,ZE,ZF,ZG,ZH,ZI,reduceCtorEq,ZD,mwV,↓mwD,mwU]
  refine (sShift_c a _ num den w2 (hA.ext y2) hn hd).use ?_
  rintro r w3 ⟨x3, v3, rfl, s3⟩
  have y3 := y2.trans x3
  simp -dsimp -implicitDefEqProofs only [m5,sF5,ZA,↓reduceIte,ZB,ZC,ZJ,ZK,ZE,ZF,ZG,ZH,ZI,reduceCtorEq,ZD,mwV,↓mwD,mwU]
  refine (rShift_c a _ num den w3 (hA.ext y3) hn hd).use ?_
  rintro r w4 ⟨x4, v4, rfl, s4⟩
  have y4 := y3.trans x4
  simp -dsimp -implicitDefEqProofs only [m5,sF5,ZA,↓reduceIte,ZB,ZC,ZJ,ZK,ZE,ZF,ZG,ZH,ZI,reduceCtorEq,ZD,mwV,↓mwD,mwU]
  refine (same_c _ _ _ w4 (s1.ext (x2.trans (x3.trans x4))) (s2.ext (x3.trans x4))).use ?_
  rintro r w5 ⟨rfl, x5⟩
  have y5 := y4.trans x5
  simp -dsimp -implicitDefEqProofs only [m5,sF5,ZA,↓reduceIte,ZB,ZC,ZJ,ZK,ZE,ZF,ZG,ZH,ZI,reduceCtorEq,ZD,mwV,↓mwD,mwU]
  refine (same_c _ _ _ w5 (s3.ext (x4.trans x5)) (s4.ext x5)).use ?_
  rintro r w6 ⟨rfl, x6⟩
  have y6 := y5.trans x6
  by_cases h0 : (shiftS a num den).2 = 0
  rotate_left
  · simp -dsimp -implicitDefEqProofs only [h0,m5,sF5,ZA,↓reduceIte,ZB,ZC,ZJ,ZK,ZE,ZF,ZG,ZH,ZI,reduceCtorEq,ZD,mwV,↓mwD,mwU]
    refine (aw y6).use ?_
    rintro r w7 ⟨rfl, h7⟩
    simp -dsimp -implicitDefEqProofs only [m5,sF5,ZA,↓reduceIte,ZB,ZC,ZJ,ZK,ZE,ZF,ZG,ZH,ZI,reduceCtorEq,ZD,mwV,↓mwD,mwU]
    exact y6.trans h7
  obtain ⟨n1, n2⟩ := shiftS_ok h0
  obtain ⟨u, hu⟩ : ∃ u, shiftS a num den = (u, 0) := ⟨_, Prod.ext rfl h0⟩
  have hback := shift_back hu
  have wn : IntKind.i64.wrap (0 - num) = -num := by rw [Int.zero_sub]; exact w64 (by omega) (by omega)
  simp -dsimp -implicitDefEqProofs only [h0,wn,m5,sF5,ZA,↓reduceIte,ZB,ZC,ZJ,ZK,ZE,ZF,ZG,ZH,ZI,reduceCtorEq,ZD,mwV,↓mwD,mwU]
  refine (sShift_c u _ (-num) den w6 (by have := s3.ext (x4.trans (x5.trans x6)); rw [hu] at this; exact this) ⟨by omega, by omega⟩ hd).use ?_
  rintro r w7 ⟨x7, v7, rfl, s7⟩
  have y7 := y6.trans x7
  rw [hback] at s7 ⊢
  simp -dsimp -implicitDefEqProofs only [m5,sF5,ZA,↓reduceIte,ZB,ZC,ZJ,ZK,ZE,ZF,ZG,ZH,ZI,reduceCtorEq,ZD,mwV,↓mwD,mwU]
  refine (same_c a _ _ w7 s7 (hA.ext y7)).use ?_
  rintro r w8 ⟨rfl, x8⟩
  have y8 := y7.trans x8
  simp -dsimp -implicitDefEqProofs only [m5,sF5,ZA,↓reduceIte,ZB,ZC,ZJ,ZK,ZE,ZF,ZG,ZH,ZI,reduceCtorEq,ZD,mwV,↓mwD,mwU]
  refine (aw y8).use ?_
  rintro r w9 ⟨rfl, x9⟩
  simp -dsimp -implicitDefEqProofs only [m5,sF5,ZA,↓reduceIte,ZB,ZC,ZJ,ZK,ZE,ZF,ZG,ZH,ZI,reduceCtorEq,ZD,mwV,↓mwD,mwU]
  exact y8.trans x9
end Go.Proofs.YtdkdibeimeaakabGreatDoor

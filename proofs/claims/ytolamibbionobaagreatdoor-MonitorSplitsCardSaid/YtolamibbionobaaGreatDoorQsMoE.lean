/- Layer 34: the law MonitorSplits. -/
import Derived.Test.YtolamibbionobaaGreatDoorQsMoD

namespace Go.Proofs.YtolamibbionobaaGreatDoor
open Go.RowKit
open Nat renaming reduceEqDiff → ZA, reduceAdd → ZB, reduceMul → ZC, reduceSub → ZD
open Int renaming reduceToNat → ZE, reduceEq → ZF, reduceLT → ZG, reduceLE → ZH, reduceNeg → ZI
open Go.Value renaming oneCell' → ZK, cells → ZJ
set_option linter.unusedSimpArgs false
set_option maxHeartbeats 1000000 in
theorem lawS_c (s : By) (w : World) (hE : EnvS w) (haw : ∀ w', Ext w w' → Rets Go.Proofs.Tryz.prog 5 #[] w' fun r w2 => r = .bool true ∧ Ext w' w2) :
    Rets Go.Proofs.Tryz.prog 3 #[.string (bw s)] w fun r w' => r = .bool true ∧ Ext w w' := by
  refine en3 ?_
  simp -dsimp -implicitDefEqProofs only [m3,sF3,ZA,↓reduceIte,ZB,ZC,ZJ,ZK,ZE,ZF,ZG,ZH,ZI,reduceCtorEq,ZD,mwV,↓mwD,mwU]
  refine (haw w (Ext.refl _)).use ?_
  rintro r w1 ⟨rfl, h1⟩
  by_cases hl : (500 : Int) < s.length
  · simp -dsimp -implicitDefEqProofs only [bw_size,hl,m3,sF3,ZA,↓reduceIte,ZB,ZC,ZJ,ZK,ZE,ZF,ZG,ZH,ZI,reduceCtorEq,ZD,mwV,↓mwD,mwU]
    exact h1
  simp -dsimp -implicitDefEqProofs only [bw_size,hl,m3,sF3,ZA,↓reduceIte,ZB,ZC,ZJ,ZK,ZE,ZF,ZG,ZH,ZI,reduceCtorEq,ZD,mwV,↓mwD,mwU]
  refine (Msplit_c s w1 (by omega) (hE.ext h1)).use ?_
  rintro r w2 ⟨rfl, h2⟩
  have hx2 := h1.trans h2
  rw [sp_eq]
  have fin : ∀ {w'}, Ext w2 w' → Ext w w' := fun h => hx2.trans h
  cases hr : spR s with
  | none =>
    simp -dsimp -implicitDefEqProofs only [spT,m3,sF3,ZA,↓reduceIte,ZB,ZC,ZJ,ZK,ZE,ZF,ZG,ZH,ZI,reduceCtorEq,ZD,mwV,↓mwD,mwU]
    refine (Rsplit_c s w2 (by omega)).use ?_
    rintro r w3 ⟨rfl, h3⟩
    rw [hr]
    simp -dsimp -implicitDefEqProofs only [spT,binV_eqS,decide_true,beq_self_eq_true,m3,sF3,ZA,↓reduceIte,ZB,ZC,ZJ,ZK,ZE,ZF,ZG,ZH,ZI,reduceCtorEq,ZD,mwV,↓mwD,mwU]
    exact fin h3
  | some x =>
    obtain ⟨a, o, k⟩ := x
    simp -dsimp -implicitDefEqProofs only [spT,m3,sF3,ZA,↓reduceIte,ZB,ZC,ZJ,ZK,ZE,ZF,ZG,ZH,ZI,reduceCtorEq,ZD,mwV,↓mwD,mwU]
    refine (Rsplit_c s w2 (by omega)).use ?_
    rintro r w3 ⟨rfl, h3⟩
    rw [hr]
    simp -dsimp -implicitDefEqProofs only [spT,binV_eqS,decide_true,beq_self_eq_true,m3,sF3,ZA,↓reduceIte,ZB,ZC,ZJ,ZK,ZE,ZF,ZG,ZH,ZI,reduceCtorEq,ZD,mwV,↓mwD,mwU]
    exact fin h3
end Go.Proofs.YtolamibbionobaaGreatDoor

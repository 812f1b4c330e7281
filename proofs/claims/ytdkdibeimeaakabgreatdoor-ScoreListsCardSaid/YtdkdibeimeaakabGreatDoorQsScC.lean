/- Layer 32: what is a valid order by the reference; what is wrong in a score, by the program and by the reference. -/
import Derived.Test.YtdkdibeimeaakabGreatDoorQsScB

namespace Go.Proofs.YtdkdibeimeaakabGreatDoor
open Go.RowKit
open Nat renaming reduceEqDiff → ZA, reduceAdd → ZB, reduceMul → ZC, reduceSub → ZD
open Int renaming reduceToNat → ZE, reduceEq → ZF, reduceLT → ZG, reduceLE → ZH, reduceNeg → ZI
open Go.Value renaming oneCell' → ZK, cells → ZJ
set_option linter.unusedSimpArgs false
set_option linter.unusedVariables false
set_option maxHeartbeats 4000000 in
set_option maxRecDepth 4000 in
theorem rvalid_c (x : Od) (w : World) : Rets Go.Proofs.Tryz.prog 67 #[odV x] w fun r w' => r = .bool (okO x) ∧ Ext w w' := by
  obtain ⟨t, d, id, syn, to, n, par⟩ := x
  have no : (okO ⟨t, d, id, syn, to, n, par⟩ = true → False) → okO ⟨t, d, id, syn, to, n, par⟩ = false := okO_no
  have yes := okO_iff ⟨t, d, id, syn, to, n, par⟩
  simp only [eB] at yes
  generalize okO ⟨t, d, id, syn, to, n, par⟩ = res at *
  obtain ⟨W, hW, A, x0⟩ := new_bk' w [.int .i64 t, .int .i64 d, .int .i64 id, .string syn, .int .i64 to, .int .i64 n, .string par] 40
  have A0 := A.get (o := 0) rfl
  have A1 := A.get (o := 1) rfl
  have A2 := A.get (o := 2) rfl
  have A3 := A.get (o := 3) rfl
  have A4 := A.get (o := 4) rfl
  have A5 := A.get (o := 5) rfl
  have A6 := A.get (o := 6) rfl
  refine en67 ?_
  by_cases c0 : t < 0
  · simp -dsimp -implicitDefEqProofs only [odV,← hW,A0,A1,A2,A3,A4,A5,A6,c0,m67,sF67,ZA,↓reduceIte,ZB,ZC,ZJ,ZK,ZE,ZF,ZG,ZH,ZI,reduceCtorEq,ZD,mwV,↓mwD,mwU]
    have e := no fun h => by have h2 := (yes.1 h); omega
    exact ⟨by rw [e], x0⟩
  by_cases c1 : 1000000000 < t
  · simp -dsimp -implicitDefEqProofs only [odV,← hW,A0,A1,A2,A3,A4,A5,A6,c0,c1,m67,sF67,ZA,↓reduceIte,ZB,ZC,ZJ,ZK,ZE,ZF,ZG,ZH,ZI,reduceCtorEq,ZD,mwV,↓mwD,mwU]
    have e := no fun h => by have h2 := (yes.1 h); omega
    exact ⟨by rw [e], x0⟩
  by_cases c2 : id < 1
  · simp -dsimp -implicitDefEqProofs only [odV,← hW,A0,A1,A2,A3,A4,A5,A6,c0,c1,c2,m67,sF67,ZA,↓reduceIte,ZB,ZC,ZJ,ZK,ZE,ZF,ZG,ZH,ZI,reduceCtorEq,ZD,mwV,↓mwD,mwU]
    have e := no fun h => by have h2 := (yes.1 h); omega
    exact ⟨by rw [e], x0⟩
  by_cases c3 : 1000000000 < id
  · simp -dsimp -implicitDefEqProofs only [odV,← hW,A0,A1,A2,A3,A4,A5,A6,c0,c1,c2,c3,m67,sF67,ZA,↓reduceIte,ZB,ZC,ZJ,ZK,ZE,ZF,ZG,ZH,ZI,reduceCtorEq,ZD,mwV,↓mwD,mwU]
    have e := no fun h => by have h2 := (yes.1 h); omega
    exact ⟨by rw [e], x0⟩
  by_cases c4 : to < 0
  · simp -dsimp -implicitDefEqProofs only [odV,← hW,A0,A1,A2,A3,A4,A5,A6,c0,c1,c2,c3,c4,m67,sF67,ZA,↓reduceIte,ZB,ZC,ZJ,ZK,ZE,ZF,ZG,ZH,ZI,reduceCtorEq,ZD,mwV,↓mwD,mwU]
    have e := no fun h => by have h2 := (yes.1 h); omega
    exact ⟨by rw [e], x0⟩
  by_cases c5 : 1000000000 < to
  · simp -dsimp -implicitDefEqProofs only [odV,← hW,A0,A1,A2,A3,A4,A5,A6,c0,c1,c2,c3,c4,c5,m67,sF67,ZA,↓reduceIte,ZB,ZC,ZJ,ZK,ZE,ZF,ZG,ZH,ZI,reduceCtorEq,ZD,mwV,↓mwD,mwU]
    have e := no fun h => by have h2 := (yes.1 h); omega
    exact ⟨by rw [e], x0⟩
  by_cases c6 : 20 < (syn.size : Int)
  · simp -dsimp -implicitDefEqProofs only [odV,← hW,A0,A1,A2,A3,A4,A5,A6,c0,c1,c2,c3,c4,c5,c6,m67,sF67,ZA,↓reduceIte,ZB,ZC,ZJ,ZK,ZE,ZF,ZG,ZH,ZI,reduceCtorEq,ZD,mwV,↓mwD,mwU]
    have e := no fun h => by have h2 := (yes.1 h); omega
    exact ⟨by rw [e], x0⟩
  by_cases c7 : 20 < (par.size : Int)
  · simp -dsimp -implicitDefEqProofs only [odV,← hW,A0,A1,A2,A3,A4,A5,A6,c0,c1,c2,c3,c4,c5,c6,c7,m67,sF67,ZA,↓reduceIte,ZB,ZC,ZJ,ZK,ZE,ZF,ZG,ZH,ZI,reduceCtorEq,ZD,mwV,↓mwD,mwU]
    have e := no fun h => by have h2 := (yes.1 h); omega
    exact ⟨by rw [e], x0⟩
  by_cases hd : 1 ≤ d ∧ d ≤ 7
  rotate_left
  · have n1 : ¬ d = 1 := by omega
    have n2 : ¬ d = 2 := by omega
    have n3 : ¬ d = 3 := by omega
    have n4 : ¬ d = 4 := by omega
    have n5 : ¬ d = 5 := by omega
    have n6 : ¬ d = 6 := by omega
    have n7 : ¬ d = 7 := by omega
    simp -dsimp -implicitDefEqProofs only [odV,← hW,A0,A1,A2,A3,A4,A5,A6,c0,c1,c2,c3,c4,c5,c6,c7,n1,n2,n3,n4,n5,n6,n7,m67,sF67,ZA,↓reduceIte,ZB,ZC,ZJ,ZK,ZE,ZF,ZG,ZH,ZI,reduceCtorEq,ZD,mwV,↓mwD,mwU]
    have e := no fun h => by have h2 := (yes.1 h).1; omega
    exact ⟨by rw [e], x0⟩
  have h7 : d = 1 ∨ d = 2 ∨ d = 3 ∨ d = 4 ∨ d = 5 ∨ d = 6 ∨ d = 7 := by omega
  rcases h7 with rfl | rfl | rfl | rfl | rfl | rfl | rfl
  · have hl : loD 1 = 0 := rfl
    have hh : hiD 1 = 1 := rfl
    rw [hl, hh] at yes
    by_cases u1 : n < 0
    · simp -dsimp -implicitDefEqProofs only [odV,← hW,A0,A1,A2,A3,A4,A5,A6,c0,c1,c2,c3,c4,c5,c6,c7,u1,m67,sF67,ZA,↓reduceIte,ZB,ZC,ZJ,ZK,ZE,ZF,ZG,ZH,ZI,reduceCtorEq,ZD,mwV,↓mwD,mwU]
      have e := no fun h => by have h2 := (yes.1 h).2.2.2.2; omega
      exact ⟨by rw [e], x0⟩
    by_cases u2 : 1 < n
    · simp -dsimp -implicitDefEqProofs only [odV,← hW,A0,A1,A2,A3,A4,A5,A6,c0,c1,c2,c3,c4,c5,c6,c7,u1,u2,m67,sF67,ZA,↓reduceIte,ZB,ZC,ZJ,ZK,ZE,ZF,ZG,ZH,ZI,reduceCtorEq,ZD,mwV,↓mwD,mwU]
      have e := no fun h => by have h2 := (yes.1 h).2.2.2.2; omega
      exact ⟨by rw [e], x0⟩
    cases u4 : decide (par ≠ ⟨#[]⟩)
    rotate_left
    · simp -dsimp -implicitDefEqProofs only [odV,← hW,A0,A1,A2,A3,A4,A5,A6,c0,c1,c2,c3,c4,c5,c6,c7,u1,u2,binV_neS,u4,m67,sF67,ZA,↓reduceIte,ZB,ZC,ZJ,ZK,ZE,ZF,ZG,ZH,ZI,reduceCtorEq,ZD,mwV,↓mwD,mwU]
      have e := no fun h => by
        simp only [decide_eq_true_eq] at u4
        exact (yes.1 h).2.2.2.1.elim (by decide) (·.elim (by decide) u4)
      exact ⟨by rw [e], x0⟩
    have v4 : par = ⟨#[]⟩ := by simpa using u4
    have e : res = true := yes.2 ⟨⟨by omega, by omega, by omega, by omega, by omega, by omega, by omega, by omega⟩, .inl rfl, .inl rfl, .inr (.inr v4), by omega, by omega, by omega, by omega⟩
    by_cases u5 : to = 0
    · have u6 : decide (to = 0) = true := by simp [u5]
      simp -dsimp -implicitDefEqProofs only [odV,← hW,A0,A1,A2,A3,A4,A5,A6,c0,c1,c2,c3,c4,c5,c6,c7,u1,u2,binV_neS,u4,u6,m67,sF67,ZA,↓reduceIte,ZB,ZC,ZJ,ZK,ZE,ZF,ZG,ZH,ZI,reduceCtorEq,ZD,mwV,↓mwD,mwU]
      exact ⟨by rw [e], x0⟩
    · simp -dsimp -implicitDefEqProofs only [odV,← hW,A0,A1,A2,A3,A4,A5,A6,c0,c1,c2,c3,c4,c5,c6,c7,u1,u2,binV_neS,u4,u5,m67,sF67,ZA,↓reduceIte,ZB,ZC,ZJ,ZK,ZE,ZF,ZG,ZH,ZI,reduceCtorEq,ZD,mwV,↓mwD,mwU]
      exact ⟨by rw [e], x0⟩
  · have hl : loD 2 = 0 := rfl
    have hh : hiD 2 = 1 := rfl
    rw [hl, hh] at yes
    by_cases u1 : n < 0
    · simp -dsimp -implicitDefEqProofs only [odV,← hW,A0,A1,A2,A3,A4,A5,A6,c0,c1,c2,c3,c4,c5,c6,c7,u1,m67,sF67,ZA,↓reduceIte,ZB,ZC,ZJ,ZK,ZE,ZF,ZG,ZH,ZI,reduceCtorEq,ZD,mwV,↓mwD,mwU]
      have e := no fun h => by have h2 := (yes.1 h).2.2.2.2; omega
      exact ⟨by rw [e], x0⟩
    by_cases u2 : 1 < n
    · simp -dsimp -implicitDefEqProofs only [odV,← hW,A0,A1,A2,A3,A4,A5,A6,c0,c1,c2,c3,c4,c5,c6,c7,u1,u2,m67,sF67,ZA,↓reduceIte,ZB,ZC,ZJ,ZK,ZE,ZF,ZG,ZH,ZI,reduceCtorEq,ZD,mwV,↓mwD,mwU]
      have e := no fun h => by have h2 := (yes.1 h).2.2.2.2; omega
      exact ⟨by rw [e], x0⟩
    cases u3 : decide (syn ≠ ⟨#[]⟩)
    rotate_left
    · simp -dsimp -implicitDefEqProofs only [odV,← hW,A0,A1,A2,A3,A4,A5,A6,c0,c1,c2,c3,c4,c5,c6,c7,u1,u2,binV_neS,u3,m67,sF67,ZA,↓reduceIte,ZB,ZC,ZJ,ZK,ZE,ZF,ZG,ZH,ZI,reduceCtorEq,ZD,mwV,↓mwD,mwU]
      have e := no fun h => by
        simp only [decide_eq_true_eq] at u3
        exact (yes.1 h).2.1.elim (by decide) u3
      exact ⟨by rw [e], x0⟩
    have v3 : syn = ⟨#[]⟩ := by simpa using u3
    cases u4 : decide (par ≠ ⟨#[]⟩)
    rotate_left
    · simp -dsimp -implicitDefEqProofs only [odV,← hW,A0,A1,A2,A3,A4,A5,A6,c0,c1,c2,c3,c4,c5,c6,c7,u1,u2,binV_neS,u3,binV_neS,u4,m67,sF67,ZA,↓reduceIte,ZB,ZC,ZJ,ZK,ZE,ZF,ZG,ZH,ZI,reduceCtorEq,ZD,mwV,↓mwD,mwU]
      have e := no fun h => by
        simp only [decide_eq_true_eq] at u4
        exact (yes.1 h).2.2.2.1.elim (by decide) (·.elim (by decide) u4)
      exact ⟨by rw [e], x0⟩
    have v4 : par = ⟨#[]⟩ := by simpa using u4
    have e : res = true := yes.2 ⟨⟨by omega, by omega, by omega, by omega, by omega, by omega, by omega, by omega⟩, .inr v3, .inr (.inl rfl), .inr (.inr v4), by omega, by omega, by omega, by omega⟩
    by_cases u5 : to = 0
    · have u6 : decide (to = 0) = true := by simp [u5]
      simp -dsimp -implicitDefEqProofs only [odV,← hW,A0,A1,A2,A3,A4,A5,A6,c0,c1,c2,c3,c4,c5,c6,c7,u1,u2,binV_neS,u3,binV_neS,u4,u6,m67,sF67,ZA,↓reduceIte,ZB,ZC,ZJ,ZK,ZE,ZF,ZG,ZH,ZI,reduceCtorEq,ZD,mwV,↓mwD,mwU]
      exact ⟨by rw [e], x0⟩
    · simp -dsimp -implicitDefEqProofs only [odV,← hW,A0,A1,A2,A3,A4,A5,A6,c0,c1,c2,c3,c4,c5,c6,c7,u1,u2,binV_neS,u3,binV_neS,u4,u5,m67,sF67,ZA,↓reduceIte,ZB,ZC,ZJ,ZK,ZE,ZF,ZG,ZH,ZI,reduceCtorEq,ZD,mwV,↓mwD,mwU]
      exact ⟨by rw [e], x0⟩
  · have hl : loD 3 = 0 := rfl
    have hh : hiD 3 = 0 := rfl
    rw [hl, hh] at yes
    by_cases u1 : n < 0
    · simp -dsimp -implicitDefEqProofs only [odV,← hW,A0,A1,A2,A3,A4,A5,A6,c0,c1,c2,c3,c4,c5,c6,c7,u1,m67,sF67,ZA,↓reduceIte,ZB,ZC,ZJ,ZK,ZE,ZF,ZG,ZH,ZI,reduceCtorEq,ZD,mwV,↓mwD,mwU]
      have e := no fun h => by have h2 := (yes.1 h).2.2.2.2; omega
      exact ⟨by rw [e], x0⟩
    by_cases u2 : 0 < n
    · simp -dsimp -implicitDefEqProofs only [odV,← hW,A0,A1,A2,A3,A4,A5,A6,c0,c1,c2,c3,c4,c5,c6,c7,u1,u2,m67,sF67,ZA,↓reduceIte,ZB,ZC,ZJ,ZK,ZE,ZF,ZG,ZH,ZI,reduceCtorEq,ZD,mwV,↓mwD,mwU]
      have e := no fun h => by have h2 := (yes.1 h).2.2.2.2; omega
      exact ⟨by rw [e], x0⟩
    cases u3 : decide (syn ≠ ⟨#[]⟩)
    rotate_left
    · simp -dsimp -implicitDefEqProofs only [odV,← hW,A0,A1,A2,A3,A4,A5,A6,c0,c1,c2,c3,c4,c5,c6,c7,u1,u2,binV_neS,u3,m67,sF67,ZA,↓reduceIte,ZB,ZC,ZJ,ZK,ZE,ZF,ZG,ZH,ZI,reduceCtorEq,ZD,mwV,↓mwD,mwU]
      have e := no fun h => by
        simp only [decide_eq_true_eq] at u3
        exact (yes.1 h).2.1.elim (by decide) u3
      exact ⟨by rw [e], x0⟩
    have v3 : syn = ⟨#[]⟩ := by simpa using u3
    cases u4 : decide (par ≠ ⟨#[]⟩)
    rotate_left
    · simp -dsimp -implicitDefEqProofs only [odV,← hW,A0,A1,A2,A3,A4,A5,A6,c0,c1,c2,c3,c4,c5,c6,c7,u1,u2,binV_neS,u3,binV_neS,u4,m67,sF67,ZA,↓reduceIte,ZB,ZC,ZJ,ZK,ZE,ZF,ZG,ZH,ZI,reduceCtorEq,ZD,mwV,↓mwD,mwU]
      have e := no fun h => by
        simp only [decide_eq_true_eq] at u4
        exact (yes.1 h).2.2.2.1.elim (by decide) (·.elim (by decide) u4)
      exact ⟨by rw [e], x0⟩
    have v4 : par = ⟨#[]⟩ := by simpa using u4
    by_cases u5 : to = 0
    · have e : res = true := yes.2 ⟨⟨by omega, by omega, by omega, by omega, by omega, by omega, by omega, by omega⟩, .inr v3, .inr (.inr (.inr u5)), .inr (.inr v4), by omega, by omega, by omega, by omega⟩
      have u6 : decide (to = 0) = true := by simp [u5]
      simp -dsimp -implicitDefEqProofs only [odV,← hW,A0,A1,A2,A3,A4,A5,A6,c0,c1,c2,c3,c4,c5,c6,c7,u1,u2,binV_neS,u3,binV_neS,u4,u6,m67,sF67,ZA,↓reduceIte,ZB,ZC,ZJ,ZK,ZE,ZF,ZG,ZH,ZI,reduceCtorEq,ZD,mwV,↓mwD,mwU]
      exact ⟨by rw [e], x0⟩
    · have e := no fun h => by have h2 := (yes.1 h).2.2.1; omega
      simp -dsimp -implicitDefEqProofs only [odV,← hW,A0,A1,A2,A3,A4,A5,A6,c0,c1,c2,c3,c4,c5,c6,c7,u1,u2,binV_neS,u3,binV_neS,u4,u5,m67,sF67,ZA,↓reduceIte,ZB,ZC,ZJ,ZK,ZE,ZF,ZG,ZH,ZI,reduceCtorEq,ZD,mwV,↓mwD,mwU]
      exact ⟨by rw [e], x0⟩
  · have hl : loD 4 = -1099511627776 := rfl
    have hh : hiD 4 = 1099511627776 := rfl
    rw [hl, hh] at yes
    by_cases u1 : n < -1099511627776
    · simp -dsimp -implicitDefEqProofs only [odV,← hW,A0,A1,A2,A3,A4,A5,A6,c0,c1,c2,c3,c4,c5,c6,c7,u1,m67,sF67,ZA,↓reduceIte,ZB,ZC,ZJ,ZK,ZE,ZF,ZG,ZH,ZI,reduceCtorEq,ZD,mwV,↓mwD,mwU]
      have e := no fun h => by have h2 := (yes.1 h).2.2.2.2; omega
      exact ⟨by rw [e], x0⟩
    by_cases u2 : 1099511627776 < n
    · simp -dsimp -implicitDefEqProofs only [odV,← hW,A0,A1,A2,A3,A4,A5,A6,c0,c1,c2,c3,c4,c5,c6,c7,u1,u2,m67,sF67,ZA,↓reduceIte,ZB,ZC,ZJ,ZK,ZE,ZF,ZG,ZH,ZI,reduceCtorEq,ZD,mwV,↓mwD,mwU]
      have e := no fun h => by have h2 := (yes.1 h).2.2.2.2; omega
      exact ⟨by rw [e], x0⟩
    cases u3 : decide (syn ≠ ⟨#[]⟩)
    rotate_left
    · simp -dsimp -implicitDefEqProofs only [odV,← hW,A0,A1,A2,A3,A4,A5,A6,c0,c1,c2,c3,c4,c5,c6,c7,u1,u2,binV_neS,u3,m67,sF67,ZA,↓reduceIte,ZB,ZC,ZJ,ZK,ZE,ZF,ZG,ZH,ZI,reduceCtorEq,ZD,mwV,↓mwD,mwU]
      have e := no fun h => by
        simp only [decide_eq_true_eq] at u3
        exact (yes.1 h).2.1.elim (by decide) u3
      exact ⟨by rw [e], x0⟩
    have v3 : syn = ⟨#[]⟩ := by simpa using u3
    by_cases u5 : to = 0
    · have e : res = true := yes.2 ⟨⟨by omega, by omega, by omega, by omega, by omega, by omega, by omega, by omega⟩, .inr v3, .inr (.inr (.inr u5)), .inl rfl, by omega, by omega, by omega, by omega⟩
      have u6 : decide (to = 0) = true := by simp [u5]
      simp -dsimp -implicitDefEqProofs only [odV,← hW,A0,A1,A2,A3,A4,A5,A6,c0,c1,c2,c3,c4,c5,c6,c7,u1,u2,binV_neS,u3,u6,m67,sF67,ZA,↓reduceIte,ZB,ZC,ZJ,ZK,ZE,ZF,ZG,ZH,ZI,reduceCtorEq,ZD,mwV,↓mwD,mwU]
      exact ⟨by rw [e], x0⟩
    · have e := no fun h => by have h2 := (yes.1 h).2.2.1; omega
      simp -dsimp -implicitDefEqProofs only [odV,← hW,A0,A1,A2,A3,A4,A5,A6,c0,c1,c2,c3,c4,c5,c6,c7,u1,u2,binV_neS,u3,u5,m67,sF67,ZA,↓reduceIte,ZB,ZC,ZJ,ZK,ZE,ZF,ZG,ZH,ZI,reduceCtorEq,ZD,mwV,↓mwD,mwU]
      exact ⟨by rw [e], x0⟩
  · have hl : loD 5 = 0 := rfl
    have hh : hiD 5 = 1 := rfl
    rw [hl, hh] at yes
    by_cases u1 : n < 0
    · simp -dsimp -implicitDefEqProofs only [odV,← hW,A0,A1,A2,A3,A4,A5,A6,c0,c1,c2,c3,c4,c5,c6,c7,u1,m67,sF67,ZA,↓reduceIte,ZB,ZC,ZJ,ZK,ZE,ZF,ZG,ZH,ZI,reduceCtorEq,ZD,mwV,↓mwD,mwU]
      have e := no fun h => by have h2 := (yes.1 h).2.2.2.2; omega
      exact ⟨by rw [e], x0⟩
    by_cases u2 : 1 < n
    · simp -dsimp -implicitDefEqProofs only [odV,← hW,A0,A1,A2,A3,A4,A5,A6,c0,c1,c2,c3,c4,c5,c6,c7,u1,u2,m67,sF67,ZA,↓reduceIte,ZB,ZC,ZJ,ZK,ZE,ZF,ZG,ZH,ZI,reduceCtorEq,ZD,mwV,↓mwD,mwU]
      have e := no fun h => by have h2 := (yes.1 h).2.2.2.2; omega
      exact ⟨by rw [e], x0⟩
    cases u3 : decide (syn ≠ ⟨#[]⟩)
    rotate_left
    · simp -dsimp -implicitDefEqProofs only [odV,← hW,A0,A1,A2,A3,A4,A5,A6,c0,c1,c2,c3,c4,c5,c6,c7,u1,u2,binV_neS,u3,m67,sF67,ZA,↓reduceIte,ZB,ZC,ZJ,ZK,ZE,ZF,ZG,ZH,ZI,reduceCtorEq,ZD,mwV,↓mwD,mwU]
      have e := no fun h => by
        simp only [decide_eq_true_eq] at u3
        exact (yes.1 h).2.1.elim (by decide) u3
      exact ⟨by rw [e], x0⟩
    have v3 : syn = ⟨#[]⟩ := by simpa using u3
    cases u4 : decide (par ≠ ⟨#[]⟩)
    rotate_left
    · simp -dsimp -implicitDefEqProofs only [odV,← hW,A0,A1,A2,A3,A4,A5,A6,c0,c1,c2,c3,c4,c5,c6,c7,u1,u2,binV_neS,u3,binV_neS,u4,m67,sF67,ZA,↓reduceIte,ZB,ZC,ZJ,ZK,ZE,ZF,ZG,ZH,ZI,reduceCtorEq,ZD,mwV,↓mwD,mwU]
      have e := no fun h => by
        simp only [decide_eq_true_eq] at u4
        exact (yes.1 h).2.2.2.1.elim (by decide) (·.elim (by decide) u4)
      exact ⟨by rw [e], x0⟩
    have v4 : par = ⟨#[]⟩ := by simpa using u4
    have e : res = true := yes.2 ⟨⟨by omega, by omega, by omega, by omega, by omega, by omega, by omega, by omega⟩, .inr v3, .inr (.inr (.inl rfl)), .inr (.inr v4), by omega, by omega, by omega, by omega⟩
    by_cases u5 : to = 0
    · have u6 : decide (to = 0) = true := by simp [u5]
      simp -dsimp -implicitDefEqProofs only [odV,← hW,A0,A1,A2,A3,A4,A5,A6,c0,c1,c2,c3,c4,c5,c6,c7,u1,u2,binV_neS,u3,binV_neS,u4,u6,m67,sF67,ZA,↓reduceIte,ZB,ZC,ZJ,ZK,ZE,ZF,ZG,ZH,ZI,reduceCtorEq,ZD,mwV,↓mwD,mwU]
      exact ⟨by rw [e], x0⟩
    · simp -dsimp -implicitDefEqProofs only [odV,← hW,A0,A1,A2,A3,A4,A5,A6,c0,c1,c2,c3,c4,c5,c6,c7,u1,u2,binV_neS,u3,binV_neS,u4,u5,m67,sF67,ZA,↓reduceIte,ZB,ZC,ZJ,ZK,ZE,ZF,ZG,ZH,ZI,reduceCtorEq,ZD,mwV,↓mwD,mwU]
      exact ⟨by rw [e], x0⟩
  · have hl : loD 6 = 0 := rfl
    have hh : hiD 6 = 1 := rfl
    rw [hl, hh] at yes
    by_cases u1 : n < 0
    · simp -dsimp -implicitDefEqProofs only [odV,← hW,A0,A1,A2,A3,A4,A5,A6,c0,c1,c2,c3,c4,c5,c6,c7,u1,m67,sF67,ZA,↓reduceIte,ZB,ZC,ZJ,ZK,ZE,ZF,ZG,ZH,ZI,reduceCtorEq,ZD,mwV,↓mwD,mwU]
      have e := no fun h => by have h2 := (yes.1 h).2.2.2.2; omega
      exact ⟨by rw [e], x0⟩
    by_cases u2 : 1 < n
    · simp -dsimp -implicitDefEqProofs only [odV,← hW,A0,A1,A2,A3,A4,A5,A6,c0,c1,c2,c3,c4,c5,c6,c7,u1,u2,m67,sF67,ZA,↓reduceIte,ZB,ZC,ZJ,ZK,ZE,ZF,ZG,ZH,ZI,reduceCtorEq,ZD,mwV,↓mwD,mwU]
      have e := no fun h => by have h2 := (yes.1 h).2.2.2.2; omega
      exact ⟨by rw [e], x0⟩
    cases u3 : decide (syn ≠ ⟨#[]⟩)
    rotate_left
    · simp -dsimp -implicitDefEqProofs only [odV,← hW,A0,A1,A2,A3,A4,A5,A6,c0,c1,c2,c3,c4,c5,c6,c7,u1,u2,binV_neS,u3,m67,sF67,ZA,↓reduceIte,ZB,ZC,ZJ,ZK,ZE,ZF,ZG,ZH,ZI,reduceCtorEq,ZD,mwV,↓mwD,mwU]
      have e := no fun h => by
        simp only [decide_eq_true_eq] at u3
        exact (yes.1 h).2.1.elim (by decide) u3
      exact ⟨by rw [e], x0⟩
    have v3 : syn = ⟨#[]⟩ := by simpa using u3
    cases u4 : decide (par ≠ ⟨#[]⟩)
    rotate_left
    · simp -dsimp -implicitDefEqProofs only [odV,← hW,A0,A1,A2,A3,A4,A5,A6,c0,c1,c2,c3,c4,c5,c6,c7,u1,u2,binV_neS,u3,binV_neS,u4,m67,sF67,ZA,↓reduceIte,ZB,ZC,ZJ,ZK,ZE,ZF,ZG,ZH,ZI,reduceCtorEq,ZD,mwV,↓mwD,mwU]
      have e := no fun h => by
        simp only [decide_eq_true_eq] at u4
        exact (yes.1 h).2.2.2.1.elim (by decide) (·.elim (by decide) u4)
      exact ⟨by rw [e], x0⟩
    have v4 : par = ⟨#[]⟩ := by simpa using u4
    by_cases u5 : to = 0
    · have e : res = true := yes.2 ⟨⟨by omega, by omega, by omega, by omega, by omega, by omega, by omega, by omega⟩, .inr v3, .inr (.inr (.inr u5)), .inr (.inr v4), by omega, by omega, by omega, by omega⟩
      have u6 : decide (to = 0) = true := by simp [u5]
      simp -dsimp -implicitDefEqProofs only [odV,← hW,A0,A1,A2,A3,A4,A5,A6,c0,c1,c2,c3,c4,c5,c6,c7,u1,u2,binV_neS,u3,binV_neS,u4,u6,m67,sF67,ZA,↓reduceIte,ZB,ZC,ZJ,ZK,ZE,ZF,ZG,ZH,ZI,reduceCtorEq,ZD,mwV,↓mwD,mwU]
      exact ⟨by rw [e], x0⟩
    · have e := no fun h => by have h2 := (yes.1 h).2.2.1; omega
      simp -dsimp -implicitDefEqProofs only [odV,← hW,A0,A1,A2,A3,A4,A5,A6,c0,c1,c2,c3,c4,c5,c6,c7,u1,u2,binV_neS,u3,binV_neS,u4,u5,m67,sF67,ZA,↓reduceIte,ZB,ZC,ZJ,ZK,ZE,ZF,ZG,ZH,ZI,reduceCtorEq,ZD,mwV,↓mwD,mwU]
      exact ⟨by rw [e], x0⟩
  · have hl : loD 7 = -1 := rfl
    have hh : hiD 7 = 15 := rfl
    rw [hl, hh] at yes
    by_cases u1 : n < -1
    · simp -dsimp -implicitDefEqProofs only [odV,← hW,A0,A1,A2,A3,A4,A5,A6,c0,c1,c2,c3,c4,c5,c6,c7,u1,m67,sF67,ZA,↓reduceIte,ZB,ZC,ZJ,ZK,ZE,ZF,ZG,ZH,ZI,reduceCtorEq,ZD,mwV,↓mwD,mwU]
      have e := no fun h => by have h2 := (yes.1 h).2.2.2.2; omega
      exact ⟨by rw [e], x0⟩
    by_cases u2 : 15 < n
    · simp -dsimp -implicitDefEqProofs only [odV,← hW,A0,A1,A2,A3,A4,A5,A6,c0,c1,c2,c3,c4,c5,c6,c7,u1,u2,m67,sF67,ZA,↓reduceIte,ZB,ZC,ZJ,ZK,ZE,ZF,ZG,ZH,ZI,reduceCtorEq,ZD,mwV,↓mwD,mwU]
      have e := no fun h => by have h2 := (yes.1 h).2.2.2.2; omega
      exact ⟨by rw [e], x0⟩
    cases u3 : decide (syn ≠ ⟨#[]⟩)
    rotate_left
    · simp -dsimp -implicitDefEqProofs only [odV,← hW,A0,A1,A2,A3,A4,A5,A6,c0,c1,c2,c3,c4,c5,c6,c7,u1,u2,binV_neS,u3,m67,sF67,ZA,↓reduceIte,ZB,ZC,ZJ,ZK,ZE,ZF,ZG,ZH,ZI,reduceCtorEq,ZD,mwV,↓mwD,mwU]
      have e := no fun h => by
        simp only [decide_eq_true_eq] at u3
        exact (yes.1 h).2.1.elim (by decide) u3
      exact ⟨by rw [e], x0⟩
    have v3 : syn = ⟨#[]⟩ := by simpa using u3
    by_cases u5 : to = 0
    · have e : res = true := yes.2 ⟨⟨by omega, by omega, by omega, by omega, by omega, by omega, by omega, by omega⟩, .inr v3, .inr (.inr (.inr u5)), .inr (.inl rfl), by omega, by omega, by omega, by omega⟩
      have u6 : decide (to = 0) = true := by simp [u5]
      simp -dsimp -implicitDefEqProofs only [odV,← hW,A0,A1,A2,A3,A4,A5,A6,c0,c1,c2,c3,c4,c5,c6,c7,u1,u2,binV_neS,u3,u6,m67,sF67,ZA,↓reduceIte,ZB,ZC,ZJ,ZK,ZE,ZF,ZG,ZH,ZI,reduceCtorEq,ZD,mwV,↓mwD,mwU]
      exact ⟨by rw [e], x0⟩
    · have e := no fun h => by have h2 := (yes.1 h).2.2.1; omega
      simp -dsimp -implicitDefEqProofs only [odV,← hW,A0,A1,A2,A3,A4,A5,A6,c0,c1,c2,c3,c4,c5,c6,c7,u1,u2,binV_neS,u3,u5,m67,sF67,ZA,↓reduceIte,ZB,ZC,ZJ,ZK,ZE,ZF,ZG,ZH,ZI,reduceCtorEq,ZD,mwV,↓mwD,mwU]
      exact ⟨by rw [e], x0⟩
end Go.Proofs.YtdkdibeimeaakabGreatDoor

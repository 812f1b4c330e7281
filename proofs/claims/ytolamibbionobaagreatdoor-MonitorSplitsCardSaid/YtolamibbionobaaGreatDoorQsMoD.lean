/- Layer 34: Split of the program and of the reference; the law MonitorSplits. -/
import Derived.Test.YtolamibbionobaaGreatDoorQsMoC

namespace Go.Proofs.YtolamibbionobaaGreatDoor
open Go.RowKit
open Nat renaming reduceEqDiff → ZA, reduceAdd → ZB, reduceMul → ZC, reduceSub → ZD
open Int renaming reduceToNat → ZE, reduceEq → ZF, reduceLT → ZG, reduceLE → ZH, reduceNeg → ZI
open Go.Value renaming oneCell' → ZK, cells → ZJ
set_option linter.unusedSimpArgs false
set_option linter.unusedVariables false
def spT : Option (By × Bool × Int) → Value
  | some (a, o, k) => .tuple #[.string (bw a), .bool o, .int .i64 k, .int .i64 0]
  | none => .tuple #[.string ⟨#[]⟩, .bool false, .int .i64 0, .int .i64 2]
theorem ne_in (x : By) : decide (bw x ≠ ⟨#[105, 110]⟩) = decide (x ≠ inB) := by
  have h : (⟨#[105, 110]⟩ : ByteArray) = bw inB := rfl
  rw [h]; simp only [ne_eq,bw_eq]
theorem ne_out (x : By) : decide (bw x ≠ ⟨#[111, 117, 116]⟩) = decide (x ≠ outB) := by
  have h : (⟨#[111, 117, 116]⟩ : ByteArray) = bw outB := rfl
  rw [h]; simp only [ne_eq,bw_eq]
theorem eq_out (x : By) : decide (bw x = ⟨#[111, 117, 116]⟩) = decide (x = outB) := by
  have h : (⟨#[111, 117, 116]⟩ : ByteArray) = bw outB := rfl
  rw [h]; simp only [bw_eq]
theorem ne_bw (x y : By) : decide (bw x ≠ bw y) = decide (x ≠ y) := by simp only [ne_eq,bw_eq]
theorem cut_len (s sep : By) : (cutF s sep).1.length ≤ s.length ∧ (cutF s sep).2.1.length ≤ s.length := by
  unfold cutF
  cases idxF s sep with
  | none => simp
  | some i => simp only [List.length_take,List.length_drop]; omega
set_option maxHeartbeats 1000000 in
theorem Msplit_c (s : By) (w : World) (hs : s.length ≤ 1000) (hE : EnvS w) : Rets Go.Proofs.Tryz.prog 6 #[.string (bw s)] w fun r w' => r = spT (spP s) ∧ Ext w w' := by
  have l1 := cut_len s [58]
  have l2 := cut_len (cutF s [58]).2.1 [95]
  refine en6 ?_
  simp -dsimp -implicitDefEqProofs only [m6,sF6,ZA,↓reduceIte,ZB,ZC,ZJ,ZK,ZE,ZF,ZG,ZH,ZI,reduceCtorEq,ZD,mwV,↓mwD,mwU]
  refine (Cut_c s [58] w (by omega) hE).use ?_
  rintro r w1 ⟨rfl, h1⟩
  simp -dsimp -implicitDefEqProofs only [m6,sF6,ZA,↓reduceIte,ZB,ZC,ZJ,ZK,ZE,ZF,ZG,ZH,ZI,reduceCtorEq,ZD,mwV,↓mwD,mwU]
  refine (Cut_c (cutF s [58]).2.1 [95] w1 (by omega) (hE.ext h1)).use ?_
  rintro r w2 ⟨rfl, h2⟩
  simp -dsimp -implicitDefEqProofs only [m6,sF6,ZA,↓reduceIte,ZB,ZC,ZJ,ZK,ZE,ZF,ZG,ZH,ZI,reduceCtorEq,ZD,mwV,↓mwD,mwU]
  refine (Atoi_c (s := (cutF (cutF s [58]).2.1 [95]).2.1) (by omega) (hE.ext (h1.trans h2))).use ?_
  rintro r w3 ⟨hr, h3⟩
  have hE3 := hE.ext (h1.trans (h2.trans h3))
  have x3 : Ext w w3 := h1.trans (h2.trans h3)
  have hsp : spP s = spP s := rfl
  conv at hsp => rhs; unfold spP
  obtain ⟨n, ev, rfl, hev⟩ : ∃ (n : Int) (ev : Value), r = .tuple #[.int .i64 n, ev] ∧ ((ev = .nilIface ∧ Lib.atoiAll (cutF (cutF s [58]).2.1 [95]).2.1 = .ok n) ∨ (∃ t p, ev = .iface t p) ∧ ∀ m, Lib.atoiAll (cutF (cutF s [58]).2.1 [95]).2.1 ≠ .ok m) := by
    cases ha : Lib.atoiAll (cutF (cutF s [58]).2.1 [95]).2.1 with
    | ok n => rw [ha] at hr; exact ⟨n, .nilIface, hr, .inl ⟨rfl, rfl⟩⟩
    | _ =>
      rw [ha] at hr
      obtain ⟨n, t, p, hr⟩ := hr
      exact ⟨n, .iface t p, hr, .inr ⟨⟨t, p, rfl⟩, fun m h => by cases h⟩⟩
  have none' : (∀ k, Lib.atoiAll (cutF (cutF s [58]).2.1 [95]).2.1 = .ok k → ¬ ((cutF s [58]).2.2 = true ∧ (cutF (cutF s [58]).2.1 [95]).2.2 = true ∧ nameB (cutF s [58]).1 = true ∧ ((cutF (cutF s [58]).2.1 [95]).1 = inB ∨ (cutF (cutF s [58]).2.1 [95]).1 = outB) ∧ 1 ≤ k ∧ Lib.itoa k = (cutF (cutF s [58]).2.1 [95]).2.1 ∧ (cutF (cutF s [58]).2.1 [95]).2.1.length ≤ 18)) → spP s = none := fun h => by
    unfold spP
    split
    · rename_i k hk
      rw [if_neg (h k hk)]
    · rfl
  clear hsp hr
  have hl18 : (cutF (cutF s [58]).2.1 [95]).2.1.length ≤ 1000 := by omega
  have hla : (cutF s [58]).1.length ≤ 1000 := by omega
  have some' : ∀ k, Lib.atoiAll (cutF (cutF s [58]).2.1 [95]).2.1 = .ok k → ((cutF s [58]).2.2 = true ∧ (cutF (cutF s [58]).2.1 [95]).2.2 = true ∧ nameB (cutF s [58]).1 = true ∧ ((cutF (cutF s [58]).2.1 [95]).1 = inB ∨ (cutF (cutF s [58]).2.1 [95]).1 = outB) ∧ 1 ≤ k ∧ Lib.itoa k = (cutF (cutF s [58]).2.1 [95]).2.1 ∧ (cutF (cutF s [58]).2.1 [95]).2.1.length ≤ 18) → spP s = some ((cutF s [58]).1, decide ((cutF (cutF s [58]).2.1 [95]).1 = outB), k) := fun k hk h => by
    unfold spP
    rw [hk]
    simp only
    rw [if_pos h]
  generalize (cutF s [58]).1 = a at *
  generalize (cutF s [58]).2.2 = i1 at *
  generalize (cutF (cutF s [58]).2.1 [95]).1 = v at *
  generalize (cutF (cutF s [58]).2.1 [95]).2.1 = d at *
  generalize (cutF (cutF s [58]).2.1 [95]).2.2 = i2 at *
  cases i1
  · simp -dsimp -implicitDefEqProofs only [m6,sF6,ZA,↓reduceIte,ZB,ZC,ZJ,ZK,ZE,ZF,ZG,ZH,ZI,reduceCtorEq,ZD,mwV,↓mwD,mwU]
    exact ⟨by rw [none' (fun k _ h => by cases h.1)]; rfl, x3⟩
  cases i2
  · simp -dsimp -implicitDefEqProofs only [m6,sF6,ZA,↓reduceIte,ZB,ZC,ZJ,ZK,ZE,ZF,ZG,ZH,ZI,reduceCtorEq,ZD,mwV,↓mwD,mwU]
    exact ⟨by rw [none' (fun k _ h => by cases h.2.1)]; rfl, x3⟩
  simp -dsimp -implicitDefEqProofs only [m6,sF6,ZA,↓reduceIte,ZB,ZC,ZJ,ZK,ZE,ZF,ZG,ZH,ZI,reduceCtorEq,ZD,mwV,↓mwD,mwU]
  refine (mname_c a w3 (by omega)).use ?_
  rintro r w4 ⟨rfl, h4⟩
  have x4 := x3.trans h4
  cases hn : nameB a
  · simp -dsimp -implicitDefEqProofs only [m6,sF6,ZA,↓reduceIte,ZB,ZC,ZJ,ZK,ZE,ZF,ZG,ZH,ZI,reduceCtorEq,ZD,mwV,↓mwD,mwU]
    exact ⟨by rw [none' (fun k _ h => by rw [hn] at h; cases h.2.2.1)]; rfl, x4⟩
  have rest : ∀ (oi oo : Bool), decide (v ≠ inB) = oi → decide (v ≠ outB) = oo → (oi && oo) = false → (v = inB ∨ v = outB) := fun oi oo h1 h2 h3 => by
    subst h1 h2
    simp only [Bool.and_eq_false_iff,decide_eq_false_iff_not,ne_eq,Decidable.not_not] at h3
    exact h3
  cases q1 : decide (v ≠ inB)
  all_goals (cases q2 : decide (v ≠ outB))
  case true.true =>
    simp -dsimp -implicitDefEqProofs only [binV_neS,ne_in,ne_out,q1,q2,m6,sF6,ZA,↓reduceIte,ZB,ZC,ZJ,ZK,ZE,ZF,ZG,ZH,ZI,reduceCtorEq,ZD,mwV,↓mwD,mwU]
    simp only [decide_eq_true_eq] at q1 q2
    exact ⟨by rw [none' (fun k _ h => h.2.2.2.1.elim q1 q2)]; rfl, x4⟩
  all_goals (
    have hv := rest _ _ q1 q2 rfl
    rcases hev with ⟨rfl, hat⟩ | ⟨⟨t, p, rfl⟩, hat⟩
    rotate_left
    · simp -dsimp -implicitDefEqProofs only [binV_neS,ne_in,ne_out,q1,q2,m6,sF6,ZA,↓reduceIte,ZB,ZC,ZJ,ZK,ZE,ZF,ZG,ZH,ZI,reduceCtorEq,ZD,mwV,↓mwD,mwU]
      exact ⟨by rw [none' (fun k hk _ => hat k hk)]; rfl, x4⟩
    · by_cases hk1 : n < 1
      · simp -dsimp -implicitDefEqProofs only [binV_neS,ne_in,ne_out,q1,q2,hk1,m6,sF6,ZA,↓reduceIte,ZB,ZC,ZJ,ZK,ZE,ZF,ZG,ZH,ZI,reduceCtorEq,ZD,mwV,↓mwD,mwU]
        exact ⟨by rw [none' (fun k hk h => by rw [hat] at hk; cases hk; omega)]; rfl, x4⟩
      · simp -dsimp -implicitDefEqProofs only [binV_neS,ne_in,ne_out,q1,q2,hk1,m6,sF6,ZA,↓reduceIte,ZB,ZC,ZJ,ZK,ZE,ZF,ZG,ZH,ZI,reduceCtorEq,ZD,mwV,↓mwD,mwU]
        refine (Itoa_c (Lib.atoiAll_bounds hat) (hE3.ext h4)).use ?_
        rintro r w5 ⟨rfl, h5⟩
        have x5 := x4.trans h5
        by_cases he : Lib.itoa n = d
        · have q3 : decide (Lib.itoa n ≠ d) = false := by simp [he]
          by_cases h18 : (18 : Int) < d.length
          · simp -dsimp -implicitDefEqProofs only [binV_neS,ne_bw,q3,bw_size,h18,m6,sF6,ZA,↓reduceIte,ZB,ZC,ZJ,ZK,ZE,ZF,ZG,ZH,ZI,reduceCtorEq,ZD,mwV,↓mwD,mwU]
            exact ⟨by rw [none' (fun k hk h => by omega)]; rfl, x5⟩
          · simp -dsimp -implicitDefEqProofs only [binV_neS,binV_eqS,ne_bw,q3,bw_size,h18,eq_out,m6,sF6,ZA,↓reduceIte,ZB,ZC,ZJ,ZK,ZE,ZF,ZG,ZH,ZI,reduceCtorEq,ZD,mwV,↓mwD,mwU]
            exact ⟨by rw [some' n hat ⟨rfl, rfl, hn, hv, by omega, he, by omega⟩]; rfl, x5⟩
        · have q3 : decide (Lib.itoa n ≠ d) = true := by simp [he]
          simp -dsimp -implicitDefEqProofs only [binV_neS,ne_bw,q3,m6,sF6,ZA,↓reduceIte,ZB,ZC,ZJ,ZK,ZE,ZF,ZG,ZH,ZI,reduceCtorEq,ZD,mwV,↓mwD,mwU]
          exact ⟨by rw [none' (fun k hk h => by rw [hat] at hk; cases hk; exact he h.2.2.2.2.2.1)]; rfl, x5⟩)
set_option maxHeartbeats 1000000 in
theorem Rsplit_c (s : By) (w : World) (hs : s.length ≤ 1000) : Rets Go.Proofs.Tryz.prog 7 #[.string (bw s)] w fun r w' => r = spT (spR s) ∧ Ext w w' := by
  have hback := splitC_back 58 s
  refine en7 ?_
  simp -dsimp -implicitDefEqProofs only [m7,sF7,ZA,↓reduceIte,ZB,ZC,ZJ,ZK,ZE,ZF,ZG,ZH,ZI,reduceCtorEq,ZD,mwV,↓mwD,mwU]
  refine (rsplit_c s 58 58 rfl (by omega) w).use ?_
  rintro r w1 ⟨h1, own1⟩
  have S1 : SlS w1 r (splitC 58 s) := Own.sl own1
  obtain ⟨q1, c1, rfl, _, _⟩ := S1.shape
  have hsp : spR s = spR s := rfl
  conv at hsp => rhs; unfold spR
  generalize hL : splitC 58 s = L at *
  by_cases hl2 : (L.length : Int) = 2
  rotate_left
  · simp -dsimp -implicitDefEqProofs only [hl2,m7,sF7,ZA,↓reduceIte,ZB,ZC,ZJ,ZK,ZE,ZF,ZG,ZH,ZI,reduceCtorEq,ZD,mwV,↓mwD,mwU]
    refine ⟨?_, h1⟩
    have : spR s = none := by
      rw [hsp]
      split
      · rename_i a r; exact absurd rfl hl2
      · rfl
    rw [this]; rfl
  obtain ⟨a, b, rfl⟩ : ∃ a b, L = [a, b] := by
    match L, hl2 with
    | [a, b], _ => exact ⟨a, b, rfl⟩
  have hb := hback a [b] rfl
  have hal : a.length ≤ 1000 ∧ b.length ≤ 1000 := by
    have := congrArg List.length hb
    simp only [List.length_append,List.flatMap_cons,List.flatMap_nil,List.append_nil,List.length_cons] at this
    omega
  obtain ⟨b0, o0, rfl, g0⟩ := S1.get (k := 0) (by simp)
  obtain ⟨b0', o0', hq, g1⟩ := S1.get (k := 1) (by simp)
  cases hq
  simp only [List.getElem_cons_zero,List.getElem_cons_succ,Nat.add_zero] at g0 g1
  simp -dsimp -implicitDefEqProofs only [hl2,g0,g1,m7,sF7,ZA,↓reduceIte,ZB,ZC,ZJ,ZK,ZE,ZF,ZG,ZH,ZI,reduceCtorEq,ZD,mwV,↓mwD,mwU]
  refine (rName_c a w1 (by omega)).use ?_
  rintro r w2 ⟨rfl, rfl⟩
  simp only at hsp
  cases hn : nameB a
  · simp -dsimp -implicitDefEqProofs only [m7,sF7,ZA,↓reduceIte,ZB,ZC,ZJ,ZK,ZE,ZF,ZG,ZH,ZI,reduceCtorEq,ZD,mwV,↓mwD,mwU]
    refine ⟨?_, h1⟩
    rw [hsp, hn]; rfl
  rw [if_pos hn] at hsp
  simp -dsimp -implicitDefEqProofs only [g0,g1,m7,sF7,ZA,↓reduceIte,ZB,ZC,ZJ,ZK,ZE,ZF,ZG,ZH,ZI,reduceCtorEq,ZD,mwV,↓mwD,mwU]
  have hback2 := splitC_back 95 b
  refine (rsplit_c b 95 95 rfl (by omega) w2).use ?_
  rintro r w3 ⟨h3, own3⟩
  have S3 : SlS w3 r (splitC 95 b) := Own.sl own3
  obtain ⟨q3, c3, rfl, _, _⟩ := S3.shape
  have x3 := h1.trans h3
  generalize hL3 : splitC 95 b = M at *
  by_cases hl3 : (M.length : Int) = 2
  rotate_left
  · simp -dsimp -implicitDefEqProofs only [hl3,m7,sF7,ZA,↓reduceIte,ZB,ZC,ZJ,ZK,ZE,ZF,ZG,ZH,ZI,reduceCtorEq,ZD,mwV,↓mwD,mwU]
    refine ⟨?_, x3⟩
    have : spR s = none := by
      rw [hsp]
      split
      · rename_i v n; exact absurd rfl hl3
      · rfl
    rw [this]; rfl
  obtain ⟨v, n, rfl⟩ : ∃ a b, M = [a, b] := by
    match M, hl3 with
    | [a, b], _ => exact ⟨a, b, rfl⟩
  have hb3 := hback2 v [n] rfl
  have hnl : n.length ≤ 1000 := by
    have := congrArg List.length hb3
    simp only [List.length_append,List.flatMap_cons,List.flatMap_nil,List.append_nil,List.length_cons] at this
    omega
  obtain ⟨b3, o3, rfl, k0⟩ := S3.get (k := 0) (by simp)
  obtain ⟨b3', o3', hq, k1⟩ := S3.get (k := 1) (by simp)
  cases hq
  simp only [List.getElem_cons_zero,List.getElem_cons_succ,Nat.add_zero] at k0 k1
  simp only at hsp
  cases q1 : decide (v ≠ inB)
  all_goals (cases q2 : decide (v ≠ outB))
  case true.true =>
    simp -dsimp -implicitDefEqProofs only [hl3,k0,k1,binV_neS,ne_in,ne_out,q1,q2,m7,sF7,ZA,↓reduceIte,ZB,ZC,ZJ,ZK,ZE,ZF,ZG,ZH,ZI,reduceCtorEq,ZD,mwV,↓mwD,mwU]
    refine ⟨?_, x3⟩
    simp only [decide_eq_true_eq] at q1 q2
    rw [hsp, if_neg (fun h => h.elim q1 q2)]; rfl
  all_goals (
    have hv : v = inB ∨ v = outB := by
      simp only [decide_eq_true_eq,decide_eq_false_iff_not,ne_eq,Decidable.not_not] at q1 q2
      first | exact .inl q1 | exact .inr q2
    rw [if_pos hv] at hsp
    simp -dsimp -implicitDefEqProofs only [hl3,k0,k1,binV_neS,ne_in,ne_out,q1,q2,m7,sF7,ZA,↓reduceIte,ZB,ZC,ZJ,ZK,ZE,ZF,ZG,ZH,ZI,reduceCtorEq,ZD,mwV,↓mwD,mwU]
    refine (rread_c n (by omega) w3).use ?_
    rintro r w4 ⟨rfl, rfl⟩
    have d0 := h3.cell g0
    cases hr : readB n with
    | none =>
      rw [hr] at hsp
      simp only at hsp
      simp -dsimp -implicitDefEqProofs only [rdT,m7,sF7,ZA,↓reduceIte,ZB,ZC,ZJ,ZK,ZE,ZF,ZG,ZH,ZI,reduceCtorEq,ZD,mwV,↓mwD,mwU]
      exact ⟨by rw [hsp]; rfl, x3⟩
    | some k =>
      rw [hr] at hsp
      simp only at hsp
      by_cases hk : k < 1
      · rw [if_neg (by omega)] at hsp
        simp -dsimp -implicitDefEqProofs only [rdT,hk,m7,sF7,ZA,↓reduceIte,ZB,ZC,ZJ,ZK,ZE,ZF,ZG,ZH,ZI,reduceCtorEq,ZD,mwV,↓mwD,mwU]
        exact ⟨by rw [hsp]; rfl, x3⟩
      · rw [if_pos (by omega)] at hsp
        simp -dsimp -implicitDefEqProofs only [rdT,hk,m7,sF7,ZA,↓reduceIte,ZB,ZC,ZJ,ZK,ZE,ZF,ZG,ZH,ZI,reduceCtorEq,ZD,mwV,↓mwD,mwU]
        refine mwpB_drawE ?_
        have e0 := (Ext.drew w4).cell d0
        have e1 := (Ext.drew w4).cell k0
        simp -dsimp -implicitDefEqProofs only [d0,k0,e0,e1,binV_eqS,eq_out,m7,sF7,ZA,↓reduceIte,ZB,ZC,ZJ,ZK,ZE,ZF,ZG,ZH,ZI,reduceCtorEq,ZD,mwV,↓mwD,mwU]
        exact ⟨by rw [hsp]; rfl, x3.trans (Ext.drew _)⟩)
end Go.Proofs.YtolamibbionobaaGreatDoor

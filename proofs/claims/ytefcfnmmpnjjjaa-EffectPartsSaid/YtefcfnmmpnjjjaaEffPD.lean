/- EffectParts: the walk of the law. -/
import Derived.Test.YtefcfnmmpnjjjaaEffPC
namespace Go.Proofs.Ytefcfnmmpnjjjaa
open Go.RowKit
set_option linter.unusedSimpArgs false

theorem samplesB_iff {L : List Int} : samplesB L = true ↔ L.length ≤ 4096 ∧ Smps L := by
  refine ⟨samples_smps, fun ⟨h1, h2⟩ => ?_⟩
  simp only [samplesB, Bool.and_eq_true, decide_eq_true_eq, Bool.not_eq_true', List.any_eq_false]
  refine ⟨h1, fun x hx => ?_⟩
  have := h2 x hx
  simpa [wtn_iff, Smp] using this

/-- The two halves of a slice. -/
theorem slc_two {w : World} {p : Option Addr} {c : Nat} {L : List Int} (h : SlI w (.slice p L.length c) L) {K : Nat} (hK : K ≤ L.length) :
    ∃ u1 u2, slcV Go.Proofs.Try.prog 22 (.slice p L.length c) none (some (.int .i64 K)) = some u1 ∧ slcV Go.Proofs.Try.prog 22 (.slice p L.length c) (some (.int .i64 K)) none = some u2 ∧ SlI w u1 (L.take K) ∧ SlI w u2 (L.drop K) ∧
      (∀ q, u1.ownBlock = some q → (Value.slice p L.length c).ownBlock = some q) ∧ ∀ q, u2.ownBlock = some q → (Value.slice p L.length c).ownBlock = some q := by
  rcases h with ⟨he, hL⟩ | ⟨b, o, cap, he, hc1, hc2, hr⟩
  · obtain rfl : L = [] := by simpa [ints] using hL
    cases he
    obtain rfl : K = 0 := by simpa using hK
    exact ⟨.slice none 0 0, .slice none 0 0, by kernel_rfl, by kernel_rfl, SlI.nil w, SlI.nil w, fun q h => h, fun q h => h⟩
  · rw [ints_length] at he hc1
    cases he
    have hk1 : (0 : Int) ≤ (K : Int) ∧ (K : Int) ≤ (c : Int) := by omega
    have hk2 : (0 : Int) ≤ (K : Int) ∧ (K : Int) ≤ (L.length : Int) ∧ (L.length : Int) ≤ (c : Int) := by omega
    have hl1 : ((K : Int) - 0).toNat = K := by omega
    have hl2 : ((c : Int) - 0).toNat = c := by omega
    have hl3 : ((L.length : Int) - K).toNat = L.length - K := by omega
    have hl4 : ((c : Int) - K).toNat = c - K := by omega
    refine ⟨.slice (some ⟨b, o, none⟩) K c, .slice (if (c : Int) = K then some ⟨b, o, none⟩ else some ⟨b, o + K, none⟩) (L.length - K) (c - K), ?_, ?_, .inr ⟨b, o, c, by rw [ints_length, List.length_take, Nat.min_eq_left hK], by rw [ints_length, List.length_take]; omega, hc2, fun k u hk => ?_⟩, ?_, fun q h => h, fun q h => ?_⟩
    · rw [slcV_slice, telem_22]
      simp [boundV_none, boundV_some, tok_3, hk1, hl2, Addr.add_lit]
    · rw [slcV_slice, telem_22]
      simp [boundV_none, boundV_some, tok_3, hk2, hl3, hl4, Addr.add_lit, tsz_3]
    · simp only [ints, List.map_take] at hk
      rw [List.getElem?_take] at hk
      split at hk
      · exact hr k u hk
      · cases hk
    · by_cases hck : (c : Int) = K
      · rw [if_pos hck]
        refine .inr ⟨b, o, c - K, by rw [ints_length, List.length_drop], by rw [ints_length, List.length_drop]; omega, by omega, fun k u hk => ?_⟩
        have : L.drop K = [] := List.drop_eq_nil_of_le (by omega)
        rw [this] at hk; simp [ints] at hk
      · rw [if_neg hck]
        refine .inr ⟨b, o + K, c - K, by rw [ints_length, List.length_drop], by rw [ints_length, List.length_drop]; omega, by omega, fun k u hk => ?_⟩
        simp only [ints, List.map_drop] at hk
        rw [List.getElem?_drop] at hk
        have := hr (K + k) u hk
        rw [Nat.add_assoc]; exact this
    · by_cases hck : (c : Int) = K
      · rw [if_pos hck] at h; exact h
      · rw [if_neg hck] at h; exact h

theorem bv_filt (p : Option Addr) (n c : Nat) : buildV Go.Proofs.Try.prog 24 [(0, .int .i64 4), (2, .slice p n c)] = some (.agg #[.int .i64 4, .slice none 0 0, .slice p n c]) := by kernel_rfl

theorem EffectParts_c (tv lv : Value) (T L : List Int) (n cut : Int) (w : World) (hT : SlI w tv T) (hL : SlI w lv L) :
    Rets Go.Proofs.Try.prog 5 #[tv, .int .i64 n, lv, .int .i64 cut] w fun r w' => r = .bool true ∧ Ext w w' := by
  obtain ⟨pt, ct, rfl, ht1, ht2⟩ := id hT.shape
  obtain ⟨pl, cl, rfl, hl1, hl2⟩ := id hL.shape
  refine en5 ?_
  simp -dsimp -implicitDefEqProofs only [m5, sF5, Nat.reduceEqDiff, ↓reduceIte, Nat.reduceAdd, Nat.reduceMul, Value.cells, Value.oneCell', eq_self, ne_eq, Int.reduceToNat, Int.reduceEq, Int.reduceLT, Int.reduceLE, Int.reduceNeg, if_true, if_false, reduceCtorEq, Nat.reduceSub, storeV_ptr, slcV_slice, ↓mwD, mwU]
  refine (awake_c w).use ?_
  rintro r w1 ⟨rfl, he1⟩
  simp -dsimp -implicitDefEqProofs only [m5, sF5, Nat.reduceEqDiff, ↓reduceIte, Nat.reduceAdd, Nat.reduceMul, Value.cells, Value.oneCell', eq_self, ne_eq, Int.reduceToNat, Int.reduceEq, Int.reduceLT, Int.reduceLE, Int.reduceNeg, if_true, if_false, reduceCtorEq, Nat.reduceSub, storeV_ptr, slcV_slice, ↓mwD, mwU]
  refine iteW_dec (fun h1 => ?_) (fun h1 => ?_)
  · simp -dsimp -implicitDefEqProofs only [h1, m5, sF5, Nat.reduceEqDiff, ↓reduceIte, Nat.reduceAdd, Nat.reduceMul, Value.cells, Value.oneCell', eq_self, ne_eq, Int.reduceToNat, Int.reduceEq, Int.reduceLT, Int.reduceLE, Int.reduceNeg, if_true, if_false, reduceCtorEq, Nat.reduceSub, storeV_ptr, slcV_slice, ↓mwD, mwU]
    exact he1
  simp -dsimp -implicitDefEqProofs only [h1, m5, sF5, Nat.reduceEqDiff, ↓reduceIte, Nat.reduceAdd, Nat.reduceMul, Value.cells, Value.oneCell', eq_self, ne_eq, Int.reduceToNat, Int.reduceEq, Int.reduceLT, Int.reduceLE, Int.reduceNeg, if_true, if_false, reduceCtorEq, Nat.reduceSub, storeV_ptr, slcV_slice, ↓mwD, mwU]
  have hLb : L ≠ [] → ∀ q, (Value.slice pl L.length cl).ownBlock = some q → q < w.heap.size := fun hne q hq => Sl.block (cs := ints L) hL (by simpa [ints] using hne) q hq
  have hw1 := he1.le
  refine iteW_dec (fun a1 => ?_) (fun a1 => ?_)
  · simp -dsimp -implicitDefEqProofs only [h1, a1, m5, sF5, Nat.reduceEqDiff, ↓reduceIte, Nat.reduceAdd, Nat.reduceMul, Value.cells, Value.oneCell', eq_self, ne_eq, Int.reduceToNat, Int.reduceEq, Int.reduceLT, Int.reduceLE, Int.reduceNeg, if_true, if_false, reduceCtorEq, Nat.reduceSub, storeV_ptr, slcV_slice, ↓mwD, mwU]
    refine iteW_dec (fun a2 => ?_) (fun a2 => ?_)
    · simp -dsimp -implicitDefEqProofs only [h1, a1, a2, m5, sF5, Nat.reduceEqDiff, ↓reduceIte, Nat.reduceAdd, Nat.reduceMul, Value.cells, Value.oneCell', eq_self, ne_eq, Int.reduceToNat, Int.reduceEq, Int.reduceLT, Int.reduceLE, Int.reduceNeg, if_true, if_false, reduceCtorEq, Nat.reduceSub, storeV_ptr, slcV_slice, ↓mwD, mwU]
      exact he1
    simp -dsimp -implicitDefEqProofs only [h1, a1, a2, m5, sF5, Nat.reduceEqDiff, ↓reduceIte, Nat.reduceAdd, Nat.reduceMul, Value.cells, Value.oneCell', eq_self, ne_eq, Int.reduceToNat, Int.reduceEq, Int.reduceLT, Int.reduceLE, Int.reduceNeg, if_true, if_false, reduceCtorEq, Nat.reduceSub, storeV_ptr, slcV_slice, ↓mwD, mwU]
    refine iteW_dec (fun a3 => ?_) (fun a3 => ?_)
    · simp -dsimp -implicitDefEqProofs only [h1, a1, a2, a3, m5, sF5, Nat.reduceEqDiff, ↓reduceIte, Nat.reduceAdd, Nat.reduceMul, Value.cells, Value.oneCell', eq_self, ne_eq, Int.reduceToNat, Int.reduceEq, Int.reduceLT, Int.reduceLE, Int.reduceNeg, if_true, if_false, reduceCtorEq, Nat.reduceSub, storeV_ptr, slcV_slice, ↓mwD, mwU]
      exact he1
    simp -dsimp -implicitDefEqProofs only [h1, a1, a2, a3, m5, sF5, Nat.reduceEqDiff, ↓reduceIte, Nat.reduceAdd, Nat.reduceMul, Value.cells, Value.oneCell', eq_self, ne_eq, Int.reduceToNat, Int.reduceEq, Int.reduceLT, Int.reduceLE, Int.reduceNeg, if_true, if_false, reduceCtorEq, Nat.reduceSub, storeV_ptr, slcV_slice, ↓mwD, mwU]
    refine iteW_dec (fun a4 => ?_) (fun a4 => ?_)
    · simp -dsimp -implicitDefEqProofs only [h1, a1, a2, a3, a4, m5, sF5, Nat.reduceEqDiff, ↓reduceIte, Nat.reduceAdd, Nat.reduceMul, Value.cells, Value.oneCell', eq_self, ne_eq, Int.reduceToNat, Int.reduceEq, Int.reduceLT, Int.reduceLE, Int.reduceNeg, if_true, if_false, reduceCtorEq, Nat.reduceSub, storeV_ptr, slcV_slice, ↓mwD, mwU]
      exact he1
    simp -dsimp -implicitDefEqProofs only [h1, a1, a2, a3, a4, m5, sF5, Nat.reduceEqDiff, ↓reduceIte, Nat.reduceAdd, Nat.reduceMul, Value.cells, Value.oneCell', eq_self, ne_eq, Int.reduceToNat, Int.reduceEq, Int.reduceLT, Int.reduceLE, Int.reduceNeg, if_true, if_false, reduceCtorEq, Nat.reduceSub, storeV_ptr, slcV_slice, ↓mwD, mwU]
    have hsm : samplesB L = false := by
      rw [← Bool.not_eq_true, samplesB_iff]; omega
    refine (NewParts_c (n := n) (SlI.ext hT he1)).use ?_
    rintro r w2 ⟨he2, h⟩
    have hE2 := he1.trans he2
    have hT6 : T.length ≤ 600 := by omega
    cases htp : tapsB T
    · rw [htp, if_pos rfl] at h
      subst h
      simp -dsimp -implicitDefEqProofs only [m5, sF5, Nat.reduceEqDiff, ↓reduceIte, Nat.reduceAdd, Nat.reduceMul, Value.cells, Value.oneCell', eq_self, ne_eq, Int.reduceToNat, Int.reduceEq, Int.reduceLT, Int.reduceLE, Int.reduceNeg, if_true, if_false, reduceCtorEq, Nat.reduceSub, storeV_ptr, slcV_slice, ↓mwD, mwU]
      refine (refParts_c (n := n) (SlI.ext hT hE2) hT6).use ?_
      rintro r w3 ⟨he3, h3⟩
      rw [htp, if_pos rfl] at h3
      subst h3
      simp -dsimp -implicitDefEqProofs only [m5, sF5, Nat.reduceEqDiff, ↓reduceIte, Nat.reduceAdd, Nat.reduceMul, Value.cells, Value.oneCell', eq_self, ne_eq, Int.reduceToNat, Int.reduceEq, Int.reduceLT, Int.reduceLE, Int.reduceNeg, if_true, if_false, reduceCtorEq, Nat.reduceSub, storeV_ptr, slcV_slice, ↓mwD, mwU]
      exact hE2.trans he3
    rw [htp, if_neg (by simp)] at h
    obtain ⟨l1, l2, l3⟩ := taps_iff htp
    by_cases hln : n < 1 ∨ 512 < n
    · rw [if_pos hln] at h
      subst h
      simp -dsimp -implicitDefEqProofs only [m5, sF5, Nat.reduceEqDiff, ↓reduceIte, Nat.reduceAdd, Nat.reduceMul, Value.cells, Value.oneCell', eq_self, ne_eq, Int.reduceToNat, Int.reduceEq, Int.reduceLT, Int.reduceLE, Int.reduceNeg, if_true, if_false, reduceCtorEq, Nat.reduceSub, storeV_ptr, slcV_slice, ↓mwD, mwU]
      refine (refParts_c (n := n) (SlI.ext hT hE2) hT6).use ?_
      rintro r w3 ⟨he3, h3⟩
      rw [htp, if_neg (by simp), if_pos hln] at h3
      subst h3
      simp -dsimp -implicitDefEqProofs only [m5, sF5, Nat.reduceEqDiff, ↓reduceIte, Nat.reduceAdd, Nat.reduceMul, Value.cells, Value.oneCell', eq_self, ne_eq, Int.reduceToNat, Int.reduceEq, Int.reduceLT, Int.reduceLE, Int.reduceNeg, if_true, if_false, reduceCtorEq, Nat.reduceSub, storeV_ptr, slcV_slice, ↓mwD, mwU]
      exact hE2.trans he3
    rw [if_neg hln] at h
    obtain ⟨b, tb, to, cap, rr, rfl, hp, gb, gt, gr⟩ := h
    simp -dsimp -implicitDefEqProofs only [m5, sF5, Nat.reduceEqDiff, ↓reduceIte, Nat.reduceAdd, Nat.reduceMul, Value.cells, Value.oneCell', eq_self, ne_eq, Int.reduceToNat, Int.reduceEq, Int.reduceLT, Int.reduceLE, Int.reduceNeg, if_true, if_false, reduceCtorEq, Nat.reduceSub, storeV_ptr, slcV_slice, ↓mwD, mwU]
    refine (refParts_c (n := n) (SlI.ext hT hE2) hT6).use ?_
    rintro r w3 ⟨he3, h3⟩
    rw [htp, if_neg (by simp), if_neg hln] at h3
    subst h3
    have hE3 := hE2.trans he3
    obtain ⟨ln, rfl⟩ : ∃ ln : Nat, n = ln := ⟨n.toNat, by omega⟩
    simp -dsimp -implicitDefEqProofs only [m5, sF5, Nat.reduceEqDiff, ↓reduceIte, Nat.reduceAdd, Nat.reduceMul, Value.cells, Value.oneCell', eq_self, ne_eq, Int.reduceToNat, Int.reduceEq, Int.reduceLT, Int.reduceLE, Int.reduceNeg, if_true, if_false, reduceCtorEq, Nat.reduceSub, storeV_ptr, slcV_slice, ↓mwD, mwU]
    refine (Count_c (hp.ext he3) (by omega) (by omega) (by omega)).use ?_
    rintro r w4 ⟨rfl, he4⟩
    have hE4 := hE3.trans he4
    simp -dsimp -implicitDefEqProofs only [m5, sF5, Nat.reduceEqDiff, ↓reduceIte, Nat.reduceAdd, Nat.reduceMul, Value.cells, Value.oneCell', eq_self, ne_eq, Int.reduceToNat, Int.reduceEq, Int.reduceLT, Int.reduceLE, Int.reduceNeg, if_true, if_false, reduceCtorEq, Nat.reduceSub, storeV_ptr, slcV_slice, ↓mwD, mwU]
    refine (refSamples_c (SlI.ext hL hE4)).use ?_
    rintro r w5 ⟨rfl, he5⟩
    have hE5 := hE4.trans he5
    have hp5 := ((hp.ext he3).ext he4).ext he5
    have hzero : (fun j : Nat => dotI (T.drop (j + 1)) []) = fun _ => 0 := funext fun j => dotI_nil _
    rw [← hzero] at hp5
    rw [hsm]
    simp -dsimp -implicitDefEqProofs only [m5, sF5, Nat.reduceEqDiff, ↓reduceIte, Nat.reduceAdd, Nat.reduceMul, Value.cells, Value.oneCell', eq_self, ne_eq, Int.reduceToNat, Int.reduceEq, Int.reduceLT, Int.reduceLE, Int.reduceNeg, if_true, if_false, reduceCtorEq, Nat.reduceSub, storeV_ptr, slcV_slice, ↓mwD, mwU]
    refine (PRun_c hp5 (SlI.ext hL hE5) (by omega) (by omega) l1 l2 l3 (fun x hx => by cases hx) (fun hne q hq => ?_)).use ?_
    · have := hLb hne q hq; omega
    rintro r w6 h
    rw [hsm, if_neg (by simp)] at h
    obtain ⟨rfl, he6⟩ := h
    simp -dsimp -implicitDefEqProofs only [m5, sF5, Nat.reduceEqDiff, ↓reduceIte, Nat.reduceAdd, Nat.reduceMul, Value.cells, Value.oneCell', eq_self, ne_eq, Int.reduceToNat, Int.reduceEq, Int.reduceLT, Int.reduceLE, Int.reduceNeg, if_true, if_false, reduceCtorEq, Nat.reduceSub, storeV_ptr, slcV_slice, ↓mwD, mwU]
    exact hE5.trans he6

  · simp -dsimp -implicitDefEqProofs only [h1, a1, m5, sF5, Nat.reduceEqDiff, ↓reduceIte, Nat.reduceAdd, Nat.reduceMul, Value.cells, Value.oneCell', eq_self, ne_eq, Int.reduceToNat, Int.reduceEq, Int.reduceLT, Int.reduceLE, Int.reduceNeg, if_true, if_false, reduceCtorEq, Nat.reduceSub, storeV_ptr, slcV_slice, ↓mwD, mwU]
    refine iteW_dec (fun a3 => ?_) (fun a3 => ?_)
    · omega
    simp -dsimp -implicitDefEqProofs only [h1, a1, a3, m5, sF5, Nat.reduceEqDiff, ↓reduceIte, Nat.reduceAdd, Nat.reduceMul, Value.cells, Value.oneCell', eq_self, ne_eq, Int.reduceToNat, Int.reduceEq, Int.reduceLT, Int.reduceLE, Int.reduceNeg, if_true, if_false, reduceCtorEq, Nat.reduceSub, storeV_ptr, slcV_slice, ↓mwD, mwU]
    refine iteW_dec (fun a4 => ?_) (fun a4 => ?_)
    · simp -dsimp -implicitDefEqProofs only [h1, a1, a3, a4, m5, sF5, Nat.reduceEqDiff, ↓reduceIte, Nat.reduceAdd, Nat.reduceMul, Value.cells, Value.oneCell', eq_self, ne_eq, Int.reduceToNat, Int.reduceEq, Int.reduceLT, Int.reduceLE, Int.reduceNeg, if_true, if_false, reduceCtorEq, Nat.reduceSub, storeV_ptr, slcV_slice, ↓mwD, mwU]
      exact he1
    simp -dsimp -implicitDefEqProofs only [h1, a1, a3, a4, m5, sF5, Nat.reduceEqDiff, ↓reduceIte, Nat.reduceAdd, Nat.reduceMul, Value.cells, Value.oneCell', eq_self, ne_eq, Int.reduceToNat, Int.reduceEq, Int.reduceLT, Int.reduceLE, Int.reduceNeg, if_true, if_false, reduceCtorEq, Nat.reduceSub, storeV_ptr, slcV_slice, ↓mwD, mwU]
    refine (NewParts_c (n := n) (SlI.ext hT he1)).use ?_
    rintro r w2 ⟨he2, h⟩
    have hE2 := he1.trans he2
    have hT6 : T.length ≤ 600 := by omega
    cases htp : tapsB T
    · rw [htp, if_pos rfl] at h
      subst h
      simp -dsimp -implicitDefEqProofs only [m5, sF5, Nat.reduceEqDiff, ↓reduceIte, Nat.reduceAdd, Nat.reduceMul, Value.cells, Value.oneCell', eq_self, ne_eq, Int.reduceToNat, Int.reduceEq, Int.reduceLT, Int.reduceLE, Int.reduceNeg, if_true, if_false, reduceCtorEq, Nat.reduceSub, storeV_ptr, slcV_slice, ↓mwD, mwU]
      refine (refParts_c (n := n) (SlI.ext hT hE2) hT6).use ?_
      rintro r w3 ⟨he3, h3⟩
      rw [htp, if_pos rfl] at h3
      subst h3
      simp -dsimp -implicitDefEqProofs only [m5, sF5, Nat.reduceEqDiff, ↓reduceIte, Nat.reduceAdd, Nat.reduceMul, Value.cells, Value.oneCell', eq_self, ne_eq, Int.reduceToNat, Int.reduceEq, Int.reduceLT, Int.reduceLE, Int.reduceNeg, if_true, if_false, reduceCtorEq, Nat.reduceSub, storeV_ptr, slcV_slice, ↓mwD, mwU]
      exact hE2.trans he3
    rw [htp, if_neg (by simp)] at h
    obtain ⟨l1, l2, l3⟩ := taps_iff htp
    by_cases hln : n < 1 ∨ 512 < n
    · rw [if_pos hln] at h
      subst h
      simp -dsimp -implicitDefEqProofs only [m5, sF5, Nat.reduceEqDiff, ↓reduceIte, Nat.reduceAdd, Nat.reduceMul, Value.cells, Value.oneCell', eq_self, ne_eq, Int.reduceToNat, Int.reduceEq, Int.reduceLT, Int.reduceLE, Int.reduceNeg, if_true, if_false, reduceCtorEq, Nat.reduceSub, storeV_ptr, slcV_slice, ↓mwD, mwU]
      refine (refParts_c (n := n) (SlI.ext hT hE2) hT6).use ?_
      rintro r w3 ⟨he3, h3⟩
      rw [htp, if_neg (by simp), if_pos hln] at h3
      subst h3
      simp -dsimp -implicitDefEqProofs only [m5, sF5, Nat.reduceEqDiff, ↓reduceIte, Nat.reduceAdd, Nat.reduceMul, Value.cells, Value.oneCell', eq_self, ne_eq, Int.reduceToNat, Int.reduceEq, Int.reduceLT, Int.reduceLE, Int.reduceNeg, if_true, if_false, reduceCtorEq, Nat.reduceSub, storeV_ptr, slcV_slice, ↓mwD, mwU]
      exact hE2.trans he3
    rw [if_neg hln] at h
    obtain ⟨b, tb, to, cap, rr, rfl, hp, gb, gt, gr⟩ := h
    simp -dsimp -implicitDefEqProofs only [m5, sF5, Nat.reduceEqDiff, ↓reduceIte, Nat.reduceAdd, Nat.reduceMul, Value.cells, Value.oneCell', eq_self, ne_eq, Int.reduceToNat, Int.reduceEq, Int.reduceLT, Int.reduceLE, Int.reduceNeg, if_true, if_false, reduceCtorEq, Nat.reduceSub, storeV_ptr, slcV_slice, ↓mwD, mwU]
    refine (refParts_c (n := n) (SlI.ext hT hE2) hT6).use ?_
    rintro r w3 ⟨he3, h3⟩
    rw [htp, if_neg (by simp), if_neg hln] at h3
    subst h3
    have hE3 := hE2.trans he3
    obtain ⟨ln, rfl⟩ : ∃ ln : Nat, n = ln := ⟨n.toNat, by omega⟩
    simp -dsimp -implicitDefEqProofs only [m5, sF5, Nat.reduceEqDiff, ↓reduceIte, Nat.reduceAdd, Nat.reduceMul, Value.cells, Value.oneCell', eq_self, ne_eq, Int.reduceToNat, Int.reduceEq, Int.reduceLT, Int.reduceLE, Int.reduceNeg, if_true, if_false, reduceCtorEq, Nat.reduceSub, storeV_ptr, slcV_slice, ↓mwD, mwU]
    refine (Count_c (hp.ext he3) (by omega) (by omega) (by omega)).use ?_
    rintro r w4 ⟨rfl, he4⟩
    have hE4 := hE3.trans he4
    simp -dsimp -implicitDefEqProofs only [m5, sF5, Nat.reduceEqDiff, ↓reduceIte, Nat.reduceAdd, Nat.reduceMul, Value.cells, Value.oneCell', eq_self, ne_eq, Int.reduceToNat, Int.reduceEq, Int.reduceLT, Int.reduceLE, Int.reduceNeg, if_true, if_false, reduceCtorEq, Nat.reduceSub, storeV_ptr, slcV_slice, ↓mwD, mwU]
    refine (refSamples_c (SlI.ext hL hE4)).use ?_
    rintro r w5 ⟨rfl, he5⟩
    have hE5 := hE4.trans he5
    have hp5 := ((hp.ext he3).ext he4).ext he5
    have hzero : (fun j : Nat => dotI (T.drop (j + 1)) []) = fun _ => 0 := funext fun j => dotI_nil _
    rw [← hzero] at hp5
    cases hsm : samplesB L
    · simp -dsimp -implicitDefEqProofs only [m5, sF5, Nat.reduceEqDiff, ↓reduceIte, Nat.reduceAdd, Nat.reduceMul, Value.cells, Value.oneCell', eq_self, ne_eq, Int.reduceToNat, Int.reduceEq, Int.reduceLT, Int.reduceLE, Int.reduceNeg, if_true, if_false, reduceCtorEq, Nat.reduceSub, storeV_ptr, slcV_slice, ↓mwD, mwU]
      refine (PRun_c hp5 (SlI.ext hL hE5) (by omega) (by omega) l1 l2 l3 (fun x hx => by cases hx) (fun hne q hq => ?_)).use ?_
      · have := hLb hne q hq; omega
      rintro r w6 h
      rw [hsm, if_neg (by simp)] at h
      obtain ⟨rfl, he6⟩ := h
      simp -dsimp -implicitDefEqProofs only [m5, sF5, Nat.reduceEqDiff, ↓reduceIte, Nat.reduceAdd, Nat.reduceMul, Value.cells, Value.oneCell', eq_self, ne_eq, Int.reduceToNat, Int.reduceEq, Int.reduceLT, Int.reduceLE, Int.reduceNeg, if_true, if_false, reduceCtorEq, Nat.reduceSub, storeV_ptr, slcV_slice, ↓mwD, mwU]
      exact hE5.trans he6
    · obtain ⟨hlen, hsp⟩ := samples_smps hsm
      simp -dsimp -implicitDefEqProofs only [m5, sF5, Nat.reduceEqDiff, ↓reduceIte, Nat.reduceAdd, Nat.reduceMul, Value.cells, Value.oneCell', eq_self, ne_eq, Int.reduceToNat, Int.reduceEq, Int.reduceLT, Int.reduceLE, Int.reduceNeg, if_true, if_false, reduceCtorEq, Nat.reduceSub, storeV_ptr, slcV_slice, ↓mwD, mwU]
      refine (Filter_c (SlI.ext hT hE5) (SlI.ext hL hE5) l2 l3 hlen hsp).use ?_
      rintro want w6 ⟨sf, he6, ofl⟩
      have hE6 := hE5.trans he6
      obtain ⟨K, hK⟩ : ∃ K : Nat, Int.tmod cut ((L.length : Int) + 1) = (K : Int) := ⟨(Int.tmod cut ((L.length : Int) + 1)).toNat, by have := Int.tmod_nonneg ((L.length : Int) + 1) (show 0 ≤ cut by omega); omega⟩
      have hKl : K ≤ L.length := by have := Int.tmod_lt_of_pos cut (show (0 : Int) < (L.length : Int) + 1 by omega); omega
      have hwr : IntKind.i64.wrap ((L.length : Int) + 1) = (L.length : Int) + 1 := w64 (by omega) (by omega)
      have hne : (L.length : Int) + 1 ≠ 0 := by omega
      obtain ⟨u1, u2, c1, c2, s1, s2, o1, o2⟩ := slc_two (SlI.ext hL hE6) hKl
      have hp6 := hp5.ext he6
      have blt := hp.bk.lt
      have rlt : rr < w2.heap.size := by obtain ⟨pend, h3, _⟩ := hp.pend; exact h3.lt
      have z3 := he3.le
      have z4 := he4.le
      have z5 := he5.le
      have z6 := he6.le
      have z2 := he2.le
      have smt : samplesB (L.take K) = true := samplesB_iff.2 ⟨by simp; omega, fun x hx => hsp x (List.mem_of_mem_take hx)⟩
      have smd : samplesB (L.drop K) = true := samplesB_iff.2 ⟨by simp; omega, fun x hx => hsp x (List.mem_of_mem_drop hx)⟩
      simp -dsimp -implicitDefEqProofs only [hwr, hK, hne, c1, c2, m5, sF5, Nat.reduceEqDiff, ↓reduceIte, Nat.reduceAdd, Nat.reduceMul, Value.cells, Value.oneCell', eq_self, ne_eq, Int.reduceToNat, Int.reduceEq, Int.reduceLT, Int.reduceLE, Int.reduceNeg, if_true, if_false, reduceCtorEq, Nat.reduceSub, storeV_ptr, ↓mwD, mwU]
      refine (PRun_c hp6 s1 (by omega) (by omega) l1 l2 l3 (fun x hx => by cases hx) (fun hnz q hq => ?_)).use ?_
      · have := hLb (by rintro rfl; simp at hnz) q (o1 q hq); omega
      rintro r w7 h
      rw [smt, if_pos rfl] at h
      obtain ⟨v7, a7, rfl, so7, hp7, ch7, ow7⟩ := h
      have z7 := ch7.size
      have hE7 : Ext w w7 := ch7.ext hE6 fun q hq => by rcases hq with rfl | rfl <;> omega
      have s2' : SlI w7 u2 (L.drop K) := Sl.chp (cs := ints _) s2 ch7 fun hnz q hq => by
        have := hLb (by rintro rfl; simp [ints] at hnz) q (o2 q hq)
        rintro (h | h) <;> omega
      simp -dsimp -implicitDefEqProofs only [hwr, hK, hne, c1, c2, m5, sF5, Nat.reduceEqDiff, ↓reduceIte, Nat.reduceAdd, Nat.reduceMul, Value.cells, Value.oneCell', eq_self, ne_eq, Int.reduceToNat, Int.reduceEq, Int.reduceLT, Int.reduceLE, Int.reduceNeg, if_true, if_false, reduceCtorEq, Nat.reduceSub, storeV_ptr, ↓mwD, mwU]
      refine (PRun_c hp7 s2' (by omega) (by omega) l1 l2 l3 (fun x hx => hsp x (List.mem_of_mem_take (List.mem_reverse.1 (by simpa using hx)))) (fun hnz q hq => ?_)).use ?_
      · have := hLb (by rintro rfl; simp at hnz) q (o2 q hq); omega
      rintro r w8 h
      rw [smd, if_pos rfl] at h
      obtain ⟨v8, a8, rfl, so8, hp8, ch8, ow8⟩ := h
      have z8 := ch8.size
      have hE8 : Ext w w8 := ch8.ext hE7 fun q hq => by rcases hq with rfl | rfl <;> omega
      have so7' : SlI w8 v7 (filtL T [] (L.take K)) := Sl.chp (cs := ints _) so7 ch8 fun _ q hq => by
        have := ow7 q hq
        rintro (h | h) <;> omega
      have sf8 : SlI w8 want (filtL T [] L) := Sl.chp (cs := ints _) (Sl.chp (cs := ints _) sf ch7 fun _ q hq => by have := ofl q hq; rintro (h | h) <;> omega) ch8 fun _ q hq => by
        have := ofl q hq
        rintro (h | h) <;> omega
      have law : filtL T [] (L.take K) ++ filtL T ((L.take K).reverse ++ []) (L.drop K) = filtL T [] L := by
        rw [← filtL_append, List.take_append_drop]
      have n7 := filtL_length T (L.take K) []
      have n8 := filtL_length T (L.drop K) ((L.take K).reverse ++ [])
      have n7' : (L.take K).length ≤ L.length := by simp; omega
      have n8' : (L.drop K).length ≤ L.length := by simp
      generalize filtL T [] (L.take K) = Y7 at *
      generalize filtL T ((L.take K).reverse ++ []) (L.drop K) = Y8 at *
      simp -dsimp -implicitDefEqProofs only [hwr, hK, hne, c1, c2, m5, sF5, Nat.reduceEqDiff, ↓reduceIte, Nat.reduceAdd, Nat.reduceMul, Value.cells, Value.oneCell', eq_self, ne_eq, Int.reduceToNat, Int.reduceEq, Int.reduceLT, Int.reduceLE, Int.reduceNeg, if_true, if_false, reduceCtorEq, Nat.reduceSub, storeV_ptr, ↓mwD, mwU]
      have lt7 : Y7 ≠ [] → ∀ q, v7.ownBlock = some q → q < w8.heap.size := fun hz q hq => Sl.block (cs := ints Y7) so7' (by simpa [ints] using hz) q hq
      have lt8 : Y8 ≠ [] → ∀ q, v8.ownBlock = some q → q < w8.heap.size := fun hz q hq => Sl.block (cs := ints Y8) so8 (by simpa [ints] using hz) q hq
      have ltw : filtL T [] L ≠ [] → ∀ q, want.ownBlock = some q → q < w8.heap.size := fun hz q hq => Sl.block (cs := ints _) sf8 (by simpa [ints] using hz) q hq
      have nl : ∀ W : World, W.ownsRow w8.heap.size 3 1 (.slice none 0 0) 0 (ints []) := fun W => World.ownsRow_nil _ _ _ _
      obtain ⟨x1, W1, A1, E1, R1, _, _, T1⟩ := app_ints (Ext.refl w8) (nl _) so7' (nl _) (fun q h => by simp [Value.ownBlock] at h) (by omega) (by omega)
      rw [Nat.zero_add, List.nil_append] at R1
      refine appB.mk A1 ?_
      simp -dsimp -implicitDefEqProofs only [m5, sF5, Nat.reduceEqDiff, ↓reduceIte, Nat.reduceAdd, Nat.reduceMul, Value.cells, Value.oneCell', eq_self, ne_eq, Int.reduceToNat, Int.reduceEq, Int.reduceLT, Int.reduceLE, Int.reduceNeg, if_true, if_false, reduceCtorEq, Nat.reduceSub, storeV_ptr, slcV_slice, ↓mwD, mwU]
      obtain ⟨x3, W3, A3, E3, R3, _, _, T3⟩ := app_ints E1 R1 (T1 _ _ so8 lt8) (nl _) (fun q _ h => by simp [Value.ownBlock] at h) (by omega) (by omega)
      refine appB.mk A3 ?_
      simp -dsimp -implicitDefEqProofs only [m5, sF5, Nat.reduceEqDiff, ↓reduceIte, Nat.reduceAdd, Nat.reduceMul, Value.cells, Value.oneCell', eq_self, ne_eq, Int.reduceToNat, Int.reduceEq, Int.reduceLT, Int.reduceLE, Int.reduceNeg, if_true, if_false, reduceCtorEq, Nat.reduceSub, storeV_ptr, slcV_slice, ↓mwD, mwU]
      have sfW := T3 _ _ (T1 _ _ sf8 ltw) ltw
      refine (ints_c (ow_sl R3) sfW).use ?_
      rintro r w9 ⟨rfl, he9⟩
      rw [decide_eq_true law]
      have hE9 := (hE8.trans E3).trans he9
      simp -dsimp -implicitDefEqProofs only [bv_filt, m5, sF5, Nat.reduceEqDiff, ↓reduceIte, Nat.reduceAdd, Nat.reduceMul, Value.cells, Value.oneCell', eq_self, ne_eq, Int.reduceToNat, Int.reduceEq, Int.reduceLT, Int.reduceLE, Int.reduceNeg, if_true, if_false, reduceCtorEq, Nat.reduceSub, storeV_ptr, slcV_slice, ↓mwD, mwU]
      have hvb : (validB 4 [] T && samplesB L) = true := by
        rw [hsm, Bool.and_true]
        simp [validB, wtn, eqfB, rangesOf, htp]
      refine (ERun_c 4 _ _ [] T _ L w9 (SlI.nil _) (SlI.ext hT hE9) (SlI.ext hL hE9)).use ?_
      rintro r w10 ⟨he10, h⟩
      rw [hvb, if_pos rfl] at h
      obtain ⟨o, rfl, so⟩ := h
      have hu : (runU (initU 4 [] T) L).2 = filtL T [] L := runU_filt T L (List.replicate (T.length - 1) 0) [] (by simp; omega) fun k hk => by
        have h0 : (List.replicate (T.length - 1) (0 : Int)).getD k 0 = 0 := by
          rw [List.getD_eq_getElem?_getD, List.getElem?_replicate]; split <;> rfl
        rw [h0]; simp
      rw [hu] at so
      simp -dsimp -implicitDefEqProofs only [m5, sF5, Nat.reduceEqDiff, ↓reduceIte, Nat.reduceAdd, Nat.reduceMul, Value.cells, Value.oneCell', eq_self, ne_eq, Int.reduceToNat, Int.reduceEq, Int.reduceLT, Int.reduceLE, Int.reduceNeg, if_true, if_false, reduceCtorEq, Nat.reduceSub, storeV_ptr, slcV_slice, ↓mwD, mwU]
      refine (ints_c so (SlI.ext sfW (he9.trans he10))).use ?_
      rintro r w11 ⟨rfl, he11⟩
      rw [decide_eq_true rfl]
      simp -dsimp -implicitDefEqProofs only [m5, sF5, Nat.reduceEqDiff, ↓reduceIte, Nat.reduceAdd, Nat.reduceMul, Value.cells, Value.oneCell', eq_self, ne_eq, Int.reduceToNat, Int.reduceEq, Int.reduceLT, Int.reduceLE, Int.reduceNeg, if_true, if_false, reduceCtorEq, Nat.reduceSub, storeV_ptr, slcV_slice, ↓mwD, mwU]
      exact (hE9.trans he10).trans he11

end Go.Proofs.Ytefcfnmmpnjjjaa

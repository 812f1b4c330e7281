/- The law's own comparison, the reference's Samples, Flush. -/
import Derived.Test.YtefcfnmmpnjjjaaEffQ
namespace Go.Proofs.Ytefcfnmmpnjjjaa
open Go.RowKit
set_option linter.unusedSimpArgs false

theorem ints_c {w : World} {v u : Value} {a b : List Int} (ha : SlI w v a) (hb : SlI w u b) : Rets Go.Proofs.Try.prog 23 #[v, u] w fun r w' => r = .bool (decide (a = b)) ∧ Ext w w' := by
  obtain ⟨p, cp, rfl, _, _⟩ := ha.shape
  obtain ⟨q, cq, rfl, hq1, hq2⟩ := hb.shape
  refine en23 ?_
  simp -dsimp -implicitDefEqProofs only [m23, sF23, Nat.reduceEqDiff, ↓reduceIte, Nat.reduceAdd, Nat.reduceMul, Value.cells, Value.oneCell', eq_self, ne_eq, Int.reduceToNat, Int.reduceEq, Int.reduceLT, Int.reduceLE, Int.reduceNeg, if_true, if_false, reduceCtorEq, Nat.reduceSub, storeV_ptr, slcV_slice, ↓mwD, mwU]
  refine iteW_dec (fun hl => ?_) (fun hl => ?_)
  · have hl' : a.length = b.length := by omega
    simp -dsimp -implicitDefEqProofs only [m23, sF23, Nat.reduceEqDiff, ↓reduceIte, Nat.reduceAdd, Nat.reduceMul, Value.cells, Value.oneCell', eq_self, ne_eq, Int.reduceToNat, Int.reduceEq, Int.reduceLT, Int.reduceLE, Int.reduceNeg, if_true, if_false, reduceCtorEq, Nat.reduceSub, storeV_ptr, slcV_slice, ↓mwD, mwU]
    refine mwpB_loop (fun e ds wl => ∃ n : Nat, n ≤ a.length ∧ e 5 = .int .i64 n ∧ e 0 = .slice p a.length cp ∧ e 1 = .slice q b.length cq ∧ ds = [] ∧ Ext w wl ∧ a.take n = b.take n) (fun e _ => a.length - (intOf (e 5)).toNat) ?_ ?_
    · simp -dsimp -implicitDefEqProofs only [m23, sF23, Nat.reduceEqDiff, ↓reduceIte, Nat.reduceAdd, Nat.reduceMul, Value.cells, Value.oneCell', eq_self, ne_eq, Int.reduceToNat, Int.reduceEq, Int.reduceLT, Int.reduceLE, Int.reduceNeg, if_true, if_false, reduceCtorEq, Nat.reduceSub, storeV_ptr, slcV_slice, ↓mwD, mwU]
      exact ⟨0, by omega, rfl, Ext.refl _, by simp⟩
    · rintro e ds wl ⟨n, hn, h5, h0, h1, rfl, he, hall⟩
      simp -dsimp -implicitDefEqProofs only [h5, h0, h1, m23, sF23, Nat.reduceEqDiff, ↓reduceIte, Nat.reduceAdd, Nat.reduceMul, Value.cells, Value.oneCell', eq_self, ne_eq, Int.reduceToNat, Int.reduceEq, Int.reduceLT, Int.reduceLE, Int.reduceNeg, if_true, if_false, reduceCtorEq, Nat.reduceSub, storeV_ptr, slcV_slice, ↓mwD, mwU]
      refine iteW_dec (fun hlt => ?_) (fun hge => ?_)
      · have hnl : n < a.length := by omega
        have hnb : n < b.length := by omega
        obtain ⟨ba, oa, ca, hva, hca⟩ := ha.some (by omega)
        obtain ⟨bb, ob, cb, hvb, hcb⟩ := hb.some (by omega)
        cases hva
        cases hvb
        have k1 := he.cell (hca n a[n] (by simp [hnl]))
        have k2 := he.cell (hcb n b[n] (by simp [hnb]))
        have hb1 : (0 : Int) ≤ n ∧ (n : Int) < a.length := by omega
        have hb2 : (0 : Int) ≤ n ∧ (n : Int) < b.length := by omega
        have hw1 := w64_succ hnb (Nat.le_trans hq1 hq2)
        simp -dsimp -implicitDefEqProofs only [h5, h0, h1, m23, sF23, Nat.reduceEqDiff, ↓reduceIte, Nat.reduceAdd, Nat.reduceMul, Value.cells, Value.oneCell', eq_self, ne_eq, Int.reduceToNat, Int.reduceEq, Int.reduceLT, Int.reduceLE, Int.reduceNeg, if_true, if_false, reduceCtorEq, Nat.reduceSub, storeV_ptr, slcV_slice, ↓mwD, mwU]
        refine mwpB_drawE ?_
        simp -dsimp -implicitDefEqProofs only [h5, h0, h1, hb1, hb2, and_self, k1, k2, m23, sF23, Nat.reduceEqDiff, ↓reduceIte, Nat.reduceAdd, Nat.reduceMul, Value.cells, Value.oneCell', eq_self, ne_eq, Int.reduceToNat, Int.reduceEq, Int.reduceLT, Int.reduceLE, Int.reduceNeg, if_true, if_false, reduceCtorEq, Nat.reduceSub, storeV_ptr, slcV_slice, ↓mwD, mwU]
        refine iteW_dec (fun heq => ?_) (fun hne => ?_)
        · simp -dsimp -implicitDefEqProofs only [h5, h0, h1, hw1, m23, sF23, Nat.reduceEqDiff, ↓reduceIte, Nat.reduceAdd, Nat.reduceMul, Value.cells, Value.oneCell', eq_self, ne_eq, Int.reduceToNat, Int.reduceEq, Int.reduceLT, Int.reduceLE, Int.reduceNeg, if_true, if_false, reduceCtorEq, Nat.reduceSub, storeV_ptr, slcV_slice, ↓mwD, mwU]
          exact ⟨⟨n + 1, by omega, rfl, he.drew', by rw [List.take_add_one, List.take_add_one, hall, List.getElem?_eq_getElem hnl, List.getElem?_eq_getElem hnb, heq]⟩, by simp only [intOf]; omega⟩
        · simp -dsimp -implicitDefEqProofs only [m23, sF23, Nat.reduceEqDiff, ↓reduceIte, Nat.reduceAdd, Nat.reduceMul, Value.cells, Value.oneCell', eq_self, ne_eq, Int.reduceToNat, Int.reduceEq, Int.reduceLT, Int.reduceLE, Int.reduceNeg, if_true, if_false, reduceCtorEq, Nat.reduceSub, storeV_ptr, slcV_slice, ↓mwD, mwU]
          refine ⟨?_, he.drew'⟩
          have : ¬ a = b := by rintro rfl; exact hne rfl
          rw [decide_eq_false this]
      · have hnl : n = a.length := by omega
        subst hnl
        simp -dsimp -implicitDefEqProofs only [h5, h0, h1, m23, sF23, Nat.reduceEqDiff, ↓reduceIte, Nat.reduceAdd, Nat.reduceMul, Value.cells, Value.oneCell', eq_self, ne_eq, Int.reduceToNat, Int.reduceEq, Int.reduceLT, Int.reduceLE, Int.reduceNeg, if_true, if_false, reduceCtorEq, Nat.reduceSub, storeV_ptr, slcV_slice, ↓mwD, mwU]
        refine ⟨?_, he⟩
        have : a = b := by
          rw [List.take_length, hl', List.take_length] at hall
          exact hall
        rw [decide_eq_true this]
  · simp -dsimp -implicitDefEqProofs only [m23, sF23, Nat.reduceEqDiff, ↓reduceIte, Nat.reduceAdd, Nat.reduceMul, Value.cells, Value.oneCell', eq_self, ne_eq, Int.reduceToNat, Int.reduceEq, Int.reduceLT, Int.reduceLE, Int.reduceNeg, if_true, if_false, reduceCtorEq, Nat.reduceSub, storeV_ptr, slcV_slice, ↓mwD, mwU]
    refine ⟨?_, Ext.refl _⟩
    have : ¬ a = b := by rintro rfl; exact hl rfl
    rw [decide_eq_false this]

theorem bnd_ne_iff (x : Int) : bnd x = x ↔ Smp x := by
  unfold bnd Smp
  constructor
  · intro h; split at h <;> (try split at h) <;> omega
  · intro h; split <;> (try split) <;> omega

theorem refSamples_c {w : World} {v : Value} {L : List Int} (hL : SlI w v L) : Rets Go.Proofs.Try.prog 20 #[v] w fun r w' => r = .int .i64 (if samplesB L = true then 0 else 1) ∧ Ext w w' := by
  obtain ⟨p, cp, rfl, hp1, hp2⟩ := hL.shape
  refine en20 ?_
  simp -dsimp -implicitDefEqProofs only [m20, sF20, Nat.reduceEqDiff, ↓reduceIte, Nat.reduceAdd, Nat.reduceMul, Value.cells, Value.oneCell', eq_self, ne_eq, Int.reduceToNat, Int.reduceEq, Int.reduceLT, Int.reduceLE, Int.reduceNeg, if_true, if_false, reduceCtorEq, Nat.reduceSub, storeV_ptr, slcV_slice, ↓mwD, mwU]
  refine mwpB_loop (fun e ds wl => ∃ n : Nat, n ≤ L.length ∧ e 3 = .int .i64 n ∧ e 0 = .slice p L.length cp ∧ ds = [] ∧ Ext w wl ∧ Smps (L.take n)) (fun e _ => L.length - (intOf (e 3)).toNat) ?_ ?_
  · simp -dsimp -implicitDefEqProofs only [m20, sF20, Nat.reduceEqDiff, ↓reduceIte, Nat.reduceAdd, Nat.reduceMul, Value.cells, Value.oneCell', eq_self, ne_eq, Int.reduceToNat, Int.reduceEq, Int.reduceLT, Int.reduceLE, Int.reduceNeg, if_true, if_false, reduceCtorEq, Nat.reduceSub, storeV_ptr, slcV_slice, ↓mwD, mwU]
    exact ⟨0, by omega, rfl, Ext.refl _, fun x hx => by simp at hx⟩
  · rintro e ds wl ⟨n, hn, h3, h0, rfl, he, hall⟩
    simp -dsimp -implicitDefEqProofs only [h3, h0, m20, sF20, Nat.reduceEqDiff, ↓reduceIte, Nat.reduceAdd, Nat.reduceMul, Value.cells, Value.oneCell', eq_self, ne_eq, Int.reduceToNat, Int.reduceEq, Int.reduceLT, Int.reduceLE, Int.reduceNeg, if_true, if_false, reduceCtorEq, Nat.reduceSub, storeV_ptr, slcV_slice, ↓mwD, mwU]
    refine iteW_dec (fun hlt => ?_) (fun hge => ?_)
    · have hnl : n < L.length := by omega
      obtain ⟨b, o, c, hv, hc⟩ := hL.some (by omega)
      cases hv
      have k1 := he.cell (hc n L[n] (by simp [hnl]))
      have hb1 : (0 : Int) ≤ n ∧ (n : Int) < L.length := by omega
      have hw1 := w64_succ hnl (Nat.le_trans hp1 hp2)
      simp -dsimp -implicitDefEqProofs only [h3, h0, m20, sF20, Nat.reduceEqDiff, ↓reduceIte, Nat.reduceAdd, Nat.reduceMul, Value.cells, Value.oneCell', eq_self, ne_eq, Int.reduceToNat, Int.reduceEq, Int.reduceLT, Int.reduceLE, Int.reduceNeg, if_true, if_false, reduceCtorEq, Nat.reduceSub, storeV_ptr, slcV_slice, ↓mwD, mwU]
      refine mwpB_drawE ?_
      simp -dsimp -implicitDefEqProofs only [h3, h0, hb1, and_self, k1, m20, sF20, Nat.reduceEqDiff, ↓reduceIte, Nat.reduceAdd, Nat.reduceMul, Value.cells, Value.oneCell', eq_self, ne_eq, Int.reduceToNat, Int.reduceEq, Int.reduceLT, Int.reduceLE, Int.reduceNeg, if_true, if_false, reduceCtorEq, Nat.reduceSub, storeV_ptr, slcV_slice, ↓mwD, mwU]
      refine (Bounded_c _ _).use ?_
      rintro r w1 ⟨rfl, rfl⟩
      simp -dsimp -implicitDefEqProofs only [m20, sF20, Nat.reduceEqDiff, ↓reduceIte, Nat.reduceAdd, Nat.reduceMul, Value.cells, Value.oneCell', eq_self, ne_eq, Int.reduceToNat, Int.reduceEq, Int.reduceLT, Int.reduceLE, Int.reduceNeg, if_true, if_false, reduceCtorEq, Nat.reduceSub, storeV_ptr, slcV_slice, ↓mwD, mwU]
      refine ⟨Ext.refl _, iteW_dec (fun heq => ?_) (fun hne => ?_)⟩
      · simp -dsimp -implicitDefEqProofs only [h3, h0, hw1, m20, sF20, Nat.reduceEqDiff, ↓reduceIte, Nat.reduceAdd, Nat.reduceMul, Value.cells, Value.oneCell', eq_self, ne_eq, Int.reduceToNat, Int.reduceEq, Int.reduceLT, Int.reduceLE, Int.reduceNeg, if_true, if_false, reduceCtorEq, Nat.reduceSub, storeV_ptr, slcV_slice, ↓mwD, mwU]
        refine ⟨⟨n + 1, by omega, rfl, he.drew', fun x hx => ?_⟩, by simp only [intOf]; omega⟩
        rw [List.take_add_one, List.getElem?_eq_getElem hnl] at hx
        rcases List.mem_append.1 hx with hx | hx
        · exact hall x hx
        · simp at hx; rw [hx]; exact (bnd_ne_iff _).1 heq
      · simp -dsimp -implicitDefEqProofs only [m20, sF20, Nat.reduceEqDiff, ↓reduceIte, Nat.reduceAdd, Nat.reduceMul, Value.cells, Value.oneCell', eq_self, ne_eq, Int.reduceToNat, Int.reduceEq, Int.reduceLT, Int.reduceLE, Int.reduceNeg, if_true, if_false, reduceCtorEq, Nat.reduceSub, storeV_ptr, slcV_slice, ↓mwD, mwU]
        refine ⟨?_, he.drew'⟩
        have : samplesB L = false := by
          rw [← Bool.not_eq_true]
          intro hs
          exact hne ((bnd_ne_iff _).2 ((samples_smps hs).2 L[n] (by simp)))
        rw [this]; rfl
    · have hnl : n = L.length := by omega
      subst hnl
      rw [List.take_length] at hall
      simp -dsimp -implicitDefEqProofs only [h3, h0, m20, sF20, Nat.reduceEqDiff, ↓reduceIte, Nat.reduceAdd, Nat.reduceMul, Value.cells, Value.oneCell', eq_self, ne_eq, Int.reduceToNat, Int.reduceEq, Int.reduceLT, Int.reduceLE, Int.reduceNeg, if_true, if_false, reduceCtorEq, Nat.reduceSub, storeV_ptr, slcV_slice, ↓mwD, mwU]
      refine iteW_dec (fun hgt => ?_) (fun hle => ?_)
      · simp -dsimp -implicitDefEqProofs only [m20, sF20, Nat.reduceEqDiff, ↓reduceIte, Nat.reduceAdd, Nat.reduceMul, Value.cells, Value.oneCell', eq_self, ne_eq, Int.reduceToNat, Int.reduceEq, Int.reduceLT, Int.reduceLE, Int.reduceNeg, if_true, if_false, reduceCtorEq, Nat.reduceSub, storeV_ptr, slcV_slice, ↓mwD, mwU]
        have : samplesB L = false := by
          rw [← Bool.not_eq_true]
          intro hs
          have := (samples_smps hs).1
          omega
        exact ⟨by rw [this]; rfl, he⟩
      · simp -dsimp -implicitDefEqProofs only [m20, sF20, Nat.reduceEqDiff, ↓reduceIte, Nat.reduceAdd, Nat.reduceMul, Value.cells, Value.oneCell', eq_self, ne_eq, Int.reduceToNat, Int.reduceEq, Int.reduceLT, Int.reduceLE, Int.reduceNeg, if_true, if_false, reduceCtorEq, Nat.reduceSub, storeV_ptr, slcV_slice, ↓mwD, mwU]
        have : samplesB L = true := by
          simp only [samplesB, Bool.and_eq_true, decide_eq_true_eq, Bool.not_eq_true', List.any_eq_false]
          refine ⟨by omega, fun x hx => ?_⟩
          have := hall x hx
          simpa [wtn_iff, Smp] using this
        exact ⟨by rw [this]; rfl, he⟩

theorem samples_zero (n : Nat) (h : n ≤ 4096) : samplesB (List.replicate n 0) = true := by
  simp only [samplesB, Bool.and_eq_true, decide_eq_true_eq, Bool.not_eq_true', List.any_eq_false, List.length_replicate]
  refine ⟨by omega, fun x hx => ?_⟩
  rw [(List.mem_replicate.1 hx).2]
  simp [wtn]

theorem HFlush_c {w : World} {v : Value} {G : Nat → Prop} {ls : List LX} {eq : Bool} {n : Int} (hh : HostIn w v G ls eq) (hs : ∀ x ∈ ls, x.ok) (h8 : ls.length ≤ 8) (hG : ∀ b, G b → b < w.heap.size) (h0 : 0 ≤ n) (h1 : n ≤ 4096) :
    Rets Go.Proofs.Try.prog 27 #[v, .int .i64 n] w fun r w' => ∃ o, r = .tuple #[o, .int .i64 0] ∧ SlI w' o (runH ls (List.replicate n.toNat 0)).2 ∧ HostIn w' v G (runH ls (List.replicate n.toNat 0)).1 eq ∧ ChP G w w' ∧ (∀ q, o.ownBlock = some q → w.heap.size ≤ q) := by
  have hv : ∃ b, v = .pointer (some ⟨b, 0, none⟩) := by obtain ⟨b, _, _, _, h, _⟩ := hh; exact ⟨b, h⟩
  obtain ⟨bh, rfl⟩ := hv
  have hw : wtn n 0 4096 = true := wtn_iff.2 ⟨h0, h1⟩
  refine en27 ?_
  simp -dsimp -implicitDefEqProofs only [m27, sF27, Nat.reduceEqDiff, ↓reduceIte, Nat.reduceAdd, Nat.reduceMul, Value.cells, Value.oneCell', eq_self, ne_eq, Int.reduceToNat, Int.reduceEq, Int.reduceLT, Int.reduceLE, Int.reduceNeg, if_true, if_false, reduceCtorEq, Nat.reduceSub, storeV_ptr, slcV_slice, ↓mwD, mwU]
  refine (within_c _ _ _ _).use ?_
  rintro r w' ⟨rfl, rfl⟩
  rw [hw]
  simp -dsimp -implicitDefEqProofs only [makeS_ints h0 (show n ≤ 1048576 by omega), m27, sF27, Nat.reduceEqDiff, ↓reduceIte, Nat.reduceAdd, Nat.reduceMul, Value.cells, Value.oneCell', eq_self, ne_eq, Int.reduceToNat, Int.reduceEq, Int.reduceLT, Int.reduceLE, Int.reduceNeg, if_true, if_false, reduceCtorEq, Nat.reduceSub, storeV_ptr, slcV_slice, ↓mwD, mwU]
  refine (HRun_c (hh.ext (Ext.alloc _ _)) hs h8 (sl_new w' (List.replicate n.toNat 0) n.toNat (by simp) (by omega)) (fun _ q hq hg => ?_) (fun b hb => by have := hG b hb; simp; omega)).use ?_
  · simp only [Value.ownBlock, Option.some.injEq] at hq
    have := hG q hg
    omega
  rintro r w2 h
  rw [samples_zero _ (by omega), if_pos rfl] at h
  obtain ⟨o, rfl, h2, h3, h4, h5⟩ := h
  simp -dsimp -implicitDefEqProofs only [m27, sF27, Nat.reduceEqDiff, ↓reduceIte, Nat.reduceAdd, Nat.reduceMul, Value.cells, Value.oneCell', eq_self, ne_eq, Int.reduceToNat, Int.reduceEq, Int.reduceLT, Int.reduceLE, Int.reduceNeg, if_true, if_false, reduceCtorEq, Nat.reduceSub, storeV_ptr, slcV_slice, ↓mwD, mwU]
  exact ⟨o, rfl, h2, h3, (Ext.chp (Ext.alloc _ _)).trans h4, fun q hq => by have := h5 q hq; simp at this; omega⟩

end Go.Proofs.Ytefcfnmmpnjjjaa

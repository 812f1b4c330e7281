/- EffectEqual: the walk. -/
import Derived.Test.YtefcfnmmpnjjjaaEffX
namespace Go.Proofs.Ytefcfnmmpnjjjaa
open Go.RowKit
set_option linter.unusedSimpArgs false

/-- append(out, y) onto a slice of slices of the call's own. -/
theorem append_slc {w : World} {base : Nat} {t ty e : TypeId} {z v y : Value} {n : Nat} {xs : List Value} (he : telem Go.Proofs.Try.prog t = some e) (hok : tok Go.Proofs.Try.prog e = true) (hz : tzero Go.Proofs.Try.prog e = some z) (hzs : z.cells.size = 1) (hsz : tsz Go.Proofs.Try.prog e = 1) (hby : tbytes Go.Proofs.Try.prog e = 24)
    (hown : w.ownsRow base e 1 v n xs) (hy : y.oneCell' = true) (hn : n ≤ 1099511627776) (hb : base ≤ w.heap.size) :
    ∃ g cap w', (Builtin.append_ #[t, t] ty #[v, .slice (some ⟨w.heap.size, 0, none⟩) 1 1]).run Go.Proofs.Try.prog (w.alloc (.cells #[y] e)) = .ok (.slice (some ⟨g, 0, none⟩) (n + 1) cap) w' ∧ w'.ownsRow base e 1 (.slice (some ⟨g, 0, none⟩) (n + 1) cap) (n + 1) (xs ++ [y]) ∧
      (w.alloc (.cells #[y] e)).grownBy w' v.ownBlock ∧ (v.ownBlock = some g ∨ g = w.heap.size + 1) ∧ g < w'.heap.size := by
  have hi : ∃ i, (Go.Proofs.Try.prog).info? e = some i := by unfold tok at hok; simp only [Bool.and_eq_true] at hok; exact Option.isSome_iff_exists.1 hok.1
  obtain ⟨i, hi⟩ := hi
  have hz' : i.zero = some z := by simpa [tzero, hi] using hz
  exact run_append_lies (P := Go.Proofs.Try.prog) (w.alloc (.cells #[y] e)) t ty base e i z 1 24 (telem_some he) hi hz' (by simpa [tsz, hi] using hsz) (by simpa [tbytes, hi] using hby) hzs (by omega) v n xs (Own.ext hown (Ext.alloc _ _)) ⟨w.heap.size, 0, none⟩ 1 1 [y] rfl
    (fun j u hj => by rw [Addr.add_lit, World.cell?_alloc_new]; simpa using hj) (fun u hu => by simp at hu; subst hu; exact hy) (by omega) (by unfold maxLen; omega) (by omega) (by simp; omega) _ (by simp)

/-- A slice of effects, all its blocks in D. -/
def SlED (w : World) (v : Value) (D : Nat → Prop) (xs : List EX) : Prop :=
  ∃ p cap, v = .slice p xs.length cap ∧ xs.length ≤ cap ∧ cap ≤ maxLen ∧ ∀ i k A T, xs[i]? = some (k, A, T) → ∃ b o a t, p = some ⟨b, o, none⟩ ∧ D b ∧ w.cell? ⟨b, o + i * 3, none⟩ = some (.int .i64 k) ∧ w.cell? ⟨b, o + i * 3 + 1, none⟩ = some a ∧ w.cell? ⟨b, o + i * 3 + 2, none⟩ = some t ∧ SlI w a A ∧ SlI w t T ∧
    (A ≠ [] → ∀ q, a.ownBlock = some q → D q) ∧ (T ≠ [] → ∀ q, t.ownBlock = some q → D q)
theorem SlED.same {w w' : World} {v : Value} {D D' : Nat → Prop} {xs : List EX} (h : SlED w v D xs) (hs : Same D w w') (hD : ∀ q, D q → D' q) : SlED w' v D' xs := by
  obtain ⟨p, cap, h1, h2, h3, h4⟩ := h
  refine ⟨p, cap, h1, h2, h3, fun i k A T hi => ?_⟩
  obtain ⟨b, o, a, t, e0, hb, c0, c1, c2, hA, hT, da, dt⟩ := h4 i k A T hi
  have hc : ∀ j u, w.cell? ⟨b, j, none⟩ = some u → w'.cell? ⟨b, j, none⟩ = some u := fun j u hu => by rw [World.cell?_of_block (w := w) (hs b hb)]; exact hu
  exact ⟨b, o, a, t, e0, hD b hb, hc _ _ c0, hc _ _ c1, hc _ _ c2, Sl.same (cs := ints A) hA hs (fun hne => da (by simpa [ints] using hne)), Sl.same (cs := ints T) hT hs (fun hne => dt (by simpa [ints] using hne)), fun hne q hq => hD q (da hne q hq), fun hne q hq => hD q (dt hne q hq)⟩
theorem SlED.sle {w : World} {v : Value} {D : Nat → Prop} {xs : List EX} (h : SlED w v D xs) : SlE w v xs := by
  obtain ⟨p, cap, h1, h2, h3, h4⟩ := h
  refine ⟨p, cap, h1, h2, h3, fun i k A T hi => ?_⟩
  obtain ⟨b, o, a, t, e0, hb, c0, c1, c2, hA, hT, da, dt⟩ := h4 i k A T hi
  exact ⟨b, o, a, t, e0, c0, c1, c2, hA, hT⟩

theorem bs_eff1 (v : Value) (t : Value) (k : Int) : buildS Go.Proofs.Try.prog 45 1 [(0, .agg #[.int .i64 k, v, t])] = some (24, #[.int .i64 k, v, t]) := by kernel_rfl
theorem bs_eff2 (v t v' t' : Value) (k k' : Int) : buildS Go.Proofs.Try.prog 45 2 [(0, .agg #[.int .i64 k, v, t]), (1, .agg #[.int .i64 k', v', t'])] = some (24, #[.int .i64 k, v, t, .int .i64 k', v', t']) := by kernel_rfl
theorem bs_lane (p : Option Addr) (n c : Nat) : buildS Go.Proofs.Try.prog 44 1 [(0, .slice p n c)] = some (45, #[.slice p n c]) := by kernel_rfl

theorem Own.same' {w w' : World} {base : Nat} {e : TypeId} {size : Nat} {v : Value} {n : Nat} {cs : List Value} (h : w.ownsRow base e size v n cs) (hs : ∀ k, v.ownBlock = some k → w'.heap[k]? = w.heap[k]?) : w'.ownsRow base e size v n cs := by
  refine ⟨h.1, ?_⟩
  rcases h.2 with h2 | ⟨g, cap, cur, hv, hg, hh, r⟩
  · exact .inl h2
  · exact .inr ⟨g, cap, cur, hv, hg, by rw [hs g (by rw [hv]; rfl)]; exact hh, r⟩
theorem snoc_rel {α β : Type} {vs : List α} {ls : List β} {x : α} {y : β} {P : α → β → Prop} (hl : vs.length = ls.length) (h : ∀ (i : Nat) u v, vs[i]? = some u → ls[i]? = some v → P u v) (hn : P x y) :
    ∀ (i : Nat) u v, (vs ++ [x])[i]? = some u → (ls ++ [y])[i]? = some v → P u v := fun i u v hu hv => by
  by_cases hi : i < vs.length
  · rw [List.getElem?_append_left hi] at hu
    rw [List.getElem?_append_left (by omega)] at hv
    exact h i u v hu hv
  · rw [List.getElem?_append_right (by omega)] at hu
    rw [List.getElem?_append_right (by omega)] at hv
    by_cases h0 : i = vs.length
    · subst h0
      simp at hu
      simp [hl] at hv
      subst hu; subst hv; exact hn
    · rw [List.getElem?_eq_none (by simp; omega)] at hu
      cases hu
theorem slED_two {w : World} {D : Nat → Prop} {b b1 b2 : Nat} {k k' a a' : Int} (hb : D b) (c0 : w.cell? ⟨b, 0, none⟩ = some (.int .i64 k)) (c1 : w.cell? ⟨b, 1, none⟩ = some (.slice (some ⟨b1, 0, none⟩) 1 1)) (c2 : w.cell? ⟨b, 2, none⟩ = some (.slice none 0 0))
    (c3 : w.cell? ⟨b, 3, none⟩ = some (.int .i64 k')) (c4 : w.cell? ⟨b, 4, none⟩ = some (.slice (some ⟨b2, 0, none⟩) 1 1)) (c5 : w.cell? ⟨b, 5, none⟩ = some (.slice none 0 0)) (h1 : SlI w (.slice (some ⟨b1, 0, none⟩) 1 1) [a]) (h2 : SlI w (.slice (some ⟨b2, 0, none⟩) 1 1) [a']) (d1 : D b1) (d2 : D b2) :
    SlED w (.slice (some ⟨b, 0, none⟩) 2 2) D [(k, [a], []), (k', [a'], [])] := by
  refine ⟨_, 2, rfl, Nat.le_refl _, by unfold maxLen; omega, fun i kk A T hi => ?_⟩
  match i, hi with
  | 0, hi =>
    simp at hi
    obtain ⟨rfl, rfl, rfl⟩ := hi
    exact ⟨b, 0, _, _, rfl, hb, c0, c1, c2, h1, SlI.nil w, fun _ q hq => by simp [Value.ownBlock] at hq; subst hq; exact d1, fun h => absurd rfl h⟩
  | 1, hi =>
    simp at hi
    obtain ⟨rfl, rfl, rfl⟩ := hi
    exact ⟨b, 0, _, _, rfl, hb, c3, c4, c5, h2, SlI.nil w, fun _ q hq => by simp [Value.ownBlock] at hq; subst hq; exact d2, fun h => absurd rfl h⟩
  | i + 2, hi => simp at hi
theorem slED_one {w : World} {D : Nat → Prop} {b b1 : Nat} {k a : Int} (hb : D b) (c0 : w.cell? ⟨b, 0, none⟩ = some (.int .i64 k)) (c1 : w.cell? ⟨b, 1, none⟩ = some (.slice (some ⟨b1, 0, none⟩) 1 1)) (c2 : w.cell? ⟨b, 2, none⟩ = some (.slice none 0 0))
    (h1 : SlI w (.slice (some ⟨b1, 0, none⟩) 1 1) [a]) (d1 : D b1) : SlED w (.slice (some ⟨b, 0, none⟩) 1 1) D [(k, [a], [])] := by
  refine ⟨_, 1, rfl, Nat.le_refl _, by unfold maxLen; omega, fun i kk A T hi => ?_⟩
  match i, hi with
  | 0, hi =>
    simp at hi
    obtain ⟨rfl, rfl, rfl⟩ := hi
    exact ⟨b, 0, _, _, rfl, hb, c0, c1, c2, h1, SlI.nil w, fun _ q hq => by simp [Value.ownBlock] at hq; subst hq; exact d1, fun h => absurd rfl h⟩
  | i + 1, hi => simp at hi

theorem EffectEqual_c (dv gv lv : Value) (ds gs L : List Int) (w : World) (hds : SlI w dv ds) (hgs : SlI w gv gs) (hL : SlI w lv L) :
    Rets Go.Proofs.Try.prog 6 #[dv, gv, lv] w fun r w' => r = .bool true ∧ Ext w w' := by
  obtain ⟨pd, cd, rfl, hd1, hd2⟩ := id hds.shape
  obtain ⟨pg, cg, rfl, hg1, hg2⟩ := id hgs.shape
  obtain ⟨pl, cl, rfl, hl1, hl2⟩ := id hL.shape
  refine en6 ?_
  simp -dsimp -implicitDefEqProofs only [m6, sF6, Nat.reduceEqDiff, ↓reduceIte, Nat.reduceAdd, Nat.reduceMul, Value.cells, Value.oneCell', eq_self, ne_eq, Int.reduceToNat, Int.reduceEq, Int.reduceLT, Int.reduceLE, Int.reduceNeg, if_true, if_false, reduceCtorEq, Nat.reduceSub, storeV_ptr, slcV_slice, ↓mwD, mwU]
  refine (awake_c w).use ?_
  rintro r w1 ⟨rfl, he1⟩
  simp -dsimp -implicitDefEqProofs only [m6, sF6, Nat.reduceEqDiff, ↓reduceIte, Nat.reduceAdd, Nat.reduceMul, Value.cells, Value.oneCell', eq_self, ne_eq, Int.reduceToNat, Int.reduceEq, Int.reduceLT, Int.reduceLE, Int.reduceNeg, if_true, if_false, reduceCtorEq, Nat.reduceSub, storeV_ptr, slcV_slice, ↓mwD, mwU]
  refine iteW_dec (fun h1 => ?_) (fun h1 => ?_)
  · simp -dsimp -implicitDefEqProofs only [h1, m6, sF6, Nat.reduceEqDiff, ↓reduceIte, Nat.reduceAdd, Nat.reduceMul, Value.cells, Value.oneCell', eq_self, ne_eq, Int.reduceToNat, Int.reduceEq, Int.reduceLT, Int.reduceLE, Int.reduceNeg, if_true, if_false, reduceCtorEq, Nat.reduceSub, storeV_ptr, slcV_slice, ↓mwD, mwU]
    exact he1
  simp -dsimp -implicitDefEqProofs only [h1, m6, sF6, Nat.reduceEqDiff, ↓reduceIte, Nat.reduceAdd, Nat.reduceMul, Value.cells, Value.oneCell', eq_self, ne_eq, Int.reduceToNat, Int.reduceEq, Int.reduceLT, Int.reduceLE, Int.reduceNeg, if_true, if_false, reduceCtorEq, Nat.reduceSub, storeV_ptr, slcV_slice, ↓mwD, mwU]
  refine iteW_dec (fun h2 => ?_) (fun h2 => ?_)
  · simp -dsimp -implicitDefEqProofs only [h1, h2, m6, sF6, Nat.reduceEqDiff, ↓reduceIte, Nat.reduceAdd, Nat.reduceMul, Value.cells, Value.oneCell', eq_self, ne_eq, Int.reduceToNat, Int.reduceEq, Int.reduceLT, Int.reduceLE, Int.reduceNeg, if_true, if_false, reduceCtorEq, Nat.reduceSub, storeV_ptr, slcV_slice, ↓mwD, mwU]
    exact he1
  simp -dsimp -implicitDefEqProofs only [h1, h2, m6, sF6, Nat.reduceEqDiff, ↓reduceIte, Nat.reduceAdd, Nat.reduceMul, Value.cells, Value.oneCell', eq_self, ne_eq, Int.reduceToNat, Int.reduceEq, Int.reduceLT, Int.reduceLE, Int.reduceNeg, if_true, if_false, reduceCtorEq, Nat.reduceSub, storeV_ptr, slcV_slice, ↓mwD, mwU]
  refine iteW_dec (fun h3 => ?_) (fun h3 => ?_)
  · have hlg : gs.length = ds.length := by omega
    simp -dsimp -implicitDefEqProofs only [h1, h2, h3, m6, sF6, Nat.reduceEqDiff, ↓reduceIte, Nat.reduceAdd, Nat.reduceMul, Value.cells, Value.oneCell', eq_self, ne_eq, Int.reduceToNat, Int.reduceEq, Int.reduceLT, Int.reduceLE, Int.reduceNeg, if_true, if_false, reduceCtorEq, Nat.reduceSub, storeV_ptr, slcV_slice, ↓mwD, mwU]
    refine iteW_dec (fun h4 => ?_) (fun h4 => ?_)
    · simp -dsimp -implicitDefEqProofs only [h1, h2, h3, h4, m6, sF6, Nat.reduceEqDiff, ↓reduceIte, Nat.reduceAdd, Nat.reduceMul, Value.cells, Value.oneCell', eq_self, ne_eq, Int.reduceToNat, Int.reduceEq, Int.reduceLT, Int.reduceLE, Int.reduceNeg, if_true, if_false, reduceCtorEq, Nat.reduceSub, storeV_ptr, slcV_slice, ↓mwD, mwU]
      exact he1
    simp -dsimp -implicitDefEqProofs only [h1, h2, h3, h4, m6, sF6, Nat.reduceEqDiff, ↓reduceIte, Nat.reduceAdd, Nat.reduceMul, Value.cells, Value.oneCell', eq_self, ne_eq, Int.reduceToNat, Int.reduceEq, Int.reduceLT, Int.reduceLE, Int.reduceNeg, if_true, if_false, reduceCtorEq, Nat.reduceSub, storeV_ptr, slcV_slice, ↓mwD, mwU]
    refine (refSamples_c (hL.ext he1)).use ?_
    rintro r w2 ⟨rfl, he2⟩
    cases hsm : samplesB L
    · simp -dsimp -implicitDefEqProofs only [h1, h2, h3, h4, m6, sF6, Nat.reduceEqDiff, ↓reduceIte, Nat.reduceAdd, Nat.reduceMul, Value.cells, Value.oneCell', eq_self, ne_eq, Int.reduceToNat, Int.reduceEq, Int.reduceLT, Int.reduceLE, Int.reduceNeg, if_true, if_false, reduceCtorEq, Nat.reduceSub, storeV_ptr, slcV_slice, ↓mwD, mwU]
      exact he1.trans he2
    simp -dsimp -implicitDefEqProofs only [h1, h2, h3, h4, m6, sF6, Nat.reduceEqDiff, ↓reduceIte, Nat.reduceAdd, Nat.reduceMul, Value.cells, Value.oneCell', eq_self, ne_eq, Int.reduceToNat, Int.reduceEq, Int.reduceLT, Int.reduceLE, Int.reduceNeg, if_true, if_false, reduceCtorEq, Nat.reduceSub, storeV_ptr, slcV_slice, ↓mwD, mwU]
    have hE2 := he1.trans he2
    refine mwpB_loop (fun e df wl => ∃ n : Nat, n ≤ ds.length ∧ e 10 = .int .i64 n ∧ e 9 = .int .i64 (mostF 0 (ds.take n)) ∧ e 0 = .slice pd ds.length cd ∧ e 1 = .slice pg gs.length cg ∧ e 2 = .slice pl L.length cl ∧ df = [] ∧ Ext w2 wl ∧
      (∀ d ∈ ds.take n, 0 ≤ d ∧ d ≤ 600) ∧ (∀ g ∈ gs.take n, 0 ≤ g ∧ g ≤ 655360) ∧ ∃ v7 v8 vs7 vs8 D, e 7 = v7 ∧ e 8 = v8 ∧ wl.ownsRow w2.heap.size 45 1 v7 n vs7 ∧ wl.ownsRow w2.heap.size 45 1 v8 n vs8 ∧
      (∀ (i : Nat) u xs, vs7[i]? = some u → (lanesL (ds.take n) (gs.take n))[i]? = some xs → SlED wl u D xs) ∧ (∀ (i : Nat) u xs, vs8[i]? = some u → (plainL (gs.take n))[i]? = some xs → SlED wl u D xs) ∧
      (∀ q, D q → w2.heap.size ≤ q ∧ q < wl.heap.size ∧ v7.ownBlock ≠ some q ∧ v8.ownBlock ≠ some q) ∧ ∀ q, v7.ownBlock = some q → v8.ownBlock ≠ some q) (fun e _ => ds.length - (intOf (e 10)).toNat) ?_ ?_
    · simp -dsimp -implicitDefEqProofs only [m6, sF6, Nat.reduceEqDiff, ↓reduceIte, Nat.reduceAdd, Nat.reduceMul, Value.cells, Value.oneCell', eq_self, ne_eq, Int.reduceToNat, Int.reduceEq, Int.reduceLT, Int.reduceLE, Int.reduceNeg, if_true, if_false, reduceCtorEq, Nat.reduceSub, storeV_ptr, slcV_slice, ↓mwD, mwU]
      exact ⟨0, by omega, rfl, rfl, Ext.refl _, by simp, by simp, _, _, [], [], fun _ => False, rfl, rfl, World.ownsRow_nil _ _ _ _, World.ownsRow_nil _ _ _ _, fun i u xs h => by simp at h, fun i u xs h => by simp at h, fun q h => h.elim, fun q h => by simp [Value.ownBlock] at h⟩
    · rintro e df wl ⟨n, hn, k10, k9, k0, k1, k2, rfl, hex, hbd, hbg, v7, v8, vs7, vs8, D, k7, k8, ho7, ho8, hs7, hs8, hD, h78⟩
      simp -dsimp -implicitDefEqProofs only [k10, k9, k0, k1, k2, k7, k8, m6, sF6, Nat.reduceEqDiff, ↓reduceIte, Nat.reduceAdd, Nat.reduceMul, Value.cells, Value.oneCell', eq_self, ne_eq, Int.reduceToNat, Int.reduceEq, Int.reduceLT, Int.reduceLE, Int.reduceNeg, if_true, if_false, reduceCtorEq, Nat.reduceSub, storeV_ptr, slcV_slice, ↓mwD, mwU]
      refine iteW_dec (fun hlt => ?_) (fun hge => ?_)
      · have hnl : n < ds.length := by omega
        have hng : n < gs.length := by omega
        obtain ⟨bd, od, cd', hvd, hcd⟩ := hds.some (by omega)
        obtain ⟨bg, og, cg', hvg, hcg⟩ := hgs.some (by omega)
        cases hvd
        cases hvg
        have q1 := (hE2.trans hex).cell (hcd n ds[n] (by simp [hnl]))
        have q2 := (hE2.trans hex).cell (hcg n gs[n] (by simp [hng]))
        have hb1 : (0 : Int) ≤ n ∧ (n : Int) < ds.length := by omega
        have hb2 : (0 : Int) ≤ n ∧ (n : Int) < gs.length := by omega
        have hw1 : IntKind.i64.wrap ((n : Int) + 1) = ((n + 1 : Nat) : Int) := by rw [w64 (by omega) (by omega)]; omega
        simp -dsimp -implicitDefEqProofs only [k10, k9, k0, k1, k2, k7, k8, hb1, hb2, and_self, q1, q2, m6, sF6, Nat.reduceEqDiff, ↓reduceIte, Nat.reduceAdd, Nat.reduceMul, Value.cells, Value.oneCell', eq_self, ne_eq, Int.reduceToNat, Int.reduceEq, Int.reduceLT, Int.reduceLE, Int.reduceNeg, if_true, if_false, reduceCtorEq, Nat.reduceSub, storeV_ptr, slcV_slice, ↓mwD, mwU]
        refine iteW_dec (fun e1 => ?_) (fun e1 => ?_)
        · simp -dsimp -implicitDefEqProofs only [k10, k9, k0, k1, k2, k7, k8, hb1, hb2, and_self, q1, q2, e1, m6, sF6, Nat.reduceEqDiff, ↓reduceIte, Nat.reduceAdd, Nat.reduceMul, Value.cells, Value.oneCell', eq_self, ne_eq, Int.reduceToNat, Int.reduceEq, Int.reduceLT, Int.reduceLE, Int.reduceNeg, if_true, if_false, reduceCtorEq, Nat.reduceSub, storeV_ptr, slcV_slice, ↓mwD, mwU]
          exact hE2.trans hex
        simp -dsimp -implicitDefEqProofs only [k10, k9, k0, k1, k2, k7, k8, hb1, hb2, and_self, q1, q2, e1, m6, sF6, Nat.reduceEqDiff, ↓reduceIte, Nat.reduceAdd, Nat.reduceMul, Value.cells, Value.oneCell', eq_self, ne_eq, Int.reduceToNat, Int.reduceEq, Int.reduceLT, Int.reduceLE, Int.reduceNeg, if_true, if_false, reduceCtorEq, Nat.reduceSub, storeV_ptr, slcV_slice, ↓mwD, mwU]
        refine iteW_dec (fun e2 => ?_) (fun e2 => ?_)
        · simp -dsimp -implicitDefEqProofs only [k10, k9, k0, k1, k2, k7, k8, hb1, hb2, and_self, q1, q2, e1, e2, m6, sF6, Nat.reduceEqDiff, ↓reduceIte, Nat.reduceAdd, Nat.reduceMul, Value.cells, Value.oneCell', eq_self, ne_eq, Int.reduceToNat, Int.reduceEq, Int.reduceLT, Int.reduceLE, Int.reduceNeg, if_true, if_false, reduceCtorEq, Nat.reduceSub, storeV_ptr, slcV_slice, ↓mwD, mwU]
          exact hE2.trans hex
        simp -dsimp -implicitDefEqProofs only [k10, k9, k0, k1, k2, k7, k8, hb1, hb2, and_self, q1, q2, e1, e2, m6, sF6, Nat.reduceEqDiff, ↓reduceIte, Nat.reduceAdd, Nat.reduceMul, Value.cells, Value.oneCell', eq_self, ne_eq, Int.reduceToNat, Int.reduceEq, Int.reduceLT, Int.reduceLE, Int.reduceNeg, if_true, if_false, reduceCtorEq, Nat.reduceSub, storeV_ptr, slcV_slice, ↓mwD, mwU]
        refine iteW_dec (fun e3 => ?_) (fun e3 => ?_)
        · simp -dsimp -implicitDefEqProofs only [k10, k9, k0, k1, k2, k7, k8, hb1, hb2, and_self, q1, q2, e1, e2, e3, m6, sF6, Nat.reduceEqDiff, ↓reduceIte, Nat.reduceAdd, Nat.reduceMul, Value.cells, Value.oneCell', eq_self, ne_eq, Int.reduceToNat, Int.reduceEq, Int.reduceLT, Int.reduceLE, Int.reduceNeg, if_true, if_false, reduceCtorEq, Nat.reduceSub, storeV_ptr, slcV_slice, ↓mwD, mwU]
          exact hE2.trans hex
        simp -dsimp -implicitDefEqProofs only [k10, k9, k0, k1, k2, k7, k8, hb1, hb2, and_self, q1, q2, e1, e2, e3, m6, sF6, Nat.reduceEqDiff, ↓reduceIte, Nat.reduceAdd, Nat.reduceMul, Value.cells, Value.oneCell', eq_self, ne_eq, Int.reduceToNat, Int.reduceEq, Int.reduceLT, Int.reduceLE, Int.reduceNeg, if_true, if_false, reduceCtorEq, Nat.reduceSub, storeV_ptr, slcV_slice, ↓mwD, mwU]
        refine iteW_dec (fun e4 => ?_) (fun e4 => ?_)
        · simp -dsimp -implicitDefEqProofs only [k10, k9, k0, k1, k2, k7, k8, hb1, hb2, and_self, q1, q2, e1, e2, e3, e4, m6, sF6, Nat.reduceEqDiff, ↓reduceIte, Nat.reduceAdd, Nat.reduceMul, Value.cells, Value.oneCell', eq_self, ne_eq, Int.reduceToNat, Int.reduceEq, Int.reduceLT, Int.reduceLE, Int.reduceNeg, if_true, if_false, reduceCtorEq, Nat.reduceSub, storeV_ptr, slcV_slice, ↓mwD, mwU]
          exact hE2.trans hex
        have hmx : (if mostF 0 (ds.take n) < ds[n] then ds[n] else mostF 0 (ds.take n)) = mostF 0 (ds.take (n + 1)) := by rw [List.take_add_one, List.getElem?_eq_getElem hnl]; exact (mostF_snoc _ _ _).symm
        simp -dsimp -implicitDefEqProofs only [k10, k9, k0, k1, k2, k7, k8, hb1, hb2, and_self, q1, q2, e1, e2, e3, e4, hmx, bs_one, bv_eff, m6, sF6, Nat.reduceEqDiff, ↓reduceIte, Nat.reduceAdd, Nat.reduceMul, Value.cells, Value.oneCell', eq_self, ne_eq, Int.reduceToNat, Int.reduceEq, Int.reduceLT, Int.reduceLE, Int.reduceNeg, if_true, if_false, reduceCtorEq, Nat.reduceSub, storeV_ptr, slcV_slice, ↓mwD, mwU]
        generalize hW1 : World.alloc wl (Obj.cells #[Value.int IntKind.i64 gs[n]] 3) = W1
        generalize hW2 : World.alloc W1 _ = W2
        have x1 : Ext wl W1 := by rw [← hW1]; exact Ext.alloc _ _
        have x2 : Ext W1 W2 := by rw [← hW2]; exact Ext.alloc _ _
        have s1 : W1.heap.size = wl.heap.size + 1 := by rw [← hW1]; simp
        have s2 : W2.heap.size = wl.heap.size + 2 := by rw [← hW2]; simp [s1]
        have c0 : W2.cell? ⟨W1.heap.size, 0, none⟩ = some (.int .i64 1) := by rw [← hW2, World.cell?_alloc_new]; rfl
        have c1 : W2.cell? ⟨W1.heap.size, 1, none⟩ = some (.slice (some ⟨wl.heap.size, 0, none⟩) 1 1) := by rw [← hW2, World.cell?_alloc_new]; rfl
        have c2 : W2.cell? ⟨W1.heap.size, 2, none⟩ = some (.slice none 0 0) := by rw [← hW2, World.cell?_alloc_new]; rfl
        have gA : SlI W1 (.slice (some ⟨wl.heap.size, 0, none⟩) 1 1) [gs[n]] := by rw [← hW1]; exact sl_new wl [gs[n]] 1 rfl (by omega)
        refine mwpB_draw (fun w' => w'.cell? ⟨bd, od + n, none⟩ = some (.int .i64 ds[n]) ∧ w'.cell? ⟨W1.heap.size, 0, none⟩ = some (.int .i64 1) ∧ w'.cell? ⟨W1.heap.size, 1, none⟩ = some (.slice (some ⟨wl.heap.size, 0, none⟩) 1 1) ∧ w'.cell? ⟨W1.heap.size, 2, none⟩ = some (.slice none 0 0)) ⟨(x1.trans x2).cell q1, c0, c1, c2⟩ ?_
        simp -dsimp -implicitDefEqProofs only [k7, k0, k10, hb1, and_self, m6, sF6, Nat.reduceEqDiff, ↓reduceIte, Nat.reduceAdd, Nat.reduceMul, Value.cells, Value.oneCell', eq_self, ne_eq, Int.reduceToNat, Int.reduceEq, Int.reduceLT, Int.reduceLE, Int.reduceNeg, if_true, if_false, reduceCtorEq, Nat.reduceSub, storeV_ptr, slcV_slice, ↓mwD, mwU]
        refine softB_load (v := .int .i64 ds[n]) (fun w' hw => ?_) ?_
        · simp -dsimp -implicitDefEqProofs only [hw.1, m6, sF6, Nat.reduceEqDiff, ↓reduceIte, Nat.reduceAdd, Nat.reduceMul, Value.cells, Value.oneCell', eq_self, ne_eq, Int.reduceToNat, Int.reduceEq, Int.reduceLT, Int.reduceLE, Int.reduceNeg, if_true, if_false, reduceCtorEq, Nat.reduceSub, storeV_ptr, slcV_slice, ↓mwD, mwU]
        simp -dsimp -implicitDefEqProofs only [m6, sF6, Nat.reduceEqDiff, ↓reduceIte, Nat.reduceAdd, Nat.reduceMul, Value.cells, Value.oneCell', eq_self, ne_eq, Int.reduceToNat, Int.reduceEq, Int.reduceLT, Int.reduceLE, Int.reduceNeg, if_true, if_false, reduceCtorEq, Nat.reduceSub, storeV_ptr, slcV_slice, ↓mwD, mwU]
        refine softB_load (v := .agg #[.int .i64 1, .slice (some ⟨wl.heap.size, 0, none⟩) 1 1, .slice none 0 0]) (fun w' hw => ?_) ?_
        · simp -dsimp -implicitDefEqProofs only [hw.2.1, hw.2.2.1, hw.2.2.2, m6, sF6, Nat.reduceEqDiff, ↓reduceIte, Nat.reduceAdd, Nat.reduceMul, Value.cells, Value.oneCell', eq_self, ne_eq, Int.reduceToNat, Int.reduceEq, Int.reduceLT, Int.reduceLE, Int.reduceNeg, if_true, if_false, reduceCtorEq, Nat.reduceSub, storeV_ptr, slcV_slice, ↓mwD, mwU]
        have xd : Ext wl W2.drew := (x1.trans x2).drew'
        have d0 := xd.cell q1
        have d1 : W2.drew.cell? ⟨W1.heap.size, 0, none⟩ = _ := c0
        have d2 : W2.drew.cell? ⟨W1.heap.size, 1, none⟩ = _ := c1
        have d3 : W2.drew.cell? ⟨W1.heap.size, 2, none⟩ = _ := c2
        simp -dsimp -implicitDefEqProofs only [bs_one, m6, sF6, Nat.reduceEqDiff, ↓reduceIte, Nat.reduceAdd, Nat.reduceMul, Value.cells, Value.oneCell', eq_self, ne_eq, Int.reduceToNat, Int.reduceEq, Int.reduceLT, Int.reduceLE, Int.reduceNeg, if_true, if_false, reduceCtorEq, Nat.reduceSub, storeV_ptr, slcV_slice, ↓mwD, mwU]
        generalize hW3 : World.alloc W2.drew _ = W3
        have x3 : Ext W2.drew W3 := by rw [← hW3]; exact Ext.alloc _ _
        refine ⟨⟨x3.cell d0, x3.cell d1, x3.cell d2, x3.cell d3⟩, ?_⟩
        simp -dsimp -implicitDefEqProofs only [bv_eff, bs_eff2, m6, sF6, Nat.reduceEqDiff, ↓reduceIte, Nat.reduceAdd, Nat.reduceMul, Value.cells, Value.oneCell', eq_self, ne_eq, Int.reduceToNat, Int.reduceEq, Int.reduceLT, Int.reduceLE, Int.reduceNeg, if_true, if_false, reduceCtorEq, Nat.reduceSub, storeV_ptr, slcV_slice, ↓mwD, mwU]
        refine ⟨⟨cell_old (x3.cell d0) _, cell_old (x3.cell d1) _, cell_old (x3.cell d2) _, cell_old (x3.cell d3) _⟩, ?_⟩
        simp -dsimp -implicitDefEqProofs only [bs_lane, m6, sF6, Nat.reduceEqDiff, ↓reduceIte, Nat.reduceAdd, Nat.reduceMul, Value.cells, Value.oneCell', eq_self, ne_eq, Int.reduceToNat, Int.reduceEq, Int.reduceLT, Int.reduceLE, Int.reduceNeg, if_true, if_false, reduceCtorEq, Nat.reduceSub, storeV_ptr, slcV_slice, ↓mwD, mwU]
        generalize hW4 : World.alloc W3 _ = W4
        have x4 : Ext W3 W4 := by rw [← hW4]; exact Ext.alloc _ _
        have y4 : Ext W2.drew W4 := x3.trans x4
        refine ⟨⟨cell_old (y4.cell d0) _, cell_old (y4.cell d1) _, cell_old (y4.cell d2) _, cell_old (y4.cell d3) _⟩, ?_⟩
        have z4 : Ext wl W4 := xd.trans y4
        have s3 : W3.heap.size = wl.heap.size + 3 := by rw [← hW3]; simp [s2]
        have s4 : W4.heap.size = wl.heap.size + 4 := by rw [← hW4]; simp [s3]
        have sx := hex.le
        have sE := hE2.le
        have sbd : bd < w.heap.size := World.block_lt_of_cell? w _ (hcd n ds[n] (by simp [hnl]))
        have hl7 := World.ownsRow.lt ho7
        have hl8 := World.ownsRow.lt ho8
        obtain ⟨g7, c7, W6, ha7, hown7, hg7, hlies7, hglt7⟩ := append_slc (ty := 44) telem_44 tok_45 tzero_45 rfl tsz_45 tby_45 (Own.ext ho7 z4) (y := .slice (some ⟨W3.heap.size, 0, none⟩) 2 2) rfl (by omega) (by omega)
        refine appB.mk ha7 ?_
        have hk6 : ∀ k, k < W4.heap.size → (∀ q, v7.ownBlock = some q → q ≠ k) → W6.heap[k]? = W4.heap[k]? := fun k hk hq =>
          (hg7.block k (by simp; omega) (fun e => hq k e.symm rfl)).trans (Below.heap_alloc _ _ _ hk)
        have s6 : W4.heap.size + 1 ≤ W6.heap.size := by simpa using hg7.size
        have kb := hk6 bd (by omega) (fun q hq => by have := (hl7 q hq).1; omega)
        have k1' := hk6 W1.heap.size (by omega) (fun q hq => by have := (hl7 q hq).2; omega)
        have f0 : W6.cell? ⟨W1.heap.size, 0, none⟩ = _ := (World.cell?_of_block (w := W4) k1').trans (y4.cell d1)
        have f1 : W6.cell? ⟨W1.heap.size, 1, none⟩ = _ := (World.cell?_of_block (w := W4) k1').trans (y4.cell d2)
        have f2 : W6.cell? ⟨W1.heap.size, 2, none⟩ = _ := (World.cell?_of_block (w := W4) k1').trans (y4.cell d3)
        refine ⟨⟨(World.cell?_of_block (w := W4) kb).trans (y4.cell d0), f0, f1, f2⟩, ?_⟩
        simp -dsimp -implicitDefEqProofs only [k8, f0, f1, f2, bs_eff1, bs_lane, m6, sF6, Nat.reduceEqDiff, ↓reduceIte, Nat.reduceAdd, Nat.reduceMul, Value.cells, Value.oneCell', eq_self, ne_eq, Int.reduceToNat, Int.reduceEq, Int.reduceLT, Int.reduceLE, Int.reduceNeg, if_true, if_false, reduceCtorEq, Nat.reduceSub, storeV_ptr, slcV_slice, ↓mwD, mwU]
        generalize hW7 : World.alloc W6 _ = W7
        have s7 : W7.heap.size = W6.heap.size + 1 := by rw [← hW7]; simp
        have y7 : Ext W6 W7 := by rw [← hW7]; exact Ext.alloc _ _
        have ho8' : W7.ownsRow w2.heap.size 45 1 v8 n vs8 := Own.same' ho8 fun k hk => by
          have h1 := hl8 k hk
          rw [y7.block k (by omega), hk6 k (by omega) (fun q hq e => h78 q hq (e ▸ hk)), z4.block k (by omega)]
        obtain ⟨g8, c8, W9, ha8, hown8, hg8, hlies8, hglt8⟩ := append_slc (ty := 44) telem_44 tok_45 tzero_45 rfl tsz_45 tby_45 ho8' (y := .slice (some ⟨W6.heap.size, 0, none⟩) 1 1) rfl (by omega) (by omega)
        refine appB.mk ha8 ?_
        have hk9 : ∀ k, k < W7.heap.size → (∀ q, v8.ownBlock = some q → q ≠ k) → W9.heap[k]? = W7.heap[k]? := fun k hk hq =>
          (hg8.block k (by simp; omega) (fun e => hq k e.symm rfl)).trans (Below.heap_alloc _ _ _ hk)
        have s9 : W7.heap.size + 1 ≤ W9.heap.size := by simpa using hg8.size
        have hn9 : ∀ k, wl.heap.size ≤ k → k < W4.heap.size → W9.heap[k]? = W4.heap[k]? := fun k h1 h2 => by
          rw [hk9 k (by omega) (fun q hq => by have := (hl8 q hq).2; omega), y7.block k (by omega), hk6 k h2 (fun q hq => by have := (hl7 q hq).2; omega)]
        have hD9 : Same D wl W9 := fun q hq => by
          obtain ⟨e1, e2, e3, e4⟩ := hD q hq
          rw [hk9 q (by omega) (fun r hr e => e4 (e ▸ hr)), y7.block q (by omega), hk6 q (by omega) (fun r hr e => e3 (e ▸ hr)), z4.block q e2]
        have gA9 : SlI W9 (.slice (some ⟨wl.heap.size, 0, none⟩) 1 1) [gs[n]] := Sl.same (G := fun q => q = wl.heap.size) (Sl.ext (cs := ints [gs[n]]) gA ((x2.drew').trans y4)) (fun q hq => by subst hq; exact hn9 _ (Nat.le_refl _) (by omega)) (fun _ q hq => by simpa [Value.ownBlock] using hq.symm)
        have hB : SlI W3 (.slice (some ⟨W2.drew.heap.size, 0, none⟩) 1 1) [ds[n]] := by rw [← hW3]; exact sl_new W2.drew [ds[n]] 1 rfl (by omega)
        have s2' : W2.drew.heap.size = wl.heap.size + 2 := s2
        have gB9 : SlI W9 (.slice (some ⟨W2.drew.heap.size, 0, none⟩) 1 1) [ds[n]] := Sl.same (G := fun q => q = W2.drew.heap.size) (Sl.ext (cs := ints [ds[n]]) hB x4) (fun q hq => by subst hq; exact hn9 _ (by omega) (by omega)) (fun _ q hq => by simpa [Value.ownBlock] using hq.symm)
        have hc4 : ∀ j u, (#[Value.int .i64 2, .slice (some ⟨W2.drew.heap.size, 0, none⟩) 1 1, .slice none 0 0, .int .i64 1, .slice (some ⟨wl.heap.size, 0, none⟩) 1 1, .slice none 0 0] : Array Value)[j]? = some u → W9.cell? ⟨W3.heap.size, j, none⟩ = some u := fun j u hj => by
          rw [World.cell?_of_block (w := W4) (hn9 W3.heap.size (by omega) (by omega)), ← hW4, World.cell?_alloc_new]; exact hj
        have hc7 : ∀ j u, (#[Value.int .i64 1, .slice (some ⟨wl.heap.size, 0, none⟩) 1 1, .slice none 0 0] : Array Value)[j]? = some u → W9.cell? ⟨W6.heap.size, j, none⟩ = some u := fun j u hj => by
          rw [World.cell?_of_block (w := W7) (hk9 W6.heap.size (by omega) (fun q hq => by have := (hl8 q hq).2; omega)), ← hW7, World.cell?_alloc_new]; exact hj
        have hx9 : Ext w2 W9 := ((((hex.trans z4).alloc' _).grown hg7 (fun k hk => (hl7 k hk).1)).trans y7 |>.alloc' _).grown hg8 (fun k hk => (hl8 k hk).1)
        have l7 : vs7.length = n := by have := ho7.1; simpa using this
        have l8 : vs8.length = n := by have := ho8.1; simpa using this
        have tkd : ds.take (n + 1) = ds.take n ++ [ds[n]] := by rw [List.take_add_one, List.getElem?_eq_getElem hnl]; rfl
        have tkg : gs.take (n + 1) = gs.take n ++ [gs[n]] := by rw [List.take_add_one, List.getElem?_eq_getElem hng]; rfl
        have ltl : (ds.take n).length = (gs.take n).length := by simp; omega
        simp -dsimp -implicitDefEqProofs only [k10, hw1, m6, sF6, Nat.reduceEqDiff, ↓reduceIte, Nat.reduceAdd, Nat.reduceMul, Value.cells, Value.oneCell', eq_self, ne_eq, Int.reduceToNat, Int.reduceEq, Int.reduceLT, Int.reduceLE, Int.reduceNeg, if_true, if_false, reduceCtorEq, Nat.reduceSub, storeV_ptr, slcV_slice, ↓mwD, mwU]
        refine ⟨⟨n + 1, by omega, rfl, rfl, k0, k1, k2, hx9, ?_, ?_, _, _, vs7 ++ [.slice (some ⟨W3.heap.size, 0, none⟩) 2 2], vs8 ++ [.slice (some ⟨W6.heap.size, 0, none⟩) 1 1], fun q => D q ∨ q = wl.heap.size ∨ q = wl.heap.size + 2 ∨ q = W3.heap.size ∨ q = W6.heap.size, rfl, rfl,
          Own.same' hown7 (fun k hk => ?_), hown8, ?_, ?_, fun q hq => ?_, fun q hq hq' => ?_⟩, by simp only [intOf]; omega⟩
        · rw [tkd]; intro d hd
          rcases List.mem_append.1 hd with h | h
          · exact hbd d h
          · simp at h; subst h; omega
        · rw [tkg]; intro d hd
          rcases List.mem_append.1 hd with h | h
          · exact hbg d h
          · simp at h; subst h; omega
        · simp only [Value.ownBlock, Option.some.injEq] at hk
          subst hk
          rw [hk9 g7 (by omega) (fun q hq e => by
            subst e
            rcases hlies7 with h | h
            · exact h78 _ h hq
            · have := (hl8 _ hq).2; omega), y7.block g7 hglt7]
        · rw [tkd, tkg, lanesL_snoc _ _ _ _ ltl]
          refine snoc_rel (by rw [lanesL_length _ _ ltl]; simp; omega) (fun i u xs h h' => (hs7 i u xs h h').same hD9 (fun q hq => .inl hq)) ?_
          exact slED_two (.inr (.inr (.inr (.inl rfl)))) (hc4 0 _ rfl) (hc4 1 _ rfl) (hc4 2 _ rfl) (hc4 3 _ rfl) (hc4 4 _ rfl) (hc4 5 _ rfl) gB9 gA9 (.inr (.inr (.inl s2'))) (.inr (.inl rfl))
        · rw [tkg, plainL_snoc]
          refine snoc_rel (by simp [plainL]; omega) (fun i u xs h h' => (hs8 i u xs h h').same hD9 (fun q hq => .inl hq)) ?_
          exact slED_one (.inr (.inr (.inr (.inr rfl)))) (hc7 0 _ rfl) (hc7 1 _ rfl) (hc7 2 _ rfl) gA9 (.inr (.inl rfl))
        · simp only [Value.ownBlock, ne_eq, Option.some.injEq]
          have hr7 : g7 = W4.heap.size + 1 ∨ (v7.ownBlock = some g7 ∧ g7 < wl.heap.size) := by
            rcases hlies7 with h | h
            · exact .inr ⟨h, (hl7 _ h).2⟩
            · exact .inl h
          have hr8 : g8 = W7.heap.size + 1 ∨ (v8.ownBlock = some g8 ∧ g8 < wl.heap.size) := by
            rcases hlies8 with h | h
            · exact .inr ⟨h, (hl8 _ h).2⟩
            · exact .inl h
          rcases hq with h | h
          · obtain ⟨e1, e2, e3, e4⟩ := hD q h
            refine ⟨e1, by omega, ?_, ?_⟩
            · rintro rfl
              rcases hr7 with h | h
              · omega
              · exact e3 h.1
            · rintro rfl
              rcases hr8 with h | h
              · omega
              · exact e4 h.1
          · have hq4 : q = wl.heap.size ∨ q = wl.heap.size + 2 ∨ q = wl.heap.size + 3 ∨ q = W6.heap.size := by rw [← s3]; exact h
            clear h
            refine ⟨by omega, by omega, ?_, ?_⟩
            · rcases hr7 with h | h <;> omega
            · rcases hr8 with h | h <;> omega
        · simp only [Value.ownBlock, Option.some.injEq] at hq hq'
          subst hq
          subst hq'
          rcases hlies7 with h | h
          · rcases hlies8 with h' | h'
            · exact h78 _ h h'
            · have := (hl7 _ h).2; omega
          · rcases hlies8 with h' | h'
            · have := (hl8 _ h').2; omega
            · omega
      · have hnl : n = ds.length := by omega
        subst hnl
        have tkd : ds.take ds.length = ds := List.take_length
        have tkg : gs.take ds.length = gs := by rw [← hlg]; exact List.take_length
        rw [tkd] at hbd hs7 k9
        rw [tkg] at hbg hs7 hs8
        have hE : Ext w wl := hE2.trans hex
        have l7 : vs7.length = ds.length := by have := ho7.1; simpa using this
        have l8 : vs8.length = ds.length := by have := ho8.1; simpa using this
        have m7 : SlEE wl v7 (lanesL ds gs) := ⟨vs7, Own.sl ho7, by rw [l7, lanesL_length _ _ hlg.symm], fun i u xs h h' => (hs7 i u xs h h').sle⟩
        have m8 : SlEE wl v8 (plainL gs) := ⟨vs8, Own.sl ho8, by rw [l8]; simp [plainL, hlg], fun i u xs h h' => (hs8 i u xs h h').sle⟩
        have hlv := lanes_valid ds gs hbd hbg
        have hpv := plain_valid gs hbg
        simp -dsimp -implicitDefEqProofs only [k10, k9, k0, k1, k2, k7, k8, m6, sF6, Nat.reduceEqDiff, ↓reduceIte, Nat.reduceAdd, Nat.reduceMul, Value.cells, Value.oneCell', eq_self, ne_eq, Int.reduceToNat, Int.reduceEq, Int.reduceLT, Int.reduceLE, Int.reduceNeg, if_true, if_false, reduceCtorEq, Nat.reduceSub, storeV_ptr, slcV_slice, ↓mwD, mwU]
        have hdl : ∀ d ∈ ds, 0 ≤ d := fun d hd => (hbd d hd).1
        have hm0 := (mostF_ge ds 0).1
        have hm1 := mostF_le ds 0 600 (by omega) fun d hd => (hbd d hd).2
        have len7 : (lanesL ds gs).length = ds.length := lanesL_length _ _ hlg.symm
        have len8 : (plainL gs).length = ds.length := by simp [plainL, hlg]
        have b1 : ((lanesL ds gs).any fun xs => xs.any fun x => !exValid x) = false := by
          rw [List.any_eq_false]; intro xs hxs
          rw [Bool.not_eq_true, List.any_eq_false]; intro x hx
          simp [(hlv xs hxs).2 x hx]
        have b2 : (!wtn (lanesL ds gs).length 1 8 || (lanesL ds gs).any fun xs => decide (8 < xs.length)) = false := by
          rw [len7, (wtn_iff (n := (ds.length : Int)) (a := 1) (b := 8)).2 (by omega)]
          simp only [Bool.not_true, Bool.false_or, List.any_eq_false]
          intro xs hxs
          have := (hlv xs hxs).1
          simp; omega
        have b3 : ((plainL gs).any fun xs => xs.any fun x => !exValid x) = false := by
          rw [List.any_eq_false]; intro xs hxs
          rw [Bool.not_eq_true, List.any_eq_false]; intro x hx
          simp [(hpv xs hxs).2 x hx]
        have b4 : (!wtn (plainL gs).length 1 8 || (plainL gs).any fun xs => decide (8 < xs.length)) = false := by
          rw [len8, (wtn_iff (n := (ds.length : Int)) (a := 1) (b := 8)).2 (by omega)]
          simp only [Bool.not_true, Bool.false_or, List.any_eq_false]
          intro xs hxs
          have := (hpv xs hxs).1
          simp; omega
        refine (NewHost_c (eq := true) m7).use ?_
        rintro r w3 ⟨hx3, h⟩
        rw [b1, b2] at h
        simp only [Bool.false_eq_true, if_false, if_true] at h
        obtain ⟨hv1, G1, rfl, hh1, hG1⟩ := h
        rw [latF_lanes ds gs 0 hlg.symm] at hh1
        simp -dsimp -implicitDefEqProofs only [k10, k9, k0, k1, k2, k7, k8, m6, sF6, Nat.reduceEqDiff, ↓reduceIte, Nat.reduceAdd, Nat.reduceMul, Value.cells, Value.oneCell', eq_self, ne_eq, Int.reduceToNat, Int.reduceEq, Int.reduceLT, Int.reduceLE, Int.reduceNeg, if_true, if_false, reduceCtorEq, Nat.reduceSub, storeV_ptr, slcV_slice, ↓mwD, mwU]
        refine (NewHost_c (eq := false) (m8.ext hx3)).use ?_
        rintro r w4 ⟨hx4, h⟩
        rw [b3, b4] at h
        simp only [Bool.false_eq_true, if_false] at h
        obtain ⟨hv2, G2, rfl, hh2, hG2⟩ := h
        have ok1 : ∀ x ∈ ((lanesL ds gs).map newL).map (eqL (mostF 0 ds)), x.ok ∧ (∀ u ∈ x.us, u.valid) ∧ x.us.length ≤ 8 := fun x hx => by
          obtain ⟨y, hy, rfl⟩ := List.mem_map.1 hx
          obtain ⟨xs, hxs, rfl⟩ := List.mem_map.1 hy
          have h := eqL_ok (mostF 0 ds) (hlv xs hxs).2
          refine ⟨h.1, h.2, ?_⟩
          have := (hlv xs hxs).1
          simp [eqL, newL]; omega
        have ok2 : ∀ x ∈ (plainL gs).map newL, x.ok := fun x hx => by
          obtain ⟨xs, hxs, rfl⟩ := List.mem_map.1 hx
          exact (newL_ok (hpv xs hxs).2).1
        obtain ⟨p1, rfl⟩ : ∃ p1, hv1 = .pointer (some ⟨p1, 0, none⟩) := by obtain ⟨b, _, _, _, h, _⟩ := hh1; exact ⟨b, h⟩
        obtain ⟨p2, rfl⟩ : ∃ p2, hv2 = .pointer (some ⟨p2, 0, none⟩) := by obtain ⟨b, _, _, _, h, _⟩ := hh2; exact ⟨b, h⟩
        simp -dsimp -implicitDefEqProofs only [k10, k9, k0, k1, k2, k7, k8, m6, sF6, Nat.reduceEqDiff, ↓reduceIte, Nat.reduceAdd, Nat.reduceMul, Value.cells, Value.oneCell', eq_self, ne_eq, Int.reduceToNat, Int.reduceEq, Int.reduceLT, Int.reduceLE, Int.reduceNeg, if_true, if_false, reduceCtorEq, Nat.reduceSub, storeV_ptr, slcV_slice, ↓mwD, mwU]
        refine (HLatency_c (hh1.ext hx4) (fun x hx => (ok1 x hx).2.1) (fun x hx => (ok1 x hx).2.2) (by simp; omega)).use ?_
        rintro r w5 ⟨rfl, hx5⟩
        have hlat : latF 0 (((lanesL ds gs).map newL).map (eqL (mostF 0 ds))) = mostF 0 ds := by
          have := latF_eq 0 (mostF 0 ds) ((lanesL ds gs).map newL) []
          rw [List.append_nil, List.append_nil, latF_lanes ds gs 0 hlg.symm] at this
          exact this
        rw [hlat]
        simp -dsimp -implicitDefEqProofs only [k10, k9, k0, k1, k2, k7, k8, m6, sF6, Nat.reduceEqDiff, ↓reduceIte, Nat.reduceAdd, Nat.reduceMul, Value.cells, Value.oneCell', eq_self, ne_eq, Int.reduceToNat, Int.reduceEq, Int.reduceLT, Int.reduceLE, Int.reduceNeg, if_true, if_false, reduceCtorEq, Nat.reduceSub, storeV_ptr, slcV_slice, ↓mwD, mwU]
        have hE4 : Ext w w4 := (hE.trans hx3).trans hx4
        have hE5 : Ext w w5 := hE4.trans hx5
        have t3 := hx3.le
        have t4 := hx4.le
        have t5 := hx5.le
        have tw := hE.le
        have hLb : L ≠ [] → ∀ q, (Value.slice pl L.length cl).ownBlock = some q → q < w.heap.size := fun hne q hq => Sl.block (cs := ints L) hL (by simpa [ints] using hne) q hq
        have l1 : (((lanesL ds gs).map newL).map (eqL (mostF 0 ds))).length ≤ 8 := by simp; omega
        refine (HRun_c ((hh1.ext hx4).ext hx5) (fun x hx => (ok1 x hx).1) l1 (hL.ext hE5) (fun hne q hq hg => ?_) (fun q hq => ?_)).use ?_
        · have := hLb hne q hq; have := (hG1 q hg).1; omega
        · have := (hG1 q hq).2; omega
        rintro r w6 h
        rw [if_pos hsm] at h
        obtain ⟨o1, rfl, go1, hh1', hc6, hb1'⟩ := h
        have t6 := hc6.size
        have hE6 : Ext w w6 := hc6.ext hE5 fun q hq => by have := (hG1 q hq).1; omega
        have hsp := samples_smps hsm
        have ok1' := runH_ok L _ (fun x hx => (ok1 x hx).1) hsp.2
        have rl1 := runH_length L (((lanesL ds gs).map newL).map (eqL (mostF 0 ds)))
        have hx6 : Ext w5 w6 ∨ True := .inr trivial
        simp -dsimp -implicitDefEqProofs only [k10, k9, k0, k1, k2, k7, k8, m6, sF6, Nat.reduceEqDiff, ↓reduceIte, Nat.reduceAdd, Nat.reduceMul, Value.cells, Value.oneCell', eq_self, ne_eq, Int.reduceToNat, Int.reduceEq, Int.reduceLT, Int.reduceLE, Int.reduceNeg, if_true, if_false, reduceCtorEq, Nat.reduceSub, storeV_ptr, slcV_slice, ↓mwD, mwU]
        refine (HFlush_c hh1' ok1'.1 (by rw [rl1.2]; exact l1) (fun q hq => ?_) hm0 (by omega)).use ?_
        · have := (hG1 q hq).2; omega
        rintro r w7 ⟨o2, rfl, go2, hh1'', hc7, hb2'⟩
        have t7 := hc7.size
        have hE7 : Ext w w7 := hc7.ext hE6 fun q hq => by have := (hG1 q hq).1; omega
        simp -dsimp -implicitDefEqProofs only [k10, k9, k0, k1, k2, k7, k8, m6, sF6, Nat.reduceEqDiff, ↓reduceIte, Nat.reduceAdd, Nat.reduceMul, Value.cells, Value.oneCell', eq_self, ne_eq, Int.reduceToNat, Int.reduceEq, Int.reduceLT, Int.reduceLE, Int.reduceNeg, if_true, if_false, reduceCtorEq, Nat.reduceSub, storeV_ptr, slcV_slice, ↓mwD, mwU]
        have hh2' : HostIn w7 (.pointer (some ⟨p2, 0, none⟩)) G2 ((plainL gs).map newL) false := HostIn.local_ false _ _ _ _ _ (hh2.ext hx5) fun q hq => by
          have h2 := hG2 q hq
          have hn : ¬ G1 q := fun h => by have := (hG1 q h).2; omega
          rw [hc7.block q (by omega) hn, hc6.block q (by omega) hn]
        refine (HRun_c hh2' ok2 (by simp; omega) (hL.ext hE7) (fun hne q hq hg => ?_) (fun q hq => ?_)).use ?_
        · have := hLb hne q hq; have := (hG2 q hg).1; omega
        · have := (hG2 q hq).2; omega
        rintro r w8 h
        rw [if_pos hsm] at h
        obtain ⟨o3, rfl, go3, _, hc8, hb3'⟩ := h
        have t8 := hc8.size
        have hE8 : Ext w w8 := hc8.ext hE7 fun q hq => by have := (hG2 q hq).1; omega
        have go1' : SlI w8 o1 (runH (((lanesL ds gs).map newL).map (eqL (mostF 0 ds))) L).2 := Sl.chp (cs := ints _) (Sl.chp (cs := ints _) go1 hc7 fun _ q hq hg => by have := hb1' q hq; have := (hG1 q hg).2; omega) hc8 fun _ q hq hg => by
          have := hb1' q hq; have := (hG2 q hg).2; omega
        have go2' : SlI w8 o2 (runH (runH (((lanesL ds gs).map newL).map (eqL (mostF 0 ds))) L).1 (List.replicate (mostF 0 ds).toNat 0)).2 := Sl.chp (cs := ints _) go2 hc8 fun _ q hq hg => by
          have := hb2' q hq; have := (hG2 q hg).2; omega
        have law := equal_law ds gs L hlg.symm hdl
        have n1 := rl1.1
        have n2 := (runH_length (List.replicate (mostF 0 ds).toNat 0) (runH (((lanesL ds gs).map newL).map (eqL (mostF 0 ds))) L).1).1
        have n3 := (runH_length L ((plainL gs).map newL)).1
        generalize (runH (runH (((lanesL ds gs).map newL).map (eqL (mostF 0 ds))) L).1 (List.replicate (mostF 0 ds).toNat 0)).2 = Y2 at *
        generalize (runH (((lanesL ds gs).map newL).map (eqL (mostF 0 ds))) L).2 = Y1 at *
        generalize (runH ((plainL gs).map newL) L).2 = Y3 at *
        rw [List.length_replicate] at n2
        simp -dsimp -implicitDefEqProofs only [k10, k9, k0, k1, k2, k7, k8, m6, sF6, Nat.reduceEqDiff, ↓reduceIte, Nat.reduceAdd, Nat.reduceMul, Value.cells, Value.oneCell', eq_self, ne_eq, Int.reduceToNat, Int.reduceEq, Int.reduceLT, Int.reduceLE, Int.reduceNeg, if_true, if_false, reduceCtorEq, Nat.reduceSub, storeV_ptr, slcV_slice, ↓mwD, mwU]
        refine mwpB_draw (fun _ => True) trivial ?_
        have hE9 : Ext w w8.drew := hE8.drew'
        have go1d : SlI w8.drew o1 Y1 := Sl.ext (cs := ints _) go1' (Ext.refl _).drew'
        have go2d : SlI w8.drew o2 Y2 := Sl.ext (cs := ints _) go2' (Ext.refl _).drew'
        have go3d : SlI w8.drew o3 Y3 := Sl.ext (cs := ints _) go3 (Ext.refl _).drew'
        simp -dsimp -implicitDefEqProofs only [k10, k9, k0, k1, k2, k7, k8, m6, sF6, Nat.reduceEqDiff, ↓reduceIte, Nat.reduceAdd, Nat.reduceMul, Value.cells, Value.oneCell', eq_self, ne_eq, Int.reduceToNat, Int.reduceEq, Int.reduceLT, Int.reduceLE, Int.reduceNeg, if_true, if_false, reduceCtorEq, Nat.reduceSub, storeV_ptr, slcV_slice, ↓mwD, mwU]
        have lt2 : Y2 ≠ [] → ∀ q, o2.ownBlock = some q → q < w8.drew.heap.size := fun hne q hq => Sl.block (cs := ints Y2) go2d (by simpa [ints] using hne) q hq
        have lt3 : Y3 ≠ [] → ∀ q, o3.ownBlock = some q → q < w8.drew.heap.size := fun hne q hq => Sl.block (cs := ints Y3) go3d (by simpa [ints] using hne) q hq
        have lt1 : Y1 ≠ [] → ∀ q, o1.ownBlock = some q → q < w8.drew.heap.size := fun hne q hq => Sl.block (cs := ints Y1) go1d (by simpa [ints] using hne) q hq
        have nl : ∀ W : World, W.ownsRow w8.drew.heap.size 3 1 (.slice none 0 0) 0 (ints []) := fun W => World.ownsRow_nil _ _ _ _
        have nd : ∀ (v : Value) (q : Nat), v.ownBlock = some q → (Value.slice none 0 0).ownBlock ≠ some q := fun v q _ h => by simp [Value.ownBlock] at h
        have nd' : ∀ (v : Value) (q : Nat), (Value.slice none 0 0).ownBlock = some q → v.ownBlock ≠ some q := fun v q h => by simp [Value.ownBlock] at h
        have mk : ∀ W : World, Ext w8.drew W → (W.alloc (.cells (ints (List.replicate (mostF 0 ds).toNat 0)).toArray 3)).ownsRow w8.drew.heap.size 3 1 (.slice (some ⟨W.heap.size, 0, none⟩) (mostF 0 ds).toNat (mostF 0 ds).toNat) (mostF 0 ds).toNat (ints (List.replicate (mostF 0 ds).toNat 0)) := fun W he =>
          own_new W _ _ _ _ 1 (by simp [ints_length]) he.le (by unfold maxLen; omega)
        have md : ∀ (W : World) (v : Value) (n : Nat) (xs : List Value), W.ownsRow w8.drew.heap.size 3 1 v n xs → ∀ q, (Value.slice (some ⟨W.heap.size, 0, none⟩) (mostF 0 ds).toNat (mostF 0 ds).toNat).ownBlock = some q → v.ownBlock ≠ some q := fun W v n xs h q hq hv => by
          simp only [Value.ownBlock, Option.some.injEq] at hq
          have := (World.ownsRow.lt h q hv).2
          omega
        have LR : (List.replicate (mostF 0 ds).toNat (0 : Int)).length = (mostF 0 ds).toNat := List.length_replicate
        refine planB_alt ?_ (planB_alt ?_ planB_no)
        · simp -dsimp -implicitDefEqProofs only [k10, k9, k0, k1, k2, k7, k8, makeS_ints hm0 (show mostF 0 ds ≤ 1048576 by omega), m6, sF6, Nat.reduceEqDiff, ↓reduceIte, Nat.reduceAdd, Nat.reduceMul, Value.cells, Value.oneCell', eq_self, ne_eq, Int.reduceToNat, Int.reduceEq, Int.reduceLT, Int.reduceLE, Int.reduceNeg, if_true, if_false, reduceCtorEq, Nat.reduceSub, storeV_ptr, slcV_slice, ↓mwD, mwU]
          obtain ⟨v1, W1, A1, E1, R1, _, _, T1⟩ := app_ints (Ext.refl w8.drew) (nl _) go1d (nl _) (nd' _) (by omega) (by omega)
          rw [Nat.zero_add, List.nil_append] at R1
          refine appB.mk A1 ⟨trivial, planB_alt ?_ (planB_alt ?_ planB_no)⟩
          · simp -dsimp -implicitDefEqProofs only [k10, k9, k0, k1, k2, k7, k8, makeS_ints hm0 (show mostF 0 ds ≤ 1048576 by omega), m6, sF6, Nat.reduceEqDiff, ↓reduceIte, Nat.reduceAdd, Nat.reduceMul, Value.cells, Value.oneCell', eq_self, ne_eq, Int.reduceToNat, Int.reduceEq, Int.reduceLT, Int.reduceLE, Int.reduceNeg, if_true, if_false, reduceCtorEq, Nat.reduceSub, storeV_ptr, slcV_slice, ↓mwD, mwU]
            obtain ⟨v3, W3, A3, E3, R3, _, _, T3⟩ := app_ints E1 R1 (T1 _ _ go2d lt2) (nl _) (nd _) (by omega) (by omega)
            refine appB.mk A3 ⟨trivial, ?_⟩
            simp -dsimp -implicitDefEqProofs only [k10, k9, k0, k1, k2, k7, k8, makeS_ints hm0 (show mostF 0 ds ≤ 1048576 by omega), m6, sF6, Nat.reduceEqDiff, ↓reduceIte, Nat.reduceAdd, Nat.reduceMul, Value.cells, Value.oneCell', eq_self, ne_eq, Int.reduceToNat, Int.reduceEq, Int.reduceLT, Int.reduceLE, Int.reduceNeg, if_true, if_false, reduceCtorEq, Nat.reduceSub, storeV_ptr, slcV_slice, ↓mwD, mwU]
            obtain ⟨v7, W7, A7, E7, R7, R3, _, _⟩ := app_ints (E3.alloc' _) (mk W3 E3) (SlI.ext (T3 _ _ (T1 _ _ go3d lt3) lt3) (Ext.alloc _ _)) (Own.ext R3 (Ext.alloc _ _)) (md W3 _ _ _ R3) (by omega) (by omega)
            refine appB.mk A7 ?_
            simp -dsimp -implicitDefEqProofs only [k10, k9, k0, k1, k2, k7, k8, makeS_ints hm0 (show mostF 0 ds ≤ 1048576 by omega), m6, sF6, Nat.reduceEqDiff, ↓reduceIte, Nat.reduceAdd, Nat.reduceMul, Value.cells, Value.oneCell', eq_self, ne_eq, Int.reduceToNat, Int.reduceEq, Int.reduceLT, Int.reduceLE, Int.reduceNeg, if_true, if_false, reduceCtorEq, Nat.reduceSub, storeV_ptr, slcV_slice, ↓mwD, mwU]
            refine (ints_c (ow_sl R3) (ow_sl R7)).use ?_
            rintro r w9 ⟨rfl, hx9⟩
            rw [decide_eq_true law]
            simp -dsimp -implicitDefEqProofs only [k10, k9, k0, k1, k2, k7, k8, makeS_ints hm0 (show mostF 0 ds ≤ 1048576 by omega), m6, sF6, Nat.reduceEqDiff, ↓reduceIte, Nat.reduceAdd, Nat.reduceMul, Value.cells, Value.oneCell', eq_self, ne_eq, Int.reduceToNat, Int.reduceEq, Int.reduceLT, Int.reduceLE, Int.reduceNeg, if_true, if_false, reduceCtorEq, Nat.reduceSub, storeV_ptr, slcV_slice, ↓mwD, mwU]
            exact hE9.trans (E7.trans hx9)
          · simp -dsimp -implicitDefEqProofs only [k10, k9, k0, k1, k2, k7, k8, makeS_ints hm0 (show mostF 0 ds ≤ 1048576 by omega), m6, sF6, Nat.reduceEqDiff, ↓reduceIte, Nat.reduceAdd, Nat.reduceMul, Value.cells, Value.oneCell', eq_self, ne_eq, Int.reduceToNat, Int.reduceEq, Int.reduceLT, Int.reduceLE, Int.reduceNeg, if_true, if_false, reduceCtorEq, Nat.reduceSub, storeV_ptr, slcV_slice, ↓mwD, mwU]
            obtain ⟨v3, W3, A3, E3, R3, R5, D3, T3⟩ := app_ints (E1.alloc' _) (Own.ext R1 (Ext.alloc _ _)) (SlI.ext (T1 _ _ go2d lt2) (Ext.alloc _ _)) (mk W1 E1) (fun q h1 h2 => md W1 _ _ _ R1 q h2 h1) (by omega) (by omega)
            refine appB.mk A3 ?_
            simp -dsimp -implicitDefEqProofs only [k10, k9, k0, k1, k2, k7, k8, makeS_ints hm0 (show mostF 0 ds ≤ 1048576 by omega), m6, sF6, Nat.reduceEqDiff, ↓reduceIte, Nat.reduceAdd, Nat.reduceMul, Value.cells, Value.oneCell', eq_self, ne_eq, Int.reduceToNat, Int.reduceEq, Int.reduceLT, Int.reduceLE, Int.reduceNeg, if_true, if_false, reduceCtorEq, Nat.reduceSub, storeV_ptr, slcV_slice, ↓mwD, mwU]
            obtain ⟨v7, W7, A7, E7, R7, R3, _, _⟩ := app_ints E3 R5 (T3 _ _ (SlI.ext (T1 _ _ go3d lt3) (Ext.alloc _ _)) lt3) R3 (fun q h1 h2 => D3 q h2 h1) (by omega) (by omega)
            refine appB.mk A7 ?_
            simp -dsimp -implicitDefEqProofs only [k10, k9, k0, k1, k2, k7, k8, makeS_ints hm0 (show mostF 0 ds ≤ 1048576 by omega), m6, sF6, Nat.reduceEqDiff, ↓reduceIte, Nat.reduceAdd, Nat.reduceMul, Value.cells, Value.oneCell', eq_self, ne_eq, Int.reduceToNat, Int.reduceEq, Int.reduceLT, Int.reduceLE, Int.reduceNeg, if_true, if_false, reduceCtorEq, Nat.reduceSub, storeV_ptr, slcV_slice, ↓mwD, mwU]
            refine (ints_c (ow_sl R3) (ow_sl R7)).use ?_
            rintro r w9 ⟨rfl, hx9⟩
            rw [decide_eq_true law]
            simp -dsimp -implicitDefEqProofs only [k10, k9, k0, k1, k2, k7, k8, makeS_ints hm0 (show mostF 0 ds ≤ 1048576 by omega), m6, sF6, Nat.reduceEqDiff, ↓reduceIte, Nat.reduceAdd, Nat.reduceMul, Value.cells, Value.oneCell', eq_self, ne_eq, Int.reduceToNat, Int.reduceEq, Int.reduceLT, Int.reduceLE, Int.reduceNeg, if_true, if_false, reduceCtorEq, Nat.reduceSub, storeV_ptr, slcV_slice, ↓mwD, mwU]
            exact hE9.trans (E7.trans hx9)
        · simp -dsimp -implicitDefEqProofs only [k10, k9, k0, k1, k2, k7, k8, makeS_ints hm0 (show mostF 0 ds ≤ 1048576 by omega), m6, sF6, Nat.reduceEqDiff, ↓reduceIte, Nat.reduceAdd, Nat.reduceMul, Value.cells, Value.oneCell', eq_self, ne_eq, Int.reduceToNat, Int.reduceEq, Int.reduceLT, Int.reduceLE, Int.reduceNeg, if_true, if_false, reduceCtorEq, Nat.reduceSub, storeV_ptr, slcV_slice, ↓mwD, mwU]
          obtain ⟨v1, W1, A1, E1, R1, R5, D1, T1⟩ := app_ints ((Ext.refl w8.drew).alloc' _) (nl _) (SlI.ext go1d (Ext.alloc _ _)) (mk w8.drew (Ext.refl _)) (nd' _) (by omega) (by omega)
          rw [Nat.zero_add, List.nil_append] at R1
          refine appB.mk A1 ?_
          simp -dsimp -implicitDefEqProofs only [k10, k9, k0, k1, k2, k7, k8, makeS_ints hm0 (show mostF 0 ds ≤ 1048576 by omega), m6, sF6, Nat.reduceEqDiff, ↓reduceIte, Nat.reduceAdd, Nat.reduceMul, Value.cells, Value.oneCell', eq_self, ne_eq, Int.reduceToNat, Int.reduceEq, Int.reduceLT, Int.reduceLE, Int.reduceNeg, if_true, if_false, reduceCtorEq, Nat.reduceSub, storeV_ptr, slcV_slice, ↓mwD, mwU]
          obtain ⟨v3, W3, A3, E3, R3, R5, D3, T3⟩ := app_ints E1 R1 (T1 _ _ (SlI.ext go2d (Ext.alloc _ _)) lt2) R5 D1 (by omega) (by omega)
          refine appB.mk A3 ?_
          simp -dsimp -implicitDefEqProofs only [k10, k9, k0, k1, k2, k7, k8, makeS_ints hm0 (show mostF 0 ds ≤ 1048576 by omega), m6, sF6, Nat.reduceEqDiff, ↓reduceIte, Nat.reduceAdd, Nat.reduceMul, Value.cells, Value.oneCell', eq_self, ne_eq, Int.reduceToNat, Int.reduceEq, Int.reduceLT, Int.reduceLE, Int.reduceNeg, if_true, if_false, reduceCtorEq, Nat.reduceSub, storeV_ptr, slcV_slice, ↓mwD, mwU]
          obtain ⟨v7, W7, A7, E7, R7, R3, _, _⟩ := app_ints E3 R5 (T3 _ _ (T1 _ _ (SlI.ext go3d (Ext.alloc _ _)) lt3) lt3) R3 (fun q h1 h2 => D3 q h2 h1) (by omega) (by omega)
          refine appB.mk A7 ?_
          simp -dsimp -implicitDefEqProofs only [k10, k9, k0, k1, k2, k7, k8, makeS_ints hm0 (show mostF 0 ds ≤ 1048576 by omega), m6, sF6, Nat.reduceEqDiff, ↓reduceIte, Nat.reduceAdd, Nat.reduceMul, Value.cells, Value.oneCell', eq_self, ne_eq, Int.reduceToNat, Int.reduceEq, Int.reduceLT, Int.reduceLE, Int.reduceNeg, if_true, if_false, reduceCtorEq, Nat.reduceSub, storeV_ptr, slcV_slice, ↓mwD, mwU]
          refine (ints_c (ow_sl R3) (ow_sl R7)).use ?_
          rintro r w9 ⟨rfl, hx9⟩
          rw [decide_eq_true law]
          simp -dsimp -implicitDefEqProofs only [k10, k9, k0, k1, k2, k7, k8, makeS_ints hm0 (show mostF 0 ds ≤ 1048576 by omega), m6, sF6, Nat.reduceEqDiff, ↓reduceIte, Nat.reduceAdd, Nat.reduceMul, Value.cells, Value.oneCell', eq_self, ne_eq, Int.reduceToNat, Int.reduceEq, Int.reduceLT, Int.reduceLE, Int.reduceNeg, if_true, if_false, reduceCtorEq, Nat.reduceSub, storeV_ptr, slcV_slice, ↓mwD, mwU]
          exact hE9.trans (E7.trans hx9)
  · simp -dsimp -implicitDefEqProofs only [h1, h2, h3, m6, sF6, Nat.reduceEqDiff, ↓reduceIte, Nat.reduceAdd, Nat.reduceMul, Value.cells, Value.oneCell', eq_self, ne_eq, Int.reduceToNat, Int.reduceEq, Int.reduceLT, Int.reduceLE, Int.reduceNeg, if_true, if_false, reduceCtorEq, Nat.reduceSub, storeV_ptr, slcV_slice, ↓mwD, mwU]
    exact he1

end Go.Proofs.Ytefcfnmmpnjjjaa

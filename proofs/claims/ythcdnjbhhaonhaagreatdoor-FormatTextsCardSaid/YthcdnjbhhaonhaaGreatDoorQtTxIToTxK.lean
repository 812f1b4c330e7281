/- Layer 02: a text read as a format, by the reference. -/
import Derived.Test.YthcdnjbhhaonhaaGreatDoorQtTxCToTxH

namespace Go.Proofs.YthcdnjbhhaonhaaGreatDoor
open Go.RowKit
set_option linter.unusedSimpArgs false

/-! ### what reading tells -/
def ParR (s : By) (g : Fm) (c : Int) : Prop := if 65536 < s.length then g = ⟨0, []⟩ ∧ c = 3 else (g.valid = true ∧ txF g = s ∧ c = 0) ∨ ((∀ f : Fm, f.valid = true → txF f ≠ s) ∧ g = ⟨0, []⟩ ∧ c = 2)
theorem ParR.eq {s : By} {g g' : Fm} {c c' : Int} (h : ParR s g c) (h' : ParR s g' c') : g = g' ∧ c = c' := by
  unfold ParR at h h'
  split at h
  · rename_i hl
    rw [if_pos hl] at h'
    exact ⟨h.1.trans h'.1.symm, h.2.trans h'.2.symm⟩
  · rename_i hl
    rw [if_neg hl] at h'
    rcases h with ⟨h1, h2, h3⟩ | ⟨h1, h2, h3⟩
    · rcases h' with ⟨k1, k2, k3⟩ | ⟨k1, k2, k3⟩
      · have e1 := (text_back h1).1
        have e2 := (text_back k1).1
        rw [h2] at e1
        rw [k2] at e2
        exact ⟨e1.symm.trans e2, h3.trans k3.symm⟩
      · exact absurd h2 (k1 g h1)
    · rcases h' with ⟨k1, k2, k3⟩ | ⟨k1, k2, k3⟩
      · exact absurd k2 (h1 g' k1)
      · exact ⟨h2.trans k2.symm, h3.trans k3.symm⟩
def ParW (s : By) (w : World) (r : Value) (w' : World) : Prop := Ext w w' ∧ ∃ (g : Fm) (q : Option Addr) (n : Nat) (c : Int), r = .tuple #[.agg #[.int .i64 g.m, .slice q g.F.length n], .int .i64 c] ∧ SlF w' (.slice q g.F.length n) g.F ∧ ParR s g c
theorem txB_some {f : Fm} {s : By} (h : txB f = s) (hs : s ≠ []) : f.valid = true ∧ txF f = s := by
  unfold txB at h
  split at h
  · rename_i hv; exact ⟨hv, h⟩
  · exact absurd h.symm hs
/-- The reference's reading, settled. -/
theorem parR_good {s : By} {g : Fm} (hl : ¬ 65536 < s.length) (h : txB g = s) (hs : s ≠ []) : ParR s g 0 := by
  obtain ⟨h1, h2⟩ := txB_some h hs
  unfold ParR
  rw [if_neg hl]
  exact .inl ⟨h1, h2, rfl⟩
theorem parR_bad {s : By} {o : Option Fm} (hl : ¬ 65536 < s.length) (ho : ∀ f : Fm, f.valid = true → txF f = s → o = some f) (h : ∀ g, o = some g → txB g = s → s = []) : ParR s ⟨0, []⟩ 2 := by
  unfold ParR
  rw [if_neg hl]
  refine .inr ⟨fun f hv hf => ?_, rfl, rfl⟩
  have e := h f (ho f hv hf) (by unfold txB; rw [hv, if_pos rfl]; exact hf)
  exact (text_back hv).2.2 (hf.trans e)
theorem rF_of {W : List By} {i : Nat} (h : i + 2 < W.length) (hof : W[i + 1] = ofB) : rF (W.drop i) = (pair W[i]).bind fun p => (rF (W.drop (i + 3))).map (fldR p.1 p.2 (some W[i + 2]) :: ·) := by
  rw [List.drop_eq_getElem_cons (show i < W.length by omega), List.drop_eq_getElem_cons (show i + 1 < W.length by omega), List.drop_eq_getElem_cons h, rF]
  simp only [hof, if_true]
theorem rF_no {W : List By} {i : Nat} (h : i < W.length) (hof : ∀ h2 : i + 2 < W.length, W[i + 1] ≠ ofB) : rF (W.drop i) = (pair W[i]).bind fun p => (rF (W.drop (i + 1))).map (fldR p.1 p.2 none :: ·) := by
  rw [List.drop_eq_getElem_cons h]
  by_cases h1 : i + 1 < W.length
  · rw [List.drop_eq_getElem_cons h1]
    by_cases h2 : i + 2 < W.length
    · rw [List.drop_eq_getElem_cons h2, rF]
      simp only [hof h2, if_false]
    · rw [List.drop_of_length_le (show W.length ≤ i + 1 + 1 by omega)]
      simp only [rF]
  · rw [List.drop_of_length_le (show W.length ≤ i + 1 by omega)]
    simp only [rF]
    cases pair W[i] <;> rfl
theorem pair_none {x : By} (h : (splitC 61 x).length ≠ 2) : pair x = none := by
  unfold pair
  match hs : splitC 61 x with
  | [] => rfl
  | [a] => rfl
  | [a, b] => rw [hs] at h; simp at h
  | a :: b :: c :: l => rfl
theorem pair_some {x : By} {E : List By} (hE : splitC 61 x = E) (h : E.length = 2) : pair x = some (E[0], E[1]) := by
  unfold pair
  rw [hE]
  match E, h with
  | [a, b], _ => rfl
theorem rF_bad {W : List By} {i : Nat} (h : i < W.length) (hp : pair W[i] = none) : rF (W.drop i) = none := by
  by_cases h2 : ∃ h2 : i + 2 < W.length, W[i + 1] = ofB
  · obtain ⟨h2, h3⟩ := h2
    rw [rF_of h2 h3, hp]; rfl
  · rw [rF_no h (fun h3 h4 => h2 ⟨h3, h4⟩), hp]; rfl
theorem map_step (o : Option (List Fl)) (acc : List (Fl × Value)) (f : Fl) (s : Value) : (o.map (f :: ·)).map (acc.map (·.1) ++ ·) = o.map ((acc ++ [(f, s)]).map (·.1) ++ ·) := by
  cases o <;> simp
theorem bv_fmM (m : Int) : buildV Go.Proofs.Tryz.prog 24 [(0, .int .i64 m)] = some (.agg #[.int .i64 m, .slice none 0 0]) := by kernel_rfl
theorem bv_ch2 (k d : Int) : buildV Go.Proofs.Tryz.prog 35 [(0, .int .i64 k), (1, .int .i64 d)] = some (.agg #[.int .i64 k, .int .i64 d, .slice none 0 0]) := by kernel_rfl
theorem fput' {w : World} {b : Nat} {x0 x1 : Value} (h : Bk w b [x0, x1] 24) (m s : Value) : (∃ x, w.cell? ⟨b, 0, none⟩ = some x) ∧ w.frozen? ⟨b, 0, none⟩ = false ∧ (∃ x, (w.setCell ⟨b, 0, none⟩ m).cell? ⟨b, 1, none⟩ = some x) ∧ (w.setCell ⟨b, 0, none⟩ m).frozen? ⟨b, 1, none⟩ = false ∧
    Bk ((w.setCell ⟨b, 0, none⟩ m).setCell ⟨b, 1, none⟩ s) b [m, s] 24 ∧ ∀ {w0 : World}, Ext w0 w → w0.heap.size ≤ b → Ext w0 ((w.setCell ⟨b, 0, none⟩ m).setCell ⟨b, 1, none⟩ s) := by
  have h1 := h.set 0 m
  exact ⟨⟨x0, h.get rfl⟩, h.frozen 0, ⟨x1, h1.get rfl⟩, h1.frozen 1, h1.set 1 s, fun h hb => (h.setCell hb _).setCell hb _⟩
theorem set_row {w : World} {base b o : Nat} {v x : Value} {n : Nat} {cs : List Value} {ty : TypeId} {cs' : List Value} (h : w.ownsRow base 3 1 v n cs) (hk : Bk w b cs' ty) (ht : ty ≠ 3) : (w.setCell ⟨b, o, none⟩ x).ownsRow base 3 1 v n cs :=
  Own.ch h fun k cur hc => Below.heap_setCell _ _ _ _ (fun e => by
    have e : k = b := e
    unfold Bk at hk
    rw [e, hk] at hc
    simp only [Option.some.injEq, Obj.cells.injEq] at hc
    exact ht hc.2.1)

set_option maxHeartbeats 4000000 in
theorem refParse_c (s : By) (w : World) : Rets Go.Proofs.Tryz.prog 13 #[.string (bw s)] w (ParW s w) := by
  obtain ⟨W0, hW, A, x0⟩ := new_bk' w [.int .i64 0, .slice none 0 0] 24
  refine en13 ?_
  have zeros : ∀ {u : World}, Ext W0 u → Ext w ((u.setCell ⟨w.heap.size, 0, none⟩ (.int .i64 0)).setCell ⟨w.heap.size, 1, none⟩ (.slice none 0 0)) := fun h =>
    (((x0.trans h).setCell (Nat.le_refl _) _).setCell (Nat.le_refl _) _)
  by_cases hl : (65536 : Int) < s.length
  · have k0 := A.set 0 (.int .i64 0)
    have k1 := k0.set 1 (.slice none 0 0)
    have b0 := A.get (o := 0) rfl
    have b1 := k0.get (o := 1) rfl
    have f0 := A.frozen 0
    have f1 := k0.frozen 1
    have r0 := k1.get (o := 0) rfl
    have r1 := k1.get (o := 1) rfl
    simp -dsimp -implicitDefEqProofs only [← hW, bw_size, hl, bv_fm0, b0, b1, f0, f1, r0, r1, m13, sF13, Nat.reduceEqDiff, ↓reduceIte, Nat.reduceAdd, Nat.reduceMul, Value.cells, Value.oneCell', eq_self, ne_eq, Int.reduceToNat, Int.reduceEq, Int.reduceLT, Int.reduceLE, Int.reduceNeg, if_true, if_false, reduceCtorEq, Nat.reduceSub, storeV_ptr, slcV_slice, ↓mwD, mwU]
    exact ⟨zeros (Ext.refl _), ⟨0, []⟩, none, 0, 3, rfl, SlF.nil _, by unfold ParR; rw [if_pos (by omega)]; exact ⟨rfl, rfl⟩⟩
  have hl' : ¬ 65536 < s.length := by omega
  simp -dsimp -implicitDefEqProofs only [← hW, bw_size, hl, m13, sF13, Nat.reduceEqDiff, ↓reduceIte, Nat.reduceAdd, Nat.reduceMul, Value.cells, Value.oneCell', eq_self, ne_eq, Int.reduceToNat, Int.reduceEq, Int.reduceLT, Int.reduceLE, Int.reduceNeg, if_true, if_false, reduceCtorEq, Nat.reduceSub, storeV_ptr, slcV_slice, ↓mwD, mwU]
  clear hW
  refine (refCut_c s 32 32 rfl (by omega) W0).use ?_
  rintro r wc ⟨hc, hown⟩
  have hsl : SlS wc r (splitC 32 s) := Own.sl hown
  obtain ⟨pw, cw, rfl, hcw1, hcw2⟩ := hsl.shape
  have hbase : w.heap.size + 1 ≤ wc.heap.size := by have := hc.size; have := x0.size; have := A.lt; omega
  obtain ⟨l1, l2⟩ := splitC_len 32 s
  have hsub := splitC_sub 32 s
  have hpar : parR s = (rF (splitC 32 s).tail).map fun F => ⟨findL mediaT.tail ((splitC 32 s).headD []) 1, F⟩ := rfl
  have hback : ∀ f : Fm, f.valid = true → txF f = s → parR s = some f := fun f hv hf => by rw [← hf]; exact (text_back hv).2.1
  generalize splitC 32 s = W at *
  obtain ⟨bw0, ow0, rfl, g0⟩ := hsl.get (k := 0) (by omega)
  rw [Nat.add_zero] at g0
  have hh : W.headD [] = W[0] := by cases W with
    | nil => simp at l1
    | cons a l => rfl
  have hb0 : (0 : Int) < W.length := by omega
  simp -dsimp -implicitDefEqProofs only [m13, sF13, Nat.reduceEqDiff, ↓reduceIte, Nat.reduceAdd, Nat.reduceMul, Value.cells, Value.oneCell', eq_self, ne_eq, Int.reduceToNat, Int.reduceEq, Int.reduceLT, Int.reduceLE, Int.reduceNeg, if_true, if_false, reduceCtorEq, Nat.reduceSub, storeV_ptr, slcV_slice, ↓mwD, mwU]
  refine mwpB_mid (fun e' ds u => e' 4 = .slice (some ⟨bw0, ow0, none⟩) W.length cw ∧ e' 0 = .string (bw s) ∧ e' 2 = .pointer (some ⟨w.heap.size, 0, none⟩) ∧ ds = [] ∧ Ext wc u ∧ ∃ b5, wc.heap.size ≤ b5 ∧ e' 5 = .pointer (some ⟨b5, 0, none⟩) ∧ Bk u b5 [.int .i64 (findL mediaT.tail W[0] 1), .slice none 0 0] 24) ?_ ?_
  · refine mwpB_drawE ?_
    have B := Bk.new wc.drew [.int .i64 0, .slice none 0 0] 24
    have EA : Ext wc.drew (wc.drew.alloc (.cells #[.int .i64 0, .slice none 0 0] 24)) := Ext.alloc _ _
    simp -dsimp -implicitDefEqProofs only [hb0, g0, planEB_two, EA, m13, sF13, Nat.reduceEqDiff, ↓reduceIte, Nat.reduceAdd, Nat.reduceMul, Value.cells, Value.oneCell', eq_self, ne_eq, Int.reduceToNat, Int.reduceEq, Int.reduceLT, Int.reduceLE, Int.reduceNeg, if_true, if_false, reduceCtorEq, Nat.reduceSub, storeV_ptr, slcV_slice, ↓mwD, mwU]
    refine ⟨?_, ?_⟩
    · refine (refMedia_c wc.drew).use ?_
      rintro r u1 ⟨h1, b1, rfl, ht⟩
      have hts : SlS u1 (.slice (some ⟨b1, 0, none⟩) mediaT.length mediaT.length) mediaT := TabQ.sl ⟨h1, b1, rfl, ht⟩ (by decide)
      have EB : Ext wc.drew (u1.alloc (.cells #[.int .i64 0, .slice none 0 0] 24)) := h1.trans (Ext.alloc _ _)
      simp -dsimp -implicitDefEqProofs only [h1, planEB_two, EB, m13, sF13, Nat.reduceEqDiff, ↓reduceIte, Nat.reduceAdd, Nat.reduceMul, Value.cells, Value.oneCell', eq_self, ne_eq, Int.reduceToNat, Int.reduceEq, Int.reduceLT, Int.reduceLE, Int.reduceNeg, if_true, if_false, reduceCtorEq, Nat.reduceSub, storeV_ptr, slcV_slice, ↓mwD, mwU]
      refine ⟨?_, ?_⟩
      · refine (find_c mediaT _ W[0] u1 hts (by decide)).use ?_
        rintro r u2 ⟨rfl, h2⟩
        have h12 := h1.trans h2
        have EC : Ext wc.drew (u2.alloc (.cells #[.int .i64 0, .slice none 0 0] 24)) := h12.trans (Ext.alloc _ _)
        simp -dsimp -implicitDefEqProofs only [h12, bv_fmM, EC, m13, sF13, Nat.reduceEqDiff, ↓reduceIte, Nat.reduceAdd, Nat.reduceMul, Value.cells, Value.oneCell', eq_self, ne_eq, Int.reduceToNat, Int.reduceEq, Int.reduceLT, Int.reduceLE, Int.reduceNeg, if_true, if_false, reduceCtorEq, Nat.reduceSub, storeV_ptr, slcV_slice, ↓mwD, mwU]
        exact ⟨(Ext.drew wc).trans (h12.trans (Ext.alloc _ _)), _, h12.size, rfl, Bk.new _ _ _⟩
      · refine (find_c mediaT _ W[0] _ (hts.ext (Ext.alloc _ _)) (by decide)).use ?_
        rintro r u2 ⟨rfl, h2⟩
        have h12 := EB.trans h2
        have P := fput' ((Bk.new u1 [.int .i64 0, .slice none 0 0] 24).ext h2) (.int .i64 (findL mediaT.tail W[0] 1)) (.slice none 0 0)
        obtain ⟨⟨z0', c0⟩, z0, ⟨z1', c1⟩, z1, hk, hx⟩ := P
        simp -dsimp -implicitDefEqProofs only [h12, bv_fmM, c0, c1, z0, z1, m13, sF13, Nat.reduceEqDiff, ↓reduceIte, Nat.reduceAdd, Nat.reduceMul, Value.cells, Value.oneCell', eq_self, ne_eq, Int.reduceToNat, Int.reduceEq, Int.reduceLT, Int.reduceLE, Int.reduceNeg, if_true, if_false, reduceCtorEq, Nat.reduceSub, storeV_ptr, slcV_slice, ↓mwD, mwU]
        exact ⟨hx ((Ext.drew wc).trans h12) h1.size, _, h1.size, rfl, hk⟩
    · refine (refMedia_c _).use ?_
      rintro r u1 ⟨h1, b1, rfl, ht⟩
      have hts : SlS u1 (.slice (some ⟨b1, 0, none⟩) mediaT.length mediaT.length) mediaT := TabQ.sl ⟨h1, b1, rfl, ht⟩ (by decide)
      have h01 := EA.trans h1
      simp -dsimp -implicitDefEqProofs only [h01, planEB_two, m13, sF13, Nat.reduceEqDiff, ↓reduceIte, Nat.reduceAdd, Nat.reduceMul, Value.cells, Value.oneCell', eq_self, ne_eq, Int.reduceToNat, Int.reduceEq, Int.reduceLT, Int.reduceLE, Int.reduceNeg, if_true, if_false, reduceCtorEq, Nat.reduceSub, storeV_ptr, slcV_slice, ↓mwD, mwU]
      refine (find_c mediaT _ W[0] u1 hts (by decide)).use ?_
      rintro r u2 ⟨rfl, h2⟩
      have h12 := h01.trans h2
      have P := fput' (B.ext (h1.trans h2)) (.int .i64 (findL mediaT.tail W[0] 1)) (.slice none 0 0)
      obtain ⟨⟨z0', c0⟩, z0, ⟨z1', c1⟩, z1, hk, hx⟩ := P
      simp -dsimp -implicitDefEqProofs only [h12, bv_fmM, c0, c1, z0, z1, m13, sF13, Nat.reduceEqDiff, ↓reduceIte, Nat.reduceAdd, Nat.reduceMul, Value.cells, Value.oneCell', eq_self, ne_eq, Int.reduceToNat, Int.reduceEq, Int.reduceLT, Int.reduceLE, Int.reduceNeg, if_true, if_false, reduceCtorEq, Nat.reduceSub, storeV_ptr, slcV_slice, ↓mwD, mwU]
      exact ⟨hx ((Ext.drew wc).trans h12) (Nat.le_refl _), _, Nat.le_refl _, rfl, hk⟩
  rintro e0 ds u0 ⟨k4, k0, k2, rfl, hu0, b5, hb5, k5, K5⟩
  rw [hh] at hpar
  generalize findL mediaT.tail W[0] 1 = m at *
  simp -dsimp -implicitDefEqProofs only [k4, k0, k2, k5, m13, sF13, Nat.reduceEqDiff, ↓reduceIte, Nat.reduceAdd, Nat.reduceMul, Value.cells, Value.oneCell', eq_self, ne_eq, Int.reduceToNat, Int.reduceEq, Int.reduceLT, Int.reduceLE, Int.reduceNeg, if_true, if_false, reduceCtorEq, Nat.reduceSub, storeV_ptr, slcV_slice, ↓mwD, mwU]
  refine mwpB_loop (fun e ds u => ∃ (i : Nat) (acc : List (Fl × Value)) (v : Value), i ≤ W.length ∧ 1 ≤ i ∧ e 6 = .int .i64 i ∧ e 4 = .slice (some ⟨bw0, ow0, none⟩) W.length cw ∧ e 0 = .string (bw s) ∧ e 2 = .pointer (some ⟨w.heap.size, 0, none⟩) ∧ e 5 = .pointer (some ⟨b5, 0, none⟩) ∧ ds = [] ∧ Ext wc u ∧ Bk u b5 [.int .i64 m, v] 24 ∧
      OwnF u wc.heap.size v acc ∧ acc.length ≤ i ∧ rF W.tail = (rF (W.drop i)).map (acc.map (·.1) ++ ·))
    (fun e _ => W.length - (intOf (e 6)).toNat) ?_ ?_
  · simp -dsimp -implicitDefEqProofs only [k4, k0, k2, k5, m13, sF13, Nat.reduceEqDiff, ↓reduceIte, Nat.reduceAdd, Nat.reduceMul, Value.cells, Value.oneCell', eq_self, ne_eq, Int.reduceToNat, Int.reduceEq, Int.reduceLT, Int.reduceLE, Int.reduceNeg, if_true, if_false, reduceCtorEq, Nat.reduceSub, storeV_ptr, slcV_slice, ↓mwD, mwU]
    exact ⟨1, [], _, by omega, by omega, rfl, hu0, K5, ⟨World.ownsRow_nil _ _ _ _, fun p hp => by cases hp⟩, by simp, by rw [List.drop_one]; simp⟩
  · rintro e ds u ⟨i, acc, v, hi, hi1, h6, h4, h0, h2, h5, rfl, hu, kB, hF, hal, hr⟩
    obtain ⟨qv, nv, cv, rfl⟩ := own_slice hF.1
    have xu := hc.trans hu
    by_cases hlt : (i : Int) < W.length
    · have hlt' : i < W.length := by omega
      obtain ⟨bw1, ow1, e1, g1⟩ := (hsl.ext hu).get hlt'
      cases e1
      have hb1 : (0 : Int) ≤ i ∧ (i : Int) < W.length := by omega
      have hwl : W[i].length ≤ 65536 := by have := hsub W[i] (List.getElem_mem _); omega
      simp -dsimp -implicitDefEqProofs only [h6, h4, h0, h2, h5, hlt, hb1, and_self, g1, m13, sF13, Nat.reduceEqDiff, ↓reduceIte, Nat.reduceAdd, Nat.reduceMul, Value.cells, Value.oneCell', eq_self, ne_eq, Int.reduceToNat, Int.reduceEq, Int.reduceLT, Int.reduceLE, Int.reduceNeg, if_true, if_false, reduceCtorEq, Nat.reduceSub, storeV_ptr, slcV_slice, ↓mwD, mwU]
      refine (refCut_c W[i] 61 61 rfl (by omega) u).use ?_
      rintro r u1 ⟨hu1, hown1⟩
      have hsl1 : SlS u1 r (splitC 61 W[i]) := Own.sl hown1
      obtain ⟨p1, c1, rfl, _, _⟩ := hsl1.shape
      have hsub1 := splitC_sub 61 W[i]
      have hpn : (splitC 61 W[i]).length ≠ 2 → pair W[i] = none := pair_none
      obtain ⟨E, hEq⟩ : ∃ E, splitC 61 W[i] = E := ⟨_, rfl⟩
      rw [hEq] at hown1 hsl1 hsub1 hpn ⊢
      by_cases hE : E.length = 2
      · have hpair := pair_some hEq hE
        have dE : decide ((E.length : Int) = 2) = true := by simp [hE]
        obtain ⟨be, oe, rfl, ge0⟩ := hsl1.get (k := 0) (by omega)
        obtain ⟨be', oe', e2, ge1⟩ := hsl1.get (k := 1) (by omega)
        cases e2
        rw [Nat.add_zero] at ge0
        have hbE : (1 : Int) < E.length := by omega
        have hbE0 : (0 : Int) < E.length := by omega
        simp -dsimp -implicitDefEqProofs only [h6, h4, h0, h2, h5, dE, hbE, ge1, m13, sF13, Nat.reduceEqDiff, ↓reduceIte, Nat.reduceAdd, Nat.reduceMul, Value.cells, Value.oneCell', eq_self, ne_eq, Int.reduceToNat, Int.reduceEq, Int.reduceLT, Int.reduceLE, Int.reduceNeg, if_true, if_false, reduceCtorEq, Nat.reduceSub, storeV_ptr, slcV_slice, ↓mwD, mwU]
        refine (Digits_c E[1] (by have := hsub1 E[1] (List.getElem_mem _); omega) u1).use ?_
        rintro r u2 ⟨rfl, h12⟩
        have C3 := Bk.new u2 [.int .i64 1, .int .i64 (digR E[1]), .slice none 0 0] 35
        have x3 : Ext u2 (u2.alloc (.cells #[.int .i64 1, .int .i64 (digR E[1]), .slice none 0 0] 35)) := Ext.alloc _ _
        have C31 := C3.get (o := 1) rfl
        simp -dsimp -implicitDefEqProofs only [h6, h4, h0, h2, h5, bv_ch2, setCell_new, C31, m13, sF13, Nat.reduceEqDiff, ↓reduceIte, Nat.reduceAdd, Nat.reduceMul, Value.cells, Value.oneCell', eq_self, ne_eq, Int.reduceToNat, Int.reduceEq, Int.reduceLT, Int.reduceLE, Int.reduceNeg, if_true, if_false, reduceCtorEq, Nat.reduceSub, storeV_ptr, slcV_slice, ↓mwD, mwU]
        replace C3 : Bk (u2.alloc (.cells #[.int .i64 1, .int .i64 (digR E[1]), .slice none 0 0] 35)) u2.heap.size [.int .i64 1, .int .i64 (digR E[1]), .slice none 0 0] 35 := C3
        clear C31
        generalize u2.alloc (.cells #[.int .i64 1, .int .i64 (digR E[1]), .slice none 0 0] 35) = u3 at *
        obtain ⟨u4, hu4, D4, x4⟩ := new_bk' u3 [.int .i64 (digR E[1])] 3
        have R4 : u4.ownsRow wc.heap.size 3 1 (.slice (some ⟨u3.heap.size, 0, none⟩) 1 1) 1 (ints [digR E[1]]) := by
          rw [hu4]; exact own_new u3 (ints [digR E[1]]) 3 wc.heap.size 1 1 rfl (hu.trans (hu1.trans (h12.trans x3))).size (by unfold maxLen; omega)
        have C4 := C3.ext x4
        have C42 := C4.get (o := 2) rfl
        have f42 := C4.frozen 2
        have C5 := C4.set 2 (.slice (some ⟨u3.heap.size, 0, none⟩) 1 1)
        have R5 := set_row (o := 2) (x := .slice (some ⟨u3.heap.size, 0, none⟩) 1 1) R4 C4 (by decide)
        have hub : u.heap.size ≤ u2.heap.size := (hu1.trans h12).size
        have X5 : Ext u (u4.setCell ⟨u2.heap.size, 2, none⟩ (.slice (some ⟨u3.heap.size, 0, none⟩) 1 1)) := Ext.setCell (hu1.trans (h12.trans (x3.trans x4))) hub _
        have Y5 : Ext u1 (u4.setCell ⟨u2.heap.size, 2, none⟩ (.slice (some ⟨u3.heap.size, 0, none⟩) 1 1)) := Ext.setCell (h12.trans (x3.trans x4)) h12.size _
        simp -dsimp -implicitDefEqProofs only [bs_int, ← hu4, C42, f42, m13, sF13, Nat.reduceEqDiff, ↓reduceIte, Nat.reduceAdd, Nat.reduceMul, Value.cells, Value.oneCell', eq_self, ne_eq, Int.reduceToNat, Int.reduceEq, Int.reduceLT, Int.reduceLE, Int.reduceNeg, if_true, if_false, reduceCtorEq, Nat.reduceSub, storeV_ptr, slcV_slice, ↓mwD, mwU]
        clear hu4
        generalize u4.setCell ⟨u2.heap.size, 2, none⟩ (.slice (some ⟨u3.heap.size, 0, none⟩) 1 1) = u5 at *
        have hw2 : IntKind.i64.wrap ((i : Int) + 2) = ((i + 2 : Nat) : Int) := by rw [w64 (by omega) (by omega)]; omega
        have hw1 : IntKind.i64.wrap ((i : Int) + 1) = ((i + 1 : Nat) : Int) := by rw [w64 (by omega) (by omega)]; omega
        have hw3 : IntKind.i64.wrap (((i + 2 : Nat) : Int) + 1) = ((i + 2 + 1 : Nat) : Int) := by rw [w64 (by omega) (by omega)]; omega
        have H6 := h6
        by_cases hof : ∃ h3 : i + 2 < W.length, W[i + 1] = ofB
        obtain ⟨h3, hof⟩ := hof
        have t1 : ((i + 2 : Nat) : Int) < W.length := by omega
        have hb2 : (0 : Int) ≤ ((i + 1 : Nat) : Int) ∧ ((i + 1 : Nat) : Int) < W.length := by omega
        have hb3 : (0 : Int) ≤ ((i + 2 : Nat) : Int) ∧ ((i + 2 : Nat) : Int) < W.length := by omega
        obtain ⟨_, _, e3, g2⟩ := (hsl.ext (hu.trans X5)).get (k := i + 1) (by omega)
        cases e3
        obtain ⟨_, _, e3, g3⟩ := (hsl.ext (hu.trans X5)).get h3
        cases e3
        have d3 : decide (bw W[i + 1] = ⟨#[111, 102]⟩) = true := by simp only [decide_eq_true_eq]; rw [hof]; rfl
        simp -dsimp -implicitDefEqProofs only [h6, h4, h0, h2, h5, hw2, t1, hw1, hb2, hb3, and_self, g2, binV_eqS, d3, g3, Int.toNat_natCast, m13, sF13, Nat.reduceEqDiff, ↓reduceIte, Nat.reduceAdd, Nat.reduceMul, Value.cells, Value.oneCell', eq_self, ne_eq, Int.reduceToNat, Int.reduceEq, Int.reduceLT, Int.reduceLE, Int.reduceNeg, if_true, if_false, reduceCtorEq, Nat.reduceSub, storeV_ptr, slcV_slice, ↓mwD, mwU]
        refine (heard_c W[i + 2] (by have := hsub W[i + 2] (List.getElem_mem _); omega) u5).use ?_
        rintro r u6 ⟨h56, v6, rfl, R6⟩
        obtain ⟨qc, nc, cc, rfl⟩ := own_slice R6
        have C6 := C5.ext h56
        have z60 := C6.get (o := 0) rfl
        have f60 := C6.frozen 0
        have C6a := C6.set 0 (.int .i64 (heaR W[i + 2]).1)
        have z62 := C6a.get (o := 2) rfl
        have f62 := C6a.frozen 2
        have C7 := C6a.set 2 (.slice qc nc cc)
        have R7 := set_row (o := 2) (x := .slice qc nc cc) (set_row (o := 0) (x := .int .i64 (heaR W[i + 2]).1) (Own.mono R6 (hu.trans X5).size) C6 (by decide)) C6a (by decide)
        have X7 : Ext u ((u6.setCell ⟨u2.heap.size, 0, none⟩ (.int .i64 (heaR W[i + 2]).1)).setCell ⟨u2.heap.size, 2, none⟩ (.slice qc nc cc)) := Ext.setCell (Ext.setCell (X5.trans h56) hub _) hub _
        have Y7 : Ext u1 ((u6.setCell ⟨u2.heap.size, 0, none⟩ (.int .i64 (heaR W[i + 2]).1)).setCell ⟨u2.heap.size, 2, none⟩ (.slice qc nc cc)) := Ext.setCell (Ext.setCell (Y5.trans h56) h12.size _) h12.size _
        have hr2 : rF (W.drop i) = (rF (W.drop (i + 2 + 1))).map ((⟨findL keyT.tail E[0] 1, ⟨(heaR W[i + 2]).1, digR E[1], (heaR W[i + 2]).2⟩⟩ : Fl) :: ·) := by
          rw [rF_of h3 hof, hpair]; rfl
        simp -dsimp -implicitDefEqProofs only [h6, z60, f60, z62, f62, hw2, m13, sF13, Nat.reduceEqDiff, ↓reduceIte, Nat.reduceAdd, Nat.reduceMul, Value.cells, Value.oneCell', eq_self, ne_eq, Int.reduceToNat, Int.reduceEq, Int.reduceLT, Int.reduceLE, Int.reduceNeg, if_true, if_false, reduceCtorEq, Nat.reduceSub, storeV_ptr, slcV_slice, ↓mwD, mwU]
        generalize (u6.setCell ⟨u2.heap.size, 0, none⟩ (.int .i64 (heaR W[i + 2]).1)).setCell ⟨u2.heap.size, 2, none⟩ (.slice qc nc cc) = u7 at *
        obtain ⟨c, hceq⟩ : ∃ c : Ch, c = ⟨(heaR W[i + 2]).1, digR E[1], (heaR W[i + 2]).2⟩ := ⟨_, rfl⟩
        have C8 : Bk u7 u2.heap.size [.int .i64 c.k, .int .i64 c.d, .slice qc nc cc] 35 := by rw [hceq]; exact C7
        have R8 : u7.ownsRow wc.heap.size 3 1 (.slice qc nc cc) c.L.length (ints c.L) := by rw [hceq]; exact R7
        rw [← hceq] at hr2
        clear C7 R7
        rotate_left
        have hr2 : rF (W.drop i) = (rF (W.drop (i + 1))).map ((⟨findL keyT.tail E[0] 1, ⟨1, digR E[1], [digR E[1]]⟩⟩ : Fl) :: ·) := by
          rw [rF_no hlt' (fun h3 h4 => hof ⟨h3, h4⟩), hpair]; rfl
        by_cases h3 : i + 2 < W.length
        have t1 : ((i + 2 : Nat) : Int) < W.length := by omega
        have hb2 : (0 : Int) ≤ ((i + 1 : Nat) : Int) ∧ ((i + 1 : Nat) : Int) < W.length := by omega
        obtain ⟨_, _, e3, g2⟩ := (hsl.ext (hu.trans X5)).get (k := i + 1) (by omega)
        cases e3
        have d3 : decide (bw W[i + 1] = ⟨#[111, 102]⟩) = false := by
          simp only [decide_eq_false_iff_not]
          exact fun h => hof ⟨h3, by have := congrArg (fun b : ByteArray => b.data.toList) h; exact this⟩
        simp -dsimp -implicitDefEqProofs only [h6, h4, h0, h2, h5, hw2, t1, hw1, hb2, and_self, g2, binV_eqS, d3, Int.toNat_natCast, m13, sF13, Nat.reduceEqDiff, ↓reduceIte, Nat.reduceAdd, Nat.reduceMul, Value.cells, Value.oneCell', eq_self, ne_eq, Int.reduceToNat, Int.reduceEq, Int.reduceLT, Int.reduceLE, Int.reduceNeg, if_true, if_false, reduceCtorEq, Nat.reduceSub, storeV_ptr, slcV_slice, ↓mwD, mwU]
        obtain ⟨c, hceq⟩ : ∃ c : Ch, c = ⟨1, digR E[1], [digR E[1]]⟩ := ⟨_, rfl⟩
        have C8 : Bk u5 u2.heap.size [.int .i64 c.k, .int .i64 c.d, .slice (some ⟨u3.heap.size, 0, none⟩) 1 1] 35 := by rw [hceq]; exact C5
        have R8 : u5.ownsRow wc.heap.size 3 1 (.slice (some ⟨u3.heap.size, 0, none⟩) 1 1) c.L.length (ints c.L) := by rw [hceq]; exact R5
        rw [← hceq] at hr2
        have X7 := X5
        have Y7 := Y5
        clear C5 R5
        obtain ⟨qc, nc, cc, hqc⟩ : ∃ q n c, Value.slice q n c = .slice (some ⟨u3.heap.size, 0, none⟩) 1 1 := ⟨_, _, _, rfl⟩
        rw [← hqc] at C8 R8
        generalize u5 = u7 at *
        rotate_left
        have t1 : ¬ ((i + 2 : Nat) : Int) < W.length := by omega
        simp -dsimp -implicitDefEqProofs only [h6, h4, h0, h2, h5, hw2, t1, m13, sF13, Nat.reduceEqDiff, ↓reduceIte, Nat.reduceAdd, Nat.reduceMul, Value.cells, Value.oneCell', eq_self, ne_eq, Int.reduceToNat, Int.reduceEq, Int.reduceLT, Int.reduceLE, Int.reduceNeg, if_true, if_false, reduceCtorEq, Nat.reduceSub, storeV_ptr, slcV_slice, ↓mwD, mwU]
        obtain ⟨c, hceq⟩ : ∃ c : Ch, c = ⟨1, digR E[1], [digR E[1]]⟩ := ⟨_, rfl⟩
        have C8 : Bk u5 u2.heap.size [.int .i64 c.k, .int .i64 c.d, .slice (some ⟨u3.heap.size, 0, none⟩) 1 1] 35 := by rw [hceq]; exact C5
        have R8 : u5.ownsRow wc.heap.size 3 1 (.slice (some ⟨u3.heap.size, 0, none⟩) 1 1) c.L.length (ints c.L) := by rw [hceq]; exact R5
        rw [← hceq] at hr2
        have X7 := X5
        have Y7 := Y5
        clear C5 R5
        obtain ⟨qc, nc, cc, hqc⟩ : ∃ q n c, Value.slice q n c = .slice (some ⟨u3.heap.size, 0, none⟩) 1 1 := ⟨_, _, _, rfl⟩
        rw [← hqc] at C8 R8
        generalize u5 = u7 at *
        all_goals
          have T1 := (kB.ext X7).get (o := 1) rfl
          have G0 := Y7.cell ge0
          have c0 := C8.get (o := 0) rfl
          have c1' := C8.get (o := 1) rfl
          have c2 := C8.get (o := 2) rfl
          refine mwpB_draw (fun w' => w'.cell? ⟨b5, 1, none⟩ = some (.slice qv nv cv) ∧ w'.cell? ⟨be, oe, none⟩ = some (.string (bw E[0])) ∧ w'.cell? ⟨u2.heap.size, 0, none⟩ = some (.int .i64 c.k) ∧ w'.cell? ⟨u2.heap.size, 1, none⟩ = some (.int .i64 c.d) ∧ w'.cell? ⟨u2.heap.size, 2, none⟩ = some (.slice qc nc cc)) ⟨T1, G0, c0, c1', c2⟩ ?_
          simp -dsimp -implicitDefEqProofs only [h5, m13, sF13, Nat.reduceEqDiff, ↓reduceIte, Nat.reduceAdd, Nat.reduceMul, Value.cells, Value.oneCell', eq_self, ne_eq, Int.reduceToNat, Int.reduceEq, Int.reduceLT, Int.reduceLE, Int.reduceNeg, if_true, if_false, reduceCtorEq, Nat.reduceSub, storeV_ptr, slcV_slice, ↓mwD, mwU]
          refine softB_load (v := .slice qv nv cv) (fun w'' hw => ?_) ?_
          · simp -dsimp -implicitDefEqProofs only [hw.1, m13, sF13, Nat.reduceEqDiff, ↓reduceIte, Nat.reduceAdd, Nat.reduceMul, Value.cells, Value.oneCell', eq_self, ne_eq, Int.reduceToNat, Int.reduceEq, Int.reduceLT, Int.reduceLE, Int.reduceNeg, if_true, if_false, reduceCtorEq, Nat.reduceSub, storeV_ptr, slcV_slice, ↓mwD, mwU]
          simp -dsimp -implicitDefEqProofs only [h5, hbE0, m13, sF13, Nat.reduceEqDiff, ↓reduceIte, Nat.reduceAdd, Nat.reduceMul, Value.cells, Value.oneCell', eq_self, ne_eq, Int.reduceToNat, Int.reduceEq, Int.reduceLT, Int.reduceLE, Int.reduceNeg, if_true, if_false, reduceCtorEq, Nat.reduceSub, storeV_ptr, slcV_slice, ↓mwD, mwU]
          refine softB_load (v := .string (bw E[0])) (fun w'' hw => ?_) ?_
          · simp -dsimp -implicitDefEqProofs only [hw.2.1, m13, sF13, Nat.reduceEqDiff, ↓reduceIte, Nat.reduceAdd, Nat.reduceMul, Value.cells, Value.oneCell', eq_self, ne_eq, Int.reduceToNat, Int.reduceEq, Int.reduceLT, Int.reduceLE, Int.reduceNeg, if_true, if_false, reduceCtorEq, Nat.reduceSub, storeV_ptr, slcV_slice, ↓mwD, mwU]
          simp -dsimp -implicitDefEqProofs only [h5, m13, sF13, Nat.reduceEqDiff, ↓reduceIte, Nat.reduceAdd, Nat.reduceMul, Value.cells, Value.oneCell', eq_self, ne_eq, Int.reduceToNat, Int.reduceEq, Int.reduceLT, Int.reduceLE, Int.reduceNeg, if_true, if_false, reduceCtorEq, Nat.reduceSub, storeV_ptr, slcV_slice, ↓mwD, mwU]
          refine softB_load (v := .agg #[.int .i64 c.k, .int .i64 c.d, .slice qc nc cc]) (fun w'' hw => ?_) ?_
          · obtain ⟨_, _, a0, a1, a2⟩ := hw
            simp -dsimp -implicitDefEqProofs only [a0, a1, a2, m13, sF13, Nat.reduceEqDiff, ↓reduceIte, Nat.reduceAdd, Nat.reduceMul, Value.cells, Value.oneCell', eq_self, ne_eq, Int.reduceToNat, Int.reduceEq, Int.reduceLT, Int.reduceLE, Int.reduceNeg, if_true, if_false, reduceCtorEq, Nat.reduceSub, storeV_ptr, slcV_slice, ↓mwD, mwU]
          simp -dsimp -implicitDefEqProofs only [h5, m13, sF13, Nat.reduceEqDiff, ↓reduceIte, Nat.reduceAdd, Nat.reduceMul, Value.cells, Value.oneCell', eq_self, ne_eq, Int.reduceToNat, Int.reduceEq, Int.reduceLT, Int.reduceLE, Int.reduceNeg, if_true, if_false, reduceCtorEq, Nat.reduceSub, storeV_ptr, slcV_slice, ↓mwD, mwU]
          refine (words_c u7.drew).use ?_
          rintro r u8 ⟨h78, b8, rfl, ht8⟩
          have hts : SlS u8 (.slice (some ⟨b8, 0, none⟩) keyT.length keyT.length) keyT := TabQ.sl ⟨h78, b8, rfl, ht8⟩ (by decide)
          have X8 : Ext u7 u8 := (Ext.drew u7).trans h78
          refine ⟨⟨X8.cell T1, X8.cell G0, X8.cell c0, X8.cell c1', X8.cell c2⟩, ?_⟩
          simp -dsimp -implicitDefEqProofs only [h5, m13, sF13, Nat.reduceEqDiff, ↓reduceIte, Nat.reduceAdd, Nat.reduceMul, Value.cells, Value.oneCell', eq_self, ne_eq, Int.reduceToNat, Int.reduceEq, Int.reduceLT, Int.reduceLE, Int.reduceNeg, if_true, if_false, reduceCtorEq, Nat.reduceSub, storeV_ptr, slcV_slice, ↓mwD, mwU]
          refine (find_c keyT _ E[0] u8 hts (by decide)).use ?_
          rintro r u9 ⟨rfl, h89⟩
          have X9 := X8.trans h89
          refine ⟨⟨X9.cell T1, X9.cell G0, X9.cell c0, X9.cell c1', X9.cell c2⟩, ?_⟩
          have bsl := bs_fl ⟨findL keyT.tail E[0] 1, c⟩ (.slice qc nc cc)
          simp only at bsl
          simp -dsimp -implicitDefEqProofs only [h5, bv_fl, bsl, m13, sF13, Nat.reduceEqDiff, ↓reduceIte, Nat.reduceAdd, Nat.reduceMul, Value.cells, Value.oneCell', eq_self, ne_eq, Int.reduceToNat, Int.reduceEq, Int.reduceLT, Int.reduceLE, Int.reduceNeg, if_true, if_false, reduceCtorEq, Nat.reduceSub, storeV_ptr, slcV_slice, ↓mwD, mwU]
          refine ⟨⟨cell_old (X9.cell T1) _, cell_old (X9.cell G0) _, cell_old (X9.cell c0) _, cell_old (X9.cell c1') _, cell_old (X9.cell c2) _⟩, ?_⟩
          have X79 := X7.trans X9
          obtain ⟨v2, u10, happ, hown2, hg2⟩ := append_fl (hF.ext X79).1 ⟨findL keyT.tail E[0] 1, c⟩ (.slice qc nc cc) rfl (by omega) (hu.trans X79).size
          refine appB.mk happ ?_
          obtain ⟨p1, p2, p3, p4, p5, p6⟩ := OwnF.push (f := ⟨findL keyT.tail E[0] 1, c⟩) hu kB hF X79 hb5 (Own.ext R8 X9) hown2 hg2
          have keep : ∀ (a : Addr) (x : Value), u.heap.size ≤ a.block → u9.cell? a = some x → u10.cell? a = some x := fun a x ha hx => by
            have hlt9 := World.block_lt_of_cell? u9 a hx
            have hb : u10.heap[a.block]? = u9.heap[a.block]? := by
              rw [hg2.block a.block (by rw [World.size_alloc]; omega) (fun e => by have := (World.ownsRow.lt hF.1 a.block e.symm).2; omega), Below.heap_alloc _ _ _ hlt9]
            rw [World.cell?_of_block (w := u9) hb]; exact hx
          have rr1 := p2.get (o := 1) rfl
          have fz := p2.frozen 1
          obtain ⟨q2, n2, cp2, rfl⟩ := own_slice hown2
          have hbe : u.heap.size ≤ be := (World.ownsRow.lt hown1 be rfl).1
          refine ⟨⟨rr1, keep _ _ hbe (X9.cell G0), keep _ _ hub (X9.cell c0), keep _ _ hub (X9.cell c1'), keep _ _ hub (X9.cell c2)⟩, ?_⟩
          simp -dsimp -implicitDefEqProofs only [h6, h4, h0, h2, h5, rr1, fz, hw1, hw3, m13, sF13, Nat.reduceEqDiff, ↓reduceIte, Nat.reduceAdd, Nat.reduceMul, Value.cells, Value.oneCell', eq_self, ne_eq, Int.reduceToNat, Int.reduceEq, Int.reduceLT, Int.reduceLE, Int.reduceNeg, if_true, if_false, reduceCtorEq, Nat.reduceSub, storeV_ptr, slcV_slice, ↓mwD, mwU]
          refine ⟨⟨_, acc ++ [(⟨findL keyT.tail E[0] 1, c⟩, .slice qc nc cc)], _, ?_, ?_, rfl, p5, p3, p4, ?_, ?_⟩, ?_⟩
          · omega
          · omega
          · simp; omega
          · rw [hr, hr2]
            exact map_step _ _ _ _
          · simp only [intOf, H6]; omega
      · have dE : decide ((E.length : Int) = 2) = false := by simp only [decide_eq_false_iff_not]; omega
        have hbad : ParR s ⟨0, []⟩ 2 := parR_bad hl' hback (fun g hg => by
          rw [hpar, hr, rF_bad hlt' (hpn hE)] at hg; cases hg)
        obtain ⟨⟨z0', c0⟩, z0, ⟨z1', c1'⟩, z1, hk, hx⟩ := fput' (A.ext (xu.trans hu1)) (.int .i64 0) (.slice none 0 0)
        have r0 := hk.get (o := 0) rfl
        have r1 := hk.get (o := 1) rfl
        simp -dsimp -implicitDefEqProofs only [h6, h4, h0, h2, h5, dE, bv_fm0, c0, c1', z0, z1, r0, r1, m13, sF13, Nat.reduceEqDiff, ↓reduceIte, Nat.reduceAdd, Nat.reduceMul, Value.cells, Value.oneCell', eq_self, ne_eq, Int.reduceToNat, Int.reduceEq, Int.reduceLT, Int.reduceLE, Int.reduceNeg, if_true, if_false, reduceCtorEq, Nat.reduceSub, storeV_ptr, slcV_slice, ↓mwD, mwU]
        exact ⟨zeros (xu.trans hu1), ⟨0, []⟩, none, 0, 2, rfl, SlF.nil _, hbad⟩
    · have hil : i = W.length := by omega
      rw [hil, List.drop_length] at hr
      have hpr : parR s = some ⟨m, acc.map (·.1)⟩ := by rw [hpar, hr]; simp [rF]
      have hsl2 := hF.slF
      have hnv : nv = (acc.map (·.1)).length := by obtain ⟨_, _, e, _, _⟩ := hsl2.shape; cases e; rfl
      subst hnv
      have T0 := kB.get (o := 0) rfl
      have T1 := kB.get (o := 1) rfl
      have htc := refText_c ⟨m, acc.map (·.1)⟩ (.slice qv (acc.map (·.1)).length cv) u hsl2
      simp only [fmV] at htc
      simp -dsimp -implicitDefEqProofs only [h6, h4, h0, h2, h5, hlt, T0, T1, m13, sF13, Nat.reduceEqDiff, ↓reduceIte, Nat.reduceAdd, Nat.reduceMul, Value.cells, Value.oneCell', eq_self, ne_eq, Int.reduceToNat, Int.reduceEq, Int.reduceLT, Int.reduceLE, Int.reduceNeg, if_true, if_false, reduceCtorEq, Nat.reduceSub, storeV_ptr, slcV_slice, ↓mwD, mwU]
      refine htc.use ?_
      rintro r u1 ⟨rfl, hu1⟩
      have x1 := xu.trans hu1
      by_cases ht : txB ⟨m, acc.map (·.1)⟩ = s
      · have d1 : decide (bw (txB ⟨m, acc.map (·.1)⟩) ≠ bw s) = false := by rw [ht]; simp
        by_cases hs0 : s = []
        · have d2 : decide (bw s = ⟨#[]⟩) = true := by simp only [decide_eq_true_eq]; rw [hs0]; rfl
          have hbad : ParR s ⟨0, []⟩ 2 := parR_bad hl' hback (fun g hg _ => hs0)
          obtain ⟨⟨z0', c0⟩, z0, ⟨z1', c1'⟩, z1, hk, hx⟩ := fput' (A.ext x1) (.int .i64 0) (.slice none 0 0)
          have r0 := hk.get (o := 0) rfl
          have r1 := hk.get (o := 1) rfl
          simp -dsimp -implicitDefEqProofs only [h6, h4, h0, h2, h5, binV_neS, binV_eqS, d1, d2, bv_fm0, c0, c1', z0, z1, r0, r1, m13, sF13, Nat.reduceEqDiff, ↓reduceIte, Nat.reduceAdd, Nat.reduceMul, Value.cells, Value.oneCell', eq_self, ne_eq, Int.reduceToNat, Int.reduceEq, Int.reduceLT, Int.reduceLE, Int.reduceNeg, if_true, if_false, reduceCtorEq, Nat.reduceSub, storeV_ptr, slcV_slice, ↓mwD, mwU]
          exact ⟨zeros x1, ⟨0, []⟩, none, 0, 2, rfl, SlF.nil _, hbad⟩
        · have d2 : decide (bw s = ⟨#[]⟩) = false := by
            simp only [decide_eq_false_iff_not]
            exact fun h => hs0 (by have := congrArg (fun b : ByteArray => b.data.toList) h; exact this)
          have T0 := (kB.ext hu1).get (o := 0) rfl
          have T1 := (kB.ext hu1).get (o := 1) rfl
          obtain ⟨⟨z0', c0⟩, z0, ⟨z1', c1'⟩, z1, hk, hx⟩ := fput' (A.ext x1) (.int .i64 m) (.slice qv (acc.map (·.1)).length cv)
          have r0 := hk.get (o := 0) rfl
          have r1 := hk.get (o := 1) rfl
          simp -dsimp -implicitDefEqProofs only [h6, h4, h0, h2, h5, binV_neS, binV_eqS, d1, d2, T0, T1, c0, c1', z0, z1, r0, r1, m13, sF13, Nat.reduceEqDiff, ↓reduceIte, Nat.reduceAdd, Nat.reduceMul, Value.cells, Value.oneCell', eq_self, ne_eq, Int.reduceToNat, Int.reduceEq, Int.reduceLT, Int.reduceLE, Int.reduceNeg, if_true, if_false, reduceCtorEq, Nat.reduceSub, storeV_ptr, slcV_slice, ↓mwD, mwU]
          have hgood := parR_good hl' ht hs0
          have hch : ChP (fun k => k = w.heap.size) u1 ((u1.setCell ⟨w.heap.size, 0, none⟩ (.int .i64 m)).setCell ⟨w.heap.size, 1, none⟩ (.slice qv (acc.map (·.1)).length cv)) := ChP.setCell (G := fun k => k = w.heap.size) (ChP.setCell (G := fun k => k = w.heap.size) (ChP.refl _ u1) (fun _ => rfl) _) (fun _ => rfl) _
          exact ⟨hx (x0.trans x1) (Nat.le_refl _), ⟨m, acc.map (·.1)⟩, qv, cv, 0, rfl, ((hF.ext hu1).ch hch (fun j hj => by subst hj; exact (A.ext x1).odd (by decide) (by decide))).slF, hgood⟩
      · have hbad : ParR s ⟨0, []⟩ 2 := parR_bad hl' hback (fun g hg hg2 => by
          rw [hpr] at hg
          cases hg
          exact absurd hg2 ht)
        have d1 : decide (bw (txB ⟨m, acc.map (·.1)⟩) ≠ bw s) = true := by simp only [decide_eq_true_eq, ne_eq, bw_eq]; exact ht
        obtain ⟨⟨z0', c0⟩, z0, ⟨z1', c1'⟩, z1, hk, hx⟩ := fput' (A.ext x1) (.int .i64 0) (.slice none 0 0)
        have r0 := hk.get (o := 0) rfl
        have r1 := hk.get (o := 1) rfl
        simp -dsimp -implicitDefEqProofs only [h6, h4, h0, h2, h5, binV_neS, binV_eqS, d1, bv_fm0, c0, c1', z0, z1, r0, r1, m13, sF13, Nat.reduceEqDiff, ↓reduceIte, Nat.reduceAdd, Nat.reduceMul, Value.cells, Value.oneCell', eq_self, ne_eq, Int.reduceToNat, Int.reduceEq, Int.reduceLT, Int.reduceLE, Int.reduceNeg, if_true, if_false, reduceCtorEq, Nat.reduceSub, storeV_ptr, slcV_slice, ↓mwD, mwU]
        exact ⟨zeros x1, ⟨0, []⟩, none, 0, 2, rfl, SlF.nil _, hbad⟩
end Go.Proofs.YthcdnjbhhaonhaaGreatDoor
/- Layer 02: numbers and choices in texts, and a format's text, by the program. -/

namespace Go.Proofs.YthcdnjbhhaonhaaGreatDoor
open Go.RowKit
set_option linter.unusedSimpArgs false

theorem Rets.of {P : Program} {f : FuncId} {args : Array Value} {w : World} {Q : Value → World → Prop} {R : Ending → World → Prop} (h : Calls P f args w R) (hk : ∀ e w', R e w' → ∃ v, e = .returned v ∧ Q v w') : Rets P f args w Q := by
  unfold Rets; exact Calls.mono h hk
theorem Atoi_c {s : By} {w : World} (hs : s.length ≤ 1000000000) (hE : EnvS w) : Rets Go.Proofs.Tryz.prog 129 #[.string (bw s)] w fun r w' =>
    (match Lib.atoiAll s with | .ok n => r = .tuple #[.int .i64 n, .nilIface] | _ => ∃ n t p, r = .tuple #[.int .i64 n, .iface t p]) ∧ Ext w w' := by
  have hs' : (bw s).size ≤ 1000000000 := hs
  cases h : Lib.atoiAll s
  · rename_i n
    refine Rets.of (Any.strconv_Atoi_ok Tryz.laysC172 (bw s) (by omega) n h w) fun e w' ⟨he, hw⟩ => ⟨_, he, rfl, ?_⟩
    rcases hw with rfl | ⟨t, rfl⟩
    · exact Ext.refl _
    · exact Lib.bytesWorld_below _ _ _
  · obtain ⟨tp, p, hv⟩ := hE.syn
    exact Rets.of (Any.strconv_Atoi_syntax_var Tryz.laysC172 (bw s) (by omega) h tp p w hv) fun e w' ⟨N, he, _, _, hw⟩ => ⟨_, he, ⟨_, _, _, rfl⟩, hw⟩
  · obtain ⟨tp, p, hv⟩ := hE.rng
    exact Rets.of (Any.strconv_Atoi_range_var Tryz.laysC172 (bw s) (by omega) h tp p w hv) fun e w' ⟨N, he, _, _, hw⟩ => ⟨_, he, ⟨_, _, _, rfl⟩, hw⟩
theorem number_c (s : By) (w : World) (hs : s.length ≤ 1000000000) (hE : EnvS w) : Rets Go.Proofs.Tryz.prog 94 #[.string (bw s)] w fun r w' => r = .int .i64 (numP s) ∧ Ext w w' := by
  refine en94 ?_
  simp -dsimp -implicitDefEqProofs only [m94, sF94, Nat.reduceEqDiff, ↓reduceIte, Nat.reduceAdd, Nat.reduceMul, Value.cells, Value.oneCell', eq_self, ne_eq, Int.reduceToNat, Int.reduceEq, Int.reduceLT, Int.reduceLE, Int.reduceNeg, if_true, if_false, reduceCtorEq, Nat.reduceSub, storeV_ptr, slcV_slice, ↓mwD, mwU]
  refine (Atoi_c hs hE).use ?_
  rintro r w1 ⟨hr, h1⟩
  have hn : numP s = match Lib.atoiAll s with | .ok n => if Lib.itoa n = s then n else -1 | _ => -1 := rfl
  cases ha : Lib.atoiAll s with
  | ok n =>
    rw [ha] at hr hn
    simp only at hr hn
    subst hr
    simp -dsimp -implicitDefEqProofs only [m94, sF94, Nat.reduceEqDiff, ↓reduceIte, Nat.reduceAdd, Nat.reduceMul, Value.cells, Value.oneCell', eq_self, ne_eq, Int.reduceToNat, Int.reduceEq, Int.reduceLT, Int.reduceLE, Int.reduceNeg, if_true, if_false, reduceCtorEq, Nat.reduceSub, storeV_ptr, slcV_slice, ↓mwD, mwU]
    refine (Itoa_c (Lib.atoiAll_bounds ha) (hE.ext h1)).use ?_
    rintro r w2 ⟨rfl, h2⟩
    by_cases he : Lib.itoa n = s
    · have d1 : decide (bw (Lib.itoa n) ≠ bw s) = false := by rw [he]; simp
      rw [if_pos he] at hn
      simp -dsimp -implicitDefEqProofs only [binV_neS, d1, m94, sF94, Nat.reduceEqDiff, ↓reduceIte, Nat.reduceAdd, Nat.reduceMul, Value.cells, Value.oneCell', eq_self, ne_eq, Int.reduceToNat, Int.reduceEq, Int.reduceLT, Int.reduceLE, Int.reduceNeg, if_true, if_false, reduceCtorEq, Nat.reduceSub, storeV_ptr, slcV_slice, ↓mwD, mwU]
      exact ⟨hn.symm ▸ rfl, h1.trans h2⟩
    · have d1 : decide (bw (Lib.itoa n) ≠ bw s) = true := by simp only [decide_eq_true_eq, ne_eq, bw_eq]; exact he
      rw [if_neg he] at hn
      simp -dsimp -implicitDefEqProofs only [binV_neS, d1, m94, sF94, Nat.reduceEqDiff, ↓reduceIte, Nat.reduceAdd, Nat.reduceMul, Value.cells, Value.oneCell', eq_self, ne_eq, Int.reduceToNat, Int.reduceEq, Int.reduceLT, Int.reduceLE, Int.reduceNeg, if_true, if_false, reduceCtorEq, Nat.reduceSub, storeV_ptr, slcV_slice, ↓mwD, mwU]
      exact ⟨by rw [hn], h1.trans h2⟩
  | _ =>
    rw [ha] at hr hn
    simp only at hr hn
    obtain ⟨n, t, p, rfl⟩ := hr
    simp -dsimp -implicitDefEqProofs only [m94, sF94, Nat.reduceEqDiff, ↓reduceIte, Nat.reduceAdd, Nat.reduceMul, Value.cells, Value.oneCell', eq_self, ne_eq, Int.reduceToNat, Int.reduceEq, Int.reduceLT, Int.reduceLE, Int.reduceNeg, if_true, if_false, reduceCtorEq, Nat.reduceSub, storeV_ptr, slcV_slice, ↓mwD, mwU]
    exact ⟨by rw [hn], h1⟩
theorem inT_I {n : Int} (h : inT n = true) : inI n := by have := inT_mem.1 h; exact ⟨by omega, by omega⟩
set_option maxHeartbeats 1000000 in
theorem shown_c (c : Ch) (s : Value) (w : World) (hE : EnvS w) (hs : SlI w s c.L) (hv : c.valid = true) : Rets Go.Proofs.Tryz.prog 54 #[chV c s] w fun r w' => r = .string (bw (shownB c)) ∧ Ext w w' := by
  obtain ⟨p, cap, rfl, hc1, hc2⟩ := hs.shape
  obtain ⟨W, hW, A, x0⟩ := new_bk' w [.int .i64 c.k, .int .i64 c.d, .slice p c.L.length cap] 35
  have A0 := A.get (o := 0) rfl
  have A1 := A.get (o := 1) rfl
  have A2 := A.get (o := 2) rfl
  have hd := itoa_len (valid_d hv)
  have hL := valid_L hv
  refine en54 ?_
  simp -dsimp -implicitDefEqProofs only [chV, ← hW, A0, A1, A2, m54, sF54, Nat.reduceEqDiff, ↓reduceIte, Nat.reduceAdd, Nat.reduceMul, Value.cells, Value.oneCell', eq_self, ne_eq, Int.reduceToNat, Int.reduceEq, Int.reduceLT, Int.reduceLE, Int.reduceNeg, if_true, if_false, reduceCtorEq, Nat.reduceSub, storeV_ptr, slcV_slice, ↓mwD, mwU]
  clear hW
  refine (Itoa_c (inT_I (valid_d hv)) (hE.ext x0)).use ?_
  rintro r w1 ⟨rfl, h1⟩
  have A0 := (A.ext h1).get (o := 0) rfl
  have A1 := (A.ext h1).get (o := 1) rfl
  have A2 := (A.ext h1).get (o := 2) rfl
  rcases valid_kinds hv with ⟨k, eL⟩ | ⟨k, x, r, eL⟩ | ⟨k, eL⟩ | ⟨k, eL⟩
  · rw [k] at A0
    simp -dsimp -implicitDefEqProofs only [A0, A1, A2, m54, sF54, Nat.reduceEqDiff, ↓reduceIte, Nat.reduceAdd, Nat.reduceMul, Value.cells, Value.oneCell', eq_self, ne_eq, Int.reduceToNat, Int.reduceEq, Int.reduceLT, Int.reduceLE, Int.reduceNeg, if_true, if_false, reduceCtorEq, Nat.reduceSub, storeV_ptr, slcV_slice, ↓mwD, mwU]
    exact ⟨by unfold shownB; rw [if_pos k, List.append_nil], x0.trans h1⟩
  · rw [k] at A0
    have hl20 := (valid_list hv (by unfold Ch.lsd; simp [k])).2.1
    simp -dsimp -implicitDefEqProofs only [A0, A1, A2, m54, sF54, Nat.reduceEqDiff, ↓reduceIte, Nat.reduceAdd, Nat.reduceMul, Value.cells, Value.oneCell', eq_self, ne_eq, Int.reduceToNat, Int.reduceEq, Int.reduceLT, Int.reduceLE, Int.reduceNeg, if_true, if_false, reduceCtorEq, Nat.reduceSub, storeV_ptr, slcV_slice, ↓mwD, mwU]
    refine mwpB_loop (fun e ds u => ∃ (m : Nat) (v : Value), m ≤ c.L.length ∧ e 17 = .int .i64 m ∧ e 16 = .int .i64 c.L.length ∧ e 15 = .slice p c.L.length cap ∧ e 3 = .string (bw (Lib.itoa c.d)) ∧ e 4 = v ∧ e 1 = .pointer (some ⟨w.heap.size, 0, none⟩) ∧ ds = [] ∧ Ext W u ∧ u.ownsRow W.heap.size 9 1 v ((c.L.take m).map Lib.itoa).length (strs ((c.L.take m).map Lib.itoa)))
      (fun e _ => c.L.length - (intOf (e 17)).toNat) ?_ ?_
    · simp -dsimp -implicitDefEqProofs only [m54, sF54, Nat.reduceEqDiff, ↓reduceIte, Nat.reduceAdd, Nat.reduceMul, Value.cells, Value.oneCell', eq_self, ne_eq, Int.reduceToNat, Int.reduceEq, Int.reduceLT, Int.reduceLE, Int.reduceNeg, if_true, if_false, reduceCtorEq, Nat.reduceSub, storeV_ptr, slcV_slice, ↓mwD, mwU]
      exact ⟨0, _, by omega, rfl, rfl, h1, World.ownsRow_nil _ _ _ _⟩
    · rintro e ds u ⟨m, v, hm, h17, h16, h15, h3, h4, h1', rfl, hu, hown⟩
      simp -dsimp -implicitDefEqProofs only [h17, h16, h15, h3, h4, h1', m54, sF54, Nat.reduceEqDiff, ↓reduceIte, Nat.reduceAdd, Nat.reduceMul, Value.cells, Value.oneCell', eq_self, ne_eq, Int.reduceToNat, Int.reduceEq, Int.reduceLT, Int.reduceLE, Int.reduceNeg, if_true, if_false, reduceCtorEq, Nat.reduceSub, storeV_ptr, slcV_slice, ↓mwD, mwU]
      refine iteW_dec (fun hlt => ?_) (fun hge => ?_)
      · have hlt' : m < c.L.length := by omega
        have hb1 : (0 : Int) ≤ m ∧ (m : Int) < c.L.length := by omega
        have hw := w64_succ hlt' (Nat.le_trans hc1 hc2)
        obtain ⟨b, o, rfl, q0⟩ := (hs.ext (x0.trans hu)).cell hlt'
        have hin := hL c.L[m] (List.getElem_mem _)
        simp -dsimp -implicitDefEqProofs only [h17, h16, h15, h3, h4, h1', hb1, and_self, q0, m54, sF54, Nat.reduceEqDiff, ↓reduceIte, Nat.reduceAdd, Nat.reduceMul, Value.cells, Value.oneCell', eq_self, ne_eq, Int.reduceToNat, Int.reduceEq, Int.reduceLT, Int.reduceLE, Int.reduceNeg, if_true, if_false, reduceCtorEq, Nat.reduceSub, storeV_ptr, slcV_slice, ↓mwD, mwU]
        refine (Itoa_c (inT_I hin) (hE.ext (x0.trans hu))).use ?_
        rintro r w2 ⟨rfl, h2⟩
        obtain ⟨v', w5, happ, hown5, hext5⟩ := append_st (Own.ext hown h2) (Lib.itoa c.L[m]) (by simp; omega) (hu.trans h2).size
        simp -dsimp -implicitDefEqProofs only [h17, h16, h15, h3, h4, h1', bs_str, m54, sF54, Nat.reduceEqDiff, ↓reduceIte, Nat.reduceAdd, Nat.reduceMul, Value.cells, Value.oneCell', eq_self, ne_eq, Int.reduceToNat, Int.reduceEq, Int.reduceLT, Int.reduceLE, Int.reduceNeg, if_true, if_false, reduceCtorEq, Nat.reduceSub, storeV_ptr, slcV_slice, ↓mwD, mwU]
        refine appB.mk happ ?_
        simp -dsimp -implicitDefEqProofs only [h17, h16, h15, h3, h4, h1', hw, m54, sF54, Nat.reduceEqDiff, ↓reduceIte, Nat.reduceAdd, Nat.reduceMul, Value.cells, Value.oneCell', eq_self, ne_eq, Int.reduceToNat, Int.reduceEq, Int.reduceLT, Int.reduceLE, Int.reduceNeg, if_true, if_false, reduceCtorEq, Nat.reduceSub, storeV_ptr, slcV_slice, ↓mwD, mwU]
        refine ⟨⟨m + 1, _, by omega, rfl, rfl, hext5 (hu.trans h2) (Nat.le_refl _), ?_⟩, by simp only [intOf]; omega⟩
        rw [List.take_succ_eq_append_getElem hlt', List.map_append]
        exact hown5
      · have hml : m = c.L.length := by omega
        rw [hml, List.take_length] at hown
        have hsl : SlS u v (c.L.map Lib.itoa) := Own.sl hown
        have hne : c.L.map Lib.itoa ≠ [] := by rw [eL]; simp
        obtain ⟨b, o, cp, rfl, hcp, _, hrow⟩ := Sl.at hsl (by intro h; exact hne (by simpa [strs] using h))
        have hlen := itoaC_len c.L hL
        have hjn : Lib.join (((c.L.map Lib.itoa).map bw).map (·.data.toList)) ((⟨#[44]⟩ : ByteArray).data.toList) = itoaC c.L := by
          unfold itoaC
          rw [List.map_map]
          congr 1
          exact List.map_id _
        have hjoin := Join_a (w := u) (b := b) (o := o) (cap := cp) (xs := (c.L.map Lib.itoa).map bw) (sep := ⟨#[44]⟩) (by intro h; exact hne (List.map_eq_nil_iff.1 h)) (by rw [List.length_map]; rw [strs_length] at hcp; exact hcp) (by rw [List.map_map]; exact hrow) (by rw [hjn]; omega) (by rw [List.length_map, List.length_map]; omega)
        have hlE : ((c.L.map Lib.itoa).map bw).length = (strs (c.L.map Lib.itoa)).length := by simp [strs]
        rw [hjn, hlE] at hjoin
        have a1 : ∀ t, binV Go.Proofs.Tryz.prog t .add (.string ⟨#[32, 111, 102, 32]⟩) (.string (bw (itoaC c.L))) = _ := fun t => of_add (by omega)
        have a2 : ∀ t, binV Go.Proofs.Tryz.prog t .add (.string (bw (Lib.itoa c.d))) (.string (bw (spOf ++ itoaC c.L))) = _ := fun t => add_two (by omega) (by simp [spOf]; omega)
        simp -dsimp -implicitDefEqProofs only [h17, h16, h15, h3, h4, h1', m54, sF54, Nat.reduceEqDiff, ↓reduceIte, Nat.reduceAdd, Nat.reduceMul, Value.cells, Value.oneCell', eq_self, ne_eq, Int.reduceToNat, Int.reduceEq, Int.reduceLT, Int.reduceLE, Int.reduceNeg, if_true, if_false, reduceCtorEq, Nat.reduceSub, storeV_ptr, slcV_slice, ↓mwD, mwU]
        refine (Rets.of (Q := fun r w' => r = .string (bw (itoaC c.L)) ∧ Ext u w') hjoin fun e' w' ⟨he, hx⟩ => ⟨_, he, rfl, hx⟩).use ?_
        rintro r w2 ⟨rfl, h2⟩
        have A0 := (A.ext (hu.trans h2)).get (o := 0) rfl
        rw [k] at A0
        simp -dsimp -implicitDefEqProofs only [h17, h16, h15, h3, h4, h1', a1, a2, A0, m54, sF54, Nat.reduceEqDiff, ↓reduceIte, Nat.reduceAdd, Nat.reduceMul, Value.cells, Value.oneCell', eq_self, ne_eq, Int.reduceToNat, Int.reduceEq, Int.reduceLT, Int.reduceLE, Int.reduceNeg, if_true, if_false, reduceCtorEq, Nat.reduceSub, storeV_ptr, slcV_slice, ↓mwD, mwU]
        refine ⟨?_, x0.trans (hu.trans h2)⟩
        unfold shownB restW
        rw [if_neg (by omega), if_pos k]
  · rw [k] at A0
    rw [eL] at hL
    have i1 := itoa_len (hL c.lo (by simp))
    have i2 := itoa_len (hL c.hi (by simp))
    have hcl : c.L.length = 2 := by rw [eL]; rfl
    obtain ⟨b, o, rfl, q0, q1, _⟩ := (hs.ext (x0.trans h1)).ends (by omega)
    have hb1 : (0 : Int) < c.L.length := by omega
    have hb2 : (1 : Int) < c.L.length := by omega
    have a1 : ∀ t, binV Go.Proofs.Tryz.prog t .add (.string ⟨#[32, 111, 102, 32]⟩) (.string (bw (Lib.itoa c.lo))) = _ := fun t => of_add (by omega)
    have a2 : ∀ t, binV Go.Proofs.Tryz.prog t .add (.string (bw (spOf ++ Lib.itoa c.lo))) (.string ⟨#[46, 46]⟩) = _ := fun t => add_dots (by simp [spOf]; omega)
    have a3 : ∀ t, binV Go.Proofs.Tryz.prog t .add (.string (bw (spOf ++ Lib.itoa c.lo ++ [46, 46]))) (.string (bw (Lib.itoa c.hi))) = _ := fun t => add_two (by simp [spOf]; omega) (by omega)
    have a4 : ∀ t, binV Go.Proofs.Tryz.prog t .add (.string (bw (Lib.itoa c.d))) (.string (bw (spOf ++ Lib.itoa c.lo ++ [46, 46] ++ Lib.itoa c.hi))) = _ := fun t => add_two (by omega) (by simp [spOf]; omega)
    simp -dsimp -implicitDefEqProofs only [A0, A1, A2, m54, sF54, Nat.reduceEqDiff, ↓reduceIte, Nat.reduceAdd, Nat.reduceMul, Value.cells, Value.oneCell', eq_self, ne_eq, Int.reduceToNat, Int.reduceEq, Int.reduceLT, Int.reduceLE, Int.reduceNeg, if_true, if_false, reduceCtorEq, Nat.reduceSub, storeV_ptr, slcV_slice, ↓mwD, mwU]
    refine mwpB_drawE ?_
    simp -dsimp -implicitDefEqProofs only [A0, A1, A2, hb1, hb2, q0, q1, planEB_two, m54, sF54, Nat.reduceEqDiff, ↓reduceIte, Nat.reduceAdd, Nat.reduceMul, Value.cells, Value.oneCell', eq_self, ne_eq, Int.reduceToNat, Int.reduceEq, Int.reduceLT, Int.reduceLE, Int.reduceNeg, if_true, if_false, reduceCtorEq, Nat.reduceSub, storeV_ptr, slcV_slice, ↓mwD, mwU]
    refine (Itoa_c (inT_I (hL c.lo (by simp))) (hE.ext (x0.trans (h1.trans (Ext.drew w1))))).use ?_
    rintro r w2 ⟨rfl, h2⟩
    have A2' := (A.ext (h1.trans ((Ext.drew w1).trans h2))).get (o := 2) rfl
    simp -dsimp -implicitDefEqProofs only [h2, a1, a2, A2', planEB_two, m54, sF54, Nat.reduceEqDiff, ↓reduceIte, Nat.reduceAdd, Nat.reduceMul, Value.cells, Value.oneCell', eq_self, ne_eq, Int.reduceToNat, Int.reduceEq, Int.reduceLT, Int.reduceLE, Int.reduceNeg, if_true, if_false, reduceCtorEq, Nat.reduceSub, storeV_ptr, slcV_slice, ↓mwD, mwU]
    refine (Itoa_c (inT_I (hL c.hi (by simp))) (hE.ext (x0.trans (h1.trans ((Ext.drew w1).trans h2))))).use ?_
    rintro r w3 ⟨rfl, h3⟩
    have E3 := h2.trans h3
    have hx3 := h1.trans ((Ext.drew w1).trans E3)
    have A0' := (A.ext hx3).get (o := 0) rfl
    rw [k] at A0'
    simp -dsimp -implicitDefEqProofs only [E3, a3, a4, A0', m54, sF54, Nat.reduceEqDiff, ↓reduceIte, Nat.reduceAdd, Nat.reduceMul, Value.cells, Value.oneCell', eq_self, ne_eq, Int.reduceToNat, Int.reduceEq, Int.reduceLT, Int.reduceLE, Int.reduceNeg, if_true, if_false, reduceCtorEq, Nat.reduceSub, storeV_ptr, slcV_slice, ↓mwD, mwU]
    refine ⟨?_, x0.trans hx3⟩
    unfold shownB restW
    rw [if_neg (by omega), if_neg (by omega), if_neg (by omega)]
    simp only [List.append_assoc, List.cons_append, List.nil_append, List.append_nil]
  · rw [k] at A0
    rw [eL] at hL
    have i1 := itoa_len (hL c.lo (by simp))
    have i2 := itoa_len (hL c.hi (by simp))
    have hcl : c.L.length = 3 := by rw [eL]; rfl
    have i3 := itoa_len (hL (c.L.getD 2 0) (by simp))
    obtain ⟨b, o, rfl, q0, q1, q2⟩ := (hs.ext (x0.trans h1)).ends (by omega)
    have hb1 : (0 : Int) < c.L.length := by omega
    have hb2 : (1 : Int) < c.L.length := by omega
    have a1 : ∀ t, binV Go.Proofs.Tryz.prog t .add (.string ⟨#[32, 111, 102, 32]⟩) (.string (bw (Lib.itoa c.lo))) = _ := fun t => of_add (by omega)
    have a2 : ∀ t, binV Go.Proofs.Tryz.prog t .add (.string (bw (spOf ++ Lib.itoa c.lo))) (.string ⟨#[46, 46]⟩) = _ := fun t => add_dots (by simp [spOf]; omega)
    have a3 : ∀ t, binV Go.Proofs.Tryz.prog t .add (.string (bw (spOf ++ Lib.itoa c.lo ++ [46, 46]))) (.string (bw (Lib.itoa c.hi))) = _ := fun t => add_two (by simp [spOf]; omega) (by omega)
    have a4 : ∀ t, binV Go.Proofs.Tryz.prog t .add (.string (bw (Lib.itoa c.d))) (.string (bw (spOf ++ Lib.itoa c.lo ++ [46, 46] ++ Lib.itoa c.hi))) = _ := fun t => add_two (by omega) (by simp [spOf]; omega)
    have a5 : ∀ t, binV Go.Proofs.Tryz.prog t .add (.string ⟨#[47]⟩) (.string (bw (Lib.itoa (c.L.getD 2 0)))) = _ := fun t => slash_add (by omega)
    have a6 : ∀ t, binV Go.Proofs.Tryz.prog t .add (.string (bw (Lib.itoa c.d ++ (spOf ++ Lib.itoa c.lo ++ [46, 46] ++ Lib.itoa c.hi)))) (.string (bw (47 :: Lib.itoa (c.L.getD 2 0)))) = _ := fun t => add_two (by simp [spOf]; omega) (by rw [List.length_cons]; omega)
    simp -dsimp -implicitDefEqProofs only [A0, A1, A2, m54, sF54, Nat.reduceEqDiff, ↓reduceIte, Nat.reduceAdd, Nat.reduceMul, Value.cells, Value.oneCell', eq_self, ne_eq, Int.reduceToNat, Int.reduceEq, Int.reduceLT, Int.reduceLE, Int.reduceNeg, if_true, if_false, reduceCtorEq, Nat.reduceSub, storeV_ptr, slcV_slice, ↓mwD, mwU]
    refine mwpB_drawE ?_
    simp -dsimp -implicitDefEqProofs only [A0, A1, A2, hb1, hb2, q0, q1, planEB_two, m54, sF54, Nat.reduceEqDiff, ↓reduceIte, Nat.reduceAdd, Nat.reduceMul, Value.cells, Value.oneCell', eq_self, ne_eq, Int.reduceToNat, Int.reduceEq, Int.reduceLT, Int.reduceLE, Int.reduceNeg, if_true, if_false, reduceCtorEq, Nat.reduceSub, storeV_ptr, slcV_slice, ↓mwD, mwU]
    refine (Itoa_c (inT_I (hL c.lo (by simp))) (hE.ext (x0.trans (h1.trans (Ext.drew w1))))).use ?_
    rintro r w2 ⟨rfl, h2⟩
    have A2' := (A.ext (h1.trans ((Ext.drew w1).trans h2))).get (o := 2) rfl
    simp -dsimp -implicitDefEqProofs only [h2, a1, a2, A2', planEB_two, m54, sF54, Nat.reduceEqDiff, ↓reduceIte, Nat.reduceAdd, Nat.reduceMul, Value.cells, Value.oneCell', eq_self, ne_eq, Int.reduceToNat, Int.reduceEq, Int.reduceLT, Int.reduceLE, Int.reduceNeg, if_true, if_false, reduceCtorEq, Nat.reduceSub, storeV_ptr, slcV_slice, ↓mwD, mwU]
    refine (Itoa_c (inT_I (hL c.hi (by simp))) (hE.ext (x0.trans (h1.trans ((Ext.drew w1).trans h2))))).use ?_
    rintro r w3 ⟨rfl, h3⟩
    have E3 := h2.trans h3
    have hx3 := h1.trans ((Ext.drew w1).trans E3)
    have A0' := (A.ext hx3).get (o := 0) rfl
    rw [k] at A0'
    have A2'' := (A.ext hx3).get (o := 2) rfl
    have q2' := ((Ext.drew w1).trans E3).cell (q2 (by omega))
    have hb3 : (2 : Int) < c.L.length := by omega
    simp -dsimp -implicitDefEqProofs only [E3, a3, a4, A0', A2'', hb3, q2', m54, sF54, Nat.reduceEqDiff, ↓reduceIte, Nat.reduceAdd, Nat.reduceMul, Value.cells, Value.oneCell', eq_self, ne_eq, Int.reduceToNat, Int.reduceEq, Int.reduceLT, Int.reduceLE, Int.reduceNeg, if_true, if_false, reduceCtorEq, Nat.reduceSub, storeV_ptr, slcV_slice, ↓mwD, mwU]
    refine (Itoa_c (inT_I (hL (c.L.getD 2 0) (by simp))) (hE.ext (x0.trans hx3))).use ?_
    rintro r w4 ⟨rfl, h4⟩
    simp -dsimp -implicitDefEqProofs only [a5, a6, m54, sF54, Nat.reduceEqDiff, ↓reduceIte, Nat.reduceAdd, Nat.reduceMul, Value.cells, Value.oneCell', eq_self, ne_eq, Int.reduceToNat, Int.reduceEq, Int.reduceLT, Int.reduceLE, Int.reduceNeg, if_true, if_false, reduceCtorEq, Nat.reduceSub, storeV_ptr, slcV_slice, ↓mwD, mwU]
    refine ⟨?_, x0.trans (hx3.trans h4)⟩
    unfold shownB restW
    rw [if_neg (by omega), if_neg (by omega), if_pos k]
    simp only [List.append_assoc, List.cons_append, List.nil_append, List.append_nil]
end Go.Proofs.YthcdnjbhhaonhaaGreatDoor
/- Layer 02: a format's text, by the program. -/

namespace Go.Proofs.YthcdnjbhhaonhaaGreatDoor
open Go.RowKit
set_option linter.unusedSimpArgs false

set_option maxHeartbeats 1000000 in
theorem Text_c (f : Fm) (s : Value) (w : World) (hE : EnvS w) (hs : SlF w s f.F) : Rets Go.Proofs.Tryz.prog 11 #[fmV f s] w fun r w' => r = .string (bw (txB f)) ∧ Ext w w' := by
  obtain ⟨p, cap, rfl, hc1, hc2⟩ := hs.shape
  obtain ⟨W, hW, A, x0⟩ := new_bk' w [.int .i64 f.m, .slice p f.F.length cap] 24
  have A0 := A.get (o := 0) rfl
  have A1 := A.get (o := 1) rfl
  refine en11 ?_
  simp -dsimp -implicitDefEqProofs only [fmV, ← hW, A0, A1, m11, sF11, Nat.reduceEqDiff, ↓reduceIte, Nat.reduceAdd, Nat.reduceMul, Value.cells, Value.oneCell', eq_self, ne_eq, Int.reduceToNat, Int.reduceEq, Int.reduceLT, Int.reduceLE, Int.reduceNeg, if_true, if_false, reduceCtorEq, Nat.reduceSub, storeV_ptr, slcV_slice, ↓mwD, mwU]
  clear hW
  refine (Valid_c f _ W (hs.ext x0)).use ?_
  rintro r w1 ⟨rfl, h1⟩
  cases hv : f.valid
  · simp -dsimp -implicitDefEqProofs only [m11, sF11, Nat.reduceEqDiff, ↓reduceIte, Nat.reduceAdd, Nat.reduceMul, Value.cells, Value.oneCell', eq_self, ne_eq, Int.reduceToNat, Int.reduceEq, Int.reduceLT, Int.reduceLE, Int.reduceNeg, if_true, if_false, reduceCtorEq, Nat.reduceSub, storeV_ptr, slcV_slice, ↓mwD, mwU]
    exact ⟨by unfold txB; rw [hv]; rfl, x0.trans h1⟩
  have hv' := hv
  unfold Fm.valid at hv'
  simp only [Bool.and_eq_true, decide_eq_true_eq] at hv'
  obtain ⟨hF, hm1, hm2⟩ := hv'
  have htx : txB f = mediaW f.m ++ f.F.flatMap fldT := by unfold txB; rw [hv, if_pos rfl, txF_eq]
  rw [htx]
  obtain ⟨mn, hmn⟩ : ∃ n : Nat, f.m = n := ⟨f.m.toNat, by omega⟩
  have A0 := (A.ext h1).get (o := 0) rfl
  rw [hmn] at A0
  simp -dsimp -implicitDefEqProofs only [m11, sF11, Nat.reduceEqDiff, ↓reduceIte, Nat.reduceAdd, Nat.reduceMul, Value.cells, Value.oneCell', eq_self, ne_eq, Int.reduceToNat, Int.reduceEq, Int.reduceLT, Int.reduceLE, Int.reduceNeg, if_true, if_false, reduceCtorEq, Nat.reduceSub, storeV_ptr, slcV_slice, ↓mwD, mwU]
  refine mwpB_drawE ?_
  simp -dsimp -implicitDefEqProofs only [A0, planEB_two, m11, sF11, Nat.reduceEqDiff, ↓reduceIte, Nat.reduceAdd, Nat.reduceMul, Value.cells, Value.oneCell', eq_self, ne_eq, Int.reduceToNat, Int.reduceEq, Int.reduceLT, Int.reduceLE, Int.reduceNeg, if_true, if_false, reduceCtorEq, Nat.reduceSub, storeV_ptr, slcV_slice, ↓mwD, mwU]
  refine (media_c w1.drew).use ?_
  rintro r w2 ⟨h2, b2, rfl, ht⟩
  have hmt : mn < mediaT.length := by show mn < 4; omega
  have g2 := ht mn hmt
  rw [mediaT_get hmt, ← hmn] at g2
  have hb1 : (0 : Int) ≤ mn ∧ (mn : Int) < mediaT.length := by omega
  have A0' := (A.ext (h1.trans ((Ext.drew w1).trans h2))).get (o := 0) rfl
  have A1' := (A.ext (h1.trans ((Ext.drew w1).trans h2))).get (o := 1) rfl
  rw [hmn] at A0'
  simp -dsimp -implicitDefEqProofs only [h2, A0', A1', hb1, and_self, g2, planEB_two, Int.toNat_natCast, m11, sF11, Nat.reduceEqDiff, ↓reduceIte, Nat.reduceAdd, Nat.reduceMul, Value.cells, Value.oneCell', eq_self, ne_eq, Int.reduceToNat, Int.reduceEq, Int.reduceLT, Int.reduceLE, Int.reduceNeg, if_true, if_false, reduceCtorEq, Nat.reduceSub, storeV_ptr, slcV_slice, ↓mwD, mwU]
  refine mwpB_loop (fun e ds u => ∃ k : Nat, k ≤ f.F.length ∧ e 17 = .int .i64 k ∧ e 16 = .int .i64 f.F.length ∧ e 15 = .slice p f.F.length cap ∧ e 3 = .string (bw (mediaW f.m ++ (f.F.take k).flatMap fldT)) ∧ ds = [] ∧ Ext W u)
    (fun e _ => f.F.length - (intOf (e 17)).toNat) ?_ ?_
  · simp -dsimp -implicitDefEqProofs only [m11, sF11, Nat.reduceEqDiff, ↓reduceIte, Nat.reduceAdd, Nat.reduceMul, Value.cells, Value.oneCell', eq_self, ne_eq, Int.reduceToNat, Int.reduceEq, Int.reduceLT, Int.reduceLE, Int.reduceNeg, if_true, if_false, reduceCtorEq, Nat.reduceSub, storeV_ptr, slcV_slice, ↓mwD, mwU]
    exact ⟨0, by omega, rfl, by simp, h1.trans ((Ext.drew w1).trans h2)⟩
  · rintro e ds u ⟨k, hk, h17, h16, h15, h3, rfl, hu⟩
    simp -dsimp -implicitDefEqProofs only [h17, h16, h15, h3, m11, sF11, Nat.reduceEqDiff, ↓reduceIte, Nat.reduceAdd, Nat.reduceMul, Value.cells, Value.oneCell', eq_self, ne_eq, Int.reduceToNat, Int.reduceEq, Int.reduceLT, Int.reduceLE, Int.reduceNeg, if_true, if_false, reduceCtorEq, Nat.reduceSub, storeV_ptr, slcV_slice, ↓mwD, mwU]
    refine iteW_dec (fun hlt => ?_) (fun hge => ?_)
    · have hlt' : k < f.F.length := by omega
      obtain ⟨b, o, rfl, hfs⟩ := (hs.ext (x0.trans hu)).at (by intro h0; rw [h0] at hlt'; simp at hlt')
      obtain ⟨sk, q0, q1, q2, q3, hsk⟩ := hfs.get hlt'
      obtain ⟨ps, cs, rfl, _, _⟩ := hsk.shape
      have hb2 : (0 : Int) ≤ k ∧ (k : Int) < f.F.length := by omega
      have hw := w64_succ hlt' (Nat.le_trans hc1 hc2)
      obtain ⟨hk0, hk6, hvk⟩ := fieldsB_mem hF _ (List.getElem_mem hlt')
      obtain ⟨kn, hkn⟩ : ∃ n : Nat, f.F[k].key = n := ⟨f.F[k].key.toNat, by omega⟩
      have hal := acc_len k f.m hF hm1 hm2
      have hkl := keyW_len hk0 hk6
      have hsl := shown_len hvk
      have a1 : ∀ t, binV Go.Proofs.Tryz.prog t .add (.string ⟨#[32]⟩) (.string (bw (keyW f.F[k].key))) = _ := fun t => sp_add (by omega)
      have a2 : ∀ t, binV Go.Proofs.Tryz.prog t .add (.string (bw (32 :: keyW f.F[k].key))) (.string ⟨#[61]⟩) = some (.string (bw (32 :: (keyW f.F[k].key ++ [61])))) := fun t => add_eq (by rw [List.length_cons]; omega)
      have a3 : ∀ t, binV Go.Proofs.Tryz.prog t .add (.string (bw (32 :: (keyW f.F[k].key ++ [61])))) (.string (bw (shownB f.F[k].c))) = some (.string (bw (32 :: (keyW f.F[k].key ++ [61] ++ shownB f.F[k].c)))) := fun t => add_two (by simp; omega) (by omega)
      have a4 : ∀ t, binV Go.Proofs.Tryz.prog t .add (.string (bw (mediaW f.m ++ (f.F.take k).flatMap fldT))) (.string (bw (32 :: (keyW f.F[k].key ++ [61] ++ shownB f.F[k].c)))) = some (.string (bw (mediaW f.m ++ (f.F.take k).flatMap fldT ++ 32 :: (keyW f.F[k].key ++ [61] ++ shownB f.F[k].c)))) := fun t => add_two (by omega) (by simp; omega)
      have fin : mediaW f.m ++ (f.F.take k).flatMap fldT ++ 32 :: (keyW f.F[k].key ++ [61] ++ shownB f.F[k].c) = mediaW f.m ++ (f.F.take (k + 1)).flatMap fldT := by
        rw [take_txt hlt', fldT]
        simp only [List.append_assoc, List.cons_append, List.nil_append]
      obtain ⟨u1, hu1, D, x1⟩ := new_bk' u [.int .i64 f.F[k].key, .int .i64 f.F[k].c.k, .int .i64 f.F[k].c.d, .slice ps f.F[k].c.L.length cs] 72
      have D' : Bk u1.drew u.heap.size _ _ := D.ext (Ext.drew u1)
      have D0 := D.get (o := 0) rfl
      have D1 := D.get (o := 1) rfl
      have D2 := D.get (o := 2) rfl
      have D3 := D.get (o := 3) rfl
      rw [hkn] at D0
      simp -dsimp -implicitDefEqProofs only [h17, h16, h15, h3, hb2, and_self, q0, q1, q2, q3, Nat.mul_comm k 4, ← hu1, m11, sF11, Nat.reduceEqDiff, ↓reduceIte, Nat.reduceAdd, Nat.reduceMul, Value.cells, Value.oneCell', eq_self, ne_eq, Int.reduceToNat, Int.reduceEq, Int.reduceLT, Int.reduceLE, Int.reduceNeg, if_true, if_false, reduceCtorEq, Nat.reduceSub, storeV_ptr, slcV_slice, ↓mwD, mwU]
      clear hu1
      have H17 := h17
      refine mwpB_drawE ?_
      simp -dsimp -implicitDefEqProofs only [h17, h16, h15, h3, D0, D1, D2, D3, m11, sF11, Nat.reduceEqDiff, ↓reduceIte, Nat.reduceAdd, Nat.reduceMul, Value.cells, Value.oneCell', eq_self, ne_eq, Int.reduceToNat, Int.reduceEq, Int.reduceLT, Int.reduceLE, Int.reduceNeg, if_true, if_false, reduceCtorEq, Nat.reduceSub, storeV_ptr, slcV_slice, ↓mwD, mwU]
      refine (keys_c u1.drew).use ?_
      rintro r w3 ⟨h3', b3, rfl, ht3⟩
      have hkt : kn < keyT.length := by show kn < 7; omega
      have g3 := ht3 kn hkt
      rw [keyT_get hkt, ← hkn] at g3
      have hb3 : (0 : Int) ≤ kn ∧ (kn : Int) < keyT.length := by omega
      have x13 := x1.trans ((Ext.drew u1).trans h3')
      simp -dsimp -implicitDefEqProofs only [h3', hb3, and_self, g3, Int.toNat_natCast, a1, a2, planEB_two, m11, sF11, Nat.reduceEqDiff, ↓reduceIte, Nat.reduceAdd, Nat.reduceMul, Value.cells, Value.oneCell', eq_self, ne_eq, Int.reduceToNat, Int.reduceEq, Int.reduceLT, Int.reduceLE, Int.reduceNeg, if_true, if_false, reduceCtorEq, Nat.reduceSub, storeV_ptr, slcV_slice, ↓mwD, mwU]
      refine ⟨?_, ?_⟩
      · refine (shown_c f.F[k].c _ w3 (hE.ext (x0.trans (hu.trans x13))) (hsk.ext x13) hvk).use ?_
        rintro r w4 ⟨rfl, h4'⟩
        have E4 := h3'.trans h4'
        simp -dsimp -implicitDefEqProofs only [E4, a3, a4, h17, h16, h15, h3, hw, m11, sF11, Nat.reduceEqDiff, ↓reduceIte, Nat.reduceAdd, Nat.reduceMul, Value.cells, Value.oneCell', eq_self, ne_eq, Int.reduceToNat, Int.reduceEq, Int.reduceLT, Int.reduceLE, Int.reduceNeg, if_true, if_false, reduceCtorEq, Nat.reduceSub, storeV_ptr, slcV_slice, ↓mwD, mwU]
        exact ⟨⟨k + 1, by omega, rfl, by rw [fin], hu.trans (x13.trans h4')⟩, by simp only [intOf, H17]; omega⟩
      · refine (shown_c f.F[k].c _ w3 (hE.ext (x0.trans (hu.trans x13))) (hsk.ext x13) hvk).use ?_
        rintro r w4 ⟨rfl, h4'⟩
        have E4 := h3'.trans h4'
        have g4 := h4'.cell g3
        simp -dsimp -implicitDefEqProofs only [E4, g4, a1, a2, a3, a4, h17, h16, h15, h3, hw, m11, sF11, Nat.reduceEqDiff, ↓reduceIte, Nat.reduceAdd, Nat.reduceMul, Value.cells, Value.oneCell', eq_self, ne_eq, Int.reduceToNat, Int.reduceEq, Int.reduceLT, Int.reduceLE, Int.reduceNeg, if_true, if_false, reduceCtorEq, Nat.reduceSub, storeV_ptr, slcV_slice, ↓mwD, mwU]
        exact ⟨⟨k + 1, by omega, rfl, by rw [fin], hu.trans (x13.trans h4')⟩, by simp only [intOf, H17]; omega⟩
    · have hkl : k = f.F.length := by omega
      rw [hkl, List.take_length] at h3
      simp -dsimp -implicitDefEqProofs only [h17, h16, h15, h3, m11, sF11, Nat.reduceEqDiff, ↓reduceIte, Nat.reduceAdd, Nat.reduceMul, Value.cells, Value.oneCell', eq_self, ne_eq, Int.reduceToNat, Int.reduceEq, Int.reduceLT, Int.reduceLE, Int.reduceNeg, if_true, if_false, reduceCtorEq, Nat.reduceSub, storeV_ptr, slcV_slice, ↓mwD, mwU]
      exact x0.trans hu
end Go.Proofs.YthcdnjbhhaonhaaGreatDoor

/- own, unit, New, Run, Level. -/
import Derived.Test.YtefcfnmmpnjjjaaGreatDoorQbEffI
namespace Go.Proofs.YtefcfnmmpnjjjaaGreatDoor
open Go.RowKit
set_option linter.unusedSimpArgs false

theorem ow_sl {w : World} {base : Nat} {v : Value} {n : Nat} {xs : List Int} (h : w.ownsRow base 3 1 v n (ints xs)) : SlI w v xs := Own.sl h

/-- A copy of an effect. -/
theorem own_c (k : Int) (a t : Value) (A T : List Int) (w : World) (hA : SlI w a A) (hT : SlI w t T) (lA : A.length ≤ 1099511627776) (lT : T.length ≤ 1099511627776) :
    Rets Go.Proofs.Tryz.prog 75 #[.agg #[.int .i64 k, a, t]] w fun v w' => ∃ a' t', v = .agg #[.int .i64 k, a', t'] ∧ SlI w' a' A ∧ SlI w' t' T ∧ Ext w w' ∧ (∀ q, a'.ownBlock = some q → w.heap.size ≤ q) ∧ ∀ q, t'.ownBlock = some q → w.heap.size ≤ q := by
  obtain ⟨pa, ca, rfl, _, _⟩ := hA.shape
  obtain ⟨pt, ct, rfl, _, _⟩ := hT.shape
  refine en75 ?_
  simp -dsimp -implicitDefEqProofs only [m75, sF75, Nat.reduceEqDiff, ↓reduceIte, Nat.reduceAdd, Nat.reduceMul, Value.cells, Value.oneCell', eq_self, ne_eq, Int.reduceToNat, Int.reduceEq, Int.reduceLT, Int.reduceLE, Int.reduceNeg, if_true, if_false, reduceCtorEq, Nat.reduceSub, storeV_ptr, slcV_slice, ↓mwD, mwU]
  generalize hW : World.alloc (World.alloc w _) _ = W
  have he : Ext w W := by rw [← hW]; exact (Ext.alloc _ _).alloc' _
  have hb1 : Bk W w.heap.size [.int .i64 k, .slice pa A.length ca, .slice pt T.length ct] 24 := by rw [← hW]; exact (Bk.new _ _ _).ext (Ext.alloc _ _)
  have hb2 : Bk W (w.alloc (.cells #[.int .i64 k, .slice pa A.length ca, .slice pt T.length ct] 24)).heap.size [.int .i64 0, .slice none 0 0, .slice none 0 0] 24 := by rw [← hW]; exact Bk.new _ _ _
  have hne : w.heap.size ≠ (w.alloc (.cells #[.int .i64 k, .slice pa A.length ca, .slice pt T.length ct] 24)).heap.size := by simp
  have hle : w.heap.size ≤ (w.alloc (.cells #[.int .i64 k, .slice pa A.length ca, .slice pt T.length ct] 24)).heap.size := by simp
  generalize (w.alloc (.cells #[.int .i64 k, .slice pa A.length ca, .slice pt T.length ct] 24)).heap.size = B2 at *
  generalize hB1 : w.heap.size = B1 at *
  have c1 := hb1.get (o := 1) rfl
  have c2 := hb1.get (o := 2) rfl
  have hA' : SlI W.drew _ A := hA.ext (he.trans (Ext.drew _))
  have hT' : SlI W.drew _ T := hT.ext (he.trans (Ext.drew _))
  refine mwpB_drawE ?_
  simp -dsimp -implicitDefEqProofs only [c1, c2, m75, sF75, Nat.reduceEqDiff, ↓reduceIte, Nat.reduceAdd, Nat.reduceMul, Value.cells, Value.oneCell', eq_self, ne_eq, Int.reduceToNat, Int.reduceEq, Int.reduceLT, Int.reduceLE, Int.reduceNeg, if_true, if_false, reduceCtorEq, Nat.reduceSub, storeV_ptr, slcV_slice, ↓mwD, mwU]
  refine (CloneI_c _ A W.drew hA' lA).use ?_
  rintro v1 w1 ⟨he1, ho1⟩
  simp -dsimp -implicitDefEqProofs only [c1, c2, m75, sF75, Nat.reduceEqDiff, ↓reduceIte, Nat.reduceAdd, Nat.reduceMul, Value.cells, Value.oneCell', eq_self, ne_eq, Int.reduceToNat, Int.reduceEq, Int.reduceLT, Int.reduceLE, Int.reduceNeg, if_true, if_false, reduceCtorEq, Nat.reduceSub, storeV_ptr, slcV_slice, ↓mwD, mwU]
  refine ⟨he1, (CloneI_c _ T w1 (hT'.ext he1) lT).use ?_⟩
  rintro v2 w2 ⟨he2, ho2⟩
  obtain ⟨p1, n1, rfl, _, _⟩ := (ow_sl ho1).shape
  obtain ⟨p2, n2, rfl, _, _⟩ := (ow_sl ho2).shape
  have hE : Ext W w2 := (Ext.drew W).trans (he1.trans he2)
  have k1 := hb1.ext hE
  have k2 := k1.set 1 (.slice p1 A.length n1)
  have k3 := k2.set 2 (.slice p2 T.length n2)
  have m3 := ((hb2.ext hE).ne hne 1 (.slice p1 A.length n1)).ne hne 2 (.slice p2 T.length n2)
  have g0 := k1.get (o := 1) rfl
  have g1 := k2.get (o := 2) rfl
  have g2 := k3.get (o := 0) rfl
  have g3 := k3.get (o := 1) rfl
  have g4 := k3.get (o := 2) rfl
  obtain ⟨w5, hs, hb5, hf5⟩ := storeV_bk (P := Go.Proofs.Tryz.prog) (t := 24) (v := .agg #[.int .i64 k, .slice p1 A.length n1, .slice p2 T.length n2]) 0 m3 tok_24 (by rw [tsz_24]; rfl) (by simp [Value.cells, Value.oneCell']) (by simp [Value.cells])
  have d0 := hb5.get (o := 0) rfl
  have d1 := hb5.get (o := 1) rfl
  have d2 := hb5.get (o := 2) rfl
  refine ⟨he1.trans he2, ?_⟩
  simp -dsimp -implicitDefEqProofs only [g0, g1, k1.frozen, k2.frozen, and_self, m75, sF75, Nat.reduceEqDiff, ↓reduceIte, Nat.reduceAdd, Nat.reduceMul, Value.cells, Value.oneCell', eq_self, ne_eq, Int.reduceToNat, Int.reduceEq, Int.reduceLT, Int.reduceLE, Int.reduceNeg, if_true, if_false, reduceCtorEq, Nat.reduceSub, storeV_ptr, slcV_slice, ↓mwD, mwU]
  simp -dsimp -implicitDefEqProofs only [g2, g3, g4, hs, d0, d1, d2, m75, sF75, Nat.reduceEqDiff, ↓reduceIte, Nat.reduceAdd, Nat.reduceMul, Value.cells, Value.oneCell', eq_self, ne_eq, Int.reduceToNat, Int.reduceEq, Int.reduceLT, Int.reduceLE, Int.reduceNeg, if_true, if_false, reduceCtorEq, Nat.reduceSub, slcV_slice, ↓mwD, mwU]
  have hfr : Fr [B1, B2] w2 w5 := (((Fr.refl _ _).setCell (by simp) _).setCell (by simp) _).trans (hf5.mono (by simp))
  have l1 := hb1.lt
  have l2 := hb2.lt
  refine ⟨_, _, rfl, Sl.fr (Sl.ext (ow_sl ho1) he2) hfr ?_, Sl.fr (ow_sl ho2) hfr ?_, hfr.ext (he.trans hE) ?_, fun q hq => ?_, fun q hq => ?_⟩
  · intro q hq
    have := (World.ownsRow.lt ho1 q hq).1
    have e : W.drew.heap.size = W.heap.size := rfl
    simp only [List.mem_cons, List.not_mem_nil, or_false]
    omega
  · intro q hq
    have := (World.ownsRow.lt ho2 q hq).1
    have e : W.drew.heap.size = W.heap.size := rfl
    have := he1.le
    simp only [List.mem_cons, List.not_mem_nil, or_false]
    omega
  · simp only [List.mem_cons, List.not_mem_nil, or_false, forall_eq_or_imp, forall_eq]
    omega
  · have := (World.ownsRow.lt ho1 q hq).1
    have e : W.drew.heap.size = W.heap.size := rfl
    have := he.le
    omega
  · have := (World.ownsRow.lt ho2 q hq).1
    have e : W.drew.heap.size = W.heap.size := rfl
    have := he1.le
    have := he.le
    omega

/-- A unit in memory. -/
def UnitAt (w : World) (v : Value) (F : List Nat) (s : US) (k : Int) (A T : List Int) : Prop :=
  ∃ b cs wk a t, v = .pointer (some ⟨b, 0, none⟩) ∧ Bk w b cs 80 ∧ b ∉ F ∧ cs[0]? = some wk ∧ cs[1]? = some (.int .i64 k) ∧ cs[2]? = some a ∧ cs[3]? = some t ∧ WorkAt w wk F s ∧ SlI w a A ∧ SlI w t T ∧ (A ≠ [] → ∀ q, a.ownBlock = some q → q ∉ F) ∧ (T ≠ [] → ∀ q, t.ownBlock = some q → q ∉ F)

theorem WorkAt.ext {w w' : World} {v : Value} {F : List Nat} {s : US} (h : WorkAt w v F s) (he : Ext w w') : WorkAt w' v F s := by
  cases s with
  | gain g => obtain ⟨b, h1, h2, h3⟩ := h; exact ⟨b, h1, h2, h3.ext he⟩
  | delay l => obtain ⟨b, r, cs, h1, h2, h3⟩ := h; exact ⟨b, r, cs, h1, h2, h3.ext he⟩
  | echo l g => obtain ⟨b, r, cs, h1, h2, h3, h4⟩ := h; exact ⟨b, r, cs, h1, h2, h3.ext he, h4⟩
  | filter l T => obtain ⟨b, r, q, cs, o, cap, h1, h2, h3, h4, h5, h6⟩ := h; exact ⟨b, r, q, cs, o, cap, h1, h2, h3.ext he, h4, h5.ext he, h6⟩
  | press th ra at_ re lev => obtain ⟨b, cs, h1, h2, h3, h4⟩ := h; exact ⟨b, cs, h1, h2, h3.ext he, h4⟩
  | gate th hold s => obtain ⟨b, h1, h2, h3⟩ := h; exact ⟨b, h1, h2, h3.ext he⟩
  | look th ra at_ re lev l => obtain ⟨b, r, cs, h1, h2, h3, h4⟩ := h; exact ⟨b, r, cs, h1, h2, h3.ext he, h4⟩

theorem WorkAt.lt {w : World} {v : Value} {F : List Nat} {s : US} (h : WorkAt w v F s) : ∀ b ∈ F, b < w.heap.size := by
  have hh : ∀ {b o r : Nat} {l : List Int} {cs : List Value} {t : TypeId}, Hist w b o r l cs t → ∀ x ∈ [b, r], x < w.heap.size := by
    intro b o r l cs t h x hx
    simp only [List.mem_cons, List.not_mem_nil, or_false] at hx
    rcases hx with rfl | rfl
    · exact h.bk.lt
    · exact h.lt
  have h1 : ∀ {b : Nat} {cs : List Value} {t : TypeId}, Bk w b cs t → ∀ x ∈ [b], x < w.heap.size := by
    rintro b cs t h x hx
    simp only [List.mem_cons, List.not_mem_nil, or_false] at hx
    rw [hx]; exact h.lt
  cases s with
  | gain g => obtain ⟨b, _, rfl, h3⟩ := h; exact h1 h3
  | delay l => obtain ⟨b, r, cs, _, rfl, h3⟩ := h; exact hh h3
  | echo l g => obtain ⟨b, r, cs, _, rfl, h3, h4⟩ := h; exact hh h3
  | filter l T =>
    obtain ⟨b, r, q, cs, o, cap, _, rfl, h3, h4, h5, h6⟩ := h
    intro x hx
    by_cases hq : x = q
    · subst hq
      obtain ⟨b', o', c', hv, _, _, hc⟩ := h5.at h6.2.2
      simp only [Value.slice.injEq, Option.some.injEq, Addr.mk.injEq] at hv
      rw [hv.1.1]
      exact World.block_lt_of_cell? w _ (hc 0 (List.length_pos_iff.2 h6.2.2))
    · exact hh h3 x (by simpa [hq] using hx)
  | press th ra at_ re lev => obtain ⟨b, cs, _, rfl, h3, h4⟩ := h; exact h1 h3
  | gate th hold s => obtain ⟨b, _, rfl, h3⟩ := h; exact h1 h3
  | look th ra at_ re lev l => obtain ⟨b, r, cs, _, rfl, h3, h4⟩ := h; exact hh h3

theorem WorkAt.iface {w : World} {v : Value} {F : List Nat} {s : US} (h : WorkAt w v F s) : ∃ t p, v = .iface t (.pointer p) := by
  cases s with
  | gain g => obtain ⟨b, rfl, _⟩ := h; exact ⟨_, _, rfl⟩
  | delay l => obtain ⟨b, r, cs, rfl, _⟩ := h; exact ⟨_, _, rfl⟩
  | echo l g => obtain ⟨b, r, cs, rfl, _⟩ := h; exact ⟨_, _, rfl⟩
  | filter l T => obtain ⟨b, r, q, cs, o, cap, rfl, _⟩ := h; exact ⟨_, _, rfl⟩
  | press th ra at_ re lev => obtain ⟨b, cs, rfl, _⟩ := h; exact ⟨_, _, rfl⟩
  | gate th hold s => obtain ⟨b, rfl, _⟩ := h; exact ⟨_, _, rfl⟩
  | look th ra at_ re lev l => obtain ⟨b, r, cs, rfl, _⟩ := h; exact ⟨_, _, rfl⟩

theorem bv_unit (u : TypeId) (p pa pt : Option Addr) (k : Int) (n c m d : Nat) : buildV Go.Proofs.Tryz.prog 80 [(0, .iface u (.pointer p)), (1, .agg #[.int .i64 k, .slice pa n c, .slice pt m d])] = some (.agg #[.iface u (.pointer p), .int .i64 k, .slice pa n c, .slice pt m d]) := by kernel_rfl

theorem shape_len {k : Int} {A T : List Int} (h : VShape k A T) : A.length ≤ 5 ∧ T.length ≤ 512 := by
  cases h with
  | filter _ hT => exact ⟨by simp, (taps_len hT).2⟩
  | _ => simp

theorem unit_c (k : Int) (a t : Value) (A T : List Int) (w : World) (hs : VShape k A T) (hA : SlI w a A) (hT : SlI w t T) :
    Rets Go.Proofs.Tryz.prog 36 #[.agg #[.int .i64 k, a, t]] w fun v w' => ∃ F, UnitAt w' v F (initU k A T) k A T ∧ Ext w w' ∧ (∀ b ∈ F, w.heap.size ≤ b) := by
  obtain ⟨pa, ca, rfl, _, _⟩ := hA.shape
  obtain ⟨pt, ct, rfl, _, _⟩ := hT.shape
  refine en36 ?_
  simp -dsimp -implicitDefEqProofs only [m36, sF36, Nat.reduceEqDiff, ↓reduceIte, Nat.reduceAdd, Nat.reduceMul, Value.cells, Value.oneCell', eq_self, ne_eq, Int.reduceToNat, Int.reduceEq, Int.reduceLT, Int.reduceLE, Int.reduceNeg, if_true, if_false, reduceCtorEq, Nat.reduceSub, storeV_ptr, slcV_slice, ↓mwD, mwU]
  refine mwpB_drawE ?_
  simp -dsimp -implicitDefEqProofs only [m36, sF36, Nat.reduceEqDiff, ↓reduceIte, Nat.reduceAdd, Nat.reduceMul, Value.cells, Value.oneCell', eq_self, ne_eq, Int.reduceToNat, Int.reduceEq, Int.reduceLT, Int.reduceLE, Int.reduceNeg, if_true, if_false, reduceCtorEq, Nat.reduceSub, storeV_ptr, slcV_slice, ↓mwD, mwU]
  generalize hW : (World.alloc w _).drew = W
  have he : Ext w W := by rw [← hW]; exact (Ext.alloc _ _).drew'
  refine (begun_c k _ _ A T W hs (hA.ext he) (hT.ext he)).use ?_
  rintro v w1 ⟨F, hwk, he1, hF⟩
  obtain ⟨u, p, rfl⟩ := hwk.iface
  have hl := shape_len hs
  have hlt := hwk.lt
  simp -dsimp -implicitDefEqProofs only [m36, sF36, Nat.reduceEqDiff, ↓reduceIte, Nat.reduceAdd, Nat.reduceMul, Value.cells, Value.oneCell', eq_self, ne_eq, Int.reduceToNat, Int.reduceEq, Int.reduceLT, Int.reduceLE, Int.reduceNeg, if_true, if_false, reduceCtorEq, Nat.reduceSub, storeV_ptr, slcV_slice, ↓mwD, mwU]
  refine ⟨he1, (own_c k _ _ A T w1 (hA.ext (he.trans he1)) (hT.ext (he.trans he1)) (by omega) (by omega)).use ?_⟩
  rintro v w2 ⟨a', t', rfl, hA2, hT2, he2, na, nt⟩
  obtain ⟨p1, n1, rfl, _, _⟩ := hA2.shape
  obtain ⟨p2, n2, rfl, _, _⟩ := hT2.shape
  simp -dsimp -implicitDefEqProofs only [bv_unit, m36, sF36, Nat.reduceEqDiff, ↓reduceIte, Nat.reduceAdd, Nat.reduceMul, Value.cells, Value.oneCell', eq_self, ne_eq, Int.reduceToNat, Int.reduceEq, Int.reduceLT, Int.reduceLE, Int.reduceNeg, if_true, if_false, reduceCtorEq, Nat.reduceSub, storeV_ptr, slcV_slice, ↓mwD, mwU]
  refine ⟨he1.trans he2, (he1.trans he2).alloc' _, F, ⟨w2.heap.size, _, _, _, _, rfl, Bk.new _ _ _, ?_, rfl, rfl, rfl, rfl, (hwk.ext he2).ext (Ext.alloc _ _), hA2.ext (Ext.alloc _ _), hT2.ext (Ext.alloc _ _), ?_, ?_⟩, ((he.trans he1).trans he2).alloc' _, fun b hb => Nat.le_trans he.le (hF b hb)⟩
  · intro hb; have := hlt _ hb; have := he2.le; omega
  · intro _ q hq hb; have := hlt q hb; have := na q hq; omega
  · intro _ q hq hb; have := hlt q hb; have := nt q hq; omega

/-- At most the blocks of F have turned; new memory may have come. -/
structure Ch (F : List Nat) (w w' : World) : Prop where
  os : w'.os = w.os
  tape : w'.tape = w.tape
  output : w'.output = w.output
  size : w.heap.size ≤ w'.heap.size
  block : ∀ k, k < w.heap.size → k ∉ F → w'.heap[k]? = w.heap[k]?

theorem Ch.refl (F : List Nat) (w : World) : Ch F w w := ⟨rfl, rfl, rfl, Nat.le_refl _, fun _ _ _ => rfl⟩
theorem Ch.trans {F : List Nat} {a b c : World} (h : Ch F a b) (k : Ch F b c) : Ch F a c :=
  ⟨k.os.trans h.os, k.tape.trans h.tape, k.output.trans h.output, Nat.le_trans h.size k.size, fun i hi hf => (k.block i (Nat.lt_of_lt_of_le hi h.size) hf).trans (h.block i hi hf)⟩
theorem Fr.ch {F : List Nat} {w w' : World} (h : Fr F w w') : Ch F w w' := ⟨h.os, h.tape, h.output, Nat.le_of_eq h.size.symm, fun k _ hk => h.block k hk⟩
theorem Ext.ch {F : List Nat} {w w' : World} (h : Ext w w') : Ch F w w' := ⟨h.os, h.tape, h.output, h.size, fun k hk _ => h.block k hk⟩
theorem Ch.ext {F : List Nat} {w0 w w' : World} (h : Ch F w w') (he : Ext w0 w) (hF : ∀ b ∈ F, w0.heap.size ≤ b) : Ext w0 w' :=
  Below.trans he ⟨h.os, h.tape, h.output, h.size, fun k hk => h.block k (Nat.lt_of_lt_of_le hk he.le) (fun hf => by have := hF k hf; omega)⟩
theorem Ch.nil {w w' : World} (h : Ch [] w w') : Ext w w' := ⟨h.os, h.tape, h.output, h.size, fun k hk => h.block k hk (by simp)⟩
theorem Ch.bk {F : List Nat} {w w' : World} {b : Nat} {cs : List Value} {t : TypeId} (h : Ch F w w') (hb : b ∉ F) (hk : Bk w b cs t) : Bk w' b cs t := by
  have hl := hk.lt
  unfold Bk at hk ⊢; rw [h.block b hl hb]; exact hk
theorem Ch.cell {F : List Nat} {w w' : World} (h : Ch F w w') {a : Addr} (hb : a.block ∉ F) {v : Value} (hc : w.cell? a = some v) : w'.cell? a = some v := by
  rw [World.cell?_of_block (w := w) (h.block a.block (World.block_lt_of_cell? w a hc) hb)]; exact hc
theorem Sl.ch {w w' : World} {v : Value} {cs : List Value} {F : List Nat} (h : Sl w v cs) (hf : Ch F w w') (hp : ∀ p, v.ownBlock = some p → p ∉ F) : Sl w' v cs := by
  rcases h with h | ⟨b, o, cap, rfl, h2, h3, h4⟩
  · exact .inl h
  · exact .inr ⟨b, o, cap, rfl, h2, h3, fun k u hk => hf.cell (hp b rfl) (h4 k u hk)⟩

theorem ints_ch {w w' : World} {v : Value} {xs : List Int} {F : List Nat} (h : SlI w v xs) (hf : Ch F w w') (hp : xs ≠ [] → ∀ p, v.ownBlock = some p → p ∉ F) : SlI w' v xs := by
  rcases h with h | ⟨b, o, cap, rfl, h2, h3, h4⟩
  · exact .inl h
  · refine .inr ⟨b, o, cap, rfl, h2, h3, fun k u hk => hf.cell (hp (by rintro rfl; simp [ints] at hk) b rfl) (h4 k u hk)⟩

/-- Only a unit's own blocks tell what it is. -/
theorem WorkAt.same {w w' : World} {v : Value} {F : List Nat} {s : US} (h : WorkAt w v F s) (hs : ∀ b ∈ F, w'.heap[b]? = w.heap[b]?) : WorkAt w' v F s := by
  have bk : ∀ {b : Nat} {cs : List Value} {t : TypeId}, Bk w b cs t → b ∈ F → Bk w' b cs t := by
    intro b cs t h hb; unfold Bk at h ⊢; rw [hs b hb]; exact h
  have hi : ∀ {b o r : Nat} {l : List Int} {cs : List Value} {t : TypeId}, Hist w b o r l cs t → b ∈ F → r ∈ F → Hist w' b o r l cs t := by
    intro b o r l cs t h hb hr
    exact h.of (bk h.bk hb) rfl rfl fun _ => hs r hr
  cases s with
  | gain g => obtain ⟨b, h1, rfl, h3⟩ := h; exact ⟨b, h1, rfl, bk h3 (by simp)⟩
  | delay l => obtain ⟨b, r, cs, h1, rfl, h3⟩ := h; exact ⟨b, r, cs, h1, rfl, hi h3 (by simp) (by simp)⟩
  | echo l g => obtain ⟨b, r, cs, h1, rfl, h3, h4⟩ := h; exact ⟨b, r, cs, h1, rfl, hi h3 (by simp) (by simp), h4⟩
  | filter l T =>
    obtain ⟨b, r, q, cs, o, cap, h1, rfl, h3, h4, h5, h6⟩ := h
    refine ⟨b, r, q, cs, o, cap, h1, rfl, hi h3 (by simp) (by simp), h4, ?_, h6⟩
    rcases h5 with ⟨h5, _⟩ | ⟨b', o', c', e, h7, h8, h9⟩
    · cases h5
    · refine .inr ⟨b', o', c', e, h7, h8, fun k u hk => ?_⟩
      have hb : b' = q := by simp only [Value.slice.injEq, Option.some.injEq, Addr.mk.injEq] at e; exact e.1.1.symm
      rw [World.cell?_of_block (w := w) (by rw [hs b' (by simp [hb])])]
      exact h9 k u hk
  | press th ra at_ re lev => obtain ⟨b, cs, h1, rfl, h3, h4⟩ := h; exact ⟨b, cs, h1, rfl, bk h3 (by simp), h4⟩
  | gate th hold s => obtain ⟨b, h1, rfl, h3⟩ := h; exact ⟨b, h1, rfl, bk h3 (by simp)⟩
  | look th ra at_ re lev l => obtain ⟨b, r, cs, h1, rfl, h3, h4⟩ := h; exact ⟨b, r, cs, h1, rfl, hi h3 (by simp) (by simp), h4⟩

/-- One step, whatever unit it is. -/
theorem step_any {w : World} {v : Value} {F : List Nat} {s : US} {x : Int} (h : WorkAt w v F s) (hs : s.ok) (hx : Smp x) :
    ∃ t p f, v = .iface t p ∧ methB Go.Proofs.Tryz.prog t "continuo/effect.step" = some f ∧ okF Go.Proofs.Tryz.prog f = true ∧ Rets Go.Proofs.Tryz.prog f #[p, .int .i64 x] w (StepR v F s x w) := by
  cases s with
  | gain g => obtain ⟨p, h1, h2⟩ := step_gain h hs hx; exact ⟨_, p, _, h1, meth_146_continuo_effect_step, okF_187, h2⟩
  | delay l => obtain ⟨p, h1, h2⟩ := step_delay (x := x) h; exact ⟨_, p, _, h1, meth_150_continuo_effect_step, okF_190, h2⟩
  | echo l g => obtain ⟨p, h1, h2⟩ := step_echo h hs hx; exact ⟨_, p, _, h1, meth_154_continuo_effect_step, okF_193, h2⟩
  | filter l T => obtain ⟨p, h1, h2⟩ := step_filter h hs hx; exact ⟨_, p, _, h1, meth_157_continuo_effect_step, okF_196, h2⟩
  | press th ra at_ re lev => obtain ⟨p, h1, h2⟩ := step_press h hs hx; exact ⟨_, p, _, h1, meth_96_continuo_effect_step, okF_180, h2⟩
  | gate th hold since => obtain ⟨p, h1, h2⟩ := step_gate h hs hx; exact ⟨_, p, _, h1, meth_161_continuo_effect_step, okF_199, h2⟩
  | look th ra at_ re lev l => obtain ⟨p, h1, h2⟩ := step_look h hs hx; exact ⟨_, p, _, h1, meth_101_continuo_effect_step, okF_184, h2⟩

/-- Samples through a unit. -/
def runU : US → List Int → US × List Int
  | s, [] => (s, [])
  | s, x :: L => ((runU (stepU s x).1 L).1, (stepU s x).2 :: (runU (stepU s x).1 L).2)
theorem runU_snoc : ∀ (L : List Int) (s : US) (x : Int), runU s (L ++ [x]) = ((stepU (runU s L).1 x).1, (runU s L).2 ++ [(stepU (runU s L).1 x).2])
  | [], s, x => rfl
  | y :: L, s, x => by simp [runU, runU_snoc L]
theorem runU_length : ∀ (L : List Int) (s : US), (runU s L).2.length = L.length
  | [], s => rfl
  | y :: L, s => by simp [runU, runU_length L]
theorem runU_ok : ∀ (L : List Int) (s : US), s.ok → Smps L → (runU s L).1.ok ∧ Smps (runU s L).2
  | [], s, h, _ => ⟨h, fun x hx => by cases hx⟩
  | y :: L, s, h, hL => by
    have h1 := stepU_ok h (hL y (by simp))
    have h2 := runU_ok L _ h1.1 (fun z hz => hL z (by simp [hz]))
    refine ⟨h2.1, fun z hz => ?_⟩
    rcases List.mem_cons.1 hz with rfl | hz
    · exact h1.2
    · exact h2.2 z hz

theorem initU_ok {k : Int} {A T : List Int} (h : VShape k A T) : (initU k A T).ok := by
  have z : ∀ n, Smps (List.replicate n 0) := fun n x hx => by rw [(List.mem_replicate.1 hx).2]; exact smp_zero
  cases h with
  | gain a h => exact h
  | delay a h => exact ⟨z _, by simp; omega⟩
  | echo a b h h' => exact ⟨z _, by simp; omega, by simp; omega, h'⟩
  | filter _ h =>
    have hl := taps_len h
    refine ⟨z _, by simp; omega, hl.2, fun t ht => ?_⟩
    simp only [tapsB, Bool.and_eq_true, Bool.not_eq_true', List.any_eq_false] at h
    have := h.2 t ht
    simpa [wtn_iff] using this
  | press a b c d h0 h1 h2 h3 => exact ⟨h0.1, h0.2, h1.1, h1.2, h2.1, h2.2, h3.1, h3.2, by omega, by omega⟩
  | gate a b h0 h1 => exact ⟨h0.1, h0.2, h1.1, h1.2, by omega, by omega⟩
  | look a b c d e h0 h1 h2 h3 h4 => exact ⟨⟨h0.1, h0.2, h1.1, h1.2, h2.1, h2.2, h3.1, h3.2, by omega, by omega⟩, z _, by simp; omega⟩

end Go.Proofs.YtefcfnmmpnjjjaaGreatDoor

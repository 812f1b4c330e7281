/- Units beside other things: all their blocks from a place on. -/
import Derived.Test.YtefcfnmmpnjjjaaGreatDoorQbStE
import Derived.Test.YtefcfnmmpnjjjaaGreatDoorQbStJ
namespace Go.Proofs.YtefcfnmmpnjjjaaGreatDoor
open Go.RowKit
set_option linter.unusedSimpArgs false

/-- A unit, all its blocks from B on. -/
def UnitB (B : Nat) (w : World) (v : Value) (F : List Nat) (s : US) (k : Int) (A T : List Int) : Prop :=
  ∃ b cs wk a t, v = .pointer (some ⟨b, 0, none⟩) ∧ Bk w b cs 80 ∧ b ∉ F ∧ cs[0]? = some wk ∧ cs[1]? = some (.int .i64 k) ∧ cs[2]? = some a ∧ cs[3]? = some t ∧ WorkAt w wk F s ∧ SlI w a A ∧ SlI w t T ∧ (A ≠ [] → ∀ q, a.ownBlock = some q → q ∉ F) ∧ (T ≠ [] → ∀ q, t.ownBlock = some q → q ∉ F) ∧
    (A ≠ [] → ∀ q, a.ownBlock = some q → B ≤ q ∧ q ≠ b) ∧ (T ≠ [] → ∀ q, t.ownBlock = some q → B ≤ q ∧ q ≠ b) ∧ B ≤ b ∧ ∀ q ∈ F, B ≤ q
theorem UnitB.at {B : Nat} {w : World} {v : Value} {F : List Nat} {s : US} {k : Int} {A T : List Int} (h : UnitB B w v F s k A T) : UnitAt w v F s k A T := by
  obtain ⟨b, cs, wk, a, t, h1, h2, h3, h4, h5, h6, h7, h8, h9, h10, h11, h12, _⟩ := h
  exact ⟨b, cs, wk, a, t, h1, h2, h3, h4, h5, h6, h7, h8, h9, h10, h11, h12⟩
theorem UnitB.ge {B : Nat} {w : World} {v : Value} {F : List Nat} {s : US} {k : Int} {A T : List Int} (h : UnitB B w v F s k A T) : ∀ q ∈ F, B ≤ q := by
  obtain ⟨b, cs, wk, a, t, h1, h2, h3, h4, h5, h6, h7, h8, h9, h10, h11, h12, h13, h14, h15, h16⟩ := h
  exact h16
theorem UnitB.mono {B C : Nat} {w : World} {v : Value} {F : List Nat} {s : US} {k : Int} {A T : List Int} (h : UnitB B w v F s k A T) (hC : C ≤ B) : UnitB C w v F s k A T := by
  obtain ⟨b, cs, wk, a, t, h1, h2, h3, h4, h5, h6, h7, h8, h9, h10, h11, h12, h13, h14, h15, h16⟩ := h
  exact ⟨b, cs, wk, a, t, h1, h2, h3, h4, h5, h6, h7, h8, h9, h10, h11, h12, fun hne q hq => ⟨Nat.le_trans hC (h13 hne q hq).1, (h13 hne q hq).2⟩, fun hne q hq => ⟨Nat.le_trans hC (h14 hne q hq).1, (h14 hne q hq).2⟩, Nat.le_trans hC h15, fun q hq => Nat.le_trans hC (h16 q hq)⟩
theorem UnitB.same {B : Nat} {w w' : World} {v : Value} {F : List Nat} {s : US} {k : Int} {A T : List Int} (h : UnitB B w v F s k A T) (hs : ∀ q, B ≤ q → q < w.heap.size → w'.heap[q]? = w.heap[q]?) : UnitB B w' v F s k A T := by
  obtain ⟨b, cs, wk, a, t, h1, h2, h3, h4, h5, h6, h7, h8, h9, h10, h11, h12, h13, h14, h15, h16⟩ := h
  have hlt := h8.lt
  refine ⟨b, cs, wk, a, t, h1, ?_, h3, h4, h5, h6, h7, h8.same fun q hq => hs q (h16 q hq) (hlt q hq), ?_, ?_, h11, h12, h13, h14, h15, h16⟩
  · unfold Bk at h2 ⊢; rw [hs b h15 (Bk.lt h2)]; exact h2
  · refine Sl.same (G := fun q => B ≤ q ∧ q < w.heap.size) (cs := ints A) h9 (fun q hq => hs q hq.1 hq.2) fun hne q hq => ⟨(h13 (by simpa [ints] using hne) q hq).1, Sl.block h9 hne q hq⟩
  · refine Sl.same (G := fun q => B ≤ q ∧ q < w.heap.size) (cs := ints T) h10 (fun q hq => hs q hq.1 hq.2) fun hne q hq => ⟨(h14 (by simpa [ints] using hne) q hq).1, Sl.block h10 hne q hq⟩
theorem UnitB.ext {B : Nat} {w w' : World} {v : Value} {F : List Nat} {s : US} {k : Int} {A T : List Int} (h : UnitB B w v F s k A T) (he : Ext w w') : UnitB B w' v F s k A T := h.same fun q _ hq => he.block q hq
theorem Bk.uniq {w : World} {b : Nat} {cs cs' : List Value} {t : TypeId} (h : Bk w b cs t) (h' : Bk w b cs' t) : cs = cs' := by
  unfold Bk at h h'
  rw [h] at h'
  simpa using h'
/-- The unit behind something done with it. -/
theorem UnitB.next {B : Nat} {w w' : World} {v : Value} {F : List Nat} {s s' : US} {k : Int} {A T : List Int} (h : UnitB B w v F s k A T) (h' : UnitAt w' v F s' k A T) (hc : Ch F w w') : UnitB B w' v F s' k A T := by
  obtain ⟨b, cs, wk, a, t, rfl, h2, h3, h4, h5, h6, h7, h8, h9, h10, h11, h12, h13, h14, h15, h16⟩ := h
  obtain ⟨b', cs', wk', a', t', g1, g2, g3, g4, g5, g6, g7, g8, g9, g10, g11, g12⟩ := h'
  have hb : b = b' := by simpa using g1
  subst hb
  have hcs := Bk.uniq (hc.bk h3 h2) g2
  subst hcs
  rw [h6] at g6
  rw [h7] at g7
  cases g6
  cases g7
  exact ⟨b, cs, wk', a, t, rfl, g2, g3, g4, g5, h6, h7, g8, g9, g10, h11, h12, h13, h14, h15, h16⟩
theorem unitB_c (k : Int) (a t : Value) (A T : List Int) (w : World) (hs : VShape k A T) (hA : SlI w a A) (hT : SlI w t T) :
    Rets Go.Proofs.Tryz.prog 36 #[.agg #[.int .i64 k, a, t]] w fun v w' => ∃ F, UnitB w.heap.size w' v F (initU k A T) k A T ∧ Ext w w' := by
  obtain ⟨pa, ca, rfl, _, _⟩ := hA.shape
  obtain ⟨pt, ct, rfl, _, _⟩ := hT.shape
  refine en36 ?_
  simp -dsimp -implicitDefEqProofs only [m36, sF36, Nat.reduceEqDiff, ↓reduceIte, Nat.reduceAdd, Nat.reduceMul, Value.cells, Value.oneCell', eq_self, ne_eq, Int.reduceToNat, Int.reduceEq, Int.reduceLT, Int.reduceLE, Int.reduceNeg, if_true, if_false, reduceCtorEq, Nat.reduceSub, storeV_ptr, slcV_slice, ↓mwD, mwU]
  refine mwpB_drawE ?_
  simp -dsimp -implicitDefEqProofs only [m36, sF36, Nat.reduceEqDiff, ↓reduceIte, Nat.reduceAdd, Nat.reduceMul, Value.cells, Value.oneCell', eq_self, ne_eq, Int.reduceToNat, Int.reduceEq, Int.reduceLT, Int.reduceLE, Int.reduceNeg, if_true, if_false, reduceCtorEq, Nat.reduceSub, storeV_ptr, slcV_slice, ↓mwD, mwU]
  generalize hW : (World.alloc w _).drew = W
  have he : Ext w W := by rw [← hW]; exact (Ext.alloc _ _).drew'
  refine (begun_c k _ _ A T W hs (hA.ext he) (hT.ext he)).use ?_
  rintro v w1 ⟨F, hwk, he1, hF⟩
  obtain ⟨u, p, rfl⟩ := hwk.iface
  have hl := shape_len hs
  have hlt := hwk.lt
  simp -dsimp -implicitDefEqProofs only [m36, sF36, Nat.reduceEqDiff, ↓reduceIte, Nat.reduceAdd, Nat.reduceMul, Value.cells, Value.oneCell', eq_self, ne_eq, Int.reduceToNat, Int.reduceEq, Int.reduceLT, Int.reduceLE, Int.reduceNeg, if_true, if_false, reduceCtorEq, Nat.reduceSub, storeV_ptr, slcV_slice, ↓mwD, mwU]
  refine ⟨he1, (own_c k _ _ A T w1 (hA.ext (he.trans he1)) (hT.ext (he.trans he1)) (by omega) (by omega)).use ?_⟩
  rintro v w2 ⟨a', t', rfl, hA2, hT2, he2, na, nt⟩
  obtain ⟨p1, n1, rfl, _, _⟩ := hA2.shape
  obtain ⟨p2, n2, rfl, _, _⟩ := hT2.shape
  have hz := he.le
  have hz1 := he1.le
  have hz2 := he2.le
  simp -dsimp -implicitDefEqProofs only [bv_unit, m36, sF36, Nat.reduceEqDiff, ↓reduceIte, Nat.reduceAdd, Nat.reduceMul, Value.cells, Value.oneCell', eq_self, ne_eq, Int.reduceToNat, Int.reduceEq, Int.reduceLT, Int.reduceLE, Int.reduceNeg, if_true, if_false, reduceCtorEq, Nat.reduceSub, storeV_ptr, slcV_slice, ↓mwD, mwU]
  refine ⟨he1.trans he2, (he1.trans he2).alloc' _, F, ⟨w2.heap.size, _, _, _, _, rfl, Bk.new _ _ _, ?_, rfl, rfl, rfl, rfl, (hwk.ext he2).ext (Ext.alloc _ _), hA2.ext (Ext.alloc _ _), hT2.ext (Ext.alloc _ _), ?_, ?_, ?_, ?_, by omega, fun b hb => Nat.le_trans he.le (hF b hb)⟩, ((he.trans he1).trans he2).alloc' _⟩
  · intro hb; have := hlt _ hb; omega
  · intro _ q hq hb; have := hlt q hb; have := na q hq; omega
  · intro _ q hq hb; have := hlt q hb; have := nt q hq; omega
  · intro hn q hq; have := na q hq; have := Sl.block (cs := ints A) hA2 (by simpa [ints] using hn) q hq; omega
  · intro hn q hq; have := nt q hq; have := Sl.block (cs := ints T) hT2 (by simpa [ints] using hn) q hq; omega
theorem NewB_c (k : Int) (a t : Value) (A T : List Int) (w : World) (hA : SlI w a A) (hT : SlI w t T) :
    Rets Go.Proofs.Tryz.prog 9 #[.agg #[.int .i64 k, a, t]] w fun r w' => Ext w w' ∧ if validB k A T = true then ∃ v F, r = .tuple #[v, .int .i64 0] ∧ UnitB w.heap.size w' v F (initU k A T) k A T else r = .tuple #[.pointer none, .int .i64 1] := by
  obtain ⟨pa, ca, rfl, _, _⟩ := hA.shape
  obtain ⟨pt, ct, rfl, _, _⟩ := hT.shape
  have hx : Ext w (w.alloc (.cells #[.int .i64 k, .slice pa A.length ca, .slice pt T.length ct] 24)) := Ext.alloc _ _
  refine en9 ?_
  simp -dsimp -implicitDefEqProofs only [m9, sF9, Nat.reduceEqDiff, ↓reduceIte, Nat.reduceAdd, Nat.reduceMul, Value.cells, Value.oneCell', eq_self, ne_eq, Int.reduceToNat, Int.reduceEq, Int.reduceLT, Int.reduceLE, Int.reduceNeg, if_true, if_false, reduceCtorEq, Nat.reduceSub, storeV_ptr, slcV_slice, ↓mwD, mwU]
  refine (Valid_c k _ _ A T _ (hA.ext hx) (hT.ext hx)).use ?_
  rintro r w1 ⟨rfl, he⟩
  have b0 := box_cell he (j := 0) rfl
  have b1 := box_cell he (j := 1) rfl
  have b2 := box_cell he (j := 2) rfl
  cases hv : validB k A T
  · simp -dsimp -implicitDefEqProofs only [m9, sF9, Nat.reduceEqDiff, ↓reduceIte, Nat.reduceAdd, Nat.reduceMul, Value.cells, Value.oneCell', eq_self, ne_eq, Int.reduceToNat, Int.reduceEq, Int.reduceLT, Int.reduceLE, Int.reduceNeg, if_true, if_false, reduceCtorEq, Nat.reduceSub, storeV_ptr, slcV_slice, ↓mwD, mwU]
    exact hx.trans he
  · simp -dsimp -implicitDefEqProofs only [b0, b1, b2, m9, sF9, Nat.reduceEqDiff, ↓reduceIte, Nat.reduceAdd, Nat.reduceMul, Value.cells, Value.oneCell', eq_self, ne_eq, Int.reduceToNat, Int.reduceEq, Int.reduceLT, Int.reduceLE, Int.reduceNeg, if_true, if_false, reduceCtorEq, Nat.reduceSub, storeV_ptr, slcV_slice, ↓mwD, mwU]
    refine (unitB_c k _ _ A T w1 (valid_shape hv) (hA.ext (hx.trans he)) (hT.ext (hx.trans he))).use ?_
    rintro r w2 ⟨F, h1, h2⟩
    simp -dsimp -implicitDefEqProofs only [m9, sF9, Nat.reduceEqDiff, ↓reduceIte, Nat.reduceAdd, Nat.reduceMul, Value.cells, Value.oneCell', eq_self, ne_eq, Int.reduceToNat, Int.reduceEq, Int.reduceLT, Int.reduceLE, Int.reduceNeg, if_true, if_false, reduceCtorEq, Nat.reduceSub, storeV_ptr, slcV_slice, ↓mwD, mwU]
    exact ⟨(hx.trans he).trans h2, _, F, rfl, h1.mono (hx.trans he).le⟩
/-- Reset begins anew. -/
theorem Reset_c {B : Nat} {w : World} {v : Value} {F : List Nat} {s : US} {k : Int} {A T : List Int} (hu : UnitB B w v F s k A T) (hs : VShape k A T) (hB : B ≤ w.heap.size) :
    Rets Go.Proofs.Tryz.prog 18 #[v] w fun r w' => r = .int .i64 0 ∧ ∃ F', UnitB B w' v F' (initU k A T) k A T ∧ Below B w w' := by
  obtain ⟨b, cs, wk, a, t, rfl, h2, h3, h4, h5, h6, h7, h8, h9, h10, h11, h12, h13, h14, h15, h16⟩ := hu
  obtain ⟨pa, ca, rfl, _, _⟩ := h9.shape
  obtain ⟨pt, ct, rfl, _, _⟩ := h10.shape
  have c1 := h2.get h5
  have c2 := h2.get h6
  have c3 := h2.get h7
  refine en18 ?_
  simp -dsimp -implicitDefEqProofs only [c1, c2, c3, m18, sF18, Nat.reduceEqDiff, ↓reduceIte, Nat.reduceAdd, Nat.reduceMul, Value.cells, Value.oneCell', eq_self, ne_eq, Int.reduceToNat, Int.reduceEq, Int.reduceLT, Int.reduceLE, Int.reduceNeg, if_true, if_false, reduceCtorEq, Nat.reduceSub, storeV_ptr, slcV_slice, ↓mwD, mwU]
  refine (begun_c k _ _ A T w hs h9 h10).use ?_
  rintro v w1 ⟨F', hwk, he, hF'⟩
  have hb1 := h2.ext he
  obtain ⟨u, p, rfl⟩ := hwk.iface
  have d0 := hb1.get h4
  have hfz := hb1.frozen 0
  have hbl := h2.lt
  have hb2 := hb1.set 0 (.iface u (.pointer p))
  have hl := (List.getElem?_eq_some_iff.1 h4).1
  simp -dsimp -implicitDefEqProofs only [d0, hfz, and_self, m18, sF18, Nat.reduceEqDiff, ↓reduceIte, Nat.reduceAdd, Nat.reduceMul, Value.cells, Value.oneCell', eq_self, ne_eq, Int.reduceToNat, Int.reduceEq, Int.reduceLT, Int.reduceLE, Int.reduceNeg, if_true, if_false, reduceCtorEq, Nat.reduceSub, storeV_ptr, slcV_slice, ↓mwD, mwU]
  have hk1 : WorkAt (w1.setCell ⟨b, 0, none⟩ (.iface u (.pointer p))) (.iface u (.pointer p)) F' (initU k A T) := hwk.same fun q hq => Below.heap_setCell _ _ _ _ (fun e => by have := hF' q hq; have e' : q = b := e; omega)
  have hne : ∀ q, q < w.heap.size → q ∉ F' := fun q hq hm => by have := hF' q hm; omega
  have same : Same (fun q => q < w.heap.size ∧ q ≠ b) w (w1.setCell ⟨b, 0, none⟩ (.iface u (.pointer p))) := fun q hq => (Below.heap_setCell _ _ _ _ (fun e => hq.2 e)).trans (he.block q hq.1)
  have hA0 : A ≠ [] → ∀ q, (Value.slice pa A.length ca).ownBlock = some q → q < w.heap.size := fun hne q hq => Sl.block (cs := ints A) h9 (by simpa [ints] using hne) q hq
  have hT0 : T ≠ [] → ∀ q, (Value.slice pt T.length ct).ownBlock = some q → q < w.heap.size := fun hne q hq => Sl.block (cs := ints T) h10 (by simpa [ints] using hne) q hq
  have hAb : A ≠ [] → ∀ q, (Value.slice pa A.length ca).ownBlock = some q → q ≠ b := fun hn q hq => (h13 hn q hq).2
  have hTb : T ≠ [] → ∀ q, (Value.slice pt T.length ct).ownBlock = some q → q ≠ b := fun hn q hq => (h14 hn q hq).2
  refine ⟨F', ⟨b, _, _, _, _, rfl, hb2, hne b hbl, List.getElem?_set_self hl, by rw [List.getElem?_set_ne (by omega)]; exact h5, by rw [List.getElem?_set_ne (by omega)]; exact h6, by rw [List.getElem?_set_ne (by omega)]; exact h7, hk1,
    Sl.same (cs := ints A) h9 same (fun hn q hq => ⟨hA0 (by simpa [ints] using hn) q hq, hAb (by simpa [ints] using hn) q hq⟩), Sl.same (cs := ints T) h10 same (fun hn q hq => ⟨hT0 (by simpa [ints] using hn) q hq, hTb (by simpa [ints] using hn) q hq⟩), fun hn q hq => hne q (hA0 hn q hq), fun hn q hq => hne q (hT0 hn q hq), h13, h14, h15, fun q hq => Nat.le_trans hB (hF' q hq)⟩, ?_⟩
  exact (Below.mono he hB).setCell h15 _
end Go.Proofs.YtefcfnmmpnjjjaaGreatDoor

/- Blocks of cells that turn; the histories: past, ago, push, kept. -/
import Derived.Test.YtefcfnmmpnjjjaaGreatDoorQbEffD
namespace Go.Proofs.YtefcfnmmpnjjjaaGreatDoor
open Go.RowKit
set_option linter.unusedSimpArgs false

/-- Block b holds these cells, nothing marked. -/
def Bk (w : World) (b : Nat) (cs : List Value) (t : TypeId) : Prop := w.heap[b]? = some (.cells cs.toArray t)

section
variable {w w' : World} {b b' o : Nat} {cs : List Value} {t : TypeId}
theorem Bk.lt (h : Bk w b cs t) : b < w.heap.size := (Array.getElem?_eq_some_iff.1 h).1
theorem Bk.cell (h : Bk w b cs t) (o : Nat) : w.cell? ⟨b, o, none⟩ = cs[o]? := by
  unfold Bk at h; simp [World.cell?, h]
theorem Bk.get (h : Bk w b cs t) {v : Value} (hv : cs[o]? = some v) : w.cell? ⟨b, o, none⟩ = some v := by rw [h.cell, hv]
theorem Bk.frozen (h : Bk w b cs t) (o : Nat) : w.frozen? ⟨b, o, none⟩ = false := by
  unfold Bk at h; simp [World.frozen?, h]
theorem Bk.set (h : Bk w b cs t) (o : Nat) (v : Value) : Bk (w.setCell ⟨b, o, none⟩ v) b (cs.set o v) t := by
  unfold Bk at h ⊢; simp [World.setCell, Array.getElem?_modify, h]
theorem Bk.ne (h : Bk w b cs t) (hne : b' ≠ b) (o : Nat) (v : Value) : Bk (w.setCell ⟨b', o, none⟩ v) b cs t := by
  unfold Bk at h ⊢; simp [World.setCell, Array.getElem?_modify, hne, h]
theorem Bk.drew (h : Bk w b cs t) : Bk w.drew b cs t := h
theorem Bk.new (w : World) (cs : List Value) (t : TypeId) : Bk (w.alloc (.cells cs.toArray t)) w.heap.size cs t := heap_alloc_new w _
theorem Bk.ext (h : Bk w b cs t) (he : Ext w w') : Bk w' b cs t := by
  unfold Bk at h ⊢; rw [he.block b (Bk.lt h)]; exact h
end

/-- Only the blocks of F have turned, and none has come. -/
structure Fr (F : List Nat) (w w' : World) : Prop where
  os : w'.os = w.os
  tape : w'.tape = w.tape
  output : w'.output = w.output
  size : w'.heap.size = w.heap.size
  block : ∀ k, k ∉ F → w'.heap[k]? = w.heap[k]?

theorem Fr.refl (F : List Nat) (w : World) : Fr F w w := ⟨rfl, rfl, rfl, rfl, fun _ _ => rfl⟩
theorem Fr.trans {F : List Nat} {a b c : World} (h : Fr F a b) (k : Fr F b c) : Fr F a c :=
  ⟨k.os.trans h.os, k.tape.trans h.tape, k.output.trans h.output, k.size.trans h.size, fun i hi => (k.block i hi).trans (h.block i hi)⟩
theorem Fr.drew {F : List Nat} {a w : World} (h : Fr F a w) : Fr F a w.drew := ⟨h.os, h.tape, h.output, h.size, h.block⟩
theorem Fr.setCell {F : List Nat} {a w : World} (h : Fr F a w) {b o : Nat} (hb : b ∈ F) (v : Value) : Fr F a (w.setCell ⟨b, o, none⟩ v) :=
  h.trans ⟨rfl, rfl, rfl, by simp [World.setCell], fun k hk => Below.heap_setCell _ _ _ _ (fun e => hk (e ▸ hb))⟩
theorem Fr.mono {F G : List Nat} {w w' : World} (h : Fr F w w') (hs : ∀ b ∈ F, b ∈ G) : Fr G w w' := ⟨h.os, h.tape, h.output, h.size, fun k hk => h.block k (fun hf => hk (hs k hf))⟩
theorem Fr.below {F : List Nat} {B : Nat} {w w' : World} (h : Fr F w w') (hF : ∀ b ∈ F, B ≤ b) : Below B w w' :=
  ⟨h.os, h.tape, h.output, Nat.le_of_eq h.size.symm, fun k hk => h.block k (fun hf => by have := hF k hf; omega)⟩
theorem Fr.ext {F : List Nat} {w0 w w' : World} (h : Fr F w w') (he : Ext w0 w) (hF : ∀ b ∈ F, w0.heap.size ≤ b) : Ext w0 w' := Below.trans he (h.below hF)
theorem Fr.bk {F : List Nat} {w w' : World} {b : Nat} {cs : List Value} {t : TypeId} (h : Fr F w w') (hb : b ∉ F) (hk : Bk w b cs t) : Bk w' b cs t := by
  unfold Bk at hk ⊢; rw [h.block b hb]; exact hk
theorem Fr.cell {F : List Nat} {w w' : World} (h : Fr F w w') {a : Addr} (hb : a.block ∉ F) : w'.cell? a = w.cell? a := World.cell?_of_block (w := w) (h.block a.block hb)

/-! ### Rings -/
def ringIx (n a i : Nat) : Nat := if a + i < n then a + i else a + i - n
theorem ringIx_lt {n a i : Nat} (ha : a < n) (hi : i < n) : ringIx n a i < n := by unfold ringIx; split <;> omega
theorem tmod_ring {n a i : Nat} (ha : a < n) (hi : i < n) : Int.tmod ((a : Int) + i) n = (ringIx n a i : Nat) := by
  have : Int.tmod (((a + i : Nat)) : Int) (n : Nat) = ((a + i) % n : Nat) := rfl
  rw [Int.natCast_add] at this
  rw [this, ringIx]
  split
  · rename_i h; rw [Nat.mod_eq_of_lt h]
  · rename_i h; rw [Nat.mod_eq_sub_mod (by omega), Nat.mod_eq_of_lt (by omega)]

/-- 'arr' is the ring of 'h', the newest first, from place a on. -/
def Ring (arr h : List Int) (a : Nat) : Prop := arr.length = h.length ∧ (0 < h.length → a < h.length) ∧ ∀ i, i < h.length → arr[ringIx h.length a i]? = h[i]?

def pushL (h : List Int) (x : Int) : List Int := if h = [] then [] else x :: h.dropLast
theorem pushL_length (h : List Int) (x : Int) : (pushL h x).length = h.length := by
  unfold pushL
  split
  · rename_i e; rw [e]
  · rename_i e
    have : 0 < h.length := List.length_pos_iff.2 e
    simp; omega

theorem Ring.push {arr h : List Int} {a : Nat} (hr : Ring arr h a) (hn : 0 < h.length) (x : Int) : Ring (arr.set (ringIx h.length a (h.length - 1)) x) (pushL h x) (ringIx h.length a (h.length - 1)) := by
  obtain ⟨h1, h2, h3⟩ := hr
  have ha := h2 hn
  have hne : h ≠ [] := List.length_pos_iff.1 hn
  refine ⟨by simp [pushL_length, h1], fun _ => by rw [pushL_length]; exact ringIx_lt ha (by omega), fun i hi => ?_⟩
  rw [pushL_length] at hi ⊢
  rw [show pushL h x = x :: h.dropLast by simp [pushL, hne]]
  cases i with
  | zero =>
    have : ringIx h.length (ringIx h.length a (h.length - 1)) 0 = ringIx h.length a (h.length - 1) := by
      have := ringIx_lt ha (show h.length - 1 < h.length by omega)
      rw [ringIx, Nat.add_zero, if_pos this]
    rw [this, List.getElem?_set]
    simp [h1, ringIx_lt ha (show h.length - 1 < h.length by omega)]
  | succ j =>
    have e : ringIx h.length (ringIx h.length a (h.length - 1)) (j + 1) = ringIx h.length a j := by
      unfold ringIx; split <;> split <;> split <;> omega
    have d : ringIx h.length a (h.length - 1) ≠ ringIx h.length a j := by
      unfold ringIx; split <;> split <;> omega
    rw [e, List.getElem?_set_ne d, h3 j (by omega)]
    simp [List.getElem?_dropLast, show j < h.length - 1 by omega]

/-- At (b, o) stands a history (its ring in block r) of these samples, the newest first; the whole block b holds cs. -/
def Hist (w : World) (b o r : Nat) (h : List Int) (cs : List Value) (t : TypeId) : Prop :=
  ∃ (a : Nat) (arr : List Int), Bk w b cs t ∧ cs[o + 1]? = some (.int .i64 (a : Nat)) ∧ h.length ≤ 1048576 ∧
    ((h = [] ∧ r = b ∧ cs[o]? = some (.slice none 0 0)) ∨ (b ≠ r ∧ cs[o]? = some (.slice (some ⟨r, 0, none⟩) h.length h.length) ∧ Bk w r (ints arr) 3 ∧ Ring arr h a))

/-- Whatever keeps the blocks b and r keeps the history. -/
theorem Hist.of {w w' : World} {b o r : Nat} {h : List Int} {cs cs' : List Value} {t : TypeId} (hh : Hist w b o r h cs t) (hb : Bk w' b cs' t) (e0 : cs'[o]? = cs[o]?) (e1 : cs'[o + 1]? = cs[o + 1]?) (hr : b ≠ r → w'.heap[r]? = w.heap[r]?) : Hist w' b o r h cs' t := by
  obtain ⟨a, arr, h1, h2, h3, h4⟩ := hh
  refine ⟨a, arr, hb, by rw [e1]; exact h2, h3, ?_⟩
  rcases h4 with ⟨h4, h5, h6⟩ | ⟨h4, h5, h6, h7⟩
  · exact .inl ⟨h4, h5, by rw [e0]; exact h6⟩
  · exact .inr ⟨h4, by rw [e0]; exact h5, by unfold Bk at h6 ⊢; rw [hr h4]; exact h6, h7⟩
theorem Hist.bk {w : World} {b o r : Nat} {h : List Int} {cs : List Value} {t : TypeId} (hh : Hist w b o r h cs t) : Bk w b cs t := by obtain ⟨a, arr, h1, _⟩ := hh; exact h1
theorem Hist.lt {w : World} {b o r : Nat} {h : List Int} {cs : List Value} {t : TypeId} (hh : Hist w b o r h cs t) : r < w.heap.size := by
  obtain ⟨a, arr, h1, h2, h3, h4⟩ := hh
  rcases h4 with ⟨h4, h5, h6⟩ | ⟨h4, h5, h6, h7⟩
  · rw [h5]; exact h1.lt
  · exact h6.lt
theorem Hist.slice {w : World} {b o r : Nat} {h : List Int} {cs : List Value} {t : TypeId} (hh : Hist w b o r h cs t) : ∃ p, cs[o]? = some (.slice p h.length h.length) := by
  obtain ⟨a, arr, h1, h2, h3, h4⟩ := hh
  rcases h4 with ⟨rfl, h5, h6⟩ | ⟨h4, h5, h6, h7⟩
  · exact ⟨_, h6⟩
  · exact ⟨_, h5⟩
theorem Hist.len {w : World} {b o r : Nat} {h : List Int} {cs : List Value} {t : TypeId} (hh : Hist w b o r h cs t) : h.length ≤ 1048576 := by obtain ⟨a, arr, h1, h2, h3, h4⟩ := hh; exact h3
theorem Hist.fr {w w' : World} {b o r : Nat} {h : List Int} {cs : List Value} {t : TypeId} {F : List Nat} (hh : Hist w b o r h cs t) (hf : Fr F w w') (hb : b ∉ F) (hr : r ∉ F) : Hist w' b o r h cs t := hh.of (hf.bk hb hh.bk) rfl rfl fun _ => hf.block r hr
theorem Hist.ext {w w' : World} {b o r : Nat} {h : List Int} {cs : List Value} {t : TypeId} (hh : Hist w b o r h cs t) (hf : Ext w w') : Hist w' b o r h cs t := hh.of (hh.bk.ext hf) rfl rfl fun _ => hf.block r hh.lt

theorem repCells_ints (n : Nat) : repCells #[.int .i64 0] n = (ints (List.replicate n 0)).toArray := by
  unfold repCells ints
  apply Array.ext'
  simp [Array.toList_map, List.map_const']
  refine List.eq_replicate_iff.2 ⟨by simp, fun v hv => ?_⟩
  simp at hv
  obtain ⟨a, _, rfl⟩ := hv
  simp [Nat.mod_one]

theorem makeS_ints {n : Int} (h0 : 0 ≤ n) (h1 : n ≤ 1048576) : makeS Go.Proofs.Tryz.prog 22 (.int .i64 n) (.int .i64 n) = some (3, (ints (List.replicate n.toNat 0)).toArray, n.toNat, n.toNat) := by
  have hc : tok Go.Proofs.Tryz.prog 3 = true ∧ 0 ≤ n ∧ n ≤ n ∧ n * (tbytes Go.Proofs.Tryz.prog 3 : Int) ≤ 281474976710656 ∧ n ≤ 9223372036854775807 := by
    refine ⟨tok_3, h0, Int.le_refl _, ?_, by omega⟩
    rw [tby_3]; omega
  simp only [makeS, telem_22, tzero_3, tsz_3, Nat.mul_one, hc, and_self, if_true]
  by_cases hn : n.toNat = 0
  · simp [hn, ints]
  · simp only [hn, if_false, Value.cells, repCells_ints]

/-- A store of a whole value into a block. -/
theorem storesV_bk {b : Nat} {t : TypeId} : ∀ (l : List Value) (w : World) (cs : List Value) (o i : Nat), Bk w b cs t → (∀ v ∈ l, v.oneCell' = true) → o + i + l.length ≤ cs.length →
    ∃ w', storesV w ⟨b, o, none⟩ l i = some w' ∧ Bk w' b (cs.take (o + i) ++ l ++ cs.drop (o + i + l.length)) t ∧ Fr [b] w w'
  | [], w, cs, o, i, h, _, _ => ⟨w, rfl, by simpa using h, Fr.refl _ _⟩
  | v :: l, w, cs, o, i, h, h1, hl => by
    simp only [List.length_cons] at hl
    obtain ⟨w', hw, hb, hf⟩ := storesV_bk l (w.setCell ⟨b, o + i, none⟩ v) (cs.set (o + i) v) o (i + 1) (h.set _ _) (fun u hu => h1 u (by simp [hu])) (by simp; omega)
    have hc : w.cell? ⟨b, o + i, none⟩ = some (cs[o + i]'(by omega)) := h.get (by simp)
    refine ⟨w', ?_, ?_, ((Fr.refl _ _).setCell (by simp) v).trans hf⟩
    · simp only [storesV, Addr.add_lit, hc, Option.isSome_some, h.frozen, h1 v (by simp), and_self, if_true, hw]
    · have e1 : (cs.set (o + i) v).take (o + (i + 1)) = cs.take (o + i) ++ [v] := by
        rw [show o + (i + 1) = o + i + 1 by omega, List.take_add_one]
        rw [List.take_set_of_le (Nat.le_refl _)]
        simp [List.getElem?_set, show o + i < cs.length by omega]
      have e2 : (cs.set (o + i) v).drop (o + (i + 1) + l.length) = cs.drop (o + i + (v :: l).length) := by
        rw [List.drop_set_of_lt (by omega)]
        congr 1
        simp; omega
      rw [e1, e2] at hb
      simpa using hb

theorem storeV_bk {P : Program} {b : Nat} {t t' : TypeId} {w : World} {cs : List Value} {v : Value} (o : Nat) (h : Bk w b cs t') (hok : tok P t = true) (hs : v.cells.size = tsz P t) (h1 : ∀ u ∈ v.cells.toList, u.oneCell' = true) (hl : o + v.cells.size ≤ cs.length) :
    ∃ w', storeV P w t v (.pointer (some ⟨b, o, none⟩)) = some w' ∧ Bk w' b (cs.take o ++ v.cells.toList ++ cs.drop (o + v.cells.size)) t' ∧ Fr [b] w w' := by
  obtain ⟨w', hw, hb, hf⟩ := storesV_bk v.cells.toList w cs o 0 h h1 (by simpa using hl)
  refine ⟨w', ?_, by simpa using hb, hf⟩
  simp only [storeV, hok, hs, and_self, if_true]
  exact hw

theorem bv_hist (r l c : Nat) : buildV Go.Proofs.Tryz.prog 103 [(0, .slice (some ⟨r, 0, none⟩) l c)] = some (.agg #[.slice (some ⟨r, 0, none⟩) l c, .int .i64 0]) := by kernel_rfl

/-- A new history: n zeros. -/
theorem past_c (n : Int) (h0 : 0 ≤ n) (h1 : n ≤ 1048576) (w : World) : Rets Go.Proofs.Tryz.prog 89 #[.int .i64 n] w fun v w' => ∃ r, v = .agg #[.slice (some ⟨r, 0, none⟩) n.toNat n.toNat, .int .i64 0] ∧ w.heap.size ≤ r ∧ Bk w' r (ints (List.replicate n.toNat 0)) 3 ∧ Ext w w' := by
  refine en89 ?_
  simp -dsimp -implicitDefEqProofs only [makeS_ints h0 h1, bv_hist, m89, sF89, Nat.reduceEqDiff, ↓reduceIte, Nat.reduceAdd, Nat.reduceMul, Value.cells, Value.oneCell', eq_self, ne_eq, Int.reduceToNat, Int.reduceEq, Int.reduceLT, Int.reduceLE, Int.reduceNeg, if_true, if_false, reduceCtorEq, Nat.reduceSub, storeV_ptr, slcV_slice, ↓mwD, mwU]
  have k1 := (Bk.new w [.slice none 0 0, .int .i64 0] 103).ext (Ext.alloc _ (.cells (ints (List.replicate n.toNat 0)).toArray 3))
  have k2 := Bk.new (w.alloc (.cells #[.slice none 0 0, .int .i64 0] 103)) (ints (List.replicate n.toNat 0)) 3
  have s0 := k1.set 0 (.slice (some ⟨(w.alloc (.cells #[.slice none 0 0, .int .i64 0] 103)).heap.size, 0, none⟩) n.toNat n.toNat)
  have s1 := s0.set 1 (.int .i64 0)
  have c0 := k1.get (o := 0) rfl
  have c1 := s0.get (o := 1) rfl
  have c2 := s1.get (o := 0) rfl
  have c3 := s1.get (o := 1) rfl
  simp -dsimp -implicitDefEqProofs only [c0, c1, c2, c3, k1.frozen, s0.frozen, and_self, m89, sF89, Nat.reduceEqDiff, ↓reduceIte, Nat.reduceAdd, Nat.reduceMul, Value.cells, Value.oneCell', eq_self, ne_eq, Int.reduceToNat, Int.reduceEq, Int.reduceLT, Int.reduceLE, Int.reduceNeg, if_true, if_false, reduceCtorEq, Nat.reduceSub, storeV_ptr, slcV_slice, ↓mwD, mwU]
  have hne : w.heap.size ≠ (w.alloc (.cells #[.slice none 0 0, .int .i64 0] 103)).heap.size := by simp
  exact ⟨_, rfl, by simp, (k2.ne hne _ _).ne hne _ _, (((Ext.alloc _ _).alloc' _).setCell (by simp) _).setCell (by simp) _⟩

theorem ago_c (b o r : Nat) (h : List Int) (cs : List Value) (t : TypeId) (k : Int) (w : World) (hh : Hist w b o r h cs t) (hk : 1 ≤ k) (hk' : k ≤ 1048576) :
    Rets Go.Proofs.Tryz.prog 100 #[.pointer (some ⟨b, o, none⟩), .int .i64 k] w fun v w' => v = .int .i64 (h.getD (k - 1).toNat 0) ∧ Fr [] w w' := by
  obtain ⟨p, hs⟩ := hh.slice
  obtain ⟨a, arr, hb, ha, hcap, hor⟩ := hh
  have c0 := hb.get hs
  have c1 := hb.get ha
  obtain ⟨j, rfl⟩ : ∃ j : Nat, k = j + 1 := ⟨(k - 1).toNat, by omega⟩
  have ej : ((j : Int) + 1 - 1).toNat = j := by omega
  rw [ej]
  refine en100 ?_
  simp -dsimp -implicitDefEqProofs only [c0, m100, sF100, Nat.reduceEqDiff, ↓reduceIte, Nat.reduceAdd, Nat.reduceMul, Value.cells, Value.oneCell', eq_self, ne_eq, Int.reduceToNat, Int.reduceEq, Int.reduceLT, Int.reduceLE, Int.reduceNeg, if_true, if_false, reduceCtorEq, Nat.reduceSub, storeV_ptr, slcV_slice, ↓mwD, mwU]
  refine iteW_dec (fun hgt => ?_) (fun hle => ?_)
  · simp -dsimp -implicitDefEqProofs only [m100, sF100, Nat.reduceEqDiff, ↓reduceIte, Nat.reduceAdd, Nat.reduceMul, Value.cells, Value.oneCell', eq_self, ne_eq, Int.reduceToNat, Int.reduceEq, Int.reduceLT, Int.reduceLE, Int.reduceNeg, if_true, if_false, reduceCtorEq, Nat.reduceSub, storeV_ptr, slcV_slice, ↓mwD, mwU]
    refine ⟨?_, Fr.refl _ _⟩
    rw [List.getD_eq_getElem?_getD, List.getElem?_eq_none (by omega)]; rfl
  · simp -dsimp -implicitDefEqProofs only [m100, sF100, Nat.reduceEqDiff, ↓reduceIte, Nat.reduceAdd, Nat.reduceMul, Value.cells, Value.oneCell', eq_self, ne_eq, Int.reduceToNat, Int.reduceEq, Int.reduceLT, Int.reduceLE, Int.reduceNeg, if_true, if_false, reduceCtorEq, Nat.reduceSub, storeV_ptr, slcV_slice, ↓mwD, mwU]
    have hj : j < h.length := by omega
    rcases hor with ⟨rfl, _⟩ | ⟨hne, hs', hr, hl, hlt, hring⟩
    · simp at hj
    rw [hs, Option.some.injEq, Value.slice.injEq] at hs'
    obtain ⟨rfl, _⟩ := hs'
    have ha' := hlt (by omega)
    have hx := ringIx_lt ha' hj
    have e1 : IntKind.i64.wrap (IntKind.i64.wrap (↑a + (↑j + 1)) - 1) = (a : Int) + j := by rw [w64, w64] <;> (try rw [w64]) <;> omega
    have hn : ¬ (h.length : Int) = 0 := by omega
    have hin : (0 : Int) ≤ (ringIx h.length a j : Nat) ∧ ((ringIx h.length a j : Nat) : Int) < h.length := by omega
    have hcell : w.cell? ⟨r, ringIx h.length a j, none⟩ = some (.int .i64 h[j]) := hr.get (by simp only [ints, List.getElem?_map, hring j hj, List.getElem?_eq_getElem hj, Option.map_some])
    refine mwpB_drawE ?_
    simp -dsimp -implicitDefEqProofs only [c0, c1, e1, tmod_ring ha' hj, hn, hin, and_self, hcell, m100, sF100, Nat.reduceEqDiff, ↓reduceIte, Nat.reduceAdd, Nat.reduceMul, Value.cells, Value.oneCell', eq_self, ne_eq, Int.reduceToNat, Int.reduceEq, Int.reduceLT, Int.reduceLE, Int.reduceNeg, if_true, if_false, reduceCtorEq, Nat.reduceSub, storeV_ptr, slcV_slice, ↓mwD, mwU]
    refine ⟨?_, (Fr.refl _ _).drew⟩
    rw [List.getD_eq_getElem?_getD, List.getElem?_eq_getElem hj]; rfl

theorem push_c (b o r : Nat) (h : List Int) (cs : List Value) (t : TypeId) (x : Int) (w : World) (hh : Hist w b o r h cs t) :
    Rets Go.Proofs.Tryz.prog 101 #[.pointer (some ⟨b, o, none⟩), .int .i64 x] w fun _ w' => Fr [b, r] w w' ∧ ∃ u, Hist w' b o r (pushL h x) (cs.set (o + 1) u) t := by
  obtain ⟨p, hs⟩ := hh.slice
  obtain ⟨a, arr, hb, ha, hcap, hor⟩ := id hh
  have c0 := hb.get hs
  have c1 := hb.get ha
  refine en101 ?_
  simp -dsimp -implicitDefEqProofs only [c0, m101, sF101, Nat.reduceEqDiff, ↓reduceIte, Nat.reduceAdd, Nat.reduceMul, Value.cells, Value.oneCell', eq_self, ne_eq, Int.reduceToNat, Int.reduceEq, Int.reduceLT, Int.reduceLE, Int.reduceNeg, if_true, if_false, reduceCtorEq, Nat.reduceSub, storeV_ptr, slcV_slice, ↓mwD, mwU]
  refine iteW_dec (fun hgt => ?_) (fun hle => ?_)
  · have hn0 : 0 < h.length := by omega
    rcases hor with ⟨rfl, _⟩ | ⟨hne, hs', hr, hri⟩
    · simp at hn0
    rw [hs, Option.some.injEq, Value.slice.injEq] at hs'
    obtain ⟨rfl, _⟩ := hs'
    obtain ⟨hl, hlt, hring⟩ := id hri
    have hj : h.length - 1 < h.length := by omega
    have ha' := hlt hn0
    have hx := ringIx_lt ha' hj
    have e1 : IntKind.i64.wrap (IntKind.i64.wrap (↑a + (h.length : Int)) - 1) = (a : Int) + (h.length - 1 : Nat) := by rw [w64, w64] <;> (try rw [w64]) <;> omega
    have hn : ¬ (h.length : Int) = 0 := by omega
    have hin : (0 : Int) ≤ (ringIx h.length a (h.length - 1) : Nat) ∧ ((ringIx h.length a (h.length - 1) : Nat) : Int) < h.length := by omega
    have hb1 : Bk w.drew b cs t := hb
    have hb2 := hb1.set (o + 1) (.int .i64 (ringIx h.length a (h.length - 1) : Nat))
    have ho : o + 1 < cs.length := (List.getElem?_eq_some_iff.1 ha).1
    have d0 := hb2.get (o := o) (by rw [List.getElem?_set_ne (by omega)]; exact hs)
    have d1 := hb2.get (o := o + 1) (v := .int .i64 (ringIx h.length a (h.length - 1) : Nat)) (by simp [ho])
    have hr2 : Bk (w.drew.setCell ⟨b, o + 1, none⟩ (.int .i64 (ringIx h.length a (h.length - 1) : Nat))) r (ints arr) 3 := (show Bk w.drew r (ints arr) 3 from hr).ne hne _ _
    have hcell := hr2.get (o := ringIx h.length a (h.length - 1)) (v := .int .i64 (arr[ringIx h.length a (h.length - 1)]'(by omega))) (by simp [ints, hl, hx])
    simp -dsimp -implicitDefEqProofs only [m101, sF101, Nat.reduceEqDiff, ↓reduceIte, Nat.reduceAdd, Nat.reduceMul, Value.cells, Value.oneCell', eq_self, ne_eq, Int.reduceToNat, Int.reduceEq, Int.reduceLT, Int.reduceLE, Int.reduceNeg, if_true, if_false, reduceCtorEq, Nat.reduceSub, storeV_ptr, slcV_slice, ↓mwD, mwU]
    refine mwpB_drawE ?_
    simp -dsimp -implicitDefEqProofs only [c0, c1, e1, tmod_ring ha' hj, hn, hin, and_self, hb1.frozen, m101, sF101, Nat.reduceEqDiff, ↓reduceIte, Nat.reduceAdd, Nat.reduceMul, Value.cells, Value.oneCell', eq_self, ne_eq, Int.reduceToNat, Int.reduceEq, Int.reduceLT, Int.reduceLE, Int.reduceNeg, if_true, if_false, reduceCtorEq, Nat.reduceSub, storeV_ptr, slcV_slice, ↓mwD, mwU]
    refine mwpB_drawE ?_
    simp -dsimp -implicitDefEqProofs only [d0, d1, hin, and_self, hcell, World.frozen?_drew, hr2.frozen, m101, sF101, Nat.reduceEqDiff, ↓reduceIte, Nat.reduceAdd, Nat.reduceMul, Value.cells, Value.oneCell', eq_self, ne_eq, Int.reduceToNat, Int.reduceEq, Int.reduceLT, Int.reduceLE, Int.reduceNeg, if_true, if_false, reduceCtorEq, Nat.reduceSub, storeV_ptr, slcV_slice, ↓mwD, mwU]
    refine ⟨(((((Fr.refl _ _).drew).setCell (by simp) _).drew).setCell (by simp) _), _, _, _, (hb2.drew).ne (Ne.symm hne) _ _, ?_, by rw [pushL_length]; exact hcap, .inr ⟨hne, ?_, ?_, hri.push hn0 x⟩⟩
    · simp [ho]
    · rw [List.getElem?_set_ne (by omega), pushL_length]; exact hs
    · have := (hr2.drew).set (ringIx h.length a (h.length - 1)) (.int .i64 x)
      rw [show (ints arr).set (ringIx h.length a (h.length - 1)) (.int .i64 x) = ints (arr.set (ringIx h.length a (h.length - 1)) x) by simp [ints, List.map_set]] at this
      exact this
  · simp -dsimp -implicitDefEqProofs only [m101, sF101, Nat.reduceEqDiff, ↓reduceIte, Nat.reduceAdd, Nat.reduceMul, Value.cells, Value.oneCell', eq_self, ne_eq, Int.reduceToNat, Int.reduceEq, Int.reduceLT, Int.reduceLE, Int.reduceNeg, if_true, if_false, reduceCtorEq, Nat.reduceSub, storeV_ptr, slcV_slice, ↓mwD, mwU]
    have h0 : h = [] := by cases h with
      | nil => rfl
      | cons a l => exact absurd (by simp) hle
    subst h0
    have hcs : cs.set (o + 1) (.int .i64 (a : Nat)) = cs := by
      obtain ⟨hlt', hg⟩ := List.getElem?_eq_some_iff.1 ha
      rw [← hg]; simp
    exact ⟨Fr.refl _ _, .int .i64 (a : Nat), by rw [hcs]; exact hh⟩

/-- kept: a sample comes in, the oldest goes out; with no places it goes through. -/
def keptI (h : List Int) (x : Int) : Int := if h = [] then x else h.getD (h.length - 1) 0

theorem kept_c (b o r : Nat) (h : List Int) (cs : List Value) (t : TypeId) (x : Int) (w : World) (hh : Hist w b o r h cs t) :
    Rets Go.Proofs.Tryz.prog 57 #[.pointer (some ⟨b, o, none⟩), .int .i64 x] w fun v w' => v = .int .i64 (keptI h x) ∧ Fr [b, r] w w' ∧ ∃ u, Hist w' b o r (pushL h x) (cs.set (o + 1) u) t := by
  obtain ⟨p, hs⟩ := hh.slice
  obtain ⟨a, arr, hb, ha, hcap, hor⟩ := id hh
  have c0 := hb.get hs
  refine en57 ?_
  simp -dsimp -implicitDefEqProofs only [c0, m57, sF57, Nat.reduceEqDiff, ↓reduceIte, Nat.reduceAdd, Nat.reduceMul, Value.cells, Value.oneCell', eq_self, ne_eq, Int.reduceToNat, Int.reduceEq, Int.reduceLT, Int.reduceLE, Int.reduceNeg, if_true, if_false, reduceCtorEq, Nat.reduceSub, storeV_ptr, slcV_slice, ↓mwD, mwU]
  refine iteW_dec (fun h0 => ?_) (fun h0 => ?_)
  · simp -dsimp -implicitDefEqProofs only [m57, sF57, Nat.reduceEqDiff, ↓reduceIte, Nat.reduceAdd, Nat.reduceMul, Value.cells, Value.oneCell', eq_self, ne_eq, Int.reduceToNat, Int.reduceEq, Int.reduceLT, Int.reduceLE, Int.reduceNeg, if_true, if_false, reduceCtorEq, Nat.reduceSub, storeV_ptr, slcV_slice, ↓mwD, mwU]
    have h0 : h = [] := by cases h with
      | nil => rfl
      | cons a l => exact absurd h0 (by simp only [List.length_cons]; omega)
    subst h0
    have hcs : cs.set (o + 1) (.int .i64 (a : Nat)) = cs := by
      obtain ⟨hlt', hg⟩ := List.getElem?_eq_some_iff.1 ha
      rw [← hg]; simp
    exact ⟨rfl, Fr.refl _ _, .int .i64 (a : Nat), by rw [hcs]; exact hh⟩
  · simp -dsimp -implicitDefEqProofs only [c0, m57, sF57, Nat.reduceEqDiff, ↓reduceIte, Nat.reduceAdd, Nat.reduceMul, Value.cells, Value.oneCell', eq_self, ne_eq, Int.reduceToNat, Int.reduceEq, Int.reduceLT, Int.reduceLE, Int.reduceNeg, if_true, if_false, reduceCtorEq, Nat.reduceSub, storeV_ptr, slcV_slice, ↓mwD, mwU]
    refine (ago_c b o r h cs t _ w hh (by omega) (by omega)).use ?_
    rintro v w1 ⟨rfl, hf⟩
    have hh1 := hh.fr hf (by simp) (by simp)
    simp -dsimp -implicitDefEqProofs only [m57, sF57, Nat.reduceEqDiff, ↓reduceIte, Nat.reduceAdd, Nat.reduceMul, Value.cells, Value.oneCell', eq_self, ne_eq, Int.reduceToNat, Int.reduceEq, Int.reduceLT, Int.reduceLE, Int.reduceNeg, if_true, if_false, reduceCtorEq, Nat.reduceSub, storeV_ptr, slcV_slice, ↓mwD, mwU]
    refine (push_c b o r h cs t x w1 hh1).use ?_
    rintro v w2 ⟨hf2, u, hh2⟩
    simp -dsimp -implicitDefEqProofs only [m57, sF57, Nat.reduceEqDiff, ↓reduceIte, Nat.reduceAdd, Nat.reduceMul, Value.cells, Value.oneCell', eq_self, ne_eq, Int.reduceToNat, Int.reduceEq, Int.reduceLT, Int.reduceLE, Int.reduceNeg, if_true, if_false, reduceCtorEq, Nat.reduceSub, storeV_ptr, slcV_slice, ↓mwD, mwU]
    have : h ≠ [] := by rintro rfl; simp at h0
    refine ⟨?_, (hf.mono (by simp)).trans hf2, u, hh2⟩
    rw [keptI, if_neg this]
    congr 2; omega

end Go.Proofs.YtefcfnmmpnjjjaaGreatDoor

/- Texts written: the writer's functions, a unit's text. -/
import Derived.Test.YtefcfnmmpnjjjaaGreatDoorQbStB
namespace Go.Proofs.YtefcfnmmpnjjjaaGreatDoor
open Go.RowKit
set_option linter.unusedSimpArgs false

/-- The writer's words: block bw holds the list, its row lies in rb. -/
def WrAt (w : World) (base bw : Nat) (rb : Option Nat) (xs : List Int) : Prop :=
  ∃ v, Bk w bw [v] 85 ∧ w.ownsRow base 9 1 v xs.length (xs.map fun n => .string (wordOf n)) ∧ v.ownBlock = rb ∧ rb ≠ some bw ∧ base ≤ bw
theorem bs_str (s : ByteArray) : buildS Go.Proofs.Tryz.prog 85 1 [(0, .string s)] = some (9, #[.string s]) := by kernel_rfl
theorem put_c {w0 w : World} {l : Value} {L xs : List Int} {bw : Nat} {rb : Option Nat} (hE : EnvS w0) (h0 : Ext w0 w) (hw : WrAt w w0.heap.size bw rb xs) (hl : SlI w l L) (hL : ∀ n ∈ L, inI n) (hsz : xs.length + L.length ≤ 1000000)
    (hd : ∀ q, l.ownBlock = some q → q ≠ bw ∧ rb ≠ some q) :
    Rets Go.Proofs.Tryz.prog 104 #[l, .pointer (some ⟨bw, 0, none⟩)] w fun _ w' => ∃ rb', WrAt w' w0.heap.size bw rb' (xs ++ L) ∧ ChP (fun q => q = bw ∨ rb = some q) w w' ∧ (rb' = rb ∨ ∃ q, rb' = some q ∧ w.heap.size ≤ q) ∧ (∀ q, rb' = some q → q < w'.heap.size) := by
  obtain ⟨p, cap, rfl, hc1, hc2⟩ := hl.shape
  refine en104 ?_
  simp -dsimp -implicitDefEqProofs only [m104, sF104, Nat.reduceEqDiff, ↓reduceIte, Nat.reduceAdd, Nat.reduceMul, Value.cells, Value.oneCell', eq_self, ne_eq, Int.reduceToNat, Int.reduceEq, Int.reduceLT, Int.reduceLE, Int.reduceNeg, if_true, if_false, reduceCtorEq, Nat.reduceSub, storeV_ptr, slcV_slice, ↓mwD, mwU]
  refine mwpB_loop (fun e ds wl => ∃ n : Nat, n ≤ L.length ∧ e 7 = .int .i64 n ∧ e 6 = .int .i64 L.length ∧ e 5 = .slice p L.length cap ∧ e 1 = .pointer (some ⟨bw, 0, none⟩) ∧ ds = [] ∧
      ∃ rb', WrAt wl w0.heap.size bw rb' (xs ++ L.take n) ∧ ChP (fun q => q = bw ∨ rb = some q) w wl ∧ (rb' = rb ∨ ∃ q, rb' = some q ∧ w.heap.size ≤ q) ∧ (∀ q, rb' = some q → q < wl.heap.size)) (fun e _ => L.length - (intOf (e 7)).toNat) ?_ ?_
  · simp -dsimp -implicitDefEqProofs only [m104, sF104, Nat.reduceEqDiff, ↓reduceIte, Nat.reduceAdd, Nat.reduceMul, Value.cells, Value.oneCell', eq_self, ne_eq, Int.reduceToNat, Int.reduceEq, Int.reduceLT, Int.reduceLE, Int.reduceNeg, if_true, if_false, reduceCtorEq, Nat.reduceSub, storeV_ptr, slcV_slice, ↓mwD, mwU]
    refine ⟨0, by omega, rfl, rb, by simpa using hw, ChP.refl _ _, .inl rfl, fun q hq => ?_⟩
    obtain ⟨v, _, ho, hv, _⟩ := hw
    exact (World.ownsRow.lt ho q (hv.trans hq)).2
  · rintro e ds wl ⟨n, hn, h7, h6, h5, h1, rfl, rb', ⟨v, hb, ho, hv, hne, hbb⟩, hch, hrb, hlt⟩
    simp -dsimp -implicitDefEqProofs only [h7, h6, h5, h1, m104, sF104, Nat.reduceEqDiff, ↓reduceIte, Nat.reduceAdd, Nat.reduceMul, Value.cells, Value.oneCell', eq_self, ne_eq, Int.reduceToNat, Int.reduceEq, Int.reduceLT, Int.reduceLE, Int.reduceNeg, if_true, if_false, reduceCtorEq, Nat.reduceSub, storeV_ptr, slcV_slice, ↓mwD, mwU]
    refine iteW_dec (fun hlt' => ?_) (fun hge => ?_)
    · have hnl : n < L.length := by omega
      obtain ⟨bl, ol, cl, hv', hcl⟩ := hl.some (by omega)
      cases hv'
      have cn : wl.cell? ⟨bl, ol + n, none⟩ = some (.int .i64 L[n]) := hch.cell (fun h => by have := hd bl rfl; rcases h with h | h; exact this.1 h; exact this.2 h) (hcl n _ (by simp [hnl]))
      have hb1 : (0 : Int) ≤ n ∧ (n : Int) < L.length := by omega
      have hw1 : IntKind.i64.wrap ((n : Int) + 1) = ((n + 1 : Nat) : Int) := by rw [w64 (by omega) (by omega)]; omega
      have hc0 := hb.get (o := 0) rfl
      have hG : ∀ b, (b = bw ∨ rb = some b) → w0.heap.size ≤ b := fun b hb => by
        obtain ⟨v0, hb0, ho0, hv0, hne0, hbb0⟩ := hw
        rcases hb with rfl | h
        · exact hbb0
        · exact (World.ownsRow.lt ho0 b (hv0.trans h)).1
      have hx : Ext w0 wl := ChP.ext hch h0 hG
      have hEl := hE.ext hx
      simp -dsimp -implicitDefEqProofs only [h7, h6, h5, h1, hb1, and_self, cn, m104, sF104, Nat.reduceEqDiff, ↓reduceIte, Nat.reduceAdd, Nat.reduceMul, Value.cells, Value.oneCell', eq_self, ne_eq, Int.reduceToNat, Int.reduceEq, Int.reduceLT, Int.reduceLE, Int.reduceNeg, if_true, if_false, reduceCtorEq, Nat.reduceSub, storeV_ptr, slcV_slice, ↓mwD, mwU]
      refine mwpB_draw (fun w' => w'.cell? ⟨bw, 0, none⟩ = some v) hc0 ?_
      simp -dsimp -implicitDefEqProofs only [h7, h6, h5, h1, m104, sF104, Nat.reduceEqDiff, ↓reduceIte, Nat.reduceAdd, Nat.reduceMul, Value.cells, Value.oneCell', eq_self, ne_eq, Int.reduceToNat, Int.reduceEq, Int.reduceLT, Int.reduceLE, Int.reduceNeg, if_true, if_false, reduceCtorEq, Nat.reduceSub, storeV_ptr, slcV_slice, ↓mwD, mwU]
      refine softB_load (v := v) (fun w' hw' => ?_) ?_
      · simp -dsimp -implicitDefEqProofs only [h7, h6, h5, h1, hw', m104, sF104, Nat.reduceEqDiff, ↓reduceIte, Nat.reduceAdd, Nat.reduceMul, Value.cells, Value.oneCell', eq_self, ne_eq, Int.reduceToNat, Int.reduceEq, Int.reduceLT, Int.reduceLE, Int.reduceNeg, if_true, if_false, reduceCtorEq, Nat.reduceSub, storeV_ptr, slcV_slice, ↓mwD, mwU]
      simp -dsimp -implicitDefEqProofs only [h7, h6, h5, h1, m104, sF104, Nat.reduceEqDiff, ↓reduceIte, Nat.reduceAdd, Nat.reduceMul, Value.cells, Value.oneCell', eq_self, ne_eq, Int.reduceToNat, Int.reduceEq, Int.reduceLT, Int.reduceLE, Int.reduceNeg, if_true, if_false, reduceCtorEq, Nat.reduceSub, storeV_ptr, slcV_slice, ↓mwD, mwU]
      refine (Itoa_c (hL L[n] (by simp)) (hEl.ext (Ext.drew _))).use ?_
      rintro _ w5 ⟨rfl, he5⟩
      have hx5 : Ext wl w5 := (Ext.drew _).trans he5
      refine ⟨hx5.cell hc0, ?_⟩
      simp -dsimp -implicitDefEqProofs only [h7, h6, h5, h1, bs_str, m104, sF104, Nat.reduceEqDiff, ↓reduceIte, Nat.reduceAdd, Nat.reduceMul, Value.cells, Value.oneCell', eq_self, ne_eq, Int.reduceToNat, Int.reduceEq, Int.reduceLT, Int.reduceLE, Int.reduceNeg, if_true, if_false, reduceCtorEq, Nat.reduceSub, storeV_ptr, slcV_slice, ↓mwD, mwU]
      refine ⟨cell_old (hx5.cell hc0) _, ?_⟩
      have hlen : (xs ++ L.take n).length = xs.length + n := by simp; omega
      obtain ⟨g, cg, w7, ha7, hown7, hg7, hlies, hglt⟩ := append_cell (ty := 85) telem_85 tok_9 tzero_9 rfl tsz_9 tby_9 (by omega) (Own.ext ho hx5) (y := .string (wordOf L[n])) rfl (by omega) (by have := hx.le; have := hx5.le; omega)
      refine appB.mk ha7 ?_
      have hbl := hb.lt
      have hb5 := (hb.ext hx5).ext (Ext.alloc w5 (.cells #[.string (wordOf L[n])] 9))
      have hb7 : Bk w7 bw [v] 85 := by unfold Bk at hb5 ⊢; rw [hg7.block bw (by have := hx5.le; simp; omega) (fun e => hne (by rw [← hv, ← e]))]; exact hb5
      have hc7 := hb7.get (o := 0) rfl
      refine ⟨hc7, ?_⟩
      simp -dsimp -implicitDefEqProofs only [h7, h6, h5, h1, hc7, hb7.frozen, hw1, m104, sF104, Nat.reduceEqDiff, ↓reduceIte, Nat.reduceAdd, Nat.reduceMul, Value.cells, Value.oneCell', eq_self, ne_eq, Int.reduceToNat, Int.reduceEq, Int.reduceLT, Int.reduceLE, Int.reduceNeg, if_true, if_false, reduceCtorEq, Nat.reduceSub, storeV_ptr, slcV_slice, ↓mwD, mwU]
      have hgb : g ≠ bw := fun e => by
        rcases hlies with h | h
        · exact hne (by rw [← hv, h, e])
        · have := hx5.le; omega
      have hs8 : ∀ u, (w7.setCell ⟨bw, 0, none⟩ u).heap.size = w7.heap.size := fun u => by simp [World.setCell]
      refine ⟨⟨n + 1, by omega, rfl, some g, ⟨_, hb7.set 0 _, ?_, rfl, fun e => hgb (by simpa using e), hbb⟩, ?_, ?_, ?_⟩, by simp only [intOf]; omega⟩
      · have ho8 := Own.same' (w' := w7.setCell ⟨bw, 0, none⟩ (.slice (some ⟨g, 0, none⟩) ((xs ++ L.take n).length + 1) cg)) hown7 (fun k hk => Below.heap_setCell _ _ _ _ (fun e => by simp [Value.ownBlock] at hk; exact hgb (by have e' : k = bw := e; omega)))
        have e1 : (xs ++ L.take (n + 1)) = (xs ++ L.take n) ++ [L[n]] := by rw [List.take_add_one, List.getElem?_eq_getElem hnl, ← List.append_assoc]; rfl
        have e2 : ((xs ++ L.take n) ++ [L[n]]).length = (xs ++ L.take n).length + 1 := by rw [List.length_append]; rfl
        rw [e1, List.map_append (l₁ := xs ++ L.take n), e2]
        exact ho8
      · refine ChP.setCell (ChP.grown' ((hch.trans hx5.chp).trans (Ext.chp (Ext.alloc _ _))) hg7 (fun k hk hkw => ?_)) (fun _ => .inl rfl) _
        rw [hv] at hk
        rcases hrb with h | ⟨q, h, hq⟩
        · exact .inr (by rw [← h, hk])
        · rw [h] at hk; have := Option.some.inj hk; omega
      · rcases hlies with h | h
        · rcases hrb with h' | ⟨q, h', hq⟩
          · exact .inl (by rw [← h', ← hv, h])
          · exact .inr ⟨g, rfl, by rw [hv, h'] at h; have := Option.some.inj h; omega⟩
        · exact .inr ⟨g, rfl, by have := hch.size; have := hx5.le; omega⟩
      · intro q hq
        rw [hs8]
        cases hq
        exact hglt
    · have hnl : n = L.length := by omega
      subst hnl
      rw [List.take_length] at *
      simp -dsimp -implicitDefEqProofs only [m104, sF104, Nat.reduceEqDiff, ↓reduceIte, Nat.reduceAdd, Nat.reduceMul, Value.cells, Value.oneCell', eq_self, ne_eq, Int.reduceToNat, Int.reduceEq, Int.reduceLT, Int.reduceLE, Int.reduceNeg, if_true, if_false, reduceCtorEq, Nat.reduceSub, storeV_ptr, slcV_slice, ↓mwD, mwU]
      exact ⟨rb', ⟨v, hb, ho, hv, hne, hbb⟩, hch, hrb, hlt⟩
/-- all() tells the words, a blank between two of them. -/
theorem all_text_c {w : World} {base bw : Nat} {rb : Option Nat} {xs : List Int} (hw : WrAt w base bw rb xs) (hI : ∀ n ∈ xs, inI n) (hl : xs.length ≤ 1000000) :
    Rets Go.Proofs.Tryz.prog 106 #[.pointer (some ⟨bw, 0, none⟩)] w fun r w' => r = .string (textL xs) ∧ Ext w w' := by
  obtain ⟨v, hb, ho, hv, _⟩ := hw
  have hc := hb.get (o := 0) rfl
  refine en106 ?_
  simp -dsimp -implicitDefEqProofs only [hc, m106, sF106, Nat.reduceEqDiff, ↓reduceIte, Nat.reduceAdd, Nat.reduceMul, Value.cells, Value.oneCell', eq_self, ne_eq, Int.reduceToNat, Int.reduceEq, Int.reduceLT, Int.reduceLE, Int.reduceNeg, if_true, if_false, reduceCtorEq, Nat.reduceSub, storeV_ptr, slcV_slice, ↓mwD, mwU]
  have hS : SlS w v (xs.map wordOf) := by
    have := Own.sl ho
    unfold SlS
    rw [List.map_map]
    exact this
  have he : (xs.map wordOf).map (fun (x : ByteArray) => x.data.toList) = xs.map Lib.itoa := by rw [List.map_map]; rfl
  have hj := join_length xs hI
  refine (Join_c hS (by rw [he]; omega) (by simp; omega)).use ?_
  rintro _ w1 ⟨rfl, hx⟩
  rw [he]
  simp -dsimp -implicitDefEqProofs only [m106, sF106, Nat.reduceEqDiff, ↓reduceIte, Nat.reduceAdd, Nat.reduceMul, Value.cells, Value.oneCell', eq_self, ne_eq, Int.reduceToNat, Int.reduceEq, Int.reduceLT, Int.reduceLE, Int.reduceNeg, if_true, if_false, reduceCtorEq, Nat.reduceSub, storeV_ptr, slcV_slice, ↓mwD, mwU]
  exact ⟨rfl, hx⟩
/-- The writer: no words yet. -/
theorem writer_c (w : World) : Rets Go.Proofs.Tryz.prog 64 #[] w fun r w' => r = .tuple #[.func (.func 104) #[] #[.pointer (some ⟨w.heap.size, 0, none⟩)], .func (.func 106) #[] #[.pointer (some ⟨w.heap.size, 0, none⟩)]] ∧ WrAt w' w.heap.size w.heap.size none [] ∧ Ext w w' := by
  refine en64 ?_
  simp -dsimp -implicitDefEqProofs only [m64, sF64, Nat.reduceEqDiff, ↓reduceIte, Nat.reduceAdd, Nat.reduceMul, Value.cells, Value.oneCell', eq_self, ne_eq, Int.reduceToNat, Int.reduceEq, Int.reduceLT, Int.reduceLE, Int.reduceNeg, if_true, if_false, reduceCtorEq, Nat.reduceSub, storeV_ptr, slcV_slice, ↓mwD, mwU]
  exact ⟨⟨_, Bk.new _ _ _, World.ownsRow_nil _ _ _ _, rfl, by simp, Nat.le_refl _⟩, Ext.alloc _ _⟩
theorem stL_in {k : Int} {A T N : List Int} (hk : inI k) (hA : ∀ n ∈ A, inI n) (hT : ∀ n ∈ T, inI n) (hN : ∀ n ∈ N, inI n) (lA : A.length ≤ 512) (lT : T.length ≤ 512) (lN : N.length ≤ 4097) : (∀ n ∈ stL k A T N, inI n) ∧ (stL k A T N).length ≤ 6000 := by
  constructor
  · intro n hn
    unfold stL at hn
    simp only [List.mem_append, List.mem_cons, List.not_mem_nil, or_false] at hn
    rcases hn with (((h | h) | h) | h) | h
    · rcases h with rfl | rfl | rfl
      · exact hk
      · exact inI_len (by omega)
      · exact inI_len (by omega)
    · exact hA n h
    · exact hT n h
    · rw [h]; exact inI_len (by omega)
    · exact hN n h
  · unfold stL; simp; omega
/-- A unit's text. -/
theorem text_c {w : World} {v : Value} {F : List Nat} {s : US} {k : Int} {A T : List Int} (hE : EnvS w) (hu : UnitAt w v F s k A T) (hs : lenU s ≤ 4097) (lA : A.length ≤ 512) (lT : T.length ≤ 512)
    (hk : inI k) (hA : ∀ n ∈ A, inI n) (hT : ∀ n ∈ T, inI n) (hN : ∀ n ∈ numsU s, inI n) :
    Rets Go.Proofs.Tryz.prog 38 #[v] w fun r w' => r = .string (textL (stL k A T (numsU s))) ∧ Ext w w' := by
  refine en38 ?_
  simp -dsimp -implicitDefEqProofs only [m38, sF38, Nat.reduceEqDiff, ↓reduceIte, Nat.reduceAdd, Nat.reduceMul, Value.cells, Value.oneCell', eq_self, ne_eq, Int.reduceToNat, Int.reduceEq, Int.reduceLT, Int.reduceLE, Int.reduceNeg, if_true, if_false, reduceCtorEq, Nat.reduceSub, storeV_ptr, slcV_slice, ↓mwD, mwU]
  refine (writer_c w).use ?_
  rintro _ w1 ⟨rfl, hwr, hx1⟩
  simp -dsimp -implicitDefEqProofs only [m38, sF38, Nat.reduceEqDiff, ↓reduceIte, Nat.reduceAdd, Nat.reduceMul, Value.cells, Value.oneCell', eq_self, ne_eq, Int.reduceToNat, Int.reduceEq, Int.reduceLT, Int.reduceLE, Int.reduceNeg, if_true, if_false, reduceCtorEq, Nat.reduceSub, storeV_ptr, slcV_slice, ↓mwD, mwU]
  refine (unitState_c (hu.ext hx1) hs lA lT).use ?_
  rintro r w2 ⟨hr, hx2, hfr⟩
  obtain ⟨hi, hlen⟩ := stL_in hk hA hT hN lA lT hs
  have hwr2 : WrAt w2 w.heap.size w.heap.size none [] := by
    obtain ⟨v, hb, ho, hv, h1, h2⟩ := hwr
    exact ⟨v, hb.ext hx2, Own.ext ho hx2, hv, h1, h2⟩
  simp -dsimp -implicitDefEqProofs only [okF_104, m38, sF38, Nat.reduceEqDiff, ↓reduceIte, Nat.reduceAdd, Nat.reduceMul, Value.cells, Value.oneCell', eq_self, ne_eq, Int.reduceToNat, Int.reduceEq, Int.reduceLT, Int.reduceLE, Int.reduceNeg, if_true, if_false, reduceCtorEq, Nat.reduceSub, storeV_ptr, slcV_slice, ↓mwD, mwU]
  have hw2 : w.heap.size < w1.heap.size := by obtain ⟨_, hb, _⟩ := hwr; exact hb.lt
  refine (put_c hE (hx1.trans hx2) hwr2 hr hi (by simp; omega) (fun q hq => ⟨by have := hfr q hq; omega, by simp⟩)).use ?_
  rintro _ w3 ⟨rb', hwr3, hch, _, _⟩
  have hx3 : Ext w w3 := ChP.ext hch (hx1.trans hx2) (fun b hb => by rcases hb with rfl | h; exact Nat.le_refl _; cases h)
  simp -dsimp -implicitDefEqProofs only [okF_106, m38, sF38, Nat.reduceEqDiff, ↓reduceIte, Nat.reduceAdd, Nat.reduceMul, Value.cells, Value.oneCell', eq_self, ne_eq, Int.reduceToNat, Int.reduceEq, Int.reduceLT, Int.reduceLE, Int.reduceNeg, if_true, if_false, reduceCtorEq, Nat.reduceSub, storeV_ptr, slcV_slice, ↓mwD, mwU]
  refine (all_text_c hwr3 (by simpa using hi) (by simp; omega)).use ?_
  rintro _ w4 ⟨rfl, hx4⟩
  simp -dsimp -implicitDefEqProofs only [m38, sF38, Nat.reduceEqDiff, ↓reduceIte, Nat.reduceAdd, Nat.reduceMul, Value.cells, Value.oneCell', eq_self, ne_eq, Int.reduceToNat, Int.reduceEq, Int.reduceLT, Int.reduceLE, Int.reduceNeg, if_true, if_false, reduceCtorEq, Nat.reduceSub, storeV_ptr, slcV_slice, ↓mwD, mwU]
  exact hx3.trans hx4
theorem State_c {w : World} {v : Value} {F : List Nat} {s : US} {k : Int} {A T : List Int} (hE : EnvS w) (hu : UnitAt w v F s k A T) (hs : lenU s ≤ 4097) (lA : A.length ≤ 512) (lT : T.length ≤ 512)
    (hk : inI k) (hA : ∀ n ∈ A, inI n) (hT : ∀ n ∈ T, inI n) (hN : ∀ n ∈ numsU s, inI n) :
    Rets Go.Proofs.Tryz.prog 11 #[v] w fun r w' => r = .string (textL (stL k A T (numsU s))) ∧ Ext w w' := by
  have ht := text_c hE hu hs lA lT hk hA hT hN
  obtain ⟨b, cs, wk, a, t, rfl, _⟩ := hu
  refine en11 ?_
  simp -dsimp -implicitDefEqProofs only [m11, sF11, Nat.reduceEqDiff, ↓reduceIte, Nat.reduceAdd, Nat.reduceMul, Value.cells, Value.oneCell', eq_self, ne_eq, Int.reduceToNat, Int.reduceEq, Int.reduceLT, Int.reduceLE, Int.reduceNeg, if_true, if_false, reduceCtorEq, Nat.reduceSub, storeV_ptr, slcV_slice, ↓mwD, mwU]
  refine ht.use ?_
  rintro _ w1 ⟨rfl, hx⟩
  simp -dsimp -implicitDefEqProofs only [m11, sF11, Nat.reduceEqDiff, ↓reduceIte, Nat.reduceAdd, Nat.reduceMul, Value.cells, Value.oneCell', eq_self, ne_eq, Int.reduceToNat, Int.reduceEq, Int.reduceLT, Int.reduceLE, Int.reduceNeg, if_true, if_false, reduceCtorEq, Nat.reduceSub, storeV_ptr, slcV_slice, ↓mwD, mwU]
  exact hx
end Go.Proofs.YtefcfnmmpnjjjaaGreatDoor

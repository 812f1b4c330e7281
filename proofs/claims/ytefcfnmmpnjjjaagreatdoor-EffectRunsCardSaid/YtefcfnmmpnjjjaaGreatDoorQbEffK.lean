/- Samples through a unit: Run, New, Level; awake, long. -/
import Derived.Test.YtefcfnmmpnjjjaaGreatDoorQbEffJ
namespace Go.Proofs.YtefcfnmmpnjjjaaGreatDoor
open Go.RowKit
set_option linter.unusedSimpArgs false

theorem Own.same {w w' : World} {base : Nat} {e : TypeId} {size : Nat} {v : Value} {n : Nat} {cs : List Value} (h : w.ownsRow base e size v n cs) (hs : ∀ k, base ≤ k → k < w.heap.size → w'.heap[k]? = w.heap[k]?) : w'.ownsRow base e size v n cs := by
  refine ⟨h.1, ?_⟩
  rcases h.2 with h2 | ⟨g, cap, cur, hv, hg, hh, r⟩
  · exact .inl h2
  · exact .inr ⟨g, cap, cur, hv, hg, by rw [hs g hg (Array.getElem?_eq_some_iff.1 hh).1]; exact hh, r⟩

theorem Ch.grown {F : List Nat} {w0 w w' : World} {row : Option Nat} (h : Ch F w0 w) (hg : w.grownBy w' row) (hr : ∀ k, row = some k → w0.heap.size ≤ k) : Ch F w0 w' :=
  ⟨hg.os.trans h.os, hg.tape.trans h.tape, hg.output.trans h.output, Nat.le_trans h.size hg.size, fun k hk hf =>
    (hg.block k (Nat.lt_of_lt_of_le hk h.size) (fun e => by have := hr k e.symm; omega)).trans (h.block k hk hf)⟩

theorem bs_one (x : Int) : buildS Go.Proofs.Tryz.prog 22 1 [(0, .int .i64 x)] = some (3, #[.int .i64 x]) := by kernel_rfl

/-- append(out, y) onto a slice of the call's own. -/
theorem append_int {w : World} {base : Nat} {v : Value} {n : Nat} {xs : List Int} (hown : w.ownsRow base 3 1 v n (ints xs)) (y : Int) (hn : n ≤ 1099511627776) (hb : base ≤ w.heap.size) :
    ∃ v' w', (Builtin.append_ #[22, 22] 22 #[v, .slice (some ⟨w.heap.size, 0, none⟩) 1 1]).run Go.Proofs.Tryz.prog (w.alloc (.cells #[.int .i64 y] 3)) = .ok v' w' ∧ w'.ownsRow base 3 1 v' (n + 1) (ints (xs ++ [y])) ∧ (w.alloc (.cells #[.int .i64 y] 3)).grownBy w' v.ownBlock := by
  obtain ⟨v', w', ha, hown', hg⟩ := append_own (P := Go.Proofs.Tryz.prog) (w := w.alloc (.cells #[.int .i64 y] 3)) (t := 22) (ty := 22) (z := .int .i64 0) (ats := [22, 22]) rfl telem_22 tok_3 tzero_3 (by rw [tsz_3]; rfl) (by rw [tsz_3]; omega)
    (by rw [tsz_3]; exact Own.ext hown (Ext.alloc _ _)) (a := ⟨w.heap.size, 0, none⟩) (m := 1) (c := 1) (news := [.int .i64 y]) (by rw [tsz_3]; rfl)
    (fun j u hj => by rw [Addr.add_lit, World.cell?_alloc_new]; simpa using hj) (fun u hu => by simp at hu; subst hu; rfl) (by unfold maxLen; omega) (by rw [tby_3]; omega) (by simp; omega)
  exact ⟨v', w', ha, by rw [tsz_3] at hown'; simpa [ints] using hown', hg⟩

theorem samples_smps {L : List Int} (h : samplesB L = true) : L.length ≤ 4096 ∧ Smps L := by
  simp only [samplesB, Bool.and_eq_true, decide_eq_true_eq, Bool.not_eq_true', List.any_eq_false] at h
  refine ⟨h.1, fun x hx => ?_⟩
  have := h.2 x hx
  simpa [wtn_iff, Smp] using this

theorem URun_c {w : World} {v : Value} {F : List Nat} {s : US} {k : Int} {A T : List Int} {l : Value} {L : List Int} (hu : UnitAt w v F s k A T) (hs : s.ok) (hl : SlI w l L) (hd : L ≠ [] → ∀ q, l.ownBlock = some q → q ∉ F) :
    Rets Go.Proofs.Tryz.prog 10 #[v, l] w fun r w' => if samplesB L = true then ∃ o, r = .tuple #[o, .int .i64 0] ∧ SlI w' o (runU s L).2 ∧ UnitAt w' v F (runU s L).1 k A T ∧ Ch F w w' ∧ (∀ q, o.ownBlock = some q → w.heap.size ≤ q)
      else r = .tuple #[.slice none 0 0, .int .i64 1] ∧ w' = w := by
  obtain ⟨b, cs, wk, a, t, rfl, hb, hbF, h0, h1, h2, h3, hwk, ha, ht, da, dt⟩ := hu
  obtain ⟨p, cap, rfl, hc1, hc2⟩ := hl.shape
  have hlt := hwk.lt
  refine en10 ?_
  simp -dsimp -implicitDefEqProofs only [m10, sF10, Nat.reduceEqDiff, ↓reduceIte, Nat.reduceAdd, Nat.reduceMul, Value.cells, Value.oneCell', eq_self, ne_eq, Int.reduceToNat, Int.reduceEq, Int.reduceLT, Int.reduceLE, Int.reduceNeg, if_true, if_false, reduceCtorEq, Nat.reduceSub, storeV_ptr, slcV_slice, ↓mwD, mwU]
  refine (samples_c _ L w hl).use ?_
  rintro r w' ⟨rfl, rfl⟩
  cases hsm : samplesB L
  · simp -dsimp -implicitDefEqProofs only [m10, sF10, Nat.reduceEqDiff, ↓reduceIte, Nat.reduceAdd, Nat.reduceMul, Value.cells, Value.oneCell', eq_self, ne_eq, Int.reduceToNat, Int.reduceEq, Int.reduceLT, Int.reduceLE, Int.reduceNeg, if_true, if_false, reduceCtorEq, Nat.reduceSub, storeV_ptr, slcV_slice, ↓mwD, mwU]
  · obtain ⟨hlen, hsmp⟩ := samples_smps hsm
    simp -dsimp -implicitDefEqProofs only [m10, sF10, Nat.reduceEqDiff, ↓reduceIte, Nat.reduceAdd, Nat.reduceMul, Value.cells, Value.oneCell', eq_self, ne_eq, Int.reduceToNat, Int.reduceEq, Int.reduceLT, Int.reduceLE, Int.reduceNeg, if_true, if_false, reduceCtorEq, Nat.reduceSub, storeV_ptr, slcV_slice, ↓mwD, mwU]
    refine mwpB_loop (fun e ds wl => ∃ n : Nat, n ≤ L.length ∧ e 18 = .int .i64 n ∧ e 17 = .int .i64 L.length ∧ e 16 = .slice p L.length cap ∧ e 0 = .pointer (some ⟨b, 0, none⟩) ∧ ds = [] ∧
      wl.ownsRow w'.heap.size 3 1 (e 6) n (ints (runU s (L.take n)).2) ∧ Ch F w' wl ∧ WorkAt wl wk F (runU s (L.take n)).1) (fun e _ => L.length - (intOf (e 18)).toNat) ?_ ?_
    · simp -dsimp -implicitDefEqProofs only [m10, sF10, Nat.reduceEqDiff, ↓reduceIte, Nat.reduceAdd, Nat.reduceMul, Value.cells, Value.oneCell', eq_self, ne_eq, Int.reduceToNat, Int.reduceEq, Int.reduceLT, Int.reduceLE, Int.reduceNeg, if_true, if_false, reduceCtorEq, Nat.reduceSub, storeV_ptr, slcV_slice, ↓mwD, mwU]
      exact ⟨0, by omega, rfl, World.ownsRow_nil _ _ _ _, Ch.refl _ _, hwk⟩
    · rintro e ds wl ⟨n, hn, h18, h17, h16, he0, rfl, hown, hch, hwl⟩
      simp -dsimp -implicitDefEqProofs only [h18, h17, h16, he0, m10, sF10, Nat.reduceEqDiff, ↓reduceIte, Nat.reduceAdd, Nat.reduceMul, Value.cells, Value.oneCell', eq_self, ne_eq, Int.reduceToNat, Int.reduceEq, Int.reduceLT, Int.reduceLE, Int.reduceNeg, if_true, if_false, reduceCtorEq, Nat.reduceSub, storeV_ptr, slcV_slice, ↓mwD, mwU]
      refine iteW_dec (fun hlt' => ?_) (fun hge => ?_)
      · have hnl : n < L.length := by omega
        obtain ⟨bl, ol, cl, hv, hcl⟩ := hl.some (by omega)
        cases hv
        have cn : wl.cell? ⟨bl, ol + n, none⟩ = some (.int .i64 L[n]) := hch.cell (hd (by rintro rfl; simp at hnl) bl rfl) (hcl n _ (by simp [hnl]))
        have hb1 : (0 : Int) ≤ n ∧ (n : Int) < L.length := by omega
        have cw := (hch.bk hbF hb).get h0
        have hw1 : IntKind.i64.wrap ((n : Int) + 1) = ((n + 1 : Nat) : Int) := by rw [w64 (by omega) (by omega)]; omega
        have hok := runU_ok (L.take n) s hs (fun x hx => hsmp x (List.mem_of_mem_take hx))
        obtain ⟨ti, pv, f, rfl, hme, hof, hst⟩ := step_any hwl hok.1 (hsmp L[n] (by simp))
        simp -dsimp -implicitDefEqProofs only [h18, h17, h16, he0, hb1, and_self, cn, cw, hme, hof, m10, sF10, Nat.reduceEqDiff, ↓reduceIte, Nat.reduceAdd, Nat.reduceMul, Value.cells, Value.oneCell', eq_self, ne_eq, Int.reduceToNat, Int.reduceEq, Int.reduceLT, Int.reduceLE, Int.reduceNeg, if_true, if_false, reduceCtorEq, Nat.reduceSub, storeV_ptr, slcV_slice, ↓mwD, mwU]
        refine hst.use ?_
        rintro r w1 ⟨rfl, hw1', hf1⟩
        simp -dsimp -implicitDefEqProofs only [h18, h17, h16, he0, bs_one, m10, sF10, Nat.reduceEqDiff, ↓reduceIte, Nat.reduceAdd, Nat.reduceMul, Value.cells, Value.oneCell', eq_self, ne_eq, Int.reduceToNat, Int.reduceEq, Int.reduceLT, Int.reduceLE, Int.reduceNeg, if_true, if_false, reduceCtorEq, Nat.reduceSub, storeV_ptr, slcV_slice, ↓mwD, mwU]
        have hown1 : w1.ownsRow w'.heap.size 3 1 (e 6) n (ints (runU s (L.take n)).2) := Own.same hown fun q hq _ => hf1.block q (fun hm => by have := hlt q hm; omega)
        have hsz : w'.heap.size ≤ w1.heap.size := by have := hch.size; have := hf1.size; omega
        obtain ⟨v2, w2, ha2, hown2, hg2⟩ := append_int hown1 (stepU (runU s (L.take n)).1 L[n]).2 (by omega) hsz
        refine appB.mk ha2 ?_
        simp -dsimp -implicitDefEqProofs only [h18, h17, h16, he0, hw1, m10, sF10, Nat.reduceEqDiff, ↓reduceIte, Nat.reduceAdd, Nat.reduceMul, Value.cells, Value.oneCell', eq_self, ne_eq, Int.reduceToNat, Int.reduceEq, Int.reduceLT, Int.reduceLE, Int.reduceNeg, if_true, if_false, reduceCtorEq, Nat.reduceSub, storeV_ptr, slcV_slice, ↓mwD, mwU]
        have hge := Own.ge hown1
        have hrun : runU s (L.take (n + 1)) = ((stepU (runU s (L.take n)).1 L[n]).1, (runU s (L.take n)).2 ++ [(stepU (runU s (L.take n)).1 L[n]).2]) := by
          rw [List.take_add_one, List.getElem?_eq_getElem hnl]; exact runU_snoc _ _ _
        refine ⟨⟨n + 1, by omega, rfl, by rw [hrun]; exact hown2, ((hch.trans hf1.ch).trans (Ext.ch (Ext.alloc _ _))).grown hg2 hge, ?_⟩, ?_⟩
        · rw [hrun]
          refine (hw1'.ext (Ext.alloc _ _)).same fun q hq => hg2.block q ?_ ?_
          · have := hlt q hq; simp; omega
          · intro he; have := hge q he.symm; have := hlt q hq; omega
        · simp only [intOf]; omega
      · have hnl : n = L.length := by omega
        subst hnl
        rw [List.take_length] at hown hwl
        simp -dsimp -implicitDefEqProofs only [h18, h17, h16, he0, m10, sF10, Nat.reduceEqDiff, ↓reduceIte, Nat.reduceAdd, Nat.reduceMul, Value.cells, Value.oneCell', eq_self, ne_eq, Int.reduceToNat, Int.reduceEq, Int.reduceLT, Int.reduceLE, Int.reduceNeg, if_true, if_false, reduceCtorEq, Nat.reduceSub, storeV_ptr, slcV_slice, ↓mwD, mwU]
        refine ⟨_, rfl, Own.sl hown, ⟨b, cs, wk, a, t, rfl, hch.bk hbF hb, hbF, h0, h1, h2, h3, hwl, ints_ch ha hch da, ints_ch ht hch dt, da, dt⟩, hch, Own.ge hown⟩

/-- A new unit: all its blocks are new. -/
def NewU (w : World) (k : Int) (A T : List Int) (v : Value) (w' : World) : Prop := ∃ F, UnitAt w' v F (initU k A T) k A T ∧ Ext w w' ∧ ∀ b ∈ F, w.heap.size ≤ b

theorem New_c (k : Int) (a t : Value) (A T : List Int) (w : World) (hA : SlI w a A) (hT : SlI w t T) :
    Rets Go.Proofs.Tryz.prog 9 #[.agg #[.int .i64 k, a, t]] w fun r w' => if validB k A T = true then ∃ v, r = .tuple #[v, .int .i64 0] ∧ NewU w k A T v w' else r = .tuple #[.pointer none, .int .i64 1] ∧ Ext w w' := by
  obtain ⟨pa, ca, rfl, _, _⟩ := hA.shape
  obtain ⟨pt, ct, rfl, _, _⟩ := hT.shape
  have hx : Ext w (w.alloc (.cells #[.int .i64 k, .slice pa A.length ca, .slice pt T.length ct] 24)) := Ext.alloc _ _
  refine en9 ?_
  simp -dsimp -implicitDefEqProofs only [m9, sF9, Nat.reduceEqDiff, ↓reduceIte, Nat.reduceAdd, Nat.reduceMul, Value.cells, Value.oneCell', eq_self, ne_eq, Int.reduceToNat, Int.reduceEq, Int.reduceLT, Int.reduceLE, Int.reduceNeg, if_true, if_false, reduceCtorEq, Nat.reduceSub, storeV_ptr, slcV_slice, ↓mwD, mwU]
  refine (Valid_c k _ _ A T _ (hA.ext hx) (hT.ext hx)).use ?_
  rintro r w1 ⟨rfl, he⟩
  have b0 := box_cell he (j := 0) rfl
  have b1 := box_cell he (j := 1) rfl
  have b2 := box_cell he (j := 2) rfl
  cases hv : validB k A T
  · simp -dsimp -implicitDefEqProofs only [m9, sF9, Nat.reduceEqDiff, ↓reduceIte, Nat.reduceAdd, Nat.reduceMul, Value.cells, Value.oneCell', eq_self, ne_eq, Int.reduceToNat, Int.reduceEq, Int.reduceLT, Int.reduceLE, Int.reduceNeg, if_true, if_false, reduceCtorEq, Nat.reduceSub, storeV_ptr, slcV_slice, ↓mwD, mwU]
    exact hx.trans he
  · simp -dsimp -implicitDefEqProofs only [b0, b1, b2, m9, sF9, Nat.reduceEqDiff, ↓reduceIte, Nat.reduceAdd, Nat.reduceMul, Value.cells, Value.oneCell', eq_self, ne_eq, Int.reduceToNat, Int.reduceEq, Int.reduceLT, Int.reduceLE, Int.reduceNeg, if_true, if_false, reduceCtorEq, Nat.reduceSub, storeV_ptr, slcV_slice, ↓mwD, mwU]
    refine (unit_c k _ _ A T w1 (valid_shape hv) (hA.ext (hx.trans he)) (hT.ext (hx.trans he))).use ?_
    rintro r w2 ⟨F, h1, h2, h3⟩
    simp -dsimp -implicitDefEqProofs only [m9, sF9, Nat.reduceEqDiff, ↓reduceIte, Nat.reduceAdd, Nat.reduceMul, Value.cells, Value.oneCell', eq_self, ne_eq, Int.reduceToNat, Int.reduceEq, Int.reduceLT, Int.reduceLE, Int.reduceNeg, if_true, if_false, reduceCtorEq, Nat.reduceSub, storeV_ptr, slcV_slice, ↓mwD, mwU]
    exact ⟨_, rfl, F, h1, (hx.trans he).trans h2, fun b hb => Nat.le_trans (hx.trans he).le (h3 b hb)⟩

/-- A slice of the world's blocks. -/
theorem Sl.block {w : World} {v : Value} {cs : List Value} (h : Sl w v cs) (hne : cs ≠ []) : ∀ q, v.ownBlock = some q → q < w.heap.size := by
  intro q hq
  obtain ⟨b, o, cap, rfl, _, _, hr⟩ := h.at hne
  simp only [Value.ownBlock, Option.some.injEq] at hq
  subst hq
  exact hr.block_lt hne

/-- What effect.Run makes of samples. -/
theorem ERun_c (k : Int) (a t : Value) (A T : List Int) (l : Value) (L : List Int) (w : World) (hA : SlI w a A) (hT : SlI w t T) (hl : SlI w l L) :
    Rets Go.Proofs.Tryz.prog 14 #[.agg #[.int .i64 k, a, t], l] w fun r w' => Ext w w' ∧ if (validB k A T && samplesB L) = true then ∃ o, r = .tuple #[o, .int .i64 0] ∧ SlI w' o (runU (initU k A T) L).2 else r = .tuple #[.slice none 0 0, .int .i64 1] := by
  obtain ⟨pa, ca, rfl, _, _⟩ := hA.shape
  obtain ⟨pt, ct, rfl, _, _⟩ := hT.shape
  obtain ⟨pl, cl, rfl, _, _⟩ := hl.shape
  have hx : Ext w (w.alloc (.cells #[.int .i64 k, .slice pa A.length ca, .slice pt T.length ct] 24)) := Ext.alloc _ _
  refine en14 ?_
  simp -dsimp -implicitDefEqProofs only [m14, sF14, Nat.reduceEqDiff, ↓reduceIte, Nat.reduceAdd, Nat.reduceMul, Value.cells, Value.oneCell', eq_self, ne_eq, Int.reduceToNat, Int.reduceEq, Int.reduceLT, Int.reduceLE, Int.reduceNeg, if_true, if_false, reduceCtorEq, Nat.reduceSub, storeV_ptr, slcV_slice, ↓mwD, mwU]
  refine (New_c k _ _ A T _ (hA.ext hx) (hT.ext hx)).use ?_
  rintro r w1 h
  cases hv : validB k A T
  · rw [hv] at h
    simp only [Bool.false_eq_true, if_false] at h
    obtain ⟨rfl, he⟩ := h
    simp -dsimp -implicitDefEqProofs only [m14, sF14, Nat.reduceEqDiff, ↓reduceIte, Nat.reduceAdd, Nat.reduceMul, Value.cells, Value.oneCell', eq_self, ne_eq, Int.reduceToNat, Int.reduceEq, Int.reduceLT, Int.reduceLE, Int.reduceNeg, if_true, if_false, reduceCtorEq, Nat.reduceSub, storeV_ptr, slcV_slice, ↓mwD, mwU]
    exact ⟨hx.trans he, by simp⟩
  · rw [hv] at h
    simp only [if_true] at h
    obtain ⟨v, rfl, F, hu, he, hF⟩ := h
    simp -dsimp -implicitDefEqProofs only [m14, sF14, Nat.reduceEqDiff, ↓reduceIte, Nat.reduceAdd, Nat.reduceMul, Value.cells, Value.oneCell', eq_self, ne_eq, Int.reduceToNat, Int.reduceEq, Int.reduceLT, Int.reduceLE, Int.reduceNeg, if_true, if_false, reduceCtorEq, Nat.reduceSub, storeV_ptr, slcV_slice, ↓mwD, mwU]
    refine (URun_c hu (initU_ok (valid_shape hv)) (hl.ext (hx.trans he)) (fun hne q hq hm => ?_)).use ?_
    · have h1 := Sl.block (cs := ints L) hl (by simpa [ints] using hne) q hq
      have h2 := hF q hm
      have h3 := hx.le
      omega
    rintro r w2 h
    cases hs : samplesB L
    · rw [hs] at h
      simp only [Bool.false_eq_true, if_false] at h
      obtain ⟨rfl, rfl⟩ := h
      simp -dsimp -implicitDefEqProofs only [m14, sF14, Nat.reduceEqDiff, ↓reduceIte, Nat.reduceAdd, Nat.reduceMul, Value.cells, Value.oneCell', eq_self, ne_eq, Int.reduceToNat, Int.reduceEq, Int.reduceLT, Int.reduceLE, Int.reduceNeg, if_true, if_false, reduceCtorEq, Nat.reduceSub, storeV_ptr, slcV_slice, ↓mwD, mwU]
      exact ⟨hx.trans he, by simp⟩
    · rw [hs] at h
      simp only [if_true] at h
      obtain ⟨o, rfl, ho, hu2, hc, _⟩ := h
      simp -dsimp -implicitDefEqProofs only [m14, sF14, Nat.reduceEqDiff, ↓reduceIte, Nat.reduceAdd, Nat.reduceMul, Value.cells, Value.oneCell', eq_self, ne_eq, Int.reduceToNat, Int.reduceEq, Int.reduceLT, Int.reduceLE, Int.reduceNeg, if_true, if_false, reduceCtorEq, Nat.reduceSub, storeV_ptr, slcV_slice, ↓mwD, mwU]
      exact ⟨hc.ext (hx.trans he) fun b hb => Nat.le_trans hx.le (hF b hb), by simp only [Bool.and_self, if_true]; exact ⟨o, rfl, ho⟩⟩

/-- The level that a unit tells. -/
def levU : US → Int
  | .press _ _ _ _ lev => lev
  | .look _ _ _ _ lev _ => lev
  | _ => 0

theorem Level_c {w : World} {v : Value} {F : List Nat} {s : US} {k : Int} {A T : List Int} (hu : UnitAt w v F s k A T) : Rets Go.Proofs.Tryz.prog 17 #[v] w fun r w' => r = .int .i64 (levU s) ∧ w' = w := by
  obtain ⟨b, cs, wk, a, t, rfl, hb, hbF, h0, h1, h2, h3, hwk, ha, ht, da, dt⟩ := hu
  have c0 := hb.get h0
  refine en17 ?_
  cases s with
  | press th ra at_ re lev =>
    obtain ⟨b1, cs1, rfl, rfl, hb1, g0, g1, g2, g3, g4⟩ := hwk
    have c4 := hb1.get g4
    simp -dsimp -implicitDefEqProofs only [c0, c4, m17, sF17, Nat.reduceEqDiff, ↓reduceIte, Nat.reduceAdd, Nat.reduceMul, Value.cells, Value.oneCell', eq_self, ne_eq, Int.reduceToNat, Int.reduceEq, Int.reduceLT, Int.reduceLE, Int.reduceNeg, if_true, if_false, reduceCtorEq, Nat.reduceSub, storeV_ptr, slcV_slice, ↓mwD, mwU]
    rfl
  | look th ra at_ re lev l =>
    obtain ⟨b1, r1, cs1, rfl, rfl, hh, g0, g1, g2, g3, g4⟩ := hwk
    obtain ⟨_, _, hb1, _⟩ := hh
    have c4 := hb1.get g4
    simp -dsimp -implicitDefEqProofs only [c0, c4, m17, sF17, Nat.reduceEqDiff, ↓reduceIte, Nat.reduceAdd, Nat.reduceMul, Value.cells, Value.oneCell', eq_self, ne_eq, Int.reduceToNat, Int.reduceEq, Int.reduceLT, Int.reduceLE, Int.reduceNeg, if_true, if_false, reduceCtorEq, Nat.reduceSub, storeV_ptr, slcV_slice, ↓mwD, mwU]
    rfl
  | gain g =>
    obtain ⟨b1, rfl, rfl, hb1⟩ := hwk
    simp -dsimp -implicitDefEqProofs only [c0, m17, sF17, Nat.reduceEqDiff, ↓reduceIte, Nat.reduceAdd, Nat.reduceMul, Value.cells, Value.oneCell', eq_self, ne_eq, Int.reduceToNat, Int.reduceEq, Int.reduceLT, Int.reduceLE, Int.reduceNeg, if_true, if_false, reduceCtorEq, Nat.reduceSub, storeV_ptr, slcV_slice, ↓mwD, mwU]
    rfl
  | delay l =>
    obtain ⟨b1, r1, cs1, rfl, rfl, hb1⟩ := hwk
    simp -dsimp -implicitDefEqProofs only [c0, m17, sF17, Nat.reduceEqDiff, ↓reduceIte, Nat.reduceAdd, Nat.reduceMul, Value.cells, Value.oneCell', eq_self, ne_eq, Int.reduceToNat, Int.reduceEq, Int.reduceLT, Int.reduceLE, Int.reduceNeg, if_true, if_false, reduceCtorEq, Nat.reduceSub, storeV_ptr, slcV_slice, ↓mwD, mwU]
    rfl
  | echo l g =>
    obtain ⟨b1, r1, cs1, rfl, rfl, hb1⟩ := hwk
    simp -dsimp -implicitDefEqProofs only [c0, m17, sF17, Nat.reduceEqDiff, ↓reduceIte, Nat.reduceAdd, Nat.reduceMul, Value.cells, Value.oneCell', eq_self, ne_eq, Int.reduceToNat, Int.reduceEq, Int.reduceLT, Int.reduceLE, Int.reduceNeg, if_true, if_false, reduceCtorEq, Nat.reduceSub, storeV_ptr, slcV_slice, ↓mwD, mwU]
    rfl
  | filter l T =>
    obtain ⟨b1, r1, q1, cs1, o1, cap1, rfl, rfl, hb1⟩ := hwk
    simp -dsimp -implicitDefEqProofs only [c0, m17, sF17, Nat.reduceEqDiff, ↓reduceIte, Nat.reduceAdd, Nat.reduceMul, Value.cells, Value.oneCell', eq_self, ne_eq, Int.reduceToNat, Int.reduceEq, Int.reduceLT, Int.reduceLE, Int.reduceNeg, if_true, if_false, reduceCtorEq, Nat.reduceSub, storeV_ptr, slcV_slice, ↓mwD, mwU]
    rfl
  | gate th hold since =>
    obtain ⟨b1, rfl, rfl, hb1⟩ := hwk
    simp -dsimp -implicitDefEqProofs only [c0, m17, sF17, Nat.reduceEqDiff, ↓reduceIte, Nat.reduceAdd, Nat.reduceMul, Value.cells, Value.oneCell', eq_self, ne_eq, Int.reduceToNat, Int.reduceEq, Int.reduceLT, Int.reduceLE, Int.reduceNeg, if_true, if_false, reduceCtorEq, Nat.reduceSub, storeV_ptr, slcV_slice, ↓mwD, mwU]
    rfl

/-- Too long for the law? -/
def longB (A T L : List Int) : Bool := decide (20 < A.length) || decide (600 < T.length) || (decide (700 < L.length) && decide (L.length ≤ 4096)) || decide (5000 < L.length)

theorem long_c (k : Int) (a t : Value) (A T : List Int) (l : Value) (L : List Int) (w : World) (hA : SlI w a A) (hT : SlI w t T) (hl : SlI w l L) :
    Rets Go.Proofs.Tryz.prog 8 #[.agg #[.int .i64 k, a, t], l] w fun r w' => r = .bool (longB A T L) ∧ Ext w w' := by
  obtain ⟨pa, ca, rfl, _, _⟩ := hA.shape
  obtain ⟨pt, ct, rfl, _, _⟩ := hT.shape
  obtain ⟨pl, cl, rfl, _, _⟩ := hl.shape
  refine en8 ?_
  have hx : Ext w (w.alloc (.cells #[.int .i64 k, .slice pa A.length ca, .slice pt T.length ct] 24)) := Ext.alloc _ _
  simp -dsimp -implicitDefEqProofs only [m8, sF8, Nat.reduceEqDiff, ↓reduceIte, Nat.reduceAdd, Nat.reduceMul, Value.cells, Value.oneCell', eq_self, ne_eq, Int.reduceToNat, Int.reduceEq, Int.reduceLT, Int.reduceLE, Int.reduceNeg, if_true, if_false, reduceCtorEq, Nat.reduceSub, storeV_ptr, slcV_slice, ↓mwD, mwU]
  refine iteW_dec (fun h1 => ?_) (fun h1 => ?_)
  · have e1 : 20 < A.length := by omega
    simp -dsimp -implicitDefEqProofs only [h1, m8, sF8, Nat.reduceEqDiff, ↓reduceIte, Nat.reduceAdd, Nat.reduceMul, Value.cells, Value.oneCell', eq_self, ne_eq, Int.reduceToNat, Int.reduceEq, Int.reduceLT, Int.reduceLE, Int.reduceNeg, if_true, if_false, reduceCtorEq, Nat.reduceSub, storeV_ptr, slcV_slice, ↓mwD, mwU]
    exact ⟨by simp [longB, e1], hx⟩
  have e1 : ¬ 20 < A.length := by omega
  simp -dsimp -implicitDefEqProofs only [h1, m8, sF8, Nat.reduceEqDiff, ↓reduceIte, Nat.reduceAdd, Nat.reduceMul, Value.cells, Value.oneCell', eq_self, ne_eq, Int.reduceToNat, Int.reduceEq, Int.reduceLT, Int.reduceLE, Int.reduceNeg, if_true, if_false, reduceCtorEq, Nat.reduceSub, storeV_ptr, slcV_slice, ↓mwD, mwU]
  refine iteW_dec (fun h2 => ?_) (fun h2 => ?_)
  · have e2 : 600 < T.length := by omega
    simp -dsimp -implicitDefEqProofs only [h1, h2, m8, sF8, Nat.reduceEqDiff, ↓reduceIte, Nat.reduceAdd, Nat.reduceMul, Value.cells, Value.oneCell', eq_self, ne_eq, Int.reduceToNat, Int.reduceEq, Int.reduceLT, Int.reduceLE, Int.reduceNeg, if_true, if_false, reduceCtorEq, Nat.reduceSub, storeV_ptr, slcV_slice, ↓mwD, mwU]
    exact ⟨by simp [longB, e2], hx⟩
  have e2 : ¬ 600 < T.length := by omega
  simp -dsimp -implicitDefEqProofs only [h1, h2, m8, sF8, Nat.reduceEqDiff, ↓reduceIte, Nat.reduceAdd, Nat.reduceMul, Value.cells, Value.oneCell', eq_self, ne_eq, Int.reduceToNat, Int.reduceEq, Int.reduceLT, Int.reduceLE, Int.reduceNeg, if_true, if_false, reduceCtorEq, Nat.reduceSub, storeV_ptr, slcV_slice, ↓mwD, mwU]
  refine iteW_dec (fun h3 => ?_) (fun h3 => ?_)
  · have e3 : 700 < L.length := by omega
    simp -dsimp -implicitDefEqProofs only [h1, h2, h3, m8, sF8, Nat.reduceEqDiff, ↓reduceIte, Nat.reduceAdd, Nat.reduceMul, Value.cells, Value.oneCell', eq_self, ne_eq, Int.reduceToNat, Int.reduceEq, Int.reduceLT, Int.reduceLE, Int.reduceNeg, if_true, if_false, reduceCtorEq, Nat.reduceSub, storeV_ptr, slcV_slice, ↓mwD, mwU]
    refine iteW_dec (fun h4 => ?_) (fun h4 => ?_)
    · have e4 : L.length ≤ 4096 := by omega
      simp -dsimp -implicitDefEqProofs only [h1, h2, h3, h4, m8, sF8, Nat.reduceEqDiff, ↓reduceIte, Nat.reduceAdd, Nat.reduceMul, Value.cells, Value.oneCell', eq_self, ne_eq, Int.reduceToNat, Int.reduceEq, Int.reduceLT, Int.reduceLE, Int.reduceNeg, if_true, if_false, reduceCtorEq, Nat.reduceSub, storeV_ptr, slcV_slice, ↓mwD, mwU]
      exact ⟨by simp [longB, e3, e4], hx⟩
    · have e4 : ¬ L.length ≤ 4096 := by omega
      simp -dsimp -implicitDefEqProofs only [h1, h2, h3, h4, m8, sF8, Nat.reduceEqDiff, ↓reduceIte, Nat.reduceAdd, Nat.reduceMul, Value.cells, Value.oneCell', eq_self, ne_eq, Int.reduceToNat, Int.reduceEq, Int.reduceLT, Int.reduceLE, Int.reduceNeg, if_true, if_false, reduceCtorEq, Nat.reduceSub, storeV_ptr, slcV_slice, ↓mwD, mwU]
      refine ⟨?_, hx⟩
      rw [Value.bool.injEq, longB, decide_eq_false e1, decide_eq_false e2, decide_eq_false e4]
      simp only [Bool.false_or, Bool.and_false, decide_eq_decide]
      omega
  · have e3 : ¬ 700 < L.length := by omega
    simp -dsimp -implicitDefEqProofs only [h1, h2, h3, m8, sF8, Nat.reduceEqDiff, ↓reduceIte, Nat.reduceAdd, Nat.reduceMul, Value.cells, Value.oneCell', eq_self, ne_eq, Int.reduceToNat, Int.reduceEq, Int.reduceLT, Int.reduceLE, Int.reduceNeg, if_true, if_false, reduceCtorEq, Nat.reduceSub, storeV_ptr, slcV_slice, ↓mwD, mwU]
    refine ⟨?_, hx⟩
    rw [Value.bool.injEq, longB, decide_eq_false e1, decide_eq_false e2, decide_eq_false e3]
    simp only [Bool.false_or, Bool.false_and, decide_eq_decide]
    omega

theorem UnitAt.lt {w : World} {v : Value} {F : List Nat} {s : US} {k : Int} {A T : List Int} (h : UnitAt w v F s k A T) : ∀ b ∈ F, b < w.heap.size := by
  obtain ⟨b, cs, wk, a, t, rfl, hb, hbF, h0, h1, h2, h3, hwk, ha, ht, da, dt⟩ := h
  exact hwk.lt
theorem UnitAt.ext {w w' : World} {v : Value} {F : List Nat} {s : US} {k : Int} {A T : List Int} (h : UnitAt w v F s k A T) (he : Ext w w') : UnitAt w' v F s k A T := by
  obtain ⟨b, cs, wk, a, t, rfl, hb, hbF, h0, h1, h2, h3, hwk, ha, ht, da, dt⟩ := h
  exact ⟨b, cs, wk, a, t, rfl, hb.ext he, hbF, h0, h1, h2, h3, hwk.ext he, ha.ext he, ht.ext he, da, dt⟩

theorem sl_new (w : World) (xs : List Int) (n : Nat) (hn : n = xs.length) (hm : n ≤ 4096) : SlI (w.alloc (.cells (ints xs).toArray 3)) (.slice (some ⟨w.heap.size, 0, none⟩) n n) xs := by
  subst hn
  exact .inr ⟨_, 0, _, by rw [ints_length], by rw [ints_length]; exact Nat.le_refl _, by unfold maxLen; omega, row_new _ _ _⟩

theorem bs_echo : buildS Go.Proofs.Tryz.prog 22 2 [(0, .int .i64 2), (1, .int .i64 32768)] = some (3, #[.int .i64 2, .int .i64 32768]) := by kernel_rfl
theorem bs_in : buildS Go.Proofs.Tryz.prog 22 5 [(0, .int .i64 100), (1, .int .i64 0), (2, .int .i64 0), (3, .int .i64 0), (4, .int .i64 0)] = some (3, #[.int .i64 100, .int .i64 0, .int .i64 0, .int .i64 0, .int .i64 0]) := by kernel_rfl
theorem bs_press : buildS Go.Proofs.Tryz.prog 22 4 [(0, .int .i64 100), (1, .int .i64 131072), (2, .int .i64 65536), (3, .int .i64 65536)] = some (3, #[.int .i64 100, .int .i64 131072, .int .i64 65536, .int .i64 65536]) := by kernel_rfl
theorem bs_300 : buildS Go.Proofs.Tryz.prog 22 1 [(0, .int .i64 300)] = some (3, #[.int .i64 300]) := bs_one 300
theorem bv_eff (k : Int) (b n : Nat) : buildV Go.Proofs.Tryz.prog 24 [(0, .int .i64 k), (1, .slice (some ⟨b, 0, none⟩) n n)] = some (.agg #[.int .i64 k, .slice (some ⟨b, 0, none⟩) n n, .slice none 0 0]) := by kernel_rfl

/-- The law's own example. -/
theorem awake_c (w : World) : Rets Go.Proofs.Tryz.prog 7 #[] w fun r w' => r = .bool true ∧ Ext w w' := by
  refine en7 ?_
  simp -dsimp -implicitDefEqProofs only [bs_echo, bv_eff, bs_in, m7, sF7, Nat.reduceEqDiff, ↓reduceIte, Nat.reduceAdd, Nat.reduceMul, Value.cells, Value.oneCell', eq_self, ne_eq, Int.reduceToNat, Int.reduceEq, Int.reduceLT, Int.reduceLE, Int.reduceNeg, if_true, if_false, reduceCtorEq, Nat.reduceSub, storeV_ptr, slcV_slice, ↓mwD, mwU]
  generalize hW : World.alloc (World.alloc w _) _ = W
  have he : Ext w W := by rw [← hW]; exact (Ext.alloc _ _).alloc' _
  have hA : SlI W (.slice (some ⟨w.heap.size, 0, none⟩) 2 2) [2, 32768] := by rw [← hW]; exact (sl_new w [2, 32768] 2 rfl (by omega)).ext (Ext.alloc _ _)
  have hL : SlI W (.slice (some ⟨(w.alloc (.cells #[.int .i64 2, .int .i64 32768] 3)).heap.size, 0, none⟩) 5 5) [100, 0, 0, 0, 0] := by
    rw [← hW]; exact sl_new (w.alloc (.cells #[.int .i64 2, .int .i64 32768] 3)) [100, 0, 0, 0, 0] 5 rfl (by omega)
  refine (ERun_c 3 _ _ [2, 32768] [] _ [100, 0, 0, 0, 0] W hA (SlI.nil _) hL).use ?_
  rintro r w1 ⟨he1, h⟩
  rw [if_pos (by decide)] at h
  obtain ⟨o, rfl, ho⟩ := h
  have e : (runU (initU 3 [2, 32768] []) [100, 0, 0, 0, 0]).2 = [100, 0, 50, 0, 25] := by decide
  rw [e] at ho
  obtain ⟨b, oo, cap, rfl, hc⟩ := ho.some (by simp)
  have c0 := hc 0 100 rfl
  have c2 := hc 2 50 rfl
  have c4 := hc 4 25 rfl
  simp only [Nat.add_zero] at c0
  simp -dsimp -implicitDefEqProofs only [c0, c2, c4, bs_press, bv_eff, m7, sF7, Nat.reduceEqDiff, ↓reduceIte, Nat.reduceAdd, Nat.reduceMul, Value.cells, Value.oneCell', eq_self, ne_eq, Int.reduceToNat, Int.reduceEq, Int.reduceLT, Int.reduceLE, Int.reduceNeg, if_true, if_false, reduceCtorEq, Nat.reduceSub, storeV_ptr, slcV_slice, ↓mwD, mwU]
  have hA2 := sl_new w1 [100, 131072, 65536, 65536] 4 rfl (by omega)
  refine (New_c 5 _ _ [100, 131072, 65536, 65536] [] _ hA2 (SlI.nil _)).use ?_
  rintro r w2 h
  rw [if_pos (by decide)] at h
  obtain ⟨v, rfl, F, hu, he2, hF⟩ := h
  obtain ⟨bu, hv⟩ : ∃ bu, v = .pointer (some ⟨bu, 0, none⟩) := by obtain ⟨b, _, _, _, _, h, _⟩ := hu; exact ⟨b, h⟩
  subst hv
  have hlt := hu.lt
  simp -dsimp -implicitDefEqProofs only [bs_300, m7, sF7, Nat.reduceEqDiff, ↓reduceIte, Nat.reduceAdd, Nat.reduceMul, Value.cells, Value.oneCell', eq_self, ne_eq, Int.reduceToNat, Int.reduceEq, Int.reduceLT, Int.reduceLE, Int.reduceNeg, if_true, if_false, reduceCtorEq, Nat.reduceSub, storeV_ptr, slcV_slice, ↓mwD, mwU]
  refine (URun_c (hu.ext (Ext.alloc _ _)) (initU_ok (valid_shape (by decide))) (sl_new w2 [300] 1 rfl (by omega)) (fun _ q hq hm => ?_)).use ?_
  · simp only [Value.ownBlock, Option.some.injEq] at hq
    have := hlt q hm
    omega
  rintro r w3 h
  rw [if_pos (by decide)] at h
  obtain ⟨o, rfl, ho3, hu3, hch, _⟩ := h
  have e3 : (runU (initU 5 [100, 131072, 65536, 65536] []) [300]).2 = [200] := by decide
  rw [e3] at ho3
  obtain ⟨b3, o3, cap3, rfl, hc3⟩ := ho3.some (by simp)
  have d0 := hc3 0 200 rfl
  simp only [Nat.add_zero] at d0
  have hE : Ext w w3 := hch.ext ((((he.trans he1).alloc' _).trans he2).alloc' _) fun b hb => by
    have h1 := hF b hb
    have h2 := ((he.trans he1).alloc' (.cells (ints [100, 131072, 65536, 65536]).toArray 3)).le
    omega
  simp -dsimp -implicitDefEqProofs only [d0, m7, sF7, Nat.reduceEqDiff, ↓reduceIte, Nat.reduceAdd, Nat.reduceMul, Value.cells, Value.oneCell', eq_self, ne_eq, Int.reduceToNat, Int.reduceEq, Int.reduceLT, Int.reduceLE, Int.reduceNeg, if_true, if_false, reduceCtorEq, Nat.reduceSub, storeV_ptr, slcV_slice, ↓mwD, mwU]
  refine (Level_c hu3).use ?_
  rintro r w4 ⟨rfl, rfl⟩
  have e4 : levU (runU (initU 5 [100, 131072, 65536, 65536] []) [300]).1 = 300 := by decide
  rw [e4]
  simp -dsimp -implicitDefEqProofs only [m7, sF7, Nat.reduceEqDiff, ↓reduceIte, Nat.reduceAdd, Nat.reduceMul, Value.cells, Value.oneCell', eq_self, ne_eq, Int.reduceToNat, Int.reduceEq, Int.reduceLT, Int.reduceLE, Int.reduceNeg, if_true, if_false, reduceCtorEq, Nat.reduceSub, storeV_ptr, slcV_slice, ↓mwD, mwU]
  exact hE

end Go.Proofs.YtefcfnmmpnjjjaaGreatDoor

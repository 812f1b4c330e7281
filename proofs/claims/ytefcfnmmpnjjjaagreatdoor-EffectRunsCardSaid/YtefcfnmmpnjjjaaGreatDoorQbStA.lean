/- States of units: the numbers that a work tells, and takes. -/
import Derived.Test.YtefcfnmmpnjjjaaGreatDoorQbEffX0
import Derived.Test.YtefcfnmmpnjjjaaGreatDoorQbEffJ
namespace Go.Proofs.YtefcfnmmpnjjjaaGreatDoor
open Go.RowKit
set_option linter.unusedSimpArgs false

/-- The numbers that a work must know to go on. -/
def numsU : US → List Int
  | .gain _ => []
  | .delay h => h
  | .echo h _ => h
  | .filter h _ => h
  | .press _ _ _ _ lev => [lev]
  | .gate _ _ since => [since]
  | .look _ _ _ _ lev h => lev :: h
/-- The same work with other numbers. -/
def resU : US → List Int → US
  | .gain g, _ => .gain g
  | .delay h, l => .delay (fillL h.length l)
  | .echo h g, l => .echo (fillL h.length l) g
  | .filter h T, l => .filter (fillL h.length l) T
  | .press th ra at_ re _, l => .press th ra at_ re (l.getD 0 0)
  | .gate th hold _, l => .gate th hold (l.getD 0 0)
  | .look th ra at_ re _ h, l => .look th ra at_ re (l.getD 0 0) (fillL h.length (l.drop 1))
/-- How many numbers it tells. -/
def lenU (s : US) : Nat := (numsU s).length
theorem fillL_self (h : List Int) (l : List Int) (hl : l.length = h.length) : fillL h.length l = l := by
  unfold fillL
  rw [← hl, List.take_length, Nat.sub_self]; simp
/-- What telling a work's numbers comes to. -/
def StateR (s : US) (w : World) (r : Value) (w' : World) : Prop := SlI w' r (numsU s) ∧ Ext w w' ∧ ∀ q, r.ownBlock = some q → w.heap.size ≤ q
theorem state_gain {w : World} {v : Value} {F : List Nat} {g : Int} (hw : WorkAt w v F (.gain g)) : ∃ p, v = .iface 146 p ∧ Rets Go.Proofs.Tryz.prog 186 #[p] w (StateR (.gain g) w) := by
  obtain ⟨b, rfl, rfl, hb⟩ := hw
  refine ⟨_, rfl, ?_⟩
  refine en186 ?_
  simp -dsimp -implicitDefEqProofs only [m186, Nat.reduceEqDiff, ↓reduceIte, Nat.reduceAdd, Nat.reduceMul, Value.cells, Value.oneCell', eq_self, ne_eq, Int.reduceToNat, Int.reduceEq, Int.reduceLT, Int.reduceLE, Int.reduceNeg, if_true, if_false, reduceCtorEq, Nat.reduceSub, storeV_ptr, slcV_slice, ↓mwD, mwU]
  exact ⟨SlI.nil w, Ext.refl _, fun q h => by simp [Value.ownBlock] at h⟩
theorem state_delay {w : World} {v : Value} {F : List Nat} {h : List Int} (hw : WorkAt w v F (.delay h)) : ∃ p, v = .iface 150 p ∧ Rets Go.Proofs.Tryz.prog 189 #[p] w (StateR (.delay h) w) := by
  obtain ⟨b, r, cs, rfl, rfl, hh⟩ := hw
  refine ⟨_, rfl, ?_⟩
  refine en189 ?_
  simp -dsimp -implicitDefEqProofs only [m189, sF189, Nat.reduceEqDiff, ↓reduceIte, Nat.reduceAdd, Nat.reduceMul, Value.cells, Value.oneCell', eq_self, ne_eq, Int.reduceToNat, Int.reduceEq, Int.reduceLT, Int.reduceLE, Int.reduceNeg, if_true, if_false, reduceCtorEq, Nat.reduceSub, storeV_ptr, slcV_slice, ↓mwD, mwU]
  refine (all_c b 0 r _ _ _ w hh).use ?_
  rintro rv w1 ⟨ho, he⟩
  simp -dsimp -implicitDefEqProofs only [m189, sF189, Nat.reduceEqDiff, ↓reduceIte, Nat.reduceAdd, Nat.reduceMul, Value.cells, Value.oneCell', eq_self, ne_eq, Int.reduceToNat, Int.reduceEq, Int.reduceLT, Int.reduceLE, Int.reduceNeg, if_true, if_false, reduceCtorEq, Nat.reduceSub, storeV_ptr, slcV_slice, ↓mwD, mwU]
  exact ⟨ow_sl ho, he, Own.ge ho⟩
theorem state_echo {w : World} {v : Value} {F : List Nat} {h : List Int} {g : Int} (hw : WorkAt w v F (.echo h g)) : ∃ p, v = .iface 154 p ∧ Rets Go.Proofs.Tryz.prog 192 #[p] w (StateR (.echo h g) w) := by
  obtain ⟨b, r, cs, rfl, rfl, hh, _⟩ := hw
  refine ⟨_, rfl, ?_⟩
  refine en192 ?_
  simp -dsimp -implicitDefEqProofs only [m192, sF192, Nat.reduceEqDiff, ↓reduceIte, Nat.reduceAdd, Nat.reduceMul, Value.cells, Value.oneCell', eq_self, ne_eq, Int.reduceToNat, Int.reduceEq, Int.reduceLT, Int.reduceLE, Int.reduceNeg, if_true, if_false, reduceCtorEq, Nat.reduceSub, storeV_ptr, slcV_slice, ↓mwD, mwU]
  refine (all_c b 0 r _ _ _ w hh).use ?_
  rintro rv w1 ⟨ho, he⟩
  simp -dsimp -implicitDefEqProofs only [m192, sF192, Nat.reduceEqDiff, ↓reduceIte, Nat.reduceAdd, Nat.reduceMul, Value.cells, Value.oneCell', eq_self, ne_eq, Int.reduceToNat, Int.reduceEq, Int.reduceLT, Int.reduceLE, Int.reduceNeg, if_true, if_false, reduceCtorEq, Nat.reduceSub, storeV_ptr, slcV_slice, ↓mwD, mwU]
  exact ⟨ow_sl ho, he, Own.ge ho⟩
theorem state_filter {w : World} {v : Value} {F : List Nat} {h T : List Int} (hw : WorkAt w v F (.filter h T)) : ∃ p, v = .iface 157 p ∧ Rets Go.Proofs.Tryz.prog 195 #[p] w (StateR (.filter h T) w) := by
  obtain ⟨b, r, q, cs, o, cap, rfl, rfl, hh, _⟩ := hw
  refine ⟨_, rfl, ?_⟩
  refine en195 ?_
  simp -dsimp -implicitDefEqProofs only [m195, sF195, Nat.reduceEqDiff, ↓reduceIte, Nat.reduceAdd, Nat.reduceMul, Value.cells, Value.oneCell', eq_self, ne_eq, Int.reduceToNat, Int.reduceEq, Int.reduceLT, Int.reduceLE, Int.reduceNeg, if_true, if_false, reduceCtorEq, Nat.reduceSub, storeV_ptr, slcV_slice, ↓mwD, mwU]
  refine (all_c b 0 r _ _ _ w hh).use ?_
  rintro rv w1 ⟨ho, he⟩
  simp -dsimp -implicitDefEqProofs only [m195, sF195, Nat.reduceEqDiff, ↓reduceIte, Nat.reduceAdd, Nat.reduceMul, Value.cells, Value.oneCell', eq_self, ne_eq, Int.reduceToNat, Int.reduceEq, Int.reduceLT, Int.reduceLE, Int.reduceNeg, if_true, if_false, reduceCtorEq, Nat.reduceSub, storeV_ptr, slcV_slice, ↓mwD, mwU]
  exact ⟨ow_sl ho, he, Own.ge ho⟩
theorem sl_one (w : World) (x : Int) : SlI (w.alloc (.cells #[.int .i64 x] 3)) (.slice (some ⟨w.heap.size, 0, none⟩) 1 1) [x] :=
  .inr ⟨_, 0, _, rfl, Nat.le_refl _, by unfold maxLen; omega, row_new _ [.int .i64 x] _⟩
theorem state_press {w : World} {v : Value} {F : List Nat} {th ra at_ re lev : Int} (hw : WorkAt w v F (.press th ra at_ re lev)) : ∃ p, v = .iface 96 p ∧ Rets Go.Proofs.Tryz.prog 179 #[p] w (StateR (.press th ra at_ re lev) w) := by
  obtain ⟨b, cs, rfl, rfl, hb, h0, h1, h2, h3, h4⟩ := hw
  have c0 := hb.get h4
  refine ⟨_, rfl, ?_⟩
  refine en179 ?_
  simp -dsimp -implicitDefEqProofs only [c0, bs_one, m179, sF179, Nat.reduceEqDiff, ↓reduceIte, Nat.reduceAdd, Nat.reduceMul, Value.cells, Value.oneCell', eq_self, ne_eq, Int.reduceToNat, Int.reduceEq, Int.reduceLT, Int.reduceLE, Int.reduceNeg, if_true, if_false, reduceCtorEq, Nat.reduceSub, storeV_ptr, slcV_slice, ↓mwD, mwU]
  exact ⟨sl_one w _, Ext.alloc _ _, fun q h => by simp [Value.ownBlock] at h; omega⟩
theorem state_gate {w : World} {v : Value} {F : List Nat} {th hold since : Int} (hw : WorkAt w v F (.gate th hold since)) : ∃ p, v = .iface 161 p ∧ Rets Go.Proofs.Tryz.prog 198 #[p] w (StateR (.gate th hold since) w) := by
  obtain ⟨b, rfl, rfl, hb⟩ := hw
  have c0 := hb.get (o := 2) rfl
  refine ⟨_, rfl, ?_⟩
  refine en198 ?_
  simp -dsimp -implicitDefEqProofs only [c0, bs_one, m198, sF198, Nat.reduceEqDiff, ↓reduceIte, Nat.reduceAdd, Nat.reduceMul, Value.cells, Value.oneCell', eq_self, ne_eq, Int.reduceToNat, Int.reduceEq, Int.reduceLT, Int.reduceLE, Int.reduceNeg, if_true, if_false, reduceCtorEq, Nat.reduceSub, storeV_ptr, slcV_slice, ↓mwD, mwU]
  exact ⟨sl_one w _, Ext.alloc _ _, fun q h => by simp [Value.ownBlock] at h; omega⟩
theorem state_look {w : World} {v : Value} {F : List Nat} {th ra at_ re lev : Int} {h : List Int} (hlen : h.length ≤ 4096) (hw : WorkAt w v F (.look th ra at_ re lev h)) : ∃ p, v = .iface 101 p ∧ Rets Go.Proofs.Tryz.prog 183 #[p] w (StateR (.look th ra at_ re lev h) w) := by
  obtain ⟨b, r, cs, rfl, rfl, hh, h0, h1, h2, h3, h4⟩ := hw
  refine ⟨_, rfl, ?_⟩
  have hb := hh.bk
  have c0 := hb.get h4
  have l0 : ∀ (w' : World), w'.cell? ⟨b, 4, none⟩ = some (.int .i64 lev) → Rets Go.Proofs.Tryz.prog 181 #[.pointer (some ⟨b, 0, none⟩)] w' fun r w'' => r = .int .i64 lev ∧ w'' = w' := fun w' hc => by
    refine en181 ?_
    simp -dsimp -implicitDefEqProofs only [hc, m181, sF181, Nat.reduceEqDiff, ↓reduceIte, Nat.reduceAdd, Nat.reduceMul, Value.cells, Value.oneCell', eq_self, ne_eq, Int.reduceToNat, Int.reduceEq, Int.reduceLT, Int.reduceLE, Int.reduceNeg, if_true, if_false, reduceCtorEq, Nat.reduceSub, storeV_ptr, slcV_slice, ↓mwD, mwU]
  refine en183 ?_
  simp -dsimp -implicitDefEqProofs only [m183, sF183, Nat.reduceEqDiff, ↓reduceIte, Nat.reduceAdd, Nat.reduceMul, Value.cells, Value.oneCell', eq_self, ne_eq, Int.reduceToNat, Int.reduceEq, Int.reduceLT, Int.reduceLE, Int.reduceNeg, if_true, if_false, reduceCtorEq, Nat.reduceSub, storeV_ptr, slcV_slice, ↓mwD, mwU]
  refine mwpB_drawE ?_
  simp -dsimp -implicitDefEqProofs only [m183, sF183, Nat.reduceEqDiff, ↓reduceIte, Nat.reduceAdd, Nat.reduceMul, Value.cells, Value.oneCell', eq_self, ne_eq, Int.reduceToNat, Int.reduceEq, Int.reduceLT, Int.reduceLE, Int.reduceNeg, if_true, if_false, reduceCtorEq, Nat.reduceSub, storeV_ptr, slcV_slice, ↓mwD, mwU]
  refine (l0 w.drew c0).use ?_
  rintro _ _ ⟨rfl, rfl⟩
  refine ⟨Ext.refl _, ?_⟩
  refine planEB_alt ?_ ?_
  · simp -dsimp -implicitDefEqProofs only [bs_one, m183, sF183, Nat.reduceEqDiff, ↓reduceIte, Nat.reduceAdd, Nat.reduceMul, Value.cells, Value.oneCell', eq_self, ne_eq, Int.reduceToNat, Int.reduceEq, Int.reduceLT, Int.reduceLE, Int.reduceNeg, if_true, if_false, reduceCtorEq, Nat.reduceSub, storeV_ptr, slcV_slice, ↓mwD, mwU]
    refine ⟨Ext.alloc _ _, ?_⟩
    refine (all_c b 5 r _ _ _ _ (hh.ext (Ext.drew _ |>.alloc' _))).use ?_
    rintro rv w1 ⟨ho, he⟩
    simp -dsimp -implicitDefEqProofs only [m183, sF183, Nat.reduceEqDiff, ↓reduceIte, Nat.reduceAdd, Nat.reduceMul, Value.cells, Value.oneCell', eq_self, ne_eq, Int.reduceToNat, Int.reduceEq, Int.reduceLT, Int.reduceLE, Int.reduceNeg, if_true, if_false, reduceCtorEq, Nat.reduceSub, storeV_ptr, slcV_slice, ↓mwD, mwU]
    obtain ⟨v', W', ha, hx, hown, _⟩ := app_row (w8 := w.drew) (W := w1) (v := .slice (some ⟨w.drew.heap.size, 0, none⟩) 1 1) (n := 1) (xs := [lev]) (ys := h) ((Ext.alloc _ _).trans he) (Own.ext (own_new w.drew [.int .i64 lev] 3 w.drew.heap.size 1 1 rfl (Nat.le_refl _) (by unfold maxLen; omega)) he) (ow_sl ho) (by omega) (by omega)
    refine ⟨(Ext.alloc _ _).trans he, ?_⟩
    refine appB.mk ha ⟨hx, ?_⟩
    simp -dsimp -implicitDefEqProofs only [m183, sF183, Nat.reduceEqDiff, ↓reduceIte, Nat.reduceAdd, Nat.reduceMul, Value.cells, Value.oneCell', eq_self, ne_eq, Int.reduceToNat, Int.reduceEq, Int.reduceLT, Int.reduceLE, Int.reduceNeg, if_true, if_false, reduceCtorEq, Nat.reduceSub, storeV_ptr, slcV_slice, ↓mwD, mwU]
    have hown' : W'.ownsRow w.drew.heap.size 3 1 v' (1 + h.length) (ints (lev :: h)) := hown
    exact ⟨ow_sl hown', (Ext.drew _).trans hx, Own.ge hown⟩
  · refine planEB_alt ?_ (by rw [planEB_nil]; trivial)
    simp -dsimp -implicitDefEqProofs only [m183, sF183, Nat.reduceEqDiff, ↓reduceIte, Nat.reduceAdd, Nat.reduceMul, Value.cells, Value.oneCell', eq_self, ne_eq, Int.reduceToNat, Int.reduceEq, Int.reduceLT, Int.reduceLE, Int.reduceNeg, if_true, if_false, reduceCtorEq, Nat.reduceSub, storeV_ptr, slcV_slice, ↓mwD, mwU]
    refine (all_c b 5 r _ _ _ _ (hh.ext (Ext.drew _))).use ?_
    rintro rv w1 ⟨ho, he⟩
    refine ⟨he, ?_⟩
    simp -dsimp -implicitDefEqProofs only [bs_one, m183, sF183, Nat.reduceEqDiff, ↓reduceIte, Nat.reduceAdd, Nat.reduceMul, Value.cells, Value.oneCell', eq_self, ne_eq, Int.reduceToNat, Int.reduceEq, Int.reduceLT, Int.reduceLE, Int.reduceNeg, if_true, if_false, reduceCtorEq, Nat.reduceSub, storeV_ptr, slcV_slice, ↓mwD, mwU]
    obtain ⟨v', W', ha, hx, hown, _⟩ := app_row (w8 := w.drew) (W := w1.alloc (.cells #[.int .i64 lev] 3)) (v := .slice (some ⟨w1.heap.size, 0, none⟩) 1 1) (n := 1) (xs := [lev]) (ys := h) (he.alloc' _) (own_new w1 [.int .i64 lev] 3 w.drew.heap.size 1 1 rfl he.le (by unfold maxLen; omega)) ((ow_sl ho).ext (Ext.alloc _ _)) (by omega) (by omega)
    refine ⟨he.alloc' _, ?_⟩
    refine appB.mk ha ⟨hx, ?_⟩
    simp -dsimp -implicitDefEqProofs only [m183, sF183, Nat.reduceEqDiff, ↓reduceIte, Nat.reduceAdd, Nat.reduceMul, Value.cells, Value.oneCell', eq_self, ne_eq, Int.reduceToNat, Int.reduceEq, Int.reduceLT, Int.reduceLE, Int.reduceNeg, if_true, if_false, reduceCtorEq, Nat.reduceSub, storeV_ptr, slcV_slice, ↓mwD, mwU]
    have hown' : W'.ownsRow w.drew.heap.size 3 1 v' (1 + h.length) (ints (lev :: h)) := hown
    exact ⟨ow_sl hown', (Ext.drew _).trans hx, Own.ge hown⟩
theorem resume_gain {w : World} {v lv : Value} {F : List Nat} {g : Int} {l : List Int} (hw : WorkAt w v F (.gain g)) : ∃ p, v = .iface 146 p ∧ Rets Go.Proofs.Tryz.prog 185 #[p, lv] w (fun _ w' => WorkAt w' v F (resU (.gain g) l) ∧ Fr F w w') := by
  obtain ⟨b, rfl, rfl, hb⟩ := hw
  refine ⟨_, rfl, ?_⟩
  refine en185 ?_
  simp -dsimp -implicitDefEqProofs only [m185, Nat.reduceEqDiff, ↓reduceIte, Nat.reduceAdd, Nat.reduceMul, Value.cells, Value.oneCell', eq_self, ne_eq, Int.reduceToNat, Int.reduceEq, Int.reduceLT, Int.reduceLE, Int.reduceNeg, if_true, if_false, reduceCtorEq, Nat.reduceSub, storeV_ptr, slcV_slice, ↓mwD, mwU]
  exact ⟨⟨b, rfl, rfl, hb⟩, Fr.refl _ _⟩
theorem resume_delay {w : World} {v lv : Value} {F : List Nat} {h : List Int} {l : List Int} (hw : WorkAt w v F (.delay h)) (hl : SlI w lv l) (hd : l ≠ [] → ∀ q, lv.ownBlock = some q → q ∉ F) : ∃ p, v = .iface 150 p ∧ Rets Go.Proofs.Tryz.prog 188 #[p, lv] w (fun _ w' => WorkAt w' v F (resU (.delay h) l) ∧ Fr F w w') := by
  obtain ⟨b, r, cs, rfl, rfl, hh⟩ := hw
  obtain ⟨pl, cl, rfl, _, _⟩ := hl.shape
  refine ⟨_, rfl, ?_⟩
  refine en188 ?_
  simp -dsimp -implicitDefEqProofs only [m188, sF188, Nat.reduceEqDiff, ↓reduceIte, Nat.reduceAdd, Nat.reduceMul, Value.cells, Value.oneCell', eq_self, ne_eq, Int.reduceToNat, Int.reduceEq, Int.reduceLT, Int.reduceLE, Int.reduceNeg, if_true, if_false, reduceCtorEq, Nat.reduceSub, storeV_ptr, slcV_slice, ↓mwD, mwU]
  refine (fill_c b 0 r _ _ _ _ l w hh hl (fun hne q hq => by have := hd hne q hq; simp at this; omega)).use ?_
  rintro rv w1 ⟨hf, hh1⟩
  simp -dsimp -implicitDefEqProofs only [m188, sF188, Nat.reduceEqDiff, ↓reduceIte, Nat.reduceAdd, Nat.reduceMul, Value.cells, Value.oneCell', eq_self, ne_eq, Int.reduceToNat, Int.reduceEq, Int.reduceLT, Int.reduceLE, Int.reduceNeg, if_true, if_false, reduceCtorEq, Nat.reduceSub, storeV_ptr, slcV_slice, ↓mwD, mwU]
  exact ⟨⟨b, r, _, rfl, rfl, hh1⟩, hf⟩
theorem resume_echo {w : World} {v lv : Value} {F : List Nat} {h : List Int} {g : Int} {l : List Int} (hw : WorkAt w v F (.echo h g)) (hl : SlI w lv l) (hd : l ≠ [] → ∀ q, lv.ownBlock = some q → q ∉ F) : ∃ p, v = .iface 154 p ∧ Rets Go.Proofs.Tryz.prog 191 #[p, lv] w (fun _ w' => WorkAt w' v F (resU (.echo h g) l) ∧ Fr F w w') := by
  obtain ⟨b, r, cs, rfl, rfl, hh, h2⟩ := hw
  obtain ⟨pl, cl, rfl, _, _⟩ := hl.shape
  refine ⟨_, rfl, ?_⟩
  refine en191 ?_
  simp -dsimp -implicitDefEqProofs only [m191, sF191, Nat.reduceEqDiff, ↓reduceIte, Nat.reduceAdd, Nat.reduceMul, Value.cells, Value.oneCell', eq_self, ne_eq, Int.reduceToNat, Int.reduceEq, Int.reduceLT, Int.reduceLE, Int.reduceNeg, if_true, if_false, reduceCtorEq, Nat.reduceSub, storeV_ptr, slcV_slice, ↓mwD, mwU]
  refine (fill_c b 0 r _ _ _ _ l w hh hl (fun hne q hq => by have := hd hne q hq; simp at this; omega)).use ?_
  rintro rv w1 ⟨hf, hh1⟩
  simp -dsimp -implicitDefEqProofs only [m191, sF191, Nat.reduceEqDiff, ↓reduceIte, Nat.reduceAdd, Nat.reduceMul, Value.cells, Value.oneCell', eq_self, ne_eq, Int.reduceToNat, Int.reduceEq, Int.reduceLT, Int.reduceLE, Int.reduceNeg, if_true, if_false, reduceCtorEq, Nat.reduceSub, storeV_ptr, slcV_slice, ↓mwD, mwU]
  exact ⟨⟨b, r, _, rfl, rfl, hh1, by rw [List.getElem?_set_ne (by omega)]; exact h2⟩, hf⟩
theorem resume_filter {w : World} {v lv : Value} {F : List Nat} {h T : List Int} {l : List Int} (hw : WorkAt w v F (.filter h T)) (hl : SlI w lv l) (hd : l ≠ [] → ∀ q, lv.ownBlock = some q → q ∉ F) : ∃ p, v = .iface 157 p ∧ Rets Go.Proofs.Tryz.prog 194 #[p, lv] w (fun _ w' => WorkAt w' v F (resU (.filter h T) l) ∧ Fr F w w') := by
  obtain ⟨b, r, q, cs, o, cap, rfl, rfl, hh, h2, hT, n1, n2, n3⟩ := hw
  obtain ⟨pl, cl, rfl, _, _⟩ := hl.shape
  refine ⟨_, rfl, ?_⟩
  refine en194 ?_
  simp -dsimp -implicitDefEqProofs only [m194, sF194, Nat.reduceEqDiff, ↓reduceIte, Nat.reduceAdd, Nat.reduceMul, Value.cells, Value.oneCell', eq_self, ne_eq, Int.reduceToNat, Int.reduceEq, Int.reduceLT, Int.reduceLE, Int.reduceNeg, if_true, if_false, reduceCtorEq, Nat.reduceSub, storeV_ptr, slcV_slice, ↓mwD, mwU]
  refine (fill_c b 0 r _ _ _ _ l w hh hl (fun hne q hq => by have := hd hne q hq; simp at this; omega)).use ?_
  rintro rv w1 ⟨hf, hh1⟩
  simp -dsimp -implicitDefEqProofs only [m194, sF194, Nat.reduceEqDiff, ↓reduceIte, Nat.reduceAdd, Nat.reduceMul, Value.cells, Value.oneCell', eq_self, ne_eq, Int.reduceToNat, Int.reduceEq, Int.reduceLT, Int.reduceLE, Int.reduceNeg, if_true, if_false, reduceCtorEq, Nat.reduceSub, storeV_ptr, slcV_slice, ↓mwD, mwU]
  refine ⟨⟨b, r, q, _, o, cap, rfl, rfl, hh1, by rw [List.getElem?_set_ne (by omega)]; exact h2, ?_, n1, n2, n3⟩, hf.mono fun x hx => by simp at hx ⊢; omega⟩
  exact Sl.fr (cs := ints T) hT hf (fun x hx => by simp only [Value.ownBlock, Option.some.injEq] at hx; subst hx; simp; omega)
theorem resume_press {w : World} {v lv : Value} {F : List Nat} {th ra at_ re lev : Int} {l : List Int} (hw : WorkAt w v F (.press th ra at_ re lev)) (hl : SlI w lv l) (h1l : 1 ≤ l.length) : ∃ p, v = .iface 96 p ∧ Rets Go.Proofs.Tryz.prog 178 #[p, lv] w (fun _ w' => WorkAt w' v F (resU (.press th ra at_ re lev) l) ∧ Fr F w w') := by
  obtain ⟨b, cs, rfl, rfl, hb, h0, h1, h2, h3, h4⟩ := hw
  have c0 := hb.get h4
  obtain ⟨bl, ol, cl, rfl, hc⟩ := hl.some (by omega)
  have hc0 := hc 0 l[0] (by simp)
  rw [Nat.add_zero] at hc0
  have hgd : l.getD 0 0 = l[0] := by rw [List.getD_eq_getElem?_getD, List.getElem?_eq_getElem (by omega)]; rfl
  have hb0 : (0 : Int) < l.length := by omega
  refine ⟨_, rfl, ?_⟩
  refine en178 ?_
  simp -dsimp -implicitDefEqProofs only [hc0, hb0, c0, hb.frozen, m178, sF178, Nat.reduceEqDiff, ↓reduceIte, Nat.reduceAdd, Nat.reduceMul, Value.cells, Value.oneCell', eq_self, ne_eq, Int.reduceToNat, Int.reduceEq, Int.reduceLT, Int.reduceLE, Int.reduceNeg, if_true, if_false, reduceCtorEq, Nat.reduceSub, storeV_ptr, slcV_slice, ↓mwD, mwU]
  refine ⟨⟨b, _, rfl, rfl, hb.set 4 _, ?_, ?_, ?_, ?_, ?_⟩, (Fr.refl _ _).setCell (by simp) _⟩
  · rw [List.getElem?_set_ne (by omega)]; exact h0
  · rw [List.getElem?_set_ne (by omega)]; exact h1
  · rw [List.getElem?_set_ne (by omega)]; exact h2
  · rw [List.getElem?_set_ne (by omega)]; exact h3
  · rw [hgd, List.getElem?_set_self (List.getElem?_eq_some_iff.1 h4).1]
theorem resume_gate {w : World} {v lv : Value} {F : List Nat} {th hold since : Int} {l : List Int} (hw : WorkAt w v F (.gate th hold since)) (hl : SlI w lv l) (h1l : 1 ≤ l.length) : ∃ p, v = .iface 161 p ∧ Rets Go.Proofs.Tryz.prog 197 #[p, lv] w (fun _ w' => WorkAt w' v F (resU (.gate th hold since) l) ∧ Fr F w w') := by
  obtain ⟨b, rfl, rfl, hb⟩ := hw
  have c0 := hb.get (o := 2) rfl
  obtain ⟨bl, ol, cl, rfl, hc⟩ := hl.some (by omega)
  have hc0 := hc 0 l[0] (by simp)
  rw [Nat.add_zero] at hc0
  have hgd : l.getD 0 0 = l[0] := by rw [List.getD_eq_getElem?_getD, List.getElem?_eq_getElem (by omega)]; rfl
  have hb0 : (0 : Int) < l.length := by omega
  refine ⟨_, rfl, ?_⟩
  refine en197 ?_
  simp -dsimp -implicitDefEqProofs only [hc0, hb0, c0, hb.frozen, m197, sF197, Nat.reduceEqDiff, ↓reduceIte, Nat.reduceAdd, Nat.reduceMul, Value.cells, Value.oneCell', eq_self, ne_eq, Int.reduceToNat, Int.reduceEq, Int.reduceLT, Int.reduceLE, Int.reduceNeg, if_true, if_false, reduceCtorEq, Nat.reduceSub, storeV_ptr, slcV_slice, ↓mwD, mwU]
  refine ⟨⟨b, rfl, rfl, ?_⟩, (Fr.refl _ _).setCell (by simp) _⟩
  rw [hgd]
  exact hb.set 2 _
theorem hist_lev {w : World} {b r : Nat} {h : List Int} {cs : List Value} {t : TypeId} (hh : Hist w b 5 r h cs t) (x : Value) : Hist (w.setCell ⟨b, 4, none⟩ x).drew b 5 r h (cs.set 4 x) t := by
  refine Hist.of hh (hh.bk.set 4 x) (by rw [List.getElem?_set_ne (by omega)]) (by rw [List.getElem?_set_ne (by omega)]) fun hne => ?_
  exact ((Fr.refl [b] w).setCell (b := b) (o := 4) (by simp) x).drew.block r (by simp; omega)
theorem sl_tail {w : World} {l : List Int} {cap : Nat} {b o : Nat} (hl : SlI w (.slice (some ⟨b, o, none⟩) l.length cap) l) (h1 : 1 ≤ l.length) :
    SlI w (.slice (if (cap : Int) = 1 then some ⟨b, o, none⟩ else some ⟨b, o + 1, none⟩) ((l.length : Int) - 1).toNat ((cap : Int) - 1).toNat) (l.drop 1) := by
  obtain ⟨_, _, _, hv, hle, hm, hc⟩ := hl.at (by rintro rfl; simp at h1)
  cases hv
  refine .inr ⟨b, if (cap : Int) = 1 then o else o + 1, cap - 1, ?_, ?_, by omega, ?_⟩
  · rw [ints_length, List.length_drop]
    split
    · rw [show ((l.length : Int) - 1).toNat = l.length - 1 by omega, show ((cap : Int) - 1).toNat = cap - 1 by omega]
    · rw [show ((l.length : Int) - 1).toNat = l.length - 1 by omega, show ((cap : Int) - 1).toNat = cap - 1 by omega]
  · rw [ints_length, List.length_drop]; omega
  · intro k u hk
    have hkl : k < (l.drop 1).length := by have := (List.getElem?_eq_some_iff.1 hk).1; rw [ints_length] at this; exact this
    rw [ints_get hkl] at hk
    rw [List.length_drop] at hkl
    rw [if_neg (by omega), ← Option.some.inj hk, List.getElem_drop, Nat.add_assoc]
    exact hc (1 + k) (by omega)
theorem resume_look {w : World} {v lv : Value} {F : List Nat} {th ra at_ re lev : Int} {h : List Int} {l : List Int} (hw : WorkAt w v F (.look th ra at_ re lev h)) (hl : SlI w lv l) (h1l : 1 ≤ l.length) (hd : l ≠ [] → ∀ q, lv.ownBlock = some q → q ∉ F) : ∃ p, v = .iface 101 p ∧ Rets Go.Proofs.Tryz.prog 182 #[p, lv] w (fun _ w' => WorkAt w' v F (resU (.look th ra at_ re lev h) l) ∧ Fr F w w') := by
  obtain ⟨b, r, cs, rfl, rfl, hh, h0, h1, h2, h3, h4⟩ := hw
  have hb := hh.bk
  have c0 := hb.get h4
  obtain ⟨bl, ol, cl, rfl, hc⟩ := hl.some (by omega)
  have hc0 := hc 0 l[0] (by simp)
  rw [Nat.add_zero] at hc0
  have hgd : l.getD 0 0 = l[0] := by rw [List.getD_eq_getElem?_getD, List.getElem?_eq_getElem (by omega)]; rfl
  have hb0 : (0 : Int) < l.length := by omega
  refine ⟨_, rfl, ?_⟩
  refine en182 ?_
  simp -dsimp -implicitDefEqProofs only [hc0, hb0, c0, hb.frozen, m182, sF182, Nat.reduceEqDiff, ↓reduceIte, Nat.reduceAdd, Nat.reduceMul, Value.cells, Value.oneCell', eq_self, ne_eq, Int.reduceToNat, Int.reduceEq, Int.reduceLT, Int.reduceLE, Int.reduceNeg, if_true, if_false, reduceCtorEq, Nat.reduceSub, storeV_ptr, slcV_slice, ↓mwD, mwU]
  refine mwpB_draw (fun _ => True) trivial ?_
  simp -dsimp -implicitDefEqProofs only [m182, sF182, Nat.reduceEqDiff, ↓reduceIte, Nat.reduceAdd, Nat.reduceMul, Value.cells, Value.oneCell', eq_self, ne_eq, Int.reduceToNat, Int.reduceEq, Int.reduceLT, Int.reduceLE, Int.reduceNeg, if_true, if_false, reduceCtorEq, Nat.reduceSub, storeV_ptr, slcV_slice, ↓mwD, mwU]
  obtain ⟨_, _, hv, hcl, _⟩ := hl.shape
  cases hv
  have hb1 := hb.set 4 (.int .i64 l[0])
  have hf1 : Fr [b, r] w (w.setCell ⟨b, 4, none⟩ (.int .i64 l[0])).drew := ((Fr.refl _ _).setCell (by simp) _).drew
  have hd' := hd (by rintro rfl; simp at h1l) bl rfl
  have hh1 := hist_lev hh (.int .i64 l[0])
  have hs := sl_tail (Sl.fr (cs := ints l) hl hf1 (hd (by rintro rfl; simp at h1l))) h1l
  refine ⟨⟨by omega, by omega⟩, ?_⟩
  refine (fill_c b 5 r _ _ _ _ (l.drop 1) _ hh1 hs (fun hne q hq => ?_)).use ?_
  · have : q = bl := by split at hq <;> simp [Value.ownBlock] at hq <;> exact hq.symm
    subst this
    simp at hd'; omega
  rintro rv w1 ⟨hf, hh2⟩
  simp -dsimp -implicitDefEqProofs only [m182, sF182, Nat.reduceEqDiff, ↓reduceIte, Nat.reduceAdd, Nat.reduceMul, Value.cells, Value.oneCell', eq_self, ne_eq, Int.reduceToNat, Int.reduceEq, Int.reduceLT, Int.reduceLE, Int.reduceNeg, if_true, if_false, reduceCtorEq, Nat.reduceSub, storeV_ptr, slcV_slice, ↓mwD, mwU]
  refine ⟨⟨b, r, _, rfl, rfl, hh2, ?_, ?_, ?_, ?_, ?_⟩, hf1.trans hf⟩
  · rw [List.getElem?_set_ne (by omega), List.getElem?_set_ne (by omega)]; exact h0
  · rw [List.getElem?_set_ne (by omega), List.getElem?_set_ne (by omega)]; exact h1
  · rw [List.getElem?_set_ne (by omega), List.getElem?_set_ne (by omega)]; exact h2
  · rw [List.getElem?_set_ne (by omega), List.getElem?_set_ne (by omega)]; exact h3
  · rw [hgd, List.getElem?_set_ne (by omega), List.getElem?_set_self (List.getElem?_eq_some_iff.1 h4).1]

/-- The numbers of any work. -/
theorem state_any {w : World} {v : Value} {F : List Nat} {s : US} (h : WorkAt w v F s) (hs : lenU s ≤ 4097) :
    ∃ t p f, v = .iface t p ∧ methB Go.Proofs.Tryz.prog t "continuo/effect.state" = some f ∧ okF Go.Proofs.Tryz.prog f = true ∧ Rets Go.Proofs.Tryz.prog f #[p] w (StateR s w) := by
  cases s with
  | gain g => obtain ⟨p, h1, h2⟩ := state_gain h; exact ⟨_, p, _, h1, meth_146_continuo_effect_state, okF_186, h2⟩
  | delay l => obtain ⟨p, h1, h2⟩ := state_delay h; exact ⟨_, p, _, h1, meth_150_continuo_effect_state, okF_189, h2⟩
  | echo l g => obtain ⟨p, h1, h2⟩ := state_echo h; exact ⟨_, p, _, h1, meth_154_continuo_effect_state, okF_192, h2⟩
  | filter l T => obtain ⟨p, h1, h2⟩ := state_filter h; exact ⟨_, p, _, h1, meth_157_continuo_effect_state, okF_195, h2⟩
  | press th ra at_ re lev => obtain ⟨p, h1, h2⟩ := state_press h; exact ⟨_, p, _, h1, meth_96_continuo_effect_state, okF_179, h2⟩
  | gate th hold since => obtain ⟨p, h1, h2⟩ := state_gate h; exact ⟨_, p, _, h1, meth_161_continuo_effect_state, okF_198, h2⟩
  | look th ra at_ re lev l => obtain ⟨p, h1, h2⟩ := state_look (by simp [lenU, numsU] at hs; omega) h; exact ⟨_, p, _, h1, meth_101_continuo_effect_state, okF_183, h2⟩
/-- Other numbers for any work: the lists are as long as its own, or the kinds alike. -/
def US.kin : US → List Int → Prop
  | .press .., l => 1 ≤ l.length
  | .gate .., l => 1 ≤ l.length
  | .look .., l => 1 ≤ l.length
  | _, _ => True
theorem kin_of_len {s : US} {l : List Int} (h : l.length = lenU s) : s.kin l := by
  cases s <;> simp [US.kin, lenU, numsU] at h ⊢ <;> omega
theorem resume_any {w : World} {v lv : Value} {F : List Nat} {s : US} {l : List Int} (h : WorkAt w v F s) (hl : SlI w lv l) (hk : s.kin l) (hd : l ≠ [] → ∀ q, lv.ownBlock = some q → q ∉ F) :
    ∃ t p f, v = .iface t p ∧ methB Go.Proofs.Tryz.prog t "continuo/effect.resume" = some f ∧ okF Go.Proofs.Tryz.prog f = true ∧ Rets Go.Proofs.Tryz.prog f #[p, lv] w (fun _ w' => WorkAt w' v F (resU s l) ∧ Fr F w w') := by
  cases s with
  | gain g => obtain ⟨p, h1, h2⟩ := resume_gain (l := l) (lv := lv) h; exact ⟨_, p, _, h1, meth_146_continuo_effect_resume, okF_185, h2⟩
  | delay h' => obtain ⟨p, h1, h2⟩ := resume_delay h hl hd; exact ⟨_, p, _, h1, meth_150_continuo_effect_resume, okF_188, h2⟩
  | echo h' g => obtain ⟨p, h1, h2⟩ := resume_echo h hl hd; exact ⟨_, p, _, h1, meth_154_continuo_effect_resume, okF_191, h2⟩
  | filter h' T => obtain ⟨p, h1, h2⟩ := resume_filter h hl hd; exact ⟨_, p, _, h1, meth_157_continuo_effect_resume, okF_194, h2⟩
  | press th ra at_ re lev => obtain ⟨p, h1, h2⟩ := resume_press h hl hk; exact ⟨_, p, _, h1, meth_96_continuo_effect_resume, okF_178, h2⟩
  | gate th hold since => obtain ⟨p, h1, h2⟩ := resume_gate h hl hk; exact ⟨_, p, _, h1, meth_161_continuo_effect_resume, okF_197, h2⟩
  | look th ra at_ re lev h' => obtain ⟨p, h1, h2⟩ := resume_look h hl hk hd; exact ⟨_, p, _, h1, meth_101_continuo_effect_resume, okF_182, h2⟩

/-- What a unit's text tells. -/
def stL (k : Int) (A T N : List Int) : List Int := [k, A.length, T.length] ++ A ++ T ++ [(N.length : Int)] ++ N
theorem bs_three (a b c : Int) : buildS Go.Proofs.Tryz.prog 22 3 [(0, .int .i64 a), (1, .int .i64 b), (2, .int .i64 c)] = some (3, #[.int .i64 a, .int .i64 b, .int .i64 c]) := by kernel_rfl
theorem unitState_c {w : World} {v : Value} {F : List Nat} {s : US} {k : Int} {A T : List Int} (hu : UnitAt w v F s k A T) (hs : lenU s ≤ 4097) (lA : A.length ≤ 512) (lT : T.length ≤ 512) :
    Rets Go.Proofs.Tryz.prog 66 #[v] w fun r w' => SlI w' r (stL k A T (numsU s)) ∧ Ext w w' ∧ ∀ q, r.ownBlock = some q → w.heap.size ≤ q := by
  obtain ⟨b, cs, wk, a, t, rfl, hb, hbF, h0, h1, h2, h3, hwk, ha, ht, da, dt⟩ := hu
  obtain ⟨pa, ca, rfl, _, _⟩ := ha.shape
  obtain ⟨pt, ct, rfl, _, _⟩ := ht.shape
  have c0 := hb.get h0
  have c1 := hb.get h1
  have c2 := hb.get h2
  have c3 := hb.get h3
  obtain ⟨ti, pv, f, rfl, hme, hof, hst⟩ := state_any hwk hs
  refine en66 ?_
  simp -dsimp -implicitDefEqProofs only [c0, hme, hof, m66, sF66, Nat.reduceEqDiff, ↓reduceIte, Nat.reduceAdd, Nat.reduceMul, Value.cells, Value.oneCell', eq_self, ne_eq, Int.reduceToNat, Int.reduceEq, Int.reduceLT, Int.reduceLE, Int.reduceNeg, if_true, if_false, reduceCtorEq, Nat.reduceSub, storeV_ptr, slcV_slice, ↓mwD, mwU]
  refine hst.use ?_
  rintro r w1 ⟨hr, he, hfr⟩
  have d1 := he.cell c1
  have d2 := he.cell c2
  have d3 := he.cell c3
  simp -dsimp -implicitDefEqProofs only [m66, sF66, Nat.reduceEqDiff, ↓reduceIte, Nat.reduceAdd, Nat.reduceMul, Value.cells, Value.oneCell', eq_self, ne_eq, Int.reduceToNat, Int.reduceEq, Int.reduceLT, Int.reduceLE, Int.reduceNeg, if_true, if_false, reduceCtorEq, Nat.reduceSub, storeV_ptr, slcV_slice, ↓mwD, mwU]
  refine mwpB_drawE ?_
  simp -dsimp -implicitDefEqProofs only [d1, d2, d3, bs_three, m66, sF66, Nat.reduceEqDiff, ↓reduceIte, Nat.reduceAdd, Nat.reduceMul, Value.cells, Value.oneCell', eq_self, ne_eq, Int.reduceToNat, Int.reduceEq, Int.reduceLT, Int.reduceLE, Int.reduceNeg, if_true, if_false, reduceCtorEq, Nat.reduceSub, storeV_ptr, slcV_slice, ↓mwD, mwU]
  generalize hW : World.alloc _ _ = W
  have heW : Ext w1.drew W := by rw [← hW]; exact Ext.alloc _ _
  have ho0 : W.ownsRow w1.drew.heap.size 3 1 (.slice (some ⟨w1.drew.heap.size, 0, none⟩) 3 3) 3 (ints [k, A.length, T.length]) := by
    rw [← hW]; exact own_new w1.drew [.int .i64 k, .int .i64 A.length, .int .i64 T.length] 3 w1.drew.heap.size 3 1 rfl (Nat.le_refl _) (by unfold maxLen; omega)
  have hx : Ext w1 W := (Ext.drew _).trans heW
  refine ⟨heW, ?_⟩
  have g2 := hx.cell d2
  have g3 := hx.cell d3
  simp -dsimp -implicitDefEqProofs only [g2, m66, sF66, Nat.reduceEqDiff, ↓reduceIte, Nat.reduceAdd, Nat.reduceMul, Value.cells, Value.oneCell', eq_self, ne_eq, Int.reduceToNat, Int.reduceEq, Int.reduceLT, Int.reduceLE, Int.reduceNeg, if_true, if_false, reduceCtorEq, Nat.reduceSub, storeV_ptr, slcV_slice, ↓mwD, mwU]
  have hA2 := (ha.ext he).ext hx
  obtain ⟨v1, W1, e1, hx1, ho1, hk1⟩ := app_row heW ho0 hA2 (by omega) (by omega)
  refine appB.mk e1 ?_
  have g3' := (hx1.cell (a := ⟨b, 3, none⟩) (by exact d3))
  simp -dsimp -implicitDefEqProofs only [g3', m66, sF66, Nat.reduceEqDiff, ↓reduceIte, Nat.reduceAdd, Nat.reduceMul, Value.cells, Value.oneCell', eq_self, ne_eq, Int.reduceToNat, Int.reduceEq, Int.reduceLT, Int.reduceLE, Int.reduceNeg, if_true, if_false, reduceCtorEq, Nat.reduceSub, storeV_ptr, slcV_slice, ↓mwD, mwU]
  have hT2 := (ht.ext he).ext ((Ext.drew _).trans hx1)
  obtain ⟨v2, W2, e2, hx2, ho2, hk2⟩ := app_row hx1 ho1 hT2 (by omega) (by omega)
  refine appB.mk e2 ?_
  obtain ⟨pr, cr, rfl, _, _⟩ := hr.shape
  simp -dsimp -implicitDefEqProofs only [bs_one, m66, sF66, Nat.reduceEqDiff, ↓reduceIte, Nat.reduceAdd, Nat.reduceMul, Value.cells, Value.oneCell', eq_self, ne_eq, Int.reduceToNat, Int.reduceEq, Int.reduceLT, Int.reduceLE, Int.reduceNeg, if_true, if_false, reduceCtorEq, Nat.reduceSub, storeV_ptr, slcV_slice, ↓mwD, mwU]
  have hS : SlI (W2.alloc (.cells #[.int .i64 ((numsU s).length : Int)] 3)) (.slice (some ⟨W2.heap.size, 0, none⟩) 1 1) [((numsU s).length : Int)] := sl_one W2 _
  obtain ⟨v3, W3, e3, hx3, ho3, hk3⟩ := app_row (hx2.alloc' _) (Own.ext ho2 (Ext.alloc _ _)) hS (by simp [lenU] at hs ⊢; omega) (by simp)
  refine appB.mk e3 ?_
  simp -dsimp -implicitDefEqProofs only [m66, sF66, Nat.reduceEqDiff, ↓reduceIte, Nat.reduceAdd, Nat.reduceMul, Value.cells, Value.oneCell', eq_self, ne_eq, Int.reduceToNat, Int.reduceEq, Int.reduceLT, Int.reduceLE, Int.reduceNeg, if_true, if_false, reduceCtorEq, Nat.reduceSub, storeV_ptr, slcV_slice, ↓mwD, mwU]
  have hR := hr.ext ((Ext.drew _).trans hx3)
  obtain ⟨v4, W4, e4, hx4, ho4, hk4⟩ := app_row hx3 ho3 hR (by simp [lenU] at hs ⊢; omega) (by simp [lenU] at hs ⊢; omega)
  refine appB.mk e4 ?_
  simp -dsimp -implicitDefEqProofs only [m66, sF66, Nat.reduceEqDiff, ↓reduceIte, Nat.reduceAdd, Nat.reduceMul, Value.cells, Value.oneCell', eq_self, ne_eq, Int.reduceToNat, Int.reduceEq, Int.reduceLT, Int.reduceLE, Int.reduceNeg, if_true, if_false, reduceCtorEq, Nat.reduceSub, storeV_ptr, slcV_slice, ↓mwD, mwU]
  exact ⟨ow_sl ho4, (he.trans (Ext.drew _)).trans hx4, fun q hq => by have := Own.ge ho4 q hq; have := he.le; have e : w1.drew.heap.size = w1.heap.size := rfl; omega⟩

end Go.Proofs.YtefcfnmmpnjjjaaGreatDoor

/- The seven units: their states, and one step of each. -/
import Derived.Test.YtefcfnmmpnjjjaaGreatDoorQbEffG
namespace Go.Proofs.YtefcfnmmpnjjjaaGreatDoor
open Go.RowKit
set_option linter.unusedSimpArgs false

inductive US
  | gain (g : Int)
  | delay (h : List Int)
  | echo (h : List Int) (g : Int)
  | filter (h T : List Int)
  | press (th ra at_ re lev : Int)
  | gate (th hold since : Int)
  | look (th ra at_ re lev : Int) (h : List Int)

def dotI : List Int → List Int → Int
  | t :: T, x :: X => t * x + dotI T X
  | _, _ => 0

def sinceI (th since x : Int) : Int := if th ≤ absI x then 0 else (if 4097 < since + 1 then 4097 else since + 1)
def echoI (h : List Int) (g x : Int) : Int := bnd (x + rnd (h.getD (h.length - 1) 0 * g))

/-- One sample through a unit: its state behind it, and what comes out. -/
def stepU : US → Int → US × Int
  | .gain g, x => (.gain g, bnd (rnd (x * g)))
  | .delay h, x => (.delay (pushL h x), keptI h x)
  | .echo h g, x => (.echo (pushL h (echoI h g x)) g, echoI h g x)
  | .filter h T, x => (.filter (pushL h x) T, bnd (rnd (dotI T (x :: h))))
  | .press th ra at_ re lev, x => (.press th ra at_ re (levI at_ re lev x), rnd (x * folI th ra (levI at_ re lev x)))
  | .gate th hold since, x => (.gate th hold (sinceI th since x), if hold < sinceI th since x then 0 else x)
  | .look th ra at_ re lev h, x => (.look th ra at_ re (levI at_ re lev x) (pushL h x), rnd (keptI h x * folI th ra (levI at_ re lev x)))

def Smp (x : Int) : Prop := -8388607 ≤ x ∧ x ≤ 8388607
def Smps (h : List Int) : Prop := ∀ x ∈ h, Smp x

def US.ok : US → Prop
  | .gain g => 0 ≤ g ∧ g ≤ 655360
  | .delay h => Smps h ∧ h.length ≤ 4096
  | .echo h g => Smps h ∧ 1 ≤ h.length ∧ h.length ≤ 4096 ∧ -65536 ≤ g ∧ g ≤ 65536
  | .filter h T => Smps h ∧ h.length + 1 = T.length ∧ T.length ≤ 512 ∧ ∀ t ∈ T, -65536 ≤ t ∧ t ≤ 65536
  | .press th ra at_ re lev => 0 ≤ th ∧ th ≤ 8388607 ∧ 65536 ≤ ra ∧ ra ≤ 6553600 ∧ 1 ≤ at_ ∧ at_ ≤ 65536 ∧ 1 ≤ re ∧ re ≤ 65536 ∧ 0 ≤ lev ∧ lev ≤ 8388607
  | .gate th hold since => 0 ≤ th ∧ th ≤ 8388607 ∧ 0 ≤ hold ∧ hold ≤ 4096 ∧ 0 ≤ since ∧ since ≤ 4097
  | .look th ra at_ re lev h => (0 ≤ th ∧ th ≤ 8388607 ∧ 65536 ≤ ra ∧ ra ≤ 6553600 ∧ 1 ≤ at_ ∧ at_ ≤ 65536 ∧ 1 ≤ re ∧ re ≤ 65536 ∧ 0 ≤ lev ∧ lev ≤ 8388607) ∧ Smps h ∧ h.length ≤ 512

theorem bnd_smp (n : Int) : Smp (bnd n) := by unfold Smp bnd; split <;> (try split) <;> omega
theorem smp_zero : Smp 0 := by unfold Smp; omega
theorem Smps.getD {h : List Int} (hh : Smps h) (k : Nat) : Smp (h.getD k 0) := by
  rw [List.getD_eq_getElem?_getD]
  cases hk : h[k]? with
  | none => exact smp_zero
  | some v => exact hh v (List.mem_of_getElem? hk)
theorem Smps.push {h : List Int} (hh : Smps h) {x : Int} (hx : Smp x) : Smps (pushL h x) := by
  unfold pushL
  split
  · intro y hy; cases hy
  · intro y hy
    rcases List.mem_cons.1 hy with rfl | hy
    · exact hx
    · exact hh y (List.dropLast_subset _ hy)
theorem Smps.kept {h : List Int} (hh : Smps h) {x : Int} (hx : Smp x) : Smp (keptI h x) := by
  unfold keptI; split
  · exact hx
  · exact hh.getD _
theorem Smp.rnd {x g : Int} (hx : Smp x) (h0 : 0 ≤ g) (h1 : g ≤ 65536) : Smp (rnd (x * g)) := by
  unfold Smp at *
  have := rnd_mul (d := x) h0 h1
  by_cases h : 0 ≤ x
  · have := this.1 h; omega
  · have := this.2 (by omega); omega

theorem sinceI_bd {th s x : Int} (h : 0 ≤ s) : 0 ≤ sinceI th s x ∧ sinceI th s x ≤ 4097 := by unfold sinceI; split <;> (try split) <;> omega

theorem stepU_ok {s : US} (h : s.ok) {x : Int} (hx : Smp x) : (stepU s x).1.ok ∧ Smp (stepU s x).2 := by
  cases s with
  | gain g => exact ⟨h, bnd_smp _⟩
  | delay l => exact ⟨⟨h.1.push hx, by rw [pushL_length]; exact h.2⟩, h.1.kept hx⟩
  | echo l g => exact ⟨⟨h.1.push (bnd_smp _), by rw [pushL_length]; exact h.2.1, by rw [pushL_length]; exact h.2.2.1, h.2.2.2⟩, bnd_smp _⟩
  | filter l T => exact ⟨⟨h.1.push hx, by rw [pushL_length]; exact h.2.1, h.2.2⟩, bnd_smp _⟩
  | press th ra at_ re lev =>
    obtain ⟨h1, h2, h3, h4, h5, h6, h7, h8, h9, h10⟩ := h
    have hl := levI_bd (at_ := at_) (re := re) hx.1 hx.2 h5 h6 h7 h8 h9 h10
    have hf := folI_bd (th := th) (ra := ra) (lev := levI at_ re lev x) h1 h3 hl.1
    exact ⟨⟨h1, h2, h3, h4, h5, h6, h7, h8, hl.1, hl.2⟩, hx.rnd hf.1 hf.2⟩
  | gate th hold s =>
    obtain ⟨h1, h2, h3, h4, h5, h6⟩ := h
    refine ⟨⟨h1, h2, h3, h4, (sinceI_bd h5).1, (sinceI_bd h5).2⟩, ?_⟩
    show Smp (if hold < sinceI th s x then 0 else x)
    split
    · exact smp_zero
    · exact hx
  | look th ra at_ re lev l =>
    obtain ⟨⟨h1, h2, h3, h4, h5, h6, h7, h8, h9, h10⟩, hs, hl'⟩ := h
    have hl := levI_bd (at_ := at_) (re := re) hx.1 hx.2 h5 h6 h7 h8 h9 h10
    have hf := folI_bd (th := th) (ra := ra) (lev := levI at_ re lev x) h1 h3 hl.1
    exact ⟨⟨⟨h1, h2, h3, h4, h5, h6, h7, h8, hl.1, hl.2⟩, hs.push hx, by rw [pushL_length]; exact hl'⟩, (hs.kept hx).rnd hf.1 hf.2⟩

/-- A unit's work in memory: its value, the blocks that it writes, its state. -/
def WorkAt (w : World) (v : Value) (F : List Nat) : US → Prop
  | .gain g => ∃ b, v = .iface 146 (.pointer (some ⟨b, 0, none⟩)) ∧ F = [b] ∧ Bk w b [.int .i64 g] 148
  | .delay h => ∃ b r cs, v = .iface 150 (.pointer (some ⟨b, 0, none⟩)) ∧ F = [b, r] ∧ Hist w b 0 r h cs 153
  | .echo h g => ∃ b r cs, v = .iface 154 (.pointer (some ⟨b, 0, none⟩)) ∧ F = [b, r] ∧ Hist w b 0 r h cs 156 ∧ cs[2]? = some (.int .i64 g)
  | .filter h T => ∃ b r q cs o cap, v = .iface 157 (.pointer (some ⟨b, 0, none⟩)) ∧ F = [b, r, q] ∧ Hist w b 0 r h cs 160 ∧ cs[2]? = some (.slice (some ⟨q, o, none⟩) T.length cap) ∧ SlI w (.slice (some ⟨q, o, none⟩) T.length cap) T ∧ q ≠ b ∧ q ≠ r ∧ T ≠ []
  | .press th ra at_ re lev => ∃ b cs, v = .iface 96 (.pointer (some ⟨b, 0, none⟩)) ∧ F = [b] ∧ Bk w b cs 100 ∧ cs[0]? = some (.int .i64 th) ∧ cs[1]? = some (.int .i64 ra) ∧ cs[2]? = some (.int .i64 at_) ∧ cs[3]? = some (.int .i64 re) ∧ cs[4]? = some (.int .i64 lev)
  | .gate th hold since => ∃ b, v = .iface 161 (.pointer (some ⟨b, 0, none⟩)) ∧ F = [b] ∧ Bk w b [.int .i64 th, .int .i64 hold, .int .i64 since] 163
  | .look th ra at_ re lev h => ∃ b r cs, v = .iface 101 (.pointer (some ⟨b, 0, none⟩)) ∧ F = [b, r] ∧ Hist w b 5 r h cs 105 ∧ cs[0]? = some (.int .i64 th) ∧ cs[1]? = some (.int .i64 ra) ∧ cs[2]? = some (.int .i64 at_) ∧ cs[3]? = some (.int .i64 re) ∧ cs[4]? = some (.int .i64 lev)

/-- What a step does. -/
def StepR (v : Value) (F : List Nat) (s : US) (x : Int) (w : World) (r : Value) (w' : World) : Prop := r = .int .i64 (stepU s x).2 ∧ WorkAt w' v F (stepU s x).1 ∧ Fr F w w'

theorem step_gain {w : World} {v : Value} {F : List Nat} {g x : Int} (h : WorkAt w v F (.gain g)) (hs : (US.gain g).ok) (hx : Smp x) :
    ∃ p, v = .iface 146 p ∧ Rets Go.Proofs.Tryz.prog 187 #[p, .int .i64 x] w (StepR v F (.gain g) x w) := by
  obtain ⟨b, rfl, rfl, hb⟩ := h
  refine ⟨_, rfl, ?_⟩
  have c0 := hb.get (o := 0) rfl
  have hm := mul_bd (d := x) (k := g) hx.1 hx.2 hs.1 hs.2 (by omega)
  have e1 : IntKind.i64.wrap (x * g) = x * g := w64 (by omega) (by omega)
  refine en187 ?_
  simp -dsimp -implicitDefEqProofs only [c0, e1, m187, sF187, Nat.reduceEqDiff, ↓reduceIte, Nat.reduceAdd, Nat.reduceMul, Value.cells, Value.oneCell', eq_self, ne_eq, Int.reduceToNat, Int.reduceEq, Int.reduceLT, Int.reduceLE, Int.reduceNeg, if_true, if_false, reduceCtorEq, Nat.reduceSub, storeV_ptr, slcV_slice, ↓mwD, mwU]
  refine (rounded_c _ (by omega) (by omega) _).use ?_
  rintro r w1 ⟨rfl, rfl⟩
  simp -dsimp -implicitDefEqProofs only [m187, sF187, Nat.reduceEqDiff, ↓reduceIte, Nat.reduceAdd, Nat.reduceMul, Value.cells, Value.oneCell', eq_self, ne_eq, Int.reduceToNat, Int.reduceEq, Int.reduceLT, Int.reduceLE, Int.reduceNeg, if_true, if_false, reduceCtorEq, Nat.reduceSub, storeV_ptr, slcV_slice, ↓mwD, mwU]
  refine (bound_c _ _).use ?_
  rintro r w1 ⟨rfl, rfl⟩
  simp -dsimp -implicitDefEqProofs only [m187, sF187, Nat.reduceEqDiff, ↓reduceIte, Nat.reduceAdd, Nat.reduceMul, Value.cells, Value.oneCell', eq_self, ne_eq, Int.reduceToNat, Int.reduceEq, Int.reduceLT, Int.reduceLE, Int.reduceNeg, if_true, if_false, reduceCtorEq, Nat.reduceSub, storeV_ptr, slcV_slice, ↓mwD, mwU]
  exact ⟨rfl, ⟨b, rfl, rfl, hb⟩, Fr.refl _ _⟩

theorem step_delay {w : World} {v : Value} {F : List Nat} {h : List Int} {x : Int} (hw : WorkAt w v F (.delay h)) :
    ∃ p, v = .iface 150 p ∧ Rets Go.Proofs.Tryz.prog 190 #[p, .int .i64 x] w (StepR v F (.delay h) x w) := by
  obtain ⟨b, r, cs, rfl, rfl, hh⟩ := hw
  refine ⟨_, rfl, ?_⟩
  refine en190 ?_
  simp -dsimp -implicitDefEqProofs only [m190, sF190, Nat.reduceEqDiff, ↓reduceIte, Nat.reduceAdd, Nat.reduceMul, Value.cells, Value.oneCell', eq_self, ne_eq, Int.reduceToNat, Int.reduceEq, Int.reduceLT, Int.reduceLE, Int.reduceNeg, if_true, if_false, reduceCtorEq, Nat.reduceSub, storeV_ptr, slcV_slice, ↓mwD, mwU]
  refine (kept_c b 0 r h cs _ x w hh).use ?_
  rintro u w1 ⟨rfl, hf, u, hh1⟩
  simp -dsimp -implicitDefEqProofs only [m190, sF190, Nat.reduceEqDiff, ↓reduceIte, Nat.reduceAdd, Nat.reduceMul, Value.cells, Value.oneCell', eq_self, ne_eq, Int.reduceToNat, Int.reduceEq, Int.reduceLT, Int.reduceLE, Int.reduceNeg, if_true, if_false, reduceCtorEq, Nat.reduceSub, storeV_ptr, slcV_slice, ↓mwD, mwU]
  exact ⟨rfl, ⟨b, r, _, rfl, rfl, hh1⟩, hf⟩

theorem step_echo {w : World} {v : Value} {F : List Nat} {h : List Int} {g x : Int} (hw : WorkAt w v F (.echo h g)) (hs : (US.echo h g).ok) (hx : Smp x) :
    ∃ p, v = .iface 154 p ∧ Rets Go.Proofs.Tryz.prog 193 #[p, .int .i64 x] w (StepR v F (.echo h g) x w) := by
  obtain ⟨b, r, cs, rfl, rfl, hh, hg⟩ := hw
  obtain ⟨hsm, hl1, hl2, hg1, hg2⟩ := hs
  refine ⟨_, rfl, ?_⟩
  obtain ⟨pe, hsl⟩ := hh.slice
  have hb := hh.bk
  have c0 := hb.get hsl
  have c2 := hb.get hg
  have hm := mul_bd2 (hsm.getD (h.length - 1)).1 (hsm.getD (h.length - 1)).2 hg1 hg2 (by omega)
  have e1 : IntKind.i64.wrap (h.getD (h.length - 1) 0 * g) = h.getD (h.length - 1) 0 * g := w64 (by omega) (by omega)
  have e2 : IntKind.i64.wrap (x + rnd (h.getD (h.length - 1) 0 * g)) = x + rnd (h.getD (h.length - 1) 0 * g) := by
    have : -8388608 ≤ rnd (h.getD (h.length - 1) 0 * g) ∧ rnd (h.getD (h.length - 1) 0 * g) ≤ 8388608 := by
      generalize h.getD (h.length - 1) 0 * g = m at *
      unfold rnd; split <;> omega
    have := hx.1; have := hx.2
    exact w64 (by omega) (by omega)
  have e0 : ((h.length : Int) - 1).toNat = h.length - 1 := by omega
  refine en193 ?_
  simp -dsimp -implicitDefEqProofs only [m193, sF193, Nat.reduceEqDiff, ↓reduceIte, Nat.reduceAdd, Nat.reduceMul, Value.cells, Value.oneCell', eq_self, ne_eq, Int.reduceToNat, Int.reduceEq, Int.reduceLT, Int.reduceLE, Int.reduceNeg, if_true, if_false, reduceCtorEq, Nat.reduceSub, storeV_ptr, slcV_slice, ↓mwD, mwU]
  refine mwpB_drawE ?_
  simp -dsimp -implicitDefEqProofs only [c0, c2, m193, sF193, Nat.reduceEqDiff, ↓reduceIte, Nat.reduceAdd, Nat.reduceMul, Value.cells, Value.oneCell', eq_self, ne_eq, Int.reduceToNat, Int.reduceEq, Int.reduceLT, Int.reduceLE, Int.reduceNeg, if_true, if_false, reduceCtorEq, Nat.reduceSub, storeV_ptr, slcV_slice, ↓mwD, mwU]
  refine (ago_c b 0 r h cs _ _ _ (show Hist w.drew b 0 r h cs _ from hh) (by omega) (by omega)).use ?_
  rintro u w1 ⟨rfl, hf⟩
  rw [e0]
  simp -dsimp -implicitDefEqProofs only [c0, c2, e1, m193, sF193, Nat.reduceEqDiff, ↓reduceIte, Nat.reduceAdd, Nat.reduceMul, Value.cells, Value.oneCell', eq_self, ne_eq, Int.reduceToNat, Int.reduceEq, Int.reduceLT, Int.reduceLE, Int.reduceNeg, if_true, if_false, reduceCtorEq, Nat.reduceSub, storeV_ptr, slcV_slice, ↓mwD, mwU]
  refine ⟨hf.ext (Ext.refl _) (by simp), (rounded_c _ (by omega) (by omega) _).use ?_⟩
  rintro u w2 ⟨rfl, rfl⟩
  simp -dsimp -implicitDefEqProofs only [c0, c2, e2, m193, sF193, Nat.reduceEqDiff, ↓reduceIte, Nat.reduceAdd, Nat.reduceMul, Value.cells, Value.oneCell', eq_self, ne_eq, Int.reduceToNat, Int.reduceEq, Int.reduceLT, Int.reduceLE, Int.reduceNeg, if_true, if_false, reduceCtorEq, Nat.reduceSub, storeV_ptr, slcV_slice, ↓mwD, mwU]
  refine ⟨hf.ext (Ext.refl _) (by simp), (bound_c _ _).use ?_⟩
  rintro u w2 ⟨rfl, rfl⟩
  simp -dsimp -implicitDefEqProofs only [m193, sF193, Nat.reduceEqDiff, ↓reduceIte, Nat.reduceAdd, Nat.reduceMul, Value.cells, Value.oneCell', eq_self, ne_eq, Int.reduceToNat, Int.reduceEq, Int.reduceLT, Int.reduceLE, Int.reduceNeg, if_true, if_false, reduceCtorEq, Nat.reduceSub, storeV_ptr, slcV_slice, ↓mwD, mwU]
  refine ⟨hf.ext (Ext.refl _) (by simp), (push_c b 0 r h cs _ _ _ ((show Hist w.drew b 0 r h cs _ from hh).fr hf (by simp) (by simp))).use ?_⟩
  rintro u w3 ⟨hf3, u, hh3⟩
  simp -dsimp -implicitDefEqProofs only [m193, sF193, Nat.reduceEqDiff, ↓reduceIte, Nat.reduceAdd, Nat.reduceMul, Value.cells, Value.oneCell', eq_self, ne_eq, Int.reduceToNat, Int.reduceEq, Int.reduceLT, Int.reduceLE, Int.reduceNeg, if_true, if_false, reduceCtorEq, Nat.reduceSub, storeV_ptr, slcV_slice, ↓mwD, mwU]
  exact ⟨rfl, ⟨b, r, _, rfl, rfl, hh3, by rw [List.getElem?_set_ne (by omega)]; exact hg⟩, (((Fr.refl _ _).drew).trans (hf.mono (by simp))).trans hf3⟩

theorem step_press {w : World} {v : Value} {F : List Nat} {th ra at_ re lev x : Int} (hw : WorkAt w v F (.press th ra at_ re lev)) (hs : (US.press th ra at_ re lev).ok) (hx : Smp x) :
    ∃ p, v = .iface 96 p ∧ Rets Go.Proofs.Tryz.prog 180 #[p, .int .i64 x] w (StepR v F (.press th ra at_ re lev) x w) := by
  obtain ⟨b, cs, rfl, rfl, hb, g0, g1, g2, g3, g4⟩ := hw
  obtain ⟨h1, h2, h3, h4, h5, h6, h7, h8, h9, h10⟩ := hs
  have hl := levI_bd (at_ := at_) (re := re) hx.1 hx.2 h5 h6 h7 h8 h9 h10
  have hf := folI_bd (th := th) (ra := ra) (lev := levI at_ re lev x) h1 h3 hl.1
  have hm := mul_bd hx.1 hx.2 hf.1 hf.2 (by omega)
  have e1 : IntKind.i64.wrap (x * folI th ra (levI at_ re lev x)) = x * folI th ra (levI at_ re lev x) := w64 (by omega) (by omega)
  refine ⟨_, rfl, ?_⟩
  refine en180 ?_
  simp -dsimp -implicitDefEqProofs only [m180, sF180, Nat.reduceEqDiff, ↓reduceIte, Nat.reduceAdd, Nat.reduceMul, Value.cells, Value.oneCell', eq_self, ne_eq, Int.reduceToNat, Int.reduceEq, Int.reduceLT, Int.reduceLE, Int.reduceNeg, if_true, if_false, reduceCtorEq, Nat.reduceSub, storeV_ptr, slcV_slice, ↓mwD, mwU]
  refine (follow_c b 0 cs _ th ra at_ re lev x w hb g0 g1 g2 g3 g4 h1 h2 h3 h4 h5 h6 h7 h8 h9 h10 hx.1 hx.2).use ?_
  rintro u w1 ⟨rfl, hb1, hf1⟩
  simp -dsimp -implicitDefEqProofs only [e1, m180, sF180, Nat.reduceEqDiff, ↓reduceIte, Nat.reduceAdd, Nat.reduceMul, Value.cells, Value.oneCell', eq_self, ne_eq, Int.reduceToNat, Int.reduceEq, Int.reduceLT, Int.reduceLE, Int.reduceNeg, if_true, if_false, reduceCtorEq, Nat.reduceSub, storeV_ptr, slcV_slice, ↓mwD, mwU]
  refine (rounded_c _ (by omega) (by omega) _).use ?_
  rintro u w2 ⟨rfl, rfl⟩
  simp -dsimp -implicitDefEqProofs only [m180, sF180, Nat.reduceEqDiff, ↓reduceIte, Nat.reduceAdd, Nat.reduceMul, Value.cells, Value.oneCell', eq_self, ne_eq, Int.reduceToNat, Int.reduceEq, Int.reduceLT, Int.reduceLE, Int.reduceNeg, if_true, if_false, reduceCtorEq, Nat.reduceSub, storeV_ptr, slcV_slice, ↓mwD, mwU]
  refine ⟨rfl, ⟨b, _, rfl, rfl, hb1, ?_⟩, hf1⟩
  have ho : 4 < cs.length := (List.getElem?_eq_some_iff.1 g4).1
  refine ⟨?_, ?_, ?_, ?_, ?_⟩
  · rw [List.getElem?_set_ne (by omega)]; exact g0
  · rw [List.getElem?_set_ne (by omega)]; exact g1
  · rw [List.getElem?_set_ne (by omega)]; exact g2
  · rw [List.getElem?_set_ne (by omega)]; exact g3
  · simp [ho]

theorem Sl.fr {w w' : World} {v : Value} {cs : List Value} {F : List Nat} (h : Sl w v cs) (hf : Fr F w w') (hp : ∀ p, v.ownBlock = some p → p ∉ F) : Sl w' v cs := by
  rcases h with h | ⟨b, o, cap, rfl, h2, h3, h4⟩
  · exact .inl h
  · refine .inr ⟨b, o, cap, rfl, h2, h3, fun k u hk => ?_⟩
    rw [hf.cell (hp b rfl)]
    exact h4 k u hk

theorem tail_SlI {w : World} {b o cap : Nat} {t : Int} {T : List Int} (h : SlI w (.slice (some ⟨b, o, none⟩) (T.length + 1) cap) (t :: T)) : SlI w (.slice (if (cap : Int) = 1 then some ⟨b, o, none⟩ else some ⟨b, o + 1, none⟩) T.length (cap - 1)) T := by
  rcases h with ⟨h, _⟩ | ⟨b', o', cap', h1, h2, h3, h4⟩
  · cases h
  · simp only [Value.slice.injEq, Option.some.injEq, Addr.mk.injEq, and_true] at h1
    obtain ⟨⟨rfl, rfl⟩, _, rfl⟩ := h1
    simp only [ints_length, List.length_cons] at h2
    by_cases hc : (cap : Int) = 1
    · have : T = [] := by cases T with
        | nil => rfl
        | cons a l => exfalso; simp only [List.length_cons] at h2; omega
      subst this
      rw [if_pos hc]
      exact .inr ⟨b, o, cap - 1, rfl, by simp [ints], by omega, Row.nil _ _ _⟩
    · rw [if_neg hc]
      refine .inr ⟨b, o + 1, cap - 1, by rw [ints_length], by rw [ints_length]; omega, by omega, fun k v hk => ?_⟩
      have := h4 (k + 1) v (by simpa [ints] using hk)
      rw [show o + 1 + k = o + (k + 1) by omega]; exact this

theorem dotI_take_succ : ∀ (T X : List Int) (k : Nat) (t : Int), T[k]? = some t → dotI (T.take (k + 1)) X = dotI (T.take k) X + t * X.getD k 0
  | [], X, k, t, h => by simp at h
  | a :: T, [], k, t, h => by cases k <;> simp [dotI]
  | a :: T, x :: X, 0, t, h => by simp at h; subst h; simp [dotI]
  | a :: T, x :: X, k + 1, t, h => by
    have := dotI_take_succ T X k t (by simpa using h)
    simp only [List.take_succ_cons, dotI, this, List.getD_cons_succ]
    omega
theorem dotI_bd : ∀ (T X : List Int) (n : Nat), (∀ t ∈ T, -65536 ≤ t ∧ t ≤ 65536) → Smps X → T.length ≤ n → -(n * 549755748352) ≤ dotI T X ∧ dotI T X ≤ n * 549755748352
  | [], X, n, _, _, _ => by simp only [dotI]; omega
  | a :: T, [], n, _, _, _ => by simp only [dotI]; omega
  | a :: T, x :: X, n, h1, h2, h3 => by
    obtain ⟨m, rfl⟩ : ∃ m, n = m + 1 := ⟨n - 1, by simp only [List.length_cons] at h3; omega⟩
    have := dotI_bd T X m (fun t ht => h1 t (by simp [ht])) (fun y hy => h2 y (by simp [hy])) (by simpa using h3)
    have hx := h2 x (by simp)
    have ha := h1 a (by simp)
    have hm := mul_bd2 (d := x) (k := a) hx.1 hx.2 ha.1 ha.2 (by omega)
    rw [Int.mul_comm x a] at hm
    simp only [dotI]
    omega

theorem step_filter {w : World} {v : Value} {F : List Nat} {h T : List Int} {x : Int} (hw : WorkAt w v F (.filter h T)) (hs : (US.filter h T).ok) (hx : Smp x) :
    ∃ p, v = .iface 157 p ∧ Rets Go.Proofs.Tryz.prog 196 #[p, .int .i64 x] w (StepR v F (.filter h T) x w) := by
  obtain ⟨b, r, bt, cs, ot, cap, rfl, rfl, hh, hu, hT, hqb, hqr, hT0⟩ := hw
  obtain ⟨hsm, hl1, hl2, hTb⟩ := hs
  refine ⟨_, rfl, ?_⟩
  have hb := hh.bk
  have c2 := hb.get hu
  cases T with
  | nil => simp at hl1
  | cons t T =>
  obtain ⟨bt', ot', cap', hv, hc1, hc2, hcell⟩ := hT.at (by simp)
  simp only [Value.slice.injEq, Option.some.injEq, Addr.mk.injEq, and_true, true_and] at hv
  obtain ⟨⟨rfl, rfl⟩, rfl⟩ := hv
  have htl := tail_SlI hT
  have hslc : slcV Go.Proofs.Tryz.prog 22 (.slice (some ⟨bt, ot, none⟩) (t :: T).length cap) (some (.int .i64 1)) none = some (.slice (if (cap : Int) = 1 then some ⟨bt, ot, none⟩ else some ⟨bt, ot + 1, none⟩) T.length (cap - 1)) := by
    simp only [List.length_cons] at hc1
    have : (0 : Int) ≤ 1 ∧ (1 : Int) ≤ (T.length + 1 : Nat) ∧ ((T.length + 1 : Nat) : Int) ≤ cap := by omega
    rw [slcV_slice, telem_22]
    simp only [Option.bind_some, boundV_some, boundV_none, tok_3, tsz_3, List.length_cons, this, and_self, if_true, Option.map_some, Addr.add_lit, Int.toNat_one, Nat.mul_one]
    congr 2
    · omega
    · omega
  generalize (if (cap : Int) = 1 then some (⟨bt, ot, none⟩ : Addr) else some ⟨bt, ot + 1, none⟩) = p' at *
  have c0 := hcell 0 (by simp)
  simp only [Nat.add_zero, List.getElem_cons_zero] at c0
  have l0 : (0 : Int) < (T.length + 1 : Nat) := by omega
  simp only [List.length_cons] at c2 hslc
  have ht := hTb t (by simp)
  have hm := mul_bd2 (d := x) (k := t) hx.1 hx.2 ht.1 ht.2 (by omega)
  rw [Int.mul_comm x t] at hm
  have e1 : IntKind.i64.wrap (t * x) = t * x := w64 (by omega) (by omega)
  have hTl : T.length ≤ 511 := by simp only [List.length_cons] at hl2; omega
  have hTb' : ∀ t ∈ T, -65536 ≤ t ∧ t ≤ 65536 := fun y hy => hTb y (by simp [hy])
  refine en196 ?_
  simp -dsimp -implicitDefEqProofs only [c2, c0, l0, e1, hslc, and_self, Int.le_refl, m196, sF196, Nat.reduceEqDiff, ↓reduceIte, Nat.reduceAdd, Nat.reduceMul, Value.cells, Value.oneCell', eq_self, ne_eq, Int.reduceToNat, Int.reduceEq, Int.reduceLT, Int.reduceLE, Int.reduceNeg, if_true, if_false, reduceCtorEq, Nat.reduceSub, storeV_ptr, ↓mwD, mwU]
  refine mwpB_loop (fun e ds w' => ∃ k : Nat, k ≤ T.length ∧ e 22 = .int .i64 k ∧ e 21 = .int .i64 T.length ∧ e 20 = .slice p' T.length (cap - 1) ∧ e 5 = .int .i64 (t * x + dotI (T.take k) h) ∧ e 0 = .pointer (some ⟨b, 0, none⟩) ∧ e 1 = .int .i64 x ∧ ds = [] ∧ Fr [] w w')
    (fun e _ => T.length - (intOf (e 22)).toNat) ?_ ?_
  · simp -dsimp -implicitDefEqProofs only [m196, sF196, Nat.reduceEqDiff, ↓reduceIte, Nat.reduceAdd, Nat.reduceMul, Value.cells, Value.oneCell', eq_self, ne_eq, Int.reduceToNat, Int.reduceEq, Int.reduceLT, Int.reduceLE, Int.reduceNeg, if_true, if_false, reduceCtorEq, Nat.reduceSub, storeV_ptr, slcV_slice, ↓mwD, mwU]
    exact ⟨0, by omega, rfl, by simp [dotI], Fr.refl _ _⟩
  · rintro e ds w1 ⟨k, hk, h22, h21, h20, h5, h0, h1, rfl, hf⟩
    simp -dsimp -implicitDefEqProofs only [h22, h21, h20, h5, h0, h1, m196, sF196, Nat.reduceEqDiff, ↓reduceIte, Nat.reduceAdd, Nat.reduceMul, Value.cells, Value.oneCell', eq_self, ne_eq, Int.reduceToNat, Int.reduceEq, Int.reduceLT, Int.reduceLE, Int.reduceNeg, if_true, if_false, reduceCtorEq, Nat.reduceSub, storeV_ptr, slcV_slice, ↓mwD, mwU]
    refine iteW_dec (fun hlt => ?_) (fun hge => ?_)
    · have hlt' : k < T.length := by omega
      obtain ⟨b1, o1, cap1, hv, hc⟩ := htl.some (by omega)
      cases hv
      have ck : w1.cell? ⟨b1, o1 + k, none⟩ = some (.int .i64 T[k]) := by rw [hf.cell (by simp)]; exact hc k _ (by simp [hlt'])
      have hb1 : (0 : Int) ≤ k ∧ (k : Int) < T.length := by omega
      have hw1 : IntKind.i64.wrap ((k : Int) + 1) = ((k + 1 : Nat) : Int) := by rw [w64 (by omega) (by omega)]; omega
      simp -dsimp -implicitDefEqProofs only [h22, h21, h20, h5, h0, h1, hb1, and_self, ck, hw1, m196, sF196, Nat.reduceEqDiff, ↓reduceIte, Nat.reduceAdd, Nat.reduceMul, Value.cells, Value.oneCell', eq_self, ne_eq, Int.reduceToNat, Int.reduceEq, Int.reduceLT, Int.reduceLE, Int.reduceNeg, if_true, if_false, reduceCtorEq, Nat.reduceSub, storeV_ptr, slcV_slice, ↓mwD, mwU]
      refine (ago_c b 0 r h cs _ _ w1 (hh.fr hf (by simp) (by simp)) (by omega) (by omega)).use ?_
      rintro u w2 ⟨rfl, hf2⟩
      have e0 : (((k + 1 : Nat) : Int) - 1).toNat = k := by omega
      rw [e0]
      have hTk := hTb' T[k] (by simp)
      have hXk := hsm.getD k
      have hm2 := mul_bd2 (d := h.getD k 0) (k := T[k]) hXk.1 hXk.2 hTk.1 hTk.2 (by omega)
      rw [Int.mul_comm (h.getD k 0) T[k]] at hm2
      have hd1 := dotI_bd (T.take k) h 512 (fun y hy => hTb' y (List.mem_of_mem_take hy)) hsm (by simp; omega)
      have e2 : IntKind.i64.wrap (T[k] * h.getD k 0) = T[k] * h.getD k 0 := w64 (by omega) (by omega)
      have e3 : IntKind.i64.wrap (t * x + dotI (T.take k) h + T[k] * h.getD k 0) = t * x + dotI (T.take (k + 1)) h := by
        rw [w64 (by omega) (by omega), dotI_take_succ T h k T[k] (by simp)]; omega
      simp -dsimp -implicitDefEqProofs only [h22, h21, h20, h5, h0, h1, e2, e3, hw1, m196, sF196, Nat.reduceEqDiff, ↓reduceIte, Nat.reduceAdd, Nat.reduceMul, Value.cells, Value.oneCell', eq_self, ne_eq, Int.reduceToNat, Int.reduceEq, Int.reduceLT, Int.reduceLE, Int.reduceNeg, if_true, if_false, reduceCtorEq, Nat.reduceSub, storeV_ptr, slcV_slice, ↓mwD, mwU]
      refine ⟨⟨k + 1, by omega, rfl, rfl, hf.trans hf2⟩, ?_⟩
      simp only [intOf]; omega
    · have hk' : k = T.length := by omega
      subst hk'
      simp -dsimp -implicitDefEqProofs only [h22, h21, h20, h5, h0, h1, m196, sF196, Nat.reduceEqDiff, ↓reduceIte, Nat.reduceAdd, Nat.reduceMul, Value.cells, Value.oneCell', eq_self, ne_eq, Int.reduceToNat, Int.reduceEq, Int.reduceLT, Int.reduceLE, Int.reduceNeg, if_true, if_false, reduceCtorEq, Nat.reduceSub, storeV_ptr, slcV_slice, ↓mwD, mwU]
      refine (push_c b 0 r h cs _ x w1 (hh.fr hf (by simp) (by simp))).use ?_
      rintro u w2 ⟨hf2, u2, hh2⟩
      have hd1 := dotI_bd T h 512 hTb' hsm (by omega)
      simp -dsimp -implicitDefEqProofs only [h5, List.take_length, m196, sF196, Nat.reduceEqDiff, ↓reduceIte, Nat.reduceAdd, Nat.reduceMul, Value.cells, Value.oneCell', eq_self, ne_eq, Int.reduceToNat, Int.reduceEq, Int.reduceLT, Int.reduceLE, Int.reduceNeg, if_true, if_false, reduceCtorEq, Nat.reduceSub, storeV_ptr, slcV_slice, ↓mwD, mwU]
      refine (rounded_c _ (by omega) (by omega) _).use ?_
      rintro r2 w3 ⟨rfl, rfl⟩
      simp -dsimp -implicitDefEqProofs only [m196, sF196, Nat.reduceEqDiff, ↓reduceIte, Nat.reduceAdd, Nat.reduceMul, Value.cells, Value.oneCell', eq_self, ne_eq, Int.reduceToNat, Int.reduceEq, Int.reduceLT, Int.reduceLE, Int.reduceNeg, if_true, if_false, reduceCtorEq, Nat.reduceSub, storeV_ptr, slcV_slice, ↓mwD, mwU]
      refine (bound_c _ _).use ?_
      rintro r2 w3 ⟨rfl, rfl⟩
      simp -dsimp -implicitDefEqProofs only [m196, sF196, Nat.reduceEqDiff, ↓reduceIte, Nat.reduceAdd, Nat.reduceMul, Value.cells, Value.oneCell', eq_self, ne_eq, Int.reduceToNat, Int.reduceEq, Int.reduceLT, Int.reduceLE, Int.reduceNeg, if_true, if_false, reduceCtorEq, Nat.reduceSub, storeV_ptr, slcV_slice, ↓mwD, mwU]
      have hfr := (hf.mono (G := [b, r]) (by simp)).trans hf2
      refine ⟨rfl, ⟨b, r, _, _, _, _, rfl, rfl, hh2, by rw [List.getElem?_set_ne (by omega)]; exact hu, Sl.fr hT hfr (fun p hp => ?_), hqb, hqr, hT0⟩, hfr.mono (by simp +contextual)⟩
      simp only [Value.ownBlock, Option.some.injEq] at hp
      subst hp
      simp [hqb, hqr]

theorem step_gate {w : World} {v : Value} {F : List Nat} {th hold since x : Int} (hw : WorkAt w v F (.gate th hold since)) (hs : (US.gate th hold since).ok) (hx : Smp x) :
    ∃ p, v = .iface 161 p ∧ Rets Go.Proofs.Tryz.prog 199 #[p, .int .i64 x] w (StepR v F (.gate th hold since) x w) := by
  obtain ⟨b, rfl, rfl, hb⟩ := hw
  obtain ⟨h1, h2, h3, h4, h5, h6⟩ := hs
  refine ⟨_, rfl, ?_⟩
  have c0 := hb.get (o := 0) rfl
  have c2 := hb.get (o := 2) rfl
  have hneg : IntKind.i64.wrap (0 - x) = -x := by have := hx.1; have := hx.2; rw [w64 (by omega) (by omega)]; omega
  have hab : (if x < -x then -x else x) = absI x := rfl
  have e1 : IntKind.i64.wrap (since + 1) = since + 1 := w64 (by omega) (by omega)
  refine en199 ?_
  simp -dsimp -implicitDefEqProofs only [c0, hneg, hab, m199, sF199, Nat.reduceEqDiff, ↓reduceIte, Nat.reduceAdd, Nat.reduceMul, Value.cells, Value.oneCell', eq_self, ne_eq, Int.reduceToNat, Int.reduceEq, Int.reduceLT, Int.reduceLE, Int.reduceNeg, if_true, if_false, reduceCtorEq, Nat.reduceSub, storeV_ptr, slcV_slice, ↓mwD, mwU]
  refine iteW_dec (fun hge => ?_) (fun hlt => ?_)
  · have hsi : sinceI th since x = 0 := by rw [sinceI, if_pos hge]
    have hb1 := hb.set 2 (.int .i64 0)
    have d1 := hb1.get (o := 1) rfl
    have d2 := hb1.get (o := 2) rfl
    simp -dsimp -implicitDefEqProofs only [c2, hb.frozen, m199, sF199, Nat.reduceEqDiff, ↓reduceIte, Nat.reduceAdd, Nat.reduceMul, Value.cells, Value.oneCell', eq_self, ne_eq, Int.reduceToNat, Int.reduceEq, Int.reduceLT, Int.reduceLE, Int.reduceNeg, if_true, if_false, reduceCtorEq, Nat.reduceSub, storeV_ptr, slcV_slice, ↓mwD, mwU]
    refine mwpB_drawE ?_
    simp -dsimp -implicitDefEqProofs only [d1, d2, m199, sF199, Nat.reduceEqDiff, ↓reduceIte, Nat.reduceAdd, Nat.reduceMul, Value.cells, Value.oneCell', eq_self, ne_eq, Int.reduceToNat, Int.reduceEq, Int.reduceLT, Int.reduceLE, Int.reduceNeg, if_true, if_false, reduceCtorEq, Nat.reduceSub, storeV_ptr, slcV_slice, ↓mwD, mwU]
    refine iteW_dec (fun hh => ?_) (fun hh => ?_)
    · omega
    · simp -dsimp -implicitDefEqProofs only [m199, sF199, Nat.reduceEqDiff, ↓reduceIte, Nat.reduceAdd, Nat.reduceMul, Value.cells, Value.oneCell', eq_self, ne_eq, Int.reduceToNat, Int.reduceEq, Int.reduceLT, Int.reduceLE, Int.reduceNeg, if_true, if_false, reduceCtorEq, Nat.reduceSub, storeV_ptr, slcV_slice, ↓mwD, mwU]
      refine ⟨?_, ⟨b, rfl, rfl, by rw [hsi]; exact hb1⟩, ((Fr.refl _ _).setCell (by simp) _).drew⟩
      show _ = Value.int .i64 (if hold < sinceI th since x then 0 else x)
      rw [hsi, if_neg hh]
  · have hsi : sinceI th since x = (if 4097 < since + 1 then 4097 else since + 1) := by rw [sinceI, if_neg hlt]
    have hb1 := hb.set 2 (.int .i64 (sinceI th since x))
    have d1 := hb1.get (o := 1) rfl
    have d2 := hb1.get (o := 2) rfl
    simp -dsimp -implicitDefEqProofs only [c2, e1, ← hsi, hb.frozen, m199, sF199, Nat.reduceEqDiff, ↓reduceIte, Nat.reduceAdd, Nat.reduceMul, Value.cells, Value.oneCell', eq_self, ne_eq, Int.reduceToNat, Int.reduceEq, Int.reduceLT, Int.reduceLE, Int.reduceNeg, if_true, if_false, reduceCtorEq, Nat.reduceSub, storeV_ptr, slcV_slice, ↓mwD, mwU]
    refine mwpB_drawE ?_
    simp -dsimp -implicitDefEqProofs only [d1, d2, m199, sF199, Nat.reduceEqDiff, ↓reduceIte, Nat.reduceAdd, Nat.reduceMul, Value.cells, Value.oneCell', eq_self, ne_eq, Int.reduceToNat, Int.reduceEq, Int.reduceLT, Int.reduceLE, Int.reduceNeg, if_true, if_false, reduceCtorEq, Nat.reduceSub, storeV_ptr, slcV_slice, ↓mwD, mwU]
    refine iteW_dec (fun hh => ?_) (fun hh => ?_)
    · simp -dsimp -implicitDefEqProofs only [m199, sF199, Nat.reduceEqDiff, ↓reduceIte, Nat.reduceAdd, Nat.reduceMul, Value.cells, Value.oneCell', eq_self, ne_eq, Int.reduceToNat, Int.reduceEq, Int.reduceLT, Int.reduceLE, Int.reduceNeg, if_true, if_false, reduceCtorEq, Nat.reduceSub, storeV_ptr, slcV_slice, ↓mwD, mwU]
      refine ⟨?_, ⟨b, rfl, rfl, hb1⟩, ((Fr.refl _ _).setCell (by simp) _).drew⟩
      show _ = Value.int .i64 (if hold < sinceI th since x then 0 else x)
      rw [if_pos hh]
    · simp -dsimp -implicitDefEqProofs only [m199, sF199, Nat.reduceEqDiff, ↓reduceIte, Nat.reduceAdd, Nat.reduceMul, Value.cells, Value.oneCell', eq_self, ne_eq, Int.reduceToNat, Int.reduceEq, Int.reduceLT, Int.reduceLE, Int.reduceNeg, if_true, if_false, reduceCtorEq, Nat.reduceSub, storeV_ptr, slcV_slice, ↓mwD, mwU]
      refine ⟨?_, ⟨b, rfl, rfl, hb1⟩, ((Fr.refl _ _).setCell (by simp) _).drew⟩
      show _ = Value.int .i64 (if hold < sinceI th since x then 0 else x)
      rw [if_neg hh]

theorem step_look {w : World} {v : Value} {F : List Nat} {th ra at_ re lev x : Int} {h : List Int} (hw : WorkAt w v F (.look th ra at_ re lev h)) (hs : (US.look th ra at_ re lev h).ok) (hx : Smp x) :
    ∃ p, v = .iface 101 p ∧ Rets Go.Proofs.Tryz.prog 184 #[p, .int .i64 x] w (StepR v F (.look th ra at_ re lev h) x w) := by
  obtain ⟨b, r, cs, rfl, rfl, hh, g0, g1, g2, g3, g4⟩ := hw
  obtain ⟨⟨h1, h2, h3, h4, h5, h6, h7, h8, h9, h10⟩, hsm, hlen⟩ := hs
  have hb := hh.bk
  have hl := levI_bd (at_ := at_) (re := re) hx.1 hx.2 h5 h6 h7 h8 h9 h10
  have hf := folI_bd (th := th) (ra := ra) (lev := levI at_ re lev x) h1 h3 hl.1
  have hk := hsm.kept hx
  have hm := mul_bd hk.1 hk.2 hf.1 hf.2 (by omega)
  have e1 : IntKind.i64.wrap (keptI h x * folI th ra (levI at_ re lev x)) = keptI h x * folI th ra (levI at_ re lev x) := w64 (by omega) (by omega)
  have ho : 4 < cs.length := (List.getElem?_eq_some_iff.1 g4).1
  refine ⟨_, rfl, ?_⟩
  refine en184 ?_
  simp -dsimp -implicitDefEqProofs only [m184, sF184, Nat.reduceEqDiff, ↓reduceIte, Nat.reduceAdd, Nat.reduceMul, Value.cells, Value.oneCell', eq_self, ne_eq, Int.reduceToNat, Int.reduceEq, Int.reduceLT, Int.reduceLE, Int.reduceNeg, if_true, if_false, reduceCtorEq, Nat.reduceSub, storeV_ptr, slcV_slice, ↓mwD, mwU]
  refine (follow_c b 0 cs _ th ra at_ re lev x w hb g0 g1 g2 g3 g4 h1 h2 h3 h4 h5 h6 h7 h8 h9 h10 hx.1 hx.2).use ?_
  rintro u w1 ⟨rfl, hb1, hf1⟩
  simp -dsimp -implicitDefEqProofs only [m184, sF184, Nat.reduceEqDiff, ↓reduceIte, Nat.reduceAdd, Nat.reduceMul, Value.cells, Value.oneCell', eq_self, ne_eq, Int.reduceToNat, Int.reduceEq, Int.reduceLT, Int.reduceLE, Int.reduceNeg, if_true, if_false, reduceCtorEq, Nat.reduceSub, storeV_ptr, slcV_slice, ↓mwD, mwU]
  have hh1 : Hist w1 b 5 r h (cs.set (0 + 4) (.int .i64 (levI at_ re lev x))) 105 :=
    hh.of hb1 (List.getElem?_set_ne (by omega)) (List.getElem?_set_ne (by omega)) (fun hne => hf1.block r (by simp [Ne.symm hne]))
  refine (kept_c b 5 r h _ _ x w1 hh1).use ?_
  rintro u w2 ⟨rfl, hf2, u2, hh2⟩
  simp -dsimp -implicitDefEqProofs only [e1, m184, sF184, Nat.reduceEqDiff, ↓reduceIte, Nat.reduceAdd, Nat.reduceMul, Value.cells, Value.oneCell', eq_self, ne_eq, Int.reduceToNat, Int.reduceEq, Int.reduceLT, Int.reduceLE, Int.reduceNeg, if_true, if_false, reduceCtorEq, Nat.reduceSub, storeV_ptr, slcV_slice, ↓mwD, mwU]
  refine (rounded_c _ (by omega) (by omega) _).use ?_
  rintro u w3 ⟨rfl, rfl⟩
  simp -dsimp -implicitDefEqProofs only [m184, sF184, Nat.reduceEqDiff, ↓reduceIte, Nat.reduceAdd, Nat.reduceMul, Value.cells, Value.oneCell', eq_self, ne_eq, Int.reduceToNat, Int.reduceEq, Int.reduceLT, Int.reduceLE, Int.reduceNeg, if_true, if_false, reduceCtorEq, Nat.reduceSub, storeV_ptr, slcV_slice, ↓mwD, mwU]
  refine ⟨rfl, ⟨b, r, _, rfl, rfl, hh2, ?_⟩, (hf1.mono (by simp)).trans hf2⟩
  refine ⟨?_, ?_, ?_, ?_, ?_⟩
  · rw [List.getElem?_set_ne (by omega), List.getElem?_set_ne (by omega)]; exact g0
  · rw [List.getElem?_set_ne (by omega), List.getElem?_set_ne (by omega)]; exact g1
  · rw [List.getElem?_set_ne (by omega), List.getElem?_set_ne (by omega)]; exact g2
  · rw [List.getElem?_set_ne (by omega), List.getElem?_set_ne (by omega)]; exact g3
  · rw [List.getElem?_set_ne (by omega)]; simp [ho]

end Go.Proofs.YtefcfnmmpnjjjaaGreatDoor

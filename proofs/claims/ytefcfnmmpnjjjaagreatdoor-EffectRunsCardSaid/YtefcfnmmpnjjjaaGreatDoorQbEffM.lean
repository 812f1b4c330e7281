/- Hosts: lists of objects in memory, each with blocks of its own. -/
import Derived.Test.YtefcfnmmpnjjjaaGreatDoorQbEffK
namespace Go.Proofs.YtefcfnmmpnjjjaaGreatDoor
open Go.RowKit
set_option linter.unusedSimpArgs false

/-- Only the blocks of G have turned, and none has come. -/
structure FrP (G : Nat → Prop) (w w' : World) : Prop where
  os : w'.os = w.os
  tape : w'.tape = w.tape
  output : w'.output = w.output
  size : w'.heap.size = w.heap.size
  block : ∀ k, ¬ G k → w'.heap[k]? = w.heap[k]?

theorem FrP.refl (G : Nat → Prop) (w : World) : FrP G w w := ⟨rfl, rfl, rfl, rfl, fun _ _ => rfl⟩
theorem FrP.trans {G : Nat → Prop} {a b c : World} (h : FrP G a b) (k : FrP G b c) : FrP G a c :=
  ⟨k.os.trans h.os, k.tape.trans h.tape, k.output.trans h.output, k.size.trans h.size, fun i hi => (k.block i hi).trans (h.block i hi)⟩
theorem FrP.mono {G H : Nat → Prop} {w w' : World} (h : FrP G w w') (hs : ∀ b, G b → H b) : FrP H w w' := ⟨h.os, h.tape, h.output, h.size, fun k hk => h.block k (fun hf => hk (hs k hf))⟩
theorem FrP.bk {G : Nat → Prop} {w w' : World} {b : Nat} {cs : List Value} {t : TypeId} (h : FrP G w w') (hb : ¬ G b) (hk : Bk w b cs t) : Bk w' b cs t := by unfold Bk at hk ⊢; rw [h.block b hb]; exact hk
theorem FrP.sl {G : Nat → Prop} {w w' : World} {v : Value} {cs : List Value} (h : FrP G w w') (hp : cs ≠ [] → ∀ p, v.ownBlock = some p → ¬ G p) (hs : Sl w v cs) : Sl w' v cs := by
  rcases hs with hs | ⟨b, o, cap, rfl, h2, h3, h4⟩
  · exact .inl hs
  · refine .inr ⟨b, o, cap, rfl, h2, h3, fun k u hk => ?_⟩
    rw [World.cell?_of_block (w := w) (h.block b (hp (by rintro rfl; simp at hk) b rfl))]
    exact h4 k u hk
/-- At most the blocks of G have turned; new memory may have come. -/
structure ChP (G : Nat → Prop) (w w' : World) : Prop where
  os : w'.os = w.os
  tape : w'.tape = w.tape
  output : w'.output = w.output
  size : w.heap.size ≤ w'.heap.size
  block : ∀ k, k < w.heap.size → ¬ G k → w'.heap[k]? = w.heap[k]?
theorem ChP.refl (G : Nat → Prop) (w : World) : ChP G w w := ⟨rfl, rfl, rfl, Nat.le_refl _, fun _ _ _ => rfl⟩
theorem ChP.trans {G : Nat → Prop} {a b c : World} (h : ChP G a b) (k : ChP G b c) : ChP G a c :=
  ⟨k.os.trans h.os, k.tape.trans h.tape, k.output.trans h.output, Nat.le_trans h.size k.size, fun i hi hf => (k.block i (Nat.lt_of_lt_of_le hi h.size) hf).trans (h.block i hi hf)⟩
theorem ChP.mono {G H : Nat → Prop} {w w' : World} (h : ChP G w w') (hs : ∀ b, G b → H b) : ChP H w w' := ⟨h.os, h.tape, h.output, h.size, fun k hk hn => h.block k hk (fun hf => hn (hs k hf))⟩
theorem FrP.chp {G : Nat → Prop} {w w' : World} (h : FrP G w w') : ChP G w w' := ⟨h.os, h.tape, h.output, Nat.le_of_eq h.size.symm, fun k _ hk => h.block k hk⟩
theorem Ext.chp {G : Nat → Prop} {w w' : World} (h : Ext w w') : ChP G w w' := ⟨h.os, h.tape, h.output, h.size, fun k hk _ => h.block k hk⟩
theorem ChP.ext {G : Nat → Prop} {w0 w w' : World} (h : ChP G w w') (he : Ext w0 w) (hG : ∀ b, G b → w0.heap.size ≤ b) : Ext w0 w' :=
  Below.trans he ⟨h.os, h.tape, h.output, h.size, fun k hk => h.block k (Nat.lt_of_lt_of_le hk he.le) (fun hf => by have := hG k hf; omega)⟩
theorem ChP.bk {G : Nat → Prop} {w w' : World} {b : Nat} {cs : List Value} {t : TypeId} (h : ChP G w w') (hb : ¬ G b) (hk : Bk w b cs t) : Bk w' b cs t := by
  have hl := hk.lt
  unfold Bk at hk ⊢; rw [h.block b hl hb]; exact hk
theorem ChP.cell {G : Nat → Prop} {w w' : World} (h : ChP G w w') {a : Addr} (hb : ¬ G a.block) {v : Value} (hc : w.cell? a = some v) : w'.cell? a = some v := by
  rw [World.cell?_of_block (w := w) (h.block a.block (World.block_lt_of_cell? w a hc) hb)]; exact hc
theorem ChP.grown {G : Nat → Prop} {w0 w w' : World} {row : Option Nat} (h : ChP G w0 w) (hg : w.grownBy w' row) (hr : ∀ k, row = some k → w0.heap.size ≤ k) : ChP G w0 w' :=
  ⟨hg.os.trans h.os, hg.tape.trans h.tape, hg.output.trans h.output, Nat.le_trans h.size hg.size, fun k hk hf =>
    (hg.block k (Nat.lt_of_lt_of_le hk h.size) (fun e => by have := hr k e.symm; omega)).trans (h.block k hk hf)⟩

/-- The blocks of G are as they were. -/
def Same (G : Nat → Prop) (w w' : World) : Prop := ∀ b, G b → w'.heap[b]? = w.heap[b]?
theorem Bk.same {w w' : World} {b : Nat} {cs : List Value} {t : TypeId} {G : Nat → Prop} (h : Bk w b cs t) (hs : Same G w w') (hb : G b) : Bk w' b cs t := by unfold Bk at h ⊢; rw [hs b hb]; exact h
theorem Sl.same {w w' : World} {v : Value} {cs : List Value} {G : Nat → Prop} (h : Sl w v cs) (hs : Same G w w') (hp : cs ≠ [] → ∀ p, v.ownBlock = some p → G p) : Sl w' v cs := by
  rcases h with h | ⟨b, o, cap, rfl, h2, h3, h4⟩
  · exact .inl h
  · refine .inr ⟨b, o, cap, rfl, h2, h3, fun k u hk => ?_⟩
    rw [World.cell?_of_block (w := w) (hs b (hp (by rintro rfl; simp at hk) b rfl))]
    exact h4 k u hk
theorem Hist.same {w w' : World} {b o r : Nat} {l : List Int} {cs : List Value} {t : TypeId} {G : Nat → Prop} (h : Hist w b o r l cs t) (hs : Same G w w') (hb : G b) (hr : G r) : Hist w' b o r l cs t := by
  exact h.of (h.bk.same hs hb) rfl rfl fun _ => hs r hr

/-! ### Objects side by side -/
def Objs {α : Type} (R : World → Value → (Nat → Prop) → α → Prop) (w : World) (vs : List Value) (Gf : Nat → Nat → Prop) (ss : List α) : Prop :=
  vs.length = ss.length ∧ (∀ i v s, vs[i]? = some v → ss[i]? = some s → R w v (Gf i) s) ∧ ∀ i j b, i < vs.length → j < vs.length → i ≠ j → Gf i b → ¬ Gf j b

/-- R speaks of the blocks of its own alone. -/
def Local {α : Type} (R : World → Value → (Nat → Prop) → α → Prop) : Prop := ∀ w w' v G s, R w v G s → Same G w w' → R w' v G s

section
variable {α : Type} {R : World → Value → (Nat → Prop) → α → Prop} {w w' : World} {vs : List Value} {Gf : Nat → Nat → Prop} {ss : List α}
theorem Objs.same (hR : Local R) (h : Objs R w vs Gf ss) (hs : ∀ i, i < vs.length → Same (Gf i) w w') : Objs R w' vs Gf ss :=
  ⟨h.1, fun i v s hv hss => hR _ _ _ _ _ (h.2.1 i v s hv hss) (hs i (List.getElem?_eq_some_iff.1 hv).1), h.2.2⟩
theorem Objs.nil (w : World) (Gf : Nat → Nat → Prop) : Objs R w [] Gf [] := ⟨rfl, fun i v s h => by simp at h, fun i j b h => by simp at h⟩
end

/-- What a unit in a host is: its state, and of which effect it is. -/
structure UX where
  s : US
  k : Int
  A : List Int
  T : List Int

def UX.step (x : UX) (y : Int) : UX := ⟨(stepU x.s y).1, x.k, x.A, x.T⟩

/-- A unit, all its blocks in G. -/
def UnitIn (w : World) (v : Value) (G : Nat → Prop) (x : UX) : Prop :=
  ∃ F b cs wk a t, v = .pointer (some ⟨b, 0, none⟩) ∧ Bk w b cs 80 ∧ b ∉ F ∧ cs[0]? = some wk ∧ cs[1]? = some (.int .i64 x.k) ∧ cs[2]? = some a ∧ cs[3]? = some t ∧ WorkAt w wk F x.s ∧ SlI w a x.A ∧ SlI w t x.T ∧
    (x.A ≠ [] → ∀ q, a.ownBlock = some q → q ∉ F ∧ G q) ∧ (x.T ≠ [] → ∀ q, t.ownBlock = some q → q ∉ F ∧ G q) ∧ G b ∧ ∀ q ∈ F, G q

/-- A lane: its own history, its units. -/
structure LX where
  h : List Int
  us : List UX

def LaneIn (w : World) (v : Value) (G : Nat → Prop) (x : LX) : Prop :=
  ∃ b r cs up vs Gf, v = .pointer (some ⟨b, 0, none⟩) ∧ Hist w b 0 r x.h cs 117 ∧ cs[2]? = some up ∧ Sl w up vs ∧ Objs UnitIn w vs Gf x.us ∧
    (∀ i, i < vs.length → ¬ Gf i b ∧ ¬ Gf i r) ∧ (vs ≠ [] → ∀ q, up.ownBlock = some q → q ≠ b ∧ q ≠ r ∧ G q ∧ ∀ i, i < vs.length → ¬ Gf i q) ∧ G b ∧ G r ∧ ∀ i, i < vs.length → ∀ q, Gf i q → G q

/-- A sample through a lane's units. -/
def runUs : List UX → Int → List UX × Int
  | [], y => ([], y)
  | x :: us, y => (x.step y :: (runUs us (stepU x.s y).2).1, (runUs us (stepU x.s y).2).2)
/-- A sample through a lane. -/
def runL (x : LX) (y : Int) : LX × Int := ({ h := pushL x.h y, us := (runUs x.us (keptI x.h y)).1 }, (runUs x.us (keptI x.h y)).2)
def LX.ok (x : LX) : Prop := Smps x.h ∧ ∀ u ∈ x.us, u.s.ok
/-- A sample through all lanes: their states, and the plain sum. -/
def sumL : List LX → Int → List LX × Int
  | [], _ => ([], 0)
  | x :: ls, y => ((runL x y).1 :: (sumL ls y).1, (runL x y).2 + (sumL ls y).2)
/-- What a host makes of samples. -/
def runH : List LX → List Int → List LX × List Int
  | ls, [] => (ls, [])
  | ls, y :: L => ((runH (sumL ls y).1 L).1, bnd (sumL ls y).2 :: (runH (sumL ls y).1 L).2)
def HostIn (w : World) (v : Value) (G : Nat → Prop) (ls : List LX) (eq : Bool) : Prop :=
  ∃ b lp vs Gf, v = .pointer (some ⟨b, 0, none⟩) ∧ Bk w b [lp, .bool eq] 113 ∧ Sl w lp vs ∧ Objs LaneIn w vs Gf ls ∧
    (∀ i, i < vs.length → ¬ Gf i b) ∧ (vs ≠ [] → ∀ q, lp.ownBlock = some q → q ≠ b ∧ G q ∧ ∀ i, i < vs.length → ¬ Gf i q) ∧ G b ∧ ∀ i, i < vs.length → ∀ q, Gf i q → G q

end Go.Proofs.YtefcfnmmpnjjjaaGreatDoor

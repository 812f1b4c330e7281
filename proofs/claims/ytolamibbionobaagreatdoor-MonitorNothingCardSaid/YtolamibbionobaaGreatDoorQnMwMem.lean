/- Memory: extension of a world, rows of cells, slices of ints; append onto a slice of the call's own. -/
import Derived.Test.YtolamibbionobaaGreatDoorQnMwOps
import Derived.Below
import Derived.Lib.SlicesS
import Derived.OneCell

namespace Go.Proofs.YtolamibbionobaaGreatDoor
open Go.RowKit
def Row (w : World) (b o : Nat) (cs : List Value) : Prop := ∀ k v, cs[k]? = some v → w.cell? ⟨b, o + k, none⟩ = some v
theorem Row.ext {w w' : World} {b o : Nat} {cs : List Value} (h : Row w b o cs) (he : Ext w w') : Row w' b o cs := fun k v hk => he.cell (h k v hk)
theorem Row.nil (w : World) (b o : Nat) : Row w b o [] := fun k v hk => by simp at hk
def Sl (w : World) (v : Value) (cs : List Value) : Prop :=
  (∃ p cap, v = .slice p 0 cap ∧ cap ≤ maxLen ∧ cs = [] ∧ (p = none → cap = 0)) ∨ ∃ b o cap, v = .slice (some ⟨b, o, none⟩) cs.length cap ∧ cs.length ≤ cap ∧ cap ≤ maxLen ∧ Row w b o cs
def ints (xs : List Int) : List Value := xs.map (.int .i64)
def SlI (w : World) (v : Value) (xs : List Int) : Prop := Sl w v (ints xs)
theorem ints_length (xs : List Int) : (ints xs).length = xs.length := by simp [ints]
theorem ints_get {xs : List Int} {k : Nat} (h : k < xs.length) : (ints xs)[k]? = some (.int .i64 xs[k]) := by simp [ints, h]
theorem Sl.ext {w w' : World} {v : Value} {cs : List Value} (h : Sl w v cs) (he : Ext w w') : Sl w' v cs := by
  rcases h with h | ⟨b, o, cap, h1, h2, h3, h4⟩
  · exact .inl h
  · exact .inr ⟨b, o, cap, h1, h2, h3, h4.ext he⟩
theorem SlI.ext {w w' : World} {v : Value} {xs : List Int} (h : SlI w v xs) (he : Ext w w') : SlI w' v xs := Sl.ext h he
theorem SlI.empty (w : World) (p : Option Addr) {cap : Nat} (h : cap ≤ maxLen) (h0 : p = none → cap = 0) : SlI w (.slice p 0 cap) [] := .inl ⟨p, cap, rfl, h, rfl, h0⟩
theorem SlI.nil (w : World) : SlI w (.slice none 0 0) [] := SlI.empty w none (by simp) (fun _ => rfl)
theorem Sl.at {w : World} {v : Value} {cs : List Value} (h : Sl w v cs) (hne : cs ≠ []) : ∃ b o cap, v = .slice (some ⟨b, o, none⟩) cs.length cap ∧ cs.length ≤ cap ∧ cap ≤ maxLen ∧ Row w b o cs := by
  rcases h with ⟨_, _, _, _, h', _⟩ | h
  · exact absurd h' hne
  · exact h
theorem SlI.at {w : World} {v : Value} {xs : List Int} (h : SlI w v xs) (hne : xs ≠ []) :
    ∃ b o cap, v = .slice (some ⟨b, o, none⟩) xs.length cap ∧ xs.length ≤ cap ∧ cap ≤ maxLen ∧ ∀ k (hk : k < xs.length), w.cell? ⟨b, o + k, none⟩ = some (.int .i64 xs[k]) := by
  obtain ⟨b, o, cap, h1, h2, h3, h4⟩ := Sl.at h (by intro h0; apply hne; simpa [ints] using h0)
  rw [ints_length] at h1 h2
  exact ⟨b, o, cap, h1, h2, h3, fun k hk => h4 k _ (ints_get hk)⟩
def Own (w : World) (base : Nat) (e : TypeId) (size : Nat) (v : Value) (n : Nat) (cs : List Value) : Prop := w.ownsRow base e size v n cs
theorem Own.sl {w : World} {base : Nat} {e : TypeId} {v : Value} {n : Nat} {cs : List Value} (h : w.ownsRow base e 1 v n cs) : Sl w v cs := by
  have hn : cs.length = n := by simpa using h.1
  rcases h.2 with ⟨hv, h0⟩ | ⟨g, cap, cur, hv, hb, hg, h1, h2, h3, h4⟩
  · left; refine ⟨none, 0, hv, by simp, ?_, fun _ => rfl⟩; cases cs with
    | nil => rfl
    | cons a l => simp at hn; omega
  · right
    refine ⟨g, 0, cap, by rw [hv, hn], by omega, h2, fun k u hk => ?_⟩
    have := World.ownsRow.cells h (g := g) (by simp [hv, Value.ownBlock]) k u hk
    simpa [Addr.add_lit] using this
theorem Own.mono {w : World} {base base' : Nat} {e : TypeId} {size : Nat} {v : Value} {n : Nat} {cs : List Value} (h : w.ownsRow base e size v n cs) (hb : base' ≤ base) : w.ownsRow base' e size v n cs := by
  refine ⟨h.1, ?_⟩
  rcases h.2 with h2 | ⟨g, cap, cur, hv, hg, r⟩
  · exact .inl h2
  · exact .inr ⟨g, cap, cur, hv, by omega, r⟩
theorem Own.ext {w w' : World} {base : Nat} {e : TypeId} {size : Nat} {v : Value} {n : Nat} {cs : List Value} (h : w.ownsRow base e size v n cs) (he : Ext w w') : w'.ownsRow base e size v n cs := by
  refine ⟨h.1, ?_⟩
  rcases h.2 with h2 | ⟨g, cap, cur, hv, hg, hh, r⟩
  · exact .inl h2
  · exact .inr ⟨g, cap, cur, hv, hg, by rw [he.block g (Array.getElem?_eq_some_iff.1 hh).1]; exact hh, r⟩
theorem Ext.grown {w0 w w' : World} {row : Option Nat} (h : Ext w0 w) (hg : w.grownBy w' row) (hr : ∀ k, row = some k → w0.heap.size ≤ k) : Ext w0 w' := Below.grown h hg h.size hr
end Go.Proofs.YtolamibbionobaaGreatDoor

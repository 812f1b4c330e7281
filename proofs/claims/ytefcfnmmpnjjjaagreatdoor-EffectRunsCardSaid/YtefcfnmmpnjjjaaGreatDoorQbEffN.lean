/- A host runs. -/
import Derived.Test.YtefcfnmmpnjjjaaGreatDoorQbEffM
namespace Go.Proofs.YtefcfnmmpnjjjaaGreatDoor
open Go.RowKit
set_option linter.unusedSimpArgs false

theorem midset {α : Type} (P D : List α) (x x' : α) (m : Nat) (h : P.length = m) : (P ++ x :: D)[m]? = some x ∧ (P ++ x :: D).set m x' = (P ++ [x']) ++ D := by
  subst h
  constructor
  · simp
  · simp

/-- A slice of pointers: what lies at an index. -/
theorem Sl.get {w : World} {v : Value} {cs : List Value} (h : Sl w v cs) {i : Nat} {u : Value} (hi : cs[i]? = some u) : ∃ b o cap, v = .slice (some ⟨b, o, none⟩) cs.length cap ∧ w.cell? ⟨b, o + i, none⟩ = some u := by
  obtain ⟨b, o, cap, rfl, _, _, hr⟩ := h.at (by rintro rfl; simp at hi)
  exact ⟨b, o, cap, rfl, hr i u hi⟩

end Go.Proofs.YtefcfnmmpnjjjaaGreatDoor

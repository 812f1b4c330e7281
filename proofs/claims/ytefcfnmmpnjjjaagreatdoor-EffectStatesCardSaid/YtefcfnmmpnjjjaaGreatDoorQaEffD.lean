/- Contracts: Valid, Latency, Tail of the reference; Latency, Tail of the program. -/
import Derived.Test.YtefcfnmmpnjjjaaGreatDoorQaEffC
namespace Go.Proofs.YtefcfnmmpnjjjaaGreatDoor
open Go.RowKit
set_option linter.unusedSimpArgs false

/-- The first Args in memory. -/
theorem SlI.some {w : World} {v : Value} {A : List Int} (h : SlI w v A) (hne : 0 < A.length) :
    ∃ b o cap, v = .slice (some ⟨b, o, none⟩) A.length cap ∧ ∀ k a, A[k]? = some a → w.cell? ⟨b, o + k, none⟩ = some (.int .i64 a) := by
  obtain ⟨b, o, cap, h1, _, _, h4⟩ := h.at (by intro h0; rw [h0] at hne; simp at hne)
  refine ⟨b, o, cap, h1, fun k a hk => ?_⟩
  obtain ⟨hlt, rfl⟩ := List.getElem?_eq_some_iff.1 hk
  exact h4 k hlt

/-- What a block of the call's own holds, in every later world. -/
theorem box_cell {w w' : World} {cs : Array Value} {t : TypeId} (h : Ext (w.alloc (.cells cs t)) w') {j : Nat} {v : Value} (hj : cs[j]? = some v) : w'.cell? ⟨w.heap.size, j, none⟩ = some v :=
  h.cell (by rw [World.cell?_alloc_new]; exact hj)

end Go.Proofs.YtefcfnmmpnjjjaaGreatDoor

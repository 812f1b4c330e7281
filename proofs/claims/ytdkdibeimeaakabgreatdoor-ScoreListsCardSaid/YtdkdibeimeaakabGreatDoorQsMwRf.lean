/- Ranges over a function, in the evaluator. -/
import Derived.Test.YtdkdibeimeaakabGreatDoorQsMwIn

namespace Go.Proofs.YtdkdibeimeaakabGreatDoor
open Go.RowKit
def setPs (e : Env) (ps : List Tmp) (vs : List Value) : Env := (ps.zip vs).foldl (fun e p => upd e p.1 p.2) e
theorem rel_setPs {n : Nat} : ∀ (l : List (Tmp × Value)) (tmps : Array Value) (e : Env), tmps.size = n → (∀ t, t < n → tmps[t]? = some (e t)) → (∀ p ∈ l, p.1 < n) →
    (l.foldl (fun t p => t.setIfInBounds p.1 p.2) tmps).size = n ∧ ∀ t, t < n → (l.foldl (fun t p => t.setIfInBounds p.1 p.2) tmps)[t]? = some (l.foldl (fun e p => upd e p.1 p.2) e t)
  | [], tmps, e, h1, h2, _ => ⟨h1, h2⟩
  | (p, v) :: l, tmps, e, h1, h2, h3 => by
    refine rel_setPs l _ _ (by simpa using h1) (fun t ht => ?_) fun q hq => h3 q (by simp [hq])
    have hp := h3 (p, v) (by simp)
    by_cases htp : t = p
    · subst htp; simp [upd, h1, ht]
    · rw [Array.getElem?_setIfInBounds_ne (Ne.symm htp), h2 t ht]; simp [upd, htp]
end Go.Proofs.YtdkdibeimeaakabGreatDoor

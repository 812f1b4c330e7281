/- Lanes made later; hosts made. -/
import Derived.Test.YtefcfnmmpnjjjaaGreatDoorQbEffP
namespace Go.Proofs.YtefcfnmmpnjjjaaGreatDoor
open Go.RowKit
set_option linter.unusedSimpArgs false

/-- A lane's history when it is to be n frames later. -/
def laterL (h : List Int) (n : Nat) : List Int := if n = h.length then h else fillL n h

theorem Objs.replace {α : Type} {R : World → Value → (Nat → Prop) → α → Prop} {w w' : World} {vs : List Value} {Gf : Nat → Nat → Prop} {ss : List α} (hR : Local R) (h : Objs R w vs Gf ss) {i : Nat} {v : Value} {s' : α} {G' : Nat → Prop} (hv : vs[i]? = some v) (hn : R w' v G' s')
    (hs : ∀ j, j < vs.length → j ≠ i → Same (Gf j) w w') (hd : ∀ j b, j < vs.length → j ≠ i → Gf j b → ¬ G' b) : Objs R w' vs (fun j => if j = i then G' else Gf j) (ss.set i s') := by
  refine ⟨by simp [h.1], fun j u s hu hss => ?_, fun j k b hj hk hjk hb => ?_⟩
  · have hj := (List.getElem?_eq_some_iff.1 hu).1
    by_cases hij : i = j
    · subst hij
      rw [List.getElem?_set] at hss
      simp only [if_true] at hss ⊢
      split at hss
      · cases hss
        rw [hv] at hu; cases hu
        exact hn
      · cases hss
    · rw [List.getElem?_set_ne hij] at hss
      simp only [show ¬ j = i from fun e => hij e.symm, if_false]
      exact hR _ _ _ _ _ (h.2.1 j u s hu hss) (hs j hj (fun e => hij e.symm))
  · by_cases h1 : j = i
    · have h2 : k ≠ i := by omega
      simp only [h1, if_true, h2, if_false] at hb ⊢
      exact fun hg => hd k b hk h2 hg hb
    · by_cases h2 : k = i
      · simp only [h1, if_false, h2, if_true] at hb ⊢
        exact hd j b hj h1 hb
      · simp only [h1, h2, if_false] at hb ⊢
        exact h.2.2 j k b hj hk hjk hb

def eqL (m : Int) (x : LX) : LX := ⟨laterL x.h (m - latL x.us).toNat, x.us⟩
end Go.Proofs.YtefcfnmmpnjjjaaGreatDoor

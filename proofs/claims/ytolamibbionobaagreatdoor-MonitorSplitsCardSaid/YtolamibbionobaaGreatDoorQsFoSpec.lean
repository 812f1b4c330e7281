/- Layer 02 in plain Lean: formats, what is within what, and joins. -/
import Derived.Test.YtolamibbionobaaGreatDoorQsChSpecToChLaw

namespace Go.Proofs.YtolamibbionobaaGreatDoor
structure Fl where
 key : Int
 c : Ch
structure Fm where
 m : Int
 F : List Fl
def fieldsB : Int → List Fl → Bool
 | _, [] => true
 | k, f :: l => decide (k < f.key) && (decide (f.key ≤ 6) && (f.c.valid && fieldsB f.key l))
def Fm.valid (f : Fm) : Bool := fieldsB 0 f.F && (decide (1 ≤ f.m) && decide (f.m ≤ 3))
def wiC (a b : Ch) : Prop := ∀ n, a.has n = true → b.has n = true
def wiL (A B : List Fl) : Prop := ∀ y ∈ B, ∃ x ∈ A, x.key = y.key ∧ wiC x.c y.c
def wiF (a b : Fm) : Prop := a.m = b.m ∧ wiL a.F b.F
theorem wiC.refl (a : Ch) : wiC a a := fun _ h => h
theorem wiC.trans {a b c : Ch} (h : wiC a b) (h' : wiC b c) : wiC a c := fun n hn => h' n (h n hn)
theorem wiF.trans {a b c : Fm} (h : wiF a b) (h' : wiF b c) : wiF a c := by
 refine ⟨h.1.trans h'.1, fun z hz => ?_⟩
 obtain ⟨y, hy, e1, w1⟩ := h'.2 z hz
 obtain ⟨x, hx, e2, w2⟩ := h.2 y hy
 exact ⟨x, hx, e2.trans e1, w2.trans w1⟩
def pairs : List Fl → List Fl → List (Option Fl × Option Fl)
 | [], [] => []
 | x :: A, [] => (some x, none) :: pairs A []
 | [], y :: B => (none, some y) :: pairs [] B
 | x :: A, y :: B => if x.key = y.key then (some x, some y) :: pairs A B else if x.key < y.key then (some x, none) :: pairs A (y :: B) else (none, some y) :: pairs (x :: A) B
termination_by A B => A.length + B.length
def WiP (p : Option Fl × Option Fl) : Prop := ∀ y, p.2 = some y → ∃ x, p.1 = some x ∧ wiC x.c y.c
def JoinR : List (Option Fl × Option Fl) → Option (List Fl) → Prop
 | [], o => o = some []
 | (some x, none) :: R, o => ∃ o', JoinR R o' ∧ o = o'.map (x :: ·)
 | (none, some y) :: R, o => ∃ o', JoinR R o' ∧ o = o'.map (y :: ·)
 | (some x, some y) :: R, o => ∃ c, Met x.c y.c c ∧ match c with
  | none => o = none
  | some c => ∃ o', JoinR R o' ∧ o = o'.map (⟨x.key, c⟩ :: ·)
 | (none, none) :: _, _ => False
end Go.Proofs.YtolamibbionobaaGreatDoor

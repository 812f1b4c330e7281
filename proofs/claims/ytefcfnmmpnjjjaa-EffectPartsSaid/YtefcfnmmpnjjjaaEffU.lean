/- Plain laws: delays. -/
import Derived.Test.YtefcfnmmpnjjjaaEffT
namespace Go.Proofs.Ytefcfnmmpnjjjaa
set_option linter.unusedSimpArgs false

/-- A history is a delay line. -/
theorem kept_line (h : List Int) (y : Int) (rest : List Int) : keptI h y :: ((pushL h y).reverse ++ rest) = h.reverse ++ y :: rest := by
  by_cases h0 : h = []
  · subst h0; simp [keptI, pushL]
  · obtain ⟨l, x, rfl⟩ : ∃ l x, h = l ++ [x] := ⟨h.dropLast, h.getLast h0, (List.dropLast_concat_getLast h0).symm⟩
    simp [keptI, pushL]

theorem kept_head (h : List Int) (y : Int) : keptI h y = (h.reverse ++ [y]).headD 0 ∧ (pushL h y).reverse = (h.reverse ++ [y]).tail := by
  have := kept_line h y []
  simp only [List.append_nil] at this
  rw [← this]
  exact ⟨rfl, rfl⟩

theorem runH_append : ∀ (L R : List Int) (ls : List LX), runH ls (L ++ R) = ((runH (runH ls L).1 R).1, (runH ls L).2 ++ (runH (runH ls L).1 R).2)
  | [], R, ls => rfl
  | y :: L, R, ls => by simp [runH, runH_append L R]

/-- The sum of gains. -/
def gsum : List Int → Int → Int
  | [], _ => 0
  | g :: gs, z => bnd (rnd (z * g)) + gsum gs z
theorem gsum_zero : ∀ gs, gsum gs 0 = 0
  | [] => rfl
  | g :: gs => by simp [gsum, gsum_zero gs, rnd, bnd]

/-- A lane of a delay and a gain, with a history of its own: all that waits in it. -/
def DLane (P : List Int) (x : LX) (g : Int) : Prop := ∃ h1 h2 k A T k' A' T', x = ⟨h1, [⟨.delay h2, k, A, T⟩, ⟨.gain g, k', A', T'⟩]⟩ ∧ h2.reverse ++ h1.reverse = P
theorem DLane.run {P : List Int} {x : LX} {g : Int} (h : DLane P x g) (y : Int) : (runL x y).2 = bnd (rnd ((P ++ [y]).headD 0 * g)) ∧ DLane ((P ++ [y]).tail) (runL x y).1 g := by
  obtain ⟨h1, h2, k, A, T, k', A', T', rfl, rfl⟩ := h
  have e : h2.reverse ++ h1.reverse ++ [y] = keptI h2 (keptI h1 y) :: ((pushL h2 (keptI h1 y)).reverse ++ (pushL h1 y).reverse) := by
    have l1 := kept_line h1 y []
    simp only [List.append_nil] at l1
    rw [List.append_assoc, ← l1, ← kept_line h2 (keptI h1 y)]
  rw [e]
  exact ⟨rfl, _, _, k, A, T, k', A', T', rfl, rfl⟩

def DLanes (P : List Int) : List LX → List Int → Prop
  | [], [] => True
  | x :: ls, g :: gs => DLane P x g ∧ DLanes P ls gs
  | _, _ => False
theorem DLanes.sum : ∀ {P : List Int} {ls : List LX} {gs : List Int}, DLanes P ls gs → ∀ y, (sumL ls y).2 = gsum gs ((P ++ [y]).headD 0) ∧ DLanes ((P ++ [y]).tail) (sumL ls y).1 gs
  | P, [], [], _, y => ⟨rfl, trivial⟩
  | P, x :: ls, g :: gs, h, y => by
    have h1 := h.1.run y
    have h2 := DLanes.sum h.2 y
    exact ⟨by simp only [sumL, gsum]; rw [h1.1, h2.1], h1.2, h2.2⟩
  | P, [], _ :: _, h, _ => h.elim
  | P, _ :: _, [], h, _ => h.elim
theorem DLanes.runH : ∀ (X : List Int) {P : List Int} {ls : List LX} {gs : List Int}, DLanes P ls gs → (Go.Proofs.Ytefcfnmmpnjjjaa.runH ls X).2 = ((P ++ X).take X.length).map fun z => bnd (gsum gs z)
  | [], P, ls, gs, _ => by simp [Go.Proofs.Ytefcfnmmpnjjjaa.runH]
  | y :: X, P, ls, gs, h => by
    have h1 := h.sum y
    have h2 := DLanes.runH X h1.2
    have e : P ++ y :: X = (P ++ [y]).headD 0 :: ((P ++ [y]).tail ++ X) := by cases P <;> simp
    rw [e]
    simp only [Go.Proofs.Ytefcfnmmpnjjjaa.runH, List.length_cons, List.take_succ_cons, List.map_cons]
    rw [h1.1, h2]

/-- A lane of a gain alone. -/
def GLanes : List LX → List Int → Prop
  | [], [] => True
  | x :: ls, g :: gs => (∃ k A T, x = ⟨[], [⟨.gain g, k, A, T⟩]⟩) ∧ GLanes ls gs
  | _, _ => False
theorem GLanes.sum : ∀ {ls : List LX} {gs : List Int}, GLanes ls gs → ∀ y, sumL ls y = (ls, gsum gs y)
  | [], [], _, y => rfl
  | x :: ls, g :: gs, h, y => by
    obtain ⟨⟨k, A, T, rfl⟩, h2⟩ := h
    simp only [sumL, GLanes.sum h2 y, gsum]
    rfl
  | [], _ :: _, h, _ => h.elim
  | _ :: _, [], h, _ => h.elim
theorem GLanes.runH : ∀ (X : List Int) {ls : List LX} {gs : List Int}, GLanes ls gs → (Go.Proofs.Ytefcfnmmpnjjjaa.runH ls X).2 = X.map fun z => bnd (gsum gs z)
  | [], ls, gs, _ => rfl
  | y :: X, ls, gs, h => by
    simp only [Go.Proofs.Ytefcfnmmpnjjjaa.runH, h.sum y, List.map_cons]
    rw [GLanes.runH X h]

end Go.Proofs.Ytefcfnmmpnjjjaa

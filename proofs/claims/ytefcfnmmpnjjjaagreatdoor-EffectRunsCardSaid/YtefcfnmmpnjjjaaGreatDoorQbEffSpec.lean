/- What the effects come to, in plain Lean: numbers and lists. -/
namespace Go.Proofs.YtefcfnmmpnjjjaaGreatDoor

def rnd (a : Int) : Int := if a < 0 then -((-a + 32768) / 65536) else (a + 32768) / 65536
def bnd (n : Int) : Int := if n < -8388607 then -8388607 else if 8388607 < n then 8388607 else n
def wtn (n a b : Int) : Bool := decide (a ≤ n) && decide (n ≤ b)

def tapsB (xs : List Int) : Bool := wtn xs.length 1 512 && !xs.any fun n => !wtn n (-65536) 65536
def samplesB (xs : List Int) : Bool := decide (xs.length ≤ 4096) && !xs.any fun n => !wtn n (-8388607) 8388607

/-- The bounds of a kind's Args. -/
def comp : List (Int × Int) := [(0, 8388607), (65536, 6553600), (1, 65536), (1, 65536)]
def rangesOf (k : Int) : List (Int × Int) :=
  if k = 1 then [(0, 655360)] else if k = 2 then [(0, 4096)] else if k = 3 then [(1, 4096), (-65536, 65536)] else if k = 5 then comp
  else if k = 6 then [(0, 8388607), (0, 4096)] else if k = 7 then comp ++ [(0, 512)] else []
def eqfB : List Int → List (Int × Int) → Bool
  | [], [] => true
  | n :: A, p :: ps => wtn n p.1 p.2 && eqfB A ps
  | _, _ => false
/-- 31.1: is it an effect? -/
def validB (k : Int) (A T : List Int) : Bool :=
  wtn k 1 7 && (if k = 4 then tapsB T else decide (T = [])) && eqfB A (rangesOf k)

theorem eqfB_length : ∀ (A : List Int) (ps : List (Int × Int)), eqfB A ps = true → A.length = ps.length
  | [], [], _ => rfl
  | n :: A, p :: ps, h => by simp [eqfB] at h; simp [eqfB_length A ps h.2]
  | [], _ :: _, h => by simp [eqfB] at h
  | _ :: _, [], h => by simp [eqfB] at h

theorem eqfB_iff : ∀ (A : List Int) (ps : List (Int × Int)), eqfB A ps = true ↔ A.length = ps.length ∧ ∀ (k : Nat) n p, A[k]? = some n → ps[k]? = some p → wtn n p.1 p.2 = true
  | [], [] => by simp [eqfB]
  | n :: A, p :: ps => by
    simp only [eqfB, Bool.and_eq_true, eqfB_iff A ps, List.length_cons, Nat.add_right_cancel_iff]
    constructor
    · rintro ⟨h1, h2, h3⟩
      refine ⟨h2, fun k m q hm hq => ?_⟩
      cases k with
      | zero => simp at hm hq; subst hm; subst hq; exact h1
      | succ k => exact h3 k m q (by simpa using hm) (by simpa using hq)
    · rintro ⟨h2, h3⟩
      exact ⟨h3 0 n p rfl rfl, h2, fun k m q hm hq => h3 (k + 1) m q (by simpa using hm) (by simpa using hq)⟩
  | [], _ :: _ => by simp [eqfB]
  | _ :: _, [] => by simp [eqfB]

/-- How many frames later an effect is. -/
def latI (k : Int) (A : List Int) : Int := if k = 2 then A.getD 0 0 else if k = 7 then A.getD 4 0 else 0
/-- How long it sounds on. -/
def tailI (k : Int) (A T : List Int) : Int := if k = 4 then (T.length : Int) - 1 else if k = 3 ∧ A.getD 1 0 ≠ 0 then 1000000 else latI k A

theorem wtn_iff {n a b : Int} : wtn n a b = true ↔ a ≤ n ∧ n ≤ b := by simp [wtn]

theorem eqfB_nil {A : List Int} (h : eqfB A [] = true) : A = [] := by cases A <;> simp [eqfB] at h; rfl
theorem eqfB_cons {A : List Int} {p : Int × Int} {ps : List (Int × Int)} (h : eqfB A (p :: ps) = true) : ∃ a B, A = a :: B ∧ p.1 ≤ a ∧ a ≤ p.2 ∧ eqfB B ps = true := by
  cases A with
  | nil => simp [eqfB] at h
  | cons a B => simp only [eqfB, Bool.and_eq_true, wtn_iff] at h; exact ⟨a, B, rfl, h.1.1, h.1.2, h.2⟩

/-- A valid effect's kinds and Args. -/
inductive VShape : Int → List Int → List Int → Prop
  | gain (a : Int) (h : 0 ≤ a ∧ a ≤ 655360) : VShape 1 [a] []
  | delay (a : Int) (h : 0 ≤ a ∧ a ≤ 4096) : VShape 2 [a] []
  | echo (a b : Int) (h : 1 ≤ a ∧ a ≤ 4096) (h' : -65536 ≤ b ∧ b ≤ 65536) : VShape 3 [a, b] []
  | filter (T : List Int) (h : tapsB T = true) : VShape 4 [] T
  | press (a b c d : Int) (h0 : 0 ≤ a ∧ a ≤ 8388607) (h1 : 65536 ≤ b ∧ b ≤ 6553600) (h2 : 1 ≤ c ∧ c ≤ 65536) (h3 : 1 ≤ d ∧ d ≤ 65536) : VShape 5 [a, b, c, d] []
  | gate (a b : Int) (h0 : 0 ≤ a ∧ a ≤ 8388607) (h1 : 0 ≤ b ∧ b ≤ 4096) : VShape 6 [a, b] []
  | look (a b c d e : Int) (h0 : 0 ≤ a ∧ a ≤ 8388607) (h1 : 65536 ≤ b ∧ b ≤ 6553600) (h2 : 1 ≤ c ∧ c ≤ 65536) (h3 : 1 ≤ d ∧ d ≤ 65536) (h4 : 0 ≤ e ∧ e ≤ 512) : VShape 7 [a, b, c, d, e] []

theorem valid_shape {k : Int} {A T : List Int} (h : validB k A T = true) : VShape k A T := by
  simp only [validB, Bool.and_eq_true, wtn_iff] at h
  obtain ⟨⟨⟨h1, h7⟩, hT⟩, hA⟩ := h
  have hk : k = 1 ∨ k = 2 ∨ k = 3 ∨ k = 4 ∨ k = 5 ∨ k = 6 ∨ k = 7 := by omega
  rcases hk with rfl | rfl | rfl | rfl | rfl | rfl | rfl
  · obtain rfl : T = [] := by simpa using hT
    obtain ⟨a, B, rfl, g1, g2, hB⟩ := eqfB_cons (p := (0, 655360)) (ps := []) hA
    obtain rfl := eqfB_nil hB
    exact .gain a ⟨g1, g2⟩
  · obtain rfl : T = [] := by simpa using hT
    obtain ⟨a, B, rfl, g1, g2, hB⟩ := eqfB_cons (p := (0, 4096)) (ps := []) hA
    obtain rfl := eqfB_nil hB
    exact .delay a ⟨g1, g2⟩
  · obtain rfl : T = [] := by simpa using hT
    obtain ⟨a, B, rfl, g1, g2, hB⟩ := eqfB_cons (p := (1, 4096)) (ps := [(-65536, 65536)]) hA
    obtain ⟨b, C, rfl, g3, g4, hC⟩ := eqfB_cons hB
    obtain rfl := eqfB_nil hC
    exact .echo a b ⟨g1, g2⟩ ⟨g3, g4⟩
  · obtain rfl := eqfB_nil (A := A) hA
    exact .filter T (by simpa using hT)
  · obtain rfl : T = [] := by simpa using hT
    obtain ⟨a, B, rfl, g1, g2, hB⟩ := eqfB_cons (p := (0, 8388607)) (ps := [(65536, 6553600), (1, 65536), (1, 65536)]) hA
    obtain ⟨b, C, rfl, g3, g4, hC⟩ := eqfB_cons hB
    obtain ⟨c, D, rfl, g5, g6, hD⟩ := eqfB_cons hC
    obtain ⟨d, E, rfl, g7, g8, hE⟩ := eqfB_cons hD
    obtain rfl := eqfB_nil hE
    exact .press a b c d ⟨g1, g2⟩ ⟨g3, g4⟩ ⟨g5, g6⟩ ⟨g7, g8⟩
  · obtain rfl : T = [] := by simpa using hT
    obtain ⟨a, B, rfl, g1, g2, hB⟩ := eqfB_cons (p := (0, 8388607)) (ps := [(0, 4096)]) hA
    obtain ⟨b, C, rfl, g3, g4, hC⟩ := eqfB_cons hB
    obtain rfl := eqfB_nil hC
    exact .gate a b ⟨g1, g2⟩ ⟨g3, g4⟩
  · obtain rfl : T = [] := by simpa using hT
    obtain ⟨a, B, rfl, g1, g2, hB⟩ := eqfB_cons (p := (0, 8388607)) (ps := [(65536, 6553600), (1, 65536), (1, 65536), (0, 512)]) hA
    obtain ⟨b, C, rfl, g3, g4, hC⟩ := eqfB_cons hB
    obtain ⟨c, D, rfl, g5, g6, hD⟩ := eqfB_cons hC
    obtain ⟨d, E, rfl, g7, g8, hE⟩ := eqfB_cons hD
    obtain ⟨e, F, rfl, g9, g10, hF⟩ := eqfB_cons hE
    obtain rfl := eqfB_nil hF
    exact .look a b c d e ⟨g1, g2⟩ ⟨g3, g4⟩ ⟨g5, g6⟩ ⟨g7, g8⟩ ⟨g9, g10⟩

end Go.Proofs.YtefcfnmmpnjjjaaGreatDoor

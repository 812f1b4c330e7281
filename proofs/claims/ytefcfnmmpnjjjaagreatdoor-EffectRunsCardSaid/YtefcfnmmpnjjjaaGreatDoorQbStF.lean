/- EffectStates: the walk. -/
import Derived.Test.YtefcfnmmpnjjjaaGreatDoorQbStE
import Derived.Test.YtefcfnmmpnjjjaaGreatDoorQbEffR
namespace Go.Proofs.YtefcfnmmpnjjjaaGreatDoor
open Go.RowKit
set_option linter.unusedSimpArgs false

theorem lenU_step (s : US) (x : Int) : lenU (stepU s x).1 = lenU s := by
  cases s <;> simp [lenU, numsU, stepU, pushL_length]
theorem lenU_run : ∀ (L : List Int) (s : US), lenU (runU s L).1 = lenU s
  | [], s => rfl
  | x :: L, s => by rw [runU, lenU_run L]; exact lenU_step s x
theorem nums_smps {s : US} (h : s.ok) : Smps (numsU s) := by
  cases s with
  | gain g => intro x hx; cases hx
  | delay l => exact h.1
  | echo l g => exact h.1
  | filter l T => exact h.1
  | press th ra at_ re lev =>
    obtain ⟨_, _, _, _, _, _, _, _, h9, h10⟩ := h
    intro x hx
    simp [numsU] at hx
    subst hx
    exact ⟨by omega, by omega⟩
  | gate th hold since =>
    obtain ⟨_, _, _, _, h5, h6⟩ := h
    intro x hx
    simp [numsU] at hx
    subst hx
    exact ⟨by omega, by omega⟩
  | look th ra at_ re lev l =>
    obtain ⟨⟨_, _, _, _, _, _, _, _, h9, h10⟩, hs, _⟩ := h
    intro x hx
    rcases List.mem_cons.1 hx with rfl | hx
    · exact ⟨by omega, by omega⟩
    · exact hs x hx
theorem smps_in {l : List Int} (h : Smps l) : ∀ n ∈ l, inI n := fun n hn => by have := h n hn; unfold Smp at this; unfold inI; omega
theorem len_ok {s : US} (h : s.ok) : lenU s ≤ 4097 := by
  cases s with
  | gain g => simp [lenU, numsU]
  | delay l => have := h.2; simp [lenU, numsU]; omega
  | echo l g => have := h.2.2.1; simp [lenU, numsU]; omega
  | filter l T => have := h.2.1; have := h.2.2.1; simp [lenU, numsU]; omega
  | press th ra at_ re lev => simp [lenU, numsU]
  | gate th hold since => simp [lenU, numsU]
  | look th ra at_ re lev l => have := h.2.2; simp [lenU, numsU]; omega
theorem vshape_in {k : Int} {A T : List Int} (h : VShape k A T) : inI k ∧ (∀ n ∈ A, inI n) ∧ (∀ n ∈ T, inI n) ∧ A.length ≤ 512 ∧ T.length ≤ 512 := by
  have hl := shape_len h
  refine ⟨?_, ?_, ?_, by omega, hl.2⟩
  · cases h <;> exact ⟨by decide, by decide⟩
  · intro n hn
    cases h <;> simp only [List.mem_cons, List.not_mem_nil, or_false] at hn
    case gain h => subst hn; exact ⟨by omega, by omega⟩
    case delay h => subst hn; exact ⟨by omega, by omega⟩
    case echo h h' => rcases hn with rfl | rfl <;> exact ⟨by omega, by omega⟩
    case press h0 h1 h2 h3 => rcases hn with rfl | rfl | rfl | rfl <;> exact ⟨by omega, by omega⟩
    case gate h0 h1 => rcases hn with rfl | rfl <;> exact ⟨by omega, by omega⟩
    case look h0 h1 h2 h3 h4 => rcases hn with rfl | rfl | rfl | rfl | rfl <;> exact ⟨by omega, by omega⟩
  · intro n hn
    cases h
    case filter h =>
      simp only [tapsB, Bool.and_eq_true, Bool.not_eq_true', List.any_eq_false] at h
      have := h.2 n hn
      simp [wtn] at this
      exact ⟨by omega, by omega⟩
    all_goals simp at hn

/-- A unit that made samples: what its text tells, and what reading that comes to. -/
structure SUnit (s : US) (k : Int) (A T : List Int) : Prop where
  ok : s.ok
  shape : VShape k A T
  len : lenU s = lenU (initU k A T)
theorem SUnit.reads {s : US} {k : Int} {A T : List Int} (h : SUnit s k A T) : unitP k A T (lenU s) (splitW (textL (stL k A T (numsU s)))) = some (numsU s, []) := by
  obtain ⟨hk, hA, hT, lA, lT⟩ := vshape_in h.shape
  rw [splitW_text _ (by simp [stL])]
  have := unitP_words hk hA hT (nums_smps h.ok) (by omega) (by omega) (by have := len_ok h.ok; unfold lenU at this; omega) []
  rw [List.append_nil] at this
  exact this
theorem SUnit.size {s : US} {k : Int} {A T : List Int} (h : SUnit s k A T) : (textL (stL k A T (numsU s))).size ≤ 1000000 := by
  obtain ⟨hk, hA, hT, lA, lT⟩ := vshape_in h.shape
  obtain ⟨h1, h2⟩ := stL_in hk hA hT (smps_in (nums_smps h.ok)) lA lT (len_ok h.ok)
  have := textL_size _ h1
  omega
theorem SUnit.State_c {w : World} {v : Value} {F : List Nat} {s : US} {k : Int} {A T : List Int} (h : SUnit s k A T) (hE : EnvS w) (hu : UnitAt w v F s k A T) :
    Rets Go.Proofs.Tryz.prog 11 #[v] w fun r w' => r = .string (textL (stL k A T (numsU s))) ∧ Ext w w' := by
  obtain ⟨hk, hA, hT, lA, lT⟩ := vshape_in h.shape
  exact Go.Proofs.YtefcfnmmpnjjjaaGreatDoor.State_c hE hu (len_ok h.ok) lA lT hk hA hT (smps_in (nums_smps h.ok))

end Go.Proofs.YtefcfnmmpnjjjaaGreatDoor

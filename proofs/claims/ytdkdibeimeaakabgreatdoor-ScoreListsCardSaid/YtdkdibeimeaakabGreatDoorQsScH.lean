/- Layer 32: a move of a score by a beat: numbers. -/
import Derived.Test.YtdkdibeimeaakabGreatDoorQsScG

namespace Go.Proofs.YtdkdibeimeaakabGreatDoor
open Go.RowKit
set_option linter.unusedSimpArgs false
set_option linter.unusedVariables false
def shG (num den : Int) : Nat := Nat.gcd den.toNat num.natAbs
def shN (num den : Int) : Int := num.tdiv (shG num den)
def shD (num den : Int) : Int := den / (shG num den)
def shT (num den : Int) : Int := shN num den * (960 / shD num den)
structure ShIn (num den : Int) : Prop where
  lo : -1000000 ≤ num
  hi : num ≤ 1000000
  d1 : 1 ≤ den
  big : den ≤ 9223372036854775807
variable {num den : Int}
theorem ShIn.g1 (h : ShIn num den) : 1 ≤ shG num den := Nat.gcd_pos_of_pos_left _ (by have := h.d1; omega)
theorem ShIn.D1 (h : ShIn num den) : 1 ≤ shD num den ∧ shD num den ≤ den := by
  have g1 := h.g1
  have d1 := h.d1
  have hd : (shG num den : Int) ∣ den := by
    have h1 : shG num den ∣ den.toNat := Nat.gcd_dvd_left _ _
    have h2 := Int.natCast_dvd_natCast.2 h1
    rwa [Int.toNat_of_nonneg (by omega)] at h2
  refine ⟨?_, Int.ediv_le_self _ (by omega)⟩
  obtain ⟨c, hc⟩ := hd
  have e : shD num den = c := Int.ediv_eq_of_eq_mul_right (by omega) hc
  have d2 : 1 ≤ (shG num den : Int) * c := by omega
  rw [e]
  rcases Int.lt_or_le c 1 with h' | h'
  · have := Int.mul_nonpos_of_nonneg_of_nonpos (a := (shG num den : Int)) (b := c) (by omega) (by omega); omega
  · exact h'
theorem tdiv_abs {a : Int} {g : Nat} {m : Int} (h1 : -m ≤ a) (h2 : a ≤ m) (h3 : 0 ≤ m) : -m ≤ a.tdiv g ∧ a.tdiv g ≤ m := by
  have h := Int.natAbs_tdiv_le_natAbs a g
  omega
theorem ShIn.N1 (h : ShIn num den) : -1000000 ≤ shN num den ∧ shN num den ≤ 1000000 := tdiv_abs h.lo h.hi (by decide)
theorem ShIn.q1 (h : ShIn num den) (hq : 960 % shD num den = 0) : 1 ≤ 960 / shD num den ∧ 960 / shD num den ≤ 960 ∧ shD num den ≤ 960 := by
  obtain ⟨a, _, b, c⟩ := den_mul h.D1.1 hq
  exact ⟨b, c, a⟩
theorem mul_le_abs {a b m n : Int} (h1 : -m ≤ a) (h2 : a ≤ m) (h3 : 0 ≤ b) (h4 : b ≤ n) (h5 : 0 ≤ m) : -(m * n) ≤ a * b ∧ a * b ≤ m * n := by
  have e1 : a * b ≤ m * b := Int.mul_le_mul_of_nonneg_right h2 h3
  have e2 : m * b ≤ m * n := Int.mul_le_mul_of_nonneg_left h4 h5
  have e3 : -m * b ≤ a * b := Int.mul_le_mul_of_nonneg_right h1 h3
  rw [Int.neg_mul] at e3
  omega
theorem ShIn.T1 (h : ShIn num den) (hq : 960 % shD num den = 0) : -960000000 ≤ shT num den ∧ shT num den ≤ 960000000 := by
  obtain ⟨a, b⟩ := h.N1
  obtain ⟨c, d, _⟩ := h.q1 hq
  exact mul_le_abs (m := 1000000) (n := 960) a b (by omega) d (by decide)
theorem shiftS_inv {l : List Ev} {num den : Int} (h : validS l = false) : shiftS l num den = ([], 1) := by unfold shiftS; rw [if_pos h]
theorem shiftS_rng {l : List Ev} {num den : Int} (h : validS l = true) (hr : num < -1000000 ∨ 1000000 < num ∨ den < 1) : shiftS l num den = ([], 7) := by
  unfold shiftS; rw [if_neg (by rw [h]; decide), if_pos hr]
theorem shiftS_in {l : List Ev} {num den : Int} (h : validS l = true) (hr : ShIn num den) : shiftS l num den = if l = [] then (([] : List Ev), (0 : Int)) else if 960 % shD num den ≠ 0 then ([], 7) else match shiftL (shT num den) l with
    | some r => (r, 0)
    | none => ([], 7) := by
  have := hr.lo; have := hr.hi; have := hr.d1
  unfold shiftS; rw [if_neg (by rw [h]; decide), if_neg (by omega)]; rfl
theorem shiftS_bad {l : List Ev} {num den : Int} (h : validS l = true) (hr : ShIn num den) (hl : l ≠ []) (hq : 960 % shD num den ≠ 0) : shiftS l num den = ([], 7) := by
  rw [shiftS_in h hr, if_neg hl, if_pos hq]
theorem shiftS_none {l : List Ev} {num den : Int} (h : validS l = true) (hr : ShIn num den) (hl : l ≠ []) (hn : shiftL (shT num den) l = none) : shiftS l num den = ([], 7) := by
  rw [shiftS_in h hr, if_neg hl, hn]
  split <;> rfl
theorem shiftS_some {l u : List Ev} {num den : Int} (h : validS l = true) (hr : ShIn num den) (hl : l = [] ∨ 960 % shD num den = 0) (hn : shiftL (shT num den) l = some u) : shiftS l num den = (u, 0) := by
  rw [shiftS_in h hr]
  by_cases he : l = []
  · subst he; cases hn; rw [if_pos rfl]
  · rw [if_neg he, if_neg (by rcases hl with h' | h' <;> simp_all), hn]
theorem shiftL_step {s : Int} {l : List Ev} {k : Nat} (h : k < l.length) : shiftL s (l.drop k) = (shiftE s l[k]).bind fun y => (shiftL s (l.drop (k + 1))).map (y :: ·) := by
  rw [List.drop_eq_getElem_cons h]; rfl
theorem shiftE_ok {s : Int} {x y : Ev} (hx : EvOk x) (h : shiftE s x = some y) : EvOk y := by
  unfold shiftE at h
  split at h
  · rename_i hb
    cases h
    obtain ⟨b1, b2, b3, b4, _⟩ := beat_iff.1 hb
    obtain ⟨c, _, _, _⟩ := den_mul b3 b4
    exact ⟨⟨by omega, by omega⟩, ⟨by omega, by omega⟩, hx.t, hx.d, hx.id, hx.to, hx.n, hx.syn, hx.par⟩
  · cases h
theorem max_abs (n : Int) : (if n < -n then -n else n) = (n.natAbs : Int) := by split <;> omega
end Go.Proofs.YtdkdibeimeaakabGreatDoor

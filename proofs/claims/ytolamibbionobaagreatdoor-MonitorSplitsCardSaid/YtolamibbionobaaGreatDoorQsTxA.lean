/- Layer 02 in plain Lean: texts of formats, and how they are read. -/
import Derived.Test.YtolamibbionobaaGreatDoorQsFoSpec
import Derived.Test.YtolamibbionobaaGreatDoorQsChSh

namespace Go.Proofs.YtolamibbionobaaGreatDoor
set_option linter.unusedSimpArgs false
abbrev By := List UInt8
def splitC (c : UInt8) : By → List By
  | [] => [[]]
  | b :: l => if b = c then [] :: splitC c l else match splitC c l with
    | [] => [[b]]
    | x :: r => (b :: x) :: r
theorem splitC_app {c : UInt8} : ∀ {a : By} (b : By), c ∉ a → splitC c (a ++ c :: b) = a :: splitC c b
  | [], b, _ => by rw [List.nil_append, splitC, if_pos rfl]
  | x :: a, b, h => by
    have hx : x ≠ c := fun e => h (by rw [e]; exact List.mem_cons_self ..)
    rw [List.cons_append, splitC, if_neg hx, splitC_app b (fun hm => h (List.mem_cons_of_mem _ hm))]
theorem splitC_no {c : UInt8} : ∀ {a : By}, c ∉ a → splitC c a = [a]
  | [], _ => rfl
  | x :: a, h => by
    have hx : x ≠ c := fun e => h (by rw [e]; exact List.mem_cons_self ..)
    rw [splitC, if_neg hx, splitC_no (fun hm => h (List.mem_cons_of_mem _ hm))]
theorem pre_one (c b : UInt8) (l : By) : ([c] : By).isPrefixOf (b :: l) = (c == b) := by simp [List.isPrefixOf]
theorem idxF_some {c : UInt8} : ∀ {s : By} {i : Nat}, idxF s [c] = some i → i < s.length ∧ s = s.take i ++ c :: s.drop (i + 1) ∧ c ∉ s.take i
  | [], i, h => by simp [idxF] at h
  | b :: l, i, h => by
    rw [idxF, pre_one] at h
    split at h
    · rename_i hb
      have hb := eq_of_beq hb
      cases h
      exact ⟨by simp, by simp [hb], by simp⟩
    · rename_i hb
      rw [Option.map_eq_some_iff] at h
      obtain ⟨j, hj, rfl⟩ := h
      obtain ⟨h1, h2, h3⟩ := idxF_some hj
      refine ⟨by simp; omega, ?_, ?_⟩
      · simp only [List.take_succ_cons,List.drop_succ_cons,List.cons_append]
        exact congrArg _ h2
      · rw [List.take_succ_cons]
        intro hm
        rcases List.mem_cons.1 hm with e | hm
        · exact hb (by rw [e]; exact beq_self_eq_true b)
        · exact h3 hm
theorem idxF_none {c : UInt8} : ∀ {s : By}, idxF s [c] = none → c ∉ s
  | [], _ => by simp
  | b :: l, h => by
    rw [idxF, pre_one] at h
    split at h
    · cases h
    · rename_i hb
      rw [Option.map_eq_none_iff] at h
      intro hm
      rcases List.mem_cons.1 hm with e | hm
      · exact hb (by rw [e]; exact beq_self_eq_true b)
      · exact idxF_none h hm
theorem idxF_at {c : UInt8} : ∀ {a : By} (b : By), c ∉ a → idxF (a ++ c :: b) [c] = some a.length
  | [], b, _ => by rw [List.nil_append, idxF, pre_one]; simp
  | x :: a, b, h => by
    have hx : c ≠ x := fun e => h (by rw [e]; exact List.mem_cons_self ..)
    rw [List.cons_append, idxF, pre_one, if_neg (by simpa using hx), idxF_at b (fun hm => h (List.mem_cons_of_mem _ hm))]
    rfl
theorem digit_nat {u : Nat} (h : u < 10) : (UInt8.ofNat (48 + u)).toNat = 48 + u := by
  rw [UInt8.toNat_ofNat']; omega
theorem parse_app : ∀ (l : List UInt8) (acc u d : Nat), Lib.parseUint10 acc l = .ok u → d < 10 → u * 10 + d < 18446744073709551616 → Lib.parseUint10 acc (l ++ [UInt8.ofNat (48 + d)]) = .ok (u * 10 + d)
  | [], acc, u, d, h, hd, hb => by
    simp only [Lib.parseUint10] at h
    injection h with h
    subst h
    have e := digit_nat hd
    simp only [List.nil_append,Lib.parseUint10,e]
    rw [if_pos (by omega), if_neg (by omega), if_neg (by omega)]
    congr 1; omega
  | c :: r, acc, u, d, h, hd, hb => by
    simp only [Lib.parseUint10] at h
    split at h
    · rename_i hc
      split at h
      · cases h
      · rename_i h1
        split at h
        · cases h
        · rename_i h2
          have := parse_app r _ u d h hd hb
          simp only [List.cons_append,Lib.parseUint10]
          rw [if_pos hc, if_neg h1, if_neg h2]
          exact this
    · cases h
theorem dec_digits (u : Nat) : ∀ c ∈ Lib.decDigits u, 48 ≤ c.toNat ∧ c.toNat ≤ 57 := by
  induction u using Nat.strongRecOn with
  | _ u ih =>
    intro c hc
    by_cases h : u < 10
    · rw [Lib.decDigits, dif_pos h] at hc
      simp only [List.mem_cons,List.not_mem_nil,or_false] at hc
      rw [hc, digit_nat h]; omega
    · rw [Lib.decDigits, dif_neg h] at hc
      rcases List.mem_append.1 hc with hc | hc
      · exact ih (u / 10) (by omega) c hc
      · simp only [List.mem_cons,List.not_mem_nil,or_false] at hc
        rw [hc, digit_nat (by omega)]; omega
theorem dec_ne (u : Nat) : Lib.decDigits u ≠ [] := by
  intro h
  have := Lib.decDigits_length u
  rw [h] at this
  have := Lib.nDigits_pos u
  simp at *; omega
theorem parse_dec (u : Nat) (hu : u < 18446744073709551616) : Lib.parseUint10 0 (Lib.decDigits u) = .ok u := by
  induction u using Nat.strongRecOn with
  | _ u ih =>
    by_cases h : u < 10
    · rw [Lib.decDigits, dif_pos h]
      simp only [Lib.parseUint10,digit_nat h]
      rw [if_pos (by omega), if_neg (by omega), if_neg (by omega)]
      congr 1; omega
    · rw [Lib.decDigits, dif_neg h, parse_app _ 0 (u / 10) (u % 10) (ih (u / 10) (by omega) (by omega)) (by omega) (by omega)]
      congr 1; omega
theorem itoa_dec {n : Int} (h : 0 ≤ n) : Lib.itoa n = Lib.decDigits n.toNat := by unfold Lib.itoa; rw [if_neg (by omega)]
def numP (s : By) : Int := match Lib.atoiAll s with
  | .ok n => if Lib.itoa n = s then n else -1
  | _ => -1
def digS : Int → By → Option Int
  | acc, [] => some acc
  | acc, b :: l => if (b.toNat : Int) < 48 ∨ 57 < (b.toNat : Int) ∨ (1000000000 - ((b.toNat : Int) - 48)).tdiv 10 < acc then none else digS (10 * acc + ((b.toNat : Int) - 48)) l
def digR (s : By) : Int := match digS 0 s with
  | none => -1
  | some n => if s = [] ∨ (s.headD 0 = 48 ∧ 1 < s.length) then -1 else n
theorem dec_head (u : Nat) : ∃ c r, Lib.decDigits u = c :: r ∧ (u = 0 ∨ c ≠ 48) ∧ (u < 10 → r = []) := by
  induction u using Nat.strongRecOn with
  | _ u ih =>
    by_cases h : u < 10
    · rw [Lib.decDigits, dif_pos h]
      refine ⟨_, [], rfl, ?_, fun _ => rfl⟩
      by_cases h0 : u = 0
      · exact .inl h0
      · right
        intro e
        have := congrArg UInt8.toNat e
        rw [digit_nat h] at this
        have h48 : (48 : UInt8).toNat = 48 := rfl
        omega
    · obtain ⟨c, r, h1, h2, _⟩ := ih (u / 10) (by omega)
      rw [Lib.decDigits, dif_neg h, h1]
      have h3 : c ≠ 48 := h2.elim (fun h2 => by omega) id
      exact ⟨c, r ++ [UInt8.ofNat (48 + u % 10)], rfl, Or.inr h3, fun h' => absurd h' h⟩
end Go.Proofs.YtolamibbionobaaGreatDoor

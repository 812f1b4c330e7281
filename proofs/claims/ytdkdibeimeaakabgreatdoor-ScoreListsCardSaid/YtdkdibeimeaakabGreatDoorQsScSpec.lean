/- Layer 32 in plain Lean: scores, what is wrong in them, scores put together and moved. -/
import Derived.Test.YtdkdibeimeaakabGreatDoorQsMwBase

namespace Go.Proofs.YtdkdibeimeaakabGreatDoor
set_option linter.unusedSimpArgs false
structure Od where
  t : Int
  d : Int
  id : Int
  syn : ByteArray
  to : Int
  n : Int
  par : ByteArray
structure Ev where
  num : Int
  den : Int
  o : Od
  c : Bool
def eB : ByteArray := ⟨#[]⟩
def loD (d : Int) : Int := if d = 4 then -1099511627776 else if d = 7 then -1 else 0
def hiD (d : Int) : Int := if d = 4 then 1099511627776 else if d = 7 then 15 else if d = 3 then 0 else 1
def toD (d : Int) : Bool := decide (d = 1) || decide (d = 2) || decide (d = 5)
def paD (d : Int) : Bool := decide (d = 4) || decide (d = 7)
def okO (o : Od) : Bool := decide (1 ≤ o.d) && decide (o.d ≤ 7) && decide (0 ≤ o.t) && decide (o.t ≤ 1000000000) && decide (1 ≤ o.id) && decide (o.id ≤ 1000000000) && decide (0 ≤ o.to) && decide (o.to ≤ 1000000000) &&
  ((decide (o.d = 1) || decide (o.syn = eB)) && (toD o.d || decide (o.to = 0)) && (paD o.d || decide (o.par = eB)) && decide (loD o.d ≤ o.n) && decide (o.n ≤ hiD o.d) && decide (o.syn.size ≤ 20) && decide (o.par.size ≤ 20))
def beatB (num den : Int) : Bool := decide (0 ≤ num) && decide (num ≤ 1000000) && decide (1 ≤ den) && decide (960 % den = 0) && decide (Nat.gcd num.toNat den.toNat = 1)
def tick (x : Ev) : Int := x.num * (960 / x.den)
def errE (p : Option Ev) (x : Ev) : Int := if beatB x.num x.den = false then 7 else if (match p with | some p => decide (tick x < tick p) | none => false) = true then 9 else if (decide (x.o.t ≠ 0) || !okO x.o) = true then 1 else if (x.c && decide (x.o.d ≠ 4)) = true then 10 else 0
def wrongF : Option Ev → Int → List Ev → Int × Int
  | _, _, [] => (-1, 0)
  | p, i, x :: r => if errE p x = 0 then wrongF (some x) (i + 1) r else (i, errE p x)
def wrongS (l : List Ev) : Int × Int := if 300 < l.length then (0, 4) else wrongF none 0 l
def validS (l : List Ev) : Bool := decide ((wrongS l).2 = 0)
def goodE (x : Ev) : Prop := beatB x.num x.den = true ∧ x.o.t = 0 ∧ okO x.o = true ∧ (x.c = true → x.o.d = 4)
def Sorted : List Ev → Prop
  | [] => True
  | x :: r => (∀ y ∈ r, tick x ≤ tick y) ∧ Sorted r
theorem errE_zero {p : Option Ev} {x : Ev} : errE p x = 0 ↔ goodE x ∧ ∀ q, p = some q → tick q ≤ tick x := by
  unfold errE goodE
  cases hb : beatB x.num x.den
  · simp
  · simp only [Bool.true_eq_false,if_false]
    cases p with
    | none =>
      simp only [Bool.false_eq_true,if_false]
      by_cases h1 : (decide (x.o.t ≠ 0) || !okO x.o) = true
      · rw [if_pos h1]
        simp only [Bool.or_eq_true,decide_eq_true_eq,Bool.not_eq_true'] at h1
        constructor
        · intro h; cases h
        · rintro ⟨⟨_, h2, h3, _⟩, _⟩
          rcases h1 with h1 | h1
          · exact absurd h2 h1
          · rw [h3] at h1; cases h1
      · rw [if_neg h1]
        simp only [Bool.or_eq_true,decide_eq_true_eq,Bool.not_eq_true',not_or,Bool.not_eq_false,ne_eq,Decidable.not_not] at h1
        by_cases h2 : (x.c && decide (x.o.d ≠ 4)) = true
        · rw [if_pos h2]
          simp only [Bool.and_eq_true,decide_eq_true_eq] at h2
          constructor
          · intro h; cases h
          · rintro ⟨⟨_, _, _, h4⟩, _⟩; exact absurd (h4 h2.1) h2.2
        · rw [if_neg h2]
          simp only [Bool.and_eq_true,decide_eq_true_eq,not_and,ne_eq,Decidable.not_not] at h2
          exact ⟨fun _ => ⟨⟨trivial, h1.1, h1.2, h2⟩, fun q hq => by cases hq⟩, fun _ => rfl⟩
    | some q =>
      simp only [decide_eq_true_eq]
      by_cases h0 : tick x < tick q
      · rw [if_pos h0]
        constructor
        · intro h; cases h
        · rintro ⟨_, h⟩; exact absurd (h q rfl) (by omega)
      · rw [if_neg h0]
        by_cases h1 : (decide (x.o.t ≠ 0) || !okO x.o) = true
        · rw [if_pos h1]
          simp only [Bool.or_eq_true,decide_eq_true_eq,Bool.not_eq_true'] at h1
          constructor
          · intro h; cases h
          · rintro ⟨⟨_, h2, h3, _⟩, _⟩
            rcases h1 with h1 | h1
            · exact absurd h2 h1
            · rw [h3] at h1; cases h1
        · rw [if_neg h1]
          simp only [Bool.or_eq_true,decide_eq_true_eq,Bool.not_eq_true',not_or,Bool.not_eq_false,ne_eq,Decidable.not_not] at h1
          by_cases h2 : (x.c && decide (x.o.d ≠ 4)) = true
          · rw [if_pos h2]
            simp only [Bool.and_eq_true,decide_eq_true_eq] at h2
            constructor
            · intro h; cases h
            · rintro ⟨⟨_, _, _, h4⟩, _⟩; exact absurd (h4 h2.1) h2.2
          · rw [if_neg h2]
            simp only [Bool.and_eq_true,decide_eq_true_eq,not_and,ne_eq,Decidable.not_not] at h2
            exact ⟨fun _ => ⟨⟨trivial, h1.1, h1.2, h2⟩, fun q' hq => by cases hq; omega⟩, fun _ => rfl⟩
theorem wrongF_zero : ∀ (l : List Ev) (p : Option Ev) (i : Int), (wrongF p i l).2 = 0 ↔ (∀ x ∈ l, goodE x) ∧ Sorted l ∧ ∀ q, p = some q → ∀ x ∈ l, tick q ≤ tick x
  | [], p, i => by simp [wrongF, Sorted]
  | x :: r, p, i => by
    unfold wrongF
    split
    · rename_i h
      obtain ⟨h1, h2⟩ := errE_zero.1 h
      rw [wrongF_zero r (some x) (i + 1)]
      constructor
      · rintro ⟨a, b, c⟩
        refine ⟨fun y hy => ?_, ⟨fun y hy => c x rfl y hy, b⟩, fun q hq y hy => ?_⟩
        · rcases List.mem_cons.1 hy with rfl | hy
          · exact h1
          · exact a y hy
        · rcases List.mem_cons.1 hy with rfl | hy
          · exact h2 q hq
          · exact Int.le_trans (h2 q hq) (c x rfl y hy)
      · rintro ⟨a, ⟨b1, b2⟩, c⟩
        exact ⟨fun y hy => a y (List.mem_cons_of_mem _ hy), b2, fun q hq y hy => by cases hq; exact b1 y hy⟩
    · rename_i h
      constructor
      · intro h0; exact absurd h0 h
      · rintro ⟨a, b, c⟩
        exact absurd (errE_zero.2 ⟨a x (List.mem_cons_self ..), fun q hq => c q hq x (List.mem_cons_self ..)⟩) h
theorem validS_iff (l : List Ev) : validS l = true ↔ l.length ≤ 300 ∧ (∀ x ∈ l, goodE x) ∧ Sorted l := by
  unfold validS wrongS
  rw [decide_eq_true_eq]
  split
  · rename_i h
    constructor
    · intro h0; cases h0
    · intro h0; omega
  · rename_i h
    rw [wrongF_zero]
    constructor
    · rintro ⟨a, b, _⟩; exact ⟨by omega, a, b⟩
    · rintro ⟨_, a, b⟩; exact ⟨a, b, fun q hq => by cases hq⟩
def mergeF : List Ev → List Ev → List Ev
  | [], b => b
  | a, [] => a
  | x :: a, y :: b => if tick y < tick x then y :: mergeF (x :: a) b else x :: mergeF a (y :: b)
  termination_by a b => a.length + b.length
def putF : List Ev → Ev → List Ev
  | [], y => [y]
  | x :: a, y => if tick y < tick x then y :: x :: a else x :: putF a y
theorem mergeF_nil (b : List Ev) : mergeF [] b = b := by unfold mergeF; rfl
theorem mergeF_nilR (a : List Ev) : mergeF a [] = a := by
  cases a with
  | nil => exact mergeF_nil []
  | cons x a => unfold mergeF; rfl
theorem mergeF_cons (x y : Ev) (a b : List Ev) : mergeF (x :: a) (y :: b) = if tick y < tick x then y :: mergeF (x :: a) b else x :: mergeF a (y :: b) := by
  conv => lhs; unfold mergeF
theorem putF_mem {y z : Ev} : ∀ {a : List Ev}, z ∈ putF a y → z = y ∨ z ∈ a
  | [], h => by simp only [putF,List.mem_singleton] at h; exact .inl h
  | x :: a, h => by
    unfold putF at h
    split at h
    · rcases List.mem_cons.1 h with h | h
      · exact .inl h
      · exact .inr h
    · rcases List.mem_cons.1 h with h | h
      · exact .inr (by rw [h]; exact List.mem_cons_self ..)
      · rcases putF_mem h with h | h
        · exact .inl h
        · exact .inr (List.mem_cons_of_mem _ h)
theorem merge_put {y : Ev} {b : List Ev} (hy : ∀ z ∈ b, tick y ≤ tick z) : ∀ {a : List Ev}, mergeF (putF a y) b = mergeF a (y :: b)
  | [] => by
    rw [mergeF_nil]
    unfold putF
    cases b with
    | nil => exact mergeF_nilR _
    | cons z b =>
      have := hy z (List.mem_cons_self ..)
      rw [mergeF_cons, if_neg (by omega), mergeF_nil]
  | x :: a => by
    unfold putF
    rw [mergeF_cons]
    split
    · rename_i h
      cases b with
      | nil => rw [mergeF_nilR, mergeF_nilR]
      | cons z b =>
        have := hy z (List.mem_cons_self ..)
        rw [mergeF_cons, if_neg (by omega)]
    · rename_i h
      have ih := merge_put hy (a := a)
      cases b with
      | nil => rw [mergeF_nilR] at ih ⊢; rw [ih]
      | cons z b =>
        have := hy z (List.mem_cons_self ..)
        rw [mergeF_cons, if_neg (by omega), ih]
theorem fold_put : ∀ {b a : List Ev}, Sorted b → b.foldl putF a = mergeF a b
  | [], a, _ => by rw [mergeF_nilR]; rfl
  | y :: b, a, ⟨h1, h2⟩ => by
    rw [List.foldl_cons, fold_put h2, merge_put h1]
theorem red_unique {p q p' q' : Nat} (hq : 0 < q) (hq' : 0 < q') (h : p * q' = p' * q) : p / Nat.gcd q p = p' / Nat.gcd q' p' ∧ q / Nat.gcd q p = q' / Nat.gcd q' p' := by
  have g0 : 0 < Nat.gcd q p := Nat.gcd_pos_of_pos_left _ hq
  have g1 : 0 < Nat.gcd q' p' := Nat.gcd_pos_of_pos_left _ hq'
  obtain ⟨a, ha⟩ := Nat.gcd_dvd_right q p
  obtain ⟨b, hb⟩ := Nat.gcd_dvd_left q p
  obtain ⟨a', ha'⟩ := Nat.gcd_dvd_right q' p'
  obtain ⟨b', hb'⟩ := Nat.gcd_dvd_left q' p'
  have e1 : p / Nat.gcd q p = a := by conv => lhs; lhs; rw [ha]
                                      exact Nat.mul_div_cancel_left _ g0
  have e2 : q / Nat.gcd q p = b := by conv => lhs; lhs; rw [hb]
                                      exact Nat.mul_div_cancel_left _ g0
  have e3 : p' / Nat.gcd q' p' = a' := by conv => lhs; lhs; rw [ha']
                                          exact Nat.mul_div_cancel_left _ g1
  have e4 : q' / Nat.gcd q' p' = b' := by conv => lhs; lhs; rw [hb']
                                          exact Nat.mul_div_cancel_left _ g1
  have c1 : Nat.Coprime b a := by rw [← e1, ← e2]; exact Nat.coprime_div_gcd_div_gcd g0
  have c2 : Nat.Coprime b' a' := by rw [← e3, ← e4]; exact Nat.coprime_div_gcd_div_gcd g1
  have hx : a * b' = a' * b := by
    generalize Nat.gcd q p = g at *
    generalize Nat.gcd q' p' = g' at *
    subst ha hb ha' hb'
    have : (g * g') * (a * b') = (g * g') * (a' * b) := by
      calc (g * g') * (a * b') = (g * a) * (g' * b') := by ac_rfl
        _ = (g' * a') * (g * b) := h
        _ = (g * g') * (a' * b) := by ac_rfl
    exact Nat.eq_of_mul_eq_mul_left (Nat.mul_pos g0 g1) this
  have d1 : a ∣ a' := c1.symm.dvd_of_dvd_mul_right (by rw [← hx]; exact Nat.dvd_mul_right _ _)
  have d2 : a' ∣ a := c2.symm.dvd_of_dvd_mul_right (by rw [hx]; exact Nat.dvd_mul_right _ _)
  have ea : a = a' := Nat.dvd_antisymm d1 d2
  have d3 : b ∣ b' := c1.dvd_of_dvd_mul_left (by rw [hx]; exact Nat.dvd_mul_left _ _)
  have d4 : b' ∣ b := c2.dvd_of_dvd_mul_left (by rw [← hx]; exact Nat.dvd_mul_left _ _)
  rw [e1, e2, e3, e4]
  exact ⟨ea, Nat.dvd_antisymm d3 d4⟩
def atTick (x : Ev) (t : Int) : Ev := { x with num := t.tdiv (Nat.gcd 960 t.natAbs), den := 960 / (Nat.gcd 960 t.natAbs) }
def shiftE (s : Int) (x : Ev) : Option Ev := if beatB (atTick x (tick x + s)).num (atTick x (tick x + s)).den = true then some (atTick x (tick x + s)) else none
def shiftL (s : Int) : List Ev → Option (List Ev)
  | [] => some []
  | x :: r => (shiftE s x).bind fun y => (shiftL s r).map (y :: ·)
def shiftS (l : List Ev) (num den : Int) : List Ev × Int :=
  if validS l = false then ([], 1) else if num < -1000000 ∨ 1000000 < num ∨ den < 1 then ([], 7) else
  if l = [] then ([], 0) else
  if 960 % (den / (Nat.gcd den.toNat num.natAbs)) ≠ 0 then ([], 7) else
  match shiftL (num.tdiv (Nat.gcd den.toNat num.natAbs) * (960 / (den / (Nat.gcd den.toNat num.natAbs)))) l with
  | some r => (r, 0)
  | none => ([], 7)
end Go.Proofs.YtdkdibeimeaakabGreatDoor

/- Layer 32 in plain Lean: the reference's move is the program's; moved there and back a score is itself. -/
import Derived.Test.YtdkdibeimeaakabGreatDoorQsScSpec

namespace Go.Proofs.YtdkdibeimeaakabGreatDoor
set_option linter.unusedSimpArgs false
theorem beat_iff {num den : Int} : beatB num den = true ↔ 0 ≤ num ∧ num ≤ 1000000 ∧ 1 ≤ den ∧ 960 % den = 0 ∧ Nat.gcd num.toNat den.toNat = 1 := by
  unfold beatB
  simp only [Bool.and_eq_true,decide_eq_true_eq,and_assoc]
theorem den_mul {den : Int} (h1 : 1 ≤ den) (h : 960 % den = 0) : den ≤ 960 ∧ den * (960 / den) = 960 ∧ 1 ≤ 960 / den ∧ 960 / den ≤ 960 := by
  have hm : den * (960 / den) = 960 := Int.mul_ediv_cancel' (Int.dvd_of_emod_eq_zero h)
  have hp : 0 < 960 / den := by
    rcases Int.lt_or_le 0 (960 / den) with h' | h'
    · exact h'
    · have := Int.mul_nonpos_of_nonneg_of_nonpos (a := den) (by omega) h'; omega
  refine ⟨Int.le_of_dvd (by decide) (Int.dvd_of_emod_eq_zero h), hm, hp, ?_⟩
  exact Int.le_of_dvd (by decide) ⟨den, by rw [Int.mul_comm]; exact hm.symm⟩
def shiftR (num den : Int) (x : Ev) : Option Ev :=
  let n := x.num * den + num * x.den
  let d := x.den * den
  if n < 0 then none else
  if beatB (n / (Nat.gcd d.toNat n.toNat)) (d / (Nat.gcd d.toNat n.toNat)) = true then some { x with num := n / (Nat.gcd d.toNat n.toNat), den := d / (Nat.gcd d.toNat n.toNat) } else none
theorem tick_scale {x : Ev} {num den : Int} (hx : beatB x.num x.den = true) (h1 : 1 ≤ den) (h : 960 % den = 0) : (tick x + num * (960 / den)) * (x.den * den) = 960 * (x.num * den + num * x.den) := by
  obtain ⟨_, _, b3, b4, _⟩ := beat_iff.1 hx
  obtain ⟨_, e1, _, _⟩ := den_mul b3 b4
  obtain ⟨_, e2, _, _⟩ := den_mul h1 h
  unfold tick
  generalize 960 / x.den = k at *
  generalize 960 / den = j at *
  calc (x.num * k + num * j) * (x.den * den) = x.num * den * (x.den * k) + num * x.den * (den * j) := by rw [Int.add_mul]; congr 1 <;> ac_rfl
    _ = 960 * (x.num * den + num * x.den) := by rw [e1, e2, Int.mul_add, Int.mul_comm 960, Int.mul_comm 960]
theorem gcd960_pos (t : Nat) : 0 < Nat.gcd 960 t := Nat.gcd_pos_of_pos_left _ (by decide)
theorem shift_ref {x : Ev} {num den : Int} (hx : beatB x.num x.den = true) (h1 : 1 ≤ den) (h : 960 % den = 0) : shiftR num den x = shiftE (num * (960 / den)) x := by
  have hs := tick_scale (num := num) hx h1 h
  obtain ⟨_, _, b3, b4, _⟩ := beat_iff.1 hx
  have hd : 0 < x.den * den := Int.mul_pos (by omega) (by omega)
  unfold shiftR shiftE atTick
  simp only
  generalize tick x + num * (960 / den) = t at *
  generalize x.num * den + num * x.den = n at *
  generalize x.den * den = d at *
  have g0 := gcd960_pos t.natAbs
  by_cases hn : n < 0
  · rw [if_pos hn]
    have ht : t < 0 := by
      rcases Int.lt_or_le t 0 with h' | h'
      · exact h'
      · have := Int.mul_nonneg h' (Int.le_of_lt hd); omega
    rw [if_neg]
    intro hb
    obtain ⟨q0, _⟩ := beat_iff.1 hb
    obtain ⟨a, ha⟩ := Nat.gcd_dvd_right 960 t.natAbs
    generalize Nat.gcd 960 t.natAbs = g at *
    have e : t = (g : Int) * (-(a : Int)) := by
      rw [Int.mul_neg, ← Int.natCast_mul, ← ha]; omega
    rw [e, Int.mul_tdiv_cancel_left _ (by omega)] at q0
    have : a = 0 := by omega
    subst this
    simp at e
    omega
  · rw [if_neg hn]
    have ht : 0 ≤ t := by
      rcases Int.lt_or_le t 0 with h' | h'
      · have := Int.mul_neg_of_neg_of_pos h' hd; omega
      · exact h'
    obtain ⟨tn, rfl⟩ := Int.eq_ofNat_of_zero_le ht
    obtain ⟨nn, rfl⟩ := Int.eq_ofNat_of_zero_le (show 0 ≤ n by omega)
    obtain ⟨dn, rfl⟩ := Int.eq_ofNat_of_zero_le (show 0 ≤ d by omega)
    have hu := red_unique (p := tn) (q := 960) (p' := nn) (q' := dn) (by decide) (by omega) (by
      have : ((tn * dn : Nat) : Int) = ((nn * 960 : Nat) : Int) := by
        rw [Int.natCast_mul, Int.natCast_mul, hs, Int.mul_comm]; rfl
      exact Int.ofNat_inj.1 this)
    have e1 : ((tn : Int)).tdiv ((Nat.gcd 960 (tn : Int).natAbs : Nat) : Int) = ((tn / Nat.gcd 960 tn : Nat) : Int) := by
      rw [Int.natAbs_natCast, Int.tdiv_eq_ediv_of_nonneg (by omega)]; rfl
    have e2 : (960 : Int) / ((Nat.gcd 960 (tn : Int).natAbs : Nat) : Int) = ((960 / Nat.gcd 960 tn : Nat) : Int) := by
      rw [Int.natAbs_natCast]; rfl
    have e3 : (nn : Int) / ((Nat.gcd (dn : Int).toNat (nn : Int).toNat : Nat) : Int) = ((nn / Nat.gcd dn nn : Nat) : Int) := by
      rw [Int.toNat_natCast, Int.toNat_natCast]; rfl
    have e4 : (dn : Int) / ((Nat.gcd (dn : Int).toNat (nn : Int).toNat : Nat) : Int) = ((dn / Nat.gcd dn nn : Nat) : Int) := by
      rw [Int.toNat_natCast, Int.toNat_natCast]; rfl
    rw [e1, e2, e3, e4, hu.1, hu.2]
theorem tick_at (x : Ev) (t : Int) : tick (atTick x t) = t := by
  unfold tick atTick
  simp only
  have g0 := gcd960_pos t.natAbs
  obtain ⟨a, ha⟩ := Nat.gcd_dvd_left 960 t.natAbs
  obtain ⟨b, hb⟩ := Nat.gcd_dvd_right 960 t.natAbs
  generalize Nat.gcd 960 t.natAbs = g at *
  have e1 : (960 : Int) = (g : Int) * a := by rw [← Int.natCast_mul, ← ha]; rfl
  have e2 : (960 : Int) / (g : Int) = a := by rw [e1]; exact Int.mul_ediv_cancel_left _ (by omega)
  have a0 : 0 < a := by
    rcases Nat.eq_zero_or_pos a with h | h
    · subst h; simp at ha
    · exact h
  have e3 : (960 : Int) / (a : Int) = g := by rw [e1]; exact Int.mul_ediv_cancel _ (by omega)
  rw [e2, e3]
  obtain ⟨c, hc⟩ : ∃ c : Int, t = (g : Int) * c := by
    rcases Int.natAbs_eq t with h | h
    · exact ⟨b, by rw [h, hb, Int.natCast_mul]⟩
    · exact ⟨-b, by rw [h, hb, Int.natCast_mul, Int.mul_neg]⟩
  rw [hc, Int.mul_tdiv_cancel_left _ (by omega), Int.mul_comm]
theorem at_tick {x : Ev} (y : Ev) (hx : beatB x.num x.den = true) : atTick y (tick x) = { y with num := x.num, den := x.den } := by
  obtain ⟨b1, b2, b3, b4, b5⟩ := beat_iff.1 hx
  obtain ⟨_, e1, e2, _⟩ := den_mul b3 b4
  unfold atTick tick
  generalize hk : 960 / x.den = k at *
  obtain ⟨kn, rfl⟩ := Int.eq_ofNat_of_zero_le (show 0 ≤ k by omega)
  obtain ⟨nn, hn⟩ := Int.eq_ofNat_of_zero_le b1
  obtain ⟨dn, hd⟩ := Int.eq_ofNat_of_zero_le (show 0 ≤ x.den by omega)
  rw [hn, hd, Int.toNat_natCast, Int.toNat_natCast] at b5
  rw [hd] at e1
  have h960 : dn * kn = 960 := by
    have : ((dn * kn : Nat) : Int) = 960 := by rw [Int.natCast_mul]; exact e1
    exact Int.ofNat_inj.1 this
  have hg : Nat.gcd 960 ((nn : Int) * (kn : Int)).natAbs = kn := by
    rw [show ((nn : Int) * (kn : Int)).natAbs = nn * kn by rw [← Int.natCast_mul]; rfl, ← h960, Nat.gcd_mul_right, Nat.gcd_comm, b5, Nat.one_mul]
  have z1 : ((nn : Int) * (kn : Int)).tdiv (kn : Int) = nn := Int.mul_tdiv_cancel _ (by omega)
  have z2 : (960 : Int) / (kn : Int) = dn := by rw [← e1]; exact Int.mul_ediv_cancel _ (by omega)
  rw [hn, hd, hg, z1, z2]
theorem shiftE_good {s : Int} {x y : Ev} (hx : goodE x) (h : shiftE s x = some y) : goodE y ∧ tick y = tick x + s ∧ shiftE (-s) y = some x := by
  unfold shiftE at h
  split at h
  · rename_i hb
    cases h
    obtain ⟨h1, h2, h3, h4⟩ := hx
    refine ⟨⟨hb, h2, h3, h4⟩, tick_at _ _, ?_⟩
    have e : tick (atTick x (tick x + s)) + -s = tick x := by rw [tick_at]; omega
    unfold shiftE
    rw [e, at_tick _ h1]
    have e2 : ({ atTick x (tick x + s) with num := x.num, den := x.den } : Ev) = x := rfl
    rw [e2, if_pos h1]
  · cases h
theorem shiftL_good {s : Int} : ∀ {l u : List Ev}, (∀ x ∈ l, goodE x) → Sorted l → shiftL s l = some u → u.length = l.length ∧ (∀ y ∈ u, goodE y) ∧ Sorted u ∧ (∀ y ∈ u, ∃ x ∈ l, tick y = tick x + s) ∧ shiftL (-s) u = some l
  | [], u, _, _, h => by cases h; exact ⟨rfl, fun y hy => absurd hy (by simp), trivial, fun y hy => absurd hy (by simp), rfl⟩
  | x :: r, u, hg, ⟨hs1, hs2⟩, h => by
    unfold shiftL at h
    obtain ⟨y, hy, h⟩ := Option.bind_eq_some_iff.1 h
    obtain ⟨v, hv, rfl⟩ := Option.map_eq_some_iff.1 h
    obtain ⟨a1, a2, a3⟩ := shiftE_good (hg x (List.mem_cons_self ..)) hy
    obtain ⟨b1, b2, b3, b4, b5⟩ := shiftL_good (fun z hz => hg z (List.mem_cons_of_mem _ hz)) hs2 hv
    refine ⟨by simp [b1], fun z hz => ?_, ⟨fun z hz => ?_, b3⟩, fun z hz => ?_, ?_⟩
    · rcases List.mem_cons.1 hz with rfl | hz
      · exact a1
      · exact b2 z hz
    · obtain ⟨q, hq, e⟩ := b4 z hz
      have := hs1 q hq
      omega
    · rcases List.mem_cons.1 hz with rfl | hz
      · exact ⟨x, List.mem_cons_self .., a2⟩
      · obtain ⟨q, hq, e⟩ := b4 z hz
        exact ⟨q, List.mem_cons_of_mem _ hq, e⟩
    · unfold shiftL
      rw [a3, b5]; rfl
theorem shift_back {l u : List Ev} {num den : Int} (h : shiftS l num den = (u, 0)) : shiftS u (-num) den = (l, 0) := by
  unfold shiftS at h
  split at h
  · cases h
  rename_i hv
  split at h
  · cases h
  rename_i hr
  have hv' : validS l = true := by simpa using hv
  split at h
  · rename_i hl
    cases h
    subst hl
    unfold shiftS
    rw [hv', if_neg (by decide), if_neg (by omega), if_pos rfl]
  · rename_i hl
    split at h
    · cases h
    rename_i hd
    split at h
    · rename_i v hsh
      cases h
      obtain ⟨v1, v2, v3⟩ := (validS_iff l).1 hv'
      obtain ⟨c1, c2, c3, _, c5⟩ := shiftL_good v2 v3 hsh
      have hvu : validS u = true := (validS_iff u).2 ⟨by omega, c2, c3⟩
      have hu : u ≠ [] := fun e => hl (by rw [e] at c1; exact List.length_eq_zero_iff.1 c1.symm)
      unfold shiftS
      rw [hvu, if_neg (by decide), if_neg (by omega), if_neg hu, Int.natAbs_neg, if_neg hd, Int.neg_tdiv, Int.neg_mul, c5]
    · cases h
end Go.Proofs.YtdkdibeimeaakabGreatDoor

/- Layer 34 in plain Lean: full names of ports, taken apart by the program and by the reference. -/
import Derived.Test.YtolamibbionobaaGreatDoorQsTxA

namespace Go.Proofs.YtolamibbionobaaGreatDoor
set_option linter.unusedSimpArgs false
def nameC (c : UInt8) : Bool := (decide (97 ≤ c.toNat) && decide (c.toNat ≤ 122)) || (decide (65 ≤ c.toNat) && decide (c.toNat ≤ 90)) || (decide (48 ≤ c.toNat) && decide (c.toNat ≤ 57)) || decide (c.toNat = 45)
def nameB (s : By) : Bool := s.all nameC && decide (1 ≤ s.length) && decide (s.length ≤ 20)
def inB : By := [105, 110]
def outB : By := [111, 117, 116]
def wayB (o : Bool) : By := if o then outB else inB
def Canon (s : By) (x : By × Bool × Int) : Prop := s = x.1 ++ 58 :: (wayB x.2.1 ++ 95 :: Lib.itoa x.2.2) ∧ nameB x.1 = true ∧ 1 ≤ x.2.2 ∧ (Lib.itoa x.2.2).length ≤ 18
def spP (s : By) : Option (By × Bool × Int) := match Lib.atoiAll (cutF (cutF s [58]).2.1 [95]).2.1 with
  | .ok k => if (cutF s [58]).2.2 = true ∧ (cutF (cutF s [58]).2.1 [95]).2.2 = true ∧ nameB (cutF s [58]).1 = true ∧ ((cutF (cutF s [58]).2.1 [95]).1 = inB ∨ (cutF (cutF s [58]).2.1 [95]).1 = outB) ∧ 1 ≤ k ∧ Lib.itoa k = (cutF (cutF s [58]).2.1 [95]).2.1 ∧ (cutF (cutF s [58]).2.1 [95]).2.1.length ≤ 18
      then some ((cutF s [58]).1, decide ((cutF (cutF s [58]).2.1 [95]).1 = outB), k) else none
  | _ => none
def valD : Int → By → Option Int
  | acc, [] => some acc
  | acc, b :: l => if (b.toNat : Int) < 48 ∨ 57 < (b.toNat : Int) then none else valD (acc * 10 + ((b.toNat : Int) - 48)) l
def readB (s : By) : Option Int := if s.length < 1 ∨ 18 < s.length ∨ (1 < s.length ∧ s.headD 0 = 48) then none else valD 0 s
def spR (s : By) : Option (By × Bool × Int) := match splitC 58 s with
  | [a, r] => if nameB a = true then (match splitC 95 r with
    | [v, n] => if v = inB ∨ v = outB then (match readB n with | some k => if 1 ≤ k then some (a, decide (v = outB), k) else none | none => none) else none
    | _ => none) else none
  | _ => none
theorem atoi_itoaP {n : Int} (h0 : 0 ≤ n) (h1 : n ≤ 9223372036854775807) : Lib.atoiAll (Lib.itoa n) = .ok n := by
  rw [itoa_dec h0]
  cases hd : Lib.decDigits n.toNat with
  | nil => exact absurd hd (dec_ne _)
  | cons c r =>
    have hc := dec_digits n.toNat c (by rw [hd]; simp)
    rw [Lib.atoiAll_plain c r (by omega) (by omega), ← hd]
    unfold Lib.parseMag
    rw [if_neg (dec_ne _), parse_dec _ (by omega)]
    unfold Lib.signless
    simp only
    rw [if_neg (by omega)]
    congr 1; omega
theorem cutF_one {c : UInt8} (s : By) : (∃ a b, s = a ++ c :: b ∧ c ∉ a ∧ cutF s [c] = (a, b, true)) ∨ (c ∉ s ∧ cutF s [c] = (s, [], false)) := by
  unfold cutF
  cases h : idxF s [c] with
  | none => exact .inr ⟨idxF_none h, rfl⟩
  | some i =>
    obtain ⟨h1, h2, h3⟩ := idxF_some h
    refine .inl ⟨_, _, h2, h3, ?_⟩
    rfl
theorem cutF_at {c : UInt8} {a : By} (b : By) (h : c ∉ a) : cutF (a ++ c :: b) [c] = (a, b, true) := by
  rcases cutF_one (c := c) (a ++ c :: b) with ⟨a', b', he, h', hc⟩ | ⟨hn, _⟩
  · have := idxF_at b h
    have h2 := idxF_at b' h'
    rw [← he, this] at h2
    have hl : a.length = a'.length := Option.some.inj h2
    obtain ⟨rfl, h3⟩ := List.append_inj he hl
    cases h3
    exact hc
  · exact absurd (List.mem_append_right _ (List.mem_cons_self ..)) hn
theorem name_no {a : By} (h : nameB a = true) : (58 : UInt8) ∉ a := fun hm => by
  unfold nameB at h
  simp only [Bool.and_eq_true] at h
  have := List.all_eq_true.1 h.1.1 _ hm
  exact absurd this (by decide)
theorem way_no (o : Bool) : (95 : UInt8) ∉ wayB o ∧ (58 : UInt8) ∉ wayB o := by cases o <;> decide
theorem spP_canon (s : By) (x : By × Bool × Int) : spP s = some x ↔ Canon s x := by
  constructor
  · intro h
    unfold spP at h
    split at h
    · rename_i k hk
      split at h
      · rename_i hc
        obtain ⟨h1, h2, h3, h4, h5, h6, h7⟩ := hc
        cases h
        rcases cutF_one (c := 58) s with ⟨a, b, rfl, ha, hcut⟩ | ⟨_, hcut⟩
        · rw [hcut] at h1 h2 h3 h4 h6 h7 ⊢
          simp only at h1 h2 h3 h4 h6 h7 ⊢
          rcases cutF_one (c := 95) b with ⟨v, n, rfl, hv, hcut2⟩ | ⟨_, hcut2⟩
          · rw [hcut2] at h2 h4 h6 h7 ⊢
            simp only at h2 h4 h6 h7 ⊢
            refine ⟨?_, h3, h5, by rw [h6]; exact h7⟩
            simp only
            rw [h6]
            rcases h4 with rfl | rfl <;> rfl
          · rw [hcut2] at h2; cases h2
        · rw [hcut] at h1; cases h1
      · cases h
    · cases h
  · rintro ⟨rfl, h2, h3, h4⟩
    obtain ⟨a, o, k⟩ := x
    simp only at h2 h3 h4 ⊢
    have hb : -9223372036854775808 ≤ k ∧ k ≤ 9223372036854775807 := by
      refine ⟨by omega, ?_⟩
      rw [itoa_dec (by omega), Lib.decDigits_length] at h4
      have := Nat.lt_of_lt_of_le (Lib.lt_pow_nDigits k.toNat) (Nat.pow_le_pow_right (n := 10) (by decide) h4)
      omega
    have hat : Lib.atoiAll (Lib.itoa k) = .ok k := atoi_itoaP (by omega) hb.2
    unfold spP
    rw [cutF_at _ (name_no h2)]
    simp only
    rw [cutF_at _ (way_no o).1]
    simp only
    rw [hat]
    simp only
    have hw : (wayB o = inB ∨ wayB o = outB) := by cases o <;> simp [wayB]
    have hd : decide (wayB o = outB) = o := by cases o <;> decide
    rw [if_pos ⟨trivial, trivial, h2, hw, h3, trivial, h4⟩, hd]
theorem splitC_ne (c : UInt8) : ∀ s : By, ∃ x r, splitC c s = x :: r
  | [] => ⟨[], [], rfl⟩
  | b :: l => by
    obtain ⟨x, r, h⟩ := splitC_ne c l
    unfold splitC
    rw [h]
    split
    · exact ⟨_, _, rfl⟩
    · exact ⟨_, _, rfl⟩
theorem splitC_back (c : UInt8) : ∀ (s x : By) (r : List By), splitC c s = x :: r → s = x ++ r.flatMap (c :: ·)
  | [], x, r, h => by cases h; rfl
  | b :: l, x, r, h => by
    obtain ⟨y, t, hl⟩ := splitC_ne c l
    have ih := splitC_back c l y t hl
    unfold splitC at h
    rw [hl] at h
    split at h
    · rename_i hb
      cases h
      rw [List.nil_append, List.flatMap_cons, List.cons_append, ← ih, hb]
    · cases h
      rw [List.cons_append, ← ih]
theorem valD_app : ∀ (l : By) (acc : Int) (b : UInt8), valD acc (l ++ [b]) = (valD acc l).bind fun u => valD u [b]
  | [], acc, b => rfl
  | x :: l, acc, b => by
    rw [List.cons_append, valD]
    conv => rhs; rw [valD]
    split
    · rfl
    · exact valD_app l _ b
theorem valD_one {u : Int} {d : Nat} (hd : d < 10) : valD u [UInt8.ofNat (48 + d)] = some (u * 10 + d) := by
  unfold valD
  rw [digit_nat hd, if_neg (by omega)]
  unfold valD
  congr 1; omega
theorem valD_dec (u : Nat) : valD 0 (Lib.decDigits u) = some (u : Int) := by
  induction u using Nat.strongRecOn with
  | _ u ih =>
    by_cases h : u < 10
    · rw [Lib.decDigits, dif_pos h, valD_one h]; simp
    · rw [Lib.decDigits, dif_neg h, valD_app, ih (u / 10) (by omega), Option.bind_some, valD_one (by omega)]
      congr 1; omega
theorem valD_back : ∀ (n : Nat) (l : By) (u : Int), l.length = n → valD 0 l = some u → 1 ≤ l.length → (l.length = 1 ∨ l.headD 0 ≠ 48) → 0 ≤ u ∧ Lib.decDigits u.toNat = l
  | 0, l, u, hn, _, h1, _ => by omega
  | n + 1, l, u, hn, hv, h1, h2 => by
    rcases List.eq_nil_or_concat l with rfl | ⟨l', b, rfl⟩
    · simp at hn
    rw [List.concat_eq_append] at *
    rw [valD_app] at hv
    obtain ⟨u', hu', hb⟩ := Option.bind_eq_some_iff.1 hv
    unfold valD at hb
    split at hb
    · cases hb
    · rename_i hdig
      unfold valD at hb
      cases hb
      have hb0 : b = UInt8.ofNat (48 + (b.toNat - 48)) := by
        apply UInt8.toNat_inj.1
        rw [digit_nat (by omega)]; omega
      have hln : l'.length = n := by simpa using hn
      cases l' with
      | nil =>
        cases hu'
        refine ⟨by omega, ?_⟩
        have e : ((0 : Int) * 10 + ((b.toNat : Int) - 48)).toNat = b.toNat - 48 := by omega
        rw [e, Lib.decDigits, dif_pos (by omega), ← hb0]
        rfl
      | cons x t =>
        have hx : x ≠ 48 := by
          rcases h2 with h2 | h2
          · simp at h2
          · exact h2
        obtain ⟨g0, g1⟩ := valD_back n (x :: t) u' hln hu' (by simp) (.inr hx)
        have hpos : 1 ≤ u'.toNat := by
          rcases Nat.eq_zero_or_pos u'.toNat with h0 | h0
          · rw [h0, Lib.decDigits, dif_pos (by omega)] at g1
            have : x = 48 := by
              have := (List.cons.inj g1).1
              rw [← this]; rfl
            exact absurd this hx
          · exact h0
        refine ⟨by omega, ?_⟩
        have e : (u' * 10 + ((b.toNat : Int) - 48)).toNat = u'.toNat * 10 + (b.toNat - 48) := by omega
        rw [e, Lib.decDigits, dif_neg (by omega), show (u'.toNat * 10 + (b.toNat - 48)) / 10 = u'.toNat by omega, show (u'.toNat * 10 + (b.toNat - 48)) % 10 = b.toNat - 48 by omega, g1, ← hb0]
theorem readB_some {s : By} {k : Int} (h : readB s = some k) : 0 ≤ k ∧ Lib.itoa k = s ∧ s.length ≤ 18 := by
  unfold readB at h
  split at h
  · cases h
  · rename_i hc
    obtain ⟨h0, h1⟩ := valD_back s.length s k rfl h (by omega) (by
      by_cases hl : s.length = 1
      · exact .inl hl
      · exact .inr fun he => hc (.inr (.inr ⟨by omega, he⟩)))
    exact ⟨h0, by rw [itoa_dec h0, h1], by omega⟩
theorem readB_itoa {k : Int} (h0 : 0 ≤ k) (h1 : (Lib.itoa k).length ≤ 18) : readB (Lib.itoa k) = some k := by
  rw [itoa_dec h0] at h1 ⊢
  obtain ⟨c, r, hd, hz, hr⟩ := dec_head k.toNat
  unfold readB
  rw [valD_dec, if_neg]
  · congr 1; omega
  · rw [hd] at h1 ⊢
    rintro (h | h | ⟨h, h2⟩)
    · simp at h
    · omega
    · rcases hz with hz | hz
      · rw [hr (by omega)] at h; simp at h
      · exact hz h2
theorem itoa_noP {k : Int} (h0 : 0 ≤ k) {c : UInt8} (hc : c.toNat < 48 ∨ 57 < c.toNat) : c ∉ Lib.itoa k := fun hm => by
  rw [itoa_dec h0] at hm
  have := dec_digits _ _ hm
  omega
theorem spR_canon (s : By) (x : By × Bool × Int) : spR s = some x ↔ Canon s x := by
  constructor
  · intro h
    unfold spR at h
    split at h
    · rename_i a r ha
      split at h
      · rename_i hn
        split at h
        · rename_i v n hv
          split at h
          · rename_i hw
            split at h
            · rename_i k hk
              split at h
              · rename_i h1
                cases h
                obtain ⟨_, e2, e3⟩ := readB_some hk
                have b1 := splitC_back 58 s _ _ ha
                have b2 := splitC_back 95 r _ _ hv
                simp only [List.flatMap_cons,List.flatMap_nil,List.append_nil] at b1 b2
                refine ⟨?_, hn, h1, by simp only; rw [e2]; exact e3⟩
                simp only
                rw [e2, b1, b2]
                rcases hw with rfl | rfl <;> rfl
              · cases h
            · cases h
          · cases h
        · cases h
      · cases h
    · cases h
  · rintro ⟨rfl, h2, h3, h4⟩
    obtain ⟨a, o, k⟩ := x
    simp only at h2 h3 h4 ⊢
    have hno : (58 : UInt8) ∉ wayB o ++ 95 :: Lib.itoa k := fun hm => by
      rcases List.mem_append.1 hm with hm | hm
      · exact (way_no o).2 hm
      · rcases List.mem_cons.1 hm with hm | hm
        · exact absurd hm (by decide)
        · exact itoa_noP (by omega) (.inr (by decide)) hm
    have s1 : splitC 58 (a ++ 58 :: (wayB o ++ 95 :: Lib.itoa k)) = [a, wayB o ++ 95 :: Lib.itoa k] := by
      rw [splitC_app _ (name_no h2), splitC_no hno]
    have s2 : splitC 95 (wayB o ++ 95 :: Lib.itoa k) = [wayB o, Lib.itoa k] := by
      rw [splitC_app _ (way_no o).1, splitC_no (itoa_noP (by omega) (.inr (by decide)))]
    have hw : (wayB o = inB ∨ wayB o = outB) := by cases o <;> simp [wayB]
    have hd : decide (wayB o = outB) = o := by cases o <;> decide
    unfold spR
    rw [s1]
    simp only [h2,if_true]
    rw [s2]
    simp only
    rw [if_pos hw, readB_itoa (by omega) h4]
    simp only
    rw [if_pos h3, hd]
theorem sp_eq (s : By) : spP s = spR s := by
  apply Option.ext
  intro x
  rw [spP_canon, spR_canon]
end Go.Proofs.YtolamibbionobaaGreatDoor

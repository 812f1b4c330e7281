/- Layer 02 in plain Lean: choices, and how two of them meet. -/
import Derived.Test.YthcdnjbhhaonhaaGreatDoorQaMwF0
import Derived.Test.YthcdnjbhhaonhaaGreatDoorQaMwF1
import Derived.Test.YthcdnjbhhaonhaaGreatDoorQaMwF2
import Derived.Test.YthcdnjbhhaonhaaGreatDoorQaMwMem
import Derived.Test.YthcdnjbhhaonhaaGreatDoorQaMwSet
namespace Go.Proofs.YthcdnjbhhaonhaaGreatDoor

/-- A choice: its kind, its default, its list. -/
structure Ch where
  k : Int
  d : Int
  L : List Int
namespace Ch
def lsd (c : Ch) : Bool := decide (c.k = 1) || decide (c.k = 2)
def lo (c : Ch) : Int := c.L.getD 0 0
def hi (c : Ch) : Int := c.L.getD 1 0
def stp (c : Ch) : Int := if c.k = 4 then c.L.getD 2 0 else 1
def has (c : Ch) (n : Int) : Bool := if c.lsd then c.L.contains n else decide (c.lo ≤ n) && (decide (n ≤ c.hi) && decide ((n - c.lo) % c.stp = 0))
end Ch
def inT (n : Int) : Bool := decide (0 ≤ n) && decide (n ≤ 1000000000)
def dis : List Int → Bool
  | [] => true
  | a :: l => !l.contains a && dis l
namespace Ch
def form (c : Ch) : Bool := if c.k = 1 then decide (c.L.length = 1) else if c.k = 2 then decide (1 ≤ c.L.length) && decide (c.L.length ≤ 20) && dis c.L
  else if c.k = 3 then decide (c.L.length = 2) && decide (c.lo ≤ c.hi) else if c.k = 4 then decide (c.L.length = 3) && decide (c.lo ≤ c.hi) && (decide (1 ≤ c.stp) && decide (c.stp ≤ 1000)) else false
def valid (c : Ch) : Bool := c.L.all inT && c.form && c.has c.d
end Ch
def rng (hi s : Int) : Nat → Int → List Int
  | 0, _ => []
  | m + 1, n => if n ≤ hi then n :: rng hi s m (n + s) else []
/-- The first numbers of a choice. -/
def Ch.first (c : Ch) (m : Nat) : List Int := if c.lsd then c.L.take m else rng c.hi c.stp m c.lo
def lstK (l : List Int) : Int := if l.length = 1 then 1 else 2
/-- A choice with its default: a's, or b's, or the first. -/
def wish (k : Int) (L : List Int) (ad bd : Int) : Ch :=
  if (Ch.mk k 0 L).has ad then ⟨k, ad, L⟩ else if (Ch.mk k 0 L).has bd then ⟨k, bd, L⟩ else ⟨k, L.getD 0 0, L⟩
def both (a b : Ch) (n : Int) : Bool := a.has n && b.has n
def byO (a b : Ch) : Int := (Nat.lcm a.stp.toNat b.stp.toNat : Nat)
/-- The least number of both. -/
def FirstIs (a b : Ch) : Option Int → Prop
  | none => ∀ n, both a b n = false
  | some f => both a b f = true ∧ ∀ n, both a b n = true → f ≤ n
def cntO (a b : Ch) (f : Int) : Nat := ((min a.hi b.hi - f) / byO a b + 1).toNat
def seqL (f s : Int) (n : Nat) : List Int := (List.range n).map fun (i : Nat) => f + (i : Int) * s
/-- The outcome of two ranges with a least common number. -/
def metR (a b : Ch) (f : Int) : Int × List Int :=
  if cntO a b f ≤ 20 ∨ 1000 < byO a b then (lstK (seqL f (byO a b) (min (cntO a b f) 20)), seqL f (byO a b) (min (cntO a b f) 20))
  else if a.k = 3 ∧ b.k = 3 then (3, [f, f + ((cntO a b f : Int) - 1) * byO a b])
  else (4, [f, f + ((cntO a b f : Int) - 1) * byO a b, byO a b])
def keptL (a b : Ch) : List Int := if a.lsd then a.L.filter b.has else b.L.filter a.has
/-- How two choices meet. -/
def Met (a b : Ch) (o : Option Ch) : Prop :=
  if a.lsd || b.lsd then o = (if keptL a b = [] then none else some (wish (lstK (keptL a b)) (keptL a b) a.d b.d))
  else ∃ f, FirstIs a b f ∧ o = f.map fun f => wish (metR a b f).1 (metR a b f).2 a.d b.d

theorem FirstIs.eq {a b : Ch} : ∀ {o o' : Option Int}, FirstIs a b o → FirstIs a b o' → o = o'
  | none, none, _, _ => rfl
  | none, some f, h, h' => by have h1 := h'.1; rw [h f] at h1; exact absurd h1 (by simp)
  | some f, none, h, h' => by have h1 := h.1; rw [h' f] at h1; exact absurd h1 (by simp)
  | some f, some g, h, h' => by rw [Int.le_antisymm (h.2 g h'.1) (h'.2 f h.1)]
theorem Met.eq {a b : Ch} {o o' : Option Ch} (h : Met a b o) (h' : Met a b o') : o = o' := by
  unfold Met at h h'
  split at h
  · rename_i hc
    rw [if_pos hc] at h'
    rw [h, h']
  · rename_i hc
    rw [if_neg hc] at h'
    obtain ⟨f, h1, h2⟩ := h
    obtain ⟨g, g1, g2⟩ := h'
    rw [h2, g2, h1.eq g1]

/-! ### numbers -/
theorem has_range {c : Ch} (h : c.lsd = false) {n : Int} : c.has n = true ↔ c.lo ≤ n ∧ n ≤ c.hi ∧ c.stp ∣ n - c.lo := by
  simp only [Ch.has, h, if_false, Bool.false_eq_true, Bool.and_eq_true, decide_eq_true_eq, Int.dvd_iff_emod_eq_zero]
structure Rg (c : Ch) : Prop where
  nl : c.lsd = false
  l0 : 0 ≤ c.lo
  l1 : c.lo ≤ c.hi
  l2 : c.hi ≤ 1000000000
  s0 : 1 ≤ c.stp
  s1 : c.stp ≤ 1000
theorem by_pos {a b : Ch} (ha : Rg a) (hb : Rg b) : 1 ≤ byO a b := by
  have h1 := ha.s0
  have h2 := hb.s0
  have : 0 < Nat.lcm a.stp.toNat b.stp.toNat := Nat.lcm_pos (by omega) (by omega)
  unfold byO
  omega
theorem by_dvd {a b : Ch} (ha : Rg a) (hb : Rg b) : a.stp ∣ byO a b ∧ b.stp ∣ byO a b := by
  have h1 := ha.s0
  have h2 := hb.s0
  have e1 : ((a.stp.toNat : Nat) : Int) = a.stp := Int.toNat_of_nonneg (by omega)
  have e2 : ((b.stp.toNat : Nat) : Int) = b.stp := Int.toNat_of_nonneg (by omega)
  refine ⟨?_, ?_⟩
  · rw [← e1]; exact Int.ofNat_dvd.2 (Nat.dvd_lcm_left _ _)
  · rw [← e2]; exact Int.ofNat_dvd.2 (Nat.dvd_lcm_right _ _)
theorem dvd_by {a b : Ch} (ha : Rg a) (hb : Rg b) {x : Int} (h1 : a.stp ∣ x) (h2 : b.stp ∣ x) : byO a b ∣ x := by
  have e1 : a.stp.toNat = a.stp.natAbs := by have := ha.s0; omega
  have e2 : b.stp.toNat = b.stp.natAbs := by have := hb.s0; omega
  unfold byO
  rw [e1, e2]
  have h := Nat.lcm_dvd (Int.natAbs_dvd_natAbs.2 h1) (Int.natAbs_dvd_natAbs.2 h2)
  exact Int.natAbs_dvd_natAbs.1 (by simpa using h)
theorem both_iff {a b : Ch} (ha : Rg a) (hb : Rg b) {n : Int} : both a b n = true ↔ (a.lo ≤ n ∧ n ≤ a.hi ∧ a.stp ∣ n - a.lo) ∧ (b.lo ≤ n ∧ n ≤ b.hi ∧ b.stp ∣ n - b.lo) := by
  unfold both
  rw [Bool.and_eq_true, has_range ha.nl, has_range hb.nl]
/-- All numbers of both, by the least one. -/
theorem both_first {a b : Ch} (ha : Rg a) (hb : Rg b) {f : Int} (hf : FirstIs a b (some f)) {n : Int} : both a b n = true ↔ f ≤ n ∧ n ≤ min a.hi b.hi ∧ byO a b ∣ n - f := by
  obtain ⟨⟨f1, f2, f3⟩, g1, g2, g3⟩ := (both_iff ha hb).1 hf.1
  constructor
  · intro h
    obtain ⟨⟨n1, n2, n3⟩, m1, m2, m3⟩ := (both_iff ha hb).1 h
    refine ⟨hf.2 n h, by omega, dvd_by ha hb ?_ ?_⟩
    · have := Int.dvd_sub n3 f3
      rw [show n - a.lo - (f - a.lo) = n - f by omega] at this
      exact this
    · have := Int.dvd_sub m3 g3
      rw [show n - b.lo - (f - b.lo) = n - f by omega] at this
      exact this
  · rintro ⟨h1, h2, h3⟩
    obtain ⟨d1, d2⟩ := by_dvd ha hb
    refine (both_iff ha hb).2 ⟨⟨by omega, by omega, ?_⟩, by omega, by omega, ?_⟩
    · have := Int.dvd_add (Int.dvd_trans d1 h3) f3
      rw [show n - f + (f - a.lo) = n - a.lo by omega] at this
      exact this
    · have := Int.dvd_add (Int.dvd_trans d2 h3) g3
      rw [show n - f + (f - b.lo) = n - b.lo by omega] at this
      exact this
/-- The least number lies in the first stretch. -/
theorem first_lt {a b : Ch} (ha : Rg a) (hb : Rg b) {f : Int} (hf : FirstIs a b (some f)) : max a.lo b.lo ≤ f ∧ f ≤ min a.hi b.hi ∧ f < max a.lo b.lo + byO a b := by
  obtain ⟨⟨f1, f2, f3⟩, g1, g2, g3⟩ := (both_iff ha hb).1 hf.1
  refine ⟨by omega, by omega, ?_⟩
  by_cases h : f < max a.lo b.lo + byO a b
  · exact h
  · have hp := by_pos ha hb
    obtain ⟨d1, d2⟩ := by_dvd ha hb
    have : both a b (f - byO a b) = true := (both_iff ha hb).2 ⟨⟨by omega, by omega, by
      have := Int.dvd_sub f3 d1
      rw [show f - a.lo - byO a b = f - byO a b - a.lo by omega] at this
      exact this⟩, by omega, by omega, by
      have := Int.dvd_sub g3 d2
      rw [show f - b.lo - byO a b = f - byO a b - b.lo by omega] at this
      exact this⟩
    have := hf.2 _ this
    omega
theorem seqL_mem {f s : Int} {n : Nat} {x : Int} : x ∈ seqL f s n ↔ ∃ i : Nat, i < n ∧ x = f + (i : Int) * s := by
  unfold seqL
  simp only [List.mem_map, List.mem_range]
  constructor
  · rintro ⟨i, h1, h2⟩; exact ⟨i, h1, h2.symm⟩
  · rintro ⟨i, h1, h2⟩; exact ⟨i, h1, h2.symm⟩
theorem seqL_length (f s : Int) (n : Nat) : (seqL f s n).length = n := by simp [seqL]
theorem seqL_succ (f s : Int) (n : Nat) : seqL f s (n + 1) = seqL f s n ++ [f + (n : Int) * s] := by simp [seqL, List.range_succ]
theorem seqL_cons (f s : Int) (n : Nat) : seqL f s (n + 1) = f :: seqL (f + s) s n := by
  unfold seqL
  rw [List.range_succ_eq_map]
  simp only [List.map_cons, List.map_map, Int.ofNat_zero, Int.zero_mul, Int.add_zero]
  congr 1
  apply List.map_congr_left
  intro i _
  simp only [Function.comp]
  rw [show ((i + 1 : Nat) : Int) = (i : Int) + 1 by omega, Int.add_mul]
  omega
/-- The numbers of a range in a row. -/
theorem rng_seq {s : Int} (hs : 1 ≤ s) : ∀ (m n : Nat) (f : Int), rng (f + ((n : Int) - 1) * s) s m f = seqL f s (min n m)
  | 0, n, f => by simp [rng, seqL]
  | m + 1, 0, f => by
    have : ¬ f ≤ f + ((0 : Nat) - 1 : Int) * s := by simp; omega
    simp [rng, seqL]
    omega
  | m + 1, n + 1, f => by
    have h0 : (0 : Int) ≤ (n : Int) * s := Int.mul_nonneg (by omega) (by omega)
    have e : ((n + 1 : Nat) : Int) - 1 = (n : Int) := by omega
    rw [e]
    have ih := rng_seq hs m n (f + s)
    have e2 : f + s + ((n : Int) - 1) * s = f + (n : Int) * s := by rw [Int.sub_mul]; omega
    rw [e2] at ih
    rw [rng, if_pos (by omega), ih, show min (n + 1) (m + 1) = min n m + 1 by omega, seqL_cons]
end Go.Proofs.YthcdnjbhhaonhaaGreatDoor
/- Layer 02 in plain Lean: what the statement ChoiceMeets asks of how choices meet. -/

namespace Go.Proofs.YthcdnjbhhaonhaaGreatDoor

theorem wish_k (k : Int) (L : List Int) (x y : Int) : (wish k L x y).k = k := by unfold wish; split; rfl; split <;> rfl
theorem wish_L (k : Int) (L : List Int) (x y : Int) : (wish k L x y).L = L := by unfold wish; split; rfl; split <;> rfl
theorem has_kL {a b : Ch} (hk : a.k = b.k) (hL : a.L = b.L) (n : Int) : a.has n = b.has n := by
  unfold Ch.has Ch.lsd Ch.lo Ch.hi Ch.stp
  rw [hk, hL]
theorem wish_has (k : Int) (L : List Int) (x y n : Int) : (wish k L x y).has n = (Ch.mk k 0 L).has n := has_kL (b := ⟨k, 0, L⟩) (wish_k k L x y) (wish_L k L x y) n
theorem wish_d {k : Int} {L : List Int} (x y : Int) (h : (Ch.mk k 0 L).has (L.getD 0 0) = true) : (wish k L x y).has (wish k L x y).d = true := by
  rw [wish_has]
  unfold wish
  split
  · assumption
  · split
    · assumption
    · exact h
theorem lstK_lsd (l L : List Int) (d : Int) : (Ch.mk (lstK l) d L).lsd = true := by
  unfold Ch.lsd lstK
  split <;> simp
theorem lst_has (l L : List Int) (n : Int) : (Ch.mk (lstK l) 0 L).has n = L.contains n := by
  unfold Ch.has
  rw [lstK_lsd]
  simp
theorem dis_filter (p : Int → Bool) : ∀ {l : List Int}, dis l = true → dis (l.filter p) = true
  | [], _ => rfl
  | a :: l, h => by
    simp only [dis, Bool.and_eq_true, Bool.not_eq_true'] at h
    simp only [List.filter_cons]
    split
    · simp only [dis, Bool.and_eq_true, Bool.not_eq_true']
      refine ⟨?_, dis_filter p h.2⟩
      have := h.1
      simp only [List.contains_eq_mem, decide_eq_false_iff_not, List.mem_filter] at this ⊢
      exact fun hh => this hh.1
    · exact dis_filter p h.2
theorem dis_seq {s : Int} (hs : 1 ≤ s) : ∀ (n : Nat) (f : Int), dis (seqL f s n) = true
  | 0, f => by simp [seqL, dis]
  | n + 1, f => by
    rw [seqL_cons]
    simp only [dis, Bool.and_eq_true, Bool.not_eq_true', dis_seq hs n (f + s), and_true]
    simp only [List.contains_eq_mem, decide_eq_false_iff_not]
    intro h
    obtain ⟨i, _, h2⟩ := seqL_mem.1 h
    have : (0 : Int) ≤ (i : Int) * s := Int.mul_nonneg (by omega) (by omega)
    omega
/-- A valid list. -/
theorem valid_list {c : Ch} (h : c.valid = true) (hl : c.lsd = true) : 1 ≤ c.L.length ∧ c.L.length ≤ 20 ∧ dis c.L = true ∧ c.L.all inT = true ∧ c.L.contains c.d = true := by
  unfold Ch.valid at h
  simp only [Bool.and_eq_true] at h
  obtain ⟨⟨h1, h2⟩, h3⟩ := h
  have h3 : c.L.contains c.d = true := by unfold Ch.has at h3; rw [if_pos hl] at h3; exact h3
  unfold Ch.form at h2
  split at h2
  · have h2 : c.L.length = 1 := by simpa using h2
    obtain ⟨x, hx⟩ := List.length_eq_one_iff.1 h2
    exact ⟨by omega, by omega, by rw [hx]; rfl, h1, h3⟩
  · split at h2
    · simp only [Bool.and_eq_true, decide_eq_true_eq] at h2
      exact ⟨h2.1.1, h2.1.2, h2.2, h1, h3⟩
    · rename_i a b
      unfold Ch.lsd at hl
      simp [a, b] at hl
/-- A valid range. -/
theorem valid_rg {c : Ch} (h : c.valid = true) (hl : c.lsd = false) : Rg c ∧ (c.k = 3 ∧ c.L.length = 2 ∨ c.k = 4 ∧ c.L.length = 3) := by
  have hl' := hl
  unfold Ch.valid at h
  simp only [Bool.and_eq_true] at h
  obtain ⟨⟨h1, h2⟩, h3⟩ := h
  unfold Ch.lsd at hl
  simp only [Bool.or_eq_false_iff, decide_eq_false_iff_not] at hl
  unfold Ch.form at h2
  rw [if_neg hl.1, if_neg hl.2] at h2
  have mem : ∀ i, i < c.L.length → 0 ≤ c.L.getD i 0 ∧ c.L.getD i 0 ≤ 1000000000 := fun i hi => by
    have := List.all_eq_true.1 h1 c.L[i] (List.getElem_mem hi)
    simp only [inT, Bool.and_eq_true, decide_eq_true_eq] at this
    rw [List.getD_eq_getElem?_getD, List.getElem?_eq_getElem hi]
    exact this
  split at h2
  · rename_i hk
    simp only [Bool.and_eq_true, decide_eq_true_eq] at h2
    have m0 := mem 0 (by omega)
    have m1 := mem 1 (by omega)
    have hs : c.stp = 1 := by unfold Ch.stp; rw [if_neg (by omega)]
    exact ⟨⟨hl', m0.1, h2.2, m1.2, by omega, by omega⟩, .inl ⟨hk, h2.1⟩⟩
  · split at h2
    · rename_i hk
      simp only [Bool.and_eq_true, decide_eq_true_eq] at h2
      have m0 := mem 0 (by omega)
      have m1 := mem 1 (by omega)
      exact ⟨⟨hl', m0.1, h2.1.2, m1.2, h2.2.1, h2.2.2⟩, .inr ⟨hk, h2.1.1⟩⟩
    · cases h2
theorem keptL_mem {a b : Ch} (h : a.lsd = true ∨ b.lsd = true) {n : Int} : n ∈ keptL a b ↔ a.has n = true ∧ b.has n = true := by
  unfold keptL
  by_cases ha : a.lsd = true
  · rw [if_pos ha, List.mem_filter]
    have : a.has n = a.L.contains n := by unfold Ch.has; rw [if_pos ha]
    rw [this, List.contains_eq_mem, decide_eq_true_eq]
  · have hb := h.resolve_left ha
    rw [if_neg ha, List.mem_filter]
    have : b.has n = b.L.contains n := by unfold Ch.has; rw [if_pos hb]
    rw [this, List.contains_eq_mem, decide_eq_true_eq, and_comm]
theorem keptL_form {a b : Ch} (va : a.valid = true) (vb : b.valid = true) (h : a.lsd = true ∨ b.lsd = true) : (keptL a b).length ≤ 20 ∧ dis (keptL a b) = true ∧ (keptL a b).all inT = true := by
  have main : ∀ {c : Ch} (p : Int → Bool), c.valid = true → c.lsd = true → (c.L.filter p).length ≤ 20 ∧ dis (c.L.filter p) = true ∧ (c.L.filter p).all inT = true := fun {c} p hv hl => by
    obtain ⟨_, h2, h3, h4, _⟩ := valid_list hv hl
    refine ⟨Nat.le_trans (List.length_filter_le _ _) h2, dis_filter p h3, ?_⟩
    rw [List.all_eq_true] at h4 ⊢
    exact fun x hx => h4 x (List.mem_filter.1 hx).1
  unfold keptL
  by_cases ha : a.lsd = true
  · rw [if_pos ha]; exact main _ va ha
  · rw [if_neg ha]; exact main _ vb (h.resolve_left ha)
theorem lst_valid {L : List Int} (hne : L ≠ []) (h1 : L.length ≤ 20) (h2 : dis L = true) (h3 : L.all inT = true) (x y : Int) : (wish (lstK L) L x y).valid = true := by
  have hp : 1 ≤ L.length := by cases L with | nil => exact absurd rfl hne | cons a l => simp
  unfold Ch.valid
  rw [Bool.and_eq_true, Bool.and_eq_true]
  refine ⟨⟨by rw [wish_L]; exact h3, ?_⟩, wish_d x y ?_⟩
  · unfold Ch.form
    rw [wish_k, wish_L]
    unfold lstK
    split
    · rename_i h; simp [h]
    · simp [hp, h1, h2]
  · rw [lst_has]
    cases L with
    | nil => exact absurd rfl hne
    | cons a l => simp
theorem lst_wish_has (L : List Int) (x y n : Int) : (wish (lstK L) L x y).has n = L.contains n := by rw [wish_has, lst_has]

theorem cnt_pos {a b : Ch} (ha : Rg a) (hb : Rg b) {f : Int} (hf : FirstIs a b (some f)) : 1 ≤ cntO a b f ∧ ((cntO a b f : Int) - 1) * byO a b ≤ min a.hi b.hi - f ∧ min a.hi b.hi - f < (cntO a b f : Int) * byO a b := by
  have h1 := first_lt ha hb hf
  have hp := by_pos ha hb
  have hq : 0 ≤ (min a.hi b.hi - f) / byO a b := Int.ediv_nonneg (by omega) (by omega)
  have e : (cntO a b f : Int) = (min a.hi b.hi - f) / byO a b + 1 := by unfold cntO; omega
  refine ⟨by omega, ?_, ?_⟩
  · rw [e, Int.add_sub_cancel]
    exact Int.ediv_mul_le _ (by omega)
  · rw [e]
    exact Int.lt_ediv_add_one_mul_self _ (by omega)
/-- The common numbers are those of the row. -/
theorem both_seq {a b : Ch} (ha : Rg a) (hb : Rg b) {f : Int} (hf : FirstIs a b (some f)) {n : Int} : both a b n = true ↔ n ∈ seqL f (byO a b) (cntO a b f) := by
  obtain ⟨c1, c2, c3⟩ := cnt_pos ha hb hf
  have hp := by_pos ha hb
  rw [both_first ha hb hf, seqL_mem]
  constructor
  · rintro ⟨h1, h2, k, hk⟩
    have hk0 : 0 ≤ k := by
      by_cases h : 0 ≤ k
      · exact h
      · have : byO a b * k < 0 := Int.mul_neg_of_pos_of_neg (by omega) (by omega)
        omega
    refine ⟨k.toNat, ?_, ?_⟩
    · have : byO a b * k < (cntO a b f : Int) * byO a b := by omega
      rw [Int.mul_comm] at this
      have := Int.lt_of_mul_lt_mul_right this (by omega)
      omega
    · rw [Int.toNat_of_nonneg hk0, Int.mul_comm]; omega
  · rintro ⟨i, hi, rfl⟩
    have h0 : (0 : Int) ≤ (i : Int) * byO a b := Int.mul_nonneg (by omega) (by omega)
    have h1 : (i : Int) * byO a b ≤ ((cntO a b f : Int) - 1) * byO a b := Int.mul_le_mul_of_nonneg_right (by omega) (by omega)
    exact ⟨by omega, by omega, (i : Int), by rw [Int.mul_comm]; omega⟩
theorem seq_inT {a b : Ch} (ha : Rg a) (hb : Rg b) {f : Int} (hf : FirstIs a b (some f)) {m : Nat} (hm : m ≤ cntO a b f) : (seqL f (byO a b) m).all inT = true := by
  rw [List.all_eq_true]
  intro x hx
  obtain ⟨i, h1, h2⟩ := seqL_mem.1 hx
  have : both a b x = true := (both_seq ha hb hf).2 (seqL_mem.2 ⟨i, by omega, h2⟩)
  obtain ⟨⟨q1, q2, _⟩, _⟩ := (both_iff ha hb).1 this
  have h1 := ha.l0
  have h2 := ha.l2
  simp only [inT, Bool.and_eq_true, decide_eq_true_eq]
  omega
/-- What a meeting of ranges has, and that it is valid. -/
theorem metR_ok {a b : Ch} (ha : Rg a) (hb : Rg b) {f : Int} (hf : FirstIs a b (some f)) (x y : Int) :
    (wish (metR a b f).1 (metR a b f).2 x y).valid = true ∧ (((wish (metR a b f).1 (metR a b f).2 x y).k = 2 ∧ (wish (metR a b f).1 (metR a b f).2 x y).L.length = 20) ∨ ∀ n, (wish (metR a b f).1 (metR a b f).2 x y).has n = both a b n) := by
  obtain ⟨c1, c2, c3⟩ := cnt_pos ha hb hf
  have hp := by_pos ha hb
  obtain ⟨w1, w2, w3⟩ := first_lt ha hb hf
  have l0 := ha.l0
  have l2 := ha.l2
  unfold metR
  split
  · -- a list
    have hlen := seqL_length f (byO a b) (min (cntO a b f) 20)
    have hne : seqL f (byO a b) (min (cntO a b f) 20) ≠ [] := fun h => by rw [h] at hlen; simp at hlen; omega
    refine ⟨lst_valid hne (by omega) (dis_seq hp _ _) (seq_inT ha hb hf (by omega)) x y, ?_⟩
    by_cases h20 : cntO a b f < 20
    · refine .inr fun n => ?_
      rw [lst_wish_has, show min (cntO a b f) 20 = cntO a b f by omega, List.contains_eq_mem, Bool.eq_iff_iff, decide_eq_true_eq]
      exact (both_seq ha hb hf).symm
    · refine .inl ⟨?_, ?_⟩
      · rw [wish_k]; unfold lstK; rw [if_neg (by omega)]
      · rw [wish_L, hlen]; omega
  · rename_i hcut
    have hrow : ∀ n, both a b n = true ↔ f ≤ n ∧ n ≤ f + ((cntO a b f : Int) - 1) * byO a b ∧ byO a b ∣ n - f := fun n => by
      rw [both_first ha hb hf]
      constructor
      · rintro ⟨h1, h2, k, hk⟩
        refine ⟨h1, ?_, k, hk⟩
        have hlt : byO a b * k < (cntO a b f : Int) * byO a b := by omega
        rw [Int.mul_comm] at hlt
        have hlt := Int.lt_of_mul_lt_mul_right hlt (by omega)
        have : k * byO a b ≤ ((cntO a b f : Int) - 1) * byO a b := Int.mul_le_mul_of_nonneg_right (by omega) (by omega)
        rw [Int.mul_comm] at hk
        omega
      · rintro ⟨h1, h2, h3⟩
        exact ⟨h1, by omega, h3⟩
    have h0 : (0 : Int) ≤ ((cntO a b f : Int) - 1) * byO a b := Int.mul_nonneg (by omega) (by omega)
    have inF : inT f = true := by simp only [inT, Bool.and_eq_true, decide_eq_true_eq]; omega
    have inG : inT (f + ((cntO a b f : Int) - 1) * byO a b) = true := by simp only [inT, Bool.and_eq_true, decide_eq_true_eq]; omega
    have inB : inT (byO a b) = true := by simp only [inT, Bool.and_eq_true, decide_eq_true_eq]; omega
    generalize hG : f + ((cntO a b f : Int) - 1) * byO a b = G at *
    split
    · rename_i hk
      have hby : byO a b = 1 := by
        have e1 : a.stp = 1 := by unfold Ch.stp; rw [if_neg (by omega)]
        have e2 : b.stp = 1 := by unfold Ch.stp; rw [if_neg (by omega)]
        unfold byO; rw [e1, e2]; rfl
      have hh : ∀ n, (Ch.mk 3 0 [f, G]).has n = both a b n := fun n => by
        rw [Bool.eq_iff_iff, hrow, has_range (by rfl), hby]
        rfl
      refine ⟨?_, .inr fun n => by rw [wish_has, hh]⟩
      unfold Ch.valid
      rw [Bool.and_eq_true, Bool.and_eq_true]
      refine ⟨⟨by rw [wish_L]; simp [inF, inG], ?_⟩, wish_d x y ?_⟩
      · unfold Ch.form Ch.lo Ch.hi
        rw [wish_k, wish_L]
        simp
        omega
      · rw [hh]
        exact hf.1
    · have hh : ∀ n, (Ch.mk 4 0 [f, G, byO a b]).has n = both a b n := fun n => by
        rw [Bool.eq_iff_iff, hrow, has_range (by rfl)]
        rfl
      refine ⟨?_, .inr fun n => by rw [wish_has, hh]⟩
      unfold Ch.valid
      rw [Bool.and_eq_true, Bool.and_eq_true]
      refine ⟨⟨by rw [wish_L]; simp [inF, inG, inB], ?_⟩, wish_d x y ?_⟩
      · unfold Ch.form Ch.lo Ch.hi Ch.stp
        rw [wish_k, wish_L]
        simp
        omega
      · rw [hh]
        exact hf.1
/-- The whole: an outcome is valid, and has what both have. -/
theorem met_ok {a b : Ch} (va : a.valid = true) (vb : b.valid = true) {d : Ch} (h : Met a b (some d)) : d.valid = true ∧ (d.k = 2 ∧ d.L.length = 20 ∨ ∀ n, d.has n = (a.has n && b.has n)) := by
  unfold Met at h
  split at h
  · rename_i hl
    have hl : a.lsd = true ∨ b.lsd = true := by simpa using hl
    split at h
    · cases h
    · rename_i hne
      cases h
      obtain ⟨k1, k2, k3⟩ := keptL_form va vb hl
      refine ⟨lst_valid hne k1 k2 k3 _ _, .inr fun n => ?_⟩
      rw [lst_wish_has, List.contains_eq_mem, Bool.eq_iff_iff, decide_eq_true_eq, keptL_mem hl, Bool.and_eq_true]
  · rename_i hl
    have hl : a.lsd = false ∧ b.lsd = false := by simpa using hl
    obtain ⟨f, h1, h2⟩ := h
    cases f with
    | none => cases h2
    | some f =>
      cases h2
      exact metR_ok (valid_rg va hl.1).1 (valid_rg vb hl.2).1 h1 _ _
theorem met_none {a b : Ch} (va : a.valid = true) (vb : b.valid = true) {o : Option Ch} (h : Met a b o) : o = none ↔ ∀ n, (a.has n && b.has n) = false := by
  unfold Met at h
  split at h
  · rename_i hl
    have hl : a.lsd = true ∨ b.lsd = true := by simpa using hl
    rw [h]
    split
    · rename_i he
      refine ⟨fun _ n => ?_, fun _ => rfl⟩
      by_cases hn : (a.has n && b.has n) = true
      · have := (keptL_mem hl).2 (by simpa using hn)
        rw [he] at this
        cases this
      · simpa using hn
    · rename_i hne
      refine ⟨fun h => (by cases h), fun h => ?_⟩
      obtain ⟨x, hx⟩ := List.exists_mem_of_ne_nil _ hne
      have := (keptL_mem hl).1 hx
      have h2 := h x
      rw [this.1, this.2] at h2
      cases h2
  · obtain ⟨f, h1, h2⟩ := h
    cases f with
    | none => rw [h2]; exact ⟨fun _ n => h1 n, fun _ => rfl⟩
    | some f =>
      rw [h2]
      refine ⟨fun h => (by cases h), fun h => ?_⟩
      have := h f
      rw [show (a.has f && b.has f) = both a b f from rfl, h1.1] at this
      cases this
theorem met_sym {a b : Ch} (va : a.valid = true) (vb : b.valid = true) {o o' : Option Ch} (h : Met a b o) (h' : Met b a o') : o.isSome = o'.isSome := by
  have h1 := met_none va vb h
  have h2 := met_none vb va h'
  have e : (∀ n, (a.has n && b.has n) = false) ↔ ∀ n, (b.has n && a.has n) = false := by
    constructor <;> (intro h n; rw [Bool.and_comm]; exact h n)
  have e2 : o = none ↔ o' = none := h1.trans (e.trans h2.symm)
  cases o <;> cases o' <;> simp at e2 ⊢
end Go.Proofs.YthcdnjbhhaonhaaGreatDoor
/- Layer 02: package format's sets of numbers. -/






namespace Go.Proofs.YthcdnjbhhaonhaaGreatDoor
open Go.RowKit
set_option linter.unusedSimpArgs false

def chV (c : Ch) (s : Value) : Value := .agg #[.int .i64 c.k, .int .i64 c.d, s]
def spV (a b c : Int) (r ok : Bool) : Value := .agg #[.int .i64 a, .int .i64 b, .int .i64 c, .bool r, .bool ok]
/-- What 'numbers' makes of a choice. -/
def setV (c : Ch) (s : Value) : Value :=
  if (c.k = 1 ∧ c.L.length = 1) ∨ c.k = 2 then .iface 110 s
  else if c.k = 3 ∧ c.L.length = 2 then .iface 112 (spV c.lo c.hi 1 true true)
  else if c.k = 4 ∧ c.L.length = 3 then .iface 112 (spV c.lo c.hi (c.L.getD 2 0) false true)
  else .iface 112 (spV 0 0 0 false false)
theorem bv_sp (a b c : Int) (r ok : Bool) : buildV Go.Proofs.Tryz.prog 112 [(0, .int .i64 a), (1, .int .i64 b), (2, .int .i64 c), (3, .bool r), (4, .bool ok)] = some (spV a b c r ok) := by kernel_rfl
theorem bv_sp0 : buildV Go.Proofs.Tryz.prog 112 [] = some (spV 0 0 0 false false) := by kernel_rfl

theorem box_cell {w w' : World} {cs : Array Value} {t : TypeId} (h : Ext (w.alloc (.cells cs t)) w') {j : Nat} {v : Value} (hj : cs[j]? = some v) : w'.cell? ⟨w.heap.size, j, none⟩ = some v :=
  h.cell (by rw [World.cell?_alloc_new]; exact hj)

theorem numbers_c (c : Ch) (s : Value) (w : World) (hs : SlI w s c.L) : Rets Go.Proofs.Tryz.prog 66 #[chV c s] w fun r w' => r = setV c s ∧ Ext w w' := by
  obtain ⟨k, d, L⟩ := c
  obtain ⟨p, cap, rfl, hc1, hc2⟩ := hs.shape
  simp only at hs hc1 hc2
  have hx : Ext w (w.alloc (.cells #[.int .i64 k, .int .i64 d, .slice p L.length cap] 35)) := Ext.alloc _ _
  refine en66 ?_
  by_cases k1 : k = 1
  · subst k1
    by_cases l1 : L.length = 1
    · have e1 : (L.length : Int) = 1 := by omega
      simp -dsimp -implicitDefEqProofs only [chV, e1, m66, sF66, Nat.reduceEqDiff, ↓reduceIte, Nat.reduceAdd, Nat.reduceMul, Value.cells, Value.oneCell', eq_self, ne_eq, Int.reduceToNat, Int.reduceEq, Int.reduceLT, Int.reduceLE, Int.reduceNeg, if_true, if_false, reduceCtorEq, Nat.reduceSub, storeV_ptr, slcV_slice, ↓mwD, mwU]
      exact ⟨by simp [setV, l1], hx⟩
    · have e1 : ¬ (L.length : Int) = 1 := by omega
      simp -dsimp -implicitDefEqProofs only [chV, e1, bv_sp0, m66, sF66, Nat.reduceEqDiff, ↓reduceIte, Nat.reduceAdd, Nat.reduceMul, Value.cells, Value.oneCell', eq_self, ne_eq, Int.reduceToNat, Int.reduceEq, Int.reduceLT, Int.reduceLE, Int.reduceNeg, if_true, if_false, reduceCtorEq, Nat.reduceSub, storeV_ptr, slcV_slice, ↓mwD, mwU]
      exact ⟨by simp [setV, l1], hx⟩
  · by_cases k2 : k = 2
    · subst k2
      simp -dsimp -implicitDefEqProofs only [chV, m66, sF66, Nat.reduceEqDiff, ↓reduceIte, Nat.reduceAdd, Nat.reduceMul, Value.cells, Value.oneCell', eq_self, ne_eq, Int.reduceToNat, Int.reduceEq, Int.reduceLT, Int.reduceLE, Int.reduceNeg, if_true, if_false, reduceCtorEq, Nat.reduceSub, storeV_ptr, slcV_slice, ↓mwD, mwU]
      exact ⟨by simp [setV], hx⟩
    · by_cases k3 : k = 3
      · subst k3
        by_cases l2 : L.length = 2
        · obtain ⟨x, y, rfl⟩ : ∃ x y, L = [x, y] := by
            match L, l2 with
            | [x, y], _ => exact ⟨x, y, rfl⟩
          obtain ⟨b, o, cap', hv, _, _, hcell⟩ := hs.at (by simp)
          cases hv
          have q0 := cell_old (hcell 0 (by simp)) (.cells #[.int .i64 3, .int .i64 d, .slice (some ⟨b, o, none⟩) 2 cap] 35)
          have q1 := cell_old (hcell 1 (by simp)) (.cells #[.int .i64 3, .int .i64 d, .slice (some ⟨b, o, none⟩) 2 cap] 35)
          simp only [Nat.add_zero, List.getElem_cons_zero, List.getElem_cons_succ] at q0 q1
          simp -dsimp -implicitDefEqProofs only [chV, m66, sF66, Nat.reduceEqDiff, ↓reduceIte, Nat.reduceAdd, Nat.reduceMul, Value.cells, Value.oneCell', eq_self, ne_eq, Int.reduceToNat, Int.reduceEq, Int.reduceLT, Int.reduceLE, Int.reduceNeg, if_true, if_false, reduceCtorEq, Nat.reduceSub, storeV_ptr, slcV_slice, ↓mwD, mwU]
          refine mwpB_drawE ?_
          simp -dsimp -implicitDefEqProofs only [chV, q0, q1, bv_sp, m66, sF66, Nat.reduceEqDiff, ↓reduceIte, Nat.reduceAdd, Nat.reduceMul, Value.cells, Value.oneCell', eq_self, ne_eq, Int.reduceToNat, Int.reduceEq, Int.reduceLT, Int.reduceLE, Int.reduceNeg, if_true, if_false, reduceCtorEq, Nat.reduceSub, storeV_ptr, slcV_slice, ↓mwD, mwU]
          exact ⟨by simp [setV, Ch.lo, Ch.hi], hx.trans (Ext.drew _)⟩
        · have e1 : ¬ (L.length : Int) = 2 := by omega
          simp -dsimp -implicitDefEqProofs only [chV, e1, bv_sp0, m66, sF66, Nat.reduceEqDiff, ↓reduceIte, Nat.reduceAdd, Nat.reduceMul, Value.cells, Value.oneCell', eq_self, ne_eq, Int.reduceToNat, Int.reduceEq, Int.reduceLT, Int.reduceLE, Int.reduceNeg, if_true, if_false, reduceCtorEq, Nat.reduceSub, storeV_ptr, slcV_slice, ↓mwD, mwU]
          exact ⟨by simp [setV, l2], hx⟩
      · by_cases k4 : k = 4
        · subst k4
          by_cases l3 : L.length = 3
          · obtain ⟨x, y, z, rfl⟩ : ∃ x y z, L = [x, y, z] := by
              match L, l3 with
              | [x, y, z], _ => exact ⟨x, y, z, rfl⟩
            obtain ⟨b, o, cap', hv, _, _, hcell⟩ := hs.at (by simp)
            cases hv
            have q0 := cell_old (hcell 0 (by simp)) (.cells #[.int .i64 4, .int .i64 d, .slice (some ⟨b, o, none⟩) 3 cap] 35)
            have q1 := cell_old (hcell 1 (by simp)) (.cells #[.int .i64 4, .int .i64 d, .slice (some ⟨b, o, none⟩) 3 cap] 35)
            have q2 := cell_old (hcell 2 (by simp)) (.cells #[.int .i64 4, .int .i64 d, .slice (some ⟨b, o, none⟩) 3 cap] 35)
            simp only [Nat.add_zero, List.getElem_cons_zero, List.getElem_cons_succ] at q0 q1 q2
            simp -dsimp -implicitDefEqProofs only [chV, m66, sF66, Nat.reduceEqDiff, ↓reduceIte, Nat.reduceAdd, Nat.reduceMul, Value.cells, Value.oneCell', eq_self, ne_eq, Int.reduceToNat, Int.reduceEq, Int.reduceLT, Int.reduceLE, Int.reduceNeg, if_true, if_false, reduceCtorEq, Nat.reduceSub, storeV_ptr, slcV_slice, ↓mwD, mwU]
            refine mwpB_drawE ?_
            simp -dsimp -implicitDefEqProofs only [chV, q0, q1, q2, bv_sp, m66, sF66, Nat.reduceEqDiff, ↓reduceIte, Nat.reduceAdd, Nat.reduceMul, Value.cells, Value.oneCell', eq_self, ne_eq, Int.reduceToNat, Int.reduceEq, Int.reduceLT, Int.reduceLE, Int.reduceNeg, if_true, if_false, reduceCtorEq, Nat.reduceSub, storeV_ptr, slcV_slice, ↓mwD, mwU]
            exact ⟨by simp [setV, Ch.lo, Ch.hi], hx.trans (Ext.drew _)⟩
          · have e1 : ¬ (L.length : Int) = 3 := by omega
            simp -dsimp -implicitDefEqProofs only [chV, e1, bv_sp0, m66, sF66, Nat.reduceEqDiff, ↓reduceIte, Nat.reduceAdd, Nat.reduceMul, Value.cells, Value.oneCell', eq_self, ne_eq, Int.reduceToNat, Int.reduceEq, Int.reduceLT, Int.reduceLE, Int.reduceNeg, if_true, if_false, reduceCtorEq, Nat.reduceSub, storeV_ptr, slcV_slice, ↓mwD, mwU]
            exact ⟨by simp [setV, l3], hx⟩
        · simp -dsimp -implicitDefEqProofs only [chV, k1, k2, k3, k4, bv_sp0, m66, sF66, Nat.reduceEqDiff, ↓reduceIte, Nat.reduceAdd, Nat.reduceMul, Value.cells, Value.oneCell', eq_self, ne_eq, Int.reduceToNat, Int.reduceEq, Int.reduceLT, Int.reduceLE, Int.reduceNeg, if_true, if_false, reduceCtorEq, Nat.reduceSub, storeV_ptr, slcV_slice, ↓mwD, mwU]
          exact ⟨by simp [setV, k1, k2, k3, k4], hx⟩

theorem form_c (c : Ch) (s : Value) (w : World) : Rets Go.Proofs.Tryz.prog 97 #[chV c s] w fun r w' => r = .int .i64 (if c.lsd then 0 else 1) ∧ Ext w w' := by
  refine en97 ?_
  by_cases k1 : c.k = 1
  · simp -dsimp -implicitDefEqProofs only [chV, k1, m97, sF97, Nat.reduceEqDiff, ↓reduceIte, Nat.reduceAdd, Nat.reduceMul, Value.cells, Value.oneCell', eq_self, ne_eq, Int.reduceToNat, Int.reduceEq, Int.reduceLT, Int.reduceLE, Int.reduceNeg, if_true, if_false, reduceCtorEq, Nat.reduceSub, storeV_ptr, slcV_slice, ↓mwD, mwU]
    exact ⟨by simp [Ch.lsd, k1], Ext.alloc _ _⟩
  · by_cases k2 : c.k = 2
    · simp -dsimp -implicitDefEqProofs only [chV, k1, k2, m97, sF97, Nat.reduceEqDiff, ↓reduceIte, Nat.reduceAdd, Nat.reduceMul, Value.cells, Value.oneCell', eq_self, ne_eq, Int.reduceToNat, Int.reduceEq, Int.reduceLT, Int.reduceLE, Int.reduceNeg, if_true, if_false, reduceCtorEq, Nat.reduceSub, storeV_ptr, slcV_slice, ↓mwD, mwU]
      exact ⟨by simp [Ch.lsd, k2], Ext.alloc _ _⟩
    · simp -dsimp -implicitDefEqProofs only [chV, k1, k2, m97, sF97, Nat.reduceEqDiff, ↓reduceIte, Nat.reduceAdd, Nat.reduceMul, Value.cells, Value.oneCell', eq_self, ne_eq, Int.reduceToNat, Int.reduceEq, Int.reduceLT, Int.reduceLE, Int.reduceNeg, if_true, if_false, reduceCtorEq, Nat.reduceSub, storeV_ptr, slcV_slice, ↓mwD, mwU]
      exact ⟨by simp [Ch.lsd, k1, k2], Ext.alloc _ _⟩

def stB (a b c n : Int) : Bool := decide (a ≤ n) && (decide (n ≤ b) && decide ((n - a) % c = 0))
theorem stepsHas_c (a b c n : Int) (r ok : Bool) (w : World) (ha : 0 ≤ a) (hb : b ≤ 1000000000) (hc : 1 ≤ c) : Rets Go.Proofs.Tryz.prog 108 #[spV a b c r ok, .int .i64 n] w fun v w' => v = .bool (stB a b c n) ∧ Ext w w' := by
  refine en108 ?_
  by_cases h1 : a ≤ n
  · by_cases h2 : n ≤ b
    · have hc0 : ¬ c = 0 := by omega
      have hw : IntKind.i64.wrap (n - a) = n - a := w64 (by omega) (by omega)
      have ht : (n - a).tmod c = (n - a) % c := Int.tmod_eq_emod_of_nonneg (by omega)
      simp -dsimp -implicitDefEqProofs only [spV, h1, h2, hc0, hw, ht, not_false_eq_true, m108, sF108, Nat.reduceEqDiff, ↓reduceIte, Nat.reduceAdd, Nat.reduceMul, Value.cells, Value.oneCell', eq_self, ne_eq, Int.reduceToNat, Int.reduceEq, Int.reduceLT, Int.reduceLE, Int.reduceNeg, if_true, if_false, reduceCtorEq, Nat.reduceSub, storeV_ptr, slcV_slice, ↓mwD, mwU]
      exact ⟨by simp [stB, h1, h2], Ext.alloc _ _⟩
    · simp -dsimp -implicitDefEqProofs only [spV, h1, h2, m108, sF108, Nat.reduceEqDiff, ↓reduceIte, Nat.reduceAdd, Nat.reduceMul, Value.cells, Value.oneCell', eq_self, ne_eq, Int.reduceToNat, Int.reduceEq, Int.reduceLT, Int.reduceLE, Int.reduceNeg, if_true, if_false, reduceCtorEq, Nat.reduceSub, storeV_ptr, slcV_slice, ↓mwD, mwU]
      exact ⟨by simp [stB, h1, h2], Ext.alloc _ _⟩
  · simp -dsimp -implicitDefEqProofs only [spV, h1, m108, sF108, Nat.reduceEqDiff, ↓reduceIte, Nat.reduceAdd, Nat.reduceMul, Value.cells, Value.oneCell', eq_self, ne_eq, Int.reduceToNat, Int.reduceEq, Int.reduceLT, Int.reduceLE, Int.reduceNeg, if_true, if_false, reduceCtorEq, Nat.reduceSub, storeV_ptr, slcV_slice, ↓mwD, mwU]
    exact ⟨by simp [stB, h1], Ext.alloc _ _⟩
def stR (a b c : Int) (ok : Bool) : Bool := ok && (decide (0 ≤ a) && (decide (a ≤ b) && (decide (b ≤ 1000000000) && (decide (1 ≤ c) && decide (c ≤ 1000)))))
theorem stepsRight_c (a b c : Int) (r ok : Bool) (w : World) : Rets Go.Proofs.Tryz.prog 232 #[spV a b c r ok] w fun v w' => v = .bool (stR a b c ok) ∧ Ext w w' := by
  refine en232 ?_
  cases ok
  · simp -dsimp -implicitDefEqProofs only [spV, m232, sF232, Nat.reduceEqDiff, ↓reduceIte, Nat.reduceAdd, Nat.reduceMul, Value.cells, Value.oneCell', eq_self, ne_eq, Int.reduceToNat, Int.reduceEq, Int.reduceLT, Int.reduceLE, Int.reduceNeg, if_true, if_false, reduceCtorEq, Nat.reduceSub, storeV_ptr, slcV_slice, ↓mwD, mwU]
    exact ⟨by simp [stR], Ext.alloc _ _⟩
  · by_cases h1 : 0 ≤ a
    · by_cases h2 : a ≤ b
      · by_cases h3 : b ≤ 1000000000
        · by_cases h4 : 1 ≤ c
          · simp -dsimp -implicitDefEqProofs only [spV, h1, h2, h3, h4, m232, sF232, Nat.reduceEqDiff, ↓reduceIte, Nat.reduceAdd, Nat.reduceMul, Value.cells, Value.oneCell', eq_self, ne_eq, Int.reduceToNat, Int.reduceEq, Int.reduceLT, Int.reduceLE, Int.reduceNeg, if_true, if_false, reduceCtorEq, Nat.reduceSub, storeV_ptr, slcV_slice, ↓mwD, mwU]
            exact ⟨by simp [stR, h1, h2, h3, h4], Ext.alloc _ _⟩
          · simp -dsimp -implicitDefEqProofs only [spV, h1, h2, h3, h4, m232, sF232, Nat.reduceEqDiff, ↓reduceIte, Nat.reduceAdd, Nat.reduceMul, Value.cells, Value.oneCell', eq_self, ne_eq, Int.reduceToNat, Int.reduceEq, Int.reduceLT, Int.reduceLE, Int.reduceNeg, if_true, if_false, reduceCtorEq, Nat.reduceSub, storeV_ptr, slcV_slice, ↓mwD, mwU]
            exact ⟨by simp [stR, h4], Ext.alloc _ _⟩
        · simp -dsimp -implicitDefEqProofs only [spV, h1, h2, h3, m232, sF232, Nat.reduceEqDiff, ↓reduceIte, Nat.reduceAdd, Nat.reduceMul, Value.cells, Value.oneCell', eq_self, ne_eq, Int.reduceToNat, Int.reduceEq, Int.reduceLT, Int.reduceLE, Int.reduceNeg, if_true, if_false, reduceCtorEq, Nat.reduceSub, storeV_ptr, slcV_slice, ↓mwD, mwU]
          exact ⟨by simp [stR, h3], Ext.alloc _ _⟩
      · simp -dsimp -implicitDefEqProofs only [spV, h1, h2, m232, sF232, Nat.reduceEqDiff, ↓reduceIte, Nat.reduceAdd, Nat.reduceMul, Value.cells, Value.oneCell', eq_self, ne_eq, Int.reduceToNat, Int.reduceEq, Int.reduceLT, Int.reduceLE, Int.reduceNeg, if_true, if_false, reduceCtorEq, Nat.reduceSub, storeV_ptr, slcV_slice, ↓mwD, mwU]
        exact ⟨by simp [stR, h2], Ext.alloc _ _⟩
    · simp -dsimp -implicitDefEqProofs only [spV, h1, m232, sF232, Nat.reduceEqDiff, ↓reduceIte, Nat.reduceAdd, Nat.reduceMul, Value.cells, Value.oneCell', eq_self, ne_eq, Int.reduceToNat, Int.reduceEq, Int.reduceLT, Int.reduceLE, Int.reduceNeg, if_true, if_false, reduceCtorEq, Nat.reduceSub, storeV_ptr, slcV_slice, ↓mwD, mwU]
      exact ⟨by simp [stR, h1], Ext.alloc _ _⟩
end Go.Proofs.YthcdnjbhhaonhaaGreatDoor

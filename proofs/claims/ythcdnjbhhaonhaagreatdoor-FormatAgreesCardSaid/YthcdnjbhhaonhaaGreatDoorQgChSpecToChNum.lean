/- Layer 02 in plain Lean: choices, and how two of them meet. -/
import Derived.Test.YthcdnjbhhaonhaaGreatDoorQgMwF0
import Derived.Test.YthcdnjbhhaonhaaGreatDoorQgMwF1
import Derived.Test.YthcdnjbhhaonhaaGreatDoorQgMwF2
import Derived.Test.YthcdnjbhhaonhaaGreatDoorQgMwMem
import Derived.Test.YthcdnjbhhaonhaaGreatDoorQgMwSet
import Derived.MapKept
namespace Go.Proofs.YthcdnjbhhaonhaaGreatDoor
structure Ch where
 k : Int
 d : Int
 L : List Int
namespace Ch
def lsd (c : Ch) : Bool := decide (c.k = 1) || decide (c.k = 2)
def lo (c : Ch) : Int := c.L.getD 0 0
def hi (c : Ch) : Int := c.L.getD 1 0
def stp (c : Ch) : Int := if c.k = 4 then c.L.getD 2 0 else 1
def has (c : Ch) (n : Int) : Bool := if c.lsd then c.L.contains n else decide (c.lo ≤ n) && (decide (n ≤ c.hi) && decide ((n - c.lo) % c.stp = 0))
end Ch
def inT (n : Int) : Bool := decide (0 ≤ n) && decide (n ≤ 1000000000)
def dis : List Int → Bool
 | [] => true
 | a :: l => !l.contains a && dis l
namespace Ch
def form (c : Ch) : Bool := if c.k = 1 then decide (c.L.length = 1) else if c.k = 2 then decide (1 ≤ c.L.length) && decide (c.L.length ≤ 20) && dis c.L
 else if c.k = 3 then decide (c.L.length = 2) && decide (c.lo ≤ c.hi) else if c.k = 4 then decide (c.L.length = 3) && decide (c.lo ≤ c.hi) && (decide (1 ≤ c.stp) && decide (c.stp ≤ 1000)) else false
def valid (c : Ch) : Bool := c.L.all inT && c.form && c.has c.d
end Ch
def rng (hi s : Int) : Nat → Int → List Int
 | 0, _ => []
 | m + 1, n => if n ≤ hi then n :: rng hi s m (n + s) else []
def Ch.first (c : Ch) (m : Nat) : List Int := if c.lsd then c.L.take m else rng c.hi c.stp m c.lo
def lstK (l : List Int) : Int := if l.length = 1 then 1 else 2
def wish (k : Int) (L : List Int) (ad bd : Int) : Ch :=
 if (Ch.mk k 0 L).has ad then ⟨k, ad, L⟩ else if (Ch.mk k 0 L).has bd then ⟨k, bd, L⟩ else ⟨k, L.getD 0 0, L⟩
def both (a b : Ch) (n : Int) : Bool := a.has n && b.has n
def byO (a b : Ch) : Int := (Nat.lcm a.stp.toNat b.stp.toNat : Nat)
def FirstIs (a b : Ch) : Option Int → Prop
 | none => ∀ n, both a b n = false
 | some f => both a b f = true ∧ ∀ n, both a b n = true → f ≤ n
def cntO (a b : Ch) (f : Int) : Nat := ((min a.hi b.hi - f) / byO a b + 1).toNat
def seqL (f s : Int) (n : Nat) : List Int := (List.range n).map fun (i : Nat) => f + (i : Int) * s
def metR (a b : Ch) (f : Int) : Int × List Int :=
 if cntO a b f ≤ 20 ∨ 1000 < byO a b then (lstK (seqL f (byO a b) (min (cntO a b f) 20)), seqL f (byO a b) (min (cntO a b f) 20))
 else if a.k = 3 ∧ b.k = 3 then (3, [f, f + ((cntO a b f : Int) - 1) * byO a b])
 else (4, [f, f + ((cntO a b f : Int) - 1) * byO a b, byO a b])
def keptL (a b : Ch) : List Int := if a.lsd then a.L.filter b.has else b.L.filter a.has
def Met (a b : Ch) (o : Option Ch) : Prop :=
 if a.lsd || b.lsd then o = (if keptL a b = [] then none else some (wish (lstK (keptL a b)) (keptL a b) a.d b.d))
 else ∃ f, FirstIs a b f ∧ o = f.map fun f => wish (metR a b f).1 (metR a b f).2 a.d b.d
theorem FirstIs.eq {a b : Ch} : ∀ {o o' : Option Int}, FirstIs a b o → FirstIs a b o' → o = o'
 | none, none, _, _ => rfl
 | none, some f, h, h' => by have h1 := h'.1; rw [h f] at h1; exact absurd h1 (by simp)
 | some f, none, h, h' => by have h1 := h.1; rw [h' f] at h1; exact absurd h1 (by simp)
 | some f, some g, h, h' => by rw [Int.le_antisymm (h.2 g h'.1) (h'.2 f h.1)]
theorem Met.eq {a b : Ch} {o o' : Option Ch} (h : Met a b o) (h' : Met a b o') : o = o' := by
 unfold Met at h h'
 split at h
 · rename_i hc
   rw [if_pos hc] at h'
   rw [h, h']
 · rename_i hc
   rw [if_neg hc] at h'
   obtain ⟨f, h1, h2⟩ := h
   obtain ⟨g, g1, g2⟩ := h'
   rw [h2, g2, h1.eq g1]
theorem has_range {c : Ch} (h : c.lsd = false) {n : Int} : c.has n = true ↔ c.lo ≤ n ∧ n ≤ c.hi ∧ c.stp ∣ n - c.lo := by
 simp only [Ch.has,h,if_false,Bool.false_eq_true,Bool.and_eq_true,decide_eq_true_eq,Int.dvd_iff_emod_eq_zero]
structure Rg (c : Ch) : Prop where
 nl : c.lsd = false
 l0 : 0 ≤ c.lo
 l1 : c.lo ≤ c.hi
 l2 : c.hi ≤ 1000000000
 s0 : 1 ≤ c.stp
 s1 : c.stp ≤ 1000
theorem by_pos {a b : Ch} (ha : Rg a) (hb : Rg b) : 1 ≤ byO a b := by
 have h1 := ha.s0
 have h2 := hb.s0
 have : 0 < Nat.lcm a.stp.toNat b.stp.toNat := Nat.lcm_pos (by omega) (by omega)
 unfold byO
 omega
theorem by_dvd {a b : Ch} (ha : Rg a) (hb : Rg b) : a.stp ∣ byO a b ∧ b.stp ∣ byO a b := by
 have h1 := ha.s0
 have h2 := hb.s0
 have e1 : ((a.stp.toNat : Nat) : Int) = a.stp := Int.toNat_of_nonneg (by omega)
 have e2 : ((b.stp.toNat : Nat) : Int) = b.stp := Int.toNat_of_nonneg (by omega)
 refine ⟨?_, ?_⟩
 · rw [← e1]; exact Int.ofNat_dvd.2 (Nat.dvd_lcm_left _ _)
 · rw [← e2]; exact Int.ofNat_dvd.2 (Nat.dvd_lcm_right _ _)
theorem dvd_by {a b : Ch} (ha : Rg a) (hb : Rg b) {x : Int} (h1 : a.stp ∣ x) (h2 : b.stp ∣ x) : byO a b ∣ x := by
 have e1 : a.stp.toNat = a.stp.natAbs := by have := ha.s0; omega
 have e2 : b.stp.toNat = b.stp.natAbs := by have := hb.s0; omega
 unfold byO
 rw [e1, e2]
 have h := Nat.lcm_dvd (Int.natAbs_dvd_natAbs.2 h1) (Int.natAbs_dvd_natAbs.2 h2)
 exact Int.natAbs_dvd_natAbs.1 (by simpa using h)
theorem both_iff {a b : Ch} (ha : Rg a) (hb : Rg b) {n : Int} : both a b n = true ↔ (a.lo ≤ n ∧ n ≤ a.hi ∧ a.stp ∣ n - a.lo) ∧ (b.lo ≤ n ∧ n ≤ b.hi ∧ b.stp ∣ n - b.lo) := by
 unfold both
 rw [Bool.and_eq_true, has_range ha.nl, has_range hb.nl]
theorem both_first {a b : Ch} (ha : Rg a) (hb : Rg b) {f : Int} (hf : FirstIs a b (some f)) {n : Int} : both a b n = true ↔ f ≤ n ∧ n ≤ min a.hi b.hi ∧ byO a b ∣ n - f := by
 obtain ⟨⟨f1, f2, f3⟩, g1, g2, g3⟩ := (both_iff ha hb).1 hf.1
 constructor
 · intro h
   obtain ⟨⟨n1, n2, n3⟩, m1, m2, m3⟩ := (both_iff ha hb).1 h
   refine ⟨hf.2 n h, by omega, dvd_by ha hb ?_ ?_⟩
   · have := Int.dvd_sub n3 f3
     rw [show n - a.lo - (f - a.lo) = n - f by omega] at this
     exact this
   · have := Int.dvd_sub m3 g3
     rw [show n - b.lo - (f - b.lo) = n - f by omega] at this
     exact this
 · rintro ⟨h1, h2, h3⟩
   obtain ⟨d1, d2⟩ := by_dvd ha hb
   refine (both_iff ha hb).2 ⟨⟨by omega, by omega, ?_⟩, by omega, by omega, ?_⟩
   · have := Int.dvd_add (Int.dvd_trans d1 h3) f3
     rw [show n - f + (f - a.lo) = n - a.lo by omega] at this
     exact this
   · have := Int.dvd_add (Int.dvd_trans d2 h3) g3
     rw [show n - f + (f - b.lo) = n - b.lo by omega] at this
     exact this
theorem first_lt {a b : Ch} (ha : Rg a) (hb : Rg b) {f : Int} (hf : FirstIs a b (some f)) : max a.lo b.lo ≤ f ∧ f ≤ min a.hi b.hi ∧ f < max a.lo b.lo + byO a b := by
 obtain ⟨⟨f1, f2, f3⟩, g1, g2, g3⟩ := (both_iff ha hb).1 hf.1
 refine ⟨by omega, by omega, ?_⟩
 by_cases h : f < max a.lo b.lo + byO a b
 · exact h
 · have hp := by_pos ha hb
   obtain ⟨d1, d2⟩ := by_dvd ha hb
   have : both a b (f - byO a b) = true := (both_iff ha hb).2 ⟨⟨by omega, by omega, by
    have := Int.dvd_sub f3 d1
    rw [show f - a.lo - byO a b = f - byO a b - a.lo by omega] at this
    exact this⟩, by omega, by omega, by
    have := Int.dvd_sub g3 d2
    rw [show f - b.lo - byO a b = f - byO a b - b.lo by omega] at this
    exact this⟩
   have := hf.2 _ this
   omega
theorem seqL_mem {f s : Int} {n : Nat} {x : Int} : x ∈ seqL f s n ↔ ∃ i : Nat, i < n ∧ x = f + (i : Int) * s := by
 unfold seqL
 simp only [List.mem_map,List.mem_range]
 constructor
 · rintro ⟨i, h1, h2⟩; exact ⟨i, h1, h2.symm⟩
 · rintro ⟨i, h1, h2⟩; exact ⟨i, h1, h2.symm⟩
theorem seqL_length (f s : Int) (n : Nat) : (seqL f s n).length = n := by simp [seqL]
theorem seqL_succ (f s : Int) (n : Nat) : seqL f s (n + 1) = seqL f s n ++ [f + (n : Int) * s] := by simp [seqL, List.range_succ]
theorem seqL_cons (f s : Int) (n : Nat) : seqL f s (n + 1) = f :: seqL (f + s) s n := by
 unfold seqL
 rw [List.range_succ_eq_map]
 simp only [List.map_cons,List.map_map,Int.ofNat_zero,Int.zero_mul,Int.add_zero]
 congr 1
 apply List.map_congr_left
 intro i _
 simp only [Function.comp]
 rw [show ((i + 1 : Nat) : Int) = (i : Int) + 1 by omega, Int.add_mul]
 omega
theorem rng_seq {s : Int} (hs : 1 ≤ s) : ∀ (m n : Nat) (f : Int), rng (f + ((n : Int) - 1) * s) s m f = seqL f s (min n m)
 | 0, n, f => by simp [rng, seqL]
 | m + 1, 0, f => by
  have : ¬ f ≤ f + ((0 : Nat) - 1 : Int) * s := by simp; omega
  simp [rng, seqL]
  omega
 | m + 1, n + 1, f => by
  have h0 : (0 : Int) ≤ (n : Int) * s := Int.mul_nonneg (by omega) (by omega)
  have e : ((n + 1 : Nat) : Int) - 1 = (n : Int) := by omega
  rw [e]
  have ih := rng_seq hs m n (f + s)
  have e2 : f + s + ((n : Int) - 1) * s = f + (n : Int) * s := by rw [Int.sub_mul]; omega
  rw [e2] at ih
  rw [rng, if_pos (by omega), ih, show min (n + 1) (m + 1) = min n m + 1 by omega, seqL_cons]
end Go.Proofs.YthcdnjbhhaonhaaGreatDoor
/- Layer 02 in plain Lean: what the statement ChoiceMeets asks of how choices meet. -/
namespace Go.Proofs.YthcdnjbhhaonhaaGreatDoor
theorem wish_k (k : Int) (L : List Int) (x y : Int) : (wish k L x y).k = k := by unfold wish; split; rfl; split <;> rfl
theorem wish_L (k : Int) (L : List Int) (x y : Int) : (wish k L x y).L = L := by unfold wish; split; rfl; split <;> rfl
theorem has_kL {a b : Ch} (hk : a.k = b.k) (hL : a.L = b.L) (n : Int) : a.has n = b.has n := by
 unfold Ch.has Ch.lsd Ch.lo Ch.hi Ch.stp
 rw [hk, hL]
theorem wish_has (k : Int) (L : List Int) (x y n : Int) : (wish k L x y).has n = (Ch.mk k 0 L).has n := has_kL (b := ⟨k, 0, L⟩) (wish_k k L x y) (wish_L k L x y) n
theorem wish_d {k : Int} {L : List Int} (x y : Int) (h : (Ch.mk k 0 L).has (L.getD 0 0) = true) : (wish k L x y).has (wish k L x y).d = true := by
 rw [wish_has]
 unfold wish
 split
 · assumption
 · split
   · assumption
   · exact h
theorem lstK_lsd (l L : List Int) (d : Int) : (Ch.mk (lstK l) d L).lsd = true := by
 unfold Ch.lsd lstK
 split <;> simp
theorem lst_has (l L : List Int) (n : Int) : (Ch.mk (lstK l) 0 L).has n = L.contains n := by
 unfold Ch.has
 rw [lstK_lsd]
 simp
theorem dis_filter (p : Int → Bool) : ∀ {l : List Int}, dis l = true → dis (l.filter p) = true
 | [], _ => rfl
 | a :: l, h => by
  simp only [dis,Bool.and_eq_true,Bool.not_eq_true'] at h
  simp only [List.filter_cons]
  split
  · simp only [dis,Bool.and_eq_true,Bool.not_eq_true']
    refine ⟨?_, dis_filter p h.2⟩
    have := h.1
    simp only [List.contains_eq_mem,decide_eq_false_iff_not,List.mem_filter] at this ⊢
    exact fun hh => this hh.1
  · exact dis_filter p h.2
theorem dis_seq {s : Int} (hs : 1 ≤ s) : ∀ (n : Nat) (f : Int), dis (seqL f s n) = true
 | 0, f => by simp [seqL, dis]
 | n + 1, f => by
  rw [seqL_cons]
  simp only [dis,Bool.and_eq_true,Bool.not_eq_true',dis_seq hs n (f + s),and_true]
  simp only [List.contains_eq_mem,decide_eq_false_iff_not]
  intro h
  obtain ⟨i, _, h2⟩ := seqL_mem.1 h
  have : (0 : Int) ≤ (i : Int) * s := Int.mul_nonneg (by omega) (by omega)
  omega
theorem valid_list {c : Ch} (h : c.valid = true) (hl : c.lsd = true) : 1 ≤ c.L.length ∧ c.L.length ≤ 20 ∧ dis c.L = true ∧ c.L.all inT = true ∧ c.L.contains c.d = true := by
 unfold Ch.valid at h
 simp only [Bool.and_eq_true] at h
 obtain ⟨⟨h1, h2⟩, h3⟩ := h
 have h3 : c.L.contains c.d = true := by unfold Ch.has at h3; rw [if_pos hl] at h3; exact h3
 unfold Ch.form at h2
 split at h2
 · have h2 : c.L.length = 1 := by simpa using h2
   obtain ⟨x, hx⟩ := List.length_eq_one_iff.1 h2
   exact ⟨by omega, by omega, by rw [hx]; rfl, h1, h3⟩
 · split at h2
   · simp only [Bool.and_eq_true,decide_eq_true_eq] at h2
     exact ⟨h2.1.1, h2.1.2, h2.2, h1, h3⟩
   · rename_i a b
     unfold Ch.lsd at hl
     simp [a, b] at hl
theorem valid_rg {c : Ch} (h : c.valid = true) (hl : c.lsd = false) : Rg c ∧ (c.k = 3 ∧ c.L.length = 2 ∨ c.k = 4 ∧ c.L.length = 3) := by
 have hl' := hl
 unfold Ch.valid at h
 simp only [Bool.and_eq_true] at h
 obtain ⟨⟨h1, h2⟩, h3⟩ := h
 unfold Ch.lsd at hl
 simp only [Bool.or_eq_false_iff,decide_eq_false_iff_not] at hl
 unfold Ch.form at h2
 rw [if_neg hl.1, if_neg hl.2] at h2
 have mem : ∀ i, i < c.L.length → 0 ≤ c.L.getD i 0 ∧ c.L.getD i 0 ≤ 1000000000 := fun i hi => by
  have := List.all_eq_true.1 h1 c.L[i] (List.getElem_mem hi)
  simp only [inT,Bool.and_eq_true,decide_eq_true_eq] at this
  rw [List.getD_eq_getElem?_getD, List.getElem?_eq_getElem hi]
  exact this
 split at h2
 · rename_i hk
   simp only [Bool.and_eq_true,decide_eq_true_eq] at h2
   have m0 := mem 0 (by omega)
   have m1 := mem 1 (by omega)
   have hs : c.stp = 1 := by unfold Ch.stp; rw [if_neg (by omega)]
   exact ⟨⟨hl', m0.1, h2.2, m1.2, by omega, by omega⟩, .inl ⟨hk, h2.1⟩⟩
 · split at h2
   · rename_i hk
     simp only [Bool.and_eq_true,decide_eq_true_eq] at h2
     have m0 := mem 0 (by omega)
     have m1 := mem 1 (by omega)
     exact ⟨⟨hl', m0.1, h2.1.2, m1.2, h2.2.1, h2.2.2⟩, .inr ⟨hk, h2.1.1⟩⟩
   · cases h2
theorem keptL_mem {a b : Ch} (h : a.lsd = true ∨ b.lsd = true) {n : Int} : n ∈ keptL a b ↔ a.has n = true ∧ b.has n = true := by
 unfold keptL
 by_cases ha : a.lsd = true
 · rw [if_pos ha, List.mem_filter]
   have : a.has n = a.L.contains n := by unfold Ch.has; rw [if_pos ha]
   rw [this, List.contains_eq_mem, decide_eq_true_eq]
 · have hb := h.resolve_left ha
   rw [if_neg ha, List.mem_filter]
   have : b.has n = b.L.contains n := by unfold Ch.has; rw [if_pos hb]
   rw [this, List.contains_eq_mem, decide_eq_true_eq, and_comm]
theorem keptL_form {a b : Ch} (va : a.valid = true) (vb : b.valid = true) (h : a.lsd = true ∨ b.lsd = true) : (keptL a b).length ≤ 20 ∧ dis (keptL a b) = true ∧ (keptL a b).all inT = true := by
 have main : ∀ {c : Ch} (p : Int → Bool), c.valid = true → c.lsd = true → (c.L.filter p).length ≤ 20 ∧ dis (c.L.filter p) = true ∧ (c.L.filter p).all inT = true := fun {c} p hv hl => by
  obtain ⟨_, h2, h3, h4, _⟩ := valid_list hv hl
  refine ⟨Nat.le_trans (List.length_filter_le _ _) h2, dis_filter p h3, ?_⟩
  rw [List.all_eq_true] at h4 ⊢
  exact fun x hx => h4 x (List.mem_filter.1 hx).1
 unfold keptL
 by_cases ha : a.lsd = true
 · rw [if_pos ha]; exact main _ va ha
 · rw [if_neg ha]; exact main _ vb (h.resolve_left ha)
theorem lst_valid {L : List Int} (hne : L ≠ []) (h1 : L.length ≤ 20) (h2 : dis L = true) (h3 : L.all inT = true) (x y : Int) : (wish (lstK L) L x y).valid = true := by
 have hp : 1 ≤ L.length := by cases L with | nil => exact absurd rfl hne | cons a l => simp
 unfold Ch.valid
 rw [Bool.and_eq_true, Bool.and_eq_true]
 refine ⟨⟨by rw [wish_L]; exact h3, ?_⟩, wish_d x y ?_⟩
 · unfold Ch.form
   rw [wish_k, wish_L]
   unfold lstK
   split
   · rename_i h; simp [h]
   · simp [hp, h1, h2]
 · rw [lst_has]
   cases L with
   | nil => exact absurd rfl hne
   | cons a l => simp
theorem lst_wish_has (L : List Int) (x y n : Int) : (wish (lstK L) L x y).has n = L.contains n := by rw [wish_has, lst_has]
theorem cnt_pos {a b : Ch} (ha : Rg a) (hb : Rg b) {f : Int} (hf : FirstIs a b (some f)) : 1 ≤ cntO a b f ∧ ((cntO a b f : Int) - 1) * byO a b ≤ min a.hi b.hi - f ∧ min a.hi b.hi - f < (cntO a b f : Int) * byO a b := by
 have h1 := first_lt ha hb hf
 have hp := by_pos ha hb
 have hq : 0 ≤ (min a.hi b.hi - f) / byO a b := Int.ediv_nonneg (by omega) (by omega)
 have e : (cntO a b f : Int) = (min a.hi b.hi - f) / byO a b + 1 := by unfold cntO; omega
 refine ⟨by omega, ?_, ?_⟩
 · rw [e, Int.add_sub_cancel]
   exact Int.ediv_mul_le _ (by omega)
 · rw [e]
   exact Int.lt_ediv_add_one_mul_self _ (by omega)
theorem both_seq {a b : Ch} (ha : Rg a) (hb : Rg b) {f : Int} (hf : FirstIs a b (some f)) {n : Int} : both a b n = true ↔ n ∈ seqL f (byO a b) (cntO a b f) := by
 obtain ⟨c1, c2, c3⟩ := cnt_pos ha hb hf
 have hp := by_pos ha hb
 rw [both_first ha hb hf, seqL_mem]
 constructor
 · rintro ⟨h1, h2, k, hk⟩
   have hk0 : 0 ≤ k := by
    by_cases h : 0 ≤ k
    · exact h
    · have : byO a b * k < 0 := Int.mul_neg_of_pos_of_neg (by omega) (by omega)
      omega
   refine ⟨k.toNat, ?_, ?_⟩
   · have : byO a b * k < (cntO a b f : Int) * byO a b := by omega
     rw [Int.mul_comm] at this
     have := Int.lt_of_mul_lt_mul_right this (by omega)
     omega
   · rw [Int.toNat_of_nonneg hk0, Int.mul_comm]; omega
 · rintro ⟨i, hi, rfl⟩
   have h0 : (0 : Int) ≤ (i : Int) * byO a b := Int.mul_nonneg (by omega) (by omega)
   have h1 : (i : Int) * byO a b ≤ ((cntO a b f : Int) - 1) * byO a b := Int.mul_le_mul_of_nonneg_right (by omega) (by omega)
   exact ⟨by omega, by omega, (i : Int), by rw [Int.mul_comm]; omega⟩
theorem seq_inT {a b : Ch} (ha : Rg a) (hb : Rg b) {f : Int} (hf : FirstIs a b (some f)) {m : Nat} (hm : m ≤ cntO a b f) : (seqL f (byO a b) m).all inT = true := by
 rw [List.all_eq_true]
 intro x hx
 obtain ⟨i, h1, h2⟩ := seqL_mem.1 hx
 have : both a b x = true := (both_seq ha hb hf).2 (seqL_mem.2 ⟨i, by omega, h2⟩)
 obtain ⟨⟨q1, q2, _⟩, _⟩ := (both_iff ha hb).1 this
 have h1 := ha.l0
 have h2 := ha.l2
 simp only [inT,Bool.and_eq_true,decide_eq_true_eq]
 omega
theorem metR_ok {a b : Ch} (ha : Rg a) (hb : Rg b) {f : Int} (hf : FirstIs a b (some f)) (x y : Int) :
 (wish (metR a b f).1 (metR a b f).2 x y).valid = true ∧ (((wish (metR a b f).1 (metR a b f).2 x y).k = 2 ∧ (wish (metR a b f).1 (metR a b f).2 x y).L.length = 20) ∨ ∀ n, (wish (metR a b f).1 (metR a b f).2 x y).has n = both a b n) := by
 obtain ⟨c1, c2, c3⟩ := cnt_pos ha hb hf
 have hp := by_pos ha hb
 obtain ⟨w1, w2, w3⟩ := first_lt ha hb hf
 have l0 := ha.l0
 have l2 := ha.l2
 unfold metR
 split
 · -- a list
   have hlen := seqL_length f (byO a b) (min (cntO a b f) 20)
   have hne : seqL f (byO a b) (min (cntO a b f) 20) ≠ [] := fun h => by rw [h] at hlen; simp at hlen; omega
   refine ⟨lst_valid hne (by omega) (dis_seq hp _ _) (seq_inT ha hb hf (by omega)) x y, ?_⟩
   by_cases h20 : cntO a b f < 20
   · refine .inr fun n => ?_
     rw [lst_wish_has, show min (cntO a b f) 20 = cntO a b f by omega, List.contains_eq_mem, Bool.eq_iff_iff, decide_eq_true_eq]
     exact (both_seq ha hb hf).symm
   · refine .inl ⟨?_, ?_⟩
     · rw [wish_k]; unfold lstK; rw [if_neg (by omega)]
     · rw [wish_L, hlen]; omega
 · rename_i hcut
   have hrow : ∀ n, both a b n = true ↔ f ≤ n ∧ n ≤ f + ((cntO a b f : Int) - 1) * byO a b ∧ byO a b ∣ n - f := fun n => by
    rw [both_first ha hb hf]
    constructor
    · rintro ⟨h1, h2, k, hk⟩
      refine ⟨h1, ?_, k, hk⟩
      have hlt : byO a b * k < (cntO a b f : Int) * byO a b := by omega
      rw [Int.mul_comm] at hlt
      have hlt := Int.lt_of_mul_lt_mul_right hlt (by omega)
      have : k * byO a b ≤ ((cntO a b f : Int) - 1) * byO a b := Int.mul_le_mul_of_nonneg_right (by omega) (by omega)
      rw [Int.mul_comm] at hk
      omega
    · rintro ⟨h1, h2, h3⟩
      exact ⟨h1, by omega, h3⟩
   have h0 : (0 : Int) ≤ ((cntO a b f : Int) - 1) * byO a b := Int.mul_nonneg (by omega) (by omega)
   have inF : inT f = true := by simp only [inT,Bool.and_eq_true,decide_eq_true_eq]; omega
   have inG : inT (f + ((cntO a b f : Int) - 1) * byO a b) = true := by simp only [inT,Bool.and_eq_true,decide_eq_true_eq]; omega
   have inB : inT (byO a b) = true := by simp only [inT,Bool.and_eq_true,decide_eq_true_eq]; omega
   generalize hG : f + ((cntO a b f : Int) - 1) * byO a b = G at *
   split
   · rename_i hk
     have hby : byO a b = 1 := by
      have e1 : a.stp = 1 := by unfold Ch.stp; rw [if_neg (by omega)]
      have e2 : b.stp = 1 := by unfold Ch.stp; rw [if_neg (by omega)]
      unfold byO; rw [e1, e2]; rfl
     have hh : ∀ n, (Ch.mk 3 0 [f, G]).has n = both a b n := fun n => by
      rw [Bool.eq_iff_iff, hrow, has_range (by rfl), hby]
      rfl
     refine ⟨?_, .inr fun n => by rw [wish_has, hh]⟩
     unfold Ch.valid
     rw [Bool.and_eq_true, Bool.and_eq_true]
     refine ⟨⟨by rw [wish_L]; simp [inF, inG], ?_⟩, wish_d x y ?_⟩
     · unfold Ch.form Ch.lo Ch.hi
       rw [wish_k, wish_L]
       simp
       omega
     · rw [hh]
       exact hf.1
   · have hh : ∀ n, (Ch.mk 4 0 [f, G, byO a b]).has n = both a b n := fun n => by
      rw [Bool.eq_iff_iff, hrow, has_range (by rfl)]
      rfl
     refine ⟨?_, .inr fun n => by rw [wish_has, hh]⟩
     unfold Ch.valid
     rw [Bool.and_eq_true, Bool.and_eq_true]
     refine ⟨⟨by rw [wish_L]; simp [inF, inG, inB], ?_⟩, wish_d x y ?_⟩
     · unfold Ch.form Ch.lo Ch.hi Ch.stp
       rw [wish_k, wish_L]
       simp
       omega
     · rw [hh]
       exact hf.1
theorem met_ok {a b : Ch} (va : a.valid = true) (vb : b.valid = true) {d : Ch} (h : Met a b (some d)) : d.valid = true ∧ (d.k = 2 ∧ d.L.length = 20 ∨ ∀ n, d.has n = (a.has n && b.has n)) := by
 unfold Met at h
 split at h
 · rename_i hl
   have hl : a.lsd = true ∨ b.lsd = true := by simpa using hl
   split at h
   · cases h
   · rename_i hne
     cases h
     obtain ⟨k1, k2, k3⟩ := keptL_form va vb hl
     refine ⟨lst_valid hne k1 k2 k3 _ _, .inr fun n => ?_⟩
     rw [lst_wish_has, List.contains_eq_mem, Bool.eq_iff_iff, decide_eq_true_eq, keptL_mem hl, Bool.and_eq_true]
 · rename_i hl
   have hl : a.lsd = false ∧ b.lsd = false := by simpa using hl
   obtain ⟨f, h1, h2⟩ := h
   cases f with
   | none => cases h2
   | some f =>
    cases h2
    exact metR_ok (valid_rg va hl.1).1 (valid_rg vb hl.2).1 h1 _ _
end Go.Proofs.YthcdnjbhhaonhaaGreatDoor
/- Layer 02: package format's sets of numbers. -/
namespace Go.Proofs.YthcdnjbhhaonhaaGreatDoor
open Go.RowKit
open Nat renaming reduceEqDiff → ZA, reduceAdd → ZB, reduceMul → ZC, reduceSub → ZD
open Int renaming reduceToNat → ZE, reduceEq → ZF, reduceLT → ZG, reduceLE → ZH, reduceNeg → ZI
open Go.Value renaming oneCell' → ZK, cells → ZJ
open Go.Proofs.Tryz renaming prog → ZP
set_option linter.unusedSimpArgs false
def chV (c : Ch) (s : Value) : Value := .agg #[.int .i64 c.k, .int .i64 c.d, s]
def spV (a b c : Int) (r ok : Bool) : Value := .agg #[.int .i64 a, .int .i64 b, .int .i64 c, .bool r, .bool ok]
def setV (c : Ch) (s : Value) : Value :=
 if (c.k = 1 ∧ c.L.length = 1) ∨ c.k = 2 then .iface 110 s
 else if c.k = 3 ∧ c.L.length = 2 then .iface 112 (spV c.lo c.hi 1 true true)
 else if c.k = 4 ∧ c.L.length = 3 then .iface 112 (spV c.lo c.hi (c.L.getD 2 0) false true)
 else .iface 112 (spV 0 0 0 false false)
theorem bv_sp (a b c : Int) (r ok : Bool) : buildV ZP 112 [(0, .int .i64 a), (1, .int .i64 b), (2, .int .i64 c), (3, .bool r), (4, .bool ok)] = some (spV a b c r ok) := by kernel_rfl
theorem bv_sp0 : buildV ZP 112 [] = some (spV 0 0 0 false false) := by kernel_rfl
theorem box_cell {w w' : World} {cs : Array Value} {t : TypeId} (h : Ext (w.alloc (.cells cs t)) w') {j : Nat} {v : Value} (hj : cs[j]? = some v) : w'.cell? ⟨w.heap.size, j, none⟩ = some v :=
 h.cell (by rw [World.cell?_alloc_new]; exact hj)
theorem numbers_c (c : Ch) (s : Value) (w : World) (hs : SlI w s c.L) : Rets ZP 66 #[chV c s] w fun r w' => r = setV c s ∧ Ext w w' := by
 obtain ⟨k, d, L⟩ := c
 obtain ⟨p, cap, rfl, hc1, hc2⟩ := hs.shape
 simp only at hs hc1 hc2
 have hx : Ext w (w.alloc (.cells #[.int .i64 k, .int .i64 d, .slice p L.length cap] 35)) := Ext.alloc _ _
 refine en66 ?_
 by_cases k1 : k = 1
 · subst k1
   by_cases l1 : L.length = 1
   · have e1 : (L.length : Int) = 1 := by omega
     simp -dsimp -implicitDefEqProofs only [chV,e1,m66,sF66,ZA,↓reduceIte,ZB,ZC,ZJ,ZK,ZE,ZF,ZG,ZH,ZI,reduceCtorEq,ZD,mwV,↓mwD,mwU]
     exact ⟨by simp [setV, l1], hx⟩
   · have e1 : ¬ (L.length : Int) = 1 := by omega
     simp -dsimp -implicitDefEqProofs only [chV,e1,bv_sp0,m66,sF66,ZA,↓reduceIte,ZB,ZC,ZJ,ZK,ZE,ZF,ZG,ZH,ZI,reduceCtorEq,ZD,mwV,↓mwD,mwU]
     exact ⟨by simp [setV, l1], hx⟩
 · by_cases k2 : k = 2
   · subst k2
     simp -dsimp -implicitDefEqProofs only [chV,m66,sF66,ZA,↓reduceIte,ZB,ZC,ZJ,ZK,ZE,ZF,ZG,ZH,ZI,reduceCtorEq,ZD,mwV,↓mwD,mwU]
     exact ⟨by simp [setV], hx⟩
   · by_cases k3 : k = 3
     · subst k3
       by_cases l2 : L.length = 2
       · obtain ⟨x, y, rfl⟩ : ∃ x y, L = [x, y] := by
          match L, l2 with
          | [x, y], _ => exact ⟨x, y, rfl⟩
         obtain ⟨b, o, cap', hv, _, _, hcell⟩ := hs.at (by simp)
         cases hv
         have q0 := cell_old (hcell 0 (by simp)) (.cells #[.int .i64 3, .int .i64 d, .slice (some ⟨b, o, none⟩) 2 cap] 35)
         have q1 := cell_old (hcell 1 (by simp)) (.cells #[.int .i64 3, .int .i64 d, .slice (some ⟨b, o, none⟩) 2 cap] 35)
         simp only [Nat.add_zero,List.getElem_cons_zero,List.getElem_cons_succ] at q0 q1
         simp -dsimp -implicitDefEqProofs only [chV,m66,sF66,ZA,↓reduceIte,ZB,ZC,ZJ,ZK,ZE,ZF,ZG,ZH,ZI,reduceCtorEq,ZD,mwV,↓mwD,mwU]
         refine mwpB_drawE ?_
         simp -dsimp -implicitDefEqProofs only [chV,q0,q1,bv_sp,m66,sF66,ZA,↓reduceIte,ZB,ZC,ZJ,ZK,ZE,ZF,ZG,ZH,ZI,reduceCtorEq,ZD,mwV,↓mwD,mwU]
         exact ⟨by simp [setV, Ch.lo, Ch.hi], hx.trans (Ext.drew _)⟩
       · have e1 : ¬ (L.length : Int) = 2 := by omega
         simp -dsimp -implicitDefEqProofs only [chV,e1,bv_sp0,m66,sF66,ZA,↓reduceIte,ZB,ZC,ZJ,ZK,ZE,ZF,ZG,ZH,ZI,reduceCtorEq,ZD,mwV,↓mwD,mwU]
         exact ⟨by simp [setV, l2], hx⟩
     · by_cases k4 : k = 4
       · subst k4
         by_cases l3 : L.length = 3
         · obtain ⟨x, y, z, rfl⟩ : ∃ x y z, L = [x, y, z] := by
            match L, l3 with
            | [x, y, z], _ => exact ⟨x, y, z, rfl⟩
           obtain ⟨b, o, cap', hv, _, _, hcell⟩ := hs.at (by simp)
           cases hv
           have q0 := cell_old (hcell 0 (by simp)) (.cells #[.int .i64 4, .int .i64 d, .slice (some ⟨b, o, none⟩) 3 cap] 35)
           have q1 := cell_old (hcell 1 (by simp)) (.cells #[.int .i64 4, .int .i64 d, .slice (some ⟨b, o, none⟩) 3 cap] 35)
           have q2 := cell_old (hcell 2 (by simp)) (.cells #[.int .i64 4, .int .i64 d, .slice (some ⟨b, o, none⟩) 3 cap] 35)
           simp only [Nat.add_zero,List.getElem_cons_zero,List.getElem_cons_succ] at q0 q1 q2
           simp -dsimp -implicitDefEqProofs only [chV,m66,sF66,ZA,↓reduceIte,ZB,ZC,ZJ,ZK,ZE,ZF,ZG,ZH,ZI,reduceCtorEq,ZD,mwV,↓mwD,mwU]
           refine mwpB_drawE ?_
           simp -dsimp -implicitDefEqProofs only [chV,q0,q1,q2,bv_sp,m66,sF66,ZA,↓reduceIte,ZB,ZC,ZJ,ZK,ZE,ZF,ZG,ZH,ZI,reduceCtorEq,ZD,mwV,↓mwD,mwU]
           exact ⟨by simp [setV, Ch.lo, Ch.hi], hx.trans (Ext.drew _)⟩
         · have e1 : ¬ (L.length : Int) = 3 := by omega
           simp -dsimp -implicitDefEqProofs only [chV,e1,bv_sp0,m66,sF66,ZA,↓reduceIte,ZB,ZC,ZJ,ZK,ZE,ZF,ZG,ZH,ZI,reduceCtorEq,ZD,mwV,↓mwD,mwU]
           exact ⟨by simp [setV, l3], hx⟩
       · simp -dsimp -implicitDefEqProofs only [chV,k1,k2,k3,k4,bv_sp0,m66,sF66,ZA,↓reduceIte,ZB,ZC,ZJ,ZK,ZE,ZF,ZG,ZH,ZI,reduceCtorEq,ZD,mwV,↓mwD,mwU]
         exact ⟨by simp [setV, k1, k2, k3, k4], hx⟩
theorem form_c (c : Ch) (s : Value) (w : World) : Rets ZP 97 #[chV c s] w fun r w' => r = .int .i64 (if c.lsd then 0 else 1) ∧ Ext w w' := by
 refine en97 ?_
 by_cases k1 : c.k = 1
 · simp -dsimp -implicitDefEqProofs only [chV,k1,m97,sF97,ZA,↓reduceIte,ZB,ZC,ZJ,ZK,ZE,ZF,ZG,ZH,ZI,reduceCtorEq,ZD,mwV,↓mwD,mwU]
   exact ⟨by simp [Ch.lsd, k1], Ext.alloc _ _⟩
 · by_cases k2 : c.k = 2
   · simp -dsimp -implicitDefEqProofs only [chV,k1,k2,m97,sF97,ZA,↓reduceIte,ZB,ZC,ZJ,ZK,ZE,ZF,ZG,ZH,ZI,reduceCtorEq,ZD,mwV,↓mwD,mwU]
     exact ⟨by simp [Ch.lsd, k2], Ext.alloc _ _⟩
   · simp -dsimp -implicitDefEqProofs only [chV,k1,k2,m97,sF97,ZA,↓reduceIte,ZB,ZC,ZJ,ZK,ZE,ZF,ZG,ZH,ZI,reduceCtorEq,ZD,mwV,↓mwD,mwU]
     exact ⟨by simp [Ch.lsd, k1, k2], Ext.alloc _ _⟩
def stB (a b c n : Int) : Bool := decide (a ≤ n) && (decide (n ≤ b) && decide ((n - a) % c = 0))
theorem stepsHas_c (a b c n : Int) (r ok : Bool) (w : World) (ha : 0 ≤ a) (hb : b ≤ 1000000000) (hc : 1 ≤ c) : Rets ZP 108 #[spV a b c r ok, .int .i64 n] w fun v w' => v = .bool (stB a b c n) ∧ Ext w w' := by
 refine en108 ?_
 by_cases h1 : a ≤ n
 · by_cases h2 : n ≤ b
   · have hc0 : ¬ c = 0 := by omega
     have hw : IntKind.i64.wrap (n - a) = n - a := w64 (by omega) (by omega)
     have ht : (n - a).tmod c = (n - a) % c := Int.tmod_eq_emod_of_nonneg (by omega)
     simp -dsimp -implicitDefEqProofs only [spV,h1,h2,hc0,hw,ht,not_false_eq_true,m108,sF108,ZA,↓reduceIte,ZB,ZC,ZJ,ZK,ZE,ZF,ZG,ZH,ZI,reduceCtorEq,ZD,mwV,↓mwD,mwU]
     exact ⟨by simp [stB, h1, h2], Ext.alloc _ _⟩
   · simp -dsimp -implicitDefEqProofs only [spV,h1,h2,m108,sF108,ZA,↓reduceIte,ZB,ZC,ZJ,ZK,ZE,ZF,ZG,ZH,ZI,reduceCtorEq,ZD,mwV,↓mwD,mwU]
     exact ⟨by simp [stB, h1, h2], Ext.alloc _ _⟩
 · simp -dsimp -implicitDefEqProofs only [spV,h1,m108,sF108,ZA,↓reduceIte,ZB,ZC,ZJ,ZK,ZE,ZF,ZG,ZH,ZI,reduceCtorEq,ZD,mwV,↓mwD,mwU]
   exact ⟨by simp [stB, h1], Ext.alloc _ _⟩
def stR (a b c : Int) (ok : Bool) : Bool := ok && (decide (0 ≤ a) && (decide (a ≤ b) && (decide (b ≤ 1000000000) && (decide (1 ≤ c) && decide (c ≤ 1000)))))
theorem stepsRight_c (a b c : Int) (r ok : Bool) (w : World) : Rets ZP 232 #[spV a b c r ok] w fun v w' => v = .bool (stR a b c ok) ∧ Ext w w' := by
 refine en232 ?_
 cases ok
 · simp -dsimp -implicitDefEqProofs only [spV,m232,sF232,ZA,↓reduceIte,ZB,ZC,ZJ,ZK,ZE,ZF,ZG,ZH,ZI,reduceCtorEq,ZD,mwV,↓mwD,mwU]
   exact ⟨by simp [stR], Ext.alloc _ _⟩
 · by_cases h1 : 0 ≤ a
   · by_cases h2 : a ≤ b
     · by_cases h3 : b ≤ 1000000000
       · by_cases h4 : 1 ≤ c
         · simp -dsimp -implicitDefEqProofs only [spV,h1,h2,h3,h4,m232,sF232,ZA,↓reduceIte,ZB,ZC,ZJ,ZK,ZE,ZF,ZG,ZH,ZI,reduceCtorEq,ZD,mwV,↓mwD,mwU]
           exact ⟨by simp [stR, h1, h2, h3, h4], Ext.alloc _ _⟩
         · simp -dsimp -implicitDefEqProofs only [spV,h1,h2,h3,h4,m232,sF232,ZA,↓reduceIte,ZB,ZC,ZJ,ZK,ZE,ZF,ZG,ZH,ZI,reduceCtorEq,ZD,mwV,↓mwD,mwU]
           exact ⟨by simp [stR, h4], Ext.alloc _ _⟩
       · simp -dsimp -implicitDefEqProofs only [spV,h1,h2,h3,m232,sF232,ZA,↓reduceIte,ZB,ZC,ZJ,ZK,ZE,ZF,ZG,ZH,ZI,reduceCtorEq,ZD,mwV,↓mwD,mwU]
         exact ⟨by simp [stR, h3], Ext.alloc _ _⟩
     · simp -dsimp -implicitDefEqProofs only [spV,h1,h2,m232,sF232,ZA,↓reduceIte,ZB,ZC,ZJ,ZK,ZE,ZF,ZG,ZH,ZI,reduceCtorEq,ZD,mwV,↓mwD,mwU]
       exact ⟨by simp [stR, h2], Ext.alloc _ _⟩
   · simp -dsimp -implicitDefEqProofs only [spV,h1,m232,sF232,ZA,↓reduceIte,ZB,ZC,ZJ,ZK,ZE,ZF,ZG,ZH,ZI,reduceCtorEq,ZD,mwV,↓mwD,mwU]
     exact ⟨by simp [stR, h1], Ext.alloc _ _⟩
end Go.Proofs.YthcdnjbhhaonhaaGreatDoor
/- Layer 02: package format's lists of numbers. -/
namespace Go.Proofs.YthcdnjbhhaonhaaGreatDoor
open Go.RowKit
open Nat renaming reduceEqDiff → ZA, reduceAdd → ZB, reduceMul → ZC, reduceSub → ZD
open Int renaming reduceToNat → ZE, reduceEq → ZF, reduceLT → ZG, reduceLE → ZH, reduceNeg → ZI
open Go.Value renaming oneCell' → ZK, cells → ZJ
open Go.Proofs.Tryz renaming prog → ZP
set_option linter.unusedSimpArgs false
theorem w64_succ {k n : Nat} (h : k < n) (hn : n ≤ maxLen) : IntKind.i64.wrap ((k : Int) + 1) = ((k + 1 : Nat) : Int) := by
 unfold maxLen at hn
 rw [w64 (by omega) (by omega)]; omega
theorem contains_take_succ {xs : List Int} {k : Nat} (h : k < xs.length) (n : Int) : (xs.take (k + 1)).contains n = ((xs.take k).contains n || decide (n = xs[k])) := by
 rw [List.take_succ_eq_append_getElem h]
 simp only [List.contains_eq_mem,List.mem_append,List.mem_singleton,Bool.decide_or]
theorem IndexL_c (v : Value) (xs : List Int) (n : Int) (w : World) (h : SlI w v xs) :
 Rets ZP 231 #[v, .int .i64 n] w fun r w' => (∃ i : Int, r = .int .i64 i ∧ decide (0 ≤ i) = xs.contains n) ∧ w' = w := by
 obtain ⟨q, cap, rfl, hc1, hc2⟩ := h.shape
 refine en231 ?_
 simp -dsimp -implicitDefEqProofs only [m231,sF231,ZA,↓reduceIte,ZB,ZC,ZJ,ZK,ZE,ZF,ZG,ZH,ZI,reduceCtorEq,ZD,mwV,↓mwD,mwU]
 refine mwpB_loop (fun e ds w' => ∃ k : Nat, k ≤ xs.length ∧ e 8 = .int .i64 k ∧ e 7 = .int .i64 xs.length ∧ e 0 = .slice q xs.length cap ∧ e 1 = .int .i64 n ∧ ds = [] ∧ w' = w ∧ (xs.take k).contains n = false)
  (fun e _ => xs.length - (intOf (e 8)).toNat) ?_ ?_
 · simp -dsimp -implicitDefEqProofs only [m231,sF231,ZA,↓reduceIte,ZB,ZC,ZJ,ZK,ZE,ZF,ZG,ZH,ZI,reduceCtorEq,ZD,mwV,↓mwD,mwU]
   exact ⟨0, by omega, rfl, rfl⟩
 · rintro e ds w' ⟨k, hk, h8, h7, h0, h1, rfl, rfl, hp⟩
   simp -dsimp -implicitDefEqProofs only [h8,h7,h0,h1,m231,sF231,ZA,↓reduceIte,ZB,ZC,ZJ,ZK,ZE,ZF,ZG,ZH,ZI,reduceCtorEq,ZD,mwV,↓mwD,mwU]
   refine iteW_dec (fun hlt => ?_) (fun hge => ?_)
   · have hlt' : k < xs.length := by omega
     obtain ⟨b, o, cap', hv, _, _, hcell⟩ := h.at (by intro h0; rw [h0] at hlt'; simp at hlt')
     cases hv
     have hck := hcell k hlt'
     have hb1 : (0 : Int) ≤ k ∧ (k : Int) < xs.length := by omega
     have hw := w64_succ hlt' (Nat.le_trans hc1 hc2)
     have hs := contains_take_succ hlt' n
     simp -dsimp -implicitDefEqProofs only [h8,h7,h0,h1,hb1,and_self,hck,m231,sF231,ZA,↓reduceIte,ZB,ZC,ZJ,ZK,ZE,ZF,ZG,ZH,ZI,reduceCtorEq,ZD,mwV,↓mwD,mwU]
     by_cases he : n = xs[k]
     · simp -dsimp -implicitDefEqProofs only [h8,h7,h0,h1,he,m231,sF231,ZA,↓reduceIte,ZB,ZC,ZJ,ZK,ZE,ZF,ZG,ZH,ZI,reduceCtorEq,ZD,mwV,↓mwD,mwU]
       refine ⟨_, rfl, ?_⟩
       have : xs.contains xs[k] = true := by rw [List.contains_eq_mem, decide_eq_true_eq]; exact List.getElem_mem hlt'
       rw [this]; simp
     · simp -dsimp -implicitDefEqProofs only [h8,h7,h0,h1,he,hw,m231,sF231,ZA,↓reduceIte,ZB,ZC,ZJ,ZK,ZE,ZF,ZG,ZH,ZI,reduceCtorEq,ZD,mwV,↓mwD,mwU]
       refine ⟨⟨k + 1, by omega, rfl, ?_⟩, ?_⟩
       · rw [hs, hp]; simp [he]
       · simp only [intOf]; omega
   · have hkl : k = xs.length := by omega
     subst hkl
     simp -dsimp -implicitDefEqProofs only [h8,h7,h0,h1,m231,sF231,ZA,↓reduceIte,ZB,ZC,ZJ,ZK,ZE,ZF,ZG,ZH,ZI,reduceCtorEq,ZD,mwV,↓mwD,mwU]
     refine ⟨_, rfl, ?_⟩
     rw [List.take_length] at hp
     rw [hp]; simp
theorem ContainsL_c (v : Value) (xs : List Int) (n : Int) (w : World) (h : SlI w v xs) : Rets ZP 230 #[v, .int .i64 n] w fun r w' => r = .bool (xs.contains n) ∧ w' = w := by
 refine en230 ?_
 simp -dsimp -implicitDefEqProofs only [m230,sF230,ZA,↓reduceIte,ZB,ZC,ZJ,ZK,ZE,ZF,ZG,ZH,ZI,reduceCtorEq,ZD,mwV,↓mwD,mwU]
 refine (IndexL_c v xs n w h).use ?_
 rintro r w' ⟨⟨i, rfl, hi⟩, rfl⟩
 simp -dsimp -implicitDefEqProofs only [m230,sF230,ZA,↓reduceIte,ZB,ZC,ZJ,ZK,ZE,ZF,ZG,ZH,ZI,reduceCtorEq,ZD,mwV,↓mwD,mwU]
 rw [hi]
theorem listHas_c (v : Value) (xs : List Int) (n : Int) (w : World) (h : SlI w v xs) : Rets ZP 227 #[v, .int .i64 n] w fun r w' => r = .bool (xs.contains n) ∧ w' = w := by
 refine en227 ?_
 simp -dsimp -implicitDefEqProofs only [m227,sF227,ZA,↓reduceIte,ZB,ZC,ZJ,ZK,ZE,ZF,ZG,ZH,ZI,reduceCtorEq,ZD,mwV,↓mwD,mwU]
 refine (ContainsL_c v xs n w h).use ?_
 rintro r w' ⟨rfl, rfl⟩
 simp -dsimp -implicitDefEqProofs only [m227,sF227,ZA,↓reduceIte,ZB,ZC,ZJ,ZK,ZE,ZF,ZG,ZH,ZI,reduceCtorEq,ZD,mwV,↓mwD,mwU]
structure MapB (w : World) (b : Nat) (xs : List Int) : Prop where
 ex : ∃ es ck, w.heap[b]? = some (.map es ck) ∧ es.toList.map (·.key) = ints xs ∧ ∀ e ∈ es.toList, e.val = .bool true
theorem find_met {n : Int} : ∀ {l : List MapEntry} {xs : List Int} {i : Nat}, l.map (·.key) = ints xs → (∀ e ∈ l, e.val = .bool true) →
 (xs.contains n = true → ∃ j, Instr.findNow (.int .i64) (.int .i64 n) l i = some (some (j, .bool true))) ∧ (xs.contains n = false → Instr.findNow (.int .i64) (.int .i64 n) l i = some none)
 | [], [], i, _, _ => ⟨fun h => by simp at h, fun _ => rfl⟩
 | e :: l, x :: xs, i, hk, hv => by
  simp only [List.map_cons,ints,List.cons.injEq] at hk
  have ih := find_met (n := n) (l := l) (xs := xs) (i := i + 1) hk.2 (fun e he => hv e (List.mem_cons_of_mem _ he))
  have hs : Instr.sameNow (.int .i64) (.int .i64 n) e.key = some (n == x) := by rw [hk.1]; rfl
  by_cases hx : n = x
  · subst hx
    refine ⟨fun _ => ⟨i, ?_⟩, fun h => by simp at h⟩
    simp [Instr.findNow, hs, hv e (List.mem_cons_self ..)]
  · have hb : (n == x) = false := by simpa using hx
    have hc : (x :: xs).contains n = xs.contains n := by simp only [List.contains_cons,hb,Bool.false_or]
    rw [hc]
    refine ⟨fun h => ?_, fun h => ?_⟩
    · obtain ⟨j, hj⟩ := ih.1 h
      exact ⟨j, by simp [Instr.findNow, hs, hb, hj]⟩
    · simp [Instr.findNow, hs, hb, ih.2 h]
 | [], _ :: _, _, hk, _ => by simp [ints] at hk
 | _ :: _, [], _, hk, _ => by simp [ints] at hk
theorem und_map : (ZP).underlying 202 = some (.map 3 4) := Tryz.underlying202
theorem look_met {w : World} {b : Nat} {xs : List Int} (h : MapB w b xs) (n : Int) : (Instr.lookup 202 (.map (some b)) (.int .i64 n) false).run ZP w = .ok (.bool (xs.contains n)) w := by
 obtain ⟨es, ck, ho, hk, hv⟩ := h.ex
 have hik : Go.MapKept.IsKey (.int .i64) (.int .i64 n) := rfl
 have hd : (ZP).underlying 3 = some (.int .i64) := Tryz.underlying3
 have hz : tzero ZP 4 = some (.bool false) := tzero_4
 have hf := find_met (n := n) (i := 0) hk hv
 cases hc : xs.contains n
 · simp [Instr.lookup, run_underlying und_map, Go.MapKept.run_getObj_map ho, Go.MapKept.run_checkKey hd hik, Go.MapKept.run_findKey hd (hf.2 hc), run_tzero hz, Result.andThen]
 · obtain ⟨j, hj⟩ := hf.1 hc
   simp [Instr.lookup, run_underlying und_map, Go.MapKept.run_getObj_map ho, Go.MapKept.run_checkKey hd hik, Go.MapKept.run_findKey hd hj, Result.andThen]
theorem upd_met {w : World} {b : Nat} {xs : List Int} (h : MapB w b xs) (n : Int) (hn : xs.contains n = false) : ∃ w', (Instr.mapUpdate 202 (.map (some b)) (.int .i64 n) (.bool true)).run ZP w = .ok () w' ∧ MapB w' b (xs ++ [n]) ∧ w'.os = w.os ∧ w'.tape = w.tape ∧ w'.output = w.output ∧ w'.heap.size = w.heap.size ∧ ∀ k, k ≠ b → w'.heap[k]? = w.heap[k]? := by
 obtain ⟨es, ck, ho, hk, hv⟩ := h.ex
 have hik : Go.MapKept.IsKey (.int .i64) (.int .i64 n) := rfl
 have hd : (ZP).underlying 3 = some (.int .i64) := Tryz.underlying3
 have hf := find_met (n := n) (i := 0) hk hv
 refine ⟨{ w with heap := w.heap.setIfInBounds b (.map (es.push { key := .int .i64 n, val := .bool true, born := ck }) (ck + 1)) }, ?_, ⟨_, _, (Go.MapKept.heap_set ho).1, ?_, ?_⟩, rfl, rfl, rfl, by simp, fun k hkb => (Go.MapKept.heap_set ho).2 k hkb⟩
 · simp [Instr.mapUpdate, run_underlying und_map, Go.MapKept.run_getObj_map ho, Go.MapKept.run_checkKey hd hik, Go.MapKept.run_findKey hd (hf.2 hn), Go.MapKept.run_setObj_map _ ho, Result.andThen]
 · simp [hk, ints]
 · intro e he
   simp only [Array.toList_push,List.mem_append,List.mem_singleton] at he
   rcases he with he | rfl
   · exact hv e he
   · rfl
theorem opB_lookup' {d : Option Tmp} {t ty : TypeId} {m k : Operand} {ok : Bool} {g : Option (Option Tmp × Bool)} {e : Env} {ds : List Deferred} {w : World} {KV : Value → List Deferred → World → Prop} {X : List PanicEntry → List Deferred → World → Prop} {tk : Tk2 KV X} {v : Value}
 (h : (Instr.lookup t (ev e m) (ev e k) ok).run ZP w = .ok v w) (hk : KV v ds w) : opB ZP ⟨d, .lookup t m k ok, ty, g⟩ e ds w KV X tk := by
 unfold opB
 simp only [opW,mexec,execOp,Sem.run_bind,h,Result.andThen_ok,Sem.run_pure,opR]
 exact hk
theorem opB_mapUpdate' {d : Option Tmp} {t ty : TypeId} {m k x : Operand} {g : Option (Option Tmp × Bool)} {e : Env} {ds : List Deferred} {w w' : World} {KV : Value → List Deferred → World → Prop} {X : List PanicEntry → List Deferred → World → Prop} {tk : Tk2 KV X}
 (h : (Instr.mapUpdate t (ev e m) (ev e k) (ev e x)).run ZP w = .ok () w') (hk : KV undef ds w') : opB ZP ⟨d, .mapUpdate t m k x, ty, g⟩ e ds w KV X tk := by
 unfold opB
 simp only [opW,mexec,execOp,Sem.run_bind,h,Result.andThen_ok,Sem.run_pure,opR]
 exact hk
theorem opB_makeMap' {d : Option Tmp} {t ty : TypeId} {g : Option (Option Tmp × Bool)} {e : Env} {ds : List Deferred} {w : World} {KV : Value → List Deferred → World → Prop} {X : List PanicEntry → List Deferred → World → Prop} {tk : Tk2 KV X}
 (hk : KV (.map (some w.heap.size)) ds (w.alloc (.map #[] 0))) : opB ZP ⟨d, .makeMap t none, ty, g⟩ e ds w KV X tk := by
 have h : (Instr.makeMap t none).run ZP w = .ok (.map (some w.heap.size)) (w.alloc (.map #[] 0)) := rfl
 unfold opB
 simp only [opW,mexec,execOp,Option.map_none,Sem.run_bind,h,Result.andThen_ok,Sem.run_pure,opR]
 exact hk
theorem dis_app {n : Int} : ∀ {xs : List Int}, dis (xs ++ [n]) = (dis xs && !xs.contains n)
 | [] => by simp [dis]
 | a :: l => by
  simp only [List.cons_append,dis,dis_app (xs := l)]
  by_cases h : n = a
  · subst h
    simp [List.contains_eq_mem]
  · have h' : ¬ a = n := fun e => h e.symm
    simp [List.contains_eq_mem, h, h', Bool.and_assoc]
def listR (xs : List Int) : Bool := xs.all inT && dis xs && (decide (1 ≤ xs.length) && decide (xs.length ≤ 20))
theorem listRight_c (v : Value) (xs : List Int) (w : World) (h : SlI w v xs) : Rets ZP 228 #[v] w fun r w' => r = .bool (listR xs) ∧ Ext w w' := by
 obtain ⟨q, cap, rfl, hc1, hc2⟩ := h.shape
 refine en228 ?_
 simp -dsimp -implicitDefEqProofs only [m228,sF228,ZA,↓reduceIte,ZB,ZC,ZJ,ZK,ZE,ZF,ZG,ZH,ZI,reduceCtorEq,ZD,mwV,↓mwD,mwU]
 refine opB_makeMap' ?_
 simp -dsimp -implicitDefEqProofs only [m228,sF228,ZA,↓reduceIte,ZB,ZC,ZJ,ZK,ZE,ZF,ZG,ZH,ZI,reduceCtorEq,ZD,mwV,↓mwD,mwU]
 have hsz : (w.alloc (.map #[] 0)).heap.size = w.heap.size + 1 := World.size_alloc _ _
 refine mwpB_loop (fun e ds w' => ∃ k : Nat, k ≤ xs.length ∧ e 9 = .int .i64 k ∧ e 8 = .int .i64 xs.length ∧ e 7 = .slice q xs.length cap ∧ e 0 = .slice q xs.length cap ∧ e 3 = .map (some w.heap.size) ∧ ds = [] ∧ Ext w w' ∧ MapB w' w.heap.size (xs.take k) ∧ (xs.take k).all inT = true ∧ dis (xs.take k) = true)
  (fun e _ => xs.length - (intOf (e 9)).toNat) ?_ ?_
 · simp -dsimp -implicitDefEqProofs only [m228,sF228,ZA,↓reduceIte,ZB,ZC,ZJ,ZK,ZE,ZF,ZG,ZH,ZI,reduceCtorEq,ZD,mwV,↓mwD,mwU]
   exact ⟨0, by omega, rfl, Ext.alloc _ _, ⟨#[], 0, heap_alloc_new w _, rfl, fun e he => by simp at he⟩, rfl, rfl⟩
 · rintro e ds w' ⟨k, hk, h9, h8, h7, h0, h3, rfl, hx, hm, hall, hdis⟩
   simp -dsimp -implicitDefEqProofs only [h9,h8,h7,h0,h3,m228,sF228,ZA,↓reduceIte,ZB,ZC,ZJ,ZK,ZE,ZF,ZG,ZH,ZI,reduceCtorEq,ZD,mwV,↓mwD,mwU]
   refine iteW_dec (fun hlt => ?_) (fun hge => ?_)
   · have hlt' : k < xs.length := by omega
     obtain ⟨b, o, cap', hv, _, _, hcell⟩ := h.at (by intro h0; rw [h0] at hlt'; simp at hlt')
     cases hv
     have hck := hx.cell (hcell k hlt')
     have hb1 : (0 : Int) ≤ k ∧ (k : Int) < xs.length := by omega
     have hw := w64_succ hlt' (Nat.le_trans hc1 hc2)
     have htk := List.take_succ_eq_append_getElem hlt'
     have hno : (xs.take k).contains xs[k] = true ∨ inT xs[k] = false → listR xs = false := fun hh => by
      have e1 : xs.take (k + 1) ++ xs.drop (k + 1) = xs := List.take_append_drop _ _
      rcases hh with hh | hh
      · have : dis (xs.take (k + 1)) = false := by rw [htk, dis_app, hh]; simp
        have h2 : dis xs = false := by
         cases hd : dis xs with
         | false => rfl
         | true =>
          have : ∀ (l m : List Int), dis (l ++ m) = true → dis l = true := fun l => by
           induction l with
           | nil => intro m _; rfl
           | cons a l ih =>
            intro m hl
            simp only [List.cons_append,dis,Bool.and_eq_true,Bool.not_eq_true'] at hl ⊢
            refine ⟨?_, ih m hl.2⟩
            have := hl.1
            simp only [List.contains_eq_mem,decide_eq_false_iff_not,List.mem_append,not_or] at this ⊢
            exact this.1
          have := this (xs.take (k + 1)) (xs.drop (k + 1)) (by rw [e1]; exact hd)
          simp_all
        simp [listR, h2]
      · have : xs.all inT = false := by
         cases ha : xs.all inT with
         | false => rfl
         | true => have := List.all_eq_true.1 ha xs[k] (List.getElem_mem hlt'); rw [this] at hh; cases hh
        simp [listR, this]
     simp -dsimp -implicitDefEqProofs only [h9,h8,h7,h0,h3,hb1,and_self,hck,m228,sF228,ZA,↓reduceIte,ZB,ZC,ZJ,ZK,ZE,ZF,ZG,ZH,ZI,reduceCtorEq,ZD,mwV,↓mwD,mwU]
     refine opB_lookup' (v := .bool ((xs.take k).contains xs[k])) ?_ ?_
     · simp -dsimp -implicitDefEqProofs only [h3,m228,sF228,ZA,↓reduceIte,ZB,ZC,ZJ,ZK,ZE,ZF,ZG,ZH,ZI,reduceCtorEq,ZD,mwV,↓mwD,mwU]
       exact look_met hm _
     · cases hc : (xs.take k).contains xs[k]
       · by_cases h1 : xs[k] < 0
         · simp -dsimp -implicitDefEqProofs only [h9,h8,h7,h0,h3,h1,m228,sF228,ZA,↓reduceIte,ZB,ZC,ZJ,ZK,ZE,ZF,ZG,ZH,ZI,reduceCtorEq,ZD,mwV,↓mwD,mwU]
           exact ⟨by rw [hno (.inr (by simp [inT]; omega))], hx⟩
         · by_cases h2 : 1000000000 < xs[k]
           · simp -dsimp -implicitDefEqProofs only [h9,h8,h7,h0,h3,h1,h2,m228,sF228,ZA,↓reduceIte,ZB,ZC,ZJ,ZK,ZE,ZF,ZG,ZH,ZI,reduceCtorEq,ZD,mwV,↓mwD,mwU]
             exact ⟨by rw [hno (.inr (by simp [inT]; omega))], hx⟩
           · simp -dsimp -implicitDefEqProofs only [h9,h8,h7,h0,h3,h1,h2,m228,sF228,ZA,↓reduceIte,ZB,ZC,ZJ,ZK,ZE,ZF,ZG,ZH,ZI,reduceCtorEq,ZD,mwV,↓mwD,mwU]
             obtain ⟨w2, u1, u2, u3, u4, u5, u6, u7⟩ := upd_met hm xs[k] hc
             refine opB_mapUpdate' (w' := w2) ?_ ?_
             · simp -dsimp -implicitDefEqProofs only [h3,m228,sF228,ZA,↓reduceIte,ZB,ZC,ZJ,ZK,ZE,ZF,ZG,ZH,ZI,reduceCtorEq,ZD,mwV,↓mwD,mwU]
               exact u1
             · simp -dsimp -implicitDefEqProofs only [h9,h8,h7,h0,h3,hw,m228,sF228,ZA,↓reduceIte,ZB,ZC,ZJ,ZK,ZE,ZF,ZG,ZH,ZI,reduceCtorEq,ZD,mwV,↓mwD,mwU]
               refine ⟨⟨k + 1, by omega, rfl, ?_, ?_, ?_, ?_⟩, ?_⟩
               · exact Below.trans hx ⟨u3, u4, u5, by omega, fun k hk => u7 k (by omega)⟩
               · rw [htk]; exact u2
               · rw [htk, List.all_append, hall]; simp [inT]; omega
               · rw [htk, dis_app, hdis, hc]; rfl
               · simp only [intOf]; omega
       · simp -dsimp -implicitDefEqProofs only [h9,h8,h7,h0,h3,m228,sF228,ZA,↓reduceIte,ZB,ZC,ZJ,ZK,ZE,ZF,ZG,ZH,ZI,reduceCtorEq,ZD,mwV,↓mwD,mwU]
         exact ⟨by rw [hno (.inl hc)], hx⟩
   · have hkl : k = xs.length := by omega
     subst hkl
     rw [List.take_length] at hall hdis
     by_cases l1 : 1 ≤ xs.length
     · have l1' : (1 : Int) ≤ (xs.length : Int) := by omega
       simp -dsimp -implicitDefEqProofs only [h9,h8,h7,h0,h3,l1',m228,sF228,ZA,↓reduceIte,ZB,ZC,ZJ,ZK,ZE,ZF,ZG,ZH,ZI,reduceCtorEq,ZD,mwV,↓mwD,mwU]
       exact ⟨by simp [listR, hall, hdis, l1]; omega, hx⟩
     · have l1' : ¬ (1 : Int) ≤ (xs.length : Int) := by omega
       simp -dsimp -implicitDefEqProofs only [h9,h8,h7,h0,h3,l1',m228,sF228,ZA,↓reduceIte,ZB,ZC,ZJ,ZK,ZE,ZF,ZG,ZH,ZI,reduceCtorEq,ZD,mwV,↓mwD,mwU]
       exact ⟨by simp [listR, l1], hx⟩
end Go.Proofs.YthcdnjbhhaonhaaGreatDoor
/- Layer 02: package format's ValidChoice, Has, Numbers. -/
namespace Go.Proofs.YthcdnjbhhaonhaaGreatDoor
open Go.RowKit
open Nat renaming reduceEqDiff → ZA, reduceAdd → ZB, reduceMul → ZC, reduceSub → ZD
open Int renaming reduceToNat → ZE, reduceEq → ZF, reduceLT → ZG, reduceLE → ZH, reduceNeg → ZI
open Go.Value renaming oneCell' → ZK, cells → ZJ
open Go.Proofs.Tryz renaming prog → ZP
set_option linter.unusedSimpArgs false
def Fit (c : Ch) : Prop := ((c.k = 1 ∧ c.L.length = 1) ∨ c.k = 2) ∨ (Rg c ∧ (c.k = 3 ∧ c.L.length = 2 ∨ c.k = 4 ∧ c.L.length = 3))
theorem valid_fit {c : Ch} (h : c.valid = true) : Fit c := by
 cases hl : c.lsd
 · exact .inr (valid_rg h hl)
 · refine .inl ?_
   have hf : c.form = true := by unfold Ch.valid at h; simp only [Bool.and_eq_true] at h; exact h.1.2
   unfold Ch.lsd at hl
   unfold Ch.form at hf
   split at hf
   · rename_i hk; exact .inl ⟨hk, by simpa using hf⟩
   · rename_i hk; refine .inr ?_; simpa [hk] using hl
theorem inv_list (s : Value) : invV ZP "continuo/format.has" (.iface 110 s) = some (227, s) := by
 rw [invV_iface, show methB ZP 110 "continuo/format.has" = some 227 by kernel_rfl, Option.map_some]
theorem inv_steps (s : Value) : invV ZP "continuo/format.has" (.iface 112 s) = some (108, s) := by
 rw [invV_iface, show methB ZP 112 "continuo/format.has" = some 108 by kernel_rfl, Option.map_some]
theorem invR_list (s : Value) : invV ZP "continuo/format.right" (.iface 110 s) = some (228, s) := by
 rw [invV_iface, show methB ZP 110 "continuo/format.right" = some 228 by kernel_rfl, Option.map_some]
theorem invR_steps (s : Value) : invV ZP "continuo/format.right" (.iface 112 s) = some (232, s) := by
 rw [invV_iface, show methB ZP 112 "continuo/format.right" = some 232 by kernel_rfl, Option.map_some]
theorem has_list {c : Ch} (h : c.lsd = true) (n : Int) : c.has n = c.L.contains n := by unfold Ch.has; rw [if_pos h]
theorem lsd_of {c : Ch} (h : (c.k = 1 ∧ c.L.length = 1) ∨ c.k = 2) : c.lsd = true := by unfold Ch.lsd; rcases h with h | h <;> simp [h]
theorem nl_of {c : Ch} (h : c.lsd = false) : ¬ ((c.k = 1 ∧ c.L.length = 1) ∨ c.k = 2) := fun hh => by rw [lsd_of hh] at h; cases h
theorem setHas_c {c : Ch} {s : Value} {w : World} (hf : Fit c) (hs : SlI w s c.L) (n : Int) : ∃ f v, invV ZP "continuo/format.has" (setV c s) = some (f, v) ∧ okF ZP f = true ∧ Rets ZP f #[v, .int .i64 n] w fun r w' => r = .bool (c.has n) ∧ Ext w w' := by
 rcases hf with hf | ⟨hr, hk⟩
 · refine ⟨_, _, by rw [show setV c s = .iface 110 s by unfold setV; rw [if_pos hf]]; exact inv_list s, okF_227, (listHas_c s c.L n w hs).mono ?_⟩
   rintro r w' ⟨rfl, rfl⟩
   exact ⟨by rw [has_list (lsd_of hf)], Ext.refl _⟩
 · have hn := nl_of hr.nl
   have h0 := hr.l0
   have h2 := hr.l2
   have h3 := hr.s0
   rcases hk with ⟨hk, hl⟩ | ⟨hk, hl⟩
   · refine ⟨_, _, by rw [show setV c s = .iface 112 (spV c.lo c.hi 1 true true) by unfold setV; rw [if_neg hn, if_pos ⟨hk, hl⟩]]; exact inv_steps _, okF_108, (stepsHas_c c.lo c.hi 1 n true true w h0 h2 (by omega)).mono ?_⟩
     rintro r w' ⟨rfl, hx⟩
     refine ⟨?_, hx⟩
     unfold Ch.has stB
     rw [hr.nl, show c.stp = 1 by unfold Ch.stp; rw [if_neg (by omega)]]
     simp
   · have e : c.L.getD 2 0 = c.stp := by unfold Ch.stp; rw [if_pos hk]
     refine ⟨_, _, by rw [show setV c s = .iface 112 (spV c.lo c.hi (c.L.getD 2 0) false true) by unfold setV; rw [if_neg hn, if_neg (by omega), if_pos ⟨hk, hl⟩]]; exact inv_steps _, okF_108, (stepsHas_c c.lo c.hi _ n false true w h0 h2 (by omega)).mono ?_⟩
     rintro r w' ⟨rfl, hx⟩
     refine ⟨?_, hx⟩
     unfold Ch.has stB
     rw [hr.nl, e]
     simp
def rightB (c : Ch) : Bool := if (c.k = 1 ∧ c.L.length = 1) ∨ c.k = 2 then listR c.L else if c.k = 3 ∧ c.L.length = 2 then stR c.lo c.hi 1 true else if c.k = 4 ∧ c.L.length = 3 then stR c.lo c.hi (c.L.getD 2 0) true else false
theorem setRight_c {c : Ch} {s : Value} {w : World} (hs : SlI w s c.L) : ∃ f v, invV ZP "continuo/format.right" (setV c s) = some (f, v) ∧ okF ZP f = true ∧ Rets ZP f #[v] w fun r w' => r = .bool (rightB c) ∧ Ext w w' := by
 unfold setV rightB
 split
 · exact ⟨_, _, invR_list s, okF_228, listRight_c s c.L w hs⟩
 · split
   · exact ⟨_, _, invR_steps _, okF_232, stepsRight_c _ _ _ _ _ w⟩
   · split
     · exact ⟨_, _, invR_steps _, okF_232, stepsRight_c _ _ _ _ _ w⟩
     · exact ⟨_, _, invR_steps _, okF_232, stepsRight_c 0 0 0 false false w⟩
theorem inT_iff {n : Int} : inT n = true ↔ 0 ≤ n ∧ n ≤ 1000000000 := by simp [inT]
theorem right_fit {c : Ch} (h : rightB c = true) : Fit c := by
 unfold rightB at h
 split at h
 · rename_i hk; exact .inl hk
 · rename_i hn
   have hl : ∀ {x}, c.k = x → x ≠ 1 → x ≠ 2 → c.lsd = false := fun {x} e h1 h2 => by unfold Ch.lsd; simp [e, h1, h2]
   split at h
   · rename_i hk
     simp only [stR,Bool.true_and,Bool.and_eq_true,decide_eq_true_eq] at h
     have e : c.stp = 1 := by unfold Ch.stp; rw [if_neg (by omega)]
     exact .inr ⟨⟨hl hk.1 (by decide) (by decide), h.1, h.2.1, h.2.2.1, by omega, by omega⟩, .inl hk⟩
   · split at h
     · rename_i hk
       simp only [stR,Bool.true_and,Bool.and_eq_true,decide_eq_true_eq] at h
       have e : c.L.getD 2 0 = c.stp := by unfold Ch.stp; rw [if_pos hk.1]
       exact .inr ⟨⟨hl hk.1 (by decide) (by decide), h.1, h.2.1, h.2.2.1, by omega, by omega⟩, .inr hk⟩
     · cases h
theorem valid_right (c : Ch) : c.valid = (rightB c && c.has c.d) := by
 unfold Ch.valid
 congr 1
 obtain ⟨k, d, L⟩ := c
 unfold Ch.form rightB
 simp only
 by_cases k1 : k = 1
 · subst k1
   rw [if_pos rfl]
   by_cases l1 : L.length = 1
   · rw [if_pos (.inl ⟨rfl, l1⟩)]
     obtain ⟨x, rfl⟩ := List.length_eq_one_iff.1 l1
     simp [listR, dis]
   · rw [if_neg (by simp [l1]), if_neg (by simp), if_neg (by simp)]
     simp [l1]
 · rw [if_neg k1]
   by_cases k2 : k = 2
   · subst k2
     rw [if_pos rfl, if_pos (.inr rfl)]
     unfold listR
     cases L.all inT <;> cases dis L <;> simp
   · have e1 : ¬ ((k = 1 ∧ L.length = 1) ∨ k = 2) := by simp [k1, k2]
     rw [if_neg k2, if_neg e1]
     by_cases k3 : k = 3
     · by_cases l2 : L.length = 2
       · rw [if_pos k3, if_pos (show k = 3 ∧ L.length = 2 from ⟨k3, l2⟩)]
         match L, l2 with
         | [x, y], _ =>
          rw [Bool.eq_iff_iff]
          simp [stR, Ch.lo, Ch.hi, inT_iff]
          omega
       · rw [if_pos k3, if_neg (show ¬ (k = 3 ∧ L.length = 2) from fun h => l2 h.2), if_neg (show ¬ (k = 4 ∧ L.length = 3) from fun h => by omega)]
         simp [l2]
     · rw [if_neg k3, if_neg (show ¬ (k = 3 ∧ L.length = 2) from fun h => k3 h.1)]
       by_cases k4 : k = 4
       · by_cases l3 : L.length = 3
         · rw [if_pos k4, if_pos (show k = 4 ∧ L.length = 3 from ⟨k4, l3⟩)]
           match L, l3 with
           | [x, y, z], _ =>
            rw [Bool.eq_iff_iff]
            simp [stR, Ch.lo, Ch.hi, Ch.stp, inT_iff, k4]
            omega
         · rw [if_pos k4, if_neg (show ¬ (k = 4 ∧ L.length = 3) from fun h => l3 h.2)]
           simp [l3]
       · rw [if_neg k4, if_neg (show ¬ (k = 4 ∧ L.length = 3) from fun h => k4 h.1)]
         simp
theorem ValidChoice_c (c : Ch) (s : Value) (w : World) (hs : SlI w s c.L) : Rets ZP 20 #[chV c s] w fun r w' => r = .bool c.valid ∧ Ext w w' := by
 have hx : Ext w (w.alloc (.cells #[.int .i64 c.k, .int .i64 c.d, s] 35)) := Ext.alloc _ _
 refine en20 ?_
 obtain ⟨p, cap, rfl, _, _⟩ := hs.shape
 simp -dsimp -implicitDefEqProofs only [chV,m20,sF20,ZA,↓reduceIte,ZB,ZC,ZJ,ZK,ZE,ZF,ZG,ZH,ZI,reduceCtorEq,ZD,mwV,↓mwD,mwU]
 refine (numbers_c c _ _ (hs.ext hx)).use ?_
 rintro r w1 ⟨rfl, h1⟩
 obtain ⟨f, v, i1, i2, i3⟩ := setRight_c (w := w1) ((hs.ext hx).ext h1)
 simp -dsimp -implicitDefEqProofs only [chV,i1,i2,m20,sF20,ZA,↓reduceIte,ZB,ZC,ZJ,ZK,ZE,ZF,ZG,ZH,ZI,reduceCtorEq,ZD,mwV,↓mwD,mwU]
 refine i3.use ?_
 rintro r w2 ⟨rfl, h2⟩
 have hx2 := (hx.trans h1).trans h2
 rw [valid_right]
 cases hr : rightB c
 · simp -dsimp -implicitDefEqProofs only [m20,sF20,ZA,↓reduceIte,ZB,ZC,ZJ,ZK,ZE,ZF,ZG,ZH,ZI,reduceCtorEq,ZD,mwV,↓mwD,mwU]
   exact ⟨rfl, hx2⟩
 · have bc := box_cell (h1.trans h2) (j := 1) rfl
   obtain ⟨g, u, j1, j2, j3⟩ := setHas_c (w := w2) (right_fit hr) (hs.ext hx2) c.d
   simp -dsimp -implicitDefEqProofs only [j1,j2,bc,m20,sF20,ZA,↓reduceIte,ZB,ZC,ZJ,ZK,ZE,ZF,ZG,ZH,ZI,reduceCtorEq,ZD,mwV,↓mwD,mwU]
   refine j3.use ?_
   rintro r w3 ⟨rfl, h3⟩
   simp -dsimp -implicitDefEqProofs only [m20,sF20,ZA,↓reduceIte,ZB,ZC,ZJ,ZK,ZE,ZF,ZG,ZH,ZI,reduceCtorEq,ZD,mwV,↓mwD,mwU]
   exact ⟨rfl, hx2.trans h3⟩
end Go.Proofs.YthcdnjbhhaonhaaGreatDoor
/- Layer 02: package format's Has, Numbers. -/
namespace Go.Proofs.YthcdnjbhhaonhaaGreatDoor
open Go.RowKit
open Nat renaming reduceEqDiff → ZA, reduceAdd → ZB, reduceMul → ZC, reduceSub → ZD
open Int renaming reduceToNat → ZE, reduceEq → ZF, reduceLT → ZG, reduceLE → ZH, reduceNeg → ZI
open Go.Value renaming oneCell' → ZK, cells → ZJ
open Go.Proofs.Tryz renaming prog → ZP
set_option linter.unusedSimpArgs false
theorem bs_one (x : Int) : buildS ZP 33 1 [(0, .int .i64 x)] = some (3, #[.int .i64 x]) := by kernel_rfl
theorem append_int {w : World} {base : Nat} {v : Value} {n : Nat} {xs : List Int} (hown : w.ownsRow base 3 1 v n (ints xs)) (y : Int) (hn : n ≤ 1099511627776) (hb : base ≤ w.heap.size) :
 ∃ v' w', (Builtin.append_ #[33, 33] 33 #[v, .slice (some ⟨w.heap.size, 0, none⟩) 1 1]).run ZP (w.alloc (.cells #[.int .i64 y] 3)) = .ok v' w' ∧ w'.ownsRow base 3 1 v' (n + 1) (ints (xs ++ [y])) ∧ (w.alloc (.cells #[.int .i64 y] 3)).grownBy w' v.ownBlock := by
 obtain ⟨v', w', ha, hown', hg⟩ := append_own (P := ZP) (w := w.alloc (.cells #[.int .i64 y] 3)) (t := 33) (ty := 33) (z := .int .i64 0) (ats := [33, 33]) rfl telem_33 tok_3 tzero_3 (by rw [tsz_3]; rfl) (by rw [tsz_3]; omega)
  (by rw [tsz_3]; exact Own.ext hown (Ext.alloc _ _)) (a := ⟨w.heap.size, 0, none⟩) (m := 1) (c := 1) (news := [.int .i64 y]) (by rw [tsz_3]; rfl)
  (fun j u hj => by rw [Addr.add_lit, World.cell?_alloc_new]; simpa using hj) (fun u hu => by simp at hu; subst hu; rfl) (by unfold maxLen; omega) (by rw [tby_3]; omega) (by simp; omega)
 exact ⟨v', w', ha, by rw [tsz_3] at hown'; simpa [ints] using hown', hg⟩
theorem own_shape {w : World} {base n : Nat} {v : Value} {xs : List Int} (h : w.ownsRow base 3 1 v n (ints xs)) : n = xs.length ∧ ∃ q cap, v = .slice q xs.length cap := by
 have hn : (ints xs).length = n * 1 := h.1
 rw [ints_length] at hn
 have hs : SlI w v xs := Own.sl h
 obtain ⟨q, cap, h1, _⟩ := hs.shape
 exact ⟨by omega, q, cap, h1⟩
theorem append_ext {w0 w w' : World} {v : Value} {n : Nat} {e : TypeId} {cs : List Value} {y : Array Value} {t : TypeId} (hx : Ext w0 w) (hown : w.ownsRow w0.heap.size e 1 v n cs) (hg : (w.alloc (.cells y t)).grownBy w' v.ownBlock) : Ext w0 w' :=
 (hx.trans (Ext.alloc _ _)).grown hg (fun k hk => Own.ge hown k hk)
theorem stepsFirst_c (a b c : Int) (r ok : Bool) (m : Nat) (w : World) (ha : 0 ≤ a) (hb : b ≤ 1000000000) (hc : 1 ≤ c) (hc2 : c ≤ 1000000) (ha2 : a ≤ 1000000000) (hm : m ≤ 1000) :
 Rets ZP 106 #[spV a b c r ok, .int .i64 m] w fun v w' => Ext w w' ∧ w'.ownsRow w.heap.size 3 1 v (rng b c m a).length (ints (rng b c m a)) := by
 have hx0 : Ext w (w.alloc (.cells #[.int .i64 a, .int .i64 b, .int .i64 c, .bool r, .bool ok] 112)) := Ext.alloc _ _
 have hsz : (w.alloc (.cells #[.int .i64 a, .int .i64 b, .int .i64 c, .bool r, .bool ok] 112)).heap.size = w.heap.size + 1 := World.size_alloc _ _
 refine en106 ?_
 simp -dsimp -implicitDefEqProofs only [spV,m106,sF106,ZA,↓reduceIte,ZB,ZC,ZJ,ZK,ZE,ZF,ZG,ZH,ZI,reduceCtorEq,ZD,mwV,↓mwD,mwU]
 generalize hw1 : w.alloc (.cells #[.int .i64 a, .int .i64 b, .int .i64 c, .bool r, .bool ok] 112) = w1 at *
 have hbox : ∀ {w' : World}, Ext w1 w' → w'.cell? ⟨w.heap.size, 1, none⟩ = some (.int .i64 b) ∧ w'.cell? ⟨w.heap.size, 2, none⟩ = some (.int .i64 c) := fun hx => by
  rw [← hw1] at hx
  exact ⟨box_cell (v := .int .i64 b) hx (j := 1) rfl, box_cell (v := .int .i64 c) hx (j := 2) rfl⟩
 have fin : ∀ {w' : World} {v : Value} {xs : List Int}, rng b c m a = xs → Ext w1 w' → w'.ownsRow w1.heap.size 3 1 v xs.length (ints xs) → Ext w w' ∧ w'.ownsRow w.heap.size 3 1 v (rng b c m a).length (ints (rng b c m a)) := fun he hx hown => by
  rw [he]
  exact ⟨hx0.trans hx, Own.mono hown (by omega)⟩
 refine mwpB_loop (fun e ds w' => ∃ (n : Int) (xs : List Int), e 6 = .int .i64 n ∧ e 1 = .int .i64 m ∧ e 2 = .pointer (some ⟨w.heap.size, 0, none⟩) ∧ ds = [] ∧ a ≤ n ∧ n ≤ 1000000000 + 1000000 ∧ xs.length ≤ m ∧ rng b c m a = xs ++ rng b c (m - xs.length) n ∧
  Ext w1 w' ∧ w'.ownsRow w1.heap.size 3 1 (e 5) xs.length (ints xs)) (fun e _ => (b + 1 - intOf (e 6)).toNat) ?_ ?_
 · have q0 : w1.cell? ⟨w.heap.size, 0, none⟩ = some (.int .i64 a) := by rw [← hw1]; exact box_cell (v := .int .i64 a) (Ext.refl _) (j := 0) rfl
   simp -dsimp -implicitDefEqProofs only [q0,m106,sF106,ZA,↓reduceIte,ZB,ZC,ZJ,ZK,ZE,ZF,ZG,ZH,ZI,reduceCtorEq,ZD,mwV,↓mwD,mwU]
   exact ⟨a, [], rfl, Int.le_refl _, by omega, by simp, by simp, Ext.refl _, World.ownsRow_nil _ _ _ _⟩
 · rintro e ds w' ⟨n, xs, h6, h1, h2, rfl, hn, hn2, hlen, hr, hx, hown⟩
   obtain ⟨b1, b2⟩ := hbox hx
   obtain ⟨_, q, cap, h5⟩ := own_shape hown
   rw [h5] at hown
   by_cases hnb : n ≤ b
   · by_cases hl : xs.length < m
     · have hl' : (xs.length : Int) < (m : Int) := by omega
       have hw : IntKind.i64.wrap (n + c) = n + c := w64 (by omega) (by omega)
       simp -dsimp -implicitDefEqProofs only [h6,h1,h2,h5,b1,hnb,hl',bs_one,m106,sF106,ZA,↓reduceIte,ZB,ZC,ZJ,ZK,ZE,ZF,ZG,ZH,ZI,reduceCtorEq,ZD,mwV,↓mwD,mwU]
       obtain ⟨v2, w2, ha2, hown2, hg2⟩ := append_int hown n (by omega) hx.size
       refine appB.mk ha2 ?_
       have hx2 := append_ext hx hown hg2
       obtain ⟨c1, c2⟩ := hbox hx2
       simp -dsimp -implicitDefEqProofs only [h6,h1,h2,c2,hw,m106,sF106,ZA,↓reduceIte,ZB,ZC,ZJ,ZK,ZE,ZF,ZG,ZH,ZI,reduceCtorEq,ZD,mwV,↓mwD,mwU]
       refine ⟨⟨n + c, xs ++ [n], rfl, by omega, by omega, by simp; omega, ?_, hx2, by simpa using hown2⟩, ?_⟩
       · have e1 : m - xs.length = (m - (xs ++ [n]).length) + 1 := by simp; omega
         rw [hr, e1, rng, if_pos hnb, List.append_assoc, List.singleton_append]
       · simp only [intOf]; omega
     · have hl' : ¬ (xs.length : Int) < (m : Int) := by omega
       simp -dsimp -implicitDefEqProofs only [h6,h1,h2,h5,b1,hnb,hl',m106,sF106,ZA,↓reduceIte,ZB,ZC,ZJ,ZK,ZE,ZF,ZG,ZH,ZI,reduceCtorEq,ZD,mwV,↓mwD,mwU]
       exact fin (by rw [hr, show m - xs.length = 0 by omega]; simp [rng]) hx hown
   · simp -dsimp -implicitDefEqProofs only [h6,h1,h2,h5,b1,hnb,m106,sF106,ZA,↓reduceIte,ZB,ZC,ZJ,ZK,ZE,ZF,ZG,ZH,ZI,reduceCtorEq,ZD,mwV,↓mwD,mwU]
     refine fin ?_ hx hown
     rw [hr]
     cases m - xs.length with
     | zero => simp [rng]
     | succ k => rw [rng, if_neg hnb]; simp
end Go.Proofs.YthcdnjbhhaonhaaGreatDoor
/- Layer 02: package format's Numbers. -/
namespace Go.Proofs.YthcdnjbhhaonhaaGreatDoor
open Go.RowKit
open Nat renaming reduceEqDiff → ZA, reduceAdd → ZB, reduceMul → ZC, reduceSub → ZD
open Int renaming reduceToNat → ZE, reduceEq → ZF, reduceLT → ZG, reduceLE → ZH, reduceNeg → ZI
open Go.Value renaming oneCell' → ZK, cells → ZJ
open Go.Proofs.Tryz renaming prog → ZP
set_option linter.unusedSimpArgs false
theorem SlI.take {w : World} {q : Option Addr} {xs : List Int} {cap : Nat} (h : SlI w (.slice q xs.length cap) xs) (k : Nat) (hk : k ≤ xs.length) : SlI w (.slice q k cap) (xs.take k) := by
 have hl : (ints (xs.take k)).length = k := by rw [ints_length, List.length_take]; omega
 rcases h with ⟨p, c2, h1, hc, h2, h00⟩ | ⟨b, o, c2, h1, h2, h3, h4⟩
 · obtain rfl : xs = [] := by simpa [ints] using h2
   cases h1
   obtain rfl : k = 0 := by simpa using hk
   exact SlI.empty w _ hc h00
 · simp only [Value.slice.injEq,ints_length] at h1 h2
   obtain ⟨rfl, _, rfl⟩ := h1
   refine .inr ⟨b, o, cap, by rw [hl], by omega, h3, fun j u hj => h4 j u ?_⟩
   simp only [ints,List.map_take,List.getElem?_take] at hj
   split at hj
   · simpa [ints] using hj
   · cases hj
theorem first_range {c : Ch} (h : c.lsd = false) (m : Nat) : c.first m = rng c.hi c.stp m c.lo := by unfold Ch.first; rw [h]; rfl
theorem valid_len {c : Ch} (h : c.valid = true) : c.L.length ≤ 20 := by
 cases hl : c.lsd
 · have := (valid_rg h hl).2; omega
 · exact (valid_list h hl).2.1
end Go.Proofs.YthcdnjbhhaonhaaGreatDoor
/- Layer 02 in plain Lean: numbers that two ranges have in common. -/
namespace Go.Proofs.YthcdnjbhhaonhaaGreatDoor
theorem lcm_div (m n : Nat) : m / Nat.gcd m n * n = Nat.lcm m n := by
 obtain ⟨k, hk⟩ := Nat.gcd_dvd_left m n
 by_cases h0 : Nat.gcd m n = 0
 · have := Nat.eq_zero_of_gcd_eq_zero_left h0
   subst this
   simp
 · have hp : 0 < Nat.gcd m n := Nat.pos_of_ne_zero h0
   have e1 : m / Nat.gcd m n = k := by
    rw [Nat.div_eq_iff_eq_mul_left hp (Nat.gcd_dvd_left m n), Nat.mul_comm]; exact hk
   have e2 : Nat.lcm m n = k * n := by
    unfold Nat.lcm
    rw [Nat.div_eq_iff_eq_mul_left hp (Nat.dvd_trans (Nat.gcd_dvd_left m n) (Nat.dvd_mul_right _ _))]
    conv => lhs; rw [hk]
    rw [Nat.mul_assoc, Nat.mul_comm]
   rw [e1, e2]
theorem first_ex {a b : Ch} (ha : Rg a) {n : Int} (hn : both a b n = true) : ∃ f, FirstIs a b (some f) ∧ f ≤ n := by
 have hlo : ∀ {n}, both a b n = true → 0 ≤ n := fun {n} h => by
  unfold both at h
  rw [Bool.and_eq_true] at h
  have := ((has_range ha.nl).1 h.1).1
  have := ha.l0
  omega
 have main : ∀ (k : Nat) (n : Int), n.toNat = k → both a b n = true → ∃ f, FirstIs a b (some f) ∧ f ≤ n := by
  intro k
  induction k using Nat.strongRecOn with
  | ind k ih =>
   intro n hk hb
   by_cases h : ∃ m, both a b m = true ∧ m < n
   · obtain ⟨m, h1, h2⟩ := h
     have := hlo h1
     have := hlo hb
     obtain ⟨f, g1, g2⟩ := ih m.toNat (by omega) m rfl h1
     exact ⟨f, g1, by omega⟩
   · refine ⟨n, ⟨hb, fun m hm => ?_⟩, Int.le_refl _⟩
     by_cases h2 : n ≤ m
     · exact h2
     · exact absurd ⟨m, hm, by omega⟩ h
 exact main n.toNat n rfl hn
theorem none_or {a b : Ch} (h : ∀ n, both a b n = true → False) : FirstIs a b none := fun n => by
 cases hb : both a b n with
 | false => rfl
 | true => exact (h n hb).elim
structure Stand (a b : Ch) (at' : Int) : Prop where
 dv : a.stp ∣ at' - a.lo
 low : max a.lo b.lo ≤ at'
 le : ∀ n, both a b n = true → at' ≤ n
theorem stand_start {a b : Ch} (ha : Rg a) (hb : Rg b) : Stand a b (a.lo + ((max a.lo b.lo - a.lo) + a.stp - 1) / a.stp * a.stp) ∧ a.lo + ((max a.lo b.lo - a.lo) + a.stp - 1) / a.stp * a.stp < max a.lo b.lo + a.stp := by
 have hs := ha.s0
 have e := Int.emod_add_mul_ediv ((max a.lo b.lo - a.lo) + a.stp - 1) a.stp
 have h1 := Int.emod_nonneg ((max a.lo b.lo - a.lo) + a.stp - 1) (show a.stp ≠ 0 by omega)
 have h2 := Int.emod_lt_of_pos ((max a.lo b.lo - a.lo) + a.stp - 1) (show 0 < a.stp by omega)
 rw [Int.mul_comm] at e
 generalize hq : ((max a.lo b.lo - a.lo) + a.stp - 1) / a.stp * a.stp = q at *
 have hd : a.stp ∣ q := by rw [← hq]; exact Int.dvd_mul_left _ _
 refine ⟨⟨by rw [show a.lo + q - a.lo = q by omega]; exact hd, by omega, fun n hn => ?_⟩, by omega⟩
 obtain ⟨⟨n1, n2, n3⟩, m1, _⟩ := (both_iff ha hb).1 hn
 -- n - lo is a multiple, at least as great as what is asked
 have hd2 := Int.dvd_sub n3 hd
 by_cases h : a.lo + q ≤ n
 · exact h
 · obtain ⟨k, hk⟩ := hd2
   have hk1 : k ≤ -1 := by
    by_cases hk0 : k ≤ -1
    · exact hk0
    · have : 0 ≤ a.stp * k := Int.mul_nonneg (by omega) (by omega)
      omega
   have : a.stp * k ≤ a.stp * (-1) := Int.mul_le_mul_of_nonneg_left hk1 (by omega)
   omega
theorem stand_both {a b : Ch} (ha : Rg a) (hb : Rg b) {at' : Int} (h : Stand a b at') (h1 : at' ≤ min a.hi b.hi) (h2 : b.has at' = true) : FirstIs a b (some at') := by
 have hl := h.low
 refine ⟨?_, h.le⟩
 unfold both
 rw [h2, (has_range ha.nl).2 ⟨by omega, by omega, h.dv⟩]
 rfl
theorem stand_next {a b : Ch} (ha : Rg a) (hb : Rg b) {at' : Int} (h : Stand a b at') (h2 : b.has at' = false) : Stand a b (at' + a.stp) := by
 have hs := ha.s0
 have hl := h.low
 refine ⟨?_, by omega, fun n hn => ?_⟩
 · have := Int.dvd_add h.dv (Int.dvd_refl a.stp)
   rw [show at' - a.lo + a.stp = at' + a.stp - a.lo by omega] at this
   exact this
 · have hle := h.le n hn
   obtain ⟨⟨_, _, n3⟩, _⟩ := (both_iff ha hb).1 hn
   have hne : n ≠ at' := fun e => by
    unfold both at hn
    rw [Bool.and_eq_true, e, h2] at hn
    exact absurd hn.2 (by simp)
   obtain ⟨k, hk⟩ := Int.dvd_sub n3 h.dv
   have hk1 : 1 ≤ k := by
    by_cases hk0 : 1 ≤ k
    · exact hk0
    · have : a.stp * k ≤ a.stp * 0 := Int.mul_le_mul_of_nonneg_left (by omega) (by omega)
      omega
   have : a.stp * 1 ≤ a.stp * k := Int.mul_le_mul_of_nonneg_left hk1 (by omega)
   omega
theorem by_le {a b : Ch} (ha : Rg a) (hb : Rg b) : byO a b ≤ a.stp * b.stp := by
 have h1 := ha.s0
 have h2 := hb.s0
 have e1 : ((a.stp.toNat : Nat) : Int) = a.stp := Int.toNat_of_nonneg (by omega)
 have e2 : ((b.stp.toNat : Nat) : Int) = b.stp := Int.toNat_of_nonneg (by omega)
 have hl : Nat.lcm a.stp.toNat b.stp.toNat ≤ a.stp.toNat * b.stp.toNat := Nat.le_of_dvd (Nat.mul_pos (by omega) (by omega)) (Nat.lcm_dvd (Nat.dvd_mul_right _ _) (Nat.dvd_mul_left _ _))
 unfold byO
 rw [← e1, ← e2, ← Int.natCast_mul]
 simp only [Int.toNat_natCast]
 omega
theorem stand_none {a b : Ch} (ha : Rg a) (hb : Rg b) {at' : Int} (h : Stand a b at') (he : min a.hi b.hi < at' ∨ (b.has at' = false ∧ max a.lo b.lo + b.stp * a.stp ≤ at')) : FirstIs a b none := none_or fun n hn => by
 obtain ⟨f, hf, hfn⟩ := first_ex ha hn
 obtain ⟨f1, f2, f3⟩ := first_lt ha hb hf
 have := h.le f hf.1
 have hb2 := by_le ha hb
 rw [Int.mul_comm] at hb2
 rcases he with he | ⟨_, he⟩ <;> omega
theorem by_eq (a b : Ch) : byO a b = ((a.stp.toNat / Nat.gcd a.stp.toNat b.stp.toNat * b.stp.toNat : Nat) : Int) := by rw [lcm_div]; rfl
end Go.Proofs.YthcdnjbhhaonhaaGreatDoor

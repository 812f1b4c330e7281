/- Layer 02 in plain Lean: formats, what is within what, and joins. -/
import Derived.Test.YthcdnjbhhaonhaaGreatDoorQgChSpecToChNum
import Derived.Test.YthcdnjbhhaonhaaGreatDoorQgChJ

namespace Go.Proofs.YthcdnjbhhaonhaaGreatDoor
structure Fl where
 key : Int
 c : Ch
structure Fm where
 m : Int
 F : List Fl
def fieldsB : Int → List Fl → Bool
 | _, [] => true
 | k, f :: l => decide (k < f.key) && (decide (f.key ≤ 6) && (f.c.valid && fieldsB f.key l))
def Fm.valid (f : Fm) : Bool := fieldsB 0 f.F && (decide (1 ≤ f.m) && decide (f.m ≤ 3))
def wiC (a b : Ch) : Prop := ∀ n, a.has n = true → b.has n = true
def wiL (A B : List Fl) : Prop := ∀ y ∈ B, ∃ x ∈ A, x.key = y.key ∧ wiC x.c y.c
def wiF (a b : Fm) : Prop := a.m = b.m ∧ wiL a.F b.F
theorem wiC.refl (a : Ch) : wiC a a := fun _ h => h
theorem wiC.trans {a b c : Ch} (h : wiC a b) (h' : wiC b c) : wiC a c := fun n hn => h' n (h n hn)
theorem wiF.trans {a b c : Fm} (h : wiF a b) (h' : wiF b c) : wiF a c := by
 refine ⟨h.1.trans h'.1, fun z hz => ?_⟩
 obtain ⟨y, hy, e1, w1⟩ := h'.2 z hz
 obtain ⟨x, hx, e2, w2⟩ := h.2 y hy
 exact ⟨x, hx, e2.trans e1, w2.trans w1⟩
theorem fieldsB_cons {k : Int} {f : Fl} {l : List Fl} : fieldsB k (f :: l) = true ↔ k < f.key ∧ f.key ≤ 6 ∧ f.c.valid = true ∧ fieldsB f.key l = true := by
 simp [fieldsB]
theorem fieldsB_mem : ∀ {l : List Fl} {k : Int}, fieldsB k l = true → ∀ f ∈ l, k < f.key ∧ f.key ≤ 6 ∧ f.c.valid = true
 | [], _, _, f, hf => by cases hf
 | g :: l, k, h, f, hf => by
  rw [fieldsB_cons] at h
  rcases List.mem_cons.1 hf with rfl | hf
  · exact ⟨h.1, h.2.1, h.2.2.1⟩
  · have := fieldsB_mem h.2.2.2 f hf
    exact ⟨by omega, this.2⟩
def pairs : List Fl → List Fl → List (Option Fl × Option Fl)
 | [], [] => []
 | x :: A, [] => (some x, none) :: pairs A []
 | [], y :: B => (none, some y) :: pairs [] B
 | x :: A, y :: B => if x.key = y.key then (some x, some y) :: pairs A B else if x.key < y.key then (some x, none) :: pairs A (y :: B) else (none, some y) :: pairs (x :: A) B
termination_by A B => A.length + B.length
def WiP (p : Option Fl × Option Fl) : Prop := ∀ y, p.2 = some y → ∃ x, p.1 = some x ∧ wiC x.c y.c
theorem wiL_nil (A : List Fl) : wiL A [] := fun _ h => by cases h
theorem wiP_left (x : Fl) : WiP (some x, none) := fun _ h => by cases h
theorem wiP_right (y : Fl) : ¬ WiP (none, some y) := fun h => by obtain ⟨_, h, _⟩ := h y rfl; cases h
theorem wiP_both (x y : Fl) : WiP (some x, some y) ↔ wiC x.c y.c := ⟨fun h => by obtain ⟨_, h, h'⟩ := h y rfl; cases h; exact h', fun h _ hy => by cases hy; exact ⟨x, rfl, h⟩⟩
theorem pairs_within : ∀ (A B : List Fl) (k k' : Int), fieldsB k A = true → fieldsB k' B = true → ((∀ p ∈ pairs A B, WiP p) ↔ wiL A B)
 | [], [], _, _, _, _ => by rw [pairs]; exact ⟨fun _ => wiL_nil _, fun _ p hp => by cases hp⟩
 | x :: A, [], _, k', hA, hB => by
  rw [pairs]
  have ih := pairs_within A [] _ k' (fieldsB_cons.1 hA).2.2.2 hB
  refine ⟨fun _ => wiL_nil _, fun _ p hp => ?_⟩
  rcases List.mem_cons.1 hp with rfl | hp
  · exact wiP_left x
  · exact ih.2 (wiL_nil _) p hp
 | [], y :: B, _, _, _, _ => by
  rw [pairs]
  refine ⟨fun h => absurd (h _ (List.mem_cons_self ..)) (wiP_right y), fun h => ?_⟩
  obtain ⟨x, hx, _⟩ := h y (List.mem_cons_self ..)
  cases hx
 | x :: A, y :: B, k, k', hA, hB => by
  have hA' := fieldsB_cons.1 hA
  have hB' := fieldsB_cons.1 hB
  rw [pairs]
  split
  · rename_i he
    have ih := pairs_within A B _ _ hA'.2.2.2 hB'.2.2.2
    simp only [List.mem_cons,forall_eq_or_imp,wiP_both,ih]
    constructor
    · rintro ⟨h1, h2⟩ z hz
      rcases List.mem_cons.1 hz with rfl | hz
      · exact ⟨x, List.mem_cons_self .., he, h1⟩
      · obtain ⟨u, hu, h3⟩ := h2 z hz
        exact ⟨u, List.mem_cons_of_mem _ hu, h3⟩
    · intro h
      refine ⟨?_, fun z hz => ?_⟩
      · obtain ⟨u, hu, h3, h4⟩ := h y (List.mem_cons_self ..)
        rcases List.mem_cons.1 hu with rfl | hu
        · exact h4
        · have := (fieldsB_mem hA'.2.2.2 u hu).1; omega
      · obtain ⟨u, hu, h3, h4⟩ := h z (List.mem_cons_of_mem _ hz)
        rcases List.mem_cons.1 hu with rfl | hu
        · have := (fieldsB_mem hB'.2.2.2 z hz).1; omega
        · exact ⟨u, hu, h3, h4⟩
  · rename_i hne
    split
    · rename_i hlt
      have ih := pairs_within A (y :: B) _ _ hA'.2.2.2 hB
      simp only [List.mem_cons,forall_eq_or_imp,ih]
      constructor
      · rintro ⟨_, h2⟩ z hz
        obtain ⟨u, hu, h3⟩ := h2 z hz
        exact ⟨u, List.mem_cons_of_mem _ hu, h3⟩
      · intro h
        refine ⟨wiP_left x, fun z hz => ?_⟩
        obtain ⟨u, hu, h3, h4⟩ := h z hz
        rcases List.mem_cons.1 hu with rfl | hu
        · rcases List.mem_cons.1 hz with rfl | hz
          · exact absurd h3 hne
          · have := (fieldsB_mem hB'.2.2.2 z hz).1; omega
        · exact ⟨u, hu, h3, h4⟩
    · refine ⟨fun h => absurd (h _ (List.mem_cons_self ..)) (wiP_right y), fun h => ?_⟩
      obtain ⟨u, hu, h3, h4⟩ := h y (List.mem_cons_self ..)
      rcases List.mem_cons.1 hu with rfl | hu
      · exact absurd h3 hne
      · have := (fieldsB_mem hA'.2.2.2 u hu).1; omega
termination_by A B => A.length + B.length
def JoinR : List (Option Fl × Option Fl) → Option (List Fl) → Prop
 | [], o => o = some []
 | (some x, none) :: R, o => ∃ o', JoinR R o' ∧ o = o'.map (x :: ·)
 | (none, some y) :: R, o => ∃ o', JoinR R o' ∧ o = o'.map (y :: ·)
 | (some x, some y) :: R, o => ∃ c, Met x.c y.c c ∧ match c with
  | none => o = none
  | some c => ∃ o', JoinR R o' ∧ o = o'.map (⟨x.key, c⟩ :: ·)
 | (none, none) :: _, _ => False
theorem JoinR.eq : ∀ {R : List (Option Fl × Option Fl)} {o o' : Option (List Fl)}, JoinR R o → JoinR R o' → o = o'
 | [], _, _, h, h' => by simp only [JoinR] at h h'; rw [h, h']
 | (some x, none) :: R, _, _, ⟨a, h1, h2⟩, ⟨b, g1, g2⟩ => by rw [h2, g2, h1.eq g1]
 | (none, some x) :: R, _, _, ⟨a, h1, h2⟩, ⟨b, g1, g2⟩ => by rw [h2, g2, h1.eq g1]
 | (some x, some y) :: R, _, _, ⟨a, h1, h2⟩, ⟨b, g1, g2⟩ => by
  have e := h1.eq g1
  subst e
  cases a with
  | none => simp only at h2 g2; rw [h2, g2]
  | some c =>
   obtain ⟨u, h3, h4⟩ := h2
   obtain ⟨v, g3, g4⟩ := g2
   rw [h4, g4, h3.eq g3]
 | (none, none) :: _, _, _, h, _ => h.elim
theorem met_sub {a b : Ch} (va : a.valid = true) (vb : b.valid = true) {d : Ch} (h : Met a b (some d)) {n : Int} (hn : d.has n = true) : a.has n = true ∧ b.has n = true := by
 rcases (met_ok va vb h).2 with hc | hc
 · unfold Met at h
   split at h
   · rename_i hl
     have hl : a.lsd = true ∨ b.lsd = true := by simpa using hl
     split at h
     · cases h
     · cases h
       rw [lst_wish_has, List.contains_eq_mem, decide_eq_true_eq] at hn
       exact (keptL_mem hl).1 hn
   · rename_i hl
     have hl : a.lsd = false ∧ b.lsd = false := by simpa using hl
     obtain ⟨f, h1, h2⟩ := h
     cases f with
     | none => cases h2
     | some f =>
      simp only [Option.map_some,Option.some.injEq] at h2
      subst h2
      have ha := (valid_rg va hl.1).1
      have hb := (valid_rg vb hl.2).1
      have hk := hc.1
      rw [wish_k] at hk
      rw [wish_has] at hn
      revert hk hn
      unfold metR
      split
      · intro hn _
        rw [lst_has, List.contains_eq_mem, decide_eq_true_eq] at hn
        have : both a b n = true := (both_seq ha hb h1).2 (by
         obtain ⟨i, hi, e⟩ := seqL_mem.1 hn
         exact seqL_mem.2 ⟨i, by omega, e⟩)
        unfold both at this
        simpa using this
      · split
        · intro _ hk; exact absurd hk (by simp)
        · intro _ hk; exact absurd hk (by simp)
 · rw [hc n, Bool.and_eq_true] at hn
   exact hn
theorem wiL_cons {x j : Fl} {A J : List Fl} (hk : j.key = x.key) (hw : wiC j.c x.c) (h : wiL J A) : wiL (j :: J) (x :: A) := fun y hy => by
 rcases List.mem_cons.1 hy with rfl | hy
 · exact ⟨j, List.mem_cons_self .., hk, hw⟩
 · obtain ⟨u, hu, h3⟩ := h y hy
   exact ⟨u, List.mem_cons_of_mem _ hu, h3⟩
theorem wiL_more {j : Fl} {A J : List Fl} (h : wiL J A) : wiL (j :: J) A := fun y hy => by
 obtain ⟨u, hu, h3⟩ := h y hy
 exact ⟨u, List.mem_cons_of_mem _ hu, h3⟩
theorem join_ok : ∀ (A B : List Fl) (k : Int) (J : List Fl), fieldsB k A = true → fieldsB k B = true → JoinR (pairs A B) (some J) → fieldsB k J = true ∧ wiL J A ∧ wiL J B
 | [], [], k, J, _, _, h => by
  rw [pairs] at h
  simp only [JoinR,Option.some.injEq] at h
  subst h
  exact ⟨rfl, wiL_nil _, wiL_nil _⟩
 | x :: A, [], k, J, hA, hB, h => by
  have hA' := fieldsB_cons.1 hA
  rw [pairs] at h
  obtain ⟨o, h1, h2⟩ := h
  cases o with
  | none => cases h2
  | some J' =>
   cases h2
   obtain ⟨i1, i2, i3⟩ := join_ok A [] x.key J' hA'.2.2.2 rfl h1
   exact ⟨fieldsB_cons.2 ⟨hA'.1, hA'.2.1, hA'.2.2.1, i1⟩, wiL_cons rfl (wiC.refl _) i2, wiL_more i3⟩
 | [], y :: B, k, J, hA, hB, h => by
  have hB' := fieldsB_cons.1 hB
  rw [pairs] at h
  obtain ⟨o, h1, h2⟩ := h
  cases o with
  | none => cases h2
  | some J' =>
   cases h2
   obtain ⟨i1, i2, i3⟩ := join_ok [] B y.key J' rfl hB'.2.2.2 h1
   exact ⟨fieldsB_cons.2 ⟨hB'.1, hB'.2.1, hB'.2.2.1, i1⟩, wiL_more i2, wiL_cons rfl (wiC.refl _) i3⟩
 | x :: A, y :: B, k, J, hA, hB, h => by
  have hA' := fieldsB_cons.1 hA
  have hB' := fieldsB_cons.1 hB
  rw [pairs] at h
  split at h
  · rename_i he
    obtain ⟨c, h0, h1⟩ := h
    cases c with
    | none => cases h1
    | some c =>
     obtain ⟨o, h1, h2⟩ := h1
     cases o with
     | none => cases h2
     | some J' =>
      cases h2
      obtain ⟨i1, i2, i3⟩ := join_ok A B x.key J' hA'.2.2.2 (by rw [he]; exact hB'.2.2.2) h1
      have hs := fun n => met_sub hA'.2.2.1 hB'.2.2.1 h0 (n := n)
      exact ⟨fieldsB_cons.2 ⟨hA'.1, hA'.2.1, (met_ok hA'.2.2.1 hB'.2.2.1 h0).1, i1⟩, wiL_cons rfl (fun n hn => (hs n hn).1) i2, wiL_cons he (fun n hn => (hs n hn).2) i3⟩
  · rename_i hne
    split at h
    · rename_i hlt
      obtain ⟨o, h1, h2⟩ := h
      cases o with
      | none => cases h2
      | some J' =>
       cases h2
       obtain ⟨i1, i2, i3⟩ := join_ok A (y :: B) x.key J' hA'.2.2.2 (fieldsB_cons.2 ⟨hlt, hB'.2⟩) h1
       exact ⟨fieldsB_cons.2 ⟨hA'.1, hA'.2.1, hA'.2.2.1, i1⟩, wiL_cons rfl (wiC.refl _) i2, wiL_more i3⟩
    · rename_i hge
      obtain ⟨o, h1, h2⟩ := h
      cases o with
      | none => cases h2
      | some J' =>
       cases h2
       obtain ⟨i1, i2, i3⟩ := join_ok (x :: A) B y.key J' (fieldsB_cons.2 ⟨by omega, hA'.2⟩) hB'.2.2.2 h1
       exact ⟨fieldsB_cons.2 ⟨hB'.1, hB'.2.1, hB'.2.2.1, i1⟩, wiL_more i2, wiL_cons rfl (wiC.refl _) i3⟩
termination_by A B => A.length + B.length
theorem dis_sub : ∀ {l m : List Int}, dis l = true → (∀ n ∈ l, n ∈ m) → l.length ≤ m.length
 | [], _, _, _ => by simp
 | a :: l, m, h, hs => by
  simp only [dis,Bool.and_eq_true,Bool.not_eq_true',List.contains_eq_mem,decide_eq_false_iff_not] at h
  have ha : a ∈ m := hs a (List.mem_cons_self ..)
  have ih := dis_sub (l := l) (m := m.erase a) h.2 fun n hn => (List.mem_erase_of_ne (fun e => h.1 (by rw [← e]; exact hn))).2 (hs n (List.mem_cons_of_mem _ hn))
  rw [List.length_erase_of_mem ha] at ih
  have : 0 < m.length := List.length_pos_of_mem ha
  simp only [List.length_cons]
  omega
theorem rng_mem {hi s : Int} (hs : 1 ≤ s) : ∀ (m : Nat) (f n : Int), n ∈ rng hi s m f → f ≤ n ∧ n ≤ hi ∧ s ∣ n - f
 | 0, f, n, h => by simp [rng] at h
 | m + 1, f, n, h => by
  rw [rng] at h
  split at h
  · rcases List.mem_cons.1 h with rfl | h
    · exact ⟨Int.le_refl _, by assumption, by simp⟩
    · obtain ⟨h1, h2, h3⟩ := rng_mem hs m (f + s) n h
      refine ⟨by omega, h2, ?_⟩
      have := Int.dvd_add h3 (Int.dvd_refl s)
      rw [show n - (f + s) + s = n - f by omega] at this
      exact this
  · cases h
theorem rng_dis {hi s : Int} (hs : 1 ≤ s) : ∀ (m : Nat) (f : Int), dis (rng hi s m f) = true
 | 0, f => rfl
 | m + 1, f => by
  rw [rng]
  split
  · simp only [dis,Bool.and_eq_true,Bool.not_eq_true',List.contains_eq_mem,decide_eq_false_iff_not]
    exact ⟨fun h => by have := (rng_mem hs m (f + s) f h).1; omega, rng_dis hs m (f + s)⟩
  · rfl
theorem rng_all {hi s : Int} (hs : 1 ≤ s) : ∀ (m : Nat) (f n : Int), (rng hi s m f).length < m → f ≤ n → n ≤ hi → s ∣ n - f → n ∈ rng hi s m f
 | 0, f, n, h, _, _, _ => by simp at h
 | m + 1, f, n, h, h1, h2, h3 => by
  rw [rng] at h ⊢
  rw [if_pos (show f ≤ hi by omega)] at h ⊢
  by_cases e : n = f
  · rw [e]; exact List.mem_cons_self ..
  · refine List.mem_cons_of_mem _ (rng_all hs m (f + s) n (by simp only [List.length_cons] at h; omega) ?_ h2 ?_)
    · have := Int.le_of_dvd (by omega) h3; omega
    · have := Int.dvd_sub h3 (Int.dvd_refl s)
      rw [show n - f - s = n - (f + s) by omega] at this
      exact this
theorem firstR {c : Ch} (h : c.lsd = false) (m : Nat) : c.first m = rng c.hi c.stp m c.lo := by unfold Ch.first; rw [h]; rfl
theorem firstL {c : Ch} (h : c.lsd = true) (m : Nat) : c.first m = c.L.take m := by unfold Ch.first; rw [h]; rfl
theorem has_mem {c : Ch} (h : c.lsd = true) {n : Int} : c.has n = true ↔ n ∈ c.L := by unfold Ch.has; rw [if_pos h]; simp
theorem wi_list {a b : Ch} (h : a.lsd = true) : wiC a b ↔ ∀ n ∈ a.L, b.has n = true := by
 unfold wiC
 simp only [has_mem h]
theorem wi_first {a b : Ch} (va : a.valid = true) (vb : b.valid = true) (h : a.lsd = true ∨ b.lsd = true) : wiC a b ↔ ((a.first 21).length ≤ 20 ∧ ∀ n ∈ a.first 21, b.has n = true) := by
 cases ha : a.lsd
 · have hb : b.lsd = true := by rw [ha] at h; simpa using h
   have hr := (valid_rg va ha).1
   rw [firstR ha]
   constructor
   · intro hw
     have hall : ∀ n ∈ rng a.hi a.stp 21 a.lo, b.has n = true := fun n hn => hw n ((has_range ha).2 (rng_mem hr.s0 _ _ _ hn))
     have := dis_sub (rng_dis hr.s0 21 a.lo) fun n hn => (has_mem hb).1 (hall n hn)
     exact ⟨Nat.le_trans this (valid_list vb hb).2.1, hall⟩
   · rintro ⟨h1, h2⟩ n hn
     obtain ⟨n1, n2, n3⟩ := (has_range ha).1 hn
     exact h2 n (rng_all hr.s0 21 a.lo n (by omega) n1 n2 n3)
 · have := (valid_list va ha).2.1
   rw [firstL ha, List.take_of_length_le (by omega), wi_list ha]
   exact ⟨fun h => ⟨this, h⟩, fun h => h.2⟩
theorem wi_range {a b : Ch} (va : a.valid = true) (vb : b.valid = true) (ha : a.lsd = false) (hb : b.lsd = false) :
 wiC a b ↔ (b.has a.lo = true ∧ b.has (a.lo + (a.hi - a.lo) / a.stp * a.stp) = true ∧ (a.lo + (a.hi - a.lo) / a.stp * a.stp = a.lo ∨ a.stp % b.stp = 0)) := by
 have ra := (valid_rg va ha).1
 have rb := (valid_rg vb hb).1
 have s0 := ra.s0
 have l1 := ra.l1
 have h2 : 0 ≤ (a.hi - a.lo) / a.stp * a.stp := Int.mul_nonneg (Int.ediv_nonneg (by omega) (by omega)) (by omega)
 have h3 : (a.hi - a.lo) / a.stp * a.stp ≤ a.hi - a.lo := Int.ediv_mul_le _ (by omega)
 have hd : a.stp ∣ (a.hi - a.lo) / a.stp * a.stp := ⟨(a.hi - a.lo) / a.stp, Int.mul_comm _ _⟩
 have hq : (a.hi - a.lo) / a.stp * a.stp = 0 ∨ a.stp ≤ (a.hi - a.lo) / a.stp * a.stp := by
  rcases Int.lt_or_eq_of_le h2 with h | h
  · exact .inr (Int.le_of_dvd h hd)
  · exact .inl h.symm
 have hmost : ∀ n, a.lo ≤ n → n ≤ a.hi → a.stp ∣ n - a.lo → n ≤ a.lo + (a.hi - a.lo) / a.stp * a.stp := fun n n1 n2 n3 => by
  obtain ⟨k, hk⟩ := n3
  have hk1 : k ≤ (a.hi - a.lo) / a.stp := by
   rw [Int.le_ediv_iff_mul_le (by omega), Int.mul_comm, ← hk]
   omega
  have h4 : k * a.stp ≤ (a.hi - a.lo) / a.stp * a.stp := Int.mul_le_mul_of_nonneg_right hk1 (by omega)
  rw [Int.mul_comm] at hk
  omega
 generalize (a.hi - a.lo) / a.stp * a.stp = q at *
 constructor
 · intro hw
   have b1 := hw a.lo ((has_range ha).2 ⟨Int.le_refl _, l1, by simp⟩)
   have b2 := hw (a.lo + q) ((has_range ha).2 ⟨by omega, by omega, by rw [show a.lo + q - a.lo = q by omega]; exact hd⟩)
   refine ⟨b1, b2, ?_⟩
   rcases hq with h | h
   · exact .inl (by omega)
   · right
     have b3 := hw (a.lo + a.stp) ((has_range ha).2 ⟨by omega, by omega, by rw [show a.lo + a.stp - a.lo = a.stp by omega]; exact Int.dvd_refl _⟩)
     have d1 := ((has_range hb).1 b1).2.2
     have d3 := ((has_range hb).1 b3).2.2
     have := Int.dvd_sub d3 d1
     rw [show a.lo + a.stp - b.lo - (a.lo - b.lo) = a.stp by omega] at this
     exact Int.emod_eq_zero_of_dvd this
 · rintro ⟨b1, b2, hs⟩ n hn
   obtain ⟨n1, n2, n3⟩ := (has_range ha).1 hn
   obtain ⟨p1, p2, p3⟩ := (has_range hb).1 b1
   obtain ⟨q1, q2, q3⟩ := (has_range hb).1 b2
   have hm := hmost n n1 n2 n3
   refine (has_range hb).2 ⟨by omega, by omega, ?_⟩
   rcases hs with hs | hs
   · rw [show n = a.lo by omega]; exact p3
   · have := Int.dvd_add (Int.dvd_trans (Int.dvd_of_emod_eq_zero hs) n3) p3
     rw [show n - a.lo + (a.lo - b.lo) = n - b.lo by omega] at this
     exact this
end Go.Proofs.YthcdnjbhhaonhaaGreatDoor
/- Layer 02: fields and formats in memory. -/
namespace Go.Proofs.YthcdnjbhhaonhaaGreatDoor
open Go.RowKit
def flVs (f : Fl) (s : Value) : List Value := [.int .i64 f.key, .int .i64 f.c.k, .int .i64 f.c.d, s]
def FldAt (w : World) (b o : Nat) (f : Fl) : Prop := ∃ s, Row w b o (flVs f s) ∧ SlI w s f.c.L
def FldsAt (w : World) (b o : Nat) (fs : List Fl) : Prop := ∀ k f, fs[k]? = some f → FldAt w b (o + 4 * k) f
def SlF (w : World) (v : Value) (fs : List Fl) : Prop := ∃ p cap, v = .slice p fs.length cap ∧ fs.length ≤ cap ∧ cap ≤ maxLen ∧ (fs ≠ [] → ∃ b o, p = some ⟨b, o, none⟩ ∧ FldsAt w b o fs)
def fmV (f : Fm) (s : Value) : Value := .agg #[.int .i64 f.m, s]
section
variable {w w' : World}
theorem FldAt.ext {b o : Nat} {f : Fl} (h : FldAt w b o f) (he : Ext w w') : FldAt w' b o f := by
 obtain ⟨s, h1, h2⟩ := h
 exact ⟨s, h1.ext he, h2.ext he⟩
theorem FldsAt.ext {b o : Nat} {fs : List Fl} (h : FldsAt w b o fs) (he : Ext w w') : FldsAt w' b o fs := fun k f hk => (h k f hk).ext he
theorem SlF.ext {v : Value} {fs : List Fl} (h : SlF w v fs) (he : Ext w w') : SlF w' v fs := by
 obtain ⟨p, cap, h1, h2, h3, h4⟩ := h
 refine ⟨p, cap, h1, h2, h3, fun hne => ?_⟩
 obtain ⟨b, o, h5, h6⟩ := h4 hne
 exact ⟨b, o, h5, h6.ext he⟩
theorem SlF.nil (w : World) : SlF w (.slice none 0 0) [] := ⟨none, 0, rfl, by simp, by simp, fun h => absurd rfl h⟩
theorem SlF.shape {v : Value} {fs : List Fl} (h : SlF w v fs) : ∃ p cap, v = .slice p fs.length cap ∧ fs.length ≤ cap ∧ cap ≤ maxLen := by
 obtain ⟨p, cap, h1, h2, h3, _⟩ := h
 exact ⟨p, cap, h1, h2, h3⟩
theorem SlF.at {p : Option Addr} {n cap : Nat} {fs : List Fl} (h : SlF w (.slice p n cap) fs) (hne : fs ≠ []) : ∃ b o, p = some ⟨b, o, none⟩ ∧ FldsAt w b o fs := by
 obtain ⟨p', cap', h1, _, _, h4⟩ := h
 cases h1
 exact h4 hne
theorem FldsAt.get {b o k : Nat} {fs : List Fl} (h : FldsAt w b o fs) (hk : k < fs.length) : ∃ s, w.cell? ⟨b, o + 4 * k, none⟩ = some (.int .i64 fs[k].key) ∧ w.cell? ⟨b, o + 4 * k + 1, none⟩ = some (.int .i64 fs[k].c.k) ∧
 w.cell? ⟨b, o + 4 * k + 2, none⟩ = some (.int .i64 fs[k].c.d) ∧ w.cell? ⟨b, o + 4 * k + 3, none⟩ = some s ∧ SlI w s fs[k].c.L := by
 obtain ⟨s, h1, h2⟩ := h k fs[k] (List.getElem?_eq_getElem hk)
 exact ⟨s, h1 0 _ rfl, h1 1 _ rfl, h1 2 _ rfl, h1 3 _ rfl, h2⟩
theorem SlF.tail {b o n cap : Nat} {f : Fl} {fs : List Fl} (h : SlF w (.slice (some ⟨b, o, none⟩) n cap) (f :: fs)) (q : Option Addr) (hq : fs ≠ [] → q = some ⟨b, o + 4, none⟩) : SlF w (.slice q (n - 1) (cap - 1)) fs := by
 obtain ⟨p', cap', h1, h2, h3, h4⟩ := h
 cases h1
 simp only [List.length_cons] at h2
 refine ⟨q, cap - 1, by simp, by omega, by omega, fun hne => ⟨b, o + 4, hq hne, ?_⟩⟩
 obtain ⟨b', o', h5, h6⟩ := h4 (by simp)
 cases h5
 intro k g hk
 have := h6 (k + 1) g (by simpa using hk)
 rw [show o + 4 * (k + 1) = o + 4 + 4 * k by omega] at this
 exact this
end
end Go.Proofs.YthcdnjbhhaonhaaGreatDoor

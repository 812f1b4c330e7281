/- Layer 02 in plain Lean: texts of formats, and how they are read. -/
import Derived.Test.YthcdnjbhhaonhaaGreatDoorQvFoSpecToFoA
import Derived.Test.YthcdnjbhhaonhaaGreatDoorQvChSh

namespace Go.Proofs.YthcdnjbhhaonhaaGreatDoor
set_option linter.unusedSimpArgs false
abbrev By := List UInt8
def splitC (c : UInt8) : By → List By
  | [] => [[]]
  | b :: l => if b = c then [] :: splitC c l else match splitC c l with
    | [] => [[b]]
    | x :: r => (b :: x) :: r
theorem splitC_app {c : UInt8} : ∀ {a : By} (b : By), c ∉ a → splitC c (a ++ c :: b) = a :: splitC c b
  | [], b, _ => by rw [List.nil_append, splitC, if_pos rfl]
  | x :: a, b, h => by
    have hx : x ≠ c := fun e => h (by rw [e]; exact List.mem_cons_self ..)
    rw [List.cons_append, splitC, if_neg hx, splitC_app b (fun hm => h (List.mem_cons_of_mem _ hm))]
theorem splitC_no {c : UInt8} : ∀ {a : By}, c ∉ a → splitC c a = [a]
  | [], _ => rfl
  | x :: a, h => by
    have hx : x ≠ c := fun e => h (by rw [e]; exact List.mem_cons_self ..)
    rw [splitC, if_neg hx, splitC_no (fun hm => h (List.mem_cons_of_mem _ hm))]
theorem splitC_join {c : UInt8} : ∀ (r : List By) (x : By), (∀ y ∈ x :: r, c ∉ y) → splitC c (x ++ r.flatMap (c :: ·)) = x :: r
  | [], x, h => by rw [List.flatMap_nil, List.append_nil]; exact splitC_no (h x (by simp))
  | y :: r, x, h => by
    rw [List.flatMap_cons, List.cons_append, splitC_app _ (h x (by simp)), splitC_join r y (fun z hz => h z (List.mem_cons_of_mem _ hz))]
theorem pre_one (c b : UInt8) (l : By) : ([c] : By).isPrefixOf (b :: l) = (c == b) := by simp [List.isPrefixOf]
theorem idxF_some {c : UInt8} : ∀ {s : By} {i : Nat}, idxF s [c] = some i → i < s.length ∧ s = s.take i ++ c :: s.drop (i + 1) ∧ c ∉ s.take i
  | [], i, h => by simp [idxF] at h
  | b :: l, i, h => by
    rw [idxF, pre_one] at h
    split at h
    · rename_i hb
      have hb := eq_of_beq hb
      cases h
      exact ⟨by simp, by simp [hb], by simp⟩
    · rename_i hb
      rw [Option.map_eq_some_iff] at h
      obtain ⟨j, hj, rfl⟩ := h
      obtain ⟨h1, h2, h3⟩ := idxF_some hj
      refine ⟨by simp; omega, ?_, ?_⟩
      · simp only [List.take_succ_cons,List.drop_succ_cons,List.cons_append]
        exact congrArg _ h2
      · rw [List.take_succ_cons]
        intro hm
        rcases List.mem_cons.1 hm with e | hm
        · exact hb (by rw [e]; exact beq_self_eq_true b)
        · exact h3 hm
theorem idxF_no {c : UInt8} {s : By} (h : c ∉ s) : idxF s [c] = none := by
  cases hi : idxF s [c] with
  | none => rfl
  | some i =>
    obtain ⟨_, h2, _⟩ := idxF_some hi
    exact absurd (by rw [h2]; simp) h
theorem idxF_at {c : UInt8} : ∀ {a : By} (b : By), c ∉ a → idxF (a ++ c :: b) [c] = some a.length
  | [], b, _ => by rw [List.nil_append, idxF, pre_one]; simp
  | x :: a, b, h => by
    have hx : c ≠ x := fun e => h (by rw [e]; exact List.mem_cons_self ..)
    rw [List.cons_append, idxF, pre_one, if_neg (by simpa using hx), idxF_at b (fun hm => h (List.mem_cons_of_mem _ hm))]
    rfl
theorem idxD_no : ∀ {s : By}, (46 : UInt8) ∉ s → idxF s [46, 46] = none
  | [], _ => rfl
  | b :: l, h => by
    have hb : (46 : UInt8) ≠ b := fun e => h (by rw [e]; exact List.mem_cons_self ..)
    rw [idxF, if_neg (by simp [List.isPrefixOf, hb]), idxD_no (fun hm => h (List.mem_cons_of_mem _ hm))]; rfl
theorem idxD_at : ∀ {a : By} (b : By), (46 : UInt8) ∉ a → idxF (a ++ 46 :: 46 :: b) [46, 46] = some a.length
  | [], b, _ => by rw [List.nil_append, idxF, if_pos (by simp [List.isPrefixOf])]; rfl
  | x :: a, b, h => by
    have hb : (46 : UInt8) ≠ x := fun e => h (by rw [e]; exact List.mem_cons_self ..)
    rw [List.cons_append, idxF, if_neg (by simp [List.isPrefixOf, hb]), idxD_at b (fun hm => h (List.mem_cons_of_mem _ hm))]; rfl
theorem digit_nat {u : Nat} (h : u < 10) : (UInt8.ofNat (48 + u)).toNat = 48 + u := by
  rw [UInt8.toNat_ofNat']; omega
theorem parse_app : ∀ (l : List UInt8) (acc u d : Nat), Lib.parseUint10 acc l = .ok u → d < 10 → u * 10 + d < 18446744073709551616 → Lib.parseUint10 acc (l ++ [UInt8.ofNat (48 + d)]) = .ok (u * 10 + d)
  | [], acc, u, d, h, hd, hb => by
    simp only [Lib.parseUint10] at h
    injection h with h
    subst h
    have e := digit_nat hd
    simp only [List.nil_append,Lib.parseUint10,e]
    rw [if_pos (by omega), if_neg (by omega), if_neg (by omega)]
    congr 1; omega
  | c :: r, acc, u, d, h, hd, hb => by
    simp only [Lib.parseUint10] at h
    split at h
    · rename_i hc
      split at h
      · cases h
      · rename_i h1
        split at h
        · cases h
        · rename_i h2
          have := parse_app r _ u d h hd hb
          simp only [List.cons_append,Lib.parseUint10]
          rw [if_pos hc, if_neg h1, if_neg h2]
          exact this
    · cases h
theorem dec_digits (u : Nat) : ∀ c ∈ Lib.decDigits u, 48 ≤ c.toNat ∧ c.toNat ≤ 57 := by
  induction u using Nat.strongRecOn with
  | _ u ih =>
    intro c hc
    by_cases h : u < 10
    · rw [Lib.decDigits, dif_pos h] at hc
      simp only [List.mem_cons,List.not_mem_nil,or_false] at hc
      rw [hc, digit_nat h]; omega
    · rw [Lib.decDigits, dif_neg h] at hc
      rcases List.mem_append.1 hc with hc | hc
      · exact ih (u / 10) (by omega) c hc
      · simp only [List.mem_cons,List.not_mem_nil,or_false] at hc
        rw [hc, digit_nat (by omega)]; omega
theorem dec_ne (u : Nat) : Lib.decDigits u ≠ [] := by
  intro h
  have := Lib.decDigits_length u
  rw [h] at this
  have := Lib.nDigits_pos u
  simp at *; omega
theorem parse_dec (u : Nat) (hu : u < 18446744073709551616) : Lib.parseUint10 0 (Lib.decDigits u) = .ok u := by
  induction u using Nat.strongRecOn with
  | _ u ih =>
    by_cases h : u < 10
    · rw [Lib.decDigits, dif_pos h]
      simp only [Lib.parseUint10,digit_nat h]
      rw [if_pos (by omega), if_neg (by omega), if_neg (by omega)]
      congr 1; omega
    · rw [Lib.decDigits, dif_neg h, parse_app _ 0 (u / 10) (u % 10) (ih (u / 10) (by omega) (by omega)) (by omega) (by omega)]
      congr 1; omega
theorem inT_mem {n : Int} : inT n = true ↔ 0 ≤ n ∧ n ≤ 1000000000 := by simp [inT]
theorem itoa_dec {n : Int} (h : 0 ≤ n) : Lib.itoa n = Lib.decDigits n.toNat := by unfold Lib.itoa; rw [if_neg (by omega)]
theorem atoi_itoa {n : Int} (h : inT n = true) : Lib.atoiAll (Lib.itoa n) = .ok n := by
  obtain ⟨h0, h1⟩ := inT_mem.1 h
  rw [itoa_dec h0]
  cases hd : Lib.decDigits n.toNat with
  | nil => exact absurd hd (dec_ne _)
  | cons c r =>
    have hc := dec_digits n.toNat c (by rw [hd]; simp)
    rw [Lib.atoiAll_plain c r (by omega) (by omega), ← hd]
    unfold Lib.parseMag
    rw [if_neg (dec_ne _), parse_dec _ (by omega)]
    unfold Lib.signless
    simp only
    rw [if_neg (by omega)]
    congr 1; omega
def numP (s : By) : Int := match Lib.atoiAll s with
  | .ok n => if Lib.itoa n = s then n else -1
  | _ => -1
theorem numP_itoa {n : Int} (h : inT n = true) : numP (Lib.itoa n) = n := by
  unfold numP
  rw [atoi_itoa h]
  simp
theorem itoa_no {n : Int} (h : inT n = true) {c : UInt8} (hc : c.toNat < 48 ∨ 57 < c.toNat) : c ∉ Lib.itoa n := fun hm => by
  rw [itoa_dec (inT_mem.1 h).1] at hm
  have := dec_digits _ _ hm
  omega
def digS : Int → By → Option Int
  | acc, [] => some acc
  | acc, b :: l => if (b.toNat : Int) < 48 ∨ 57 < (b.toNat : Int) ∨ (1000000000 - ((b.toNat : Int) - 48)).tdiv 10 < acc then none else digS (10 * acc + ((b.toNat : Int) - 48)) l
def digR (s : By) : Int := match digS 0 s with
  | none => -1
  | some n => if s = [] ∨ (s.headD 0 = 48 ∧ 1 < s.length) then -1 else n
theorem digS_app : ∀ {l : By} {acc u : Int} (b : UInt8), digS acc l = some u → digS acc (l ++ [b]) = digS u [b]
  | [], acc, u, b, h => by cases h; rfl
  | x :: l, acc, u, b, h => by
    unfold digS at h
    split at h
    · cases h
    · rename_i hx
      rw [List.cons_append]
      conv => lhs; unfold digS
      rw [if_neg hx]
      exact digS_app b h
theorem digS_one {u : Int} {d : Nat} (hd : d < 10) (h0 : 0 ≤ u) (h : 10 * u + d ≤ 1000000000) : digS u [UInt8.ofNat (48 + d)] = some (10 * u + d) := by
  have e : (UInt8.ofNat (48 + d)).toNat = 48 + d := digit_nat hd
  unfold digS
  rw [e]
  have c3 : ¬ (1000000000 - (((48 + d : Nat) : Int) - 48)).tdiv 10 < u := by
    rw [Int.tdiv_eq_ediv_of_nonneg (by omega)]; omega
  rw [if_neg (by omega)]
  unfold digS
  congr 1; omega
theorem digS_dec (u : Nat) (hu : u ≤ 1000000000) : digS 0 (Lib.decDigits u) = some (u : Int) := by
  induction u using Nat.strongRecOn with
  | _ u ih =>
    by_cases h : u < 10
    · rw [Lib.decDigits, dif_pos h, digS_one h (by omega) (by omega)]; simp
    · rw [Lib.decDigits, dif_neg h, digS_app _ (ih (u / 10) (by omega) (by omega)), digS_one (by omega) (by omega) (by omega)]
      congr 1; omega
theorem dec_head (u : Nat) : ∃ c r, Lib.decDigits u = c :: r ∧ (u = 0 ∨ c ≠ 48) ∧ (u < 10 → r = []) := by
  induction u using Nat.strongRecOn with
  | _ u ih =>
    by_cases h : u < 10
    · rw [Lib.decDigits, dif_pos h]
      refine ⟨_, [], rfl, ?_, fun _ => rfl⟩
      by_cases h0 : u = 0
      · exact .inl h0
      · right
        intro e
        have := congrArg UInt8.toNat e
        rw [digit_nat h] at this
        have h48 : (48 : UInt8).toNat = 48 := rfl
        omega
    · obtain ⟨c, r, h1, h2, _⟩ := ih (u / 10) (by omega)
      rw [Lib.decDigits, dif_neg h, h1]
      have h3 : c ≠ 48 := h2.elim (fun h2 => by omega) id
      exact ⟨c, r ++ [UInt8.ofNat (48 + u % 10)], rfl, Or.inr h3, fun h' => absurd h' h⟩
theorem digR_itoa {n : Int} (h : inT n = true) : digR (Lib.itoa n) = n := by
  obtain ⟨h0, h1⟩ := inT_mem.1 h
  rw [itoa_dec h0]
  unfold digR
  rw [digS_dec _ (by omega)]
  obtain ⟨c, r, e, e1, e2⟩ := dec_head n.toNat
  simp only
  rw [e]
  rw [if_neg]
  · omega
  · rintro (h | ⟨h2, h3⟩)
    · cases h
    · rcases e1 with e1 | e1
      · rw [e2 (by omega)] at h3; simp at h3
      · exact e1 h2
end Go.Proofs.YthcdnjbhhaonhaaGreatDoor
/- Layer 02 in plain Lean: the text of a format is read back, by the program and by the reference. -/
namespace Go.Proofs.YthcdnjbhhaonhaaGreatDoor
set_option linter.unusedSimpArgs false
def mediaT : List By := [[], [97, 117, 100, 105, 111], [118, 105, 100, 101, 111], [110, 111, 116, 101, 115]]
def keyT : List By := [[], [101, 110, 99, 111, 100, 105, 110, 103], [114, 97, 116, 101], [99, 104, 97, 110, 110, 101, 108, 115], [119, 105, 100, 116, 104], [104, 101, 105, 103, 104, 116], [109, 111, 100, 105, 102, 105, 101, 114]]
def idxL : List By → By → Int → Int
  | [], _, _ => -1
  | x :: l, s, k => if s = x then k else idxL l s (k + 1)
def findL : List By → By → Int → Int
  | [], _, _ => 0
  | x :: l, s, k => if x = s then k else findL l s (k + 1)
def ofB : By := [111, 102]
def itoaC (l : List Int) : By := Lib.join (l.map Lib.itoa) [44]
def restW (c : Ch) : By := if c.k = 2 then itoaC c.L else Lib.itoa c.lo ++ 46 :: 46 :: (Lib.itoa c.hi ++ if c.k = 4 then 47 :: Lib.itoa (c.L.getD 2 0) else [])
def keyW (k : Int) : By := keyT.getD k.toNat []
def wordsF (x : Fl) : List By := (keyW x.key ++ 61 :: Lib.itoa x.c.d) :: if x.c.k = 1 then [] else [ofB, restW x.c]
def mediaW (m : Int) : By := mediaT.getD m.toNat []
def txF (f : Fm) : By := mediaW f.m ++ (f.F.flatMap wordsF).flatMap (32 :: ·)
def txB (f : Fm) : By := if f.valid then txF f else []
def choP (d : By) : Option By → Ch
  | none => ⟨1, numP d, [numP d]⟩
  | some r => match idxF r [46, 46] with
    | some i => (match idxF (r.drop (i + 2)) [47] with
      | some j => ⟨4, numP d, [numP (r.take i), numP ((r.drop (i + 2)).take j), numP ((r.drop (i + 2)).drop (j + 1))]⟩
      | none => ⟨3, numP d, [numP (r.take i), numP (r.drop (i + 2))]⟩)
    | none => ⟨2, numP d, (splitC 44 r).map numP⟩
def fldP (x : By) (r : Option By) : Fl := match idxF x [61] with
  | some i => ⟨idxL keyT (x.take i) 0, choP (x.drop (i + 1)) r⟩
  | none => ⟨idxL keyT x 0, choP [] r⟩
def pF : List By → List Fl
  | [] => []
  | [x] => [fldP x none]
  | [x, y] => fldP x none :: pF [y]
  | x :: o :: r :: ws => if o = ofB then fldP x (some r) :: pF ws else fldP x none :: pF (o :: r :: ws)
def parP (s : By) : Fm := ⟨idxL mediaT ((splitC 32 s).headD []) 0, pF (splitC 32 s).tail⟩
def heaR (r : By) : Int × List Int := match idxF r [46, 46] with
  | some i => if (splitC 47 (r.drop (i + 2))).length = 2 then (4, [digR (r.take i), digR ((splitC 47 (r.drop (i + 2))).getD 0 []), digR ((splitC 47 (r.drop (i + 2))).getD 1 [])])
    else (3, [digR (r.take i), digR ((splitC 47 (r.drop (i + 2))).getD 0 [])])
  | none => (2, (splitC 44 r).map digR)
def fldR (k d : By) : Option By → Fl
  | none => ⟨findL keyT.tail k 1, ⟨1, digR d, [digR d]⟩⟩
  | some r => ⟨findL keyT.tail k 1, ⟨(heaR r).1, digR d, (heaR r).2⟩⟩
def pair (x : By) : Option (By × By) := match splitC 61 x with
  | [k, d] => some (k, d)
  | _ => none
def rF : List By → Option (List Fl)
  | [] => some []
  | [x] => (pair x).map fun p => [fldR p.1 p.2 none]
  | [x, y] => (pair x).bind fun p => (rF [y]).map (fldR p.1 p.2 none :: ·)
  | x :: o :: r :: ws => (pair x).bind fun p => if o = ofB then (rF ws).map (fldR p.1 p.2 (some r) :: ·) else (rF (o :: r :: ws)).map (fldR p.1 p.2 none :: ·)
def parR (s : By) : Option Fm := (rF (splitC 32 s).tail).map fun F => ⟨findL mediaT.tail ((splitC 32 s).headD []) 1, F⟩
theorem valid_d {c : Ch} (h : c.valid = true) : inT c.d = true := by
  have hd : c.has c.d = true := by unfold Ch.valid at h; simp only [Bool.and_eq_true] at h; exact h.2
  cases hl : c.lsd
  · have hr := (valid_rg h hl).1
    obtain ⟨d1, d2, _⟩ := (has_range hl).1 hd
    have := hr.l0
    have := hr.l2
    exact inT_mem.2 (by omega)
  · have hv := valid_list h hl
    have hm : c.d ∈ c.L := by simpa using hv.2.2.2.2
    exact List.all_eq_true.1 hv.2.2.2.1 _ hm
theorem valid_L {c : Ch} (h : c.valid = true) : ∀ n ∈ c.L, inT n = true := by
  unfold Ch.valid at h; simp only [Bool.and_eq_true] at h; exact List.all_eq_true.1 h.1.1
theorem valid_kinds {c : Ch} (h : c.valid = true) : (c.k = 1 ∧ c.L = [c.d]) ∨ (c.k = 2 ∧ ∃ x r, c.L = x :: r) ∨ (c.k = 3 ∧ c.L = [c.lo, c.hi]) ∨ (c.k = 4 ∧ c.L = [c.lo, c.hi, c.L.getD 2 0]) := by
  cases hl : c.lsd
  · rcases (valid_rg h hl).2 with ⟨h1, h2⟩ | ⟨h1, h2⟩
    · refine .inr (.inr (.inl ⟨h1, ?_⟩))
      match hL : c.L, h2 with
      | [a, b], _ => simp [Ch.lo, Ch.hi, hL]
    · refine .inr (.inr (.inr ⟨h1, ?_⟩))
      match hL : c.L, h2 with
      | [a, b, s], _ => simp [Ch.lo, Ch.hi, hL]
  · have hv := valid_list h hl
    by_cases h1 : c.k = 1
    · refine .inl ⟨h1, ?_⟩
      unfold Ch.valid Ch.form at h
      rw [if_pos h1] at h
      simp only [Bool.and_eq_true,decide_eq_true_eq] at h
      obtain ⟨x, hx⟩ := List.length_eq_one_iff.1 h.1.2
      have hm := hv.2.2.2.2
      rw [hx] at hm ⊢
      have : c.d = x := by simpa using hm
      rw [this]
    · have h2 : c.k = 2 := by
        unfold Ch.lsd at hl
        simpa [h1] using hl
      refine .inr (.inl ⟨h2, ?_⟩)
      cases hL : c.L with
      | nil => rw [hL] at hv; simp at hv
      | cons x r => exact ⟨x, r, rfl⟩
theorem no46 {n : Int} (h : inT n = true) : (46 : UInt8) ∉ Lib.itoa n := itoa_no h (.inl (by decide))
theorem no47 {n : Int} (h : inT n = true) : (47 : UInt8) ∉ Lib.itoa n := itoa_no h (.inl (by decide))
theorem no44 {n : Int} (h : inT n = true) : (44 : UInt8) ∉ Lib.itoa n := itoa_no h (.inl (by decide))
theorem no32 {n : Int} (h : inT n = true) : (32 : UInt8) ∉ Lib.itoa n := itoa_no h (.inl (by decide))
theorem no61 {n : Int} (h : inT n = true) : (61 : UInt8) ∉ Lib.itoa n := itoa_no h (.inr (by decide))
theorem joinTail_flat (r : List By) : Lib.joinTail [44] r = r.flatMap ((44 : UInt8) :: ·) := by
  induction r with
  | nil => simp [Lib.joinTail]
  | cons x r ih =>
    have hj : Lib.joinTail [44] (x :: r) = 44 :: (x ++ Lib.joinTail [44] r) := by simp [Lib.joinTail]
    rw [hj, ih, List.flatMap_cons, List.cons_append]
theorem itoaC_cons (x : Int) (r : List Int) : itoaC (x :: r) = Lib.itoa x ++ (r.map Lib.itoa).flatMap ((44 : UInt8) :: ·) := by
  unfold itoaC
  rw [List.map_cons, Lib.join_cons, joinTail_flat]
theorem flat_no {c b : UInt8} (hb : c ≠ b) : ∀ {r : List By}, (∀ y ∈ r, c ∉ y) → c ∉ r.flatMap (b :: ·)
  | [], _ => by simp
  | x :: r, h => by
    rw [List.flatMap_cons]
    intro hm
    rcases List.mem_append.1 hm with hm | hm
    · rcases List.mem_cons.1 hm with e | hm
      · exact hb e
      · exact h x (by simp) hm
    · exact flat_no hb (fun y hy => h y (List.mem_cons_of_mem _ hy)) hm
theorem itoaC_no {c : UInt8} (hb : c ≠ 44) (hc : c.toNat < 48 ∨ 57 < c.toNat) {x : Int} {r : List Int} (h : ∀ n ∈ x :: r, inT n = true) : c ∉ itoaC (x :: r) := by
  rw [itoaC_cons]
  intro hm
  rcases List.mem_append.1 hm with hm | hm
  · exact itoa_no (h x (by simp)) hc hm
  · refine flat_no hb (fun y hy => ?_) hm
    obtain ⟨n, hn, rfl⟩ := List.mem_map.1 hy
    exact itoa_no (h n (List.mem_cons_of_mem _ hn)) hc
theorem split_itoaC {x : Int} {r : List Int} (h : ∀ n ∈ x :: r, inT n = true) : splitC 44 (itoaC (x :: r)) = (x :: r).map Lib.itoa := by
  rw [itoaC_cons, splitC_join, List.map_cons]
  intro y hy
  rw [← List.map_cons (f := Lib.itoa)] at hy
  obtain ⟨n, hn, rfl⟩ := List.mem_map.1 hy
  exact no44 (h n hn)
theorem map_num {l : List Int} (h : ∀ n ∈ l, inT n = true) (g : By → Int) (hg : ∀ n, inT n = true → g (Lib.itoa n) = n) : (l.map Lib.itoa).map g = l := by
  rw [List.map_map]
  conv => rhs; rw [← List.map_id l]
  exact List.map_congr_left fun n hn => hg n (h n hn)
theorem choP_ok {c : Ch} (h : c.valid = true) : choP (Lib.itoa c.d) (if c.k = 1 then none else some (restW c)) = c := by
  have hd := valid_d h
  have hL := valid_L h
  rcases valid_kinds h with ⟨k, e⟩ | ⟨k, x, r, e⟩ | ⟨k, e⟩ | ⟨k, e⟩
  · rw [if_pos k]
    unfold choP
    rw [numP_itoa hd]
    obtain ⟨a, b, l⟩ := c
    simp only at k e ⊢
    rw [k, e]
  · rw [if_neg (by omega)]
    unfold choP restW
    rw [if_pos k, e]
    simp only
    rw [idxD_no (itoaC_no (by decide) (.inl (by decide)) (by rw [← e]; exact hL)), split_itoaC (by rw [← e]; exact hL), map_num (by rw [← e]; exact hL) numP (fun n hn => numP_itoa hn), numP_itoa hd]
    obtain ⟨a, b, l⟩ := c
    simp only at k e ⊢
    rw [k, e]
  · rw [e] at hL
    have h1 := hL c.lo (by simp)
    have h2 := hL c.hi (by simp)
    rw [if_neg (by omega)]
    unfold choP restW
    rw [if_neg (by omega), if_neg (by omega), List.append_nil]
    simp only
    rw [idxD_at _ (no46 h1)]
    simp only
    have e1 : (Lib.itoa c.lo ++ 46 :: 46 :: Lib.itoa c.hi).drop ((Lib.itoa c.lo).length + 2) = Lib.itoa c.hi := by rw [List.drop_append]; simp
    rw [e1, idxF_no (no47 h2)]
    simp only
    rw [List.take_left, numP_itoa h1, numP_itoa h2, numP_itoa hd]
    obtain ⟨a, b, l⟩ := c
    simp only at k e ⊢
    rw [k]
    congr 1
    exact e.symm
  · rw [e] at hL
    have h1 := hL c.lo (by simp)
    have h2 := hL c.hi (by simp)
    have h3 := hL (c.L.getD 2 0) (by simp)
    rw [if_neg (by omega)]
    unfold choP restW
    rw [if_neg (by omega), if_pos k]
    simp only
    rw [idxD_at _ (no46 h1)]
    simp only
    have e1 : (Lib.itoa c.lo ++ 46 :: 46 :: (Lib.itoa c.hi ++ 47 :: Lib.itoa (c.L.getD 2 0))).drop ((Lib.itoa c.lo).length + 2) = Lib.itoa c.hi ++ 47 :: Lib.itoa (c.L.getD 2 0) := by rw [List.drop_append]; simp
    have e2 : (Lib.itoa c.hi ++ 47 :: Lib.itoa (c.L.getD 2 0)).drop ((Lib.itoa c.hi).length + 1) = Lib.itoa (c.L.getD 2 0) := by rw [List.drop_append]; simp
    rw [e1, idxF_at _ (no47 h2)]
    simp only
    rw [List.take_left, List.take_left, e2, numP_itoa h1, numP_itoa h2, numP_itoa h3, numP_itoa hd]
    obtain ⟨a, b, l⟩ := c
    simp only at k e ⊢
    rw [k]
    congr 1
    exact e.symm
theorem heaR_ok {c : Ch} (h : c.valid = true) (hk : ¬ c.k = 1) : heaR (restW c) = (c.k, c.L) := by
  have hL := valid_L h
  rcases valid_kinds h with ⟨k, e⟩ | ⟨k, x, r, e⟩ | ⟨k, e⟩ | ⟨k, e⟩
  · exact absurd k hk
  · unfold heaR restW
    rw [if_pos k, e, idxD_no (itoaC_no (by decide) (.inl (by decide)) (by rw [← e]; exact hL)), split_itoaC (by rw [← e]; exact hL), map_num (by rw [← e]; exact hL) digR (fun n hn => digR_itoa hn), k]
  · rw [e] at hL
    have h1 := hL c.lo (by simp)
    have h2 := hL c.hi (by simp)
    unfold heaR restW
    rw [if_neg (by omega), if_neg (by omega), List.append_nil, idxD_at _ (no46 h1)]
    simp only
    have e1 : (Lib.itoa c.lo ++ 46 :: 46 :: Lib.itoa c.hi).drop ((Lib.itoa c.lo).length + 2) = Lib.itoa c.hi := by rw [List.drop_append]; simp
    rw [e1, splitC_no (no47 h2), if_neg (by simp), List.take_left]
    simp only [List.getD_cons_zero]
    rw [digR_itoa h1, digR_itoa h2, k, e]
  · rw [e] at hL
    have h1 := hL c.lo (by simp)
    have h2 := hL c.hi (by simp)
    have h3 := hL (c.L.getD 2 0) (by simp)
    unfold heaR restW
    rw [if_neg (by omega), if_pos k, idxD_at _ (no46 h1)]
    simp only
    have e1 : (Lib.itoa c.lo ++ 46 :: 46 :: (Lib.itoa c.hi ++ 47 :: Lib.itoa (c.L.getD 2 0))).drop ((Lib.itoa c.lo).length + 2) = Lib.itoa c.hi ++ 47 :: Lib.itoa (c.L.getD 2 0) := by rw [List.drop_append]; simp
    rw [e1, splitC_app _ (no47 h2), splitC_no (no47 h3), if_pos (by rfl), List.take_left]
    simp only [List.getD_cons_zero,List.getD_cons_succ]
    rw [digR_itoa h1, digR_itoa h2, digR_itoa h3, k]
    congr 1
    exact e.symm
theorem key_cases {k : Int} (h1 : 0 < k) (h2 : k ≤ 6) : k = 1 ∨ k = 2 ∨ k = 3 ∨ k = 4 ∨ k = 5 ∨ k = 6 := by omega
theorem key_idx {k : Int} (h1 : 0 < k) (h2 : k ≤ 6) : idxL keyT (keyW k) 0 = k ∧ findL keyT.tail (keyW k) 1 = k ∧ (61 : UInt8) ∉ keyW k ∧ (32 : UInt8) ∉ keyW k := by
  rcases key_cases h1 h2 with rfl | rfl | rfl | rfl | rfl | rfl <;> decide
theorem media_idx {m : Int} (h1 : 1 ≤ m) (h2 : m ≤ 3) : idxL mediaT (mediaW m) 0 = m ∧ findL mediaT.tail (mediaW m) 1 = m ∧ (32 : UInt8) ∉ mediaW m ∧ mediaW m ≠ [] := by
  have : m = 1 ∨ m = 2 ∨ m = 3 := by omega
  rcases this with rfl | rfl | rfl <;> decide
theorem fldP_ok {x : Fl} (h1 : 0 < x.key) (h2 : x.key ≤ 6) (hv : x.c.valid = true) : fldP (keyW x.key ++ 61 :: Lib.itoa x.c.d) (if x.c.k = 1 then none else some (restW x.c)) = x := by
  obtain ⟨k1, _, k3, _⟩ := key_idx h1 h2
  unfold fldP
  rw [idxF_at _ k3]
  simp only
  have e1 : (keyW x.key ++ 61 :: Lib.itoa x.c.d).drop ((keyW x.key).length + 1) = Lib.itoa x.c.d := by rw [List.drop_append]; simp
  rw [e1, List.take_left, k1, choP_ok hv]
theorem pair_ok {x : Fl} (h1 : 0 < x.key) (h2 : x.key ≤ 6) (hv : x.c.valid = true) : pair (keyW x.key ++ 61 :: Lib.itoa x.c.d) = some (keyW x.key, Lib.itoa x.c.d) := by
  obtain ⟨_, _, k3, _⟩ := key_idx h1 h2
  unfold pair
  rw [splitC_app _ k3, splitC_no (no61 (valid_d hv))]
theorem fldR_ok {x : Fl} (h1 : 0 < x.key) (h2 : x.key ≤ 6) (hv : x.c.valid = true) : fldR (keyW x.key) (Lib.itoa x.c.d) (if x.c.k = 1 then none else some (restW x.c)) = x := by
  obtain ⟨_, k2, _, _⟩ := key_idx h1 h2
  have hd := valid_d hv
  by_cases hk : x.c.k = 1
  · rw [if_pos hk]
    unfold fldR
    rw [k2, digR_itoa hd]
    rcases valid_kinds hv with ⟨k, e⟩ | ⟨k, _⟩ | ⟨k, _⟩ | ⟨k, _⟩
    · obtain ⟨a, b, c, l⟩ := x
      simp only at k e ⊢
      rw [k, e]
    all_goals omega
  · rw [if_neg hk]
    unfold fldR
    simp only
    rw [k2, digR_itoa hd, heaR_ok hv hk]
def HeadNo (W : List By) : Prop := ∀ y W', W = y :: W' → y ≠ ofB
theorem head_no (F : List Fl) : HeadNo (F.flatMap wordsF) := fun y W' h => by
  cases F with
  | nil => cases h
  | cons x F =>
    rw [List.flatMap_cons, wordsF, List.cons_append, List.cons.injEq] at h
    rw [← h.1]
    intro e
    have : (61 : UInt8) ∈ ofB := by rw [← e]; simp
    exact absurd this (by decide)
theorem pF_one {x : By} : ∀ {W : List By}, HeadNo W → pF (x :: W) = fldP x none :: pF W
  | [], _ => rfl
  | [y], _ => rfl
  | y :: z :: W, h => by rw [pF, if_neg (h y _ rfl)]
theorem rF_one {x : By} {p : By × By} (hp : pair x = some p) : ∀ {W : List By}, HeadNo W → rF (x :: W) = (rF W).map (fldR p.1 p.2 none :: ·)
  | [], _ => by simp only [rF,hp,Option.map_some]
  | [y], _ => by simp only [rF,hp,Option.bind_some]
  | y :: z :: W, h => by rw [rF, hp, Option.bind_some, if_neg (h y _ rfl)]
theorem fields_back : ∀ {F : List Fl} {k : Int}, 0 ≤ k → fieldsB k F = true → pF (F.flatMap wordsF) = F ∧ rF (F.flatMap wordsF) = some F
  | [], _, _, _ => ⟨rfl, rfl⟩
  | x :: F, k, hk, h => by
    obtain ⟨h1, h2, h3, h4⟩ := fieldsB_cons.1 h
    obtain ⟨i1, i2⟩ := fields_back (k := x.key) (by omega) h4
    have f1 := fldP_ok (x := x) (by omega) h2 h3
    have f2 := pair_ok (x := x) (by omega) h2 h3
    have f3 := fldR_ok (x := x) (by omega) h2 h3
    rw [List.flatMap_cons, wordsF]
    by_cases hc : x.c.k = 1
    · rw [if_pos hc] at f1 f3 ⊢
      rw [List.cons_append, List.nil_append, pF_one (head_no F), rF_one f2 (head_no F), i1, i2, f1]
      exact ⟨rfl, by simp only [Option.map_some]; rw [f3]⟩
    · rw [if_neg hc] at f1 f3 ⊢
      rw [List.cons_append, List.cons_append, List.cons_append, List.nil_append, pF, rF, if_pos rfl, f2, Option.bind_some, if_pos rfl, i1, i2, f1]
      exact ⟨rfl, by simp only [Option.map_some]; rw [f3]⟩
theorem words_no : ∀ {F : List Fl} {k : Int}, 0 ≤ k → fieldsB k F = true → ∀ y ∈ F.flatMap wordsF, (32 : UInt8) ∉ y
  | [], _, _, _, y, hy => by simp at hy
  | x :: F, k, hk, h, y, hy => by
    obtain ⟨h1, h2, h3, h4⟩ := fieldsB_cons.1 h
    rw [List.flatMap_cons] at hy
    rcases List.mem_append.1 hy with hy | hy
    · have hd := valid_d h3
      have hL := valid_L h3
      rw [wordsF] at hy
      rcases List.mem_cons.1 hy with rfl | hy
      · intro hm
        rcases List.mem_append.1 hm with hm | hm
        · exact (key_idx (by omega) h2).2.2.2 hm
        · rcases List.mem_cons.1 hm with e | hm
          · exact absurd e (by decide)
          · exact no32 hd hm
      · split at hy
        · simp at hy
        · rename_i hk1
          simp only [List.mem_cons,List.not_mem_nil,or_false] at hy
          rcases hy with rfl | rfl
          · decide
          · unfold restW
            rcases valid_kinds h3 with ⟨k, e⟩ | ⟨k, z, r, e⟩ | ⟨k, e⟩ | ⟨k, e⟩
            · exact absurd k hk1
            · rw [if_pos k, e]
              exact itoaC_no (by decide) (.inl (by decide)) (by rw [← e]; exact hL)
            · rw [e] at hL
              rw [if_neg (by omega), if_neg (by omega), List.append_nil]
              intro hm
              simp only [List.mem_append,List.mem_cons] at hm
              rcases hm with hm | e | e | hm
              · exact no32 (hL x.c.lo (by simp)) hm
              · exact absurd e (by decide)
              · exact absurd e (by decide)
              · exact no32 (hL x.c.hi (by simp)) hm
            · rw [e] at hL
              rw [if_neg (by omega), if_pos k]
              intro hm
              simp only [List.mem_append,List.mem_cons] at hm
              rcases hm with hm | e | e | hm | e | hm
              · exact no32 (hL x.c.lo (by simp)) hm
              · exact absurd e (by decide)
              · exact absurd e (by decide)
              · exact no32 (hL x.c.hi (by simp)) hm
              · exact absurd e (by decide)
              · exact no32 (hL (x.c.L.getD 2 0) (by simp)) hm
    · exact words_no (by omega) h4 y hy
theorem text_back {f : Fm} (h : f.valid = true) : parP (txF f) = f ∧ parR (txF f) = some f ∧ txF f ≠ [] := by
  unfold Fm.valid at h
  simp only [Bool.and_eq_true,decide_eq_true_eq] at h
  obtain ⟨h1, h2, h3⟩ := h
  obtain ⟨m1, m2, m3, m4⟩ := media_idx h2 h3
  have hw := words_no (Int.le_refl 0) h1
  have hs : splitC 32 (txF f) = mediaW f.m :: f.F.flatMap wordsF := splitC_join _ _ (fun y hy => by
    rcases List.mem_cons.1 hy with rfl | hy
    · exact m3
    · exact hw y hy)
  obtain ⟨i1, i2⟩ := fields_back (Int.le_refl 0) h1
  refine ⟨?_, ?_, fun e => m4 (List.append_eq_nil_iff.1 e).1⟩
  · unfold parP
    rw [hs]
    simp only [List.headD_cons,List.tail_cons]
    rw [m1, i1]
  · unfold parR
    rw [hs]
    simp only [List.headD_cons,List.tail_cons]
    rw [m2, i2]
    rfl
end Go.Proofs.YthcdnjbhhaonhaaGreatDoor

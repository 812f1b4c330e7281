/- Texts of numbers: words, their reading, and the library's functions as contracts. -/
import Derived.Test.YtefcfnmmpnjjjaaGreatDoorQbStA
import Derived.Test.YtefcfnmmpnjjjaaGreatDoorQbShelf
import Derived.Lib.ItoaLen
import Derived.Lib.ItoaMem
namespace Go.Proofs.YtefcfnmmpnjjjaaGreatDoor
open Go.RowKit
set_option linter.unusedSimpArgs false

/-! ### Words -/
def inI (n : Int) : Prop := -9223372036854775808 ≤ n ∧ n ≤ 9223372036854775807
theorem digit_nat {u : Nat} (h : u < 10) : (UInt8.ofNat (48 + u)).toNat = 48 + u := by
  rw [UInt8.toNat_ofNat']; omega
theorem parse_app : ∀ (l : List UInt8) (acc u d : Nat), Lib.parseUint10 acc l = .ok u → d < 10 → u * 10 + d < 18446744073709551616 → Lib.parseUint10 acc (l ++ [UInt8.ofNat (48 + d)]) = .ok (u * 10 + d)
  | [], acc, u, d, h, hd, hb => by
    simp only [Lib.parseUint10] at h
    injection h with h
    subst h
    have e := digit_nat hd
    simp only [List.nil_append, Lib.parseUint10, e]
    rw [if_pos (by omega), if_neg (by omega), if_neg (by omega)]
    congr 1; omega
  | c :: r, acc, u, d, h, hd, hb => by
    simp only [Lib.parseUint10] at h
    split at h
    · rename_i hc
      split at h
      · cases h
      · rename_i h1
        split at h
        · cases h
        · rename_i h2
          have := parse_app r _ u d h hd hb
          simp only [List.cons_append, Lib.parseUint10]
          rw [if_pos hc, if_neg h1, if_neg h2]
          exact this
    · cases h
theorem dec_digits (u : Nat) : ∀ c ∈ Lib.decDigits u, 48 ≤ c.toNat ∧ c.toNat ≤ 57 := by
  induction u using Nat.strongRecOn with
  | _ u ih =>
    intro c hc
    by_cases h : u < 10
    · rw [Lib.decDigits, dif_pos h] at hc
      simp only [List.mem_cons, List.not_mem_nil, or_false] at hc
      rw [hc, digit_nat h]; omega
    · rw [Lib.decDigits, dif_neg h] at hc
      rcases List.mem_append.1 hc with hc | hc
      · exact ih (u / 10) (by omega) c hc
      · simp only [List.mem_cons, List.not_mem_nil, or_false] at hc
        rw [hc, digit_nat (by omega)]; omega
theorem dec_ne (u : Nat) : Lib.decDigits u ≠ [] := by
  intro h
  have := Lib.decDigits_length u
  rw [h] at this
  have := Lib.nDigits_pos u
  simp at *; omega
theorem parse_dec (u : Nat) (hu : u < 18446744073709551616) : Lib.parseUint10 0 (Lib.decDigits u) = .ok u := by
  induction u using Nat.strongRecOn with
  | _ u ih =>
    by_cases h : u < 10
    · rw [Lib.decDigits, dif_pos h]
      simp only [Lib.parseUint10, digit_nat h]
      rw [if_pos (by omega), if_neg (by omega), if_neg (by omega)]
      congr 1; omega
    · rw [Lib.decDigits, dif_neg h, parse_app _ 0 (u / 10) (u % 10) (ih (u / 10) (by omega) (by omega)) (by omega) (by omega)]
      congr 1; omega
theorem atoi_itoa {n : Int} (h : inI n) : Lib.atoiAll (Lib.itoa n) = .ok n := by
  obtain ⟨h0, h1⟩ := h
  unfold Lib.itoa
  split
  · rename_i hn
    rw [Lib.atoiAll_minus]
    unfold Lib.parseMag
    rw [if_neg (dec_ne _), parse_dec _ (by omega)]
    unfold Lib.signed
    simp only
    rw [if_neg (by omega)]
    congr 1; omega
  · rename_i hn
    cases hd : Lib.decDigits n.toNat with
    | nil => exact absurd hd (dec_ne _)
    | cons c r =>
      have hc := dec_digits n.toNat c (by rw [hd]; simp)
      rw [Lib.atoiAll_plain c r (by omega) (by omega), ← hd]
      unfold Lib.parseMag
      rw [if_neg (dec_ne _), parse_dec _ (by omega)]
      unfold Lib.signless
      simp only
      rw [if_neg (by omega)]
      congr 1; omega
theorem itoa_digits (n : Int) : ∀ c ∈ Lib.itoa n, c ≠ 32 := by
  have hd : ∀ u, ∀ c ∈ Lib.decDigits u, c ≠ 32 := fun u c hc => by
    rintro rfl
    have := dec_digits u _ hc
    have e : (32 : UInt8).toNat = 32 := rfl
    omega
  intro c hc
  unfold Lib.itoa at hc
  split at hc
  · rcases List.mem_cons.1 hc with rfl | hc
    · decide
    · exact hd _ c hc
  · exact hd _ c hc

/-- The number that a word is. -/
def numW (wd : ByteArray) : Option Int :=
  match Lib.atoiAll wd.data.toList with
  | .ok n => if Lib.itoa n = wd.data.toList then some n else none
  | _ => none
/-- A number's word. -/
def wordOf (n : Int) : ByteArray := ⟨(Lib.itoa n).toArray⟩
theorem ba_ext {a b : ByteArray} (h : a.data.toList = b.data.toList) : a = b := by
  obtain ⟨⟨a⟩⟩ := a; obtain ⟨⟨b⟩⟩ := b; simp at h; rw [h]
theorem numW_word {n : Int} (h : inI n) : numW (wordOf n) = some n := by
  unfold numW wordOf
  simp only [atoi_itoa h, if_true]
/-! ### Splitting what was joined -/
theorem index_sp : ∀ (x rest : List UInt8), 32 ∉ x → Lib.index (x ++ 32 :: rest) [32] = (x.length : Int)
  | [], rest, _ => by simp [Lib.index, List.isPrefixOf]
  | b :: l, rest, h => by
    have hb : b ≠ 32 := fun e => h (by simp [e])
    have ih := index_sp l rest (fun hm => h (by simp [hm]))
    have hp : ([32] : List UInt8).isPrefixOf (b :: (l ++ 32 :: rest)) = false := by simp [List.isPrefixOf, Ne.symm hb]
    rw [List.cons_append, Lib.index, hp, ih]
    simp
theorem splitK_join : ∀ (r : List (List UInt8)) (x : List UInt8), (∀ y ∈ x :: r, (32 : UInt8) ∉ y) → Lib.splitK [32] 0 r.length (x ++ Lib.joinTail [32] r) = x :: r
  | [], x, _ => by simp [Lib.splitK, Lib.joinTail]
  | y :: r, x, h => by
    have ih := splitK_join r y (fun z hz => h z (List.mem_cons_of_mem _ hz))
    have hj : Lib.joinTail [32] (y :: r) = 32 :: (y ++ Lib.joinTail [32] r) := by simp [Lib.joinTail]
    have hi := index_sp x (y ++ Lib.joinTail [32] r) (h x (by simp))
    rw [List.length_cons, Lib.splitK, hj, hi, if_neg (by simp)]
    have e1 : (List.take ((x.length : Int).toNat + 0) (x ++ 32 :: (y ++ Lib.joinTail [32] r))) = x := by simp
    have e2 : (List.drop ((x.length : Int).toNat + ([32] : List UInt8).length) (x ++ 32 :: (y ++ Lib.joinTail [32] r))) = y ++ Lib.joinTail [32] r := by
      rw [show (x.length : Int).toNat + ([32] : List UInt8).length = x.length + 1 by simp, List.drop_append]
      simp
    rw [e1, e2, ih]
theorem count_join : ∀ (r : List (List UInt8)) (x : List UInt8), (∀ y ∈ x :: r, (32 : UInt8) ∉ y) → Lib.count (x ++ Lib.joinTail [32] r) [32] = r.length
  | [], x, h => by
    rw [Lib.count_one]; simp [Lib.joinTail, List.count_eq_zero_of_not_mem (h x (by simp))]
  | y :: r, x, h => by
    have ih := count_join r y (fun z hz => h z (List.mem_cons_of_mem _ hz))
    rw [Lib.count_one] at ih ⊢
    have hj : Lib.joinTail [32] (y :: r) = 32 :: (y ++ Lib.joinTail [32] r) := by simp [Lib.joinTail]
    rw [hj, List.count_append, List.count_cons_self, ih, List.count_eq_zero_of_not_mem (h x (by simp))]
    simp
/-- The words of a text. -/
def splitW (s : ByteArray) : List ByteArray := Lib.splitB ⟨#[32]⟩ 0 (Lib.countB s ⟨#[32]⟩) s
/-- The text of numbers. -/
def textL (l : List Int) : ByteArray := ⟨(Lib.join (l.map Lib.itoa) [32]).toArray⟩
theorem splitW_text (l : List Int) (hl : l ≠ []) : splitW (textL l) = l.map wordOf := by
  cases l with
  | nil => exact absurd rfl hl
  | cons n l =>
    have hno : ∀ y ∈ Lib.itoa n :: l.map Lib.itoa, (32 : UInt8) ∉ y := by
      intro y hy hm
      rw [← List.map_cons (f := Lib.itoa)] at hy
      obtain ⟨m, _, rfl⟩ := List.mem_map.1 hy
      exact itoa_digits m 32 hm rfl
    have hdata : (textL (n :: l)).data.toList = Lib.itoa n ++ Lib.joinTail [32] (l.map Lib.itoa) := by
      simp only [textL, List.map_cons, Lib.join_cons]
    have hc : Lib.countB (textL (n :: l)) ⟨#[32]⟩ = l.length := by
      show Lib.count (textL (n :: l)).data.toList [32] = _
      rw [hdata, count_join _ _ hno, List.length_map]
    have hs := Lib.splitB_data ⟨#[32]⟩ 0 l.length (textL (n :: l))
    rw [hdata] at hs
    have hk := splitK_join (l.map Lib.itoa) (Lib.itoa n) hno
    rw [List.length_map] at hk
    have hs2 : (splitW (textL (n :: l))).map (fun (w : ByteArray) => w.data.toList) = (n :: l).map Lib.itoa := by
      unfold splitW
      rw [hc, hs]
      exact hk
    have hinj : ∀ (a : List ByteArray) (b : List Int), a.map (fun (w : ByteArray) => w.data.toList) = b.map Lib.itoa → a = b.map wordOf := by
      intro a
      induction a with
      | nil => intro b h; cases b <;> simp at h ⊢
      | cons x a ih =>
        intro b h
        cases b with
        | nil => simp at h
        | cons y b =>
          simp only [List.map_cons, List.cons.injEq] at h ⊢
          exact ⟨ba_ext (by rw [h.1]; rfl), ih b h.2⟩
    exact hinj _ _ hs2
theorem joinTail_length (r : List (List UInt8)) (B : Nat) (h : ∀ x ∈ r, x.length ≤ B) : (Lib.joinTail [32] r).length ≤ r.length * (B + 1) := by
  induction r with
  | nil => simp [Lib.joinTail]
  | cons x r ih =>
    have := ih (fun y hy => h y (by simp [hy]))
    have hx := h x (by simp)
    have hj : Lib.joinTail [32] (x :: r) = 32 :: (x ++ Lib.joinTail [32] r) := by simp [Lib.joinTail]
    rw [hj, List.length_cons, List.length_append, List.length_cons]
    have e : (r.length + 1) * (B + 1) = r.length * (B + 1) + (B + 1) := by rw [Nat.add_mul, Nat.one_mul]
    omega
theorem join_length (l : List Int) (h : ∀ n ∈ l, inI n) : (Lib.join (l.map Lib.itoa) [32]).length ≤ l.length * 22 := by
  cases l with
  | nil => simp [Lib.join_nil]
  | cons n l =>
    rw [List.map_cons, Lib.join_cons, List.length_append]
    have h1 := Lib.itoa_length_le n (h n (by simp)).1 (h n (by simp)).2
    have h2 := joinTail_length (l.map Lib.itoa) 21 (fun x hx => by
      obtain ⟨m, hm, rfl⟩ := List.mem_map.1 hx
      exact Lib.itoa_length_le m (h m (by simp [hm])).1 (h m (by simp [hm])).2)
    rw [List.length_map] at h2
    rw [List.length_cons, Nat.add_mul]
    omega
theorem textL_size (l : List Int) (h : ∀ n ∈ l, inI n) : (textL l).size ≤ l.length * 22 := by
  have := join_length l h
  simp only [textL, ByteArray.size, List.size_toArray]
  exact this

/-! ### What is read -/
def sameP : List Int → List ByteArray → Option (List ByteArray)
  | [], ws => some ws
  | _ :: _, [] => none
  | n :: l, w :: ws => if numW w = some n then sameP l ws else none
def smpP : Nat → List ByteArray → Option (List Int × List ByteArray)
  | 0, ws => some ([], ws)
  | _ + 1, [] => none
  | n + 1, w :: ws => (numW w).bind fun x => if -8388607 ≤ x ∧ x ≤ 8388607 then (smpP n ws).map fun p => (x :: p.1, p.2) else none
/-- One after the other. -/
def listP (n : Nat) (ws : List ByteArray) : Option (List Int × List ByteArray) := (sameP [(n : Int)] ws).bind (smpP n)
def unitP (k : Int) (A T : List Int) (n : Nat) (ws : List ByteArray) : Option (List Int × List ByteArray) :=
  (sameP [k, A.length, T.length] ws).bind fun ws => (sameP A ws).bind fun ws => (sameP T ws).bind (listP n)
theorem sameP_words : ∀ (l : List Int) (ws : List ByteArray), (∀ n ∈ l, inI n) → sameP l (l.map wordOf ++ ws) = some ws
  | [], ws, _ => rfl
  | n :: l, ws, h => by
    simp only [List.map_cons, List.cons_append, sameP, numW_word (h n (by simp)), if_true]
    exact sameP_words l ws fun m hm => h m (by simp [hm])
theorem smpP_words : ∀ (l : List Int) (ws : List ByteArray), Smps l → smpP l.length (l.map wordOf ++ ws) = some (l, ws)
  | [], ws, _ => rfl
  | n :: l, ws, h => by
    have hn := h n (by simp)
    have hn' : inI n := by unfold Smp at hn; unfold inI; omega
    simp only [List.map_cons, List.cons_append, List.length_cons, smpP, numW_word hn', Option.bind_some]
    rw [if_pos (show -8388607 ≤ n ∧ n ≤ 8388607 from hn), smpP_words l ws fun m hm => h m (by simp [hm])]
    rfl
theorem smpP_some : ∀ (n : Nat) (ws : List ByteArray) (l : List Int) (ws' : List ByteArray), smpP n ws = some (l, ws') → l.length = n ∧ Smps l
  | 0, ws, l, ws', h => by simp [smpP] at h; obtain ⟨rfl, rfl⟩ := h; exact ⟨rfl, fun x hx => by cases hx⟩
  | n + 1, [], l, ws', h => by simp [smpP] at h
  | n + 1, w :: ws, l, ws', h => by
    simp only [smpP, Option.bind_eq_some_iff] at h
    obtain ⟨x, hx, h⟩ := h
    split at h
    · rename_i hs
      simp only [Option.map_eq_some_iff] at h
      obtain ⟨⟨l1, w1⟩, h1, h2⟩ := h
      cases h2
      obtain ⟨h3, h4⟩ := smpP_some n ws l1 _ h1
      refine ⟨by simp [h3], fun y hy => ?_⟩
      rcases List.mem_cons.1 hy with rfl | hy
      · exact hs
      · exact h4 y hy
    · cases h
theorem listP_some {n : Nat} {ws : List ByteArray} {l : List Int} {ws' : List ByteArray} (h : listP n ws = some (l, ws')) : l.length = n ∧ Smps l := by
  unfold listP at h
  simp only [Option.bind_eq_some_iff] at h
  obtain ⟨a, _, h⟩ := h
  exact smpP_some n a l ws' h
theorem unitP_some {k : Int} {A T : List Int} {n : Nat} {ws : List ByteArray} {l : List Int} {ws' : List ByteArray} (h : unitP k A T n ws = some (l, ws')) : l.length = n ∧ Smps l := by
  unfold unitP at h
  simp only [Option.bind_eq_some_iff] at h
  obtain ⟨a, _, b, _, c, _, h⟩ := h
  exact listP_some h
theorem inI_len {l : List Int} (h : l.length ≤ 1000000) : inI l.length := by unfold inI; omega
theorem unitP_words {k : Int} {A T N : List Int} (hk : inI k) (hA : ∀ n ∈ A, inI n) (hT : ∀ n ∈ T, inI n) (hN : Smps N) (lA : A.length ≤ 1000000) (lT : T.length ≤ 1000000) (lN : N.length ≤ 1000000) (ws : List ByteArray) :
    unitP k A T N.length ((stL k A T N).map wordOf ++ ws) = some (N, ws) := by
  unfold unitP stL
  simp only [List.map_append, List.append_assoc]
  rw [sameP_words _ _ (by simp [hk, inI_len lA, inI_len lT])]
  simp only [Option.bind_some]
  rw [sameP_words _ _ hA]
  simp only [Option.bind_some]
  rw [sameP_words _ _ hT]
  simp only [Option.bind_some, listP]
  rw [sameP_words _ _ (by simp [inI_len lN])]
  simp only [Option.bind_some]
  exact smpP_words N ws hN
/-! ### What the library needs, and its functions -/
structure EnvS (w : World) : Prop where
  pow : Lib.TabIs Go.Proofs.Tryz.prog w "internal/strconv.uint64pow10" .u64 Lib.pow10Tab
  most : ∃ m, w.cell? ⟨0, 0, none⟩ = some (.int .i64 m)
  syn : ∃ tp p, w.var? Go.Proofs.Tryz.prog "strconv.ErrSyntax" = some #[.iface tp p]
  rng : ∃ tp p, w.var? Go.Proofs.Tryz.prog "strconv.ErrRange" = some #[.iface tp p]
theorem var_ext {w w' : World} {n : String} {cs : Array Value} (h : w.var? Go.Proofs.Tryz.prog n = some cs) (he : Ext w w') : w'.var? Go.Proofs.Tryz.prog n = some cs := by
  unfold World.var? at h ⊢
  cases hg : (Go.Proofs.Tryz.prog).globalNamed n with
  | none => rw [hg] at h; cases h
  | some g =>
    rw [hg] at h
    simp only [Option.bind_some] at h ⊢
    by_cases hlt : g < w.heap.size
    · rw [he.block g hlt]; exact h
    · rw [Array.getElem?_eq_none (by omega)] at h; cases h
theorem EnvS.ext {w w' : World} (h : EnvS w) (he : Ext w w') : EnvS w' := by
  refine ⟨var_ext h.pow he, ?_, ?_, ?_⟩
  · obtain ⟨m, hm⟩ := h.most; exact ⟨m, he.cell hm⟩
  · obtain ⟨a, b, hm⟩ := h.syn; exact ⟨a, b, var_ext hm he⟩
  · obtain ⟨a, b, hm⟩ := h.rng; exact ⟨a, b, var_ext hm he⟩
theorem ext_grow (w : World) (k : Nat) (os : Array Obj) : Ext w (Sort.grow (w.drewN k) os) := by
  refine ⟨rfl, rfl, rfl, ?_, fun i hi => ?_⟩
  · simp [Sort.grow]
  · show (w.heap ++ os)[i]? = _
    rw [Array.getElem?_append_left hi]
theorem Rets.of {P : Program} {f : FuncId} {args : Array Value} {w : World} {Q : Value → World → Prop} {R : Ending → World → Prop} (h : Calls P f args w R) (hk : ∀ e w', R e w' → ∃ v, e = .returned v ∧ Q v w') : Rets P f args w Q := by
  unfold Rets; exact Calls.mono h hk
theorem Itoa_c {n : Int} {w : World} (h : inI n) (hE : EnvS w) : Rets Go.Proofs.Tryz.prog 105 #[.int .i64 n] w fun r w' => r = .string (wordOf n) ∧ Ext w w' :=
  Rets.of (Tryz.strconv_Itoa n h.1 h.2 w hE.pow) fun e w' ⟨he, k, os, hw⟩ => ⟨_, he, rfl, hw ▸ ext_grow w k os⟩
theorem Atoi_c {s : ByteArray} {w : World} (hs : s.size ≤ 1000000000) (hE : EnvS w) : Rets Go.Proofs.Tryz.prog 115 #[.string s] w fun r w' =>
    (match Lib.atoiAll s.data.toList with | .ok n => r = .tuple #[.int .i64 n, .nilIface] | _ => ∃ n t p, r = .tuple #[.int .i64 n, .iface t p]) ∧ Ext w w' := by
  cases h : Lib.atoiAll s.data.toList
  · rename_i n
    refine Rets.of (Any.strconv_Atoi_ok Tryz.laysC172 s (by omega) n h w) fun e w' ⟨he, hw⟩ => ⟨_, he, rfl, ?_⟩
    rcases hw with rfl | ⟨t, rfl⟩
    · exact Ext.refl _
    · exact Lib.bytesWorld_below _ _ _
  · obtain ⟨tp, p, hv⟩ := hE.syn
    exact Rets.of (Any.strconv_Atoi_syntax_var Tryz.laysC172 s (by omega) h tp p w hv) fun e w' ⟨N, he, _, _, hw⟩ => ⟨_, he, ⟨_, _, _, rfl⟩, hw⟩
  · obtain ⟨tp, p, hv⟩ := hE.rng
    exact Rets.of (Any.strconv_Atoi_range_var Tryz.laysC172 s (by omega) h tp p w hv) fun e w' ⟨N, he, _, _, hw⟩ => ⟨_, he, ⟨_, _, _, rfl⟩, hw⟩
/-- A slice of texts. -/
def SlS (w : World) (v : Value) (ws : List ByteArray) : Prop := Sl w v (ws.map Value.string)
theorem splitW_length (s : ByteArray) : (splitW s).length = Lib.countB s ⟨#[32]⟩ + 1 := Lib.splitB_all ⟨#[32]⟩ (by decide) 0 _ s rfl
theorem Split_c {s : ByteArray} {w : World} (hs : s.size ≤ 1000000000) (hE : EnvS w) : Rets Go.Proofs.Tryz.prog 78 #[.string s, .string ⟨#[32]⟩] w fun r w' =>
    SlS w' r (splitW s) ∧ Ext w w' ∧ ∀ q, r.ownBlock = some q → w.heap.size ≤ q := by
  obtain ⟨m, hm⟩ := hE.most
  refine Rets.of (Tryz.strings_Split s ⟨#[32]⟩ m w (by omega) hm (by decide)) fun e w' ⟨he, hw⟩ => ⟨_, he, ?_, hw ▸ Ext.alloc _ _, fun q hq => by simp [Value.ownBlock] at hq; omega⟩
  subst hw
  have hc : Lib.countB s ⟨#[32]⟩ ≤ s.size := Lib.countB_le ⟨#[32]⟩ (by decide) _ s (Nat.le_refl _)
  refine .inr ⟨w.heap.size, 0, _, ?_, Nat.le_refl _, ?_, ?_⟩
  · rw [List.length_map, splitW_length]
  · rw [List.length_map, splitW_length]; unfold maxLen; omega
  · exact row_new w ((splitW s).map Value.string) _
theorem Join_c {v : Value} {xs : List ByteArray} {w : World} (hv : SlS w v xs) (hx : (Lib.join (xs.map (·.data.toList)) [32]).length ≤ 1000000000) (hn : xs.length ≤ 1000000000) : Rets Go.Proofs.Tryz.prog 107 #[v, .string ⟨#[32]⟩] w fun r w' =>
    r = .string ⟨(Lib.join (xs.map (·.data.toList)) [32]).toArray⟩ ∧ Ext w w' := by
  rcases hv with ⟨rfl, h0⟩ | ⟨b, o, cap, rfl, h2, h3, h4⟩
  · have : xs = [] := by simpa using h0
    subst this
    exact Rets.of (Any.strings_Join_none Tryz.lays156 Tryz.Builder_Extra_156 none 0 ⟨#[32]⟩ w) fun e w' ⟨he, hw⟩ => ⟨_, he, rfl, hw ▸ Ext.refl _⟩
  · rw [List.length_map] at *
    by_cases hne : xs = []
    · subst hne
      exact Rets.of (Any.strings_Join_none Tryz.lays156 Tryz.Builder_Extra_156 (some ⟨b, o, none⟩) cap ⟨#[32]⟩ w) fun e w' ⟨he, hw⟩ => ⟨_, he, rfl, hw ▸ Ext.refl _⟩
    · have hjl : (Lib.join (xs.map (·.data.toList)) (⟨#[32]⟩ : ByteArray).data.toList).length ≤ 140737488355328 := by show (Lib.join (xs.map (·.data.toList)) [32]).length ≤ _; omega
      have hbk : b < w.heap.size := by
        obtain ⟨x, xs', rfl⟩ : ∃ x xs', xs = x :: xs' := by cases xs with
          | nil => exact absurd rfl hne
          | cons x xs => exact ⟨x, xs, rfl⟩
        exact World.block_lt_of_cell? w _ (h4 0 (.string x) rfl)
      exact Rets.of (Any.strings_Join Tryz.lays156 Tryz.Builder_Extra_156 b o cap xs ⟨#[32]⟩ w (fun j x hj => h4 j _ (by rw [List.getElem?_map, hj]; rfl)) hbk (by omega) h2 hjl) fun _ _ ⟨he, hw⟩ => ⟨_, he, rfl, hw⟩
end Go.Proofs.YtefcfnmmpnjjjaaGreatDoor

/- Layer 01 in plain Lean: values, which are valid, and their sizes. -/
import Derived.Test.YthcdnjbhhaonhaaGreatDoorQvFoSpecToFoA
import Derived.Test.YthcdnjbhhaonhaaGreatDoorQvChSpecToChF
import Derived.Test.YthcdnjbhhaonhaaGreatDoorQvFoB

namespace Go.Proofs.YthcdnjbhhaonhaaGreatDoor
inductive Vt where
  | mk (k n : Int) (s : ByteArray) (keys : List Int) (kids : List Vt)
namespace Vt
def k : Vt → Int | .mk k _ _ _ _ => k
def n : Vt → Int | .mk _ n _ _ _ => n
def s : Vt → ByteArray | .mk _ _ s _ _ => s
def keys : Vt → List Int | .mk _ _ _ ks _ => ks
def kids : Vt → List Vt | .mk _ _ _ _ l => l
end Vt
theorem Vt.ind {P : Vt → Prop} (h : ∀ v : Vt, (∀ x ∈ v.kids, P x) → P v) : ∀ v, P v := by
  intro v
  refine Vt.rec (motive_1 := P) (motive_2 := fun l => ∀ x ∈ l, P x) ?_ ?_ ?_ v
  · intro k n s ks kids ih; exact h _ ih
  · intro x hx; cases hx
  · intro a l ha hl x hx
    rcases List.mem_cons.1 hx with rfl | hx
    · exact ha
    · exact hl x hx
mutual
def countV : Vt → Nat | .mk _ _ _ _ l => 1 + countL l
def countL : List Vt → Nat | [] => 0 | x :: l => countV x + countL l
end
mutual
def deepV : Vt → Nat | .mk _ _ _ _ l => deepL l + 1
def deepL : List Vt → Nat | [] => 0 | x :: l => max (deepV x) (deepL l)
end
mutual
def massV : Vt → Nat | .mk _ _ s ks l => 1 + ks.length + s.size / 64 + massL l
def massL : List Vt → Nat | [] => 0 | x :: l => massV x + massL l
end
mutual
def weightV : Vt → Int → Int | .mk _ _ s ks l, left => weightL l (left - 1 - ks.length - (s.size / 64 : Nat))
def weightL : List Vt → Int → Int | [], left => left | x :: l, left => if 0 < left then weightL l (weightV x left) else left
end
def padN (n : Nat) : Nat := (n + 7) / 8 * 8
mutual
def sizeV : Vt → Nat | .mk k _ s _ l => 8 + padN (if k = 1 then 0 else if k = 2 then 4 else if k = 3 then 8 else if k = 4 ∨ k = 5 then s.size else (if k = 8 ∨ k = 9 then 8 else 0) + sizeL (if k = 8 ∨ k = 10 then 8 else 0) l)
def sizeL (c : Nat) : List Vt → Nat | [] => 0 | x :: l => sizeV x + c + sizeL c l
end
def bodyV (v : Vt) : Nat := if v.k = 1 then 0 else if v.k = 2 then 4 else if v.k = 3 then 8 else if v.k = 4 ∨ v.k = 5 then v.s.size else (if v.k = 8 ∨ v.k = 9 then 8 else 0) + sizeL (if v.k = 8 ∨ v.k = 10 then 8 else 0) v.kids
theorem sizeV_eq (v : Vt) : sizeV v = 8 + padN (bodyV v) := by cases v; rw [sizeV]; rfl
theorem countV_eq (v : Vt) : countV v = 1 + countL v.kids := by cases v; rw [countV]; rfl
theorem deepV_eq (v : Vt) : deepV v = deepL v.kids + 1 := by cases v; rw [deepV]; rfl
theorem massV_eq (v : Vt) : massV v = 1 + v.keys.length + v.s.size / 64 + massL v.kids := by cases v; rw [massV]; rfl
theorem weightV_eq (v : Vt) (left : Int) : weightV v left = weightL v.kids (left - 1 - v.keys.length - (v.s.size / 64 : Nat)) := by cases v; rw [weightV]; rfl
theorem countL_app : ∀ (a b : List Vt), countL (a ++ b) = countL a + countL b
  | [], b => by simp [countL]
  | x :: a, b => by simp only [List.cons_append,countL,countL_app a b]; omega
theorem sizeL_app (c : Nat) : ∀ (a b : List Vt), sizeL c (a ++ b) = sizeL c a + sizeL c b
  | [], b => by simp [sizeL]
  | x :: a, b => by simp only [List.cons_append,sizeL,sizeL_app c a b]; omega
theorem deepL_app : ∀ (a b : List Vt), deepL (a ++ b) = max (deepL a) (deepL b)
  | [], b => by simp [deepL]
  | x :: a, b => by simp only [List.cons_append,deepL,deepL_app a b]; omega
theorem countL_take {l : List Vt} {i : Nat} (h : i < l.length) : countL (l.take (i + 1)) = countL (l.take i) + countV l[i] := by
  rw [List.take_succ_eq_append_getElem h, countL_app]; simp [countL]
theorem sizeL_take (c : Nat) {l : List Vt} {i : Nat} (h : i < l.length) : sizeL c (l.take (i + 1)) = sizeL c (l.take i) + (sizeV l[i] + c) := by
  rw [List.take_succ_eq_append_getElem h, sizeL_app]; simp [sizeL]
theorem deepL_take {l : List Vt} {i : Nat} (h : i < l.length) : deepL (l.take (i + 1)) = max (deepL (l.take i)) (deepV l[i]) := by
  rw [List.take_succ_eq_append_getElem h, deepL_app]; simp [deepL]
theorem countL_le {l : List Vt} {i : Nat} : countL (l.take i) ≤ countL l := by
  have := countL_app (l.take i) (l.drop i); rw [List.take_append_drop] at this; omega
theorem sizeL_le (c : Nat) {l : List Vt} {i : Nat} : sizeL c (l.take i) ≤ sizeL c l := by
  have := sizeL_app c (l.take i) (l.drop i); rw [List.take_append_drop] at this; omega
theorem massL_mem : ∀ {l : List Vt} {x : Vt}, x ∈ l → massV x ≤ massL l
  | y :: l, x, h => by
    rw [massL]
    rcases List.mem_cons.1 h with rfl | h
    · omega
    · have := massL_mem h; omega
theorem mass_kid {v x : Vt} (h : x ∈ v.kids) : massV x < massV v := by rw [massV_eq v]; have := massL_mem h; omega
theorem massL_len : ∀ (l : List Vt), l.length ≤ massL l
  | [] => by simp
  | x :: l => by have := massL_len l; have := massV_eq x; simp only [List.length_cons,massL]; omega
theorem mass_kids (v : Vt) : v.kids.length < massV v := by have := massL_len v.kids; have := massV_eq v; omega
theorem padN_le (n : Nat) : n ≤ padN n ∧ padN n ≤ n + 7 := by unfold padN; omega
theorem countV_mass (v : Vt) : countV v ≤ massV v := by
  induction v using Vt.ind with
  | h v ih =>
    rw [countV_eq, massV_eq]
    have : ∀ l : List Vt, (∀ x ∈ l, countV x ≤ massV x) → countL l ≤ massL l := fun l => by
      induction l with
      | nil => intro _; simp [countL, massL]
      | cons y l ihl =>
        intro hl
        rw [countL, massL]
        have := hl y (List.mem_cons_self ..)
        have := ihl fun x hx => hl x (List.mem_cons_of_mem _ hx)
        omega
    have := this _ ih
    omega
theorem deepV_mass (v : Vt) : deepV v ≤ massV v := by
  induction v using Vt.ind with
  | h v ih =>
    rw [deepV_eq, massV_eq]
    have : ∀ l : List Vt, (∀ x ∈ l, deepV x ≤ massV x) → deepL l ≤ massL l := fun l => by
      induction l with
      | nil => intro _; simp [deepL, massL]
      | cons y l ihl =>
        intro hl
        rw [deepL, massL]
        have := hl y (List.mem_cons_self ..)
        have := ihl fun x hx => hl x (List.mem_cons_of_mem _ hx)
        omega
    have := this _ ih
    omega
theorem sizeL_mass {c : Nat} (hc : c ≤ 8) : ∀ {l : List Vt}, (∀ x ∈ l, sizeV x + 8 ≤ 128 * massV x) → sizeL c l ≤ 128 * massL l
  | [], _ => by simp [sizeL, massL]
  | x :: l, h => by
    rw [sizeL, massL]
    have := h x (List.mem_cons_self ..)
    have := sizeL_mass hc (l := l) fun x hx => h x (List.mem_cons_of_mem _ hx)
    omega
theorem sizeV_mass (v : Vt) : sizeV v + 8 ≤ 128 * massV v := by
  induction v using Vt.ind with
  | h v ih =>
    rw [sizeV_eq]
    have h1 := padN_le (bodyV v)
    have h2 := massV_eq v
    have h3 : bodyV v + 31 ≤ 128 * massV v := by
      unfold bodyV
      split
      · omega
      · split
        · omega
        · split
          · omega
          · split
            · omega
            · have : ∀ c, c ≤ 8 → sizeL c v.kids ≤ 128 * massL v.kids := fun c hc => sizeL_mass hc ih
              have h8 := this (if v.k = 8 ∨ v.k = 10 then 8 else 0) (by split <;> omega)
              have h9 : (if v.k = 8 ∨ v.k = 9 then 8 else 0) ≤ 8 := by split <;> omega
              omega
    omega
theorem bodyV_mass (v : Vt) : bodyV v ≤ 128 * massV v := by have := sizeV_mass v; rw [sizeV_eq] at this; have := padN_le (bodyV v); omega
theorem weightV_le (v : Vt) : ∀ left : Int, weightV v left < left := by
  induction v using Vt.ind with
  | h v ih =>
    intro left
    rw [weightV_eq]
    have : ∀ (l : List Vt), (∀ x ∈ l, ∀ left : Int, weightV x left < left) → ∀ left : Int, weightL l left ≤ left := fun l => by
      induction l with
      | nil => intro _ _; rw [weightL]; omega
      | cons y l ihl =>
        intro hl left
        rw [weightL]
        split
        · have h1 := hl y (List.mem_cons_self ..) left
          have h2 := ihl (fun x hx => hl x (List.mem_cons_of_mem _ hx)) (weightV y left)
          omega
        · omega
    have := this _ ih (left - 1 - v.keys.length - (v.s.size / 64 : Nat))
    omega
theorem weightV_mass (v : Vt) : ∀ left : Int, 0 < weightV v left → weightV v left = left - massV v := by
  induction v using Vt.ind with
  | h v ih =>
    intro left
    rw [weightV_eq, massV_eq]
    have : ∀ (l : List Vt), (∀ x ∈ l, ∀ left : Int, 0 < weightV x left → weightV x left = left - massV x) → ∀ left : Int, 0 < weightL l left → weightL l left = left - massL l := fun l => by
      induction l with
      | nil => intro _ left _; rw [weightL, massL]; omega
      | cons y l ihl =>
        intro hl left
        rw [weightL, massL]
        split
        · intro h0
          have h2 := ihl (fun x hx => hl x (List.mem_cons_of_mem _ hx)) (weightV y left) h0
          have h1 := hl y (List.mem_cons_self ..) left (by omega)
          omega
        · omega
    intro h0
    have := this _ ih _ h0
    omega
theorem light_mass {v : Vt} (h : 0 < weightV v 3000) : massV v < 3000 := by have := weightV_mass v 3000 h; omega
def Bare (v : Vt) (n s ks kd : Bool) : Prop := (n = true ∨ v.n = 0) ∧ (s = true ∨ v.s = ⟨#[]⟩) ∧ (ks = true ∨ v.keys.length = 0) ∧ (kd = true ∨ v.kids.length = 0)
def KeyOk (hi : Int) (st : Bool) (l : List Int) (i : Nat) : Prop := 0 ≤ l.getD i 0 ∧ l.getD i 0 ≤ hi ∧ (i = 0 ∨ l.getD (i - 1) 0 < l.getD i 0 ∨ (st = false ∧ l.getD (i - 1) 0 = l.getD i 0))
def KeysOk (hi : Int) (st : Bool) (l : List Int) : Prop := ∀ i, i < l.length → KeyOk hi st l i
def NumsOk (how : Int) : List Int → Prop
  | [] => False
  | d :: L => (how = 1 ∧ L.length = 0) ∨ (how = 2 ∧ dis L = true ∧ L.contains d = true) ∨ (how = 3 ∧ L.length = 2 ∧ L.getD 0 0 ≤ d ∧ d ≤ L.getD 1 0) ∨
    (how = 4 ∧ L.length = 3 ∧ 0 < L.getD 2 0 ∧ L.getD 0 0 ≤ d ∧ d ≤ L.getD 1 0 ∧ (IntKind.u64.wrap (IntKind.u64.wrap d - IntKind.u64.wrap (L.getD 0 0))).tmod (IntKind.u64.wrap (L.getD 2 0)) = 0)
def ListOk (l : List Vt) : Prop := ∀ x ∈ l, (x.k = 2 ∨ x.k = 3 ∨ x.k = 4) ∧ x.k = (l.head?.map Vt.k).getD 0
def Formed (v : Vt) : Prop :=
  (v.k = 1 ∧ Bare v false false false false) ∨ (v.k = 2 ∧ (v.n = 0 ∨ v.n = 1) ∧ Bare v true false false false) ∨ (v.k = 3 ∧ Bare v true false false false) ∨
  (v.k = 4 ∧ 0 ∉ v.s.data.toList ∧ Bare v false true false false) ∨ (v.k = 5 ∧ Bare v false true false false) ∨ (v.k = 6 ∧ Bare v false false false true ∧ ListOk v.kids) ∨
  (v.k = 7 ∧ Bare v false false false true) ∨ (v.k = 8 ∧ (v.s = ⟨#[]⟩ ∧ 0 ≤ v.n ∧ v.n ≤ 2147483647 ∧ v.keys.length = v.kids.length) ∧ KeysOk 2147483647 true v.keys) ∨
  (v.k = 9 ∧ Bare v true false false true ∧ (∀ x ∈ v.kids, x.k = 3) ∧ NumsOk v.n (v.kids.map Vt.n)) ∨
  (v.k = 10 ∧ (v.s = ⟨#[]⟩ ∧ v.n = 0 ∧ v.keys.length = v.kids.length) ∧ KeysOk 1000000000 false v.keys ∧ ∀ x ∈ v.kids, x.k ≠ 10)
inductive AllV : Vt → Prop
  | mk {v : Vt} : Formed v → (∀ x ∈ v.kids, AllV x) → AllV v
theorem AllV.form {v : Vt} : AllV v → Formed v | .mk h _ => h
theorem AllV.kids {v : Vt} : AllV v → ∀ x ∈ v.kids, AllV x | .mk _ h => h
theorem allV_iff {v : Vt} : AllV v ↔ Formed v ∧ ∀ x ∈ v.kids, AllV x := ⟨fun h => ⟨h.form, h.kids⟩, fun h => .mk h.1 h.2⟩
def ValidV (v : Vt) : Prop := AllV v ∧ deepV v ≤ 10 ∧ countV v ≤ 500 ∧ sizeV v ≤ 65536
theorem Formed.kind {v : Vt} (h : Formed v) : 1 ≤ v.k ∧ v.k ≤ 10 := by unfold Formed at h; omega
mutual
def preV : Vt → Int → List (Vt × Int) | .mk k n s ks l, d => (.mk k n s ks l, d) :: preVl l (d + 1)
def preVl : List Vt → Int → List (Vt × Int) | [], _ => [] | x :: l, d => preV x d ++ preVl l d
end
theorem preV_eq (v : Vt) (d : Int) : preV v d = (v, d) :: preVl v.kids (d + 1) := by cases v; rw [preV]; rfl
theorem preVl_app : ∀ (a b : List Vt) (d : Int), preVl (a ++ b) d = preVl a d ++ preVl b d
  | [], b, d => by simp [preVl]
  | x :: a, b, d => by simp only [List.cons_append,preVl,preVl_app a b d,List.append_assoc]
theorem preVl_take {l : List Vt} {i : Nat} (h : i < l.length) (d : Int) : preVl (l.take (i + 1)) d = preVl (l.take i) d ++ preV l[i] d := by
  rw [List.take_succ_eq_append_getElem h, preVl_app]; simp [preVl]
theorem preV_len (v : Vt) : ∀ d, (preV v d).length = countV v := by
  induction v using Vt.ind with
  | h v ih =>
    intro d
    rw [preV_eq, countV_eq]
    have : ∀ (l : List Vt) (d : Int), (∀ x ∈ l, ∀ d, (preV x d).length = countV x) → (preVl l d).length = countL l := fun l d => by
      induction l with
      | nil => intro _; simp [preVl, countL]
      | cons y l ihl =>
        intro hl
        rw [preVl, countL, List.length_append, hl y (List.mem_cons_self ..), ihl fun x hx => hl x (List.mem_cons_of_mem _ hx)]
    rw [List.length_cons, this _ _ ih]; omega
theorem preV_deep (v : Vt) : ∀ (d m : Int), (∀ p ∈ preV v d, p.2 ≤ m) ↔ d + deepV v ≤ m + 1 := by
  induction v using Vt.ind with
  | h v ih =>
    intro d m
    rw [preV_eq, deepV_eq]
    have : ∀ (l : List Vt) (d m : Int), (∀ x ∈ l, ∀ d m : Int, (∀ p ∈ preV x d, p.2 ≤ m) ↔ d + deepV x ≤ m + 1) → d ≤ m + 1 → ((∀ p ∈ preVl l d, p.2 ≤ m) ↔ d + deepL l ≤ m + 1) := fun l d m => by
      induction l with
      | nil => intro _ hd; simp [preVl, deepL]; omega
      | cons y l ihl =>
        intro hl hd
        have h1 := hl y (List.mem_cons_self ..) d m
        have h2 := ihl (fun x hx => hl x (List.mem_cons_of_mem _ hx)) hd
        simp only [preVl,deepL,List.mem_append]
        constructor
        · intro h
          have a := h1.1 fun p hp => h p (.inl hp)
          have b := h2.1 fun p hp => h p (.inr hp)
          omega
        · intro h p hp
          rcases hp with hp | hp
          · exact h1.2 (by omega) p hp
          · exact h2.2 (by omega) p hp
    simp only [List.mem_cons,forall_eq_or_imp]
    constructor
    · rintro ⟨h1, h2⟩
      have := (this _ _ _ ih (by omega)).1 h2
      omega
    · intro h
      exact ⟨by omega, (this _ _ _ ih (by omega)).2 (by omega)⟩
theorem preV_all (P : Vt → Prop) (v : Vt) : ∀ (d : Int), (∀ p ∈ preV v d, P p.1) ↔ P v ∧ ∀ x ∈ v.kids, ∀ p ∈ preV x (d + 1), P p.1 := by
  intro d
  rw [preV_eq]
  have : ∀ (l : List Vt) (d : Int), (∀ p ∈ preVl l d, P p.1) ↔ ∀ x ∈ l, ∀ p ∈ preV x d, P p.1 := fun l d => by
    induction l with
    | nil => simp [preVl]
    | cons y l ihl =>
      simp only [preVl,List.mem_append,List.mem_cons,forall_eq_or_imp]
      constructor
      · intro h
        exact ⟨fun p hp => h p (.inl hp), ihl.1 fun p hp => h p (.inr hp)⟩
      · rintro ⟨h1, h2⟩ p (hp | hp)
        · exact h1 p hp
        · exact ihl.2 h2 p hp
  simp only [List.mem_cons,forall_eq_or_imp,this]
theorem preV_formed (v : Vt) : ∀ (d : Int), (∀ p ∈ preV v d, Formed p.1) ↔ AllV v := by
  induction v using Vt.ind with
  | h v ih =>
    intro d
    rw [preV_all, allV_iff]
    constructor
    · rintro ⟨h1, h2⟩; exact ⟨h1, fun x hx => (ih x hx _).1 (h2 x hx)⟩
    · rintro ⟨h1, h2⟩; exact ⟨h1, fun x hx => (ih x hx _).2 (h2 x hx)⟩
def numV (n : Int) : Vt := .mk 3 n ⟨#[]⟩ [] []
def chVt (c : Ch) : Vt := .mk 9 c.k ⟨#[]⟩ [] (numV c.d :: (if c.k = 1 then [] else c.L.map numV))
def fmVt (f : Fm) : Vt := .mk 8 f.m ⟨#[]⟩ (f.F.map (·.key)) (f.F.map fun x => chVt x.c)
def chOf (v : Vt) : Ch := ⟨v.n, ((v.kids.map Vt.n).getD 0 0), if v.n = 1 then [(v.kids.map Vt.n).getD 0 0] else (v.kids.map Vt.n).drop 1⟩
def fldsOf (ks : List Int) (l : List Vt) : List Fl := List.zipWith (fun k v => ⟨k, chOf v⟩) ks l
def fmOf (v : Vt) : Fm := ⟨v.n, fldsOf v.keys v.kids⟩
def FieldsIn (v : Vt) : Prop := ∀ i, i < v.kids.length → 1 ≤ v.keys.getD i 0 ∧ v.keys.getD i 0 ≤ 6 ∧ (v.kids.map Vt.k).getD i 0 = 9
def FromR (v : Vt) : Int ⊕ Fm → Prop
  | .inl e => (e = 10 ∧ ¬(ValidV v ∧ v.k = 8 ∧ 1 ≤ v.n ∧ v.n ≤ 3 ∧ FieldsIn v)) ∨ (e = 1 ∧ (ValidV v ∧ v.k = 8 ∧ 1 ≤ v.n ∧ v.n ≤ 3 ∧ FieldsIn v) ∧ (fmOf v).valid = false)
  | .inr f => (ValidV v ∧ v.k = 8 ∧ 1 ≤ v.n ∧ v.n ≤ 3 ∧ FieldsIn v) ∧ (fmOf v).valid = true ∧ f = fmOf v
end Go.Proofs.YthcdnjbhhaonhaaGreatDoor
/- Layer 01: values in memory. -/
namespace Go.Proofs.YthcdnjbhhaonhaaGreatDoor
open Go.RowKit
def vtCs (v : Vt) (s1 s2 : Value) : List Value := [.int .i64 v.k, .int .i64 v.n, .string v.s, s1, s2]
def vtV (v : Vt) (s1 s2 : Value) : Value := .agg #[.int .i64 v.k, .int .i64 v.n, .string v.s, s1, s2]
mutual
def VAt (w : World) : Vt → Value → Value → Prop
  | .mk _ n s ks l, s1, s2 => (s.size ≤ 140737488355328 ∧ ks.length ≤ 140737488355328 ∧ -9223372036854775808 ≤ n ∧ n ≤ 9223372036854775807) ∧ SlI w s1 ks ∧ ∃ p cap, s2 = .slice p l.length cap ∧ l.length ≤ cap ∧ cap ≤ maxLen ∧ (l ≠ [] → ∃ b o, p = some ⟨b, o, none⟩ ∧ VsAt w b o l)
def VsAt (w : World) (b : Nat) : Nat → List Vt → Prop
  | _, [] => True
  | o, x :: l => (∃ s1 s2, Row w b o (vtCs x s1 s2) ∧ VAt w x s1 s2) ∧ VsAt w b (o + 5) l
end
def SlV (w : World) (v : Value) (l : List Vt) : Prop := ∃ p cap, v = .slice p l.length cap ∧ l.length ≤ cap ∧ cap ≤ maxLen ∧ (l ≠ [] → ∃ b o, p = some ⟨b, o, none⟩ ∧ VsAt w b o l)
section
variable {w w' : World}
theorem vat_iff {v : Vt} {s1 s2 : Value} : VAt w v s1 s2 ↔ (v.s.size ≤ 140737488355328 ∧ v.keys.length ≤ 140737488355328 ∧ -9223372036854775808 ≤ v.n ∧ v.n ≤ 9223372036854775807) ∧ SlI w s1 v.keys ∧ SlV w s2 v.kids := by cases v; rw [VAt]; rfl
theorem VAt.text {v : Vt} {s1 s2 : Value} (h : VAt w v s1 s2) : v.s.size ≤ 140737488355328 ∧ v.keys.length ≤ 140737488355328 ∧ -9223372036854775808 ≤ v.n ∧ v.n ≤ 9223372036854775807 := (vat_iff.1 h).1
theorem VAt.ks {v : Vt} {s1 s2 : Value} (h : VAt w v s1 s2) : SlI w s1 v.keys := (vat_iff.1 h).2.1
theorem VAt.vs {v : Vt} {s1 s2 : Value} (h : VAt w v s1 s2) : SlV w s2 v.kids := (vat_iff.1 h).2.2
theorem vsat_iff {b : Nat} : ∀ {l : List Vt} {o : Nat}, VsAt w b o l ↔ ∀ i x, l[i]? = some x → ∃ s1 s2, Row w b (o + 5 * i) (vtCs x s1 s2) ∧ VAt w x s1 s2
  | [], o => by simp [VsAt]
  | y :: l, o => by
    rw [VsAt, vsat_iff (l := l)]
    constructor
    · rintro ⟨h1, h2⟩ i x hx
      cases i with
      | zero => cases hx; exact h1
      | succ i => have := h2 i x hx; rw [show o + 5 * (i + 1) = o + 5 + 5 * i by omega]; exact this
    · intro h
      refine ⟨h 0 y rfl, fun i x hx => ?_⟩
      have := h (i + 1) x hx
      rw [show o + 5 * (i + 1) = o + 5 + 5 * i by omega] at this; exact this
theorem vat_ext (he : Ext w w') (v : Vt) : ∀ s1 s2, VAt w v s1 s2 → VAt w' v s1 s2 := by
  induction v using Vt.ind with
  | h v ih =>
    intro s1 s2 h
    rw [vat_iff] at h ⊢
    obtain ⟨h1, h2, p, cap, h3, h4, h5, h6⟩ := h
    refine ⟨h1, h2.ext he, p, cap, h3, h4, h5, fun hne => ?_⟩
    obtain ⟨b, o, h7, h8⟩ := h6 hne
    refine ⟨b, o, h7, vsat_iff.2 fun i x hx => ?_⟩
    obtain ⟨t1, t2, h9, h10⟩ := vsat_iff.1 h8 i x hx
    exact ⟨t1, t2, h9.ext he, ih x (List.mem_of_getElem? hx) _ _ h10⟩
theorem VAt.ext {v : Vt} {s1 s2 : Value} (h : VAt w v s1 s2) (he : Ext w w') : VAt w' v s1 s2 := vat_ext he v _ _ h
theorem SlV.ext {s : Value} {l : List Vt} (h : SlV w s l) (he : Ext w w') : SlV w' s l := by
  obtain ⟨p, cap, h3, h4, h5, h6⟩ := h
  refine ⟨p, cap, h3, h4, h5, fun hne => ?_⟩
  obtain ⟨b, o, h7, h8⟩ := h6 hne
  refine ⟨b, o, h7, vsat_iff.2 fun i x hx => ?_⟩
  obtain ⟨t1, t2, h9, h10⟩ := vsat_iff.1 h8 i x hx
  exact ⟨t1, t2, h9.ext he, h10.ext he⟩
theorem SlV.shape {s : Value} {l : List Vt} (h : SlV w s l) : ∃ p cap, s = .slice p l.length cap ∧ l.length ≤ cap ∧ cap ≤ maxLen := by
  obtain ⟨p, cap, h3, h4, h5, _⟩ := h
  exact ⟨p, cap, h3, h4, h5⟩
theorem SlV.nil (w : World) : SlV w (.slice none 0 0) [] := ⟨none, 0, rfl, by simp, by simp, fun h => absurd rfl h⟩
theorem SlV.get {p : Option Addr} {n cap i : Nat} {l : List Vt} (h : SlV w (.slice p n cap) l) (hi : i < l.length) : ∃ b o q1 m1 c1 q2 c2, p = some ⟨b, o, none⟩ ∧ w.cell? ⟨b, o + 5 * i, none⟩ = some (.int .i64 l[i].k) ∧ w.cell? ⟨b, o + 5 * i + 1, none⟩ = some (.int .i64 l[i].n) ∧
    w.cell? ⟨b, o + 5 * i + 2, none⟩ = some (.string l[i].s) ∧ w.cell? ⟨b, o + 5 * i + 3, none⟩ = some (.slice q1 m1 c1) ∧ w.cell? ⟨b, o + 5 * i + 4, none⟩ = some (.slice q2 l[i].kids.length c2) ∧ VAt w l[i] (.slice q1 m1 c1) (.slice q2 l[i].kids.length c2) ∧ m1 = l[i].keys.length := by
  obtain ⟨p', cap', h1, _, _, h4⟩ := h
  cases h1
  obtain ⟨b, o, h5, h6⟩ := h4 (by intro h0; rw [h0] at hi; simp at hi)
  obtain ⟨s1, s2, h7, h8⟩ := vsat_iff.1 h6 i l[i] (List.getElem?_eq_getElem hi)
  obtain ⟨q1, c1, rfl, _, _⟩ := h8.ks.shape
  obtain ⟨q2, c2, rfl, _, _⟩ := h8.vs.shape
  exact ⟨b, o, q1, _, c1, q2, c2, h5, h7 0 _ rfl, h7 1 _ rfl, h7 2 _ rfl, h7 3 _ rfl, h7 4 _ rfl, h8, rfl⟩
theorem SlV.tail {b o n cap : Nat} {x : Vt} {l : List Vt} (h : SlV w (.slice (some ⟨b, o, none⟩) n cap) (x :: l)) (q : Option Addr) (hq : l ≠ [] → q = some ⟨b, o + 5, none⟩) : SlV w (.slice q (n - 1) (cap - 1)) l := by
  obtain ⟨p', cap', h1, h2, h3, h4⟩ := h
  cases h1
  simp only [List.length_cons] at h2
  refine ⟨q, cap - 1, by simp, by omega, by omega, fun hne => ⟨b, o + 5, hq hne, ?_⟩⟩
  obtain ⟨b', o', h5, h6⟩ := h4 (by simp)
  cases h5
  rw [VsAt] at h6
  exact h6.2
end
def YesQ (p : Prop) (w : World) (r : Value) (w' : World) : Prop := Ext w w' ∧ ∃ b : Bool, r = .bool b ∧ (b = true ↔ p)
theorem YesQ.mk' {p : Prop} {w w' : World} (h : Ext w w') {b : Bool} (hb : b = true ↔ p) : YesQ p w (.bool b) w' := ⟨h, b, rfl, hb⟩
theorem YesQ.yes {p : Prop} {w w' : World} (h : Ext w w') (hp : p) : YesQ p w (.bool true) w' := ⟨h, true, rfl, by simp [hp]⟩
theorem YesQ.no {p : Prop} {w w' : World} (h : Ext w w') (hp : ¬ p) : YesQ p w (.bool false) w' := ⟨h, false, rfl, by simp [hp]⟩
end Go.Proofs.YthcdnjbhhaonhaaGreatDoor

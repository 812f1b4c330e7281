/- Closed runs: a reader of the code over an abstract memory, by evaluation alone. First part: tries, values side by side, operations that only read. -/
import Derived.Test.YtcglagkhnegbbaaGreatMwIn
import Derived.Test.YtcglagkhnegbbaaGreatMwMem
namespace Go.Proofs.YtcglagkhnegbbaaGreat
open Go.RowKit
noncomputable section
set_option linter.unusedVariables false

/-! ## Tries -/
inductive Tr (α : Type) where
  | e
  | n (l : Tr α) (v : Option α) (r : Tr α)
def Tr.getN {α : Type} (v : Option α) (gl gr : Nat → Option α) (k : Nat) : Option α := Nat.rec v (fun k _ => Bool.rec (gr (Nat.div k 2)) (gl (Nat.div k 2)) (Nat.beq (Nat.mod k 2) 0)) k
noncomputable def Tr.get {α : Type} (t : Tr α) : Nat → Option α := Tr.rec (fun _ => none) (fun _ v _ gl gr k => Tr.getN v gl gr k) t
noncomputable def Tr.path {α : Type} (v : Option α) (f : Nat) : Nat → Tr α :=
  Nat.rec (fun _ => .e) (fun _ ih k => Nat.rec (.n .e v .e) (fun k _ => Bool.rec (.n .e none (ih (Nat.div k 2))) (.n (ih (Nat.div k 2)) none .e) (Nat.beq (Nat.mod k 2) 0)) k) f
noncomputable def Tr.set {α : Type} (t : Tr α) (k : Nat) (v : Option α) : Tr α :=
  Tr.rec (motive := fun _ => Nat → Tr α) (fun k => Tr.path v (Nat.succ k) k) (fun l x r sl sr k => Nat.rec (.n l v r) (fun k _ => Bool.rec (.n l x (sr (Nat.div k 2))) (.n (sl (Nat.div k 2)) x r) (Nat.beq (Nat.mod k 2) 0)) k) t k
theorem Tr.get_e {α : Type} (k : Nat) : (Tr.e : Tr α).get k = none := rfl
theorem Tr.get_zero {α : Type} (l : Tr α) (v : Option α) (r : Tr α) : (Tr.n l v r).get 0 = v := rfl
theorem Tr.get_succ {α : Type} (l : Tr α) (v : Option α) (r : Tr α) (k : Nat) : (Tr.n l v r).get (k + 1) = if k % 2 = 0 then l.get (k / 2) else r.get (k / 2) := by
  have h : (Tr.n l v r).get (k + 1) = Bool.rec (r.get (k / 2)) (l.get (k / 2)) (Nat.beq (k % 2) 0) := rfl
  rw [h]
  rcases Nat.mod_two_eq_zero_or_one k with hk | hk <;> rw [hk] <;> rfl
theorem Tr.get_path {α : Type} (v : Option α) : ∀ (f k j : Nat), k < f → (Tr.path v f k).get j = if j = k then v else none
  | 0, _, _, h => by omega
  | f + 1, 0, j, _ => by
    have h : Tr.path v (f + 1) 0 = .n .e v .e := rfl
    rw [h]
    cases j with
    | zero => simp [Tr.get_zero]
    | succ j => rw [Tr.get_succ]; simp [Tr.get_e]
  | f + 1, k + 1, j, hk => by
    have h : Tr.path v (f + 1) (k + 1) = Bool.rec (.n .e none (Tr.path v f (k / 2))) (.n (Tr.path v f (k / 2)) none .e) (Nat.beq (k % 2) 0) := rfl
    have ih := Tr.get_path v f (k / 2) ((j - 1) / 2) (by omega)
    rcases Nat.mod_two_eq_zero_or_one k with hk2 | hk2 <;> rw [h, hk2]
    · show (Tr.n (Tr.path v f (k / 2)) none .e).get j = _
      cases j with
      | zero => simp [Tr.get_zero]
      | succ j =>
        simp only [Nat.add_sub_cancel] at ih
        rcases Nat.mod_two_eq_zero_or_one j with hj | hj
        · simp [Tr.get_succ, hj, ih, show (j / 2 = k / 2) ↔ (j = k) by omega]
        · simp [Tr.get_succ, hj, Tr.get_e, show ¬ j = k by omega]
    · show (Tr.n .e none (Tr.path v f (k / 2))).get j = _
      cases j with
      | zero => simp [Tr.get_zero]
      | succ j =>
        simp only [Nat.add_sub_cancel] at ih
        rcases Nat.mod_two_eq_zero_or_one j with hj | hj
        · simp [Tr.get_succ, hj, Tr.get_e, show ¬ j = k by omega]
        · simp [Tr.get_succ, hj, ih, show (j / 2 = k / 2) ↔ (j = k) by omega]
theorem Tr.get_set {α : Type} : ∀ (t : Tr α) (k : Nat) (v : Option α) (j : Nat), (t.set k v).get j = if j = k then v else t.get j
  | .e, k, v, j => by
    have h : (Tr.e : Tr α).set k v = Tr.path v (k + 1) k := rfl
    rw [h, Tr.get_path _ _ _ _ (by omega), Tr.get_e]
  | .n l x r, 0, v, j => by
    have h : (Tr.n l x r).set 0 v = .n l v r := rfl
    rw [h]
    cases j with
    | zero => simp [Tr.get_zero]
    | succ j => simp [Tr.get_succ]
  | .n l x r, k + 1, v, j => by
    have h : (Tr.n l x r).set (k + 1) v = Bool.rec (.n l x (r.set (k / 2) v)) (.n (l.set (k / 2) v) x r) (Nat.beq (k % 2) 0) := rfl
    have ih := Tr.get_set l (k / 2) v ((j - 1) / 2)
    have ih2 := Tr.get_set r (k / 2) v ((j - 1) / 2)
    rcases Nat.mod_two_eq_zero_or_one k with hk2 | hk2 <;> rw [h, hk2]
    · show (Tr.n (l.set (k / 2) v) x r).get j = _
      cases j with
      | zero => simp [Tr.get_zero]
      | succ j =>
        simp only [Nat.add_sub_cancel] at ih
        rcases Nat.mod_two_eq_zero_or_one j with hj | hj
        · simp [Tr.get_succ, hj, ih, show (j / 2 = k / 2) ↔ (j = k) by omega]
        · simp [Tr.get_succ, hj, show ¬ j = k by omega]
    · show (Tr.n l x (r.set (k / 2) v)).get j = _
      cases j with
      | zero => simp [Tr.get_zero]
      | succ j =>
        simp only [Nat.add_sub_cancel] at ih2
        rcases Nat.mod_two_eq_zero_or_one j with hj | hj
        · simp [Tr.get_succ, hj, show ¬ j = k by omega]
        · simp [Tr.get_succ, hj, ih2, show (j / 2 = k / 2) ↔ (j = k) by omega]

/-! ## Values side by side -/
/-- Where a row of the abstract memory lies: its block, how many cells it has, how many an element has. -/
structure Ent where
  b : Nat
  tot : Nat
  es : Nat
  fz : Nat × Nat
/-- From here on a capacity is not known. -/
def capU : Nat := 281474976710656
inductive VR (σ : Nat → Option Ent) (η : Nat → Value) : Value → Value → Prop
  | bool (b : Bool) : VR σ η (.bool b) (.bool b)
  | int (k : IntKind) (n : Int) : VR σ η (.int k n) (.int k n)
  | string (s : ByteArray) : VR σ η (.string s) (.string s)
  | nilPtr : VR σ η (.pointer none) (.pointer none)
  | ptr {j o : Nat} {x : Ent} (h : σ j = some x) : VR σ η (.pointer (some ⟨j, o, none⟩)) (.pointer (some ⟨x.b, o, none⟩))
  | nilSlc : VR σ η (.slice none 0 0) (.slice none 0 0)
  | slc {j o n c c' o' : Nat} {x : Ent} (h : σ j = some x) (ho : o' = o ∨ (n = 0 ∧ capU ≤ c ∧ 0 < o)) (hm : c' ≤ maxLen) (hn : n ≤ c') (h1 : c < capU → c' = c) (h2 : capU ≤ c → o = 0 → c' * x.es = x.tot) :
      VR σ η (.slice (some ⟨j, o, none⟩) n c) (.slice (some ⟨x.b, o', none⟩) n c')
  | nilMap : VR σ η (.map none) (.map none)
  | map {j : Nat} {x : Ent} (h : σ j = some x) : VR σ η (.map (some j)) (.map (some x.b))
  | nilFunc : VR σ η .nilFunc .nilFunc
  | func {f : Fn} {a a' b b' : Array Value} (ha : a.size = a'.size) (hb : b.size = b'.size) (h1 : ∀ (i : Nat) u v, a[i]? = some u → a'[i]? = some v → VR σ η u v) (h2 : ∀ (i : Nat) u v, b[i]? = some u → b'[i]? = some v → VR σ η u v) : VR σ η (.func f a b) (.func f a' b')
  | nilIface : VR σ η .nilIface .nilIface
  | iface {t : TypeId} {u v : Value} (h : VR σ η u v) : VR σ η (.iface t u) (.iface t v)
  | agg {a a' : Array Value} (ha : a.size = a'.size) (h1 : ∀ (i : Nat) u v, a[i]? = some u → a'[i]? = some v → VR σ η u v) : VR σ η (.agg a) (.agg a')
  | tuple {a a' : Array Value} (ha : a.size = a'.size) (h1 : ∀ (i : Nat) u v, a[i]? = some u → a'[i]? = some v → VR σ η u v) : VR σ η (.tuple a) (.tuple a')
  | yld {j : Nat} {x : Ent} (h : σ j = some x) : VR σ η (.complex .f64 j 0) (.func (.yield x.b) #[] #[])
  | hole (i : Nat) (h : (η i).oneCell' = true) : VR σ η (.chan (some i)) (η i)
/-- Rows of values side by side. -/
def VRs (σ : Nat → Option Ent) (η : Nat → Value) (a a' : List Value) : Prop := a.length = a'.length ∧ ∀ (i : Nat) u v, a[i]? = some u → a'[i]? = some v → VR σ η u v
def Sub (σ σ' : Nat → Option Ent) : Prop := ∀ j x, σ j = some x → σ' j = some x
theorem Sub.refl (σ : Nat → Option Ent) : Sub σ σ := fun _ _ h => h
theorem Sub.trans {a b c : Nat → Option Ent} (h : Sub a b) (k : Sub b c) : Sub a c := fun _ _ x => k _ _ (h _ _ x)
theorem VR.mono {σ σ' : Nat → Option Ent} {η : Nat → Value} (hs : Sub σ σ') {u v : Value} (h : VR σ η u v) : VR σ' η u v := by
  induction h with
  | bool b => exact .bool b
  | int k n => exact .int k n
  | string s => exact .string s
  | nilPtr => exact .nilPtr
  | ptr h => exact .ptr (hs _ _ h)
  | nilSlc => exact .nilSlc
  | slc h ho hm hn h1 h2 => exact .slc (hs _ _ h) ho hm hn h1 h2
  | nilMap => exact .nilMap
  | map h => exact .map (hs _ _ h)
  | nilFunc => exact .nilFunc
  | func ha hb _ _ h1 h2 => exact .func ha hb h1 h2
  | nilIface => exact .nilIface
  | iface _ h => exact .iface h
  | agg ha _ h => exact .agg ha h
  | tuple ha _ h => exact .tuple ha h
  | yld h => exact .yld (hs _ _ h)
  | hole i h => exact .hole i h
theorem VRs.mono {σ σ' : Nat → Option Ent} {η : Nat → Value} (hs : Sub σ σ') {u v : List Value} (h : VRs σ η u v) : VRs σ' η u v := ⟨h.1, fun i a b ha hb => (h.2 i a b ha hb).mono hs⟩
section
variable {P : Program} {σ : Nat → Option Ent} {η : Nat → Value}
theorem VRs.nil : VRs σ η [] [] := ⟨rfl, fun i u v h => by simp at h⟩
theorem VRs.cons {u v : Value} {a b : List Value} (h : VR σ η u v) (k : VRs σ η a b) : VRs σ η (u :: a) (v :: b) :=
  ⟨by simp [k.1], fun i x y hx hy => by
    cases i with
    | zero => simp at hx hy; subst hx hy; exact h
    | succ i => simp at hx hy; exact k.2 i x y hx hy⟩
theorem VRs.append {a b c d : List Value} (h : VRs σ η a b) (k : VRs σ η c d) : VRs σ η (a ++ c) (b ++ d) :=
  ⟨by simp [h.1, k.1], fun i x y hx hy => by
    by_cases hi : i < a.length
    · rw [List.getElem?_append_left hi] at hx
      rw [List.getElem?_append_left (h.1 ▸ hi)] at hy
      exact h.2 i x y hx hy
    · rw [List.getElem?_append_right (by omega)] at hx
      rw [List.getElem?_append_right (by have := h.1; omega), ← h.1] at hy
      exact k.2 _ x y hx hy⟩
theorem VRs.take {a b : List Value} (h : VRs σ η a b) (n : Nat) : VRs σ η (a.take n) (b.take n) :=
  ⟨by simp [h.1], fun i x y hx hy => by
    rw [List.getElem?_take] at hx hy
    split at hx
    · rename_i hi; rw [if_pos hi] at hy; exact h.2 i x y hx hy
    · cases hx⟩
theorem VRs.drop {a b : List Value} (h : VRs σ η a b) (n : Nat) : VRs σ η (a.drop n) (b.drop n) :=
  ⟨by simp [h.1], fun i x y hx hy => by
    rw [List.getElem?_drop] at hx hy
    exact h.2 _ x y hx hy⟩
theorem VRs.get {a b : List Value} (h : VRs σ η a b) {i : Nat} {u : Value} (hu : a[i]? = some u) : ∃ v, b[i]? = some v ∧ VR σ η u v := by
  have hi : i < b.length := by rw [← h.1]; exact (List.getElem?_eq_some_iff.1 hu).1
  exact ⟨b[i], List.getElem?_eq_getElem hi, h.2 i _ _ hu (List.getElem?_eq_getElem hi)⟩
theorem VRs.agg {a b : List Value} (h : VRs σ η a b) : VR σ η (.agg a.toArray) (.agg b.toArray) := .agg (by simpa using h.1) (fun i u v hu hv => h.2 i u v (by simpa using hu) (by simpa using hv))
theorem VRs.tuple {a b : List Value} (h : VRs σ η a b) : VR σ η (.tuple a.toArray) (.tuple b.toArray) := .tuple (by simpa using h.1) (fun i u v hu hv => h.2 i u v (by simpa using hu) (by simpa using hv))
theorem VRs.ofArr {a b : Array Value} (ha : a.size = b.size) (h1 : ∀ (i : Nat) u v, a[i]? = some u → b[i]? = some v → VR σ η u v) : VRs σ η a.toList b.toList := ⟨by simpa using ha, fun i u v hu hv => h1 i u v (by simpa using hu) (by simpa using hv)⟩

/-- A closed value of one cell. -/
def cvA : Value → Bool
  | .bool _ | .int _ _ | .string _ | .pointer none | .nilIface | .nilFunc | .map none => true
  | .slice none 0 0 => true
  | _ => false
def cv : Value → Bool
  | .agg cs => cs.toList.all cvA
  | .tuple cs => cs.toList.all cvA
  | v => cvA v
theorem VR.cvA {v : Value} (h : cvA v = true) : VR σ η v v := by
  unfold Go.Proofs.YtcglagkhnegbbaaGreat.cvA at h
  split at h <;> first | exact .bool _ | exact .int _ _ | exact .string _ | exact .nilPtr | exact .nilIface | exact .nilFunc | exact .nilMap | exact .nilSlc | cases h
theorem VRs.cvA {l : List Value} (h : l.all Go.Proofs.YtcglagkhnegbbaaGreat.cvA = true) : VRs σ η l l := ⟨rfl, fun i u v hu hv => by
  rw [hu] at hv
  cases hv
  exact VR.cvA (List.all_eq_true.1 h u (List.mem_of_getElem? hu))⟩
theorem VR.cv {v : Value} (h : cv v = true) : VR σ η v v := by
  unfold Go.Proofs.YtcglagkhnegbbaaGreat.cv at h
  split at h
  · rename_i cs; have := VRs.agg (σ := σ) (η := η) (VRs.cvA h); simpa using this
  · rename_i cs; have := VRs.tuple (σ := σ) (η := η) (VRs.cvA h); simpa using this
  · exact VR.cvA h
theorem VR.undef : VR σ η undef undef := .tuple rfl (fun i u v hu => by simp at hu)
theorem VR.cells {u v : Value} (h : VR σ η u v) : VRs σ η u.cells.toList v.cells.toList := by
  cases h with
  | agg ha h1 => exact VRs.ofArr ha h1
  | hole i h =>
    have : (η i).cells = #[η i] := by cases hi : η i <;> simp_all [Value.oneCell', Value.cells]
    rw [this]
    exact VRs.cons (.hole i h) .nil
  | _ => exact VRs.cons (by constructor <;> assumption) .nil

def ER (σ : Nat → Option Ent) (η : Nat → Value) (E : Tr Value) (e : Env) : Prop := ∀ t, VR σ η ((E.get t).getD undef) (e t)
theorem ER.mono {σ' : Nat → Option Ent} (hs : Sub σ σ') {E : Tr Value} {e : Env} (h : ER σ η E e) : ER σ' η E e := fun t => (h t).mono hs
/-! ## Operations that only read -/
theorem ER.upd {E : Tr Value} {e : Env} (h : ER σ η E e) (d : Nat) {u v : Value} (hv : VR σ η u v) : ER σ η (E.set d (some u)) (upd e d v) := fun t => by
  rw [Tr.get_set]
  unfold Go.Proofs.YtcglagkhnegbbaaGreat.upd
  split
  · exact hv
  · exact h t
def setO (E : Tr Value) (d : Option Nat) (v : Value) : Tr Value := match d with | some d => E.set d (some v) | none => E
theorem ER.updO {E : Tr Value} {e : Env} (h : ER σ η E e) (d : Option Nat) {u v : Value} (hv : VR σ η u v) : ER σ η (setO E d u) (updO e d v) := by
  cases d with
  | none => exact h
  | some d => exact h.upd d hv
def opd (E : Tr Value) : Operand → Option Value
  | .tmp t => some ((E.get t).getD undef)
  | .const v => if cv v then some v else none
  | .global _ => none
  | .func f => some (.func (.func f) #[] #[])
theorem opd_sound {E : Tr Value} {e : Env} (h : ER σ η E e) {x : Operand} {v : Value} (hx : opd E x = some v) : VR σ η v (ev e x) := by
  cases x with
  | tmp t => cases hx; exact h t
  | const c =>
    simp only [opd] at hx
    split at hx
    · rename_i hc; cases hx; exact VR.cv hc
    · cases hx
  | global g => cases hx
  | func f => cases hx; exact .func rfl rfl (fun i u v hu => by simp at hu) (fun i u v hu => by simp at hu)
def opds (E : Tr Value) : List Operand → Option (List Value)
  | [] => some []
  | x :: l => (opd E x).bind fun v => (opds E l).map (v :: ·)
theorem opds_sound {E : Tr Value} {e : Env} (h : ER σ η E e) : ∀ {l : List Operand} {vs : List Value}, opds E l = some vs → VRs σ η vs (l.map (ev e))
  | [], _, hx => by cases hx; exact .nil
  | x :: l, _, hx => by
    simp only [opds] at hx
    obtain ⟨v, hv, hx⟩ := Option.bind_eq_some_iff.1 hx
    obtain ⟨vs, hvs, rfl⟩ := Option.map_eq_some_iff.1 hx
    exact .cons (opd_sound h hv) (opds_sound h hvs)
def partsA (E : Tr Value) : List (Nat × Operand) → Option (List (Nat × Value))
  | [] => some []
  | (i, x) :: l => (opd E x).bind fun v => (partsA E l).map ((i, v) :: ·)
end
end
end Go.Proofs.YtcglagkhnegbbaaGreat

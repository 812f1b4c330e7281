/- Closed runs: a reader of the code over an abstract memory, by evaluation alone. First part: tries, values side by side, operations that only read. -/
import Derived.Test.YtdkdibeimeaakabGreatDoorQsMwIn
import Derived.Test.YtdkdibeimeaakabGreatDoorQsMwMem

namespace Go.Proofs.YtdkdibeimeaakabGreatDoor
open Go.RowKit
open Go.Value renaming oneCell' → ZK, cells → ZJ
noncomputable section
set_option linter.unusedVariables false
inductive Tr (α : Type) where
  | e
  | n (l : Tr α) (v : Option α) (r : Tr α)
def Tr.getN {α : Type} (v : Option α) (gl gr : Nat → Option α) (k : Nat) : Option α := Nat.rec v (fun k _ => Bool.rec (gr (Nat.div k 2)) (gl (Nat.div k 2)) (Nat.beq (Nat.mod k 2) 0)) k
noncomputable def Tr.get {α : Type} (t : Tr α) : Nat → Option α := Tr.rec (fun _ => none) (fun _ v _ gl gr k => Tr.getN v gl gr k) t
noncomputable def Tr.path {α : Type} (v : Option α) (f : Nat) : Nat → Tr α :=
  Nat.rec (fun _ => .e) (fun _ ih k => Nat.rec (.n .e v .e) (fun k _ => Bool.rec (.n .e none (ih (Nat.div k 2))) (.n (ih (Nat.div k 2)) none .e) (Nat.beq (Nat.mod k 2) 0)) k) f
noncomputable def Tr.set {α : Type} (t : Tr α) (k : Nat) (v : Option α) : Tr α :=
  Tr.rec (motive := fun _ => Nat → Tr α) (fun k => Tr.path v (Nat.succ k) k) (fun l x r sl sr k => Nat.rec (.n l v r) (fun k _ => Bool.rec (.n l x (sr (Nat.div k 2))) (.n (sl (Nat.div k 2)) x r) (Nat.beq (Nat.mod k 2) 0)) k) t k
theorem Tr.get_e {α : Type} (k : Nat) : (Tr.e : Tr α).get k = none := rfl
theorem Tr.get_zero {α : Type} (l : Tr α) (v : Option α) (r : Tr α) : (Tr.n l v r).get 0 = v := rfl
theorem Tr.get_succ {α : Type} (l : Tr α) (v : Option α) (r : Tr α) (k : Nat) : (Tr.n l v r).get (k + 1) = if k % 2 = 0 then l.get (k / 2) else r.get (k / 2) := by
  have h : (Tr.n l v r).get (k + 1) = Bool.rec (r.get (k / 2)) (l.get (k / 2)) (Nat.beq (k % 2) 0) := rfl
  rw [h]
  rcases Nat.mod_two_eq_zero_or_one k with hk | hk <;> rw [hk] <;> rfl
theorem Tr.get_path {α : Type} (v : Option α) : ∀ (f k j : Nat), k < f → (Tr.path v f k).get j = if j = k then v else none
  | 0, _, _, h => by omega
  | f + 1, 0, j, _ => by
    have h : Tr.path v (f + 1) 0 = .n .e v .e := rfl
    rw [h]
    cases j with
    | zero => simp [Tr.get_zero]
    | succ j => rw [Tr.get_succ]; simp [Tr.get_e]
  | f + 1, k + 1, j, hk => by
    have h : Tr.path v (f + 1) (k + 1) = Bool.rec (.n .e none (Tr.path v f (k / 2))) (.n (Tr.path v f (k / 2)) none .e) (Nat.beq (k % 2) 0) := rfl
    have ih := Tr.get_path v f (k / 2) ((j - 1) / 2) (by omega)
    rcases Nat.mod_two_eq_zero_or_one k with hk2 | hk2 <;> rw [h, hk2]
    · show (Tr.n (Tr.path v f (k / 2)) none .e).get j = _
      cases j with
      | zero => simp [Tr.get_zero]
      | succ j =>
        simp only [Nat.add_sub_cancel] at ih
        rcases Nat.mod_two_eq_zero_or_one j with hj | hj
        · simp [Tr.get_succ, hj, ih, show (j / 2 = k / 2) ↔ (j = k) by omega]
        · simp [Tr.get_succ, hj, Tr.get_e, show ¬ j = k by omega]
    · show (Tr.n .e none (Tr.path v f (k / 2))).get j = _
      cases j with
      | zero => simp [Tr.get_zero]
      | succ j =>
        simp only [Nat.add_sub_cancel] at ih
        rcases Nat.mod_two_eq_zero_or_one j with hj | hj
        · simp [Tr.get_succ, hj, Tr.get_e, show ¬ j = k by omega]
        · simp [Tr.get_succ, hj, ih, show (j / 2 = k / 2) ↔ (j = k) by omega]
theorem Tr.get_set {α : Type} : ∀ (t : Tr α) (k : Nat) (v : Option α) (j : Nat), (t.set k v).get j = if j = k then v else t.get j
  | .e, k, v, j => by
    have h : (Tr.e : Tr α).set k v = Tr.path v (k + 1) k := rfl
    rw [h, Tr.get_path _ _ _ _ (by omega), Tr.get_e]
  | .n l x r, 0, v, j => by
    have h : (Tr.n l x r).set 0 v = .n l v r := rfl
    rw [h]
    cases j with
    | zero => simp [Tr.get_zero]
    | succ j => simp [Tr.get_succ]
  | .n l x r, k + 1, v, j => by
    have h : (Tr.n l x r).set (k + 1) v = Bool.rec (.n l x (r.set (k / 2) v)) (.n (l.set (k / 2) v) x r) (Nat.beq (k % 2) 0) := rfl
    have ih := Tr.get_set l (k / 2) v ((j - 1) / 2)
    have ih2 := Tr.get_set r (k / 2) v ((j - 1) / 2)
    rcases Nat.mod_two_eq_zero_or_one k with hk2 | hk2 <;> rw [h, hk2]
    · show (Tr.n (l.set (k / 2) v) x r).get j = _
      cases j with
      | zero => simp [Tr.get_zero]
      | succ j =>
        simp only [Nat.add_sub_cancel] at ih
        rcases Nat.mod_two_eq_zero_or_one j with hj | hj
        · simp [Tr.get_succ, hj, ih, show (j / 2 = k / 2) ↔ (j = k) by omega]
        · simp [Tr.get_succ, hj, show ¬ j = k by omega]
    · show (Tr.n l x (r.set (k / 2) v)).get j = _
      cases j with
      | zero => simp [Tr.get_zero]
      | succ j =>
        simp only [Nat.add_sub_cancel] at ih2
        rcases Nat.mod_two_eq_zero_or_one j with hj | hj
        · simp [Tr.get_succ, hj, show ¬ j = k by omega]
        · simp [Tr.get_succ, hj, ih2, show (j / 2 = k / 2) ↔ (j = k) by omega]
structure Ent where
  b : Nat
  tot : Nat
  es : Nat
  fz : Nat × Nat
def capU : Nat := 281474976710656
inductive VR (σ : Nat → Option Ent) (η : Nat → Value) : Value → Value → Prop
  | bool (b : Bool) : VR σ η (.bool b) (.bool b)
  | int (k : IntKind) (n : Int) : VR σ η (.int k n) (.int k n)
  | string (s : ByteArray) : VR σ η (.string s) (.string s)
  | nilPtr : VR σ η (.pointer none) (.pointer none)
  | ptr {j o : Nat} {x : Ent} (h : σ j = some x) : VR σ η (.pointer (some ⟨j, o, none⟩)) (.pointer (some ⟨x.b, o, none⟩))
  | nilSlc : VR σ η (.slice none 0 0) (.slice none 0 0)
  | slc {j o n c c' o' : Nat} {x : Ent} (h : σ j = some x) (ho : o' = o ∨ (n = 0 ∧ capU ≤ c ∧ 0 < o)) (hm : c' ≤ maxLen) (hn : n ≤ c') (h1 : c < capU → c' = c) (h2 : capU ≤ c → o = 0 → c' * x.es = x.tot) :
      VR σ η (.slice (some ⟨j, o, none⟩) n c) (.slice (some ⟨x.b, o', none⟩) n c')
  | nilMap : VR σ η (.map none) (.map none)
  | map {j : Nat} {x : Ent} (h : σ j = some x) : VR σ η (.map (some j)) (.map (some x.b))
  | nilFunc : VR σ η .nilFunc .nilFunc
  | func {f : Fn} {a a' b b' : Array Value} (ha : a.size = a'.size) (hb : b.size = b'.size) (h1 : ∀ (i : Nat) u v, a[i]? = some u → a'[i]? = some v → VR σ η u v) (h2 : ∀ (i : Nat) u v, b[i]? = some u → b'[i]? = some v → VR σ η u v) : VR σ η (.func f a b) (.func f a' b')
  | nilIface : VR σ η .nilIface .nilIface
  | iface {t : TypeId} {u v : Value} (h : VR σ η u v) : VR σ η (.iface t u) (.iface t v)
  | agg {a a' : Array Value} (ha : a.size = a'.size) (h1 : ∀ (i : Nat) u v, a[i]? = some u → a'[i]? = some v → VR σ η u v) : VR σ η (.agg a) (.agg a')
  | tuple {a a' : Array Value} (ha : a.size = a'.size) (h1 : ∀ (i : Nat) u v, a[i]? = some u → a'[i]? = some v → VR σ η u v) : VR σ η (.tuple a) (.tuple a')
  | yld {j : Nat} {x : Ent} (h : σ j = some x) : VR σ η (.complex .f64 j 0) (.func (.yield x.b) #[] #[])
  | hole (i : Nat) (h : (η i).oneCell' = true) : VR σ η (.chan (some i)) (η i)
def VRs (σ : Nat → Option Ent) (η : Nat → Value) (a a' : List Value) : Prop := a.length = a'.length ∧ ∀ (i : Nat) u v, a[i]? = some u → a'[i]? = some v → VR σ η u v
def Sub (σ σ' : Nat → Option Ent) : Prop := ∀ j x, σ j = some x → σ' j = some x
theorem Sub.refl (σ : Nat → Option Ent) : Sub σ σ := fun _ _ h => h
theorem Sub.trans {a b c : Nat → Option Ent} (h : Sub a b) (k : Sub b c) : Sub a c := fun _ _ x => k _ _ (h _ _ x)
theorem VR.mono {σ σ' : Nat → Option Ent} {η : Nat → Value} (hs : Sub σ σ') {u v : Value} (h : VR σ η u v) : VR σ' η u v := by
  induction h with
  | bool b => exact .bool b
  | int k n => exact .int k n
  | string s => exact .string s
  | nilPtr => exact .nilPtr
  | ptr h => exact .ptr (hs _ _ h)
  | nilSlc => exact .nilSlc
  | slc h ho hm hn h1 h2 => exact .slc (hs _ _ h) ho hm hn h1 h2
  | nilMap => exact .nilMap
  | map h => exact .map (hs _ _ h)
  | nilFunc => exact .nilFunc
  | func ha hb _ _ h1 h2 => exact .func ha hb h1 h2
  | nilIface => exact .nilIface
  | iface _ h => exact .iface h
  | agg ha _ h => exact .agg ha h
  | tuple ha _ h => exact .tuple ha h
  | yld h => exact .yld (hs _ _ h)
  | hole i h => exact .hole i h
theorem VRs.mono {σ σ' : Nat → Option Ent} {η : Nat → Value} (hs : Sub σ σ') {u v : List Value} (h : VRs σ η u v) : VRs σ' η u v := ⟨h.1, fun i a b ha hb => (h.2 i a b ha hb).mono hs⟩
section
variable {P : Program} {σ : Nat → Option Ent} {η : Nat → Value}
theorem VRs.nil : VRs σ η [] [] := ⟨rfl, fun i u v h => by simp at h⟩
theorem VRs.cons {u v : Value} {a b : List Value} (h : VR σ η u v) (k : VRs σ η a b) : VRs σ η (u :: a) (v :: b) :=
  ⟨by simp [k.1], fun i x y hx hy => by
    cases i with
    | zero => simp at hx hy; subst hx hy; exact h
    | succ i => simp at hx hy; exact k.2 i x y hx hy⟩
theorem VRs.append {a b c d : List Value} (h : VRs σ η a b) (k : VRs σ η c d) : VRs σ η (a ++ c) (b ++ d) :=
  ⟨by simp [h.1, k.1], fun i x y hx hy => by
    by_cases hi : i < a.length
    · rw [List.getElem?_append_left hi] at hx
      rw [List.getElem?_append_left (h.1 ▸ hi)] at hy
      exact h.2 i x y hx hy
    · rw [List.getElem?_append_right (by omega)] at hx
      rw [List.getElem?_append_right (by have := h.1; omega), ← h.1] at hy
      exact k.2 _ x y hx hy⟩
theorem VRs.take {a b : List Value} (h : VRs σ η a b) (n : Nat) : VRs σ η (a.take n) (b.take n) :=
  ⟨by simp [h.1], fun i x y hx hy => by
    rw [List.getElem?_take] at hx hy
    split at hx
    · rename_i hi; rw [if_pos hi] at hy; exact h.2 i x y hx hy
    · cases hx⟩
theorem VRs.drop {a b : List Value} (h : VRs σ η a b) (n : Nat) : VRs σ η (a.drop n) (b.drop n) :=
  ⟨by simp [h.1], fun i x y hx hy => by
    rw [List.getElem?_drop] at hx hy
    exact h.2 _ x y hx hy⟩
theorem VRs.get {a b : List Value} (h : VRs σ η a b) {i : Nat} {u : Value} (hu : a[i]? = some u) : ∃ v, b[i]? = some v ∧ VR σ η u v := by
  have hi : i < b.length := by rw [← h.1]; exact (List.getElem?_eq_some_iff.1 hu).1
  exact ⟨b[i], List.getElem?_eq_getElem hi, h.2 i _ _ hu (List.getElem?_eq_getElem hi)⟩
theorem VRs.agg {a b : List Value} (h : VRs σ η a b) : VR σ η (.agg a.toArray) (.agg b.toArray) := .agg (by simpa using h.1) (fun i u v hu hv => h.2 i u v (by simpa using hu) (by simpa using hv))
theorem VRs.tuple {a b : List Value} (h : VRs σ η a b) : VR σ η (.tuple a.toArray) (.tuple b.toArray) := .tuple (by simpa using h.1) (fun i u v hu hv => h.2 i u v (by simpa using hu) (by simpa using hv))
theorem VRs.ofArr {a b : Array Value} (ha : a.size = b.size) (h1 : ∀ (i : Nat) u v, a[i]? = some u → b[i]? = some v → VR σ η u v) : VRs σ η a.toList b.toList := ⟨by simpa using ha, fun i u v hu hv => h1 i u v (by simpa using hu) (by simpa using hv)⟩
def cvA : Value → Bool
  | .bool _ | .int _ _ | .string _ | .pointer none | .nilIface | .nilFunc | .map none => true
  | .slice none 0 0 => true
  | _ => false
def cv : Value → Bool
  | .agg cs => cs.toList.all cvA
  | .tuple cs => cs.toList.all cvA
  | v => cvA v
theorem VR.cvA {v : Value} (h : cvA v = true) : VR σ η v v := by
  unfold Go.Proofs.YtdkdibeimeaakabGreatDoor.cvA at h
  split at h <;> first | exact .bool _ | exact .int _ _ | exact .string _ | exact .nilPtr | exact .nilIface | exact .nilFunc | exact .nilMap | exact .nilSlc | cases h
theorem VRs.cvA {l : List Value} (h : l.all Go.Proofs.YtdkdibeimeaakabGreatDoor.cvA = true) : VRs σ η l l := ⟨rfl, fun i u v hu hv => by
  rw [hu] at hv
  cases hv
  exact VR.cvA (List.all_eq_true.1 h u (List.mem_of_getElem? hu))⟩
theorem VR.cv {v : Value} (h : cv v = true) : VR σ η v v := by
  unfold Go.Proofs.YtdkdibeimeaakabGreatDoor.cv at h
  split at h
  · rename_i cs; have := VRs.agg (σ := σ) (η := η) (VRs.cvA h); simpa using this
  · rename_i cs; have := VRs.tuple (σ := σ) (η := η) (VRs.cvA h); simpa using this
  · exact VR.cvA h
theorem VR.undef : VR σ η undef undef := .tuple rfl (fun i u v hu => by simp at hu)
theorem VR.cells {u v : Value} (h : VR σ η u v) : VRs σ η u.cells.toList v.cells.toList := by
  cases h with
  | agg ha h1 => exact VRs.ofArr ha h1
  | hole i h =>
    have : (η i).cells = #[η i] := by cases hi : η i <;> simp_all [ZK, ZJ]
    rw [this]
    exact VRs.cons (.hole i h) .nil
  | _ => exact VRs.cons (by constructor <;> assumption) .nil
def ER (σ : Nat → Option Ent) (η : Nat → Value) (E : Tr Value) (e : Env) : Prop := ∀ t, VR σ η ((E.get t).getD undef) (e t)
theorem ER.mono {σ' : Nat → Option Ent} (hs : Sub σ σ') {E : Tr Value} {e : Env} (h : ER σ η E e) : ER σ' η E e := fun t => (h t).mono hs
theorem ER.upd {E : Tr Value} {e : Env} (h : ER σ η E e) (d : Nat) {u v : Value} (hv : VR σ η u v) : ER σ η (E.set d (some u)) (upd e d v) := fun t => by
  rw [Tr.get_set]
  unfold Go.Proofs.YtdkdibeimeaakabGreatDoor.upd
  split
  · exact hv
  · exact h t
def setO (E : Tr Value) (d : Option Nat) (v : Value) : Tr Value := match d with | some d => E.set d (some v) | none => E
theorem ER.updO {E : Tr Value} {e : Env} (h : ER σ η E e) (d : Option Nat) {u v : Value} (hv : VR σ η u v) : ER σ η (setO E d u) (updO e d v) := by
  cases d with
  | none => exact h
  | some d => exact h.upd d hv
def opd (E : Tr Value) : Operand → Option Value
  | .tmp t => some ((E.get t).getD undef)
  | .const v => if cv v then some v else none
  | .global _ => none
  | .func f => some (.func (.func f) #[] #[])
theorem opd_sound {E : Tr Value} {e : Env} (h : ER σ η E e) {x : Operand} {v : Value} (hx : opd E x = some v) : VR σ η v (ev e x) := by
  cases x with
  | tmp t => cases hx; exact h t
  | const c =>
    simp only [opd] at hx
    split at hx
    · rename_i hc; cases hx; exact VR.cv hc
    · cases hx
  | global g => cases hx
  | func f => cases hx; exact .func rfl rfl (fun i u v hu => by simp at hu) (fun i u v hu => by simp at hu)
def opds (E : Tr Value) : List Operand → Option (List Value)
  | [] => some []
  | x :: l => (opd E x).bind fun v => (opds E l).map (v :: ·)
theorem opds_sound {E : Tr Value} {e : Env} (h : ER σ η E e) : ∀ {l : List Operand} {vs : List Value}, opds E l = some vs → VRs σ η vs (l.map (ev e))
  | [], _, hx => by cases hx; exact .nil
  | x :: l, _, hx => by
    simp only [opds] at hx
    obtain ⟨v, hv, hx⟩ := Option.bind_eq_some_iff.1 hx
    obtain ⟨vs, hvs, rfl⟩ := Option.map_eq_some_iff.1 hx
    exact .cons (opd_sound h hv) (opds_sound h hvs)
def partsA (E : Tr Value) : List (Nat × Operand) → Option (List (Nat × Value))
  | [] => some []
  | (i, x) :: l => (opd E x).bind fun v => (partsA E l).map ((i, v) :: ·)
end
end
end Go.Proofs.YtdkdibeimeaakabGreatDoor
/- Closed runs, second part: operations that only read. -/
namespace Go.Proofs.YtdkdibeimeaakabGreatDoor
open Go.RowKit
open Go.Value renaming oneCell' → ZK, cells → ZJ
noncomputable section
set_option linter.unusedVariables false
set_option linter.unusedSimpArgs false
variable {P : Program} {σ : Nat → Option Ent} {η : Nat → Value}
def binK (P : Program) (t : TypeId) (op : BinOp) (u v : Value) (c : Bool) : Option Value :=
  match op, u, v with
  | .eql, .string a, .string b => some (.bool (a.data.toList == b.data.toList))
  | .neq, .string a, .string b => some (.bool (!(a.data.toList == b.data.toList)))
  | .add, .string a, .string b => if a.data.toList.length + b.data.toList.length ≤ 9223372036854775807 then some (.string ⟨⟨a.data.toList ++ b.data.toList⟩⟩) else none
  | .lss, .string a, .string b => some (.bool (Op.bytesLess a.data.toList b.data.toList))
  | .leq, .string a, .string b => some (.bool (Op.bytesLess a.data.toList b.data.toList || a.data.toList == b.data.toList))
  | .gtr, .string a, .string b => some (.bool (!(Op.bytesLess a.data.toList b.data.toList || a.data.toList == b.data.toList)))
  | .geq, .string a, .string b => some (.bool (!Op.bytesLess a.data.toList b.data.toList))
  | op, u, v => binVC P t op u v c
theorem binK_eq (t : TypeId) (op : BinOp) (u v : Value) (c : Bool) : binK P t op u v c = binVC P t op u v c := by
  unfold binK
  split <;> simp only [binVC,binV,ByteArray.toList_eq]
  rename_i a b
  have h1 : a.data.toList.length = a.size := rfl
  have h2 : b.data.toList.length = b.size := rfl
  rw [h1, h2]
  have : (⟨⟨a.data.toList ++ b.data.toList⟩⟩ : ByteArray) = a ++ b := by
    apply ByteArray.ext
    rw [ByteArray.data_append]
    simp
  rw [this]
theorem flat_vr {a : Array Value} {v' : Value} (h : VR σ η (.agg a) v') (ha : a.toList.all flatB = true) : v' = .agg a := by
  cases h with
  | agg h1 h2 =>
    rename_i b
    congr 1
    apply Array.ext (by omega)
    intro i hi hi2
    have hx : flatB a[i] = true := List.all_eq_true.1 ha _ (by rw [Array.mem_toList_iff]; exact Array.getElem_mem hi2)
    have hv := h2 i _ _ (Array.getElem?_eq_getElem hi2) (Array.getElem?_eq_getElem hi)
    generalize a[i] = x at hx hv ⊢
    generalize b[i] = y at hv ⊢
    cases hv <;> first | rfl | (simp [flatB] at hx; done)
theorem aggE_flat {t : TypeId} {a b : Array Value} {r : Bool} (h : aggE P t a b = some r) : a.toList.all flatB = true ∧ b.toList.all flatB = true := by
  unfold aggE at h
  split at h
  · rename_i hc
    simp only [Bool.and_eq_true] at hc
    exact ⟨hc.1.2, hc.2⟩
  · cases h
set_option maxHeartbeats 1000000 in
theorem binK_vr {t : TypeId} {op : BinOp} {u v u' v' : Value} {c : Bool} (hu : VR σ η u u') (hv : VR σ η v v') {r : Value} (h : binK P t op u v c = some r) : ∃ r', binVC P t op u' v' c = some r' ∧ VR σ η r r' := by
  rw [binK_eq] at h
  by_cases hpp : ∃ j o j' o', u = .pointer (some ⟨j, o, none⟩) ∧ v = .pointer (some ⟨j', o', none⟩)
  · obtain ⟨j, o, j', o', rfl, rfl⟩ := hpp
    cases hu with
    | ptr h1 =>
      cases hv with
      | ptr h2 =>
        cases op <;> simp only [binVC,binV] at h ⊢ <;> try (cases h; done)
        all_goals
          split at h
          · rename_i hk
            obtain ⟨hk, rfl⟩ := hk
            rw [h1] at h2
            cases h2
            cases h
            exact ⟨_, if_pos ⟨hk, rfl⟩, .bool _⟩
          · cases h
  by_cases hag : ∃ a b, u = .agg a ∧ v = .agg b
  · obtain ⟨a, b, rfl, rfl⟩ := hag
    refine ⟨r, ?_⟩
    have hf : (a.toList.all flatB = true ∧ b.toList.all flatB = true) ∧ ∃ q, r = .bool q := by
      simp only [binVC] at h
      split at h
      · rename_i e1; cases e1
        obtain ⟨q, hq, rfl⟩ := Option.map_eq_some_iff.1 h
        exact ⟨aggE_flat hq, _, rfl⟩
      · rename_i e1; cases e1
        obtain ⟨q, hq, rfl⟩ := Option.map_eq_some_iff.1 h
        exact ⟨aggE_flat hq, _, rfl⟩
      · cases h
    obtain ⟨⟨f1, f2⟩, q, rfl⟩ := hf
    rw [flat_vr hu f1, flat_vr hv f2]
    exact ⟨h, .bool _⟩
  have key : binVC P t op u' v' c = some r ∧ cvA r = true := by
    cases hu <;> cases hv <;> cases op <;> first
      | (simp [binVC, binV] at h; done)
      | (simp only [binVC,binV] at h ⊢; (repeat' split at h) <;> first | (cases h; done) | (cases h; simp_all [cvA]; done) | (simp_all [cvA]; done))
      | (exact absurd ⟨_, _, _, _, rfl, rfl⟩ hpp)
      | (exact absurd ⟨_, _, rfl, rfl⟩ hag)
  exact ⟨r, key.1, VR.cvA key.2⟩
theorem unV_vr {op : UnOp} {u u' : Value} (hu : VR σ η u u') {r : Value} (h : unV op u = some r) : ∃ r', unV op u' = some r' ∧ VR σ η r r' := by
  cases hu <;> cases op <;> simp only [unV] at h ⊢ <;> first | (cases h; done) | (cases h; exact ⟨_, rfl, by constructor⟩)
theorem convV_vr {s d : TypeId} {u u' : Value} (hu : VR σ η u u') {r : Value} (h : convV P s d u = some r) : ∃ r', convV P s d u' = some r' ∧ VR σ η r r' := by
  cases hu <;> simp only [convV] at h ⊢ <;> first
    | (cases h; done)
    | (refine ⟨r, h, ?_⟩
       split at h
       · first
           | (obtain ⟨k, _, rfl⟩ := Option.map_eq_some_iff.1 h; exact .int _ _)
           | (cases h; exact .string _)
       · cases h)
theorem add_ptr (j o n : Nat) : (⟨j, o, none⟩ : Addr).add n = ⟨j, o + n, none⟩ := by
  unfold Addr.add
  split
  · rename_i h; subst h; rfl
  · rfl
theorem fldV_vr {s f : Nat} {u u' : Value} (hu : VR σ η u u') {r : Value} (h : fldV P s f u = some r) : ∃ r', fldV P s f u' = some r' ∧ VR σ η r r' := by
  cases hu <;> simp only [fldV] at h ⊢ <;> first
    | (cases h; done)
    | (obtain ⟨n, hn, rfl⟩ := Option.map_eq_some_iff.1 h
       rw [hn]
       refine ⟨_, rfl, ?_⟩
       simp only [add_ptr]
       exact .ptr (by assumption))
def partA (P : Program) (t : TypeId) (cs : List Value) (off : Nat) : Option Value :=
  if tok P t then (if tagg P t then some (.agg ((cs.drop off).take (tsz P t)).toArray) else cs[off]?) else none
theorem partA_vr {t : TypeId} {cs : List Value} {cs' : Array Value} {off : Nat} (hc : VRs σ η cs cs'.toList) {r : Value} (h : partA P t cs off = some r) : ∃ r', partV P t cs' off = some r' ∧ VR σ η r r' := by
  unfold partA at h
  unfold partV
  split at h
  · rename_i h1
    rw [if_pos h1]
    split at h
    · rename_i h2
      rw [if_pos h2]
      cases h
      refine ⟨_, rfl, ?_⟩
      have : cs'.extract off (off + tsz P t) = ((cs'.toList.drop off).take (tsz P t)).toArray := by
        apply Array.toList_inj.1
        simp [Array.toList_extract, List.extract_eq_take_drop]
      rw [this]
      exact VRs.agg ((hc.drop off).take _)
    · rename_i h2
      rw [if_neg h2]
      obtain ⟨v, hv, hr⟩ := hc.get h
      exact ⟨v, by simpa using hv, hr⟩
  · cases h
def fieldA (P : Program) (s : TypeId) (f : Nat) : Value → Option Value
  | .agg cs => match tfld P s f with | some (t, off) => partA P t cs.toList off | none => none
  | _ => none
theorem fieldA_vr {s f : Nat} {u u' : Value} (hu : VR σ η u u') {r : Value} (h : fieldA P s f u = some r) : ∃ r', fieldV P s f u' = some r' ∧ VR σ η r r' := by
  cases hu <;> simp only [fieldA] at h <;> try (cases h; done)
  rename_i a a' ha h1
  simp only [fieldV]
  split at h
  · rename_i t off ht
    rw [ht]
    exact partA_vr (VRs.ofArr ha h1) h
  · cases h
theorem idxA_vr {t : TypeId} {u u' v v' : Value} (hu : VR σ η u u') (hv : VR σ η v v') {r : Value} (h : idxA P t u v = some r) : ∃ r', idxA P t u' v' = some r' ∧ VR σ η r r' := by
  cases hu <;> cases hv <;> simp only [idxA] at h ⊢ <;> try (cases h; done)
  · split at h
    · rename_i n e he
      split at h
      · rename_i hok
        split at h
        · rename_i hi
          cases h
          simp only [hok,if_true,hi,and_self,add_ptr]
          exact ⟨_, rfl, .ptr (by assumption)⟩
        · cases h
      · cases h
    · cases h
  · split at h
    · rename_i e he
      split at h
      · rename_i hok
        split at h
        · rename_i hi
          cases h
          simp only [hok,if_true,hi,and_self,add_ptr]
          refine ⟨_, rfl, ?_⟩
          rename_i ho _ _ _ _ _ _ _
          rcases ho with rfl | ⟨h0, _⟩
          · exact .ptr (by assumption)
          · omega
        · cases h
      · cases h
    · cases h
def idxK (P : Program) (t : TypeId) : Value → Value → Option Value
  | .agg cs, .int _ i => match tarr P t with
    | some (n, e) => if tok P e then (if 0 ≤ i ∧ i < n then partA P e cs.toList (i.toNat * tsz P e) else none) else none
    | none => none
  | .string s, .int _ i => if tstr P t then (if 0 ≤ i then (s.data.toList[i.toNat]?).map fun b => .int .u8 b.toNat else none) else none
  | _, _ => none
theorem ba_get (s : ByteArray) (i : Nat) : s[i]? = s.data.toList[i]? := by
  by_cases h : i < s.size
  · rw [getElem?_pos s i h]
    have h2 : i < s.data.toList.length := h
    rw [List.getElem?_eq_getElem h2]
    rfl
  · rw [getElem?_neg s i h]
    have h2 : ¬ i < s.data.toList.length := h
    rw [List.getElem?_eq_none (by omega)]
theorem idxK_vr {t : TypeId} {u u' v v' : Value} (hu : VR σ η u u') (hv : VR σ η v v') {r : Value} (h : idxK P t u v = some r) : ∃ r', idxV P t u' v' = some r' ∧ VR σ η r r' := by
  cases hu <;> cases hv <;> simp only [idxK] at h <;> try (cases h; done)
  · simp only [idxV]
    refine ⟨r, ?_, ?_⟩
    · rw [ba_get]; exact h
    · split at h
      · split at h
        · obtain ⟨b, _, rfl⟩ := Option.map_eq_some_iff.1 h
          exact .int _ _
        · cases h
      · cases h
  · rename_i a a' ha h1 k i
    simp only [idxV]
    split at h
    · rename_i n e he
      split at h
      · rename_i hok
        split at h
        · rename_i hi
          rw [he]
          simp only [hok,if_true,hi,and_self]
          exact partA_vr (VRs.ofArr ha h1) h
        · cases h
      · cases h
    · cases h
theorem bound_vr {d : Int} {u u' : Value} (hu : VR σ η u u') {r : Int} (h : boundV (some u) d = some r) : boundV (some u') d = some r := by
  cases hu <;> simp only [boundV] at h ⊢ <;> first | exact h | cases h
def slcA (P : Program) (t : TypeId) (x : Value) (lo hi : Option Value) : Option Value :=
  match x with
  | .slice none n c => slcV P t (.slice none n c) lo hi
  | .slice (some ⟨j, o, none⟩) n c => if c < capU then slcV P t (.slice (some ⟨j, o, none⟩) n c) lo hi else
      (match telem P t, boundV lo 0, boundV hi n with
      | some e, some l, some h => if tok P e = true ∧ 0 < tsz P e ∧ 0 ≤ l ∧ l ≤ h ∧ h ≤ n then some (.slice (some ⟨j, o + l.toNat * tsz P e, none⟩) (h - l).toNat c) else none
      | _, _, _ => none)
  | .string s => match boundV lo 0, boundV hi s.data.toList.length with
    | some l, some h => if tstr P t then (if 0 ≤ l ∧ l ≤ h ∧ h ≤ s.data.toList.length then some (.string ⟨⟨(s.data.toList.drop l.toNat).take (h.toNat - l.toNat)⟩⟩) else none) else none
    | _, _ => none
  | .pointer (some ⟨j, o, none⟩) => match tarr P t with
    | some (n, e) => (match boundV lo 0, boundV hi n with
      | some l, some h => if tok P e = true ∧ 0 ≤ l ∧ l ≤ h ∧ h ≤ n ∧ n < capU then some (.slice (some ⟨j, o + (if (n : Int) = l then 0 else l.toNat * tsz P e), none⟩) (h - l).toNat (n - l).toNat) else none
      | _, _ => none)
    | none => none
  | _ => none
def ORel (σ : Nat → Option Ent) (η : Nat → Value) : Option Value → Option Value → Prop
  | none, none => True
  | some u, some v => VR σ η u v
  | _, _ => False
theorem boundO_vr {d : Int} {u u' : Option Value} (hu : ORel σ η u u') {r : Int} (h : boundV u d = some r) : boundV u' d = some r := by
  cases u <;> cases u' <;> simp only [ORel] at hu
  · exact h
  · exact bound_vr hu h
theorem ba_extract (s : ByteArray) (l h : Nat) : s.extract l h = ⟨⟨(s.data.toList.drop l).take (h - l)⟩⟩ := by
  apply ByteArray.ext
  rw [ByteArray.data_extract]
  apply Array.toList_inj.1
  simp [Array.toList_extract, List.extract_eq_take_drop]
theorem slcA_vr {t : TypeId} {u u' : Value} {lo lo' hi hi' : Option Value} (hu : VR σ η u u') (hl : ORel σ η lo lo') (hh : ORel σ η hi hi') {r : Value} (h : slcA P t u lo hi = some r) : ∃ r', slcV P t u' lo' hi' = some r' ∧ VR σ η r r' := by
  cases hu <;> simp only [slcA] at h <;> try (cases h; done)
  · rename_i s
    simp only [slcV]
    cases h1 : boundV lo 0 with
    | none => rw [h1] at h; cases h
    | some l =>
      rw [h1] at h
      rw [boundO_vr hl h1]
      cases h2 : boundV hi s.data.toList.length with
      | none => rw [h2] at h; cases h
      | some m =>
        rw [h2] at h
        have : (s.size : Int) = (s.data.toList.length : Int) := rfl
        rw [this, boundO_vr hh h2]
        simp only at h ⊢
        split at h
        · rename_i ht
          rw [if_pos ht]
          split at h
          · rename_i hc
            rw [if_pos hc]
            cases h
            exact ⟨_, rfl, by rw [ba_extract]; exact .string _⟩
          · cases h
        · cases h
  · rename_i j o x hx
    simp only [slcV]
    split at h
    · rename_i n e he
      rw [he]
      simp only
      cases h1 : boundV lo 0 with
      | none => rw [h1] at h; cases h
      | some l =>
        rw [h1] at h
        rw [boundO_vr hl h1]
        cases h2 : boundV hi n with
        | none => rw [h2] at h; cases h
        | some m =>
          rw [h2] at h
          rw [boundO_vr hh h2]
          simp only at h ⊢
          split at h
          · rename_i hc
            obtain ⟨c1, c2, c3, c4, c5⟩ := hc
            cases h
            rw [if_pos c1, if_pos ⟨c2, c3, c4⟩]
            refine ⟨_, rfl, ?_⟩
            have hw : (if (n : Int) = l then (⟨x.b, o, none⟩ : Addr) else (⟨x.b, o, none⟩ : Addr).add (l.toNat * tsz P e)) = ⟨x.b, o + (if (n : Int) = l then 0 else l.toNat * tsz P e), none⟩ := by
              split
              · rfl
              · rw [add_ptr]
            rw [hw]
            unfold capU at c5
            refine .slc hx (.inl rfl) ?_ ?_ (fun _ => rfl) (fun hcu => ?_)
            · unfold maxLen; omega
            · omega
            · unfold capU at hcu; omega
          · cases h
    · cases h
  · simp only [slcV] at h ⊢
    cases he : telem P t with
    | none => rw [he] at h; cases h
    | some e =>
      rw [he] at h
      cases h1 : boundV lo 0 with
      | none => rw [h1] at h; cases h
      | some l =>
        rw [h1] at h
        rw [boundO_vr hl h1]
        cases h2 : boundV hi (0 : Nat) with
        | none => rw [h2] at h; cases h
        | some m =>
          rw [h2] at h
          rw [boundO_vr hh h2]
          simp only at h ⊢
          refine ⟨r, h, ?_⟩
          split at h
          · split at h
            · rename_i hc
              have e1 : l = 0 := by omega
              have e2 : m = 0 := by omega
              subst e1 e2
              cases h
              exact .nilSlc
            · cases h
          · cases h
  · rename_i j o n c c' o' x hx ho hm hn g1 g2
    split at h
    · rename_i hc
      have e1 := g1 hc
      subst e1
      obtain rfl : o' = o := by rcases ho with h | h; exact h; omega
      simp only [slcV] at h ⊢
      cases he : telem P t with
      | none => rw [he] at h; cases h
      | some e =>
        rw [he] at h
        cases h1 : boundV lo 0 with
        | none => rw [h1] at h; cases h
        | some l =>
          rw [h1] at h
          rw [boundO_vr hl h1]
          cases h2 : boundV hi n with
          | none => rw [h2] at h; cases h
          | some m =>
            rw [h2] at h
            rw [boundO_vr hh h2]
            simp only at h ⊢
            split at h
            · rename_i hok
              rw [if_pos hok]
              split at h
              · rename_i hb
                rw [if_pos hb]
                refine ⟨_, rfl, ?_⟩
                cases h
                by_cases hcl : (c' : Int) = l
                · rw [if_pos hcl, if_pos hcl]
                  exact .slc hx (.inl rfl) (by omega) (by omega) (fun _ => rfl) (fun h => by omega)
                · rw [if_neg hcl, if_neg hcl]
                  simp only [Option.map_some,add_ptr]
                  exact .slc hx (.inl rfl) (by omega) (by omega) (fun _ => rfl) (fun h => by omega)
              · cases h
            · cases h
    · rename_i hc
      simp only [slcV]
      cases he : telem P t with
      | none => rw [he] at h; cases h
      | some e =>
        rw [he] at h
        cases h1 : boundV lo 0 with
        | none => rw [h1] at h; cases h
        | some l =>
          rw [h1] at h
          rw [boundO_vr hl h1]
          cases h2 : boundV hi n with
          | none => rw [h2] at h; cases h
          | some m =>
            rw [h2] at h
            rw [boundO_vr hh h2]
            simp only at h ⊢
            split at h
            · rename_i hb
              obtain ⟨hok, hsz, hb1, hb2, hb3⟩ := hb
              rw [if_pos hok, if_pos ⟨hb1, hb2, by omega⟩]
              refine ⟨_, rfl, ?_⟩
              cases h
              have hl0 : l.toNat = 0 → o + l.toNat * tsz P e = o := fun h => by rw [h]; simp
              have hl1 : 0 < l.toNat → 0 < l.toNat * tsz P e := fun h => Nat.mul_pos h hsz
              by_cases hcl : (c' : Int) = l
              · rw [if_pos hcl]
                refine .slc hx ?_ (by omega) (by omega) (fun h => by omega) (fun _ h0 => ?_)
                · by_cases hz : l.toNat = 0
                  · rw [hl0 hz]
                    rcases ho with h | ⟨_, _, h⟩
                    · exact .inl h
                    · exact .inr ⟨by omega, by omega, h⟩
                  · exact .inr ⟨by omega, by omega, by have := hl1 (by omega); omega⟩
                · have hz : l.toNat = 0 := by
                    rcases Nat.eq_zero_or_pos l.toNat with h | h
                    · exact h
                    · have := hl1 h; omega
                  have := g2 (by omega) (by omega)
                  have e0 : ((c' : Int) - l).toNat = c' := by omega
                  rw [e0]; exact this
              · rw [if_neg hcl]
                simp only [Option.map_some,add_ptr]
                refine .slc hx ?_ (by omega) (by omega) (fun h => by omega) (fun _ h0 => ?_)
                · rcases ho with h | ⟨h1, h2, h3⟩
                  · exact .inl (by rw [h])
                  · exact .inr ⟨by omega, by omega, by omega⟩
                · have hz : l.toNat = 0 := by
                    rcases Nat.eq_zero_or_pos l.toNat with h | h
                    · exact h
                    · have := hl1 h; omega
                  have := g2 (by omega) (by omega)
                  have e0 : ((c' : Int) - l).toNat = c' := by omega
                  rw [e0]; exact this
            · cases h
theorem nilV_vr {u u' : Value} (hu : VR σ η u u') {r : Value} (h : nilV u = some r) : ∃ r', nilV u' = some r' ∧ VR σ η r r' := by
  cases hu with
  | ptr hx => cases h; exact ⟨_, rfl, .ptr hx⟩
  | nilSlc => cases h; exact ⟨_, rfl, .nilSlc⟩
  | slc hx ho hm hn h1 h2 => cases h; exact ⟨_, rfl, .slc hx ho hm hn h1 h2⟩
  | iface hx => cases h; exact ⟨_, rfl, .iface hx⟩
  | @func f a a' b b' ha hb h1 h2 =>
    cases f <;> simp only [nilV] at h ⊢ <;> first | (cases h; done) | (cases h; exact ⟨_, rfl, .func ha hb h1 h2⟩)
  | _ => simp [nilV] at h
def extA (i : Nat) : Value → Option Value
  | .tuple vs => vs.toList[i]?
  | _ => none
theorem extA_vr {i : Nat} {u u' : Value} (hu : VR σ η u u') {r : Value} (h : extA i u = some r) : ∃ r', extV i u' = some r' ∧ VR σ η r r' := by
  cases hu with
  | tuple ha h1 =>
    obtain ⟨v, hv, hr⟩ := (VRs.ofArr ha h1).get h
    exact ⟨v, by simpa [extV] using hv, hr⟩
  | _ => simp [extA] at h
theorem vr_pair {u u' : Value} (h : VR σ η u u') (b : Bool) : VR σ η (.tuple #[u, .bool b]) (.tuple #[u', .bool b]) := VRs.tuple (a := [u, .bool b]) (b := [u', .bool b]) (.cons h (.cons (.bool b) .nil))
def assertA (P : Program) (t : TypeId) (ok : Bool) : Value → Option Value
  | .iface u v => if tconc P t then (if u = t then some (if ok then .tuple #[v, .bool true] else v) else if ok then (match tzero P t with | some z => if cv z then some (.tuple #[z, .bool false]) else none | none => none) else none) else none
  | .nilIface => if tconc P t && ok then (match tzero P t with | some z => if cv z then some (.tuple #[z, .bool false]) else none | none => none) else none
  | _ => none
theorem assertA_vr {t : TypeId} {ok : Bool} {u u' : Value} (hu : VR σ η u u') {r : Value} (h : assertA P t ok u = some r) : ∃ r', assertV P t ok u' = some r' ∧ VR σ η r r' := by
  cases hu with
  | iface hx =>
    simp only [assertA] at h
    simp only [assertV]
    split at h
    · rename_i hc
      rw [if_pos hc]
      split at h
      · rename_i ht
        rw [if_pos ht]
        cases h
        cases ok
        · exact ⟨_, rfl, hx⟩
        · exact ⟨_, rfl, vr_pair hx true⟩
      · rename_i ht
        rw [if_neg ht]
        split at h
        · rename_i hok
          rw [if_pos hok]
          split at h
          · rename_i z hz
            split at h
            · rename_i hcv
              cases h
              exact ⟨_, by rw [hz]; rfl, vr_pair (VR.cv hcv) false⟩
            · cases h
          · cases h
        · cases h
    · cases h
  | nilIface =>
    simp only [assertA] at h
    simp only [assertV]
    split at h
    · rename_i hc
      rw [if_pos hc]
      split at h
      · rename_i z hz
        split at h
        · rename_i hcv
          cases h
          exact ⟨_, by rw [hz]; rfl, vr_pair (VR.cv hcv) false⟩
        · cases h
      · cases h
    · cases h
  | _ => simp [assertA] at h
def splice (l : List Value) (off : Nat) (xs : List Value) : List Value := l.take off ++ xs ++ l.drop (off + xs.length)
theorem splice_length {l xs : List Value} {off : Nat} (h : off + xs.length ≤ l.length) : (splice l off xs).length = l.length := by
  simp only [splice,List.length_append,List.length_take,List.length_drop]; omega
theorem VRs.splice {a b c d : List Value} (h : VRs σ η a b) (k : VRs σ η c d) (off : Nat) : VRs σ η (splice a off c) (splice b off d) := by
  unfold Go.Proofs.YtdkdibeimeaakabGreatDoor.splice
  rw [k.1]
  exact ((h.take off).append k).append (h.drop _)
theorem foldSet : ∀ (l : List Value) (k : Nat) (b : Array Value) (off : Nat), off + k + l.length ≤ b.size →
    ((l.zipIdx k).foldl (fun cs (x : Value × Nat) => cs.setIfInBounds (off + x.2) x.1) b).toList = splice b.toList (off + k) l
  | [], k, b, off, h => by simp [splice]
  | v :: l, k, b, off, h => by
    simp only [List.zipIdx_cons,List.foldl_cons]
    simp only [List.length_cons] at h
    rw [foldSet l (k + 1) _ off (by simp; omega)]
    apply List.ext_getElem?
    intro i
    unfold splice
    simp only [Array.toList_setIfInBounds]
    have hlen : b.toList.length = b.size := by simp
    by_cases h1 : i < off + k
    · rw [List.getElem?_append_left (by simp; omega), List.getElem?_append_left (by simp; omega), List.getElem?_append_left (by simp; omega), List.getElem?_append_left (by simp; omega), List.getElem?_take_of_lt (by omega), List.getElem?_take_of_lt (by omega), List.getElem?_set_ne (by omega)]
    · by_cases h2 : i = off + k
      · subst h2
        rw [List.getElem?_append_left (by simp; omega), List.getElem?_append_left (by simp; omega), List.getElem?_append_left (by simp; omega), List.getElem?_append_right (by simp; omega), List.getElem?_take_of_lt (by omega), List.getElem?_set_self (by omega)]
        simp [Nat.min_eq_left (show off + k ≤ b.size by omega)]
      · by_cases h3 : i < off + (k + 1) + l.length
        · rw [List.getElem?_append_left (by simp; omega), List.getElem?_append_right (by simp; omega), List.getElem?_append_left (by simp; omega), List.getElem?_append_right (by simp; omega)]
          simp only [List.length_take,List.length_set,hlen]
          rw [Nat.min_eq_left (by omega), Nat.min_eq_left (by omega), show i - (off + k) = (i - (off + (k + 1))) + 1 by omega, List.getElem?_cons_succ]
        · rw [List.getElem?_append_right (by simp; omega), List.getElem?_append_right (by simp; omega)]
          simp only [List.length_append,List.length_take,List.length_set,hlen,List.length_cons,List.getElem?_drop]
          rw [Nat.min_eq_left (by omega), Nat.min_eq_left (by omega), List.getElem?_set_ne (by omega)]
          congr 1
          omega
def fillL (place : Nat → Option (Nat × Nat)) (cells : List Value) : List (Nat × Value) → Option (List Value)
  | [] => some cells
  | (i, v) :: rest => match place i with
    | none => none
    | some (off, size) => if v.cells.toList.length = size ∧ off + v.cells.toList.length ≤ cells.length then fillL place (splice cells off v.cells.toList) rest else none
def PRel (σ : Nat → Option Ent) (η : Nat → Value) : List (Nat × Value) → List (Nat × Value) → Prop
  | [], [] => True
  | (i, u) :: a, (j, v) :: b => i = j ∧ VR σ η u v ∧ PRel σ η a b
  | _, _ => False
theorem fillL_vr {place : Nat → Option (Nat × Nat)} : ∀ {ps ps' : List (Nat × Value)} {cs : List Value} {cs' : Array Value}, PRel σ η ps ps' → VRs σ η cs cs'.toList → ∀ {r : List Value}, fillL place cs ps = some r →
    ∃ r', fillV place cs' ps' = some r' ∧ VRs σ η r r'.toList
  | [], [], cs, cs', _, hc, r, h => by cases h; exact ⟨cs', rfl, hc⟩
  | (i, u) :: a, (j, v) :: b, cs, cs', hp, hc, r, h => by
    obtain ⟨rfl, hv, hp⟩ := hp
    simp only [fillL] at h
    cases hpl : place i with
    | none => rw [hpl] at h; cases h
    | some p =>
      obtain ⟨off, size⟩ := p
      rw [hpl] at h
      simp only at h
      split at h
      · rename_i hc1
        have hcv := hv.cells
        have hl := hcv.1
        have hl2 := hc.1
        simp only [Array.length_toList] at hl2 hl hc1
        have hfs := foldSet v.cells.toList 0 cs' off (by simp; omega)
        simp only [Nat.add_zero] at hfs
        obtain ⟨r', h1, h2⟩ := fillL_vr (cs' := v.cells.zipIdx.foldl (fun cs (x : Value × Nat) => cs.setIfInBounds (off + x.2) x.1) cs') hp (by
          rw [← Array.foldl_toList, Array.toList_zipIdx, hfs]
          exact hc.splice hcv off) h
        refine ⟨r', ?_, h2⟩
        have hg : ¬ (v.cells.size ≠ size || off + v.cells.size > cs'.size) = true := by simp; omega
        show Instr.fill place cs' ((i, v) :: b) = some r'
        rw [Instr.fill, hpl]
        simp only
        rw [if_neg hg]
        exact h1
      · cases h
  | [], _ :: _, _, _, hp, _, _, _ => hp.elim
  | _ :: _, [], _, _, hp, _, _, _ => hp.elim
theorem partsA_vr {E : Tr Value} {e : Env} (hE : ER σ η E e) : ∀ {l : List (Nat × Operand)} {ps : List (Nat × Value)}, partsA E l = some ps → PRel σ η ps (l.map fun x => (x.1, ev e x.2))
  | [], _, h => by cases h; trivial
  | (i, x) :: l, _, h => by
    simp only [partsA] at h
    obtain ⟨v, hv, h⟩ := Option.bind_eq_some_iff.1 h
    obtain ⟨vs, hvs, rfl⟩ := Option.map_eq_some_iff.1 h
    exact ⟨rfl, opd_sound hE hv, partsA_vr hE hvs⟩
def buildA (P : Program) (t : TypeId) (parts : List (Nat × Value)) : Option Value :=
  match P.underlying t, tzero P t with
  | some (.struct fs), some z => if fs.all (fun f => tok P f.type) && cv z then (fillL (fun i => (fs[i]?).map fun f => (f.offset, tsz P f.type)) z.cells.toList parts).map fun c => .agg c.toArray else none
  | some (.array _ e), some z => if tok P e && cv z then (fillL (fun i => some (i * tsz P e, tsz P e)) z.cells.toList parts).map fun c => .agg c.toArray else none
  | _, _ => none
theorem buildA_vr {t : TypeId} {ps ps' : List (Nat × Value)} (hp : PRel σ η ps ps') {r : Value} (h : buildA P t ps = some r) : ∃ r', buildV P t ps' = some r' ∧ VR σ η r r' := by
  unfold buildA at h
  unfold buildV
  cases h1 : P.underlying t with
  | none => rw [h1] at h; cases h
  | some d =>
    rw [h1] at h
    cases h2 : tzero P t with
    | none => rw [h2] at h; cases d <;> cases h
    | some z =>
      rw [h2] at h
      cases d <;> simp only at h ⊢ <;> try (cases h; done)
      · split at h
        · rename_i hc
          simp only [Bool.and_eq_true] at hc
          rw [if_pos hc.1]
          obtain ⟨c, hf, rfl⟩ := Option.map_eq_some_iff.1 h
          obtain ⟨r', h3, h4⟩ := fillL_vr hp (VR.cells (VR.cv hc.2)) hf
          exact ⟨_, by rw [h3]; rfl, by have := VRs.agg h4; simpa using this⟩
        · cases h
      · split at h
        · rename_i hc
          simp only [Bool.and_eq_true] at hc
          rw [if_pos hc.1]
          obtain ⟨c, hf, rfl⟩ := Option.map_eq_some_iff.1 h
          obtain ⟨r', h3, h4⟩ := fillL_vr hp (VR.cells (VR.cv hc.2)) hf
          exact ⟨_, by rw [h3]; rfl, by have := VRs.agg h4; simpa using this⟩
        · cases h
def lenA (P : Program) (t : TypeId) : Value → Option Value
  | .slice _ n _ => if (telem P t).isSome then some (.int .i64 n) else none
  | .string s => if tstr P t then some (.int .i64 s.data.toList.length) else none
  | _ => none
theorem lenA_vr {t : TypeId} {u u' : Value} (hu : VR σ η u u') {r : Value} (h : lenA P t u = some r) : ∃ r', lenV P t u' = some r' ∧ VR σ η r r' := by
  cases hu <;> simp only [lenA] at h <;> try (cases h; done)
  all_goals
    split at h
    · rename_i hc
      cases h
      exact ⟨_, by simp only [lenV]; exact if_pos hc, .int _ _⟩
    · cases h
theorem min2_vr {u u' v v' : Value} (hu : VR σ η u u') (hv : VR σ η v v') {r : Value} (h : min2V u v = some r) : ∃ r', min2V u' v' = some r' ∧ VR σ η r r' := by
  cases hu <;> cases hv <;> simp only [min2V] at h ⊢ <;> first | (cases h; done) | (cases h; exact ⟨_, rfl, .int _ _⟩)
theorem max2_vr {u u' v v' : Value} (hu : VR σ η u u') (hv : VR σ η v v') {r : Value} (h : max2V u v = some r) : ∃ r', max2V u' v' = some r' ∧ VR σ η r r' := by
  cases hu <;> cases hv <;> simp only [max2V] at h ⊢ <;> first | (cases h; done) | (cases h; exact ⟨_, rfl, .int _ _⟩)
def opdO (E : Tr Value) : Option Operand → Option (Option Value)
  | none => some none
  | some x => (opd E x).map some
theorem opdO_vr {E : Tr Value} {e : Env} (hE : ER σ η E e) {x : Option Operand} {v : Option Value} (h : opdO E x = some v) : ORel σ η v (x.map (ev e)) := by
  cases x with
  | none => cases h; trivial
  | some x => obtain ⟨u, hu, rfl⟩ := Option.map_eq_some_iff.1 h; exact opd_sound hE hu
def pureA (P : Program) (E : Tr Value) : Op → Option Value
  | .move x => opd E x
  | .assign x => opd E x
  | .pick c a b => (opd E c).bind fun v => match v with | .bool t => if t then opd E a else opd E b | _ => none
  | .binOp op t x y _ => (opd E x).bind fun u => (opd E y).bind fun v => binK P t op u v (isC y)
  | .unOp op _ x => (opd E x).bind fun u => unV op u
  | .convert s d x => (opd E x).bind fun u => convV P s d u
  | .fieldAddr s x f => (opd E x).bind fun u => fldV P s f u
  | .field s x f => (opd E x).bind fun u => fieldA P s f u
  | .indexAddr t x i => (opd E x).bind fun u => (opd E i).bind fun v => idxA P t u v
  | .index t x i => (opd E x).bind fun u => (opd E i).bind fun v => idxK P t u v
  | .slice t x lo hi none => (opd E x).bind fun u => (opdO E lo).bind fun l => (opdO E hi).bind fun h => slcA P t u l h
  | .nilCheck x => (opd E x).bind nilV
  | .makeFunc fn a b => (opds E a.toList).bind fun va => (opds E b.toList).map fun vb => .func fn va.toArray vb.toArray
  | .makeInterface t x => if tconc P t then (opd E x).map (.iface t ·) else none
  | .extract x i => (opd E x).bind (extA i)
  | .typeAssert x _ t ok => (opd E x).bind (assertA P t ok)
  | .build t parts => (partsA E parts.toList).bind fun ps => buildA P t ps
  | .call { callee := .builtin .len, args := ⟨[x]⟩, argTypes := ⟨[t]⟩ } => (opd E x).bind (lenA P t)
  | .call { callee := .builtin .min, args := ⟨[x, y]⟩, .. } => (opd E x).bind fun u => (opd E y).bind fun v => min2V u v
  | .call { callee := .builtin .max, args := ⟨[x, y]⟩, .. } => (opd E x).bind fun u => (opd E y).bind fun v => max2V u v
  | _ => none
theorem VR.bool_inv {t : Bool} {v : Value} (h : VR σ η (.bool t) v) : v = .bool t := by cases h; rfl
theorem pureA_sound {E : Tr Value} {e : Env} (hE : ER σ η E e) {op : Op} {v : Value} (h : pureA P E op = some v) : ∃ v', pureV P (ev e) op = some v' ∧ VR σ η v v' := by
  have o : ∀ {x u}, opd E x = some u → VR σ η u (ev e x) := fun h => opd_sound hE h
  unfold pureA at h
  unfold pureV
  split at h <;> simp only at h ⊢ <;> try (cases h; done)
  · exact ⟨_, rfl, o h⟩
  · exact ⟨_, rfl, o h⟩
  · obtain ⟨c, hc, h⟩ := Option.bind_eq_some_iff.1 h
    have hc' := o hc
    split at h
    · rename_i t
      rw [VR.bool_inv hc']
      simp only [pickV]
      split at h
      · rename_i ht; exact ⟨_, rfl, by simp only [ht,if_true]; exact o h⟩
      · rename_i ht; exact ⟨_, rfl, by simp only [ht,if_false,Bool.false_eq_true]; exact o h⟩
    · cases h
  · obtain ⟨a, ha, h⟩ := Option.bind_eq_some_iff.1 h; obtain ⟨b, hb, h⟩ := Option.bind_eq_some_iff.1 h
    exact binK_vr (o ha) (o hb) h
  · obtain ⟨a, ha, h⟩ := Option.bind_eq_some_iff.1 h; exact unV_vr (o ha) h
  · obtain ⟨a, ha, h⟩ := Option.bind_eq_some_iff.1 h; exact convV_vr (o ha) h
  · obtain ⟨a, ha, h⟩ := Option.bind_eq_some_iff.1 h; exact fldV_vr (o ha) h
  · obtain ⟨a, ha, h⟩ := Option.bind_eq_some_iff.1 h; exact fieldA_vr (o ha) h
  · obtain ⟨a, ha, h⟩ := Option.bind_eq_some_iff.1 h; obtain ⟨b, hb, h⟩ := Option.bind_eq_some_iff.1 h
    exact idxA_vr (o ha) (o hb) h
  · obtain ⟨a, ha, h⟩ := Option.bind_eq_some_iff.1 h; obtain ⟨b, hb, h⟩ := Option.bind_eq_some_iff.1 h
    exact idxK_vr (o ha) (o hb) h
  · obtain ⟨a, ha, h⟩ := Option.bind_eq_some_iff.1 h; obtain ⟨l, hl, h⟩ := Option.bind_eq_some_iff.1 h; obtain ⟨b, hb, h⟩ := Option.bind_eq_some_iff.1 h
    exact slcA_vr (o ha) (opdO_vr hE hl) (opdO_vr hE hb) h
  · obtain ⟨a, ha, h⟩ := Option.bind_eq_some_iff.1 h; exact nilV_vr (o ha) h
  · obtain ⟨a, ha, h⟩ := Option.bind_eq_some_iff.1 h; obtain ⟨b, hb, rfl⟩ := Option.map_eq_some_iff.1 h
    have h1 := opds_sound hE ha
    have h2 := opds_sound hE hb
    refine ⟨_, rfl, .func ?_ ?_ (fun i u v hu hv => ?_) (fun i u v hu hv => ?_)⟩
    · simpa using h1.1
    · simpa using h2.1
    · exact h1.2 i u v (by simpa using hu) (by simpa using hv)
    · exact h2.2 i u v (by simpa using hu) (by simpa using hv)
  · split at h
    · rename_i hc
      obtain ⟨a, ha, rfl⟩ := Option.map_eq_some_iff.1 h
      exact ⟨_, by rw [if_pos hc], .iface (o ha)⟩
    · cases h
  · obtain ⟨a, ha, h⟩ := Option.bind_eq_some_iff.1 h; exact extA_vr (o ha) h
  · obtain ⟨a, ha, h⟩ := Option.bind_eq_some_iff.1 h; exact assertA_vr (o ha) h
  · obtain ⟨a, ha, h⟩ := Option.bind_eq_some_iff.1 h; exact buildA_vr (partsA_vr hE ha) h
  · obtain ⟨a, ha, h⟩ := Option.bind_eq_some_iff.1 h; exact lenA_vr (o ha) h
  · obtain ⟨a, ha, h⟩ := Option.bind_eq_some_iff.1 h; obtain ⟨b, hb, h⟩ := Option.bind_eq_some_iff.1 h
    exact min2_vr (o ha) (o hb) h
  · obtain ⟨a, ha, h⟩ := Option.bind_eq_some_iff.1 h; obtain ⟨b, hb, h⟩ := Option.bind_eq_some_iff.1 h
    exact max2_vr (o ha) (o hb) h
end
end Go.Proofs.YtdkdibeimeaakabGreatDoor
/- Closed runs, third part: the abstract memory. -/
namespace Go.Proofs.YtdkdibeimeaakabGreatDoor
open Go.RowKit
open Go.Value renaming oneCell' → ZK, cells → ZJ
noncomputable section
set_option linter.unusedVariables false
set_option linter.unusedSimpArgs false
structure AR where
  cs : List Value
  e : TypeId
  es : Nat
  full : Bool
  own : Bool
  st : Nat
inductive ObjA where
  | map (es : List (Value × Value × Nat)) (ck : Nat)
  | iter (m since : Nat) (seen : List Nat) (last : Nat)
  | loop (st : Nat) (pend : Option (Option Nat))
  | defs
structure LoopS where
  E : Tr Value
  ps : List Nat
  A : Code
  B : Code
  pl : Nat → Plan
structure AW where
  rows : Tr AR
  n : Nat
  rsv : List Nat
  maps : Tr ObjA
  ls : List (Nat × LoopS)
structure EntR (σ : Nat → Option Ent) (η : Nat → Value) (e : Value × Value × Nat) (x : MapEntry) : Prop where
  key : x.key = e.1
  val : VR σ η e.2.1 x.val
  born : x.born = e.2.2
def MapR (σ : Nat → Option Ent) (η : Nat → Value) (l : List (Value × Value × Nat)) (es : Array MapEntry) : Prop := l.length = es.size ∧ ∀ (i : Nat) e x, l[i]? = some e → es[i]? = some x → EntR σ η e x
theorem MapR.mono {σ σ' : Nat → Option Ent} {η : Nat → Value} {l : List (Value × Value × Nat)} {es : Array MapEntry} (h : MapR σ η l es) (hs : Sub σ σ') : MapR σ' η l es :=
  ⟨h.1, fun i e x he hx => ⟨(h.2 i e x he hx).key, (h.2 i e x he hx).val.mono hs, (h.2 i e x he hx).born⟩⟩
def stC : Nat → LoopState
  | 0 => .ready
  | 1 => .busy
  | 2 => .done
  | _ => .exhausted
def pendC : Option (Option Nat) → Option Code
  | none => none
  | some none => some .ret
  | some (some i) => some (.exit i)
structure LoopR (σ : Nat → Option Ent) (η : Nat → Value) (S : LoopS) (st : Nat) (pend : Option (Option Nat)) (r : Loop) : Prop where
  state : r.state = stC st
  pending : r.pending = pendC pend
  params : r.params.toList = S.ps
  assign : r.assign = S.A
  body : r.body = S.B
  okA : noDefer r.assign = true ∧ plansOk S.pl r.assign = true
  okB : noDefer r.body = true ∧ plansOk S.pl r.body = true
  fits : ∃ g, fits r.tmps.size (.rangeFunc g r.params r.assign r.body) = true
  tmps : ∃ e0, ER σ η S.E e0 ∧ ∀ t, t < r.tmps.size → r.tmps[t]? = some (e0 t)
def lsGet : List (Nat × LoopS) → Nat → Option LoopS
  | [], _ => none
  | x :: l, j => Bool.rec (lsGet l j) (some x.2) (Nat.beq x.1 j)
def ObjR (σ : Nat → Option Ent) (η : Nat → Value) (L : Option LoopS) : ObjA → Obj → Prop
  | .map l ck, .map es ck' => ck' = ck ∧ MapR σ η l es
  | .iter m since seen last, .mapIter m' since' seen' last' => (∃ x, σ m = some x ∧ m' = some x.b) ∧ since' = since ∧ seen'.toList = seen ∧ last' = last
  | .loop st pend, .loop r => ∃ S, L = some S ∧ LoopR σ η S st pend r
  | .defs, .deferred (some []) => True
  | _, _ => False
theorem ObjR.mono {σ σ' : Nat → Option Ent} {η : Nat → Value} {L : Option LoopS} {a : ObjA} {o : Obj} (h : ObjR σ η L a o) (hs : Sub σ σ') : ObjR σ' η L a o := by
  unfold ObjR at h ⊢
  split at h
  · exact ⟨h.1, h.2.mono hs⟩
  · obtain ⟨⟨x, hx, he⟩, h2⟩ := h
    exact ⟨⟨x, hs _ _ hx, he⟩, h2⟩
  · obtain ⟨S, hS, hr⟩ := h
    obtain ⟨e0, he0, ht⟩ := hr.tmps
    exact ⟨S, hS, hr.state, hr.pending, hr.params, hr.assign, hr.body, hr.okA, hr.okB, hr.fits, e0, he0.mono hs, ht⟩
  · trivial
  · exact h.elim
theorem ObjR.nc {σ : Nat → Option Ent} {η : Nat → Value} {L : Option LoopS} {a : ObjA} {o : Obj} (h : ObjR σ η L a o) : ∀ cur e fz, o ≠ .cells cur e fz := by
  intro cur e fz he
  subst he
  cases a <;> exact h
def MInv (w0 : World) (σ : Nat → Option Ent) (η : Nat → Value) (L : List (Nat × LoopS)) (M : Tr ObjA) (w : World) : Prop :=
  (∀ j m, M.get j = some m → ∃ x o, σ j = some x ∧ w0.heap.size ≤ x.b ∧ w.heap[x.b]? = some o ∧ ObjR σ η (lsGet L j) m o) ∧
  ∀ i j mi mj x y, M.get i = some mi → M.get j = some mj → σ i = some x → σ j = some y → x.b = y.b → i = j
theorem MInv.keep {w0 w w' : World} {σ σ' : Nat → Option Ent} {η : Nat → Value} {L : List (Nat × LoopS)} {M : Tr ObjA} (h : MInv w0 σ η L M w) (hs : Sub σ σ') (hk : ∀ (k : Nat) (o : Obj), w.heap[k]? = some o → (∀ cur e fz, o ≠ .cells cur e fz) → w'.heap[k]? = w.heap[k]?) : MInv w0 σ' η L M w' :=
  ⟨fun j m hg => by
    obtain ⟨x, o, hx, hb, ho, hr⟩ := h.1 j m hg
    exact ⟨x, o, hs _ _ hx, hb, (hk _ _ ho hr.nc).trans ho, hr.mono hs⟩,
  fun i j mi mj x y hi hj hx hy hxy => by
    obtain ⟨x', _, hx', _⟩ := h.1 i mi hi
    obtain ⟨y', _, hy', _⟩ := h.1 j mj hj
    rw [hs _ _ hx'] at hx
    cases hx
    rw [hs _ _ hy'] at hy
    cases hy
    exact h.2 i j mi mj _ _ hi hj hx' hy' hxy⟩
structure Inv (w0 : World) (σ : Nat → Option Ent) (η : Nat → Value) (A : AW) (w : World) : Prop where
  ext : Ext w0 w
  fresh : ∀ j, A.n ≤ j → σ j = none
  rsv : ∀ j ∈ A.rsv, σ j = none ∧ j < A.n
  row : ∀ j r, A.rows.get j = some r → ∃ x cur, σ j = some x ∧ x.es = r.es ∧ w0.heap.size ≤ x.b ∧ w.heap[x.b]? = some (.cells cur r.e x.fz) ∧ cur.size = x.tot ∧ ((r.full = true → cur.size = r.cs.length) ∧ (r.own = true → x.fz = (0, 0))) ∧ VRs σ η r.cs (cur.toList.take r.cs.length) ∧ r.cs.length ≤ cur.size
  sep : ∀ i j ri rj x y, A.rows.get i = some ri → A.rows.get j = some rj → σ i = some x → σ j = some y → x.b = y.b → i = j
  mp : MInv w0 σ η A.ls A.maps w
structure Step (σ σ' : Nat → Option Ent) (A A' : AW) (w w' : World) : Prop where
  sub : Sub σ σ'
  ls : A'.ls = A.ls
  keep : ∀ j r' x, A'.rows.get j = some r' → σ j = some x → ∃ r, A.rows.get j = some r ∧ r.st ≤ r'.st ∧ (r.st = r'.st → w'.heap[x.b]? = w.heap[x.b]?)
theorem Step.refl (σ : Nat → Option Ent) (A : AW) (w : World) : Step σ σ A A w w := ⟨Sub.refl _, rfl, fun j r x hg _ => ⟨r, hg, Nat.le_refl _, fun _ => rfl⟩⟩
theorem Step.trans {σ1 σ2 σ3 : Nat → Option Ent} {A1 A2 A3 : AW} {w1 w2 w3 : World} (h : Step σ1 σ2 A1 A2 w1 w2) (k : Step σ2 σ3 A2 A3 w2 w3) : Step σ1 σ3 A1 A3 w1 w3 :=
  ⟨h.sub.trans k.sub, k.ls.trans h.ls, fun j r3 x hg hx => by
    obtain ⟨r2, h2, l2, e2⟩ := k.keep j r3 x hg (h.sub _ _ hx)
    obtain ⟨r1, h1, l1, e1⟩ := h.keep j r2 x h2 hx
    exact ⟨r1, h1, Nat.le_trans l1 l2, fun he => (e2 (by omega)).trans (e1 (by omega))⟩⟩
section
variable {P : Program} {w0 : World} {σ : Nat → Option Ent} {η : Nat → Value} {A : AW} {w : World}
theorem Inv.drew (h : Inv w0 σ η A w) : Inv w0 σ η A w.drew := ⟨h.ext.drew', h.fresh, h.rsv, h.row, h.sep, h.mp⟩
theorem Step.drew (h : Step σ σ A A w w) : Step σ σ A A w w.drew := ⟨Sub.refl _, rfl, fun j r x hg _ => ⟨r, hg, Nat.le_refl _, fun _ => rfl⟩⟩
def newRow (A : AW) (rid : Option Nat) (cs : List Value) (e : TypeId) (es : Nat) : Option (Nat × AW) :=
  match rid with
  | none => some (A.n, { A with rows := A.rows.set A.n (some ⟨cs, e, es, true, true, 0⟩), n := A.n + 1 })
  | some id => if id < A.n ∧ A.rsv.contains id = true then some (id, { A with rows := A.rows.set id (some ⟨cs, e, es, true, true, 0⟩), rsv := A.rsv.filter (· != id) }) else none
def upS (σ : Nat → Option Ent) (j : Nat) (x : Ent) : Nat → Option Ent := fun i => if i = j then some x else σ i
theorem upS_self (j : Nat) (x : Ent) : upS σ j x j = some x := by simp [upS]
theorem upS_sub {j : Nat} {x : Ent} (h : σ j = none) : Sub σ (upS σ j x) := fun i y hi => by
  unfold upS
  split
  · rename_i e; subst e; rw [h] at hi; cases hi
  · exact hi
theorem alloc_new (w : World) (cs : List Value) (e : TypeId) : (w.alloc (.cells cs.toArray e)).heap[w.heap.size]? = some (.cells cs.toArray e) := heap_alloc_new w _
theorem newAny {A' : AW} {id : Nat} {cs cs' : List Value} {e : TypeId} {es : Nat} (h : Inv w0 σ η A w) (hid : σ id = none) (hcs : VRs σ η cs cs')
    (hr : A'.rows = A.rows.set id (some ⟨cs, e, es, true, true, 0⟩)) (hn : ∀ j, A'.n ≤ j → A.n ≤ j ∧ j ≠ id) (hnn : A.n ≤ A'.n) (hv : ∀ j ∈ A'.rsv, j ∈ A.rsv ∧ j ≠ id) (hm : A'.maps = A.maps) (hls : A'.ls = A.ls) :
    Inv w0 (upS σ id ⟨w.heap.size, cs.length, es, (0, 0)⟩) η A' (w.alloc (.cells cs'.toArray e)) ∧ Step σ (upS σ id ⟨w.heap.size, cs.length, es, (0, 0)⟩) A A' w (w.alloc (.cells cs'.toArray e)) := by
  have hsub := upS_sub (x := ⟨w.heap.size, cs.length, es, (0, 0)⟩) hid
  have hnone : A.rows.get id = none := by
    cases hg : A.rows.get id with
    | none => rfl
    | some r => obtain ⟨x, cur, hx, _⟩ := h.row id r hg; rw [hid] at hx; cases hx
  have blt : ∀ {j r x}, A.rows.get j = some r → σ j = some x → x.b < w.heap.size := fun {j r x} hg hx => by
    obtain ⟨y, cur, hy, _, _, hb, _⟩ := h.row j r hg
    rw [hx] at hy
    cases hy
    exact (Array.getElem?_eq_some_iff.1 hb).1
  refine ⟨⟨h.ext.alloc' _, fun j hj => ?_, fun j hj => ?_, fun j r hg => ?_, fun i j ri rj x y hi hj hx hy hxy => ?_, ?_⟩, ⟨hsub, hls, fun j r x hg hx => ?_⟩⟩
  · have := hn j hj
    simp [upS, this.2, h.fresh j this.1]
  · have := hv j hj
    have hr1 := h.rsv j this.1
    refine ⟨by simp [upS, this.2, hr1.1], ?_⟩
    exact Nat.lt_of_lt_of_le hr1.2 hnn
  · rw [hr, Tr.get_set] at hg
    split at hg
    · rename_i e1
      subst e1
      cases hg
      exact ⟨_, _, upS_self _ _, rfl, h.ext.le, alloc_new _ _ _, by simp [hcs.1], ⟨fun _ => by simp [hcs.1], fun _ => rfl⟩, by simpa [hcs.1] using hcs.mono hsub, by simp [hcs.1]⟩
    · obtain ⟨x, cur, hx, h1, h2, h3, h4, h5, h6, h7⟩ := h.row j r hg
      refine ⟨x, cur, hsub _ _ hx, h1, h2, ?_, h4, h5, h6.mono hsub, h7⟩
      rw [Below.heap_alloc _ _ _ (blt hg hx)]
      exact h3
  · rw [hr, Tr.get_set] at hi hj
    split at hi <;> split at hj
    · omega
    · rename_i e1 e2
      subst e1
      rw [upS_self] at hx
      cases hx
      simp only [upS,if_neg e2] at hy
      have := blt hj hy
      simp only at hxy
      omega
    · rename_i e1 e2
      subst e2
      rw [upS_self] at hy
      cases hy
      simp only [upS,if_neg e1] at hx
      have := blt hi hx
      simp only at hxy
      omega
    · rename_i e1 e2
      simp only [upS,if_neg e1] at hx
      simp only [upS,if_neg e2] at hy
      exact h.sep i j ri rj x y hi hj hx hy hxy
  · rw [hm, hls]
    exact h.mp.keep hsub fun k o hk _ => Below.heap_alloc _ _ _ (Array.getElem?_eq_some_iff.1 hk).1
  · have hj : j ≠ id := fun e => by subst e; rw [hid] at hx; cases hx
    rw [hr, Tr.get_set, if_neg hj] at hg
    exact ⟨r, hg, Nat.le_refl _, fun _ => Below.heap_alloc _ _ _ (blt hg hx)⟩
theorem newRow_sound {rid : Option Nat} {cs cs' : List Value} {e : TypeId} {es id : Nat} {A' : AW} (h : Inv w0 σ η A w) (hcs : VRs σ η cs cs') (hn : newRow A rid cs e es = some (id, A')) :
    ∃ x, x.b = w.heap.size ∧ x.es = es ∧ x.tot = cs.length ∧ Inv w0 (upS σ id x) η A' (w.alloc (.cells cs'.toArray e)) ∧ Step σ (upS σ id x) A A' w (w.alloc (.cells cs'.toArray e)) := by
  refine ⟨⟨w.heap.size, cs.length, es, (0, 0)⟩, rfl, rfl, rfl, ?_⟩
  unfold newRow at hn
  split at hn
  · cases hn
    exact newAny h (h.fresh _ (Nat.le_refl _)) hcs rfl (fun j hj => by simp at hj; omega) (by simp) (fun j hj => ⟨hj, fun e => by have := (h.rsv j hj).2; omega⟩) rfl rfl
  · split at hn
    · rename_i hl
      cases hn
      refine newAny h (h.rsv _ (by simpa using hl.2)).1 hcs rfl (fun j hj => ⟨hj, by have := hl.1; simp only at hj; omega⟩) (Nat.le_refl _) (fun j hj => ?_) rfl rfl
      simp only [List.mem_filter,bne_iff_ne] at hj
      exact hj
    · cases hn
theorem cell_blk {w : World} {b : Nat} {cur : Array Value} {e : TypeId} {fz : Nat × Nat} (h : w.heap[b]? = some (.cells cur e fz)) (o : Nat) : w.cell? ⟨b, o, none⟩ = cur[o]? := by
  unfold World.cell?
  simp only [h]
  simp
theorem frozen_blk {w : World} {b : Nat} {cur : Array Value} {e : TypeId} (h : w.heap[b]? = some (.cells cur e)) (o : Nat) : w.frozen? ⟨b, o, none⟩ = false := by
  unfold World.frozen?
  simp only [h]
  simp
theorem loads_blk {w : World} {b : Nat} {cur : Array Value} {e : TypeId} {fz : Nat × Nat} (h : w.heap[b]? = some (.cells cur e fz)) (o : Nat) : ∀ (n i : Nat), o + i + n ≤ cur.size → loadsV w ⟨b, o, none⟩ n i = some ((cur.toList.drop (o + i)).take n)
  | 0, _, _ => by simp [loadsV]
  | n + 1, i, hl => by
    simp only [loadsV,add_ptr,cell_blk h]
    rw [Array.getElem?_eq_getElem (by omega)]
    simp only [Option.bind_some]
    rw [loads_blk h o n (i + 1) (by omega)]
    simp only [Option.map_some]
    rw [List.drop_eq_getElem_cons (i := o + i) (by simp; omega), List.take_succ_cons]
    simp [Nat.add_assoc]
def spliceF {β : Type} : List Value → Nat → List Value → (List Value → β) → β
  | l, 0, [], k => k l
  | a :: l, 0, x :: xs, k => spliceF l 0 xs fun t => k (x :: t)
  | a :: l, o + 1, xs, k => spliceF l o xs fun t => k (a :: t)
  | [], _, _, k => k []
def leLen : List Value → Nat → Bool
  | _, 0 => true
  | [], _ + 1 => false
  | _ :: l, n + 1 => leLen l n
theorem leLen_iff : ∀ (l : List Value) (n : Nat), leLen l n = true ↔ n ≤ l.length
  | l, 0 => by cases l <;> simp [leLen]
  | [], n + 1 => by simp [leLen]
  | _ :: l, n + 1 => by simp [leLen, leLen_iff l n]
theorem spliceF_eq {β : Type} : ∀ (l : List Value) (o : Nat) (xs : List Value) (k : List Value → β), o + xs.length ≤ l.length → spliceF l o xs k = k (splice l o xs)
  | l, 0, [], k, _ => by cases l <;> simp [spliceF, splice]
  | a :: l, 0, x :: xs, k, h => by
    simp only [List.length_cons] at h
    rw [spliceF, spliceF_eq l 0 xs _ (by omega)]
    simp [splice]
  | a :: l, o + 1, xs, k, h => by
    simp only [List.length_cons] at h
    rw [spliceF, spliceF_eq l o xs _ (by omega)]
    unfold splice
    rw [show o + 1 + xs.length = (o + xs.length) + 1 by omega]
    simp
  | [], 0, x :: xs, k, h => by simp at h
  | [], o + 1, xs, k, h => by simp at h
def loadA (P : Program) (A : AW) (t : TypeId) : Value → Option Value
  | .pointer (some ⟨j, o, none⟩) => if tok P t = true then (A.rows.get j).bind fun r =>
      if tagg P t = true then (if leLen r.cs (o + tsz P t) = true then some (.agg ((r.cs.drop o).take (tsz P t)).toArray) else none) else r.cs[o]? else none
  | _ => none
theorem vrs_cur {r cs' : List Value} {n o : Nat} (h : VRs σ η r (cs'.take r.length)) (ho : o + n ≤ r.length) (hl : r.length ≤ cs'.length) : VRs σ η ((r.drop o).take n) ((cs'.drop o).take n) := by
  have := (h.drop o).take n
  refine ⟨this.1.trans ?_, fun i u v hu hv => this.2 i u v hu ?_⟩
  · simp only [List.length_take,List.length_drop]; omega
  · rw [← hv]
    simp only [List.getElem?_take,List.getElem?_drop]
    split
    · rw [if_pos (by omega)]
    · rfl
theorem loadA_blk {t : TypeId} {r : AR} {cur : Array Value} {b : Nat} {w : World} {fz : Nat × Nat} (h3 : w.heap[b]? = some (.cells cur r.e fz)) (h6 : VRs σ η r.cs (cur.toList.take r.cs.length)) (h7 : r.cs.length ≤ cur.size) {o : Nat} {v : Value} (hok : tok P t = true)
    (h : (if tagg P t = true then (if leLen r.cs (o + tsz P t) = true then some (Value.agg ((r.cs.drop o).take (tsz P t)).toArray) else none) else r.cs[o]?) = some v) :
    ∃ v', loadV P w t (.pointer (some ⟨b, o, none⟩)) = some v' ∧ VR σ η v v' := by
  simp only [loadV,hok,if_true]
  split at h
  · rename_i ha
    rw [if_pos ha]
    split at h
    · rename_i hl
      have hl := (leLen_iff _ _).1 hl
      cases h
      rw [loads_blk h3 o _ 0 (by omega)]
      exact ⟨_, rfl, VRs.agg (vrs_cur h6 hl (by simpa using h7))⟩
    · cases h
  · rename_i ha
    rw [if_neg ha]
    rw [cell_blk h3]
    obtain ⟨u, hu, hr⟩ := h6.get h
    have ho := (List.getElem?_eq_some_iff.1 h).1
    refine ⟨u, ?_, hr⟩
    rw [← hu, List.getElem?_take, if_pos ho, Array.getElem?_toList]
theorem loadA_sound {t : TypeId} {p p' : Value} (h : Inv w0 σ η A w) (hp : VR σ η p p') {v : Value} (hv : loadA P A t p = some v) : ∃ v', loadV P w t p' = some v' ∧ VR σ η v v' := by
  unfold loadA at hv
  split at hv
  · rename_i j o
    split at hv
    · rename_i hok
      obtain ⟨r, hg, hv⟩ := Option.bind_eq_some_iff.1 hv
      obtain ⟨x, cur, hx, h1, h2, h3, h4, h5, h6, h7⟩ := h.row j r hg
      cases hp with
      | ptr hy =>
        rw [hx] at hy
        cases hy
        exact loadA_blk h3 h6 h7 hok hv
    · cases hv
  · cases hv
theorem heap_set_self {w : World} {b : Nat} {cur : Array Value} {e : TypeId} (h : w.heap[b]? = some (.cells cur e)) (o : Nat) (v : Value) : (w.setCell ⟨b, o, none⟩ v).heap[b]? = some (.cells (cur.setIfInBounds o v) e) := by
  unfold World.setCell
  simp only [Array.getElem?_modify,if_true,h]
  simp
theorem stores_blk {b : Nat} {e : TypeId} : ∀ (l : List Value) (w : World) (cur : Array Value) (o i : Nat), w.heap[b]? = some (.cells cur e) → (∀ v ∈ l, v.oneCell' = true) → o + i + l.length ≤ cur.size →
    ∃ w' cur', storesV w ⟨b, o, none⟩ l i = some w' ∧ w'.heap[b]? = some (.cells cur' e) ∧ cur'.toList = splice cur.toList (o + i) l ∧ (∀ k, k ≠ b → w'.heap[k]? = w.heap[k]?) ∧ w'.os = w.os ∧ w'.tape = w.tape ∧ w'.output = w.output ∧ w'.heap.size = w.heap.size
  | [], w, cur, o, i, h, _, _ => ⟨w, cur, rfl, h, by simp [splice], fun _ _ => rfl, rfl, rfl, rfl, rfl⟩
  | v :: l, w, cur, o, i, h, h1, hl => by
    simp only [List.length_cons] at hl
    obtain ⟨w', cur', g1, g2, g3, g4, g5, g6, g7, g8⟩ := stores_blk l (w.setCell ⟨b, o + i, none⟩ v) (cur.setIfInBounds (o + i) v) o (i + 1) (heap_set_self h _ _) (fun u hu => h1 u (by simp [hu])) (by simp; omega)
    have hc : (w.cell? ⟨b, o + i, none⟩).isSome = true := by rw [cell_blk h]; simp; omega
    refine ⟨w', cur', ?_, g2, ?_, fun k hk => (g4 k hk).trans (Below.heap_setCell _ _ _ _ hk), g5, g6, g7, by rw [g8]; simp [World.setCell]⟩
    · simp only [storesV,add_ptr,hc,frozen_blk h,h1 v (by simp),and_self,if_true,g1]
    · rw [g3]
      have hh := foldSet (v :: l) 0 cur (o + i) (by simp; omega)
      have hh2 := foldSet l 0 (cur.setIfInBounds (o + i) v) (o + i + 1) (by simp; omega)
      have hshift : ∀ (l : List Value) (k : Nat) (b : Array Value) (off : Nat), (l.zipIdx (k + 1)).foldl (fun cs (x : Value × Nat) => cs.setIfInBounds (off + x.2) x.1) b = (l.zipIdx k).foldl (fun cs (x : Value × Nat) => cs.setIfInBounds (off + 1 + x.2) x.1) b := by
        intro l
        induction l with
        | nil => intros; rfl
        | cons a l ih =>
          intro k b off
          simp only [List.zipIdx_cons,List.foldl_cons]
          rw [ih, show off + (k + 1) = off + 1 + k by omega]
      simp only [List.zipIdx_cons,List.foldl_cons,Nat.add_zero] at hh
      rw [hshift] at hh
      rw [← hh, hh2]
      simp [Nat.add_assoc]
def storeA (P : Program) (A : AW) (t : TypeId) (v : Value) : Value → Option AW
  | .pointer (some ⟨j, o, none⟩) => (A.rows.get j).bind fun r =>
      if tok P t = true ∧ v.cells.toList.length = tsz P t ∧ v.cells.toList.all ZK = true ∧ leLen r.cs (o + v.cells.toList.length) = true ∧ r.own = true then
        spliceF r.cs o v.cells.toList fun cs => some { A with rows := A.rows.set j (some { r with cs := cs, st := r.st + 1 }) } else none
  | _ => none
theorem one_vr {u v : Value} (h : VR σ η u v) (h1 : u.oneCell' = true) : v.oneCell' = true := by
  cases h with
  | agg => simp [ZK] at h1
  | tuple => simp [ZK] at h1
  | hole i h => exact h
  | _ => rfl
theorem vrs_one {a b : List Value} (h : VRs σ η a b) (h1 : a.all ZK = true) : ∀ v ∈ b, v.oneCell' = true := fun v hv => by
  obtain ⟨i, hi, rfl⟩ := List.getElem_of_mem hv
  have hi' : i < a.length := by rw [h.1]; exact hi
  exact one_vr (h.2 i a[i] b[i] (List.getElem?_eq_getElem hi') (List.getElem?_eq_getElem hi)) (List.all_eq_true.1 h1 _ (List.getElem_mem hi'))
theorem putRow {A' : AW} {j : Nat} {r : AR} {x : Ent} {cur cur' : Array Value} {w' : World} {cs2 : List Value} (h : Inv w0 σ η A w) (hg : A.rows.get j = some r) (hx : σ j = some x) (hb : w.heap[x.b]? = some (.cells cur r.e))
    (hb' : w'.heap[x.b]? = some (.cells cur' r.e)) (hsz : cur'.size = cur.size) (hv : VRs σ η cs2 (cur'.toList.take cs2.length)) (hl : cs2.length = r.cs.length)
    (ho : ∀ k, k ≠ x.b → w'.heap[k]? = w.heap[k]?) (hos : w'.os = w.os) (htp : w'.tape = w.tape) (hout : w'.output = w.output) (hhs : w'.heap.size = w.heap.size)
    (e1 : A'.rows = A.rows.set j (some { r with cs := cs2, st := r.st + 1 })) (e2 : A'.n = A.n) (e3 : A'.rsv = A.rsv) (e4 : A'.maps = A.maps) (e5 : A'.ls = A.ls) : Inv w0 σ η A' w' ∧ Step σ σ A A' w w' := by
  obtain ⟨x', cur0, hx', h1, h2, h3, h4, h5, h6, h7⟩ := h.row j r hg
  rw [hx] at hx'
  cases hx'
  rw [hb] at h3
  simp only [Option.some.injEq,Obj.cells.injEq,true_and] at h3
  obtain ⟨rfl, hfz⟩ := h3
  have hwx : Ext w0 w' := Below.trans h.ext ⟨hos, htp, hout, by omega, fun k hk => ho k (by omega)⟩
  refine ⟨⟨hwx, fun i hi => h.fresh i (by omega), fun i hi => by rw [e3] at hi; rw [e2]; exact h.rsv i hi, fun i ri hi => ?_, fun i k ri rk y z hi hk hy hz hyz => ?_, ?_⟩, ⟨Sub.refl _, e5, fun i ri y hgi hy => ?_⟩⟩
  · rw [e1, Tr.get_set] at hi
    split at hi
    · rename_i e5
      subst e5
      cases hi
      exact ⟨x, cur', hx, h1, h2, by rw [← hfz]; exact hb', by omega, ⟨fun hf => by have := h5.1 hf; simp only; omega, h5.2⟩, hv, by simp only; omega⟩
    · rename_i e5
      obtain ⟨y, cy, hy, g1, g2, g3, g4, g5, g6, g7⟩ := h.row i ri hi
      refine ⟨y, cy, hy, g1, g2, ?_, g4, g5, g6, g7⟩
      rw [ho y.b (fun e6 => e5 (h.sep i j ri r y x hi hg hy hx e6))]
      exact g3
  · rw [e1, Tr.get_set] at hi hk
    have gi : ∃ r', A.rows.get i = some r' := by
      split at hi
      · rename_i e5; subst e5; exact ⟨r, hg⟩
      · exact ⟨ri, hi⟩
    have gk : ∃ r', A.rows.get k = some r' := by
      split at hk
      · rename_i e5; subst e5; exact ⟨r, hg⟩
      · exact ⟨rk, hk⟩
    obtain ⟨r1, g1⟩ := gi
    obtain ⟨r2, g2⟩ := gk
    exact h.sep i k r1 r2 y z g1 g2 hy hz hyz
  · rw [e4, e5]
    exact h.mp.keep (Sub.refl _) fun k o hk hn => ho k (fun e => by subst e; rw [hb] at hk; cases hk; exact hn _ _ _ rfl)
  · rw [e1, Tr.get_set] at hgi
    split at hgi
    · rename_i e5
      subst e5
      cases hgi
      exact ⟨r, hg, by simp, fun he => by simp at he⟩
    · rename_i e5
      exact ⟨ri, hgi, Nat.le_refl _, fun _ => ho y.b (fun e6 => e5 (h.sep i j ri r y x hgi hg hy hx e6))⟩
theorem storeA_sound {t : TypeId} {p p' v v' : Value} {A' : AW} (h : Inv w0 σ η A w) (hp : VR σ η p p') (hv : VR σ η v v') (hs : storeA P A t v p = some A') : ∃ w', storeV P w t v' p' = some w' ∧ Inv w0 σ η A' w' ∧ Step σ σ A A' w w' := by
  unfold storeA at hs
  split at hs
  · rename_i j o
    obtain ⟨r, hg, hs⟩ := Option.bind_eq_some_iff.1 hs
    split at hs
    · rename_i hc
      obtain ⟨hok, hsz, hall, hlen, hown⟩ := hc
      have hlen := (leLen_iff _ _).1 hlen
      rw [spliceF_eq _ _ _ _ hlen] at hs
      cases hs
      obtain ⟨x, cur, hx, h1, h2, h3, h4, h5, h6, h7⟩ := h.row j r hg
      rw [h5.2 hown] at h3
      cases hp with
      | ptr hy =>
        rw [hx] at hy
        cases hy
        have hcv := hv.cells
        have hl := hcv.1
        have hl' : v'.cells.size = v.cells.toList.length := by rw [hl]; simp
        obtain ⟨w', cur', g1, g2, g3, g4, g5, g6, g7, g8⟩ := stores_blk v'.cells.toList w cur o 0 h3 (vrs_one hcv hall) (by omega)
        refine ⟨w', ?_, putRow (cs2 := splice r.cs o v.cells.toList) h hg hx h3 g2 ?_ ?_ (splice_length hlen) g4 g5 g6 g7 g8 rfl rfl rfl rfl rfl⟩
        · have hsz' : v'.cells.size = tsz P t := by rw [← hsz, hl]; simp
          simp only [storeV,hok,hsz',and_self,if_true]
          exact g1
        · have := congrArg List.length g3
          rw [splice_length (by simp; omega)] at this
          simpa using this
        · rw [splice_length hlen, g3]
          have e1 : (splice cur.toList (o + 0) v'.cells.toList).take r.cs.length = splice (cur.toList.take r.cs.length) o v'.cells.toList := by
            unfold splice
            simp only [Nat.add_zero]
            have ha : (cur.toList.take o ++ v'.cells.toList).length ≤ r.cs.length := by simp; omega
            rw [List.take_append, List.take_of_length_le ha]
            congr 1
            · congr 1
              rw [List.take_take, Nat.min_eq_left (by omega)]
            · rw [List.drop_take]
              congr 1
              simp
              omega
          rw [e1]
          exact h6.splice hcv o
    · cases hs
  · cases hs
end
end
end Go.Proofs.YtdkdibeimeaakabGreatDoor

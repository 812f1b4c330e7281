/- Closed runs, sixth part: regions, the code. -/
import Derived.Test.YtdkdibeimeaakabGreatDoorQsMwRunMToMwRunE
import Derived.Test.YtdkdibeimeaakabGreatDoorQsMwLoop

namespace Go.Proofs.YtdkdibeimeaakabGreatDoor
open Go.RowKit
noncomputable section
set_option linter.unusedVariables false
set_option linter.unusedSimpArgs false
def beqLs {α : Type} (f : α → α → Bool) : List α → List α → Bool
  | [], [] => true
  | a :: l, b :: m => f a b && beqLs f l m
  | _, _ => false
theorem beqLs_eq {α : Type} {f : α → α → Bool} (h : ∀ a b, f a b = true → a = b) : ∀ {l m : List α}, beqLs f l m = true → l = m
  | [], [], _ => rfl
  | a :: l, b :: m, hl => by
    simp only [beqLs,Bool.and_eq_true] at hl
    rw [h _ _ hl.1, beqLs_eq h hl.2]
  | [], _ :: _, hl => by simp [beqLs] at hl
  | _ :: _, [], hl => by simp [beqLs] at hl
def beqA : Option Addr → Option Addr → Bool
  | none, none => true
  | some ⟨a, b, none⟩, some ⟨c, d, none⟩ => a == c && b == d
  | _, _ => false
theorem beqA_eq {a b : Option Addr} (h : beqA a b = true) : a = b := by
  unfold beqA at h
  split at h
  · rfl
  · simp only [Bool.and_eq_true,beq_iff_eq] at h; rw [h.1, h.2]
  · cases h
def beqI : Int → Int → Bool
  | .ofNat a, .ofNat b => a == b
  | .negSucc a, .negSucc b => a == b
  | _, _ => false
theorem beqI_eq {a b : Int} (h : beqI a b = true) : a = b := by
  unfold beqI at h
  split at h
  · rw [beq_iff_eq.1 h]
  · rw [beq_iff_eq.1 h]
  · cases h
def beqV : Nat → Value → Value → Bool
  | 0, _, _ => false
  | n + 1, u, v => match u, v with
    | .bool a, .bool b => a == b
    | .int k a, .int k' b => decide (k = k') && beqI a b
    | .string a, .string b => a.data.toList == b.data.toList
    | .pointer a, .pointer b => beqA a b
    | .slice a n c, .slice b m d => beqA a b && n == m && c == d
    | .map none, .map none => true
    | .map (some a), .map (some b) => a == b
    | .chan (some a), .chan (some b) => a == b
    | .nilFunc, .nilFunc => true
    | .nilIface, .nilIface => true
    | .func (.func f) a b, .func (.func g) c d => f == g && beqLs (beqV n) a.toList c.toList && beqLs (beqV n) b.toList d.toList
    | .iface t a, .iface u b => t == u && beqV n a b
    | .agg a, .agg b => beqLs (beqV n) a.toList b.toList
    | .tuple a, .tuple b => beqLs (beqV n) a.toList b.toList
    | _, _ => false
theorem beqV_eq : ∀ (n : Nat) {u v : Value}, beqV n u v = true → u = v
  | 0, _, _, h => by simp [beqV] at h
  | n + 1, u, v, h => by
    have ih : ∀ a b, beqV n a b = true → a = b := fun a b h => beqV_eq n h
    unfold beqV at h
    split at h
    · rw [beq_iff_eq.1 h]
    · simp only [Bool.and_eq_true,decide_eq_true_eq] at h; rw [h.1, beqI_eq h.2]
    · have := beq_iff_eq.1 h
      congr 1
      apply ByteArray.ext
      exact Array.toList_inj.1 this
    · rw [beqA_eq h]
    · simp only [Bool.and_eq_true,beq_iff_eq] at h; rw [beqA_eq h.1.1, h.1.2, h.2]
    · rfl
    · rw [beq_iff_eq.1 h]
    · rw [beq_iff_eq.1 h]
    · rfl
    · rfl
    · simp only [Bool.and_eq_true,beq_iff_eq] at h; rw [h.1.1, Array.toList_inj.1 (beqLs_eq ih h.1.2), Array.toList_inj.1 (beqLs_eq ih h.2)]
    · simp only [Bool.and_eq_true,beq_iff_eq] at h; rw [h.1, ih _ _ h.2]
    · rw [Array.toList_inj.1 (beqLs_eq ih h)]
    · rw [Array.toList_inj.1 (beqLs_eq ih h)]
    · cases h
def beqTr {α : Type} (f : α → α → Bool) : Tr α → Tr α → Bool
  | .e, .e => true
  | .n l v r, .n l' v' r' => beqTr f l l' && (match v, v' with | none, none => true | some a, some b => f a b | _, _ => false) && beqTr f r r'
  | _, _ => false
theorem beqTr_eq {α : Type} {f : α → α → Bool} (h : ∀ a b, f a b = true → a = b) : ∀ {s t : Tr α}, beqTr f s t = true → s = t
  | .e, .e, _ => rfl
  | .n l v r, .n l' v' r', ht => by
    simp only [beqTr,Bool.and_eq_true] at ht
    rw [beqTr_eq h ht.1.1, beqTr_eq h ht.2]
    have h2 := ht.1.2
    cases v <;> cases v' <;> simp only at h2 <;> first | rfl | (cases h2; done) | (rw [h _ _ h2])
  | .e, .n _ _ _, ht => by simp [beqTr] at ht
  | .n _ _ _, .e, ht => by simp [beqTr] at ht
def beqAR (a b : AR) : Bool := beqLs (beqV 20) a.cs b.cs && a.e == b.e && a.es == b.es && a.full == b.full && a.own == b.own && a.st == b.st
theorem beqAR_eq {a b : AR} (h : beqAR a b = true) : a = b := by
  simp only [beqAR,Bool.and_eq_true,beq_iff_eq] at h
  cases a; cases b
  simp only at h
  rw [beqLs_eq (fun _ _ => beqV_eq 20) h.1.1.1.1.1, h.1.1.1.1.2, h.1.1.1.2, h.1.1.2, h.1.2, h.2]
def beqMM : ObjA → ObjA → Bool
  | .map a c, .map b d => beqLs (fun x y => beqV 20 x.1 y.1 && beqV 20 x.2.1 y.2.1 && x.2.2 == y.2.2) a b && c == d
  | .loop st p, .loop st' p' => st == st' && p == p'
  | .defs, .defs => true
  | .iter m s l k, .iter m' s' l' k' => m == m' && s == s' && beqLs (· == ·) l l' && k == k'
  | _, _ => false
theorem beqMM_eq {a b : ObjA} (h : beqMM a b = true) : a = b := by
  unfold beqMM at h
  split at h
  · simp only [Bool.and_eq_true,beq_iff_eq] at h
    rw [beqLs_eq (fun x y hxy => by
      simp only [Bool.and_eq_true,beq_iff_eq] at hxy
      exact Prod.ext (beqV_eq 20 hxy.1.1) (Prod.ext (beqV_eq 20 hxy.1.2) hxy.2)) h.1, h.2]
  · simp only [Bool.and_eq_true,beq_iff_eq] at h
    rw [h.1, h.2]
  · rfl
  · simp only [Bool.and_eq_true,beq_iff_eq] at h
    rw [h.1.1.1, h.1.1.2, beqLs_eq (fun x y hxy => by simpa using hxy) h.1.2, h.2]
  · cases h
def beqSt (a b : St) : Bool := beqTr beqMM a.A.maps b.A.maps && beqTr (beqV 20) a.E b.E && beqLs (fun x y => x.1 == y.1 && beqLs (beqV 20) x.2 y.2) a.ds b.ds && beqTr beqAR a.A.rows b.A.rows && a.A.n == b.A.n && beqLs (· == ·) a.A.rsv b.A.rsv
theorem beqSt_eq {a b : St} (h : beqSt a b = true) (hls : a.A.ls = b.A.ls) : a = b := by
  simp only [beqSt,Bool.and_eq_true,beq_iff_eq] at h
  obtain ⟨E, ds, rows, n, rsv, maps, ls⟩ := a
  obtain ⟨E', ds', rows', n', rsv', maps', ls'⟩ := b
  simp only at h hls
  subst hls
  obtain ⟨⟨⟨⟨⟨h0, h1⟩, h2⟩, h3⟩, h4⟩, h6⟩ := h
  have e0 := beqTr_eq (fun _ _ => beqMM_eq) h0
  have e1 := beqTr_eq (fun _ _ => beqV_eq 20) h1
  have e2 := beqLs_eq (fun x y hxy => by
    simp only [Bool.and_eq_true,beq_iff_eq] at hxy
    exact Prod.ext hxy.1 (beqLs_eq (fun _ _ => beqV_eq 20) hxy.2)) h2
  have e3 := beqTr_eq (fun _ _ => beqAR_eq) h3
  have e6 := beqLs_eq (fun x y hxy => by simpa using hxy) h6
  rw [e0, e1, e2, e3, e6, h4]
abbrev LdK := TypeId × Nat × Nat
def rowOf (t : TypeId) : Value → Option LdK
  | .pointer (some ⟨j, o, none⟩) => some (t, j, o)
  | _ => none
def hasLd (L : List LdK) (k : LdK) : Bool := L.any fun x => Nat.beq x.1 k.1 && Nat.beq x.2.1 k.2.1 && Nat.beq x.2.2 k.2.2
theorem hasLd_mem {L : List LdK} {k : LdK} (h : hasLd L k = true) : k ∈ L := by
  obtain ⟨x, hx, he⟩ := List.any_eq_true.1 h
  simp only [Bool.and_eq_true] at he
  have : x = k := Prod.ext (Nat.eq_of_beq_eq_true he.1.1) (Prod.ext (Nat.eq_of_beq_eq_true he.1.2) (Nat.eq_of_beq_eq_true he.2))
  rw [← this]; exact hx
def softA (P : Program) (A0 : AW) (L : List LdK) (E : Tr Value) : Op → Option Value
  | .load t x => (opd E x).bind fun p => match rowOf t p with | some k => if hasLd L k = true then loadA P A0 t p else none | none => none
  | op => pureA P E op
def preL (P : Program) (A0 : AW) : MP → Tr Value → List LdK
  | .take o r, E => match wantedA E o.g with
    | some true => (match o.op with
      | .load t x => (match opd E x with
        | some p => (match rowOf t p, loadA P A0 t p with | some k, some v => k :: preL P A0 r (setO E o.d v) | _, _ => [])
        | none => [])
      | op => (match pureA P E op with | some v => preL P A0 r (setO E o.d v) | none => []))
    | some false => preL P A0 r (setO E o.d undef)
    | none => []
  | _, _ => []
def exA : Value → Bool
  | .bool _ | .int _ _ | .string _ | .pointer none | .nilIface | .nilFunc | .map none => true
  | .pointer (some ⟨_, _, none⟩) => true
  | .slice none 0 0 => true
  | .slice (some ⟨_, _, none⟩) _ c => Nat.ble (c + 1) capU
  | _ => false
def exV : Value → Bool
  | .agg cs => cs.toList.all exA
  | v => exA v
theorem slc_inv {σ : Nat → Option Ent} {η : Nat → Value} {j o n c : Nat} {v : Value} (h : VR σ η (.slice (some ⟨j, o, none⟩) n c) v) (hc : c < capU) : ∃ x, σ j = some x ∧ v = .slice (some ⟨x.b, o, none⟩) n c := by
  cases h with
  | @slc _ _ _ _ c' o' x h ho hm hn h1 h2 =>
    refine ⟨x, h, ?_⟩
    rw [h1 hc]
    rcases ho with rfl | ⟨_, hh, _⟩
    · rfl
    · omega
theorem exA_eq {σ : Nat → Option Ent} {η : Nat → Value} {v a b : Value} (h : exA v = true) (ha : VR σ η v a) (hb : VR σ η v b) : a = b := by
  unfold exA at h
  split at h <;> first | (exact absurd h (by decide)) | (cases ha; cases hb; rfl) | skip
  · cases ha with
    | ptr h1 => cases hb with
      | ptr h2 => rw [h1] at h2; cases h2; rfl
  · have hc := Nat.le_of_ble_eq_true h
    obtain ⟨x, h1, rfl⟩ := slc_inv ha (by omega)
    obtain ⟨y, h2, rfl⟩ := slc_inv hb (by omega)
    rw [h1] at h2; cases h2; rfl
theorem exV_eq {σ : Nat → Option Ent} {η : Nat → Value} {v a b : Value} (h : exV v = true) (ha : VR σ η v a) (hb : VR σ η v b) : a = b := by
  by_cases hv : ∃ cs, v = .agg cs
  · obtain ⟨cs, rfl⟩ := hv
    cases ha with
    | agg h1 h2 =>
      cases hb with
      | agg h3 h4 =>
        rename_i a b
        congr 1
        apply Array.ext (by omega)
        intro i hi hi2
        have hic : i < cs.size := by omega
        have hx : exA cs[i] = true := List.all_eq_true.1 h _ (by rw [Array.mem_toList_iff]; exact Array.getElem_mem hic)
        exact exA_eq hx (h2 i _ _ (Array.getElem?_eq_getElem hic) (Array.getElem?_eq_getElem hi)) (h4 i _ _ (Array.getElem?_eq_getElem hic) (Array.getElem?_eq_getElem hi2))
  · have : exA v = true := by
      cases v <;> first | exact h | exact absurd ⟨_, rfl⟩ hv
    exact exA_eq this ha hb
def sameLd (P : Program) (A0 A : AW) (L : List LdK) : Bool := L.all fun k => (match A0.rows.get k.2.1, A.rows.get k.2.1 with
  | some r, some r' => Nat.beq r.st r'.st
  | _, _ => false) || (match loadA P A0 k.1 (.pointer (some ⟨k.2.1, k.2.2, none⟩)), loadA P A k.1 (.pointer (some ⟨k.2.1, k.2.2, none⟩)) with
  | some u, some v => beqV 20 u v && exV u
  | _, _ => false)
def allocs : Op → Bool
  | .alloc _ | .box .. | .buildSlice .. | .makeSlice .. => true
  | .call { callee := .builtin .append, .. } => true
  | _ => false
def allocDs : MP → List Nat
  | .take o r => allocDs r
  | .alt o r _ => if allocs o.op then (match o.d with | some d => d :: allocDs r | none => allocDs r) else allocDs r
  | .altL o r _ => if allocs o.op then (match o.d with | some d => d :: allocDs r | none => allocDs r) else allocDs r
  | _ => []
def idxOf (d : Nat) : List Nat → Nat → Option Nat
  | [], _ => none
  | a :: l, k => Bool.rec (idxOf d l (Nat.succ k)) (some k) (Nat.beq a d)
def ridA (bl : Nat × List Nat) (o : MO) (A : AW) : Option Nat := match o.d with
  | some d => (match idxOf d bl.2 bl.1 with | some i => if A.rsv.contains i = true then some i else none | none => none)
  | none => none
def twoA (m : MP) (r1 : Option St) (r2 : Unit → Option St) : Option St := match m with
  | .none => r1
  | _ => match r1, r2 () with
    | some s1, some s2 => if beqSt s1 s2 = true then some s1 else none
    | _, _ => none
def planA (P : Program) (call : CallT) (A0 : AW) (L : List LdK) (base : Nat × List Nat) : Bool → MP → St → Option St
  | _, .done, s => some s
  | _, .none, _ => none
  | lt, .take o r, s => match wantedA s.E o.g with
    | some true => (match softA P A0 L s.E o.op with | some v => forceV v fun v => planA P call A0 L base lt r ⟨setO s.E o.d v, s.ds, s.A⟩ | none => none)
    | some false => planA P call A0 L base lt r ⟨setO s.E o.d undef, s.ds, s.A⟩
    | none => none
  | lt, .alt o r m, s => if lt then none else twoA m (match wantedA s.E o.g with
    | some true => (match opA P call (ridA base o s.A) o s with
      | .val v ds A' => if sameLd P A0 A' L = true then forceV v fun v => planA P call A0 L base false r ⟨setO s.E o.d v, ds, { A' with ls := s.A.ls }⟩ else none
      | _ => none)
    | some false => planA P call A0 L base false r ⟨setO s.E o.d undef, s.ds, s.A⟩
    | none => none) (fun _ => planA P call A0 L base lt m s)
  | lt, .altL o r m, s => twoA m (match wantedA s.E o.g with
    | some true => (match opA P call (ridA base o s.A) o s with
      | .val v ds A' => forceV v fun v => planA P call A0 L base true r ⟨setO s.E o.d v, ds, { A' with ls := s.A.ls }⟩
      | _ => none)
    | some false => planA P call A0 L base true r ⟨setO s.E o.d undef, s.ds, s.A⟩
    | none => none) (fun _ => planA P call A0 L base lt m s)
theorem planA_ls {P : Program} {call : CallT} {A0 : AW} {L : List LdK} {base : Nat × List Nat} : ∀ (p : MP) (lt : Bool) {s s' : St}, planA P call A0 L base lt p s = some s' → s'.A.ls = s.A.ls
  | .done, lt, s, s', h => by simp only [planA] at h; cases h; rfl
  | .none, lt, s, s', h => by simp only [planA] at h; cases h
  | .take o r, lt, s, s', h => by
    simp only [planA] at h
    split at h
    · split at h
      · rw [forceV_eq] at h
        have hl := planA_ls r lt h; exact hl
      · cases h
    · have hl := planA_ls r lt h; exact hl
    · cases h
  | .alt o r m, lt, s, s', h => by
    simp only [planA] at h
    have first : ∀ s1, (match wantedA s.E o.g with
        | some true => (match opA P call (ridA base o s.A) o s with
          | .val v ds A' => if sameLd P A0 A' L = true then forceV v fun v => planA P call A0 L base false r ⟨setO s.E o.d v, ds, { A' with ls := s.A.ls }⟩ else none
          | _ => none)
        | some false => planA P call A0 L base false r ⟨setO s.E o.d undef, s.ds, s.A⟩
        | none => none) = some s1 → s1.A.ls = s.A.ls := fun s1 h1 => by
      split at h1
      · split at h1
        · split at h1
          · rw [forceV_eq] at h1
            have hl := planA_ls r false h1; exact hl
          · cases h1
        · cases h1
      · have hl := planA_ls r false h1; exact hl
      · cases h1
    split at h
    · cases h
    · unfold twoA at h
      split at h
      · exact first _ h
      · split at h
        · rename_i s1 s2 h1 h2
          split at h
          · cases h; exact first _ h1
          · cases h
        · cases h
  | .altL o r m, lt, s, s', h => by
    simp only [planA] at h
    have first : ∀ s1, (match wantedA s.E o.g with
        | some true => (match opA P call (ridA base o s.A) o s with
          | .val v ds A' => forceV v fun v => planA P call A0 L base true r ⟨setO s.E o.d v, ds, { A' with ls := s.A.ls }⟩
          | _ => none)
        | some false => planA P call A0 L base true r ⟨setO s.E o.d undef, s.ds, s.A⟩
        | none => none) = some s1 → s1.A.ls = s.A.ls := fun s1 h1 => by
      split at h1
      · split at h1
        · rw [forceV_eq] at h1
          have hl := planA_ls r true h1; exact hl
        · cases h1
      · have hl := planA_ls r true h1; exact hl
      · cases h1
    unfold twoA at h
    split at h
    · exact first _ h
    · split at h
      · rename_i s1 s2 h1 h2
        split at h
        · cases h; exact first _ h1
        · cases h
      · cases h
theorem alt_ls {P : Program} {call : CallT} {A0 : AW} {L : List LdK} {base : Nat × List Nat} {o : MO} {r : MP} {s s1 : St} (h1 : (match wantedA s.E o.g with
        | some true => (match opA P call (ridA base o s.A) o s with
          | .val v ds A' => if sameLd P A0 A' L = true then forceV v fun v => planA P call A0 L base false r ⟨setO s.E o.d v, ds, { A' with ls := s.A.ls }⟩ else none
          | _ => none)
        | some false => planA P call A0 L base false r ⟨setO s.E o.d undef, s.ds, s.A⟩
        | none => none) = some s1) : s1.A.ls = s.A.ls := by
  split at h1
  · split at h1
    · split at h1
      · rw [forceV_eq] at h1
        have hl := planA_ls r false h1; exact hl
      · cases h1
    · cases h1
  · have hl := planA_ls r false h1; exact hl
  · cases h1
theorem altL_ls {P : Program} {call : CallT} {A0 : AW} {L : List LdK} {base : Nat × List Nat} {o : MO} {r : MP} {s s1 : St} (h1 : (match wantedA s.E o.g with
        | some true => (match opA P call (ridA base o s.A) o s with
          | .val v ds A' => forceV v fun v => planA P call A0 L base true r ⟨setO s.E o.d v, ds, { A' with ls := s.A.ls }⟩
          | _ => none)
        | some false => planA P call A0 L base true r ⟨setO s.E o.d undef, s.ds, s.A⟩
        | none => none) = some s1) : s1.A.ls = s.A.ls := by
  split at h1
  · split at h1
    · rw [forceV_eq] at h1
      have hl := planA_ls r true h1; exact hl
    · cases h1
  · have hl := planA_ls r true h1; exact hl
  · cases h1
def idsOf : Nat → List Nat → List Nat
  | _, [] => []
  | b, _ :: l => b :: idsOf (b + 1) l
def rsvK {α : Sort _} : Nat → List Nat → (Nat → List Nat → α) → α
  | b, [], K => K b []
  | b, _ :: l, K => forceN (b + 1) fun b2 => rsvK b2 l fun n r => K n (b :: r)
theorem rsvK_eq {α : Sort _} : ∀ (l : List Nat) (b : Nat) (K : Nat → List Nat → α), rsvK b l K = K (b + l.length) (idsOf b l)
  | [], b, K => rfl
  | _ :: l, b, K => by
    simp only [rsvK,forceN_eq,rsvK_eq l,idsOf,List.length_cons]
    rw [show b + 1 + l.length = b + (l.length + 1) by omega]
theorem idsOf_mem : ∀ (l : List Nat) (b : Nat) {j : Nat}, j ∈ idsOf b l → b ≤ j ∧ j < b + l.length
  | [], b, j, h => by simp [idsOf] at h
  | _ :: l, b, j, h => by
    simp only [idsOf,List.mem_cons] at h
    simp only [List.length_cons]
    rcases h with rfl | h
    · omega
    · have := idsOf_mem l (b + 1) h
      omega
def beginD (A : AW) (n : Nat) (r : List Nat) : AW := ⟨A.rows, n, r ++ A.rsv, A.maps, A.ls⟩
def drawB (P : Program) (call : CallT) (p : MP) (s : St) (base : Nat) (dl : List Nat) (A1 : AW) : Res :=
  match planA P call A1 (preL P A1 p s.E) (base, dl) false p ⟨s.E, s.ds, A1⟩ with
  | some s' => .norm ⟨s'.E, s'.ds, { s'.A with rsv := s'.A.rsv.filter (fun i => decide (i < base)) }⟩
  | none => .fail
def drawA (P : Program) (call : CallT) (p : MP) (s : St) : Res :=
  forceN s.A.n fun base => rsvK base (allocDs p) fun n r => drawB P call p s base (allocDs p) (beginD s.A n r)
section
variable {P : Program} {w0 : World} {σ : Nat → Option Ent} {η : Nat → Value} {A : AW} {w : World} {call : CallT}
  {N R : Env → List Deferred → World → Prop} {EX : Nat → Env → List Deferred → World → Prop} {X : Env → List PanicEntry → List Deferred → World → Prop}
def Post (w0 : World) (η : Nat → Value) (σ : Nat → Option Ent) (A : AW) (w : World) (r : Res) (N : Env → List Deferred → World → Prop) (EX : Nat → Env → List Deferred → World → Prop) (R : Env → List Deferred → World → Prop) (X : Env → List PanicEntry → List Deferred → World → Prop) : Prop :=
  match r with
  | .norm s => ∀ σ' e ds w', ER σ' η s.E e → DR σ' η s.ds ds → Inv w0 σ' η s.A w' → Step σ σ' A s.A w w' → N e ds w'
  | .exit i s => ∀ σ' e ds w', ER σ' η s.E e → DR σ' η s.ds ds → Inv w0 σ' η s.A w' → Step σ σ' A s.A w w' → EX i e ds w'
  | .ret s => ∀ σ' e ds w', ER σ' η s.E e → DR σ' η s.ds ds → Inv w0 σ' η s.A w' → Step σ σ' A s.A w w' → R e ds w'
  | .pan v s => ∀ σ' e ds w' v', ER σ' η s.E e → DR σ' η s.ds ds → VR σ' η v v' → Inv w0 σ' η s.A w' → Step σ σ' A s.A w w' → X e [{ v := v', recovered := false }] ds w'
  | .fail => False
  | .alt a b => Post w0 η σ A w a N EX R X ∧ Post w0 η σ A w b N EX R X
theorem Post.step {σ1 : Nat → Option Ent} {A1 : AW} {w1 : World} : ∀ {r : Res}, Post w0 η σ A w r N EX R X → Step σ σ1 A A1 w w1 → Post w0 η σ1 A1 w1 r N EX R X
  | .norm s, h, hs => fun σ' e ds w' a b c d => h σ' e ds w' a b c (hs.trans d)
  | .exit i s, h, hs => fun σ' e ds w' a b c d => h σ' e ds w' a b c (hs.trans d)
  | .ret s, h, hs => fun σ' e ds w' a b c d => h σ' e ds w' a b c (hs.trans d)
  | .pan v s, h, hs => fun σ' e ds w' v' a b x c d => h σ' e ds w' v' a b x c (hs.trans d)
  | .fail, h, _ => h
  | .alt a b, h, hs => ⟨Post.step h.1 hs, Post.step h.2 hs⟩
theorem bindO_post {s : St} {e : Env} {dsC : List Deferred} (hE : ER σ η s.E e) (hd : DR σ η s.ds dsC) {k : Value → DL → AW → Res} {K : Value → List Deferred → World → Prop}
    (hk : ∀ v ds A', Post w0 η σ A w (k v ds A') N EX R X → ∀ σ' v' ds' w', VR σ' η v v' → DR σ' η ds ds' → Inv w0 σ' η A' w' → Step σ σ' A A' w w' → K v' ds' w') : ∀ (r : ORes), Post w0 η σ A w (bindO s k r) N EX R X → OPost w0 η σ A w r K (fun ch ds w' => X e ch ds w') dsC
  | .val v ds A', h => hk v ds A' h
  | .pan v A', h => fun σ' v' w' h1 h2 h3 => h σ' e dsC w' v' (hE.mono h3.sub) (hd.mono h3.sub) h1 h2 h3
  | .fail, h => h
  | .alt a b, h => ⟨bindO_post hE hd hk a h.1, bindO_post hE hd hk b h.2⟩
theorem regA_sound (hc : CallOK P w0 η call) : ∀ (l : List MO) {s : St} {σ : Nat → Option Ent} {e : Env} {dsC : List Deferred} {w : World}, ER σ η s.E e → DR σ η s.ds dsC → Inv w0 σ η s.A w →
    Post w0 η σ s.A w (regA P call l s) N EX R X → regW P l e dsC w N X
  | [], s, σ, e, dsC, w, hE, hd, h, hp => hp σ e dsC w hE hd h (Step.refl _ _ _)
  | o :: l, s, σ, e, dsC, w, hE, hd, h, hp => by
    simp only [regA] at hp
    simp only [regW]
    split at hp
    · rename_i hw
      rw [if_pos (wantedA_sound hE hw)]
      refine opA_sound hc (rid := none) hE hd h (bindO_post hE hd (fun v ds A' hp σ' v' ds' w' h1 h2 h3 h4 => ?_) _ hp)
      rw [forceV_eq] at hp
      exact regA_sound hc l ((hE.mono h4.sub).updO o.d h1) h2 h3 (hp.step h4)
    · rename_i hw
      have := wantedA_sound hE hw
      rw [if_neg (by rw [this]; simp)]
      exact regA_sound hc l (s := ⟨setO s.E o.d undef, s.ds, s.A⟩) (hE.updO o.d VR.undef) hd h hp
    · exact hp.elim
theorem loadV_heap {w w' : World} {t : TypeId} {b o : Nat} (h : w.heap[b]? = w'.heap[b]?) : loadV P w t (.pointer (some ⟨b, o, none⟩)) = loadV P w' t (.pointer (some ⟨b, o, none⟩)) := by
  have hc : ∀ k, w.cell? ⟨b, k, none⟩ = w'.cell? ⟨b, k, none⟩ := fun k => by unfold World.cell?; simp only [h]
  have hl : ∀ n i, loadsV w ⟨b, o, none⟩ n i = loadsV w' ⟨b, o, none⟩ n i := by
    intro n
    induction n with
    | zero => intro i; rfl
    | succ n ih => intro i; simp only [loadsV,add_ptr,hc,ih]
  simp only [loadV,hl,hc]
def SameRows (P : Program) (σ0 : Nat → Option Ent) (L : List LdK) (wd : World) (w : World) : Prop := ∀ k x, k ∈ L → σ0 k.2.1 = some x → loadV P w k.1 (.pointer (some ⟨x.b, k.2.2, none⟩)) = loadV P wd k.1 (.pointer (some ⟨x.b, k.2.2, none⟩))
theorem softA_sound {σ0 : Nat → Option Ent} {A0 : AW} {L : List LdK} {wd : World} {E : Tr Value} {e : Env} {o : MO} {v : Value} (h0 : Inv w0 σ0 η A0 wd) (hs : Sub σ0 σ) (hE : ER σ η E e) (hw : wantedW e o.g = true) (h : softA P A0 L E o.op = some v) {k : Value → Prop}
    (hk : ∀ v', VR σ η v v' → k v') : softW P (SameRows P σ0 L wd) o e k := by
  unfold softW
  rw [if_pos hw]
  unfold softA at h
  split at h
  · rename_i t x hop
    rw [hop]
    simp only
    obtain ⟨p, ho, hl⟩ := Option.bind_eq_some_iff.1 h
    have hp := opd_sound hE ho
    split at hl
    · rename_i k hk0
      split at hl
      · rename_i hL
        unfold rowOf at hk0
        split at hk0
        · rename_i j o
          cases hk0
          generalize ev e x = z at hp ⊢
          cases hp with
          | ptr hx =>
            rename_i y
            have hy : σ0 j = some y := by
              unfold loadA at hl
              simp only at hl
              split at hl
              · obtain ⟨r, hg, _⟩ := Option.bind_eq_some_iff.1 hl
                obtain ⟨y', _, hy', _⟩ := h0.row j r hg
                rw [hs _ _ hy'] at hx
                cases hx
                exact hy'
              · cases hl
            obtain ⟨v', g1, g2⟩ := loadA_sound h0 (.ptr hy) hl
            exact ⟨v', fun w hS => by rw [hS (t, j, o) y (hasLd_mem hL) hy]; exact g1, hk v' (g2.mono hs)⟩
        · cases hk0
      · cases hl
    · cases hl
  · rename_i hno
    obtain ⟨v', h1, h2⟩ := pureA_sound hE h
    split
    · rename_i t x hop; exact absurd hop (hno t x)
    · show oK (pureV P (ev e) o.op) k
      rw [h1]
      exact hk v' h2
theorem sameLd_rows {σ0 : Nat → Option Ent} {A0 : AW} {L : List LdK} {wd : World} (h0 : Inv w0 σ0 η A0 wd) (hi : Inv w0 σ η A w) (hst : Step σ0 σ A0 A wd w) (h : sameLd P A0 A L = true) : SameRows P σ0 L wd w := fun k x hj hx => by
  have := List.all_eq_true.1 h k hj
  rw [Bool.or_eq_true] at this
  rcases this with this | this
  · split at this
    · rename_i r0 r' e1 e2
      obtain ⟨r2, h1, _, h3⟩ := hst.keep _ r' x e2 hx
      rw [e1] at h1
      cases h1
      exact loadV_heap (h3 (Nat.eq_of_beq_eq_true this))
    · cases this
  · split at this
    · rename_i u v e1 e2
      simp only [Bool.and_eq_true] at this
      obtain rfl := beqV_eq 20 this.1
      obtain ⟨a, g1, g2⟩ := loadA_sound h0 (.ptr hx) e1
      obtain ⟨b, g3, g4⟩ := loadA_sound hi (.ptr (hst.sub _ _ hx)) e2
      rw [g1, g3, exV_eq this.2 (g2.mono hst.sub) g4]
    · cases this
theorem planA_sound (hc : CallOK P w0 η call) {σ0 : Nat → Option Ent} {A0 : AW} {L : List LdK} {wd : World} {base : Nat × List Nat} (h0 : Inv w0 σ0 η A0 wd) {X0 : List PanicEntry → List Deferred → World → Prop} :
    ∀ (p : MP) (lt : Bool) {s s' : St} {σ : Nat → Option Ent} {e : Env} {dsC : List Deferred} {w : World}, ER σ η s.E e → DR σ η s.ds dsC → Inv w0 σ η s.A w → Step σ0 σ A0 s.A wd w →
      planA P call A0 L base lt p s = some s' →
      (∀ σ' e' ds' w', ER σ' η s'.E e' → DR σ' η s'.ds ds' → Inv w0 σ' η s'.A w' → Step σ σ' s.A s'.A w w' → N e' ds' w') → planW P (SameRows P σ0 L wd) p e dsC w N X0
  | .done, lt, s, s', σ, e, dsC, w, hE, hd, h, hs, hp, hN => by
    cases hp
    exact hN σ e dsC w hE hd h (Step.refl _ _ _)
  | .none, lt, s, s', σ, e, dsC, w, hE, hd, h, hs, hp, hN => trivial
  | .take o r, lt, s, s', σ, e, dsC, w, hE, hd, h, hs, hp, hN => by
    simp only [planA] at hp
    simp only [planW]
    split at hp
    · rename_i hw
      split at hp
      · rename_i v hv
        rw [forceV_eq] at hp
        exact softA_sound h0 hs.sub hE (wantedA_sound hE hw) hv fun v' hv' => planA_sound hc h0 r lt (s := ⟨setO s.E o.d v, s.ds, s.A⟩) (hE.updO o.d hv') hd h hs hp hN
      · cases hp
    · rename_i hw
      have hww := wantedA_sound hE hw
      unfold softW
      rw [if_neg (by rw [hww]; simp)]
      exact planA_sound hc h0 r lt (s := ⟨setO s.E o.d undef, s.ds, s.A⟩) (hE.updO o.d VR.undef) hd h hs hp hN
    · cases hp
  | .alt o r m, lt, s, s', σ, e, dsC, w, hE, hd, h, hs, hp, hN => by
    simp only [planA] at hp
    split at hp
    · cases hp
    · have first : ∀ (s1 : St), (match wantedA s.E o.g with
          | some true => (match opA P call (ridA base o s.A) o s with
            | .val v ds A' => if sameLd P A0 A' L = true then forceV v fun v => planA P call A0 L base false r ⟨setO s.E o.d v, ds, { A' with ls := s.A.ls }⟩ else none
            | _ => none)
          | some false => planA P call A0 L base false r ⟨setO s.E o.d undef, s.ds, s.A⟩
          | none => none) = some s1 → (∀ σ' e' ds' w', ER σ' η s1.E e' → DR σ' η s1.ds ds' → Inv w0 σ' η s1.A w' → Step σ σ' s.A s1.A w w' → N e' ds' w') →
          (if wantedW e o.g = true then opW P o e dsC w (fun v ds w => SameRows P σ0 L wd w ∧ planW P (SameRows P σ0 L wd) r (updO e o.d v) ds w N X0) X0 else planW P (SameRows P σ0 L wd) r (updO e o.d undef) dsC w N X0) := fun s1 h1 hN1 => by
        split at h1
        · rename_i hw
          rw [if_pos (wantedA_sound hE hw)]
          refine opA_sound hc (rid := ridA base o s.A) hE hd h ?_
          split at h1
          · rename_i v ds A' ho
            rw [ho]
            split at h1
            · rename_i hlo
              rw [forceV_eq] at h1
              intro σ' v' ds' w' k1 k2 k3 k4
              rw [show ({ A' with ls := s.A.ls } : AW) = A' by rw [← k4.ls]] at h1
              exact ⟨sameLd_rows h0 k3 (hs.trans k4) hlo, planA_sound hc h0 r false (s := ⟨setO s.E o.d v, ds, A'⟩) ((hE.mono k4.sub).updO o.d k1) k2 k3 (hs.trans k4) h1 (fun σ2 e2 ds2 w2 q1 q2 q3 q4 => hN1 σ2 e2 ds2 w2 q1 q2 q3 (k4.trans q4))⟩
            · cases h1
          · cases h1
        · rename_i hw
          have hww := wantedA_sound hE hw
          rw [if_neg (by rw [hww]; simp)]
          exact planA_sound hc h0 r false (s := ⟨setO s.E o.d undef, s.ds, s.A⟩) (hE.updO o.d VR.undef) hd h hs h1 hN1
        · cases h1
      simp only [planW]
      unfold twoA at hp
      split at hp
      · exact ⟨first s' hp hN, trivial⟩
      · split at hp
        · rename_i s1 s2 hr1 hr2
          split at hp
          · rename_i hbq
            cases hp
            have he := beqSt_eq hbq ((alt_ls hr1).trans (planA_ls m _ hr2).symm)
            subst he
            exact ⟨first _ hr1 hN, planA_sound hc h0 m lt hE hd h hs hr2 hN⟩
          · cases hp
        · cases hp
  | .altL o r m, lt, s, s', σ, e, dsC, w, hE, hd, h, hs, hp, hN => by
    simp only [planA] at hp
    have first : ∀ (s1 : St), (match wantedA s.E o.g with
        | some true => (match opA P call (ridA base o s.A) o s with
          | .val v ds A' => forceV v fun v => planA P call A0 L base true r ⟨setO s.E o.d v, ds, { A' with ls := s.A.ls }⟩
          | _ => none)
        | some false => planA P call A0 L base true r ⟨setO s.E o.d undef, s.ds, s.A⟩
        | none => none) = some s1 → (∀ σ' e' ds' w', ER σ' η s1.E e' → DR σ' η s1.ds ds' → Inv w0 σ' η s1.A w' → Step σ σ' s.A s1.A w w' → N e' ds' w') →
        (if wantedW e o.g = true then opW P o e dsC w (fun v ds w => planW P (SameRows P σ0 L wd) r (updO e o.d v) ds w N X0) X0 else planW P (SameRows P σ0 L wd) r (updO e o.d undef) dsC w N X0) := fun s1 h1 hN1 => by
      split at h1
      · rename_i hw
        rw [if_pos (wantedA_sound hE hw)]
        refine opA_sound hc (rid := ridA base o s.A) hE hd h ?_
        split at h1
        · rename_i v ds A' ho
          rw [ho]
          rw [forceV_eq] at h1
          intro σ' v' ds' w' k1 k2 k3 k4
          rw [show ({ A' with ls := s.A.ls } : AW) = A' by rw [← k4.ls]] at h1
          exact planA_sound hc h0 r true (s := ⟨setO s.E o.d v, ds, A'⟩) ((hE.mono k4.sub).updO o.d k1) k2 k3 (hs.trans k4) h1 (fun σ2 e2 ds2 w2 q1 q2 q3 q4 => hN1 σ2 e2 ds2 w2 q1 q2 q3 (k4.trans q4))
        · cases h1
      · rename_i hw
        have hww := wantedA_sound hE hw
        rw [if_neg (by rw [hww]; simp)]
        exact planA_sound hc h0 r true (s := ⟨setO s.E o.d undef, s.ds, s.A⟩) (hE.updO o.d VR.undef) hd h hs h1 hN1
      · cases h1
    simp only [planW]
    unfold twoA at hp
    split at hp
    · exact ⟨first s' hp hN, trivial⟩
    · split at hp
      · rename_i s1 s2 hr1 hr2
        split at hp
        · rename_i hbq
          cases hp
          have he := beqSt_eq hbq ((altL_ls hr1).trans (planA_ls m _ hr2).symm)
          subst he
          exact ⟨first _ hr1 hN, planA_sound hc h0 m lt hE hd h hs hr2 hN⟩
        · cases hp
      · cases hp
theorem drawA_sound (hc : CallOK P w0 η call) {p : MP} {s : St} {e : Env} {dsC : List Deferred} (hE : ER σ η s.E e) (hd : DR σ η s.ds dsC) (h : Inv w0 σ η s.A w) (hp : Post w0 η σ s.A w (drawA P call p s) N EX R X) : mwp P (.draw p) e dsC w N EX R X := by
  unfold drawA at hp
  rw [forceN_eq, rsvK_eq] at hp
  generalize hA1 : beginD s.A (s.A.n + (allocDs p).length) (idsOf s.A.n (allocDs p)) = A1 at hp
  unfold drawB at hp
  split at hp
  · rename_i s' hpl
    simp only [mwp]
    have h1 : Inv w0 σ η A1 w.drew := by
      rw [← hA1]
      exact ⟨h.ext.drew', fun j hj => h.fresh j (by simp only [beginD] at hj; omega), fun j hj => by
        simp only [beginD,List.mem_append] at hj
        rcases hj with hj | hj
        · have := idsOf_mem _ _ hj
          exact ⟨h.fresh j (by omega), by simp only [beginD]; omega⟩
        · have := h.rsv j hj
          exact ⟨this.1, by simp only [beginD]; omega⟩, h.row, h.sep, h.mp⟩
    have hb : Step σ σ s.A A1 w w.drew := by
      rw [← hA1]
      exact ⟨Sub.refl _, rfl, fun j r x hg _ => ⟨r, hg, Nat.le_refl _, fun _ => rfl⟩⟩
    refine ⟨SameRows P σ _ w.drew, fun _ _ _ _ => rfl, planA_sound hc h1 p false (s := ⟨s.E, s.ds, A1⟩) hE hd h1 (Step.refl _ _ _) hpl ?_⟩
    intro σ' e' ds' w' q1 q2 q3 q4
    refine hp σ' e' ds' w' q1 q2 ⟨q3.ext, q3.fresh, fun j hj => ?_, q3.row, q3.sep, q3.mp⟩ (hb.trans ⟨q4.sub, q4.ls, q4.keep⟩)
    simp only [List.mem_filter] at hj
    exact q3.rsv j hj.1
  · exact hp.elim
end
end
end Go.Proofs.YtdkdibeimeaakabGreatDoor
/- Closed runs, seventh part: functions that are entered as deferred calls and may recover. -/
namespace Go.Proofs.YtdkdibeimeaakabGreatDoor
open Go.RowKit
noncomputable section
set_option linter.unusedVariables false
set_option linter.unusedSimpArgs false
inductive AM where
  | ret
  | pan (v : Value)
  | was (v : Value)
def recA : AM → Value × AM
  | .ret => (.nilIface, .ret)
  | .pan v => (v, .was v)
  | .was v => (.nilIface, .was v)
inductive FR (σ : Nat → Option Ent) (η : Nat → Value) : AM → FrameMode → Prop
  | ret : FR σ η .ret .returning
  | pan {v v' : Value} (h : VR σ η v v') : FR σ η (.pan v) (.panicking [{ v := v', recovered := false }])
  | was {v v' : Value} (h : VR σ η v v') : FR σ η (.was v) (.panicking [{ v := v', recovered := true }])
theorem FR.mono {σ σ' : Nat → Option Ent} {η : Nat → Value} (hs : Sub σ σ') {u : AM} {m : FrameMode} (h : FR σ η u m) : FR σ' η u m := by
  cases h with
  | ret => exact .ret
  | pan h => exact .pan (h.mono hs)
  | was h => exact .was (h.mono hs)
inductive OpsT (P : Program) (ops : Array Oper) (Q : Exit → Act → List Frame → World → Prop) : List Nat → Act → List Frame → World → Prop
  | leave {l : List Nat} {a : Act} {cs : List Frame} {w : World} (h : wpOpsIn Fence.wide 1 P ops (fun e a' w' => Q e a' cs w') l a w) : OpsT P ops Q l a cs w
  | val {i : Nat} {l : List Nat} {o : Oper} {a : Act} {cs : List Frame} {w w' : World} {v : Value} (ho : ops[i]? = some o) (hw : Region.wanted o (yielded ops a.tmps) = true) (hr : (execOp a.eval o).run P w = .ok (.value v) w') (h : OpsT P ops Q l (a.put o.dst v) cs w') : OpsT P ops Q (i :: l) a cs w
  | recov {i : Nat} {l : List Nat} {o : Oper} {a : Act} {cs cs' : List Frame} {w w' : World} {v : Value} (ho : ops[i]? = some o) (hw : Region.wanted o (yielded ops a.tmps) = true) (hr : (execOp a.eval o).run P w = .ok .recover w')
      (hrec : recoverD cs = some (v, cs') ∨ (recoverD cs = none ∧ v = .nilIface ∧ cs' = cs)) (h : OpsT P ops Q l (a.put o.dst v) cs' w') : OpsT P ops Q (i :: l) a cs w
theorem opsT_sound {P : Program} {ops : Array Oper} {Q : Exit → Act → List Frame → World → Prop} {l : List Nat} {a : Act} {cs : List Frame} {w : World} (h : OpsT P ops Q l a cs w) : ∀ (b : Frame) (k : List Item), b.kind = .deferred → b.roundOf = none →
    ∃ e a' cs' w', cs'.length = cs.length ∧ Q e a' cs' w' ∧ ArrivesIn (Machine.fenced P Fence.wide) P (lone (b.atR a (.inRegion ops l :: k)) cs w) b k cs' e a' w' := by
  induction h with
  | leave h =>
    rename_i l a cs w
    intro b k hk hro
    obtain ⟨e, a', w', hq, harr⟩ := wp_opsIn (F := Fence.wide) (n := 1) l a w h b k cs hro trivial (room_wide _)
    exact ⟨e, a', cs, w', rfl, hq, harr⟩
  | @val i l o a cs w w' v ho hw hr h ih =>
    intro b k hk hro
    obtain ⟨e, a', cs', w2, hl, hq, harr⟩ := ih b k hk hro
    have h0 : (lone (b.atR a (.inRegion ops (i :: l) :: k)) cs w).fenced P Fence.wide := fenced_wide P _
    have hg := stepGR_op (P := P) (b := b) (k := k) (cs := cs) (w := w) (rest := l) ho hw
    rw [hro, Oper.semAt_none] at hg
    have hfin : ∀ v, (b.atR a (.inRegion ops (i :: l) :: k)).finish v = b.atR (a.put o.dst v) (.inRegion ops l :: k) := by
      intro v; rw [Frame.finish_atR, ho]; rfl
    refine ⟨e, a', cs', w2, hl, hq, .of_steps (.one h0 (step_lone_go ?_)) harr⟩
    rw [hg, ← hfin]; simp [stepG.apply, hr]
  | @recov i l o a cs cs' w w' v ho hw hr hrec h ih =>
    intro b k hk hro
    obtain ⟨e, a', cs2, w2, hl, hq, harr⟩ := ih b k hk hro
    have h0 : (lone (b.atR a (.inRegion ops (i :: l) :: k)) cs w).fenced P Fence.wide := fenced_wide P _
    have hg := stepGR_op (P := P) (b := b) (k := k) (cs := cs) (w := w) (rest := l) ho hw
    rw [hro, Oper.semAt_none] at hg
    have hfin : ∀ v, (b.atR a (.inRegion ops (i :: l) :: k)).finish v = b.atR (a.put o.dst v) (.inRegion ops l :: k) := by
      intro v; rw [Frame.finish_atR, ho]; rfl
    have htr := tryRecover_deferred (show (b.atR a (.inRegion ops (i :: l) :: k)).kind = .deferred from hk) cs
    rcases hrec with hrec | ⟨hrec, rfl, rfl⟩
    · have hlen := recoverD_length hrec
      refine ⟨e, a', cs2, w2, hl.trans hlen, hq, .of_steps (.one h0 (step_lone_go ?_)) harr⟩
      rw [hg, ← hfin]
      simp only [Frame.atR,hro] at htr ⊢
      simp [stepG.apply, hr, htr, hrec]
    · refine ⟨e, a', cs2, w2, hl, hq, .of_steps (.one h0 (step_lone_go ?_)) harr⟩
      rw [hg, ← hfin]
      simp only [Frame.atR,hro] at htr ⊢
      simp [stepG.apply, hr, htr, hrec]
theorem wpS_region_text {P : Program} {id : Nat} {ops : Array Oper} {Q : Exit → Act → List Frame → World → Prop} {a : Act} {cs : List Frame} {w : World} (h : OpsT P ops Q (List.range ops.size) a cs w) : (Code.region id ops false).wpSIn Fence.wide 1 P Q a cs w :=
  fun b k hb hr hF hroom => let ⟨e, a', cs', w', l, q, r⟩ := opsT_sound h b k hb hr; ⟨e, a', cs', w', l, q, .of_steps (.one (fenced_calm hF hroom rfl) stepR_region) r⟩
theorem wpS_region_draw {P : Program} {id : Nat} {ops : Array Oper} {Q : Exit → Act → List Frame → World → Prop} {a : Act} {cs : List Frame} {w : World} (hm : P.follows .mixedOrders = true) (h : ∀ t, OpsT P ops Q (Region.linearise .any ops t) a cs w.drew) : (Code.region id ops true).wpSIn Fence.wide 1 P Q a cs w :=
  fun b k hb hr hF hroom => by
    obtain ⟨e, a', cs', w', l, q, r⟩ := opsT_sound (h (w.tape w.drawn (.order b.fn id))) b k hb hr
    refine ⟨e, a', cs', w', l, q, .of_steps (.one (fenced_calm hF hroom rfl) stepR_region_draw) ?_⟩
    simp only [Region.schedule,hm,Bool.true_or,if_true]
    exact r
def readyL (ops : Array Oper) (listed : Array Bool) : List Nat := (List.range ops.size).filter fun i =>
  !listed.getD i true && ((ops[i]?).map (·.after.all fun e => !Region.binds .any e || listed.getD e.on false)).getD false
def allLin (ops : Array Oper) : Nat → Array Bool → List (List Nat)
  | 0, _ => [[]]
  | fuel + 1, listed => match readyL ops listed with
    | [] => [[]]
    | r :: rs => (r :: rs).flatMap fun i => (allLin ops fuel (listed.setIfInBounds i true)).map (i :: ·)
theorem lin_mem (ops : Array Oper) : ∀ (fuel t : Nat) (listed : Array Bool), Region.linearise.go .any ops fuel t listed [] ∈ allLin ops fuel listed
  | 0, t, listed => by simp [Region.linearise.go, allLin]
  | fuel + 1, t, listed => by
    simp only [Region.linearise.go]
    change (match (readyL ops listed)[t % (readyL ops listed).length]? with
      | some i => Region.linearise.go .any ops fuel (t / (readyL ops listed).length) (listed.setIfInBounds i true) [i]
      | none => [].reverse) ∈ _
    unfold allLin
    cases hr : readyL ops listed with
    | nil => simp
    | cons r rs =>
      have hlt : t % (r :: rs).length < (r :: rs).length := Nat.mod_lt _ (by simp)
      rw [List.getElem?_eq_getElem hlt]
      simp only
      rw [linearise_go_acc, List.reverse_singleton, List.singleton_append, List.mem_flatMap]
      exact ⟨_, List.getElem_mem hlt, List.mem_map.2 ⟨_, lin_mem ops fuel _ _, rfl⟩⟩
def opAt (ops : Array Oper) (i : Nat) : Oper := (ops[i]?).getD default
theorem opAt_some {ops : Array Oper} {i : Nat} (h : i < ops.size) : ops[i]? = some (opAt ops i) := by simp [opAt, h]
theorem opAt_eq {ops : Array Oper} {i : Nat} (h : i < ops.size) : opAt ops i = ops[i] := by simp [opAt, h]
def isRec (o : MO) : Bool := match o.op with
  | .call { callee := .builtin .recover, args := ⟨[]⟩, .. } => true
  | _ => false
def loadO (P : Program) (s : St) : Op → Option Value
  | .load t x => (opd s.E x).bind (loadA P s.A t)
  | op => pureA P s.E op
def regSA (P : Program) (call : CallT) : List MO → St → AM → Option (St × AM)
  | [], s, u => some (s, u)
  | o :: l, s, u => match wantedA s.E o.g with
    | some true => if isRec o then (match regA P call l ⟨setO s.E o.d (recA u).1, s.ds, s.A⟩ with | .norm s' => some (s', (recA u).2) | _ => none)
        else (match loadO P s o.op with | some v => regSA P call l ⟨setO s.E o.d v, s.ds, s.A⟩ u | none => none)
    | _ => none
def beqAM : AM → AM → Bool
  | .ret, .ret => true
  | .pan a, .pan b => beqV 20 a b
  | .was a, .was b => beqV 20 a b
  | _, _ => false
theorem beqAM_eq {a b : AM} (h : beqAM a b = true) : a = b := by
  unfold beqAM at h
  split at h
  · rfl
  · rw [beqV_eq 20 h]
  · rw [beqV_eq 20 h]
  · cases h
def forceS (ls : List (Nat × LoopS)) (r : Option (St × AM)) : Option (St × AM) := match r with
  | some (s, u) => some (⟨s.E, s.ds, { s.A with ls := ls }⟩, u)
  | none => none
theorem forceS_some {ls : List (Nat × LoopS)} {r : Option (St × AM)} {x : St × AM} (h : forceS ls r = some x) : ∃ s u, r = some (s, u) ∧ x = (⟨s.E, s.ds, { s.A with ls := ls }⟩, u) := by
  unfold forceS at h
  split at h
  · rename_i s u; cases h; exact ⟨s, u, rfl, rfl⟩
  · cases h
def ordersA (P : Program) (call : CallT) (ops : Array Oper) (s : St) (u : AM) : List (List Nat) → Option (St × AM)
  | [] => none
  | [l] => forceS s.A.ls (regSA P call (l.map fun i => stripO ops (opAt ops i)) s u)
  | l :: ls => match forceS s.A.ls (regSA P call (l.map fun i => stripO ops (opAt ops i)) s u), ordersA P call ops s u ls with
    | some a, some b => if beqSt a.1 b.1 = true ∧ beqAM a.2 b.2 = true then some a else none
    | _, _ => none
theorem ordersA_ls {P : Program} {call : CallT} {ops : Array Oper} {s : St} {u : AM} : ∀ {l : List (List Nat)} {x : St × AM}, ordersA P call ops s u l = some x → x.1.A.ls = s.A.ls
  | [], _, h => by simp [ordersA] at h
  | [l], x, h => by
    obtain ⟨s1, u1, _, rfl⟩ := forceS_some h
    rfl
  | l :: l2 :: ls, x, h => by
    simp only [ordersA] at h
    split at h
    · rename_i a b h1 _
      split at h
      · cases h
        obtain ⟨s1, u1, _, rfl⟩ := forceS_some h1
        rfl
      · cases h
    · cases h
inductive SRes where
  | norm (s : St) (u : AM)
  | ret (s : St) (u : AM)
  | fail
def viaN (r : Res) (u : AM) : SRes := match r with
  | .norm s => .norm s u
  | .ret s => .ret s u
  | _ => .fail
def runS (P : Program) (pl : Nat → Plan) (call : CallT) (rn : MC → St → Res) : Code → St → AM → SRes
  | .seq a b, s, u => match runS P pl call rn a s u with
    | .norm s' u' => runS P pl call rn b s' u'
    | r => r
  | .cond c a b, s, u => match opd s.E c with
    | some (.bool true) => runS P pl call rn a s u
    | some (.bool false) => runS P pl call rn b s u
    | _ => .fail
  | .region id ops d, s, u => if (ops.toList.any fun o => isRec (stripO ops o)) = true then
      (match ordersA P call ops s u (if d then allLin ops ops.size (Array.replicate ops.size false) else [List.range ops.size]) with
       | some r => .norm r.1 r.2
       | none => .fail)
      else viaN (rn (strip pl (.region id ops d)) s) u
  | c, s, u => viaN (rn (strip pl c) s) u
section
variable {P : Program} {w0 : World} {σ : Nat → Option Ent} {η : Nat → Value} {A : AW} {w : World} {call : CallT} {rn : MC → St → Res} {pl : Nat → Plan}
def RunOK (P : Program) (w0 : World) (η : Nat → Value) (rn : MC → St → Res) : Prop := ∀ (c : MC) (s : St) (σ : Nat → Option Ent) (e : Env) (dsC : List Deferred) (w : World) (N : Env → List Deferred → World → Prop) (EX : Nat → Env → List Deferred → World → Prop)
  (R : Env → List Deferred → World → Prop) (X : Env → List PanicEntry → List Deferred → World → Prop), ER σ η s.E e → DR σ η s.ds dsC → Inv w0 σ η s.A w → Post w0 η σ s.A w (rn c s) N EX R X → mwp P c e dsC w N EX R X
theorem wpOps_list {ops : Array Oper} {Q : Exit → Act → World → Prop} {n : Nat} : ∀ (l : List Nat), (∀ i ∈ l, i < ops.size) → ∀ a w, wpListIn Fence.wide n P ops Q (l.map fun i => opAt ops i) a w → wpOpsIn Fence.wide n P ops Q l a w
  | [], _, a, w, h => h
  | i :: l, hl, a, w, h => by
    have hi : i < ops.size := hl i (by simp)
    have ho : ops[i]? = some (opAt ops i) := opAt_some hi
    have hl' : ∀ j ∈ l, j < ops.size := fun j hj => hl j (by simp [hj])
    simp only [List.map_cons,wpListIn] at h
    simp only [wpOpsIn,ho]
    split at h
    · rename_i hw
      rw [if_pos hw]
      exact Oper.wpIn_mono (fun a w hk => wpOps_list l hl' a w hk) h
    · rename_i hw
      rw [if_neg hw]
      exact ⟨h.1, wpOps_list l hl' _ _ h.2⟩
def SGood (w0 : World) (η : Nat → Value) (σ : Nat → Option Ent) (A : AW) (w : World) (n : Nat) (c0 : Frame) (cs : List Frame) (s : St) (u : AM) (K : Act → List Frame → World → Prop) : Prop :=
  ∀ σ' a' e' m' w', Rel a' e' n a'.defers → ER σ' η s.E e' → DR σ' η s.ds a'.defers → Inv w0 σ' η s.A w' → Step σ σ' A s.A w w' → FR σ' η u m' → K a' ({ c0 with mode := m' } :: cs) w'
theorem SGood.step {σ1 : Nat → Option Ent} {A1 : AW} {w1 : World} {n : Nat} {c0 : Frame} {cs : List Frame} {s : St} {u : AM} {K : Act → List Frame → World → Prop} (h : SGood w0 η σ A w n c0 cs s u K) (hs : Step σ σ1 A A1 w w1) : SGood w0 η σ1 A1 w1 n c0 cs s u K :=
  fun σ' a' e' m' w' h1 h2 h3 h4 h5 h6 => h σ' a' e' m' w' h1 h2 h3 h4 (hs.trans h5) h6
theorem SGood.force {n : Nat} {c0 : Frame} {cs : List Frame} {s : St} {u : AM} {K : Act → List Frame → World → Prop} (h : SGood w0 η σ A w n c0 cs ⟨s.E, s.ds, { s.A with ls := A.ls }⟩ u K) : SGood w0 η σ A w n c0 cs s u K := by
  intro σ' a' e' m' w' h1 h2 h3 h4 h5 h6
  have he : ({ s.A with ls := A.ls } : AW) = s.A := by rw [← h5.ls]
  rw [he] at h
  exact h σ' a' e' m' w' h1 h2 h3 h4 h5 h6
theorem loadO_sound {s : St} {e : Env} {o : MO} {v : Value} (hE : ER σ η s.E e) (h : Inv w0 σ η s.A w) (ho : loadO P s o.op = some v) : ∃ v', (mexec (ev e) o).run P w = .ok (.value v') w ∧ VR σ η v v' := by
  obtain ⟨d, op, ty, g⟩ := o
  simp only at ho
  unfold loadO at ho
  split at ho
  · obtain ⟨p, hp, hl⟩ := Option.bind_eq_some_iff.1 ho
    obtain ⟨v', h1, h2⟩ := loadA_sound h (opd_sound hE hp) hl
    exact ⟨v', by simp [mexec, execOp, loadV_run h1], h2⟩
  · obtain ⟨v', h1, h2⟩ := pureA_sound hE ho
    exact ⟨v', pure_run h1 w, h2⟩
theorem recover_run {ρ : Operand → Value} {o : MO} (h : isRec o = true) : (mexec ρ o).run P w = .ok .recover w := by
  obtain ⟨d, op, ty, g⟩ := o
  unfold isRec at h
  split at h
  · rename_i c hop
    simp only at hop
    subst hop
    simp [mexec, execOp, resolve, invoke, builtin]
  · cases h
theorem recA_sound {u : AM} {c0 : Frame} {cs : List Frame} (hu : FR σ η u c0.mode) : ∃ v cs' m', (recoverD (c0 :: cs) = some (v, cs') ∨ (recoverD (c0 :: cs) = none ∧ v = .nilIface ∧ cs' = c0 :: cs)) ∧ cs' = { c0 with mode := m' } :: cs ∧ VR σ η (recA u).1 v ∧ FR σ η (recA u).2 m' := by
  obtain ⟨fn, tmps, todo, mode⟩ := c0
  simp only at hu
  cases hu with
  | ret => exact ⟨.nilIface, _, .returning, .inr ⟨rfl, rfl, rfl⟩, rfl, .nilIface, .ret⟩
  | pan h => exact ⟨_, _, _, .inl rfl, rfl, h, .was h⟩
  | was h => exact ⟨.nilIface, _, _, .inr ⟨rfl, rfl, rfl⟩, rfl, .nilIface, .was h⟩
theorem regSA_sound (hc : CallOK P w0 η call) {ops : Array Oper} {n : Nat} (hf : ops.all (operFits ops n) = true) (hnd : ops.all noDeferO = true) {c0 : Frame} {cs : List Frame} {Q : Exit → Act → List Frame → World → Prop} : ∀ (l : List Nat), (∀ i ∈ l, i < ops.size) →
    ∀ {s s' : St} {u u' : AM} {σ : Nat → Option Ent} {a : Act} {e : Env} {w : World}, Rel a e n a.defers → ER σ η s.E e → DR σ η s.ds a.defers → Inv w0 σ η s.A w → FR σ η u c0.mode → regSA P call (l.map fun i => stripO ops (opAt ops i)) s u = some (s', u') →
      SGood w0 η σ s.A w n c0 cs s' u' (Q .normal) → OpsT P ops Q l a (c0 :: cs) w
  | [], _, s, s', u, u', σ, a, e, w, hr, hE, hd, h, hu, hp, hq => by
    cases hp
    refine .leave ?_
    have := hq σ a e c0.mode w hr hE hd h (Step.refl _ _ _) hu
    simpa [wpOpsIn] using this
  | i :: l, hl, s, s', u, u', σ, a, e, w, hr, hE, hd, h, hu, hp, hq => by
    have hi : i < ops.size := hl i (by simp)
    have ho : ops[i]? = some (opAt ops i) := opAt_some hi
    have hfo : operFits ops n (opAt ops i) = true := fits_getD hf ho
    have hl' : ∀ j ∈ l, j < ops.size := fun j hj => hl j (by simp [hj])
    simp only [List.map_cons,regSA] at hp
    split at hp
    · rename_i hw
      have hww : Region.wanted (opAt ops i) (yielded ops a.tmps) = true := by rw [wanted_rel hr hfo]; exact wantedA_sound hE hw
      split at hp
      · rename_i hrec
        split at hp
        · rename_i s2 hreg
          cases hp
          obtain ⟨v, cs', m', h1, rfl, h3, h4⟩ := recA_sound (cs := cs) hu
          refine .recov (w' := w) ho hww (by rw [exec_rel hr hfo]; exact recover_run hrec) h1 (.leave (wpOps_list l hl' _ _ (list_in (ro := none) (n := 0) (m := 1) _ _ _ (fun o ho => ?_) ?_)))
          · obtain ⟨j, hj, rfl⟩ := List.mem_map.1 ho
            have hj' := hl' j hj
            rw [opAt_eq hj']
            exact Array.all_eq_true_iff_forall_mem.1 hnd _ (Array.getElem_mem hj')
          · have hr2 := rel_put hr (opAt ops i).dst v
            refine reg_sound (n := n) (X := fun _ _ _ _ => False) (N := fun e ds w' => ∀ a', Rel a' e n ds → Q .normal a' ({ c0 with mode := m' } :: cs) w') (fun _ _ _ _ _ hx => hx.elim) (fun e a w hr hn => hn a hr) _ _ (updO e (opAt ops i).dst v) a.defers w (fun o ho => ?_) hr2 ?_
            · obtain ⟨j, hj, rfl⟩ := List.mem_map.1 ho
              exact fits_getD hf (opAt_some (hl' j hj))
            · have hlm : (l.map fun i => opAt ops i).map (stripO ops) = l.map fun i => stripO ops (opAt ops i) := by simp
              rw [hlm]
              refine regA_sound (EX := fun _ _ _ _ => False) (R := fun _ _ _ => False) hc _ (s := ⟨setO s.E (stripO ops (opAt ops i)).d (recA u).1, s.ds, s.A⟩) (hE.updO _ h3) hd h ?_
              rw [hreg]
              intro σ' e' ds' w' k1 k2 k3 k4 a' hra
              have hda : a'.defers = ds' := hra.2.2
              subst hda
              exact hq σ' a' e' m' w' hra k1 k2 k3 k4 (h4.mono k4.sub)
        · cases hp
      · split at hp
        · rename_i v hv
          obtain ⟨v', h1, h2⟩ := loadO_sound hE h hv
          refine .val (v := v') (w' := w) ho hww (by rw [exec_rel hr hfo]; exact h1) ?_
          have hr2 := rel_put hr (opAt ops i).dst v'
          have hdef : (a.put (opAt ops i).dst v').defers = a.defers := put_defers _ _ _
          exact regSA_sound hc hf hnd l hl' (s := ⟨setO s.E (stripO ops (opAt ops i)).d v, s.ds, s.A⟩) (by rw [hdef]; exact hr2) (hE.updO _ h2) (by rw [hdef]; exact hd) h hu hp hq
        · cases hp
    · cases hp
theorem ordersA_sound (hc : CallOK P w0 η call) {ops : Array Oper} {n : Nat} (hf : ops.all (operFits ops n) = true) (hnd : ops.all noDeferO = true) {c0 : Frame} {cs : List Frame} {Q : Exit → Act → List Frame → World → Prop} {a : Act} {e : Env} {s : St} {u : AM} (hr : Rel a e n a.defers) (hE : ER σ η s.E e) (hd : DR σ η s.ds a.defers)
    (h : Inv w0 σ η s.A w) (hu : FR σ η u c0.mode) : ∀ (ls : List (List Nat)) {s' : St} {u' : AM}, ordersA P call ops s u ls = some (s', u') → SGood w0 η σ s.A w n c0 cs s' u' (Q .normal) → ∀ l ∈ ls, (∀ i ∈ l, i < ops.size) → OpsT P ops Q l a (c0 :: cs) w
  | [], _, _, hp, _ => by simp [ordersA] at hp
  | [l], s', u', hp, hq => fun l' hl' hb => by
    simp only [List.mem_singleton] at hl'
    subst hl'
    obtain ⟨s1, u1, hp1, hx⟩ := forceS_some hp
    cases hx
    exact regSA_sound hc hf hnd l' hb hr hE hd h hu hp1 hq.force
  | l :: l2 :: ls, s', u', hp, hq => fun l' hl' hb => by
    simp only [ordersA] at hp
    split at hp
    · rename_i a1 b1 h1 h2
      split at hp
      · rename_i hbq
        cases hp
        have e1 := beqSt_eq hbq.1 (by
          obtain ⟨s3, u3, _, hx⟩ := forceS_some h1
          rw [ordersA_ls h2]
          have := congrArg (fun x : St × AM => x.1.A.ls) hx
          exact this)
        have e2 := beqAM_eq hbq.2
        obtain ⟨b11, b12⟩ := b1
        simp only at e1 e2
        subst e1 e2
        rcases List.mem_cons.1 hl' with rfl | hm
        · obtain ⟨s3, u3, h3, hx⟩ := forceS_some h1
          cases hx
          exact regSA_sound hc hf hnd l' hb hr hE hd h hu h3 hq.force
        · exact ordersA_sound hc hf hnd hr hE hd h hu (l2 :: ls) h2 hq l' hm hb
      · cases hp
    · cases hp
theorem lin_lt (ops : Array Oper) : ∀ (fuel : Nat) (listed : Array Bool) (l : List Nat), l ∈ allLin ops fuel listed → ∀ i ∈ l, i < ops.size
  | 0, _, l, h => by simp [allLin] at h; subst h; simp
  | fuel + 1, listed, l, h => by
    unfold allLin at h
    split at h
    · simp at h; subst h; simp
    · rename_i r rs hrd
      rw [List.mem_flatMap] at h
      obtain ⟨i, hi, h⟩ := h
      obtain ⟨l2, h2, rfl⟩ := List.mem_map.1 h
      have hir : i ∈ readyL ops listed := by rw [hrd]; exact hi
      have hii : i < ops.size := by
        unfold readyL at hir
        exact List.mem_range.1 (List.mem_filter.1 hir).1
      intro j hj
      rcases List.mem_cons.1 hj with rfl | hj
      · exact hii
      · exact lin_lt ops fuel _ l2 h2 j hj
def SPost (w0 : World) (η : Nat → Value) (σ : Nat → Option Ent) (A : AW) (w : World) (n : Nat) (c0 : Frame) (cs : List Frame) (r : SRes) (Q : Exit → Act → List Frame → World → Prop) : Prop := match r with
  | .norm s u => SGood w0 η σ A w n c0 cs s u (Q .normal)
  | .ret s u => SGood w0 η σ A w n c0 cs s u (Q .ret)
  | .fail => False
theorem viaN_sound (hR : RunOK P w0 η rn) (hm : P.follows .mixedOrders = true) {c : Code} {n : Nat} (hnd : noDefer c = true) (hpl : plansOk pl c = true) (hf : fits n c = true) {c0 : Frame} {cs : List Frame} {Q : Exit → Act → List Frame → World → Prop} {a : Act} {e : Env} {s : St} {u : AM} (hr : Rel a e n a.defers) (hE : ER σ η s.E e) (hd : DR σ η s.ds a.defers)
    (h : Inv w0 σ η s.A w) (hu : FR σ η u c0.mode) (hp : SPost w0 η σ s.A w n c0 cs (viaN (rn (strip pl c) s) u) Q) : c.wpSIn Fence.wide 1 P Q a (c0 :: cs) w := by
  refine wpSIn_of_wpIn rfl ?_
  have key : ∀ (ex : Exit) (s' : St), SGood w0 η σ s.A w n c0 cs s' u (Q ex) → ∀ σ' e' ds w', ER σ' η s'.E e' → DR σ' η s'.ds ds → Inv w0 σ' η s'.A w' → Step σ σ' s.A s'.A w w' → ∀ a', Rel a' e' n ds → Q ex a' (c0 :: cs) w' := fun ex s' hg σ' e' ds w' k1 k2 k3 k4 a' hra => by
    have hda : a'.defers = ds := hra.2.2
    subst hda
    exact hg σ' a' e' c0.mode w' hra k1 k2 k3 k4 (hu.mono k4.sub)
  refine wpIn_mono (mwpIn_sound (ro := none) (m := 0) hm pl c a e a.defers w (fun e ds w => ∀ a', Rel a' e n ds → Q .normal a' (c0 :: cs) w) (fun _ _ _ _ => False) (fun e ds w => ∀ a', Rel a' e n ds → Q .ret a' (c0 :: cs) w) (fun _ _ _ _ => False) hnd hpl hf hr ?_) ?_
  · refine hR _ s σ e a.defers w _ _ _ _ hE hd h ?_
    unfold viaN at hp
    split at hp
    · rename_i s' hrn
      rw [hrn]
      exact key .normal s' hp
    · rename_i s' hrn
      rw [hrn]
      exact key .ret s' hp
    · exact hp.elim
  · intro ex a' w' hq
    cases ex with
    | normal => obtain ⟨e', hra, hq⟩ := hq; exact hq a' hra
    | ret => obtain ⟨e', hra, hq⟩ := hq; exact hq a' hra
    | exit i => obtain ⟨_, _, hq⟩ := hq; exact hq.elim
    | goto i => exact hq.elim
    | panic ch => obtain ⟨_, _, hq⟩ := hq; exact hq.elim
    | outgrown => exact hq.elim
theorem runS_sound (hc : CallOK P w0 η call) (hR : RunOK P w0 η rn) (hm : P.follows .mixedOrders = true) {n : Nat} {cs : List Frame} : ∀ (c : Code), noDefer c = true → plansOk pl c = true → fits n c = true → ∀ {c0 : Frame} {Q : Exit → Act → List Frame → World → Prop} {a : Act} {e : Env} {s : St} {u : AM} {σ : Nat → Option Ent} {w : World},
    Rel a e n a.defers → ER σ η s.E e → DR σ η s.ds a.defers → Inv w0 σ η s.A w → FR σ η u c0.mode → SPost w0 η σ s.A w n c0 cs (runS P pl call rn c s u) Q → c.wpSIn Fence.wide 1 P Q a (c0 :: cs) w
  | .seq x y, hnd, hpl, hf, c0, Q, a, e, s, u, σ, w, hr, hE, hd, h, hu, hp => by
    simp only [noDefer,plansOk,fits,Bool.and_eq_true] at hnd hpl hf
    refine wpSIn_seq (runS_sound hc hR hm x hnd.1 hpl.1 hf.1 hr hE hd h hu ?_)
    simp only [runS] at hp
    split at hp
    · rename_i s' u' hx
      rw [hx]
      intro σ' a' e' m' w' k1 k2 k3 k4 k5 k6
      refine runS_sound hc hR hm y hnd.2 hpl.2 hf.2 (c0 := { c0 with mode := m' }) k1 k2 k3 k4 k6 ?_
      generalize runS P pl call rn y s' u' = r at hp
      cases r with
      | norm s2 u2 => exact SGood.step hp k5
      | ret s2 u2 => exact SGood.step hp k5
      | fail => exact hp
    · rename_i hno
      generalize runS P pl call rn x s u = r at hp hno
      cases r with
      | norm s2 u2 => exact absurd rfl (hno s2 u2)
      | ret s2 u2 => exact hp
      | fail => exact hp
  | .cond c x y, hnd, hpl, hf, c0, Q, a, e, s, u, σ, w, hr, hE, hd, h, hu, hp => by
    simp only [noDefer,plansOk,fits,Bool.and_eq_true] at hnd hpl hf
    simp only [runS] at hp
    split at hp
    · rename_i ho
      exact wpSIn_cond (t := true) (by rw [ev_eval hr hf.1.1]; exact VR.bool_inv (opd_sound hE ho)) (by simp only [if_true]; exact runS_sound hc hR hm x hnd.1 hpl.1 hf.1.2 hr hE hd h hu hp)
    · rename_i ho
      exact wpSIn_cond (t := false) (by rw [ev_eval hr hf.1.1]; exact VR.bool_inv (opd_sound hE ho)) (by simp only [Bool.false_eq_true,if_false]; exact runS_sound hc hR hm y hnd.2 hpl.2 hf.2 hr hE hd h hu hp)
    · exact hp.elim
  | .region id ops d, hnd, hpl, hf, c0, Q, a, e, s, u, σ, w, hr, hE, hd, h, hu, hp => by
    simp only [runS] at hp
    split at hp
    · split at hp
      · rename_i r hor
        obtain ⟨s', u'⟩ := r
        simp only [noDefer,fits] at hnd hf
        cases d with
        | false =>
          refine wpS_region_text ?_
          exact ordersA_sound hc hf hnd hr hE hd h hu _ hor hp _ (by simp) (fun i hi => by simpa using hi)
        | true =>
          refine wpS_region_draw hm fun t => ?_
          have hmem := lin_mem ops ops.size t (Array.replicate ops.size false)
          exact ordersA_sound hc hf hnd hr hE hd h.drew hu _ hor (fun σ' a' e' m' w' k1 k2 k3 k4 k5 k6 => hp σ' a' e' m' w' k1 k2 k3 k4 ((Step.refl _ _ _).drew.trans k5) k6) _ (by rw [if_pos rfl]; exact hmem) (lin_lt ops _ _ _ hmem)
      · exact hp.elim
    · exact viaN_sound hR hm hnd hpl hf hr hE hd h hu hp
  | .skip, hnd, hpl, hf, c0, Q, a, e, s, u, σ, w, hr, hE, hd, h, hu, hp => viaN_sound hR hm hnd hpl hf hr hE hd h hu hp
  | .ret, hnd, hpl, hf, c0, Q, a, e, s, u, σ, w, hr, hE, hd, h, hu, hp => viaN_sound hR hm hnd hpl hf hr hE hd h hu hp
  | .block id b, hnd, hpl, hf, c0, Q, a, e, s, u, σ, w, hr, hE, hd, h, hu, hp => viaN_sound hR hm hnd hpl hf hr hE hd h hu hp
  | .loop b, hnd, hpl, hf, c0, Q, a, e, s, u, σ, w, hr, hE, hd, h, hu, hp => viaN_sound hR hm hnd hpl hf hr hE hd h hu hp
  | .exit id, hnd, hpl, hf, c0, Q, a, e, s, u, σ, w, hr, hE, hd, h, hu, hp => viaN_sound hR hm hnd hpl hf hr hE hd h hu hp
  | .rangeFunc .., hnd, _, _, _, _, _, _, _, _, _, _, _, _, _, _, _, _ => by simp [noDefer] at hnd
  | .scope .., hnd, _, _, _, _, _, _, _, _, _, _, _, _, _, _, _, _ => by simp [noDefer] at hnd
  | .label .., hnd, _, _, _, _, _, _, _, _, _, _, _, _, _, _, _, _ => by simp [noDefer] at hnd
  | .goto .., hnd, _, _, _, _, _, _, _, _, _, _, _, _, _, _, _, _ => by simp [noDefer] at hnd
  | .refuse .., hnd, _, _, _, _, _, _, _, _, _, _, _, _, _, _, _, _ => by simp [noDefer] at hnd
end
end
end Go.Proofs.YtdkdibeimeaakabGreatDoor
/- Closed runs: ranges over functions. -/
namespace Go.Proofs.YtdkdibeimeaakabGreatDoor
open Go.RowKit
noncomputable section
set_option linter.unusedVariables false
set_option linter.unusedSimpArgs false
def enterL (pl : Nat → Plan) (ps : List Nat) (A B : Code) (E : Tr Value) (W : AW) : AW :=
  { W with n := W.n + 2, maps := (W.maps.set W.n (some .defs)).set (W.n + 1) (some (.loop 0 none)), ls := (W.n + 1, ⟨E, ps, A, B, pl⟩) :: W.ls }
def bindC (k : AW → Res) (r : CRes) : Res := CRes.rec (fun _ A => k A) (fun _ _ => .fail) .fail (fun _ _ a b => .alt a b) r
theorem bindC_post {w0 : World} {σ : Nat → Option Ent} {η : Nat → Value} {A A1 : AW} {w w1 : World} {σ1 : Nat → Option Ent} {N R : Env → List Deferred → World → Prop} {EX : Nat → Env → List Deferred → World → Prop} {X : Env → List PanicEntry → List Deferred → World → Prop} {k : AW → Res} {Rr : Ending → World → Prop}
    (hk : ∀ A', Post w0 η σ A w (k A') N EX R X → ∀ σ' v' w', Inv w0 σ' η A' w' → Step σ1 σ' A1 A' w1 w' → Rr (.returned v') w') : ∀ (r : CRes), Post w0 η σ A w (bindC k r) N EX R X → CPost w0 η σ1 A1 w1 r Rr
  | .ret v A', h => fun σ' v' w' _ b c => hk A' h σ' v' w' b c
  | .pan v A', h => h.elim
  | .fail, h => h.elim
  | .alt a b, h => ⟨bindC_post hk a h.1, bindC_post hk b h.2⟩
def rawF (P : Program) (pl : Nat → Plan) (call : CallT) (g : Operand) (ps : Array Tmp) (A B : Code) (s : St) : Res := match opd s.E g with
  | some (.func (.func f) first cap) => if (okF P f && (noDefer A && plansOk pl A) && (noDefer B && plansOk pl B)) = true then
      forceN s.A.n fun base => bindC (fun A2 => (match A2.maps.get (base + 1) with
        | some (.loop st pend) => if st = 1 then .fail else (match pend with
          | none => .norm ⟨s.E, (0, [.complex .f64 base 1]) :: s.ds, { A2 with maps := A2.maps.set (base + 1) none, ls := s.A.ls }⟩
          | some none => .ret ⟨s.E, (0, [.complex .f64 base 1]) :: s.ds, { A2 with maps := A2.maps.set (base + 1) none, ls := s.A.ls }⟩
          | some (some i) => .exit i ⟨s.E, (0, [.complex .f64 base 1]) :: s.ds, { A2 with maps := A2.maps.set (base + 1) none, ls := s.A.ls }⟩)
        | _ => .fail)) (call (.fn f) (first.toList ++ [.complex .f64 (base + 1) 0] ++ cap.toList) (enterL pl ps.toList A B s.E s.A)) else .fail
  | _ => .fail
section
variable {P : Program} {w0 : World} {σ : Nat → Option Ent} {η : Nat → Value} {A : AW} {w : World}
theorem lsGet_cons (a : Nat) (S : LoopS) (l : List (Nat × LoopS)) (j : Nat) : lsGet ((a, S) :: l) j = if a = j then some S else lsGet l j := by
  simp only [lsGet]
  by_cases h : a = j
  · subst h; simp [Nat.beq_refl]
  · have : Nat.beq a j = false := by
      cases hb : Nat.beq a j with
      | true => exact absurd (Nat.eq_of_beq_eq_true hb) h
      | false => rfl
    simp [h, this]
theorem Inv.withLs {L : List (Nat × LoopS)} (h : Inv w0 σ η A w) (hl : ∀ j m, A.maps.get j = some m → lsGet L j = lsGet A.ls j) : Inv w0 σ η { A with ls := L } w :=
  ⟨h.ext, h.fresh, h.rsv, h.row, h.sep, ⟨fun j m hj => by
    obtain ⟨x, o, h1, h2, h3, h4⟩ := h.mp.1 j m hj
    exact ⟨x, o, h1, h2, h3, by simp only; rw [hl j m hj]; exact h4⟩, h.mp.2⟩⟩
theorem maps_lt (h : Inv w0 σ η A w) {j : Nat} {m : ObjA} (hj : A.maps.get j = some m) : j < A.n := by
  obtain ⟨x, o, hx, _⟩ := h.mp.1 j m hj
  by_cases hlt : j < A.n
  · exact hlt
  · rw [h.fresh j (by omega)] at hx; cases hx
theorem enterL_sound {pl : Nat → Plan} {ps : Array Tmp} {g : Operand} {Ac B : Code} {E : Tr Value} {e : Env} {fn : FuncId} {tmps : Array Value} (h : Inv w0 σ η A w) (hE : ER σ η E e) (ht : ∀ t, t < tmps.size → tmps[t]? = some (e t)) (hfit : fits tmps.size (.rangeFunc g ps Ac B) = true)
    (hA : noDefer Ac = true ∧ plansOk pl Ac = true) (hB : noDefer B = true ∧ plansOk pl B = true) :
    ∃ σ1 xd xl, Inv w0 σ1 η (enterL pl ps.toList Ac B E A) ((w.alloc (.deferred (some []))).alloc (.loop (loopRec fn tmps ps Ac B w.heap.size))) ∧ σ1 A.n = some xd ∧ xd.b = w.heap.size ∧ σ1 (A.n + 1) = some xl ∧ xl.b = w.heap.size + 1 ∧
      Step σ σ1 { A with ls := (A.n + 1, ⟨E, ps.toList, Ac, B, pl⟩) :: A.ls } (enterL pl ps.toList Ac B E A) w ((w.alloc (.deferred (some []))).alloc (.loop (loopRec fn tmps ps Ac B w.heap.size))) := by
  have h0 := h.withLs (L := (A.n + 1, ⟨E, ps.toList, Ac, B, pl⟩) :: A.ls) fun j m hj => by
    rw [lsGet_cons, if_neg (by have := maps_lt h hj; omega)]
  obtain ⟨σ1, a1, a2, a3⟩ := mkThing_sound (m := .defs) (o := .deferred (some [])) h0 trivial
  have hr : ObjR σ1 η (lsGet ((A.n + 1, (⟨E, ps.toList, Ac, B, pl⟩ : LoopS)) :: A.ls) (A.n + 1)) (.loop 0 none) (.loop (loopRec fn tmps ps Ac B w.heap.size)) := by
    rw [lsGet_cons, if_pos rfl]
    exact ⟨_, rfl, rfl, rfl, rfl, rfl, rfl, hA, hB, ⟨g, hfit⟩, e, hE.mono a3.sub, ht⟩
  obtain ⟨σ2, b1, b2, b3⟩ := mkThing_sound (m := .loop 0 none) (o := .loop (loopRec fn tmps ps Ac B w.heap.size)) a2 hr
  refine ⟨σ2, _, _, b2, b3.sub _ _ a1, rfl, b1, ?_, a3.trans b3⟩
  exact World.size_alloc _ _
theorem loop_at {w0 : World} {η : Nat → Value} {j st : Nat} {pend : Option (Option Nat)} {A : AW} {σ : Nat → Option Ent} {w : World} {x : Ent} (h : Inv w0 σ η A w) (hx : σ j = some x) (hj : A.maps.get j = some (.loop st pend)) :
    ∃ r S, w0.heap.size ≤ x.b ∧ w.heap[x.b]? = some (.loop r) ∧ lsGet A.ls j = some S ∧ LoopR σ η S st pend r := by
  obtain ⟨x', o, hx', hb, ho, hr0⟩ := h.mp.1 j _ hj
  rw [hx] at hx'
  cases hx'
  cases o <;> simp only [ObjR] at hr0
  obtain ⟨S, hS, hl⟩ := hr0
  exact ⟨_, S, hb, ho, hS, hl⟩
theorem stC_busy {st : Nat} (h : ¬ st = 1) : stC st ≠ .busy := by
  match st, h with
  | 0, _ => simp [stC]
  | 1, h => exact absurd rfl h
  | n + 2, _ => cases n <;> simp [stC]
theorem rawF_sound {call : CallT} (hc : CallOK P w0 η call) {pl : Nat → Plan} {g : Operand} {ps : Array Tmp} {Ac B : Code} {s : St} {e : Env} {dsC : List Deferred} {N R : Env → List Deferred → World → Prop} {EX : Nat → Env → List Deferred → World → Prop} {X : Env → List PanicEntry → List Deferred → World → Prop}
    (hE : ER σ η s.E e) (hd : DR σ η s.ds dsC) (h : Inv w0 σ η s.A w) (hp : Post w0 η σ s.A w (rawF P pl call g ps Ac B s) N EX R X) : mwp P (.raw (.rangeFunc g ps Ac B)) e dsC w N EX R X := by
  unfold rawF at hp
  split at hp
  · rename_i f first cap ho
    split at hp
    · rename_i hok
      simp only [Bool.and_eq_true] at hok
      rw [forceN_eq] at hp
      have h1 := opd_sound hE ho
      generalize hz : ev e g = z at h1
      cases h1 with
      | func ha hb q1 q2 =>
        refine mwp_rangeFunc hz hok.1.1 fun n fn tmps hsz ht hfit => ?_
        subst hsz
        obtain ⟨σ1, xd, xl, i1, x1, x2, x3, x4, st1⟩ := enterL_sound (g := g) (fn := fn) h hE ht hfit hok.1.2 hok.2
        have hvs := (((VRs.ofArr ha q1).mono st1.sub).append (VRs.cons (VR.yld (η := η) x3) VRs.nil)).append ((VRs.ofArr hb q2).mono st1.sub)
        rw [x4] at hvs
        have harr : ∀ (a b : Array Value) (y : Value), (a.toList ++ [y] ++ b.toList).toArray = a ++ #[y] ++ b := fun a b y => by
          apply Array.toList_inj.1
          simp
        have hcc := fun Rr => hc.1 f _ _ σ1 _ _ i1 hvs Rr
        rw [harr] at hcc
        refine hcc _ (bindC_post (fun A2 hq σ2 v' w3 k2 k3 => ?_) _ hp)
        · clear hp
          have hp := hq
          clear hq
          split at hp
          · rename_i st pend hj
            split at hp
            · exact hp.elim
            · rename_i hst
              have hx2 := k3.sub _ _ x3
              obtain ⟨r, S, hb2, ho3, hS, hl⟩ := loop_at k2 hx2 hj
              obtain ⟨d1, d2⟩ := dropThing k2 hj hx2 hb2 ho3 (fun _ _ _ he => by cases he) (.loop { r with state := .exhausted })
              rw [x4] at ho3 d1 d2
              have hls : A2.ls = (s.A.n + 1, (⟨s.E, ps.toList, Ac, B, pl⟩ : LoopS)) :: s.A.ls := k3.ls
              have d3 := d1.withLs (L := s.A.ls) fun j m hj' => by
                simp only [Tr.get_set] at hj'
                split at hj'
                · cases hj'
                · rename_i hne
                  simp only
                  rw [hls, lsGet_cons, if_neg (fun e => hne e.symm)]
              have t := st1.trans (k3.trans d2)
              have hend := run_endLoop (P := P) ho3 (by rw [hl.state]; exact stC_busy hst)
              obtain ⟨w4, hw4⟩ : ∃ w4, w4 = w3.putObj (w.heap.size + 1) (.loop { r with state := .exhausted }) := ⟨_, rfl⟩
              have d4 : Inv w0 σ2 η { A2 with maps := A2.maps.set (s.A.n + 1) none, ls := s.A.ls } w4 := by rw [hw4]; exact d3
              have t4 : Step σ σ2 s.A { A2 with maps := A2.maps.set (s.A.n + 1) none, ls := s.A.ls } w w4 := by rw [hw4]; exact ⟨t.sub, rfl, t.keep⟩
              refine ⟨v', pendC pend, w4, rfl, by rw [hw4, ← hl.pending]; exact hend, ?_⟩
              have hds : DR σ2 η ((0, [.complex .f64 s.A.n 1]) :: s.ds) ({ target := .collected w.heap.size, args := #[] } :: dsC) := ⟨.inr ⟨s.A.n, xd, rfl, k3.sub _ _ x1, by rw [x2]⟩, hd.mono t.sub⟩
              split at hp
              · exact hp σ2 e _ _ (hE.mono t.sub) hds d4 t4
              · exact hp σ2 e _ _ (hE.mono t.sub) hds d4 t4
              · exact hp σ2 e _ _ (hE.mono t.sub) hds d4 t4
          · exact hp.elim
    · exact hp.elim
  · exact hp.elim
end
end
end Go.Proofs.YtdkdibeimeaakabGreatDoor

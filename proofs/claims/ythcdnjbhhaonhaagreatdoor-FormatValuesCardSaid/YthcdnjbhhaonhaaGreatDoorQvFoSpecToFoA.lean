/- Layer 02 in plain Lean: formats, what is within what, and joins. -/
import Derived.Test.YthcdnjbhhaonhaaGreatDoorQvChSpecToChF
import Derived.Test.YthcdnjbhhaonhaaGreatDoorQvChGToChJ

namespace Go.Proofs.YthcdnjbhhaonhaaGreatDoor
structure Fl where
 key : Int
 c : Ch
structure Fm where
 m : Int
 F : List Fl
def fieldsB : Int → List Fl → Bool
 | _, [] => true
 | k, f :: l => decide (k < f.key) && (decide (f.key ≤ 6) && (f.c.valid && fieldsB f.key l))
def Fm.valid (f : Fm) : Bool := fieldsB 0 f.F && (decide (1 ≤ f.m) && decide (f.m ≤ 3))
def wiC (a b : Ch) : Prop := ∀ n, a.has n = true → b.has n = true
def wiL (A B : List Fl) : Prop := ∀ y ∈ B, ∃ x ∈ A, x.key = y.key ∧ wiC x.c y.c
def wiF (a b : Fm) : Prop := a.m = b.m ∧ wiL a.F b.F
theorem wiC.refl (a : Ch) : wiC a a := fun _ h => h
theorem wiC.trans {a b c : Ch} (h : wiC a b) (h' : wiC b c) : wiC a c := fun n hn => h' n (h n hn)
theorem wiF.trans {a b c : Fm} (h : wiF a b) (h' : wiF b c) : wiF a c := by
 refine ⟨h.1.trans h'.1, fun z hz => ?_⟩
 obtain ⟨y, hy, e1, w1⟩ := h'.2 z hz
 obtain ⟨x, hx, e2, w2⟩ := h.2 y hy
 exact ⟨x, hx, e2.trans e1, w2.trans w1⟩
theorem fieldsB_cons {k : Int} {f : Fl} {l : List Fl} : fieldsB k (f :: l) = true ↔ k < f.key ∧ f.key ≤ 6 ∧ f.c.valid = true ∧ fieldsB f.key l = true := by
 simp [fieldsB]
theorem fieldsB_mem : ∀ {l : List Fl} {k : Int}, fieldsB k l = true → ∀ f ∈ l, k < f.key ∧ f.key ≤ 6 ∧ f.c.valid = true
 | [], _, _, f, hf => by cases hf
 | g :: l, k, h, f, hf => by
  rw [fieldsB_cons] at h
  rcases List.mem_cons.1 hf with rfl | hf
  · exact ⟨h.1, h.2.1, h.2.2.1⟩
  · have := fieldsB_mem h.2.2.2 f hf
    exact ⟨by omega, this.2⟩
def pairs : List Fl → List Fl → List (Option Fl × Option Fl)
 | [], [] => []
 | x :: A, [] => (some x, none) :: pairs A []
 | [], y :: B => (none, some y) :: pairs [] B
 | x :: A, y :: B => if x.key = y.key then (some x, some y) :: pairs A B else if x.key < y.key then (some x, none) :: pairs A (y :: B) else (none, some y) :: pairs (x :: A) B
termination_by A B => A.length + B.length
def WiP (p : Option Fl × Option Fl) : Prop := ∀ y, p.2 = some y → ∃ x, p.1 = some x ∧ wiC x.c y.c
def JoinR : List (Option Fl × Option Fl) → Option (List Fl) → Prop
 | [], o => o = some []
 | (some x, none) :: R, o => ∃ o', JoinR R o' ∧ o = o'.map (x :: ·)
 | (none, some y) :: R, o => ∃ o', JoinR R o' ∧ o = o'.map (y :: ·)
 | (some x, some y) :: R, o => ∃ c, Met x.c y.c c ∧ match c with
  | none => o = none
  | some c => ∃ o', JoinR R o' ∧ o = o'.map (⟨x.key, c⟩ :: ·)
 | (none, none) :: _, _ => False
theorem JoinR.eq : ∀ {R : List (Option Fl × Option Fl)} {o o' : Option (List Fl)}, JoinR R o → JoinR R o' → o = o'
 | [], _, _, h, h' => by simp only [JoinR] at h h'; rw [h, h']
 | (some x, none) :: R, _, _, ⟨a, h1, h2⟩, ⟨b, g1, g2⟩ => by rw [h2, g2, h1.eq g1]
 | (none, some x) :: R, _, _, ⟨a, h1, h2⟩, ⟨b, g1, g2⟩ => by rw [h2, g2, h1.eq g1]
 | (some x, some y) :: R, _, _, ⟨a, h1, h2⟩, ⟨b, g1, g2⟩ => by
  have e := h1.eq g1
  subst e
  cases a with
  | none => simp only at h2 g2; rw [h2, g2]
  | some c =>
   obtain ⟨u, h3, h4⟩ := h2
   obtain ⟨v, g3, g4⟩ := g2
   rw [h4, g4, h3.eq g3]
 | (none, none) :: _, _, _, h, _ => h.elim
end Go.Proofs.YthcdnjbhhaonhaaGreatDoor
/- Layer 02: fields and formats in memory. -/
namespace Go.Proofs.YthcdnjbhhaonhaaGreatDoor
open Go.RowKit
def flVs (f : Fl) (s : Value) : List Value := [.int .i64 f.key, .int .i64 f.c.k, .int .i64 f.c.d, s]
def FldAt (w : World) (b o : Nat) (f : Fl) : Prop := ∃ s, Row w b o (flVs f s) ∧ SlI w s f.c.L
def FldsAt (w : World) (b o : Nat) (fs : List Fl) : Prop := ∀ k f, fs[k]? = some f → FldAt w b (o + 4 * k) f
def SlF (w : World) (v : Value) (fs : List Fl) : Prop := ∃ p cap, v = .slice p fs.length cap ∧ fs.length ≤ cap ∧ cap ≤ maxLen ∧ (fs ≠ [] → ∃ b o, p = some ⟨b, o, none⟩ ∧ FldsAt w b o fs)
def fmV (f : Fm) (s : Value) : Value := .agg #[.int .i64 f.m, s]
section
variable {w w' : World}
theorem FldAt.ext {b o : Nat} {f : Fl} (h : FldAt w b o f) (he : Ext w w') : FldAt w' b o f := by
 obtain ⟨s, h1, h2⟩ := h
 exact ⟨s, h1.ext he, h2.ext he⟩
theorem FldsAt.ext {b o : Nat} {fs : List Fl} (h : FldsAt w b o fs) (he : Ext w w') : FldsAt w' b o fs := fun k f hk => (h k f hk).ext he
theorem SlF.ext {v : Value} {fs : List Fl} (h : SlF w v fs) (he : Ext w w') : SlF w' v fs := by
 obtain ⟨p, cap, h1, h2, h3, h4⟩ := h
 refine ⟨p, cap, h1, h2, h3, fun hne => ?_⟩
 obtain ⟨b, o, h5, h6⟩ := h4 hne
 exact ⟨b, o, h5, h6.ext he⟩
theorem SlF.nil (w : World) : SlF w (.slice none 0 0) [] := ⟨none, 0, rfl, by simp, by simp, fun h => absurd rfl h⟩
theorem SlF.shape {v : Value} {fs : List Fl} (h : SlF w v fs) : ∃ p cap, v = .slice p fs.length cap ∧ fs.length ≤ cap ∧ cap ≤ maxLen := by
 obtain ⟨p, cap, h1, h2, h3, _⟩ := h
 exact ⟨p, cap, h1, h2, h3⟩
theorem SlF.at {p : Option Addr} {n cap : Nat} {fs : List Fl} (h : SlF w (.slice p n cap) fs) (hne : fs ≠ []) : ∃ b o, p = some ⟨b, o, none⟩ ∧ FldsAt w b o fs := by
 obtain ⟨p', cap', h1, _, _, h4⟩ := h
 cases h1
 exact h4 hne
theorem FldsAt.get {b o k : Nat} {fs : List Fl} (h : FldsAt w b o fs) (hk : k < fs.length) : ∃ s, w.cell? ⟨b, o + 4 * k, none⟩ = some (.int .i64 fs[k].key) ∧ w.cell? ⟨b, o + 4 * k + 1, none⟩ = some (.int .i64 fs[k].c.k) ∧
 w.cell? ⟨b, o + 4 * k + 2, none⟩ = some (.int .i64 fs[k].c.d) ∧ w.cell? ⟨b, o + 4 * k + 3, none⟩ = some s ∧ SlI w s fs[k].c.L := by
 obtain ⟨s, h1, h2⟩ := h k fs[k] (List.getElem?_eq_getElem hk)
 exact ⟨s, h1 0 _ rfl, h1 1 _ rfl, h1 2 _ rfl, h1 3 _ rfl, h2⟩
theorem SlF.tail {b o n cap : Nat} {f : Fl} {fs : List Fl} (h : SlF w (.slice (some ⟨b, o, none⟩) n cap) (f :: fs)) (q : Option Addr) (hq : fs ≠ [] → q = some ⟨b, o + 4, none⟩) : SlF w (.slice q (n - 1) (cap - 1)) fs := by
 obtain ⟨p', cap', h1, h2, h3, h4⟩ := h
 cases h1
 simp only [List.length_cons] at h2
 refine ⟨q, cap - 1, by simp, by omega, by omega, fun hne => ⟨b, o + 4, hq hne, ?_⟩⟩
 obtain ⟨b', o', h5, h6⟩ := h4 (by simp)
 cases h5
 intro k g hk
 have := h6 (k + 1) g (by simpa using hk)
 rw [show o + 4 * (k + 1) = o + 4 + 4 * k by omega] at this
 exact this
end
end Go.Proofs.YthcdnjbhhaonhaaGreatDoor

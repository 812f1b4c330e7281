/- Layer 02: tables of words, and a word's place. -/
import Derived.Test.YthcdnjbhhaonhaaGreatDoorQvTxAToTxB
import Derived.Test.YthcdnjbhhaonhaaGreatDoorQvFoHToFoN

namespace Go.Proofs.YthcdnjbhhaonhaaGreatDoor
open Go.RowKit
set_option linter.unusedSimpArgs false
def strs (l : List By) : List Value := l.map fun s => .string (bw s)
def SlS (w : World) (v : Value) (xs : List By) : Prop := Sl w v (strs xs)
theorem strs_length (xs : List By) : (strs xs).length = xs.length := by simp [strs]
theorem strs_get {xs : List By} {k : Nat} (h : k < xs.length) : (strs xs)[k]? = some (.string (bw xs[k])) := by simp [strs, h]
theorem SlS.ext {w w' : World} {v : Value} {xs : List By} (h : SlS w v xs) (he : Ext w w') : SlS w' v xs := Sl.ext h he
theorem SlS.shape {w : World} {v : Value} {xs : List By} (h : SlS w v xs) : ∃ p cap, v = .slice p xs.length cap ∧ xs.length ≤ cap ∧ cap ≤ maxLen := by
  obtain ⟨p, cap, h1, h2, h3⟩ := Sl.shape h
  rw [strs_length] at h1 h2
  exact ⟨p, cap, h1, h2, h3⟩
theorem SlS.get {w : World} {p : Option Addr} {n cap k : Nat} {xs : List By} (h : SlS w (.slice p n cap) xs) (hk : k < xs.length) : ∃ b o, p = some ⟨b, o, none⟩ ∧ w.cell? ⟨b, o + k, none⟩ = some (.string (bw xs[k])) := by
  obtain ⟨b, o, cap', h1, _, _, h4⟩ := Sl.at h (by intro h0; rw [← strs_length, h0] at hk; simp at hk)
  cases h1
  exact ⟨b, o, rfl, h4 k _ (strs_get hk)⟩
def TabQ (T : List By) (w : World) (r : Value) (w' : World) : Prop := Ext w w' ∧ ∃ b, r = .slice (some ⟨b, 0, none⟩) T.length T.length ∧ ∀ k (h : k < T.length), w'.cell? ⟨b, k, none⟩ = some (.string (bw T[k]))
theorem TabQ.sl {T : List By} {w w' : World} {r : Value} (h : TabQ T w r w') (hT : T.length ≤ 100) : SlS w' r T := by
  obtain ⟨_, b, rfl, h2⟩ := h
  refine .inr ⟨b, 0, T.length, by rw [strs_length], by rw [strs_length]; omega, by unfold maxLen; omega, fun k v hk => ?_⟩
  have hl := (List.getElem?_eq_some_iff.1 hk).1
  rw [strs_length] at hl
  rw [strs_get hl] at hk
  cases hk
  simpa using h2 k hl
end Go.Proofs.YthcdnjbhhaonhaaGreatDoor
/- Layer 02: numbers told and read, texts cut; the reference's. -/
namespace Go.Proofs.YthcdnjbhhaonhaaGreatDoor
open Go.RowKit
set_option linter.unusedSimpArgs false
end Go.Proofs.YthcdnjbhhaonhaaGreatDoor
/- Layer 02: a text cut on one byte, by the reference. -/
namespace Go.Proofs.YthcdnjbhhaonhaaGreatDoor
open Go.RowKit
set_option linter.unusedSimpArgs false
end Go.Proofs.YthcdnjbhhaonhaaGreatDoor
/- Layer 02: what stands behind "of", heard by the reference. -/
namespace Go.Proofs.YthcdnjbhhaonhaaGreatDoor
open Go.RowKit
set_option linter.unusedSimpArgs false
theorem bs_int (x : Int) : buildS Go.Proofs.Tryz.prog 33 1 [(0, .int .i64 x)] = some (3, #[.int .i64 x]) := by kernel_rfl
theorem ints_app (a b : List Int) : ints (a ++ b) = ints a ++ ints b := List.map_append
theorem append_it {w : World} {base : Nat} {v : Value} {xs : List Int} (hown : w.ownsRow base 3 1 v xs.length (ints xs)) (x : Int) (hn : xs.length ≤ 1000000) (hb : base ≤ w.heap.size) :
    ∃ v' w', (Builtin.append_ #[33, 33] 33 #[v, .slice (some ⟨w.heap.size, 0, none⟩) 1 1]).run Go.Proofs.Tryz.prog (w.alloc (.cells #[.int .i64 x] 3)) = .ok v' w' ∧ w'.ownsRow base 3 1 v' (xs ++ [x]).length (ints (xs ++ [x])) ∧ (∀ {w0 : World}, Ext w0 w → w0.heap.size ≤ base → Ext w0 w') ∧
      ∀ {b : Nat} {cs : List Value} {t : TypeId}, Bk w b cs t → t ≠ 3 → Bk w' b cs t := by
  obtain ⟨v', w', ha, hown', hg⟩ := append_own (P := Go.Proofs.Tryz.prog) (w := w.alloc (.cells #[.int .i64 x] 3)) (t := 33) (ty := 33) (z := .int .i64 0) (ats := [33, 33]) rfl telem_33 tok_3 tzero_3 (by rw [tsz_3]; rfl) (by rw [tsz_3]; omega)
    (by rw [tsz_3]; exact Own.ext hown (Ext.alloc _ _)) (a := ⟨w.heap.size, 0, none⟩) (m := 1) (c := 1) (news := [.int .i64 x]) (by rw [tsz_3]; rfl)
    (fun j u hj => by rw [Addr.add_lit, World.cell?_alloc_new]; simpa using hj) (fun u hu => by simp at hu; rw [hu]; rfl) (by unfold maxLen; omega) (by rw [tby_3]; omega) (by simp; omega)
  refine ⟨v', w', ha, ?_, fun h0 hb0 => (h0.trans (Ext.alloc _ _)).grown hg (fun k hk => Nat.le_trans hb0 (World.ownsRow.lt hown k hk).1), fun {b cs t} hk ht => ?_⟩
  · rw [tsz_3] at hown'
    rw [ints_app, List.length_append]
    exact hown'
  · have hl := hk.lt
    have hne : v.ownBlock ≠ some b := fun e => by
      rcases hown.2 with ⟨hv, _⟩ | ⟨g, cap, cur, hv, _, hh, _⟩
      · rw [hv] at e; cases e
      · rw [hv] at e
        simp only [Value.ownBlock,Option.some.injEq] at e
        subst e
        unfold Bk at hk
        rw [hk] at hh
        simp only [Option.some.injEq,Obj.cells.injEq] at hh
        exact ht hh.2.1
    unfold Bk
    rw [hg.block b (by rw [World.size_alloc]; omega) (fun e => hne e.symm), Below.heap_alloc _ _ _ hl]
    exact hk
end Go.Proofs.YthcdnjbhhaonhaaGreatDoor
/- Layer 02: a choice's text, and a format's, by the reference. -/
namespace Go.Proofs.YthcdnjbhhaonhaaGreatDoor
open Go.RowKit
set_option linter.unusedSimpArgs false
def spOf : By := [32, 111, 102, 32]
def shownB (c : Ch) : By := Lib.itoa c.d ++ if c.k = 1 then [] else spOf ++ restW c
def fldT (x : Fl) : By := 32 :: (keyW x.key ++ 61 :: shownB x.c)
section
variable {P : Program} {t : TypeId}
end
theorem SlI.cell {w : World} {p : Option Addr} {n cap k : Nat} {xs : List Int} (h : SlI w (.slice p n cap) xs) (hk : k < xs.length) : ∃ b o, p = some ⟨b, o, none⟩ ∧ w.cell? ⟨b, o + k, none⟩ = some (.int .i64 xs[k]) := by
  obtain ⟨b, o, cap', h1, _, _, h4⟩ := h.at (by intro h0; rw [h0] at hk; simp at hk)
  cases h1
  exact ⟨b, o, rfl, h4 k hk⟩
end Go.Proofs.YthcdnjbhhaonhaaGreatDoor
/- Layer 02: a format's text, by the reference. -/
namespace Go.Proofs.YthcdnjbhhaonhaaGreatDoor
open Go.RowKit
set_option linter.unusedSimpArgs false
end Go.Proofs.YthcdnjbhhaonhaaGreatDoor
/- Layer 02: a text read as a format, by the reference. -/
namespace Go.Proofs.YthcdnjbhhaonhaaGreatDoor
open Go.RowKit
set_option linter.unusedSimpArgs false
def ParR (s : By) (g : Fm) (c : Int) : Prop := if 65536 < s.length then g = ⟨0, []⟩ ∧ c = 3 else (g.valid = true ∧ txF g = s ∧ c = 0) ∨ ((∀ f : Fm, f.valid = true → txF f ≠ s) ∧ g = ⟨0, []⟩ ∧ c = 2)
theorem ParR.eq {s : By} {g g' : Fm} {c c' : Int} (h : ParR s g c) (h' : ParR s g' c') : g = g' ∧ c = c' := by
  unfold ParR at h h'
  split at h
  · rename_i hl
    rw [if_pos hl] at h'
    exact ⟨h.1.trans h'.1.symm, h.2.trans h'.2.symm⟩
  · rename_i hl
    rw [if_neg hl] at h'
    rcases h with ⟨h1, h2, h3⟩ | ⟨h1, h2, h3⟩
    · rcases h' with ⟨k1, k2, k3⟩ | ⟨k1, k2, k3⟩
      · have e1 := (text_back h1).1
        have e2 := (text_back k1).1
        rw [h2] at e1
        rw [k2] at e2
        exact ⟨e1.symm.trans e2, h3.trans k3.symm⟩
      · exact absurd h2 (k1 g h1)
    · rcases h' with ⟨k1, k2, k3⟩ | ⟨k1, k2, k3⟩
      · exact absurd k2 (h1 g' k1)
      · exact ⟨h2.trans k2.symm, h3.trans k3.symm⟩
def ParW (s : By) (w : World) (r : Value) (w' : World) : Prop := Ext w w' ∧ ∃ (g : Fm) (q : Option Addr) (n : Nat) (c : Int), r = .tuple #[.agg #[.int .i64 g.m, .slice q g.F.length n], .int .i64 c] ∧ SlF w' (.slice q g.F.length n) g.F ∧ ParR s g c
theorem bv_fmM (m : Int) : buildV Go.Proofs.Tryz.prog 24 [(0, .int .i64 m)] = some (.agg #[.int .i64 m, .slice none 0 0]) := by kernel_rfl
theorem bv_ch2 (k d : Int) : buildV Go.Proofs.Tryz.prog 35 [(0, .int .i64 k), (1, .int .i64 d)] = some (.agg #[.int .i64 k, .int .i64 d, .slice none 0 0]) := by kernel_rfl
theorem fput' {w : World} {b : Nat} {x0 x1 : Value} (h : Bk w b [x0, x1] 24) (m s : Value) : (∃ x, w.cell? ⟨b, 0, none⟩ = some x) ∧ w.frozen? ⟨b, 0, none⟩ = false ∧ (∃ x, (w.setCell ⟨b, 0, none⟩ m).cell? ⟨b, 1, none⟩ = some x) ∧ (w.setCell ⟨b, 0, none⟩ m).frozen? ⟨b, 1, none⟩ = false ∧
    Bk ((w.setCell ⟨b, 0, none⟩ m).setCell ⟨b, 1, none⟩ s) b [m, s] 24 ∧ ∀ {w0 : World}, Ext w0 w → w0.heap.size ≤ b → Ext w0 ((w.setCell ⟨b, 0, none⟩ m).setCell ⟨b, 1, none⟩ s) := by
  have h1 := h.set 0 m
  exact ⟨⟨x0, h.get rfl⟩, h.frozen 0, ⟨x1, h1.get rfl⟩, h1.frozen 1, h1.set 1 s, fun h hb => (h.setCell hb _).setCell hb _⟩
theorem set_row {w : World} {base b o : Nat} {v x : Value} {n : Nat} {cs : List Value} {ty : TypeId} {cs' : List Value} (h : w.ownsRow base 3 1 v n cs) (hk : Bk w b cs' ty) (ht : ty ≠ 3) : (w.setCell ⟨b, o, none⟩ x).ownsRow base 3 1 v n cs :=
  Own.ch h fun k cur hc => Below.heap_setCell _ _ _ _ (fun e => by
    have e : k = b := e
    unfold Bk at hk
    rw [e, hk] at hc
    simp only [Option.some.injEq,Obj.cells.injEq] at hc
    exact ht hc.2.1)
end Go.Proofs.YthcdnjbhhaonhaaGreatDoor
/- Layer 02: numbers and choices in texts, and a format's text, by the program. -/
namespace Go.Proofs.YthcdnjbhhaonhaaGreatDoor
open Go.RowKit
set_option linter.unusedSimpArgs false
theorem Rets.of {P : Program} {f : FuncId} {args : Array Value} {w : World} {Q : Value → World → Prop} {R : Ending → World → Prop} (h : Calls P f args w R) (hk : ∀ e w', R e w' → ∃ v, e = .returned v ∧ Q v w') : Rets P f args w Q := by
  unfold Rets; exact Calls.mono h hk
end Go.Proofs.YthcdnjbhhaonhaaGreatDoor
/- Layer 02: a format's text, by the program. -/
namespace Go.Proofs.YthcdnjbhhaonhaaGreatDoor
open Go.RowKit
set_option linter.unusedSimpArgs false
end Go.Proofs.YthcdnjbhhaonhaaGreatDoor
/- Layer 02: a choice read from words, by the program. -/
namespace Go.Proofs.YthcdnjbhhaonhaaGreatDoor
open Go.RowKit
set_option linter.unusedSimpArgs false
def ChoW (c : Ch) (w : World) (r : Value) (w' : World) : Prop := Ext w w' ∧ ∃ v, r = chV c v ∧ w'.ownsRow w.heap.size 3 1 v c.L.length (ints c.L)
end Go.Proofs.YthcdnjbhhaonhaaGreatDoor

/- Layer 02: changes of a few blocks; the fields of two formats side by side. -/
import Derived.Test.YthcdnjbhhaonhaaGreatDoorQvFoSpecToFoA
import Derived.Test.YthcdnjbhhaonhaaGreatDoorQvMwAt

namespace Go.Proofs.YthcdnjbhhaonhaaGreatDoor
open Go.RowKit
set_option linter.unusedSimpArgs false
structure ChP (G : Nat → Prop) (w w' : World) : Prop where
 os : w'.os = w.os
 tape : w'.tape = w.tape
 output : w'.output = w.output
 size : w.heap.size ≤ w'.heap.size
 block : ∀ k, k < w.heap.size → ¬ G k → w'.heap[k]? = w.heap[k]?
theorem ChP.refl (G : Nat → Prop) (w : World) : ChP G w w := ⟨rfl, rfl, rfl, Nat.le_refl _, fun _ _ _ => rfl⟩
theorem ChP.trans {G : Nat → Prop} {a b c : World} (h : ChP G a b) (k : ChP G b c) : ChP G a c :=
 ⟨k.os.trans h.os, k.tape.trans h.tape, k.output.trans h.output, Nat.le_trans h.size k.size, fun i hi hf => (k.block i (Nat.lt_of_lt_of_le hi h.size) hf).trans (h.block i hi hf)⟩
theorem ChP.mono {G H : Nat → Prop} {w w' : World} (h : ChP G w w') (hs : ∀ b, G b → H b) : ChP H w w' := ⟨h.os, h.tape, h.output, h.size, fun k hk hn => h.block k hk (fun hf => hn (hs k hf))⟩
theorem Ext.chp {G : Nat → Prop} {w w' : World} (h : Ext w w') : ChP G w w' := ⟨h.os, h.tape, h.output, h.size, fun k hk _ => h.block k hk⟩
theorem ChP.ext {G : Nat → Prop} {w0 w w' : World} (h : ChP G w w') (he : Ext w0 w) (hG : ∀ b, G b → w0.heap.size ≤ b) : Ext w0 w' :=
 Below.trans he ⟨h.os, h.tape, h.output, h.size, fun k hk => h.block k (Nat.lt_of_lt_of_le hk he.le) (fun hf => by have := hG k hf; omega)⟩
theorem ChP.bk {G : Nat → Prop} {w w' : World} {b : Nat} {cs : List Value} {t : TypeId} (h : ChP G w w') (hb : ¬ G b) (hk : Bk w b cs t) : Bk w' b cs t := by
 have hl := hk.lt
 unfold Bk at hk ⊢; rw [h.block b hl hb]; exact hk
theorem ChP.setCell {G : Nat → Prop} {w0 w : World} (h : ChP G w0 w) {b o : Nat} (hb : b < w0.heap.size → G b) (v : Value) : ChP G w0 (w.setCell ⟨b, o, none⟩ v) :=
 ⟨h.os, h.tape, h.output, by rw [show (w.setCell ⟨b, o, none⟩ v).heap.size = w.heap.size by simp [World.setCell]]; exact h.size, fun k hk hG => (Below.heap_setCell _ _ _ _ (fun e => hG (by subst e; exact hb hk))).trans (h.block k hk hG)⟩
theorem ChP.put {G : Nat → Prop} {w0 w : World} (h : ChP G w0 w) {b : Nat} (hb : b < w0.heap.size → G b) (o : Obj) : ChP G w0 (w.putObj b o) :=
 ⟨h.os, h.tape, h.output, by simpa using h.size, fun k hk hG => (World.putObj_heap_other (fun e => hG (by subst e; exact hb hk))).trans (h.block k hk hG)⟩
def hdP (A B : List Fl) : Option Fl := match A, B with
 | [], _ => none
 | x :: _, [] => some x
 | x :: _, y :: _ => if x.key ≤ y.key then some x else none
def tlP (A B : List Fl) : List Fl := if (hdP A B).isSome then A.tail else A
def PtF (w : World) (v : Value) : Option Fl → Prop
 | none => v = .pointer none
 | some f => ∃ b o, v = .pointer (some ⟨b, o, none⟩) ∧ FldAt w b o f
theorem PtF.ext {w w' : World} {v : Value} : ∀ {o : Option Fl}, PtF w v o → Ext w w' → PtF w' v o
 | none, h, _ => h
 | some _, ⟨b, o, h1, h2⟩, he => ⟨b, o, h1, h2.ext he⟩
def slen : Option Value → Nat
 | some (.slice _ n _) => n
 | _ => 0
def RoundB (J : List Fl → List Fl → World → Prop) (S : World → Prop) (T : List PanicEntry → World → Prop) (A B : List Fl) (ba bb : Nat) (w : World) (en : Ending) (w' : World) : Prop :=
 (en = .returned (.bool true) ∧ J (tlP A B) (tlP B A) w' ∧ w'.heap[ba]? = w.heap[ba]? ∧ w'.heap[bb]? = w.heap[bb]?) ∨ (en = .returned (.bool false) ∧ S w') ∨ ∃ ch, en = .panicked ch ∧ T ch w'
end Go.Proofs.YthcdnjbhhaonhaaGreatDoor

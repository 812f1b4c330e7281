/- Layer 02: changes of a few blocks; the fields of two formats side by side. -/
import Derived.Test.YthcdnjbhhaonhaaGreatDoorQtFoSpecToFoA
import Derived.Test.YthcdnjbhhaonhaaGreatDoorQtMwAt


namespace Go.Proofs.YthcdnjbhhaonhaaGreatDoor
open Go.RowKit
set_option linter.unusedSimpArgs false

/-- At most the blocks of G have turned; new memory may have come. -/
structure ChP (G : Nat → Prop) (w w' : World) : Prop where
  os : w'.os = w.os
  tape : w'.tape = w.tape
  output : w'.output = w.output
  size : w.heap.size ≤ w'.heap.size
  block : ∀ k, k < w.heap.size → ¬ G k → w'.heap[k]? = w.heap[k]?
theorem ChP.refl (G : Nat → Prop) (w : World) : ChP G w w := ⟨rfl, rfl, rfl, Nat.le_refl _, fun _ _ _ => rfl⟩
theorem ChP.trans {G : Nat → Prop} {a b c : World} (h : ChP G a b) (k : ChP G b c) : ChP G a c :=
  ⟨k.os.trans h.os, k.tape.trans h.tape, k.output.trans h.output, Nat.le_trans h.size k.size, fun i hi hf => (k.block i (Nat.lt_of_lt_of_le hi h.size) hf).trans (h.block i hi hf)⟩
theorem ChP.mono {G H : Nat → Prop} {w w' : World} (h : ChP G w w') (hs : ∀ b, G b → H b) : ChP H w w' := ⟨h.os, h.tape, h.output, h.size, fun k hk hn => h.block k hk (fun hf => hn (hs k hf))⟩
theorem Ext.chp {G : Nat → Prop} {w w' : World} (h : Ext w w') : ChP G w w' := ⟨h.os, h.tape, h.output, h.size, fun k hk _ => h.block k hk⟩
theorem ChP.ext {G : Nat → Prop} {w0 w w' : World} (h : ChP G w w') (he : Ext w0 w) (hG : ∀ b, G b → w0.heap.size ≤ b) : Ext w0 w' :=
  Below.trans he ⟨h.os, h.tape, h.output, h.size, fun k hk => h.block k (Nat.lt_of_lt_of_le hk he.le) (fun hf => by have := hG k hf; omega)⟩
theorem ChP.bk {G : Nat → Prop} {w w' : World} {b : Nat} {cs : List Value} {t : TypeId} (h : ChP G w w') (hb : ¬ G b) (hk : Bk w b cs t) : Bk w' b cs t := by
  have hl := hk.lt
  unfold Bk at hk ⊢; rw [h.block b hl hb]; exact hk
theorem ChP.setCell {G : Nat → Prop} {w0 w : World} (h : ChP G w0 w) {b o : Nat} (hb : b < w0.heap.size → G b) (v : Value) : ChP G w0 (w.setCell ⟨b, o, none⟩ v) :=
  ⟨h.os, h.tape, h.output, by rw [show (w.setCell ⟨b, o, none⟩ v).heap.size = w.heap.size by simp [World.setCell]]; exact h.size, fun k hk hG => (Below.heap_setCell _ _ _ _ (fun e => hG (by subst e; exact hb hk))).trans (h.block k hk hG)⟩
theorem ChP.put {G : Nat → Prop} {w0 w : World} (h : ChP G w0 w) {b : Nat} (hb : b < w0.heap.size → G b) (o : Obj) : ChP G w0 (w.putObj b o) :=
  ⟨h.os, h.tape, h.output, by simpa using h.size, fun k hk hG => (World.putObj_heap_other (fun e => hG (by subst e; exact hb hk))).trans (h.block k hk hG)⟩

/-! ### pairs -/
def hdP (A B : List Fl) : Option Fl := match A, B with
  | [], _ => none
  | x :: _, [] => some x
  | x :: _, y :: _ => if x.key ≤ y.key then some x else none
def tlP (A B : List Fl) : List Fl := if (hdP A B).isSome then A.tail else A
/-- A pointer to a field, or none. -/
def PtF (w : World) (v : Value) : Option Fl → Prop
  | none => v = .pointer none
  | some f => ∃ b o, v = .pointer (some ⟨b, o, none⟩) ∧ FldAt w b o f
theorem PtF.ext {w w' : World} {v : Value} : ∀ {o : Option Fl}, PtF w v o → Ext w w' → PtF w' v o
  | none, h, _ => h
  | some _, ⟨b, o, h1, h2⟩, he => ⟨b, o, h1, h2.ext he⟩
def slen : Option Value → Nat
  | some (.slice _ n _) => n
  | _ => 0
/-- What a round of the two leaves. -/
def RoundB (J : List Fl → List Fl → World → Prop) (S : World → Prop) (T : List PanicEntry → World → Prop) (A B : List Fl) (ba bb : Nat) (w : World) (en : Ending) (w' : World) : Prop :=
  (en = .returned (.bool true) ∧ J (tlP A B) (tlP B A) w' ∧ w'.heap[ba]? = w.heap[ba]? ∧ w'.heap[bb]? = w.heap[bb]?) ∨ (en = .returned (.bool false) ∧ S w') ∨ ∃ ch, en = .panicked ch ∧ T ch w'
end Go.Proofs.YthcdnjbhhaonhaaGreatDoor
/- Layer 02: the fields of two formats, told one by one. -/

namespace Go.Proofs.YthcdnjbhhaonhaaGreatDoor
open Go.RowKit
set_option linter.unusedSimpArgs false
set_option maxHeartbeats 1000000

end Go.Proofs.YthcdnjbhhaonhaaGreatDoor
/- Layer 02: package format's within. -/

namespace Go.Proofs.YthcdnjbhhaonhaaGreatDoor
open Go.RowKit
set_option linter.unusedSimpArgs false

end Go.Proofs.YthcdnjbhhaonhaaGreatDoor
/- Layer 02: which formats are valid. -/

namespace Go.Proofs.YthcdnjbhhaonhaaGreatDoor
open Go.RowKit
set_option linter.unusedSimpArgs false

/-- The key ahead of place k. -/
def pkey (F : List Fl) : Nat → Int
  | 0 => 0
  | k + 1 => match F[k]? with | some f => f.key | none => 0
theorem pkey_succ {F : List Fl} {k : Nat} (h : k < F.length) : pkey F (k + 1) = F[k].key := by simp [pkey, List.getElem?_eq_getElem h]
theorem fieldsB_drop {F : List Fl} {k : Nat} (h : k < F.length) : fieldsB (pkey F k) (F.drop k) = (decide (pkey F k < F[k].key) && (decide (F[k].key ≤ 6) && (F[k].c.valid && fieldsB (pkey F (k + 1)) (F.drop (k + 1))))) := by
  rw [List.drop_eq_getElem_cons h, pkey_succ h]; rfl
theorem Valid_c (f : Fm) (s : Value) (w : World) (hs : SlF w s f.F) : Rets Go.Proofs.Tryz.prog 43 #[fmV f s] w fun r w' => r = .bool f.valid ∧ Ext w w' := by
  have hx0 : Ext w (w.alloc (.cells #[.int .i64 f.m, s] 24)) := Ext.alloc _ _
  have hB : Bk (w.alloc (.cells #[.int .i64 f.m, s] 24)) w.heap.size [.int .i64 f.m, s] 24 := Bk.new _ _ _
  obtain ⟨p, cap, rfl, hc1, hc2⟩ := hs.shape
  refine en43 ?_
  simp -dsimp -implicitDefEqProofs only [fmV, m43, sF43, Nat.reduceEqDiff, ↓reduceIte, Nat.reduceAdd, Nat.reduceMul, Value.cells, Value.oneCell', eq_self, ne_eq, Int.reduceToNat, Int.reduceEq, Int.reduceLT, Int.reduceLE, Int.reduceNeg, if_true, if_false, reduceCtorEq, Nat.reduceSub, storeV_ptr, slcV_slice, ↓mwD, mwU]
  generalize w.alloc (.cells #[.int .i64 f.m, .slice p f.F.length cap] 24) = w1 at *
  have b0 := hB.get (o := 0) rfl
  have b1 := hB.get (o := 1) rfl
  refine mwpB_loop (fun e ds w' => ∃ k : Nat, k ≤ f.F.length ∧ e 8 = .int .i64 k ∧ e 7 = .int .i64 f.F.length ∧ e 6 = .slice p f.F.length cap ∧ e 1 = .pointer (some ⟨w.heap.size, 0, none⟩) ∧ ds = [] ∧ Ext w1 w' ∧ 0 ≤ pkey f.F k ∧ fieldsB 0 f.F = fieldsB (pkey f.F k) (f.F.drop k))
    (fun e _ => f.F.length - (intOf (e 8)).toNat) ?_ ?_
  · simp -dsimp -implicitDefEqProofs only [b0, b1, m43, sF43, Nat.reduceEqDiff, ↓reduceIte, Nat.reduceAdd, Nat.reduceMul, Value.cells, Value.oneCell', eq_self, ne_eq, Int.reduceToNat, Int.reduceEq, Int.reduceLT, Int.reduceLE, Int.reduceNeg, if_true, if_false, reduceCtorEq, Nat.reduceSub, storeV_ptr, slcV_slice, ↓mwD, mwU]
    exact ⟨0, by omega, rfl, Ext.refl _, by simp [pkey], rfl⟩
  · rintro e ds w' ⟨k, hk, h8, h7, h6, h1, rfl, hx, hpk, hF⟩
    simp -dsimp -implicitDefEqProofs only [h8, h7, h6, h1, m43, sF43, Nat.reduceEqDiff, ↓reduceIte, Nat.reduceAdd, Nat.reduceMul, Value.cells, Value.oneCell', eq_self, ne_eq, Int.reduceToNat, Int.reduceEq, Int.reduceLT, Int.reduceLE, Int.reduceNeg, if_true, if_false, reduceCtorEq, Nat.reduceSub, storeV_ptr, slcV_slice, ↓mwD, mwU]
    have hB' := hB.ext hx
    refine iteW_dec (fun hlt => ?_) (fun hge => ?_)
    · have hlt' : k < f.F.length := by omega
      obtain ⟨b, o, rfl, hfs⟩ := (hs.ext (hx0.trans hx)).at (by intro h0; rw [h0] at hlt'; simp at hlt')
      obtain ⟨sk, q0, q1, q2, q3, hsk⟩ := hfs.get hlt'
      have hb1 : (0 : Int) ≤ k ∧ (k : Int) < f.F.length := by omega
      have hw := w64_succ hlt' (Nat.le_trans hc1 hc2)
      rw [fieldsB_drop hlt'] at hF
      obtain ⟨ps, cs, rfl, _, _⟩ := hsk.shape
      have hC : Bk (w'.alloc (.cells #[.int .i64 f.F[k].key, .int .i64 f.F[k].c.k, .int .i64 f.F[k].c.d, .slice ps f.F[k].c.L.length cs] 72)) w'.heap.size [.int .i64 f.F[k].key, .int .i64 f.F[k].c.k, .int .i64 f.F[k].c.d, .slice ps f.F[k].c.L.length cs] 72 := Bk.new _ _ _
      have hxC : Ext w' (w'.alloc (.cells #[.int .i64 f.F[k].key, .int .i64 f.F[k].c.k, .int .i64 f.F[k].c.d, .slice ps f.F[k].c.L.length cs] 72)) := Ext.alloc _ _
      simp -dsimp -implicitDefEqProofs only [h8, h7, h6, h1, hb1, and_self, q0, q1, q2, q3, Nat.mul_comm k 4, m43, sF43, Nat.reduceEqDiff, ↓reduceIte, Nat.reduceAdd, Nat.reduceMul, Value.cells, Value.oneCell', eq_self, ne_eq, Int.reduceToNat, Int.reduceEq, Int.reduceLT, Int.reduceLE, Int.reduceNeg, if_true, if_false, reduceCtorEq, Nat.reduceSub, storeV_ptr, slcV_slice, ↓mwD, mwU]
      generalize w'.alloc _ = W2 at *
      have hxW := hx.trans hxC
      have c0 := hC.get (o := 0) rfl
      have c1 := hC.get (o := 1) rfl
      have c2 := hC.get (o := 2) rfl
      have c3 := hC.get (o := 3) rfl
      have d1 := (hB'.ext hxC).get (o := 1) rfl
      have hxd := hxW.trans (Ext.drew W2)
      refine mwpB_drawE ?_
      by_cases t1 : f.F[k].key < 1
      · simp -dsimp -implicitDefEqProofs only [h8, h7, h6, h1, c0, t1, m43, sF43, Nat.reduceEqDiff, ↓reduceIte, Nat.reduceAdd, Nat.reduceMul, Value.cells, Value.oneCell', eq_self, ne_eq, Int.reduceToNat, Int.reduceEq, Int.reduceLT, Int.reduceLE, Int.reduceNeg, if_true, if_false, reduceCtorEq, Nat.reduceSub, storeV_ptr, slcV_slice, ↓mwD, mwU]
        have : ¬ pkey f.F k < f.F[k].key := by omega
        exact ⟨by unfold Fm.valid; rw [hF]; simp [this], hx0.trans hxd⟩
      by_cases t2 : 6 < f.F[k].key
      · simp -dsimp -implicitDefEqProofs only [h8, h7, h6, h1, c0, t1, t2, m43, sF43, Nat.reduceEqDiff, ↓reduceIte, Nat.reduceAdd, Nat.reduceMul, Value.cells, Value.oneCell', eq_self, ne_eq, Int.reduceToNat, Int.reduceEq, Int.reduceLT, Int.reduceLE, Int.reduceNeg, if_true, if_false, reduceCtorEq, Nat.reduceSub, storeV_ptr, slcV_slice, ↓mwD, mwU]
        have : ¬ f.F[k].key ≤ 6 := by omega
        exact ⟨by unfold Fm.valid; rw [hF]; simp [this], hx0.trans hxd⟩
      have e2 : f.F[k].key ≤ 6 := by omega
      have fin : ∀ {w3 : World}, Ext W2.drew w3 → Ext w w3 := fun h => (hx0.trans hxd).trans h
      have next : pkey f.F k < f.F[k].key → f.F[k].c.valid = true → 0 ≤ pkey f.F (k + 1) ∧ fieldsB 0 f.F = fieldsB (pkey f.F (k + 1)) (f.F.drop (k + 1)) := fun h h' => by
        refine ⟨by rw [pkey_succ hlt']; omega, ?_⟩
        rw [hF, h']; simp [h, e2]
      rcases Nat.eq_zero_or_pos k with h0 | h0
      · have z : ¬ (0 : Int) < (k : Int) := by omega
        have hp : pkey f.F k < f.F[k].key := by
          have : pkey f.F k = 0 := by rw [h0]; rfl
          omega
        simp -dsimp -implicitDefEqProofs only [h8, h7, h6, h1, c0, c1, c2, c3, t1, t2, z, m43, sF43, Nat.reduceEqDiff, ↓reduceIte, Nat.reduceAdd, Nat.reduceMul, Value.cells, Value.oneCell', eq_self, ne_eq, Int.reduceToNat, Int.reduceEq, Int.reduceLT, Int.reduceLE, Int.reduceNeg, if_true, if_false, reduceCtorEq, Nat.reduceSub, storeV_ptr, slcV_slice, ↓mwD, mwU]
        refine (ValidChoice_c f.F[k].c _ W2.drew ((hsk.ext hxC).ext (Ext.drew _))).use ?_
        rintro r w3 ⟨rfl, h3⟩
        cases hv : f.F[k].c.valid
        · simp -dsimp -implicitDefEqProofs only [h3, m43, sF43, Nat.reduceEqDiff, ↓reduceIte, Nat.reduceAdd, Nat.reduceMul, Value.cells, Value.oneCell', eq_self, ne_eq, Int.reduceToNat, Int.reduceEq, Int.reduceLT, Int.reduceLE, Int.reduceNeg, if_true, if_false, reduceCtorEq, Nat.reduceSub, storeV_ptr, slcV_slice, ↓mwD, mwU]
          exact ⟨by unfold Fm.valid; rw [hF, hv]; simp, fin h3⟩
        · simp -dsimp -implicitDefEqProofs only [h3, h8, h7, h6, h1, hw, m43, sF43, Nat.reduceEqDiff, ↓reduceIte, Nat.reduceAdd, Nat.reduceMul, Value.cells, Value.oneCell', eq_self, ne_eq, Int.reduceToNat, Int.reduceEq, Int.reduceLT, Int.reduceLE, Int.reduceNeg, if_true, if_false, reduceCtorEq, Nat.reduceSub, storeV_ptr, slcV_slice, ↓mwD, mwU]
          exact ⟨⟨k + 1, by omega, rfl, hxd.trans h3, next hp hv⟩, by simp only [intOf]; omega⟩
      · have z : (0 : Int) < (k : Int) := by omega
        have hk1 : k - 1 < f.F.length := by omega
        obtain ⟨sp, p0, _⟩ := ((hfs.ext hxC).ext (Ext.drew _)).get hk1
        have e3 : pkey f.F k = f.F[k - 1].key := by
          have := pkey_succ hk1
          rw [show k - 1 + 1 = k by omega] at this
          exact this
        have hw3 : IntKind.i64.wrap ((k : Int) - 1) = ((k - 1 : Nat) : Int) := by rw [w64 (by omega) (by unfold maxLen at hc2; omega)]; omega
        have hb3 : (0 : Int) ≤ ((k - 1 : Nat) : Int) ∧ ((k - 1 : Nat) : Int) < f.F.length := by omega
        by_cases t4 : f.F[k].key ≤ f.F[k - 1].key
        · simp -dsimp -implicitDefEqProofs only [h8, h7, h6, h1, c0, c1, c2, c3, d1, t1, t2, z, hw3, hb3, and_self, p0, Nat.mul_comm (k - 1) 4, t4, m43, sF43, Nat.reduceEqDiff, ↓reduceIte, Nat.reduceAdd, Nat.reduceMul, Value.cells, Value.oneCell', eq_self, ne_eq, Int.reduceToNat, Int.reduceEq, Int.reduceLT, Int.reduceLE, Int.reduceNeg, if_true, if_false, reduceCtorEq, Nat.reduceSub, storeV_ptr, slcV_slice, ↓mwD, mwU]
          have : ¬ pkey f.F k < f.F[k].key := by omega
          exact ⟨by unfold Fm.valid; rw [hF]; simp [this], hx0.trans hxd⟩
        · have hp : pkey f.F k < f.F[k].key := by omega
          simp -dsimp -implicitDefEqProofs only [h8, h7, h6, h1, c0, c1, c2, c3, t1, t2, d1, z, hw3, hb3, and_self, p0, Nat.mul_comm (k - 1) 4, t4, m43, sF43, Nat.reduceEqDiff, ↓reduceIte, Nat.reduceAdd, Nat.reduceMul, Value.cells, Value.oneCell', eq_self, ne_eq, Int.reduceToNat, Int.reduceEq, Int.reduceLT, Int.reduceLE, Int.reduceNeg, if_true, if_false, reduceCtorEq, Nat.reduceSub, storeV_ptr, slcV_slice, ↓mwD, mwU]
          refine (ValidChoice_c f.F[k].c _ W2.drew ((hsk.ext hxC).ext (Ext.drew _))).use ?_
          rintro r w3 ⟨rfl, h3⟩
          cases hv : f.F[k].c.valid
          · simp -dsimp -implicitDefEqProofs only [h3, m43, sF43, Nat.reduceEqDiff, ↓reduceIte, Nat.reduceAdd, Nat.reduceMul, Value.cells, Value.oneCell', eq_self, ne_eq, Int.reduceToNat, Int.reduceEq, Int.reduceLT, Int.reduceLE, Int.reduceNeg, if_true, if_false, reduceCtorEq, Nat.reduceSub, storeV_ptr, slcV_slice, ↓mwD, mwU]
            exact ⟨by unfold Fm.valid; rw [hF, hv]; simp, fin h3⟩
          · simp -dsimp -implicitDefEqProofs only [h3, h8, h7, h6, h1, hw, m43, sF43, Nat.reduceEqDiff, ↓reduceIte, Nat.reduceAdd, Nat.reduceMul, Value.cells, Value.oneCell', eq_self, ne_eq, Int.reduceToNat, Int.reduceEq, Int.reduceLT, Int.reduceLE, Int.reduceNeg, if_true, if_false, reduceCtorEq, Nat.reduceSub, storeV_ptr, slcV_slice, ↓mwD, mwU]
            exact ⟨⟨k + 1, by omega, rfl, hxd.trans h3, next hp hv⟩, by simp only [intOf]; omega⟩
    · have hkl : k = f.F.length := by omega
      subst hkl
      rw [List.drop_length] at hF
      have d0 := hB'.get (o := 0) rfl
      have hv : f.valid = (decide (1 ≤ f.m) && decide (f.m ≤ 3)) := by unfold Fm.valid; rw [hF]; rfl
      rw [hv]
      by_cases t1 : 1 ≤ f.m
      · simp -dsimp -implicitDefEqProofs only [h8, h7, h6, h1, d0, t1, m43, sF43, Nat.reduceEqDiff, ↓reduceIte, Nat.reduceAdd, Nat.reduceMul, Value.cells, Value.oneCell', eq_self, ne_eq, Int.reduceToNat, Int.reduceEq, Int.reduceLT, Int.reduceLE, Int.reduceNeg, if_true, if_false, reduceCtorEq, Nat.reduceSub, storeV_ptr, slcV_slice, ↓mwD, mwU]
        exact ⟨by simp [t1], hx0.trans hx⟩
      · simp -dsimp -implicitDefEqProofs only [h8, h7, h6, h1, d0, t1, m43, sF43, Nat.reduceEqDiff, ↓reduceIte, Nat.reduceAdd, Nat.reduceMul, Value.cells, Value.oneCell', eq_self, ne_eq, Int.reduceToNat, Int.reduceEq, Int.reduceLT, Int.reduceLE, Int.reduceNeg, if_true, if_false, reduceCtorEq, Nat.reduceSub, storeV_ptr, slcV_slice, ↓mwD, mwU]
        exact ⟨by simp [t1], hx0.trans hx⟩
end Go.Proofs.YthcdnjbhhaonhaaGreatDoor

/- Hosts: lists of objects in memory, each with blocks of its own. -/
import Derived.Test.YtefcfnmmpnjjjaaEffK
namespace Go.Proofs.Ytefcfnmmpnjjjaa
open Go.RowKit
set_option linter.unusedSimpArgs false

/-- Only the blocks of G have turned, and none has come. -/
structure FrP (G : Nat → Prop) (w w' : World) : Prop where
  os : w'.os = w.os
  tape : w'.tape = w.tape
  output : w'.output = w.output
  size : w'.heap.size = w.heap.size
  block : ∀ k, ¬ G k → w'.heap[k]? = w.heap[k]?

theorem FrP.refl (G : Nat → Prop) (w : World) : FrP G w w := ⟨rfl, rfl, rfl, rfl, fun _ _ => rfl⟩
theorem FrP.trans {G : Nat → Prop} {a b c : World} (h : FrP G a b) (k : FrP G b c) : FrP G a c :=
  ⟨k.os.trans h.os, k.tape.trans h.tape, k.output.trans h.output, k.size.trans h.size, fun i hi => (k.block i hi).trans (h.block i hi)⟩
theorem FrP.mono {G H : Nat → Prop} {w w' : World} (h : FrP G w w') (hs : ∀ b, G b → H b) : FrP H w w' := ⟨h.os, h.tape, h.output, h.size, fun k hk => h.block k (fun hf => hk (hs k hf))⟩
theorem FrP.bk {G : Nat → Prop} {w w' : World} {b : Nat} {cs : List Value} {t : TypeId} (h : FrP G w w') (hb : ¬ G b) (hk : Bk w b cs t) : Bk w' b cs t := by unfold Bk at hk ⊢; rw [h.block b hb]; exact hk
theorem FrP.sl {G : Nat → Prop} {w w' : World} {v : Value} {cs : List Value} (h : FrP G w w') (hp : cs ≠ [] → ∀ p, v.ownBlock = some p → ¬ G p) (hs : Sl w v cs) : Sl w' v cs := by
  rcases hs with hs | ⟨b, o, cap, rfl, h2, h3, h4⟩
  · exact .inl hs
  · refine .inr ⟨b, o, cap, rfl, h2, h3, fun k u hk => ?_⟩
    rw [World.cell?_of_block (w := w) (h.block b (hp (by rintro rfl; simp at hk) b rfl))]
    exact h4 k u hk
theorem FrP.hist {G : Nat → Prop} {w w' : World} {b o r : Nat} {l : List Int} {cs : List Value} {t : TypeId} (h : FrP G w w') (hb : ¬ G b) (hr : ¬ G r) (hh : Hist w b o r l cs t) : Hist w' b o r l cs t := by
  exact hh.of (h.bk hb hh.bk) rfl rfl fun _ => h.block r hr
theorem Fr.frp {F : List Nat} {G : Nat → Prop} {w w' : World} (h : Fr F w w') (hs : ∀ b ∈ F, G b) : FrP G w w' := ⟨h.os, h.tape, h.output, h.size, fun k hk => h.block k (fun hf => hk (hs k hf))⟩

/-- At most the blocks of G have turned; new memory may have come. -/
structure ChP (G : Nat → Prop) (w w' : World) : Prop where
  os : w'.os = w.os
  tape : w'.tape = w.tape
  output : w'.output = w.output
  size : w.heap.size ≤ w'.heap.size
  block : ∀ k, k < w.heap.size → ¬ G k → w'.heap[k]? = w.heap[k]?
theorem ChP.refl (G : Nat → Prop) (w : World) : ChP G w w := ⟨rfl, rfl, rfl, Nat.le_refl _, fun _ _ _ => rfl⟩
theorem ChP.trans {G : Nat → Prop} {a b c : World} (h : ChP G a b) (k : ChP G b c) : ChP G a c :=
  ⟨k.os.trans h.os, k.tape.trans h.tape, k.output.trans h.output, Nat.le_trans h.size k.size, fun i hi hf => (k.block i (Nat.lt_of_lt_of_le hi h.size) hf).trans (h.block i hi hf)⟩
theorem ChP.mono {G H : Nat → Prop} {w w' : World} (h : ChP G w w') (hs : ∀ b, G b → H b) : ChP H w w' := ⟨h.os, h.tape, h.output, h.size, fun k hk hn => h.block k hk (fun hf => hn (hs k hf))⟩
theorem FrP.chp {G : Nat → Prop} {w w' : World} (h : FrP G w w') : ChP G w w' := ⟨h.os, h.tape, h.output, Nat.le_of_eq h.size.symm, fun k _ hk => h.block k hk⟩
theorem Ext.chp {G : Nat → Prop} {w w' : World} (h : Ext w w') : ChP G w w' := ⟨h.os, h.tape, h.output, h.size, fun k hk _ => h.block k hk⟩
theorem ChP.ext {G : Nat → Prop} {w0 w w' : World} (h : ChP G w w') (he : Ext w0 w) (hG : ∀ b, G b → w0.heap.size ≤ b) : Ext w0 w' :=
  Below.trans he ⟨h.os, h.tape, h.output, h.size, fun k hk => h.block k (Nat.lt_of_lt_of_le hk he.le) (fun hf => by have := hG k hf; omega)⟩
theorem ChP.bk {G : Nat → Prop} {w w' : World} {b : Nat} {cs : List Value} {t : TypeId} (h : ChP G w w') (hb : ¬ G b) (hk : Bk w b cs t) : Bk w' b cs t := by
  have hl := hk.lt
  unfold Bk at hk ⊢; rw [h.block b hl hb]; exact hk
theorem ChP.cell {G : Nat → Prop} {w w' : World} (h : ChP G w w') {a : Addr} (hb : ¬ G a.block) {v : Value} (hc : w.cell? a = some v) : w'.cell? a = some v := by
  rw [World.cell?_of_block (w := w) (h.block a.block (World.block_lt_of_cell? w a hc) hb)]; exact hc
theorem ChP.grown {G : Nat → Prop} {w0 w w' : World} {row : Option Nat} (h : ChP G w0 w) (hg : w.grownBy w' row) (hr : ∀ k, row = some k → w0.heap.size ≤ k) : ChP G w0 w' :=
  ⟨hg.os.trans h.os, hg.tape.trans h.tape, hg.output.trans h.output, Nat.le_trans h.size hg.size, fun k hk hf =>
    (hg.block k (Nat.lt_of_lt_of_le hk h.size) (fun e => by have := hr k e.symm; omega)).trans (h.block k hk hf)⟩

/-- The blocks of G are as they were. -/
def Same (G : Nat → Prop) (w w' : World) : Prop := ∀ b, G b → w'.heap[b]? = w.heap[b]?
theorem Bk.same {w w' : World} {b : Nat} {cs : List Value} {t : TypeId} {G : Nat → Prop} (h : Bk w b cs t) (hs : Same G w w') (hb : G b) : Bk w' b cs t := by unfold Bk at h ⊢; rw [hs b hb]; exact h
theorem Sl.same {w w' : World} {v : Value} {cs : List Value} {G : Nat → Prop} (h : Sl w v cs) (hs : Same G w w') (hp : cs ≠ [] → ∀ p, v.ownBlock = some p → G p) : Sl w' v cs := by
  rcases h with h | ⟨b, o, cap, rfl, h2, h3, h4⟩
  · exact .inl h
  · refine .inr ⟨b, o, cap, rfl, h2, h3, fun k u hk => ?_⟩
    rw [World.cell?_of_block (w := w) (hs b (hp (by rintro rfl; simp at hk) b rfl))]
    exact h4 k u hk
theorem Hist.same {w w' : World} {b o r : Nat} {l : List Int} {cs : List Value} {t : TypeId} {G : Nat → Prop} (h : Hist w b o r l cs t) (hs : Same G w w') (hb : G b) (hr : G r) : Hist w' b o r l cs t := by
  exact h.of (h.bk.same hs hb) rfl rfl fun _ => hs r hr

/-! ### Objects side by side -/
def Objs {α : Type} (R : World → Value → (Nat → Prop) → α → Prop) (w : World) (vs : List Value) (Gf : Nat → Nat → Prop) (ss : List α) : Prop :=
  vs.length = ss.length ∧ (∀ i v s, vs[i]? = some v → ss[i]? = some s → R w v (Gf i) s) ∧ ∀ i j b, i < vs.length → j < vs.length → i ≠ j → Gf i b → ¬ Gf j b

/-- R speaks of the blocks of its own alone. -/
def Local {α : Type} (R : World → Value → (Nat → Prop) → α → Prop) : Prop := ∀ w w' v G s, R w v G s → Same G w w' → R w' v G s

section
variable {α : Type} {R : World → Value → (Nat → Prop) → α → Prop} {w w' : World} {vs : List Value} {Gf : Nat → Nat → Prop} {ss : List α}
theorem Objs.same (hR : Local R) (h : Objs R w vs Gf ss) (hs : ∀ i, i < vs.length → Same (Gf i) w w') : Objs R w' vs Gf ss :=
  ⟨h.1, fun i v s hv hss => hR _ _ _ _ _ (h.2.1 i v s hv hss) (hs i (List.getElem?_eq_some_iff.1 hv).1), h.2.2⟩
theorem Objs.update (hR : Local R) (h : Objs R w vs Gf ss) {i : Nat} {v : Value} {s' : α} (hv : vs[i]? = some v) (hf : FrP (Gf i) w w') (hn : R w' v (Gf i) s') : Objs R w' vs Gf (ss.set i s') := by
  refine ⟨by simp [h.1], fun j u s hu hs => ?_, h.2.2⟩
  have hi := (List.getElem?_eq_some_iff.1 hv).1
  have hj := (List.getElem?_eq_some_iff.1 hu).1
  by_cases hij : i = j
  · subst hij
    rw [List.getElem?_set] at hs
    simp only [if_true] at hs
    split at hs
    · cases hs
      rw [hv] at hu; cases hu
      exact hn
    · cases hs
  · rw [List.getElem?_set_ne hij] at hs
    exact hR _ _ _ _ _ (h.2.1 j u s hu hs) fun b hb => hf.block b (fun hb' => h.2.2 i j b hi hj hij hb' hb)
theorem Objs.nil (w : World) (Gf : Nat → Nat → Prop) : Objs R w [] Gf [] := ⟨rfl, fun i v s h => by simp at h, fun i j b h => by simp at h⟩
theorem Objs.snoc (h : Objs R w vs Gf ss) {v : Value} {s : α} {G : Nat → Prop} (hn : R w v G s) (hd : ∀ i b, i < vs.length → Gf i b → ¬ G b) : Objs R w (vs ++ [v]) (fun i => if i = vs.length then G else Gf i) (ss ++ [s]) := by
  have hl0 := h.1
  refine ⟨by simp [h.1], fun j u t hu ht => ?_, fun i j b hi hj hij hb => ?_⟩
  · by_cases hj : j = vs.length
    · subst hj
      simp only [if_true]
      rw [List.getElem?_append_right (Nat.le_refl _)] at hu
      rw [List.getElem?_append_right (by omega)] at ht
      simp [h.1] at hu ht
      subst hu ht
      exact hn
    · have hl : j < vs.length := by
        have := (List.getElem?_eq_some_iff.1 hu).1
        simp at this; omega
      simp only [hj, if_false]
      rw [List.getElem?_append_left hl] at hu
      rw [List.getElem?_append_left (by omega)] at ht
      exact h.2.1 j u t hu ht
  · simp at hi hj
    by_cases h1 : i = vs.length
    · have h2 : j ≠ vs.length := by omega
      simp only [h1, if_true, h2, if_false] at hb ⊢
      exact fun hg => hd j b (by omega) hg hb
    · by_cases h2 : j = vs.length
      · simp only [h1, if_false, h2, if_true] at hb ⊢
        exact hd i b (by omega) hb
      · simp only [h1, h2, if_false] at hb ⊢
        exact h.2.2 i j b (by omega) (by omega) hij hb
end

/-- What a unit in a host is: its state, and of which effect it is. -/
structure UX where
  s : US
  k : Int
  A : List Int
  T : List Int

def UX.step (x : UX) (y : Int) : UX := ⟨(stepU x.s y).1, x.k, x.A, x.T⟩

/-- A unit, all its blocks in G. -/
def UnitIn (w : World) (v : Value) (G : Nat → Prop) (x : UX) : Prop :=
  ∃ F b cs wk a t, v = .pointer (some ⟨b, 0, none⟩) ∧ Bk w b cs 84 ∧ b ∉ F ∧ cs[0]? = some wk ∧ cs[1]? = some (.int .i64 x.k) ∧ cs[2]? = some a ∧ cs[3]? = some t ∧ WorkAt w wk F x.s ∧ SlI w a x.A ∧ SlI w t x.T ∧
    (x.A ≠ [] → ∀ q, a.ownBlock = some q → q ∉ F ∧ G q) ∧ (x.T ≠ [] → ∀ q, t.ownBlock = some q → q ∉ F ∧ G q) ∧ G b ∧ ∀ q ∈ F, G q

theorem UnitIn.local_ : Local UnitIn := by
  rintro w w' v G x ⟨F, b, cs, wk, a, t, rfl, hb, hbF, h0, h1, h2, h3, hwk, ha, ht, da, dt, gb, gF⟩ hs
  exact ⟨F, b, cs, wk, a, t, rfl, hb.same hs gb, hbF, h0, h1, h2, h3, hwk.same (fun q hq => hs q (gF q hq)), Sl.same ha hs (fun hne q hq => (da (by simpa [ints] using hne) q hq).2), Sl.same ht hs (fun hne q hq => (dt (by simpa [ints] using hne) q hq).2), da, dt, gb, gF⟩

/-- A step of a unit in a host. -/
theorem unitIn_step {w : World} {v : Value} {G : Nat → Prop} {x : UX} {y : Int} (h : UnitIn w v G x) (hs : x.s.ok) (hy : Smp y) :
    ∃ b ti p f, v = .pointer (some ⟨b, 0, none⟩) ∧ w.cell? ⟨b, 0, none⟩ = some (.iface ti p) ∧ methB Go.Proofs.Try.prog ti "continuo/effect.step" = some f ∧ okF Go.Proofs.Try.prog f = true ∧
      Rets Go.Proofs.Try.prog f #[p, .int .i64 y] w fun r w' => r = .int .i64 (stepU x.s y).2 ∧ UnitIn w' v G (x.step y) ∧ FrP G w w' := by
  obtain ⟨F, b, cs, wk, a, t, rfl, hb, hbF, h0, h1, h2, h3, hwk, ha, ht, da, dt, gb, gF⟩ := h
  obtain ⟨ti, p, f, rfl, hme, hof, hst⟩ := step_any hwk hs hy
  refine ⟨b, ti, p, f, rfl, hb.get h0, hme, hof, hst.mono ?_⟩
  rintro r w' ⟨hr, hw', hf⟩
  have hch := hf.ch
  refine ⟨hr, ⟨F, b, cs, _, a, t, rfl, hf.bk hbF hb, hbF, h0, h1, h2, h3, hw', ?_, ?_, da, dt, gb, gF⟩, hf.frp gF⟩
  · by_cases hA : x.A = []
    · show SlI w' a x.A
      have ha' : SlI w a x.A := ha
      rw [hA] at ha' ⊢
      rcases ha' with h | ⟨b', o', c', e, h1, h2, h3⟩
      · exact .inl h
      · exact .inr ⟨b', o', c', e, h1, h2, fun k u hk => by simp [ints] at hk⟩
    · exact Sl.ch ha hch (fun q hq => (da hA q hq).1)
  · by_cases hT : x.T = []
    · show SlI w' t x.T
      have ht' : SlI w t x.T := ht
      rw [hT] at ht' ⊢
      rcases ht' with h | ⟨b', o', c', e, h1, h2, h3⟩
      · exact .inl h
      · exact .inr ⟨b', o', c', e, h1, h2, fun k u hk => by simp [ints] at hk⟩
    · exact Sl.ch ht hch (fun q hq => (dt hT q hq).1)

/-- A lane: its own history, its units. -/
structure LX where
  h : List Int
  us : List UX

def LaneIn (w : World) (v : Value) (G : Nat → Prop) (x : LX) : Prop :=
  ∃ b r cs up vs Gf, v = .pointer (some ⟨b, 0, none⟩) ∧ Hist w b 0 r x.h cs 79 ∧ cs[2]? = some up ∧ Sl w up vs ∧ Objs UnitIn w vs Gf x.us ∧
    (∀ i, i < vs.length → ¬ Gf i b ∧ ¬ Gf i r) ∧ (vs ≠ [] → ∀ q, up.ownBlock = some q → q ≠ b ∧ q ≠ r ∧ G q ∧ ∀ i, i < vs.length → ¬ Gf i q) ∧ G b ∧ G r ∧ ∀ i, i < vs.length → ∀ q, Gf i q → G q

theorem LaneIn.local_ : Local LaneIn := by
  rintro w w' v G x ⟨b, r, cs, up, vs, Gf, rfl, hh, hu, hup, ho, d1, d2, gb, gr, gG⟩ hs
  exact ⟨b, r, cs, up, vs, Gf, rfl, hh.same hs gb gr, hu, Sl.same hup hs (fun hne q hq => (d2 hne q hq).2.2.1), ho.same UnitIn.local_ (fun i hi q hq => hs q (gG i hi q hq)), d1, d2, gb, gr, gG⟩

/-- A sample through a lane's units. -/
def runUs : List UX → Int → List UX × Int
  | [], y => ([], y)
  | x :: us, y => (x.step y :: (runUs us (stepU x.s y).2).1, (runUs us (stepU x.s y).2).2)
theorem runUs_length : ∀ (us : List UX) (y : Int), (runUs us y).1.length = us.length
  | [], _ => rfl
  | x :: us, y => by simp [runUs, runUs_length us]
theorem runUs_snoc : ∀ (us : List UX) (x : UX) (y : Int), runUs (us ++ [x]) y = ((runUs us y).1 ++ [x.step (runUs us y).2], (stepU x.s (runUs us y).2).2)
  | [], x, y => rfl
  | z :: us, x, y => by simp [runUs, runUs_snoc us]
theorem runUs_ok : ∀ (us : List UX) (y : Int), (∀ x ∈ us, x.s.ok) → Smp y → (∀ x ∈ (runUs us y).1, x.s.ok) ∧ Smp (runUs us y).2
  | [], y, _, hy => ⟨(fun x hx => by cases hx), hy⟩
  | z :: us, y, h, hy => by
    have h1 := stepU_ok (h z (by simp)) hy
    have h2 := runUs_ok us _ (fun x hx => h x (by simp [hx])) h1.2
    refine ⟨fun x hx => ?_, h2.2⟩
    rcases List.mem_cons.1 hx with rfl | hx
    · exact h1.1
    · exact h2.1 x hx

/-- A sample through a lane. -/
def runL (x : LX) (y : Int) : LX × Int := ({ h := pushL x.h y, us := (runUs x.us (keptI x.h y)).1 }, (runUs x.us (keptI x.h y)).2)
def LX.ok (x : LX) : Prop := Smps x.h ∧ ∀ u ∈ x.us, u.s.ok
theorem runL_ok {x : LX} (h : x.ok) {y : Int} (hy : Smp y) : (runL x y).1.ok ∧ Smp (runL x y).2 := by
  have h1 := runUs_ok x.us _ h.2 (h.1.kept hy)
  exact ⟨⟨h.1.push hy, h1.1⟩, h1.2⟩

/-- A sample through all lanes: their states, and the plain sum. -/
def sumL : List LX → Int → List LX × Int
  | [], _ => ([], 0)
  | x :: ls, y => ((runL x y).1 :: (sumL ls y).1, (runL x y).2 + (sumL ls y).2)
theorem sumL_snoc : ∀ (ls : List LX) (x : LX) (y : Int), sumL (ls ++ [x]) y = ((sumL ls y).1 ++ [(runL x y).1], (sumL ls y).2 + (runL x y).2)
  | [], x, y => by simp [sumL]
  | z :: ls, x, y => by simp [sumL, sumL_snoc ls, Int.add_assoc]
theorem sumL_length : ∀ (ls : List LX) (y : Int), (sumL ls y).1.length = ls.length
  | [], _ => rfl
  | x :: ls, y => by simp [sumL, sumL_length ls]
theorem sumL_ok : ∀ (ls : List LX) (y : Int), (∀ x ∈ ls, x.ok) → Smp y → (∀ x ∈ (sumL ls y).1, x.ok) ∧ -(ls.length * 8388607) ≤ (sumL ls y).2 ∧ (sumL ls y).2 ≤ ls.length * 8388607
  | [], y, _, _ => ⟨(fun x hx => by cases hx), by simp [sumL]⟩
  | z :: ls, y, h, hy => by
    have h1 := runL_ok (h z (by simp)) hy
    have h2 := sumL_ok ls y (fun x hx => h x (by simp [hx])) hy
    refine ⟨fun x hx => ?_, ?_⟩
    · rcases List.mem_cons.1 hx with rfl | hx
      · exact h1.1
      · exact h2.1 x hx
    · have := h1.2.1; have := h1.2.2
      simp only [sumL, List.length_cons]
      omega

/-- What a host makes of samples. -/
def runH : List LX → List Int → List LX × List Int
  | ls, [] => (ls, [])
  | ls, y :: L => ((runH (sumL ls y).1 L).1, bnd (sumL ls y).2 :: (runH (sumL ls y).1 L).2)
theorem runH_snoc : ∀ (L : List Int) (ls : List LX) (y : Int), runH ls (L ++ [y]) = ((sumL (runH ls L).1 y).1, (runH ls L).2 ++ [bnd (sumL (runH ls L).1 y).2])
  | [], ls, y => rfl
  | z :: L, ls, y => by simp [runH, runH_snoc L]
theorem runH_length : ∀ (L : List Int) (ls : List LX), (runH ls L).2.length = L.length ∧ (runH ls L).1.length = ls.length
  | [], ls => ⟨rfl, rfl⟩
  | z :: L, ls => by
    have := runH_length L (sumL ls z).1
    simp [runH, this.1, this.2, sumL_length]
theorem runH_ok : ∀ (L : List Int) (ls : List LX), (∀ x ∈ ls, x.ok) → Smps L → (∀ x ∈ (runH ls L).1, x.ok) ∧ Smps (runH ls L).2
  | [], ls, h, _ => ⟨h, (fun x hx => by cases hx)⟩
  | z :: L, ls, h, hL => by
    have h1 := sumL_ok ls z h (hL z (by simp))
    have h2 := runH_ok L _ h1.1 (fun y hy => hL y (by simp [hy]))
    refine ⟨h2.1, fun y hy => ?_⟩
    rcases List.mem_cons.1 hy with rfl | hy
    · exact bnd_smp _
    · exact h2.2 y hy

def HostIn (w : World) (v : Value) (G : Nat → Prop) (ls : List LX) (eq : Bool) : Prop :=
  ∃ b lp vs Gf, v = .pointer (some ⟨b, 0, none⟩) ∧ Bk w b [lp, .bool eq] 73 ∧ Sl w lp vs ∧ Objs LaneIn w vs Gf ls ∧
    (∀ i, i < vs.length → ¬ Gf i b) ∧ (vs ≠ [] → ∀ q, lp.ownBlock = some q → q ≠ b ∧ G q ∧ ∀ i, i < vs.length → ¬ Gf i q) ∧ G b ∧ ∀ i, i < vs.length → ∀ q, Gf i q → G q

end Go.Proofs.Ytefcfnmmpnjjjaa

/- The reference's units: new ones, and one step. -/
import Derived.Test.YtefcfnmmpnjjjaaGreatDoorQbStG
namespace Go.Proofs.YtefcfnmmpnjjjaaGreatDoor
open Go.RowKit
set_option linter.unusedSimpArgs false

/-- A unit's kind and numbers. -/
def KinU : US → Int → List Int → List Int → Prop
  | .gain g, k, A, T => k = 1 ∧ A = [g] ∧ T = []
  | .delay h, k, A, T => k = 2 ∧ A = [(h.length : Int)] ∧ T = []
  | .echo h g, k, A, T => k = 3 ∧ A = [(h.length : Int), g] ∧ T = []
  | .filter _ T', k, A, T => k = 4 ∧ A = [] ∧ T = T'
  | .press th ra at_ re _, k, A, T => k = 5 ∧ A = [th, ra, at_, re] ∧ T = []
  | .gate th hold _, k, A, T => k = 6 ∧ A = [th, hold] ∧ T = []
  | .look th ra at_ re _ h, k, A, T => k = 7 ∧ A = [th, ra, at_, re, (h.length : Int)] ∧ T = []
theorem kin_init {k : Int} {A T : List Int} (h : VShape k A T) : KinU (initU k A T) k A T := by
  cases h with
  | gain a h => simp [initU, KinU]
  | delay a h => simp [initU, KinU]; omega
  | echo a b h h' => simp [initU, KinU]; omega
  | filter T h => simp [initU, KinU]
  | press a b c d h0 h1 h2 h3 => simp [initU, KinU]
  | gate a b h0 h1 => simp [initU, KinU]
  | look a b c d e h0 h1 h2 h3 h4 => simp [initU, KinU]; omega
theorem kin_step {s : US} {k : Int} {A T : List Int} (h : KinU s k A T) (x : Int) : KinU (stepU s x).1 k A T := by
  cases s <;> simpa [KinU, stepU, pushL_length] using h
theorem kin_run : ∀ (L : List Int) {s : US} {k : Int} {A T : List Int}, KinU s k A T → KinU (runU s L).1 k A T
  | [], _, _, _, _, h => h
  | x :: L, _, _, _, _, h => kin_run L (kin_step h x)
/-- How many frames went by, as the reference has it. -/
def openR : US → Nat → Int → Prop
  | .gate _ _ since, N, op => (op = -1 ∧ since = 4097) ∨ (0 ≤ op ∧ op ≤ N ∧ since = if op ≤ 4097 then op else 4097)
  | _, _, op => op = -1
theorem openR.mono {s : US} {N M : Nat} {op : Int} (h : openR s N op) (hNM : N ≤ M) : openR s M op := by
  cases s <;> simp only [openR] at h ⊢ <;> first | exact h | omega
abbrev refV (k lev op : Int) (a t p : Value) : Value := .agg #[.int .i64 k, a, t, p, .int .i64 lev, .int .i64 op]
/-- What a unit keeps of a sample, as the reference has it. -/
def keepU : US → Int → Int
  | .echo h g, x => echoI h g x
  | _, x => x
theorem hist_step (s : US) (x : Int) : histU (stepU s x).1 = (keepU s x :: histU s).dropLast ∨ histU s = [] ∧ histU (stepU s x).1 = [] := by
  have hp : ∀ h y, pushL h y = (y :: h).dropLast ∨ h = [] ∧ pushL h y = [] := fun h y => by
    unfold pushL
    split
    · rename_i e; exact .inr ⟨e, rfl⟩
    · rename_i e; left; rw [List.dropLast_cons_of_ne_nil e]
  cases s with
  | gain g => exact .inr ⟨rfl, rfl⟩
  | delay h => exact hp h x
  | echo h g => exact hp h (echoI h g x)
  | filter h T => exact hp h x
  | press th ra at_ re lev => exact .inr ⟨rfl, rfl⟩
  | gate th hold since => exact .inr ⟨rfl, rfl⟩
  | look th ra at_ re lev h => exact hp h x
theorem hist_len {s : US} (h : s.ok) : (histU s).length ≤ 4096 := by
  cases s with
  | gain g => simp [histU]
  | delay l => exact h.2
  | echo l g => exact h.2.2.1
  | filter l T => have := h.2.1; have := h.2.2.1; simp [histU]; omega
  | press th ra at_ re lev => simp [histU]
  | gate th hold since => simp [histU]
  | look th ra at_ re lev l => have := h.2.2; simp [histU]; omega
theorem bnd_self' {x : Int} (h : Smp x) : bnd x = x := by unfold Smp at h; unfold bnd; split <;> (try split) <;> omega
theorem bv_ref0 : buildV Go.Proofs.Tryz.prog 39 [] = some (refV 0 0 0 (.slice none 0 0) (.slice none 0 0) (.slice none 0 0)) := by kernel_rfl
theorem bv_ref1 (k : Int) (pa pt pp : Option Addr) (na ca nt ct np cp : Nat) : buildV Go.Proofs.Tryz.prog 39 [(0, .agg #[.int .i64 k, .slice pa na ca, .slice pt nt ct]), (1, .slice pp np cp), (3, .int .i64 (-1))] = some (refV k 0 (-1) (.slice pa na ca) (.slice pt nt ct) (.slice pp np cp)) := by kernel_rfl
theorem store_ref {w : World} {b : Nat} {cs : List Value} (hb : Bk w b cs 39) (hl : cs.length = 6) (k lev op : Int) (pa pt pp : Option Addr) (na ca nt ct np cp : Nat) :
    ∃ w', storeV Go.Proofs.Tryz.prog w 39 (refV k lev op (.slice pa na ca) (.slice pt nt ct) (.slice pp np cp)) (.pointer (some ⟨b, 0, none⟩)) = some w' ∧ Bk w' b [.int .i64 k, .slice pa na ca, .slice pt nt ct, .slice pp np cp, .int .i64 lev, .int .i64 op] 39 ∧ Fr [b] w w' := by
  obtain ⟨w', h1, h2, h3⟩ := storeV_bk (P := Go.Proofs.Tryz.prog) (t := 39) (v := refV k lev op (.slice pa na ca) (.slice pt nt ct) (.slice pp np cp)) 0 hb tok_39 (by rw [tsz_39]; rfl) (by simp [Value.cells, Value.oneCell']) (by simp [Value.cells, hl])
  refine ⟨w', h1, ?_, h3⟩
  obtain ⟨c0, c1, c2, c3, c4, c5, rfl⟩ : ∃ c0 c1 c2 c3 c4 c5, cs = [c0, c1, c2, c3, c4, c5] := by
    match cs, hl with
    | [c0, c1, c2, c3, c4, c5], _ => exact ⟨_, _, _, _, _, _, rfl⟩
  exact h2
theorem refNew_c (k : Int) (a t : Value) (A T : List Int) (w : World) (hA : SlI w a A) (hT : SlI w t T) :
    Rets Go.Proofs.Tryz.prog 15 #[.agg #[.int .i64 k, a, t]] w fun r w' => Ext w w' ∧ if validB k A T = true then ∃ p, r = .tuple #[refV k 0 (-1) a t p, .int .i64 0] ∧ SlI w' p (List.replicate (histU (initU k A T)).length 0) ∧ (∀ q, p.ownBlock = some q → w.heap.size ≤ q)
      else r = .tuple #[refV 0 0 0 (.slice none 0 0) (.slice none 0 0) (.slice none 0 0), .int .i64 1] := by
  obtain ⟨pa, ca, rfl, _, _⟩ := hA.shape
  obtain ⟨pt, ct, rfl, _, _⟩ := hT.shape
  refine en15 ?_
  have key : ∀ o, Bk ((w.alloc (.cells #[.int .i64 k, .slice pa A.length ca, .slice pt T.length ct] 24)).alloc o) w.heap.size [.int .i64 k, .slice pa A.length ca, .slice pt T.length ct] 24 := fun o => (Bk.new _ _ _).ext (Ext.alloc _ _)
  have b0 := fun o => (key o).get (o := 0) rfl
  have b1 := fun o => (key o).get (o := 1) rfl
  have b2 := fun o => (key o).get (o := 2) rfl
  have hx0 : ∀ o, Ext w ((w.alloc (.cells #[.int .i64 k, .slice pa A.length ca, .slice pt T.length ct] 24)).alloc o) := fun o => (Ext.alloc _ _).alloc' _
  have hsz : ∀ o, (w.alloc o).heap.size = w.heap.size + 1 := fun o => by simp
  simp -dsimp -implicitDefEqProofs only [b0, b1, b2, hsz, m15, sF15, Nat.reduceEqDiff, ↓reduceIte, Nat.reduceAdd, Nat.reduceMul, Value.cells, Value.oneCell', eq_self, ne_eq, Int.reduceToNat, Int.reduceEq, Int.reduceLT, Int.reduceLE, Int.reduceNeg, if_true, if_false, reduceCtorEq, Nat.reduceSub, storeV_ptr, slcV_slice, ↓mwD, mwU]
  have hbr : ∀ (cs : Array Value) t', Bk ((w.alloc (.cells #[.int .i64 k, .slice pa A.length ca, .slice pt T.length ct] 24)).alloc (.cells cs t')) (w.heap.size + 1) cs.toList t' := fun cs t' => by
    have := Bk.new (w.alloc (.cells #[.int .i64 k, .slice pa A.length ca, .slice pt T.length ct] 24)) cs.toList t'
    simpa using this
  have hbr0 := hbr #[.int .i64 0, .slice none 0 0, .slice none 0 0, .slice none 0 0, .int .i64 0, .int .i64 0] 39
  have hbx0 := key (.cells #[.int .i64 0, .slice none 0 0, .slice none 0 0, .slice none 0 0, .int .i64 0, .int .i64 0] 39)
  have hxx := hx0 (.cells #[.int .i64 0, .slice none 0 0, .slice none 0 0, .slice none 0 0, .int .i64 0, .int .i64 0] 39)
  generalize hW : World.alloc (World.alloc w _) _ = W at *
  refine (refValid_c k _ _ A T W (hA.ext hxx) (hT.ext hxx)).use ?_
  rintro _ w1 ⟨rfl, x1⟩
  have hbw := hbr0.ext x1
  have he0 := hxx.trans x1
  cases hv : validB k A T
  · obtain ⟨w2, hs, hb2, hf2⟩ := store_ref hbw rfl 0 0 0 none none none 0 0 0 0 0 0
    have d0 := hb2.get (o := 0) rfl
    have d1 := hb2.get (o := 1) rfl
    have d2 := hb2.get (o := 2) rfl
    have d3 := hb2.get (o := 3) rfl
    have d4 := hb2.get (o := 4) rfl
    have d5 := hb2.get (o := 5) rfl
    simp -dsimp -implicitDefEqProofs only [bv_ref0, hsz, hs, d0, d1, d2, d3, d4, d5, m15, sF15, Nat.reduceEqDiff, ↓reduceIte, Nat.reduceAdd, Nat.reduceMul, Value.cells, Value.oneCell', eq_self, ne_eq, Int.reduceToNat, Int.reduceEq, Int.reduceLT, Int.reduceLE, Int.reduceNeg, if_true, if_false, reduceCtorEq, Nat.reduceSub, slcV_slice, ↓mwD, mwU]
    exact hf2.ext he0 (by simp)
  · simp -dsimp -implicitDefEqProofs only [m15, sF15, Nat.reduceEqDiff, ↓reduceIte, Nat.reduceAdd, Nat.reduceMul, Value.cells, Value.oneCell', eq_self, ne_eq, Int.reduceToNat, Int.reduceEq, Int.reduceLT, Int.reduceLE, Int.reduceNeg, if_true, if_false, reduceCtorEq, Nat.reduceSub, storeV_ptr, slcV_slice, ↓mwD, mwU]
    have c0 := (hbx0.ext x1).get (o := 0) rfl
    have c1 := (hbx0.ext x1).get (o := 1) rfl
    have c2 := (hbx0.ext x1).get (o := 2) rfl
    refine mwpB_drawE ?_
    simp -dsimp -implicitDefEqProofs only [c0, c1, c2, m15, sF15, Nat.reduceEqDiff, ↓reduceIte, Nat.reduceAdd, Nat.reduceMul, Value.cells, Value.oneCell', eq_self, ne_eq, Int.reduceToNat, Int.reduceEq, Int.reduceLT, Int.reduceLE, Int.reduceNeg, if_true, if_false, reduceCtorEq, Nat.reduceSub, storeV_ptr, slcV_slice, ↓mwD, mwU]
    refine (refReach_c k _ _ A T w1.drew (valid_shape hv) (hA.ext he0.drew') (hT.ext he0.drew')).use ?_
    rintro _ w3 ⟨rfl, x3⟩
    refine ⟨x3, ?_⟩
    have hlen := hist_len (initU_ok (valid_shape hv))
    generalize hNN : (histU (initU k A T)).length = N at *
    have hmk := makeS_ints (n := (N : Int)) (by omega) (by omega)
    rw [Int.toNat_natCast] at hmk
    have hbw4 := (hbw.ext ((Ext.drew w1).trans x3)).ext (Ext.alloc w3 (.cells (ints (List.replicate N 0)).toArray 3))
    obtain ⟨w5, hs, hb5, hf5⟩ := store_ref hbw4 rfl k 0 (-1) pa pt (some ⟨w3.heap.size, 0, none⟩) A.length ca T.length ct N N
    have d0 := hb5.get (o := 0) rfl
    have d1 := hb5.get (o := 1) rfl
    have d2 := hb5.get (o := 2) rfl
    have d3 := hb5.get (o := 3) rfl
    have d4 := hb5.get (o := 4) rfl
    have d5 := hb5.get (o := 5) rfl
    have hx5 : Ext w w5 := hf5.ext ((he0.drew'.trans x3).alloc' _) (by simp)
    simp -dsimp -implicitDefEqProofs only [hmk, bv_ref1, hsz, hs, d0, d1, d2, d3, d4, d5, m15, sF15, Nat.reduceEqDiff, ↓reduceIte, Nat.reduceAdd, Nat.reduceMul, Value.cells, Value.oneCell', eq_self, ne_eq, Int.reduceToNat, Int.reduceEq, Int.reduceLT, Int.reduceLE, Int.reduceNeg, if_true, if_false, reduceCtorEq, Nat.reduceSub, slcV_slice, ↓mwD, mwU]
    refine ⟨x3.alloc' _, hx5, _, rfl, ?_, fun q hq => ?_⟩
    · have hl3 := sl_new w3 (List.replicate N 0) N (by simp) hlen
      exact Sl.same (G := fun q => q ≠ w.heap.size + 1) hl3 (fun q hq => hf5.block q (by simpa using hq)) (fun _ q hq => by simp [Value.ownBlock] at hq; have := he0.le; have := hbw.lt; have := x3.le; have e : w1.drew.heap.size = w1.heap.size := rfl; omega)
    · simp [Value.ownBlock] at hq
      have := he0.le
      have := x3.le
      have e : w1.drew.heap.size = w1.heap.size := rfl
      omega
/-- What one step of the reference's unit comes to. -/
def StepRef (s : US) (N : Nat) (k : Int) (a t p : Value) (x : Int) (w : World) (r : Value) (w' : World) : Prop :=
  ∃ op', r = .tuple #[refV k (levU (stepU s x).1) op' a t p, .int .i64 (stepU s x).2] ∧ openR (stepU s x).1 (N + 1) op' ∧ Ext w w'
theorem rnd_near (a : Int) : -(1 + (if a < 0 then -a else a)) ≤ rnd a ∧ rnd a ≤ 1 + (if a < 0 then -a else a) := by
  unfold rnd; split <;> omega
theorem refStep_c {s : US} {N : Nat} {k : Int} {a t p : Value} {A T : List Int} {op x : Int} {w : World} (hs : s.ok) (hk : KinU s k A T) (ho : openR s N op) (hN : N ≤ 10000000) (hx : Smp x) (hA : SlI w a A) (hT : SlI w t T) (hp : SlI w p (histU s).reverse) :
    Rets Go.Proofs.Tryz.prog 46 #[refV k (levU s) op a t p, .int .i64 x] w (StepRef s N k a t p x w) := by
  obtain ⟨pa, ca, rfl, _, _⟩ := hA.shape
  obtain ⟨pt, ct, rfl, _, _⟩ := hT.shape
  obtain ⟨pp, cp, rfl, _, _⟩ := hp.shape
  refine en46 ?_
  have hsz : ∀ o, (w.alloc o).heap.size = w.heap.size + 1 := fun o => by simp
  have hX1 := hx.1
  have hX2 := hx.2
  have hlen := hist_len hs
  -- the two blocks: the unit, and what is returned
  have all : ∀ W, (w.alloc (.cells (refV k (levU s) op (.slice pa A.length ca) (.slice pt T.length ct) (.slice pp (histU s).reverse.length cp)).cells 39)).alloc (.cells (Value.agg #[.int .i64 0, .slice none 0 0, .slice none 0 0, .slice none 0 0, .int .i64 0, .int .i64 0]).cells 39) = W →
      Bk W w.heap.size [.int .i64 k, .slice pa A.length ca, .slice pt T.length ct, .slice pp (histU s).reverse.length cp, .int .i64 (levU s), .int .i64 op] 39 ∧ Bk W (w.heap.size + 1) [.int .i64 0, .slice none 0 0, .slice none 0 0, .slice none 0 0, .int .i64 0, .int .i64 0] 39 ∧ Ext w W ∧ W.heap.size = w.heap.size + 2 := by
    rintro _ rfl
    refine ⟨(Bk.new w [.int .i64 k, .slice pa A.length ca, .slice pt T.length ct, .slice pp (histU s).reverse.length cp, .int .i64 (levU s), .int .i64 op] 39).ext (Ext.alloc _ _), ?_, (Ext.alloc _ _).alloc' _, by simp⟩
    have hby := Bk.new (w.alloc (.cells #[.int .i64 k, .slice pa A.length ca, .slice pt T.length ct, .slice pp (histU s).reverse.length cp, .int .i64 (levU s), .int .i64 op] 39)) [.int .i64 0, .slice none 0 0, .slice none 0 0, .slice none 0 0, .int .i64 0, .int .i64 0] 39
    rw [hsz] at hby
    exact hby
  have b0 : ((w.alloc (.cells #[.int .i64 k, .slice pa A.length ca, .slice pt T.length ct, .slice pp (histU s).reverse.length cp, .int .i64 (levU s), .int .i64 op] 39)).alloc (.cells #[.int .i64 0, .slice none 0 0, .slice none 0 0, .slice none 0 0, .int .i64 0, .int .i64 0] 39)).cell? ⟨w.heap.size, 0, none⟩ = some (.int .i64 k) := (all _ rfl).1.get (o := 0) rfl
  have b1 : ((w.alloc (.cells #[.int .i64 k, .slice pa A.length ca, .slice pt T.length ct, .slice pp (histU s).reverse.length cp, .int .i64 (levU s), .int .i64 op] 39)).alloc (.cells #[.int .i64 0, .slice none 0 0, .slice none 0 0, .slice none 0 0, .int .i64 0, .int .i64 0] 39)).cell? ⟨w.heap.size, 1, none⟩ = some (.slice pa A.length ca) := (all _ rfl).1.get (o := 1) rfl
  simp -dsimp -implicitDefEqProofs only [b0, b1, hsz, m46, sF46, Nat.reduceEqDiff, ↓reduceIte, Nat.reduceAdd, Nat.reduceMul, Value.cells, Value.oneCell', eq_self, ne_eq, Int.reduceToNat, Int.reduceEq, Int.reduceLT, Int.reduceLE, Int.reduceNeg, if_true, if_false, reduceCtorEq, Nat.reduceSub, storeV_ptr, slcV_slice, ↓mwD, mwU]
  clear b0 b1
  generalize hW : World.alloc (World.alloc w (.cells (refV k (levU s) op (.slice pa A.length ca) (.slice pt T.length ct) (.slice pp (histU s).reverse.length cp)).cells 39)) _ = W
  obtain ⟨hbx, hby, hxx, hsz2⟩ := all W hW
  clear all hW
  have b0 := hbx.get (o := 0) rfl
  have b1 := hbx.get (o := 1) rfl
  have b2 := hbx.get (o := 2) rfl
  have b3 := hbx.get (o := 3) rfl
  have b4 := hbx.get (o := 4) rfl
  have b5 := hbx.get (o := 5) rfl
  have hA' := hA.ext hxx
  have hT' := hT.ext hxx
  have hp' := hp.ext hxx
  -- the sample that came n frames ago
  have hago : ∀ (W' : World) (n : Int), Ext w W' → 1 ≤ n → n ≤ (histU s).length → Rets Go.Proofs.Tryz.prog 83 #[.slice pp (histU s).reverse.length cp, .int .i64 n] W' fun r w' => r = .int .i64 ((histU s).getD (n - 1).toNat 0) ∧ w' = W' := fun W' n he h1 h2 => by
    have := refAgo_c (hp.ext he) h1 (by rw [List.length_reverse]; exact h2) (by rw [List.length_reverse]; omega)
    rw [List.reverse_reverse] at this
    exact this
  cases s with
  | gain g =>
    obtain ⟨rfl, hAe, hTe⟩ := hk
    obtain ⟨bA, oA, cA, hvA, hcA⟩ := hA'.some (by rw [hAe]; simp)
    cases hvA
    have a0 : W.cell? ⟨bA, oA, none⟩ = some (.int .i64 g) := hcA 0 g (by rw [hAe]; rfl)
    have l0 : (0 : Int) < (A.length : Nat) := by rw [hAe]; simp
    have hg1 := hs.1
    have hg2 := hs.2
    have hm := mul_bd (d := x) (D := 8388607) (k := g) (K := 655360) hX1 hX2 hg1 hg2 (by omega)
    have e1 : IntKind.i64.wrap (x * g) = x * g := w64 (by omega) (by omega)
    simp -dsimp -implicitDefEqProofs only [hsz, a0, l0, e1, m46, sF46, Nat.reduceEqDiff, ↓reduceIte, Nat.reduceAdd, Nat.reduceMul, Value.cells, Value.oneCell', eq_self, ne_eq, Int.reduceToNat, Int.reduceEq, Int.reduceLT, Int.reduceLE, Int.reduceNeg, if_true, if_false, reduceCtorEq, Nat.reduceSub, storeV_ptr, slcV_slice, ↓mwD, mwU]
    refine (Rounded_c _ (by omega) (by omega) _).use ?_
    rintro _ _ ⟨rfl, rfl⟩
    simp -dsimp -implicitDefEqProofs only [m46, sF46, Nat.reduceEqDiff, ↓reduceIte, Nat.reduceAdd, Nat.reduceMul, Value.cells, Value.oneCell', eq_self, ne_eq, Int.reduceToNat, Int.reduceEq, Int.reduceLT, Int.reduceLE, Int.reduceNeg, if_true, if_false, reduceCtorEq, Nat.reduceSub, storeV_ptr, slcV_slice, ↓mwD, mwU]
    refine (Bounded_c _ _).use ?_
    rintro _ _ ⟨rfl, rfl⟩
    obtain ⟨w9, hs9, hb9, hf9⟩ := store_ref hby rfl 1 (levU (US.gain g)) op (some ⟨bA, oA, none⟩) pt pp A.length ca T.length ct (histU (US.gain g)).reverse.length cp
    have c0 := hbx.get (o := 0) rfl
    have c1 := hbx.get (o := 1) rfl
    have c2 := hbx.get (o := 2) rfl
    have c3 := hbx.get (o := 3) rfl
    have c4 := hbx.get (o := 4) rfl
    have c5 := hbx.get (o := 5) rfl
    have d0 := hb9.get (o := 0) rfl
    have d1 := hb9.get (o := 1) rfl
    have d2 := hb9.get (o := 2) rfl
    have d3 := hb9.get (o := 3) rfl
    have d4 := hb9.get (o := 4) rfl
    have d5 := hb9.get (o := 5) rfl
    have x9 : Ext w w9 := hf9.ext hxx (by simp)
    simp -dsimp -implicitDefEqProofs only [hsz, c0, c1, c2, c3, c4, c5, hs9, d0, d1, d2, d3, d4, d5, m46, sF46, Nat.reduceEqDiff, ↓reduceIte, Nat.reduceAdd, Nat.reduceMul, Value.cells, Value.oneCell', eq_self, ne_eq, Int.reduceToNat, Int.reduceEq, Int.reduceLT, Int.reduceLE, Int.reduceNeg, if_true, if_false, reduceCtorEq, Nat.reduceSub, slcV_slice, ↓mwD, mwU]
    exact ⟨op, rfl, openR.mono (s := US.gain g) ho (by omega), x9⟩
  | delay h =>
    obtain ⟨rfl, hAe, hTe⟩ := hk
    obtain ⟨bA, oA, cA, hvA, hcA⟩ := hA'.some (by rw [hAe]; simp)
    cases hvA
    have a0 : W.cell? ⟨bA, oA, none⟩ = some (.int .i64 h.length) := hcA 0 h.length (by rw [hAe]; rfl)
    have l0 : (0 : Int) < (A.length : Nat) := by rw [hAe]; simp
    simp -dsimp -implicitDefEqProofs only [hsz, a0, l0, m46, sF46, Nat.reduceEqDiff, ↓reduceIte, Nat.reduceAdd, Nat.reduceMul, Value.cells, Value.oneCell', eq_self, ne_eq, Int.reduceToNat, Int.reduceEq, Int.reduceLT, Int.reduceLE, Int.reduceNeg, if_true, if_false, reduceCtorEq, Nat.reduceSub, storeV_ptr, slcV_slice, ↓mwD, mwU]
    refine iteW_dec (fun h0 => ?_) (fun h0 => ?_)
    · have hkp : (histU (US.delay h)).getD ((h.length : Int) - 1).toNat 0 = keptI h x := by
        have hne : h ≠ [] := by rintro rfl; simp at h0
        rw [keptI, if_neg hne, show ((h.length : Int) - 1).toNat = h.length - 1 by omega]; rfl
      refine mwpB_drawE ?_
      simp -dsimp -implicitDefEqProofs only [hsz, b3, a0, l0, m46, sF46, Nat.reduceEqDiff, ↓reduceIte, Nat.reduceAdd, Nat.reduceMul, Value.cells, Value.oneCell', eq_self, ne_eq, Int.reduceToNat, Int.reduceEq, Int.reduceLT, Int.reduceLE, Int.reduceNeg, if_true, if_false, reduceCtorEq, Nat.reduceSub, storeV_ptr, slcV_slice, ↓mwD, mwU]
      refine (hago W.drew h.length hxx.drew' (by omega) (by simp [histU])).use ?_
      rintro _ _ ⟨rfl, rfl⟩
      refine ⟨Ext.refl _, ?_⟩
      obtain ⟨w9, hs9, hb9, hf9⟩ := store_ref hby.drew rfl 2 (levU (US.delay h)) op (some ⟨bA, oA, none⟩) pt pp A.length ca T.length ct (histU (US.delay h)).reverse.length cp
      have c0 := hbx.get (o := 0) rfl
      have c1 := hbx.get (o := 1) rfl
      have c2 := hbx.get (o := 2) rfl
      have c3 := hbx.get (o := 3) rfl
      have c4 := hbx.get (o := 4) rfl
      have c5 := hbx.get (o := 5) rfl
      have d0 := hb9.get (o := 0) rfl
      have d1 := hb9.get (o := 1) rfl
      have d2 := hb9.get (o := 2) rfl
      have d3 := hb9.get (o := 3) rfl
      have d4 := hb9.get (o := 4) rfl
      have d5 := hb9.get (o := 5) rfl
      have x9 : Ext w w9 := hf9.ext hxx.drew' (by simp)
      simp -dsimp -implicitDefEqProofs only [hsz, c0, c1, c2, c3, c4, c5, hs9, d0, d1, d2, d3, d4, d5, m46, sF46, Nat.reduceEqDiff, ↓reduceIte, Nat.reduceAdd, Nat.reduceMul, Value.cells, Value.oneCell', eq_self, ne_eq, Int.reduceToNat, Int.reduceEq, Int.reduceLT, Int.reduceLE, Int.reduceNeg, if_true, if_false, reduceCtorEq, Nat.reduceSub, slcV_slice, ↓mwD, mwU]
      rw [hkp]
      exact ⟨op, rfl, openR.mono (s := US.delay h) ho (by omega), x9⟩
    · have hkp : keptI h x = x := by
        have hne : h = [] := by cases h with
          | nil => rfl
          | cons y h => simp at h0
        rw [keptI, if_pos hne]
      obtain ⟨w9, hs9, hb9, hf9⟩ := store_ref hby rfl 2 (levU (US.delay h)) op (some ⟨bA, oA, none⟩) pt pp A.length ca T.length ct (histU (US.delay h)).reverse.length cp
      have c0 := hbx.get (o := 0) rfl
      have c1 := hbx.get (o := 1) rfl
      have c2 := hbx.get (o := 2) rfl
      have c3 := hbx.get (o := 3) rfl
      have c4 := hbx.get (o := 4) rfl
      have c5 := hbx.get (o := 5) rfl
      have d0 := hb9.get (o := 0) rfl
      have d1 := hb9.get (o := 1) rfl
      have d2 := hb9.get (o := 2) rfl
      have d3 := hb9.get (o := 3) rfl
      have d4 := hb9.get (o := 4) rfl
      have d5 := hb9.get (o := 5) rfl
      have x9 : Ext w w9 := hf9.ext hxx (by simp)
      simp -dsimp -implicitDefEqProofs only [hsz, c0, c1, c2, c3, c4, c5, hs9, d0, d1, d2, d3, d4, d5, m46, sF46, Nat.reduceEqDiff, ↓reduceIte, Nat.reduceAdd, Nat.reduceMul, Value.cells, Value.oneCell', eq_self, ne_eq, Int.reduceToNat, Int.reduceEq, Int.reduceLT, Int.reduceLE, Int.reduceNeg, if_true, if_false, reduceCtorEq, Nat.reduceSub, slcV_slice, ↓mwD, mwU]
      exact ⟨op, by rw [stepU, hkp]; rfl, openR.mono (s := US.delay h) ho (by omega), x9⟩
  | echo h g =>
    obtain ⟨rfl, hAe, hTe⟩ := hk
    obtain ⟨bA, oA, cA, hvA, hcA⟩ := hA'.some (by rw [hAe]; simp)
    cases hvA
    have a0 : W.cell? ⟨bA, oA, none⟩ = some (.int .i64 h.length) := hcA 0 h.length (by rw [hAe]; rfl)
    have a1 : W.cell? ⟨bA, oA + 1, none⟩ = some (.int .i64 g) := hcA 1 g (by rw [hAe]; rfl)
    have l0 : (0 : Int) < (A.length : Nat) := by rw [hAe]; simp
    have l1 : (1 : Int) < (A.length : Nat) := by rw [hAe]; simp
    obtain ⟨hsm, hl1, hl2, g1, g2⟩ := id hs
    have hlast := hsm.getD (h.length - 1)
    have hm := mul_bd2 (d := h.getD (h.length - 1) 0) (D := 8388607) (k := g) (K := 65536) hlast.1 hlast.2 g1 g2 (by omega)
    have e1 : IntKind.i64.wrap (h.getD (h.length - 1) 0 * g) = h.getD (h.length - 1) 0 * g := w64 (by omega) (by omega)
    have hr := rnd_near (h.getD (h.length - 1) 0 * g)
    have e2 : IntKind.i64.wrap (x + rnd (h.getD (h.length - 1) 0 * g)) = x + rnd (h.getD (h.length - 1) 0 * g) := w64 (by omega) (by omega)
    have hkp : (histU (US.echo h g)).getD ((h.length : Int) - 1).toNat 0 = h.getD (h.length - 1) 0 := by
      rw [show ((h.length : Int) - 1).toNat = h.length - 1 by omega]; rfl
    simp -dsimp -implicitDefEqProofs only [hsz, m46, sF46, Nat.reduceEqDiff, ↓reduceIte, Nat.reduceAdd, Nat.reduceMul, Value.cells, Value.oneCell', eq_self, ne_eq, Int.reduceToNat, Int.reduceEq, Int.reduceLT, Int.reduceLE, Int.reduceNeg, if_true, if_false, reduceCtorEq, Nat.reduceSub, storeV_ptr, slcV_slice, ↓mwD, mwU]
    refine mwpB_drawE ?_
    simp -dsimp -implicitDefEqProofs only [hsz, b3, a0, l0, a1, l1, m46, sF46, Nat.reduceEqDiff, ↓reduceIte, Nat.reduceAdd, Nat.reduceMul, Value.cells, Value.oneCell', eq_self, ne_eq, Int.reduceToNat, Int.reduceEq, Int.reduceLT, Int.reduceLE, Int.reduceNeg, if_true, if_false, reduceCtorEq, Nat.reduceSub, storeV_ptr, slcV_slice, ↓mwD, mwU]
    refine (hago W.drew h.length hxx.drew' (by omega) (by simp [histU])).use ?_
    rintro _ _ ⟨rfl, rfl⟩
    rw [hkp]
    refine ⟨Ext.refl _, ?_⟩
    simp -dsimp -implicitDefEqProofs only [e1, m46, sF46, Nat.reduceEqDiff, ↓reduceIte, Nat.reduceAdd, Nat.reduceMul, Value.cells, Value.oneCell', eq_self, ne_eq, Int.reduceToNat, Int.reduceEq, Int.reduceLT, Int.reduceLE, Int.reduceNeg, if_true, if_false, reduceCtorEq, Nat.reduceSub, storeV_ptr, slcV_slice, ↓mwD, mwU]
    refine (Rounded_c _ (by omega) (by omega) _).use ?_
    rintro _ _ ⟨rfl, rfl⟩
    refine ⟨Ext.refl _, ?_⟩
    simp -dsimp -implicitDefEqProofs only [e2, m46, sF46, Nat.reduceEqDiff, ↓reduceIte, Nat.reduceAdd, Nat.reduceMul, Value.cells, Value.oneCell', eq_self, ne_eq, Int.reduceToNat, Int.reduceEq, Int.reduceLT, Int.reduceLE, Int.reduceNeg, if_true, if_false, reduceCtorEq, Nat.reduceSub, storeV_ptr, slcV_slice, ↓mwD, mwU]
    refine (Bounded_c _ _).use ?_
    rintro _ _ ⟨rfl, rfl⟩
    refine ⟨Ext.refl _, ?_⟩
    obtain ⟨w9, hs9, hb9, hf9⟩ := store_ref hby.drew rfl 3 (levU (US.echo h g)) op (some ⟨bA, oA, none⟩) pt pp A.length ca T.length ct (histU (US.echo h g)).reverse.length cp
    have c0 := hbx.get (o := 0) rfl
    have c1 := hbx.get (o := 1) rfl
    have c2 := hbx.get (o := 2) rfl
    have c3 := hbx.get (o := 3) rfl
    have c4 := hbx.get (o := 4) rfl
    have c5 := hbx.get (o := 5) rfl
    have d0 := hb9.get (o := 0) rfl
    have d1 := hb9.get (o := 1) rfl
    have d2 := hb9.get (o := 2) rfl
    have d3 := hb9.get (o := 3) rfl
    have d4 := hb9.get (o := 4) rfl
    have d5 := hb9.get (o := 5) rfl
    have x9 : Ext w w9 := hf9.ext hxx.drew' (by simp)
    simp -dsimp -implicitDefEqProofs only [hsz, c0, c1, c2, c3, c4, c5, hs9, d0, d1, d2, d3, d4, d5, m46, sF46, Nat.reduceEqDiff, ↓reduceIte, Nat.reduceAdd, Nat.reduceMul, Value.cells, Value.oneCell', eq_self, ne_eq, Int.reduceToNat, Int.reduceEq, Int.reduceLT, Int.reduceLE, Int.reduceNeg, if_true, if_false, reduceCtorEq, Nat.reduceSub, slcV_slice, ↓mwD, mwU]
    exact ⟨op, rfl, openR.mono (s := US.echo h g) ho (by omega), x9⟩
  | filter h T' =>
    obtain ⟨rfl, hAe, rfl⟩ := hk
    obtain ⟨hsm, hl1, hl2, hTb⟩ := id hs
    have hne : T ≠ [] := by rintro rfl; simp at hl1
    obtain ⟨bT, oT, cT, hvT, hcT⟩ := hT'.some (by omega)
    cases hvT
    have t0 : W.cell? ⟨bT, oT, none⟩ = some (.int .i64 (T.getD 0 0)) := hcT 0 _ (by rw [List.getD_eq_getElem?_getD, List.getElem?_eq_getElem (by omega)]; rfl)
    have lT0 : (0 : Int) < (T.length : Nat) := by omega
    have hT0 := hTb (T.getD 0 0) (by rw [List.getD_eq_getElem?_getD, List.getElem?_eq_getElem (by omega)]; exact List.getElem_mem _)
    have hm := mul_bd2 (d := x) (D := 8388607) (k := T.getD 0 0) (K := 65536) hX1 hX2 hT0.1 hT0.2 (by omega)
    rw [Int.mul_comm x] at hm
    have e1 : IntKind.i64.wrap (T.getD 0 0 * x) = T.getD 0 0 * x := w64 (by omega) (by omega)
    have hxs : Smps (x :: h) := fun y hy => by rcases List.mem_cons.1 hy with rfl | hy; exact hx; exact hsm y hy
    have hd1 : dotI (T.take 1) (x :: h) = T.getD 0 0 * x := by cases T with
      | nil => exact absurd rfl hne
      | cons t0 T => simp [dotI]
    simp -dsimp -implicitDefEqProofs only [hsz, b2, t0, lT0, e1, m46, sF46, Nat.reduceEqDiff, ↓reduceIte, Nat.reduceAdd, Nat.reduceMul, Value.cells, Value.oneCell', eq_self, ne_eq, Int.reduceToNat, Int.reduceEq, Int.reduceLT, Int.reduceLE, Int.reduceNeg, if_true, if_false, reduceCtorEq, Nat.reduceSub, storeV_ptr, slcV_slice, ↓mwD, mwU]
    refine mwpB_loop (fun e ds wl => ∃ n : Nat, 1 ≤ n ∧ n ≤ T.length ∧ e 10 = .int .i64 n ∧ e 9 = .int .i64 (dotI (T.take n) (x :: h)) ∧ e 8 = .slice (some ⟨bT, oT, none⟩) T.length ct ∧ e 2 = .pointer (some ⟨w.heap.size, 0, none⟩) ∧ e 4 = .pointer (some ⟨w.heap.size + 1, 0, none⟩) ∧ ds = [] ∧ Ext W wl) (fun e _ => T.length - (intOf (e 10)).toNat) ?_ ?_
    · simp -dsimp -implicitDefEqProofs only [hsz, m46, sF46, Nat.reduceEqDiff, ↓reduceIte, Nat.reduceAdd, Nat.reduceMul, Value.cells, Value.oneCell', eq_self, ne_eq, Int.reduceToNat, Int.reduceEq, Int.reduceLT, Int.reduceLE, Int.reduceNeg, if_true, if_false, reduceCtorEq, Nat.reduceSub, storeV_ptr, slcV_slice, ↓mwD, mwU]
      exact ⟨1, by omega, by omega, rfl, by rw [hd1], Ext.refl _⟩
    · rintro e ds wl ⟨n, hn1, hn, h10, h9, h8, h2, h4, rfl, hxl⟩
      simp -dsimp -implicitDefEqProofs only [h10, h9, h8, h2, h4, m46, sF46, Nat.reduceEqDiff, ↓reduceIte, Nat.reduceAdd, Nat.reduceMul, Value.cells, Value.oneCell', eq_self, ne_eq, Int.reduceToNat, Int.reduceEq, Int.reduceLT, Int.reduceLE, Int.reduceNeg, if_true, if_false, reduceCtorEq, Nat.reduceSub, storeV_ptr, slcV_slice, ↓mwD, mwU]
      refine iteW_dec (fun hlt => ?_) (fun hge => ?_)
      · have hnl : n < T.length := by omega
        have tn := hxl.cell (hcT n T[n] (by simp [hnl]))
        have p3 := hxl.cell b3
        have hb1 : (0 : Int) ≤ n ∧ (n : Int) < (T.length : Nat) := by omega
        have hTn := hTb T[n] (by simp)
        have hXn := hsm.getD (n - 1)
        have hm2 := mul_bd2 (d := h.getD (n - 1) 0) (D := 8388607) (k := T[n]) (K := 65536) hXn.1 hXn.2 hTn.1 hTn.2 (by omega)
        rw [Int.mul_comm (h.getD (n - 1) 0)] at hm2
        have hdb := dotI_bd (T.take n) (x :: h) 512 (fun y hy => hTb y (List.mem_of_mem_take hy)) hxs (by rw [List.length_take]; omega)
        have e2 : IntKind.i64.wrap (T[n] * h.getD (n - 1) 0) = T[n] * h.getD (n - 1) 0 := w64 (by omega) (by omega)
        have hX : (x :: h).getD n 0 = h.getD (n - 1) 0 := by
          obtain ⟨m, rfl⟩ : ∃ m, n = m + 1 := ⟨n - 1, by omega⟩
          rfl
        have e3 : IntKind.i64.wrap (dotI (T.take n) (x :: h) + T[n] * h.getD (n - 1) 0) = dotI (T.take (n + 1)) (x :: h) := by
          rw [w64 (by omega) (by omega), dotI_take_succ T (x :: h) n T[n] (by simp [hnl]), hX]
        have e4 : ((n : Int) - 1).toNat = n - 1 := by omega
        have hw1 : IntKind.i64.wrap ((n : Int) + 1) = ((n + 1 : Nat) : Int) := by rw [w64 (by omega) (by omega)]; omega
        simp -dsimp -implicitDefEqProofs only [h10, h9, h8, h2, h4, m46, sF46, Nat.reduceEqDiff, ↓reduceIte, Nat.reduceAdd, Nat.reduceMul, Value.cells, Value.oneCell', eq_self, ne_eq, Int.reduceToNat, Int.reduceEq, Int.reduceLT, Int.reduceLE, Int.reduceNeg, if_true, if_false, reduceCtorEq, Nat.reduceSub, storeV_ptr, slcV_slice, ↓mwD, mwU]
        refine mwpB_drawE ?_
        simp -dsimp -implicitDefEqProofs only [h10, h9, h8, h2, h4, hb1, and_self, tn, p3, m46, sF46, Nat.reduceEqDiff, ↓reduceIte, Nat.reduceAdd, Nat.reduceMul, Value.cells, Value.oneCell', eq_self, ne_eq, Int.reduceToNat, Int.reduceEq, Int.reduceLT, Int.reduceLE, Int.reduceNeg, if_true, if_false, reduceCtorEq, Nat.reduceSub, storeV_ptr, slcV_slice, ↓mwD, mwU]
        refine (hago wl.drew n (hxx.trans hxl).drew' (by omega) (by simp [histU]; omega)).use ?_
        rintro _ _ ⟨rfl, rfl⟩
        refine ⟨Ext.refl _, ?_⟩
        rw [e4]
        have hh : (histU (US.filter h T)).getD (n - 1) 0 = h.getD (n - 1) 0 := rfl
        rw [hh]
        simp -dsimp -implicitDefEqProofs only [h10, h9, h8, h2, h4, e2, e3, hw1, m46, sF46, Nat.reduceEqDiff, ↓reduceIte, Nat.reduceAdd, Nat.reduceMul, Value.cells, Value.oneCell', eq_self, ne_eq, Int.reduceToNat, Int.reduceEq, Int.reduceLT, Int.reduceLE, Int.reduceNeg, if_true, if_false, reduceCtorEq, Nat.reduceSub, storeV_ptr, slcV_slice, ↓mwD, mwU]
        exact ⟨⟨n + 1, by omega, by omega, rfl, rfl, hxl.drew'⟩, by simp only [intOf]; omega⟩
      · have hnl : n = T.length := by omega
        subst hnl
        rw [List.take_length] at h9
        have hdb := dotI_bd T (x :: h) 512 hTb hxs (by omega)
        simp -dsimp -implicitDefEqProofs only [h9, h2, h4, m46, sF46, Nat.reduceEqDiff, ↓reduceIte, Nat.reduceAdd, Nat.reduceMul, Value.cells, Value.oneCell', eq_self, ne_eq, Int.reduceToNat, Int.reduceEq, Int.reduceLT, Int.reduceLE, Int.reduceNeg, if_true, if_false, reduceCtorEq, Nat.reduceSub, storeV_ptr, slcV_slice, ↓mwD, mwU]
        refine (Rounded_c _ (by omega) (by omega) _).use ?_
        rintro _ _ ⟨rfl, rfl⟩
        simp -dsimp -implicitDefEqProofs only [m46, sF46, Nat.reduceEqDiff, ↓reduceIte, Nat.reduceAdd, Nat.reduceMul, Value.cells, Value.oneCell', eq_self, ne_eq, Int.reduceToNat, Int.reduceEq, Int.reduceLT, Int.reduceLE, Int.reduceNeg, if_true, if_false, reduceCtorEq, Nat.reduceSub, storeV_ptr, slcV_slice, ↓mwD, mwU]
        refine (Bounded_c _ _).use ?_
        rintro _ _ ⟨rfl, rfl⟩
        obtain ⟨w9, hs9, hb9, hf9⟩ := store_ref (hby.ext hxl) rfl 4 (levU (US.filter h T)) op pa (some ⟨bT, oT, none⟩) pp A.length ca T.length ct (histU (US.filter h T)).reverse.length cp
        have c0 := (hbx.ext hxl).get (o := 0) rfl
        have c1 := (hbx.ext hxl).get (o := 1) rfl
        have c2 := (hbx.ext hxl).get (o := 2) rfl
        have c3 := (hbx.ext hxl).get (o := 3) rfl
        have c4 := (hbx.ext hxl).get (o := 4) rfl
        have c5 := (hbx.ext hxl).get (o := 5) rfl
        have d0 := hb9.get (o := 0) rfl
        have d1 := hb9.get (o := 1) rfl
        have d2 := hb9.get (o := 2) rfl
        have d3 := hb9.get (o := 3) rfl
        have d4 := hb9.get (o := 4) rfl
        have d5 := hb9.get (o := 5) rfl
        have x9 : Ext w w9 := hf9.ext (hxx.trans hxl) (by simp)
        simp -dsimp -implicitDefEqProofs only [h2, h4, hsz, c0, c1, c2, c3, c4, c5, hs9, d0, d1, d2, d3, d4, d5, m46, sF46, Nat.reduceEqDiff, ↓reduceIte, Nat.reduceAdd, Nat.reduceMul, Value.cells, Value.oneCell', eq_self, ne_eq, Int.reduceToNat, Int.reduceEq, Int.reduceLT, Int.reduceLE, Int.reduceNeg, if_true, if_false, reduceCtorEq, Nat.reduceSub, slcV_slice, ↓mwD, mwU]
        exact ⟨op, rfl, openR.mono (s := US.filter h T) ho (by omega), x9⟩
  | press th ra at_ re lev =>
    obtain ⟨rfl, hAe, hTe⟩ := hk
    obtain ⟨q1, q2, q3, q4, q5, q6, q7, q8, q9, q10⟩ := id hs
    obtain ⟨bA, oA, cA, hvA, hcA⟩ := hA'.some (by rw [hAe]; simp)
    cases hvA
    have a0 : W.cell? ⟨bA, oA, none⟩ = some (.int .i64 th) := hcA 0 th (by rw [hAe]; rfl)
    have a1 : W.cell? ⟨bA, oA + 1, none⟩ = some (.int .i64 ra) := hcA 1 ra (by rw [hAe]; rfl)
    have a2 : W.cell? ⟨bA, oA + 2, none⟩ = some (.int .i64 at_) := hcA 2 at_ (by rw [hAe]; rfl)
    have a3 : W.cell? ⟨bA, oA + 3, none⟩ = some (.int .i64 re) := hcA 3 re (by rw [hAe]; rfl)
    have l0 : (0 : Int) < (A.length : Nat) := by rw [hAe]; simp
    have l1 : (1 : Int) < (A.length : Nat) := by rw [hAe]; simp
    have l2 : (2 : Int) < (A.length : Nat) := by rw [hAe]; simp
    have l3 : (3 : Int) < (A.length : Nat) := by rw [hAe]; simp
    have hlev := levI_bd (at_ := at_) (re := re) hX1 hX2 q5 q6 q7 q8 q9 q10
    have hfo := folI_bd (th := th) (ra := ra) (lev := levI at_ re lev x) q1 q3 hlev.1
    have hA4 : SlI W (.slice (some ⟨bA, oA, none⟩) A.length ca) (th :: ra :: at_ :: re :: []) := by rw [← hAe]; exact hA'
    have b4' : W.cell? ⟨w.heap.size, 4, none⟩ = some (.int .i64 lev) := b4
    have s4 : levU (US.press th ra at_ re lev) = lev := rfl
    have hb4 := hbx.set 4 (.int .i64 (levI at_ re lev x))
    have e4 : (W.setCell ⟨w.heap.size, 4, none⟩ (.int .i64 (levI at_ re lev x))).cell? ⟨w.heap.size, 4, none⟩ = some (.int .i64 (levI at_ re lev x)) := hb4.get (o := 4) rfl
    have e0 : (W.setCell ⟨w.heap.size, 4, none⟩ (.int .i64 (levI at_ re lev x))).cell? ⟨w.heap.size, 0, none⟩ = some (.int .i64 5) := hb4.get (o := 0) rfl
    have hxs : Ext w (W.setCell ⟨w.heap.size, 4, none⟩ (.int .i64 (levI at_ re lev x))) := hxx.setCell (Nat.le_refl _) _
    have hA2 : SlI (W.setCell ⟨w.heap.size, 4, none⟩ (.int .i64 (levI at_ re lev x))) (.slice (some ⟨bA, oA, none⟩) A.length ca) (th :: ra :: at_ :: re :: []) := by rw [← hAe]; exact hA.ext hxs
    have hm := mul_bd (d := x) (D := 8388607) (k := folI th ra (levI at_ re lev x)) (K := 65536) hX1 hX2 hfo.1 hfo.2 (by omega)
    have em : IntKind.i64.wrap (x * folI th ra (levI at_ re lev x)) = x * folI th ra (levI at_ re lev x) := w64 (by omega) (by omega)
    have hsy : bnd (rnd (x * folI th ra (levI at_ re lev x))) = rnd (x * folI th ra (levI at_ re lev x)) := bnd_self' (hx.rnd hfo.1 hfo.2)
    have hby2 := hby.ne (show w.heap.size ≠ w.heap.size + 1 by omega) 4 (.int .i64 (levI at_ re lev x))
    simp -dsimp -implicitDefEqProofs only [hsz, b4', m46, sF46, Nat.reduceEqDiff, ↓reduceIte, Nat.reduceAdd, Nat.reduceMul, Value.cells, Value.oneCell', eq_self, ne_eq, Int.reduceToNat, Int.reduceEq, Int.reduceLT, Int.reduceLE, Int.reduceNeg, if_true, if_false, reduceCtorEq, Nat.reduceSub, storeV_ptr, slcV_slice, ↓mwD, mwU]
    refine (refFollow_c hA4 hx q5 q6 q7 q8 q9 q10).use ?_
    rintro _ W' ⟨rfl, hw⟩
    obtain rfl := hw.symm
    simp -dsimp -implicitDefEqProofs only [hsz, b4', hbx.frozen, and_self, e0, e4, m46, sF46, Nat.reduceEqDiff, ↓reduceIte, Nat.reduceAdd, Nat.reduceMul, Value.cells, Value.oneCell', eq_self, ne_eq, Int.reduceToNat, Int.reduceEq, Int.reduceLT, Int.reduceLE, Int.reduceNeg, if_true, if_false, reduceCtorEq, Nat.reduceSub, storeV_ptr, slcV_slice, ↓mwD, mwU]
    refine (refGain_c hA2 q1 q2 q3 hlev.1 hlev.2).use ?_
    rintro _ w5 ⟨rfl, x5⟩
    simp -dsimp -implicitDefEqProofs only [em, m46, sF46, Nat.reduceEqDiff, ↓reduceIte, Nat.reduceAdd, Nat.reduceMul, Value.cells, Value.oneCell', eq_self, ne_eq, Int.reduceToNat, Int.reduceEq, Int.reduceLT, Int.reduceLE, Int.reduceNeg, if_true, if_false, reduceCtorEq, Nat.reduceSub, storeV_ptr, slcV_slice, ↓mwD, mwU]
    refine (Rounded_c _ (by omega) (by omega) _).use ?_
    rintro _ _ ⟨rfl, rfl⟩
    simp -dsimp -implicitDefEqProofs only [m46, sF46, Nat.reduceEqDiff, ↓reduceIte, Nat.reduceAdd, Nat.reduceMul, Value.cells, Value.oneCell', eq_self, ne_eq, Int.reduceToNat, Int.reduceEq, Int.reduceLT, Int.reduceLE, Int.reduceNeg, if_true, if_false, reduceCtorEq, Nat.reduceSub, storeV_ptr, slcV_slice, ↓mwD, mwU]
    refine (Bounded_c _ _).use ?_
    rintro _ _ ⟨rfl, rfl⟩
    obtain ⟨w9, hs9, hb9, hf9⟩ := store_ref (hby2.ext x5) rfl 5 (levI at_ re lev x) op (some ⟨bA, oA, none⟩) pt pp A.length ca T.length ct (histU (US.press th ra at_ re lev)).reverse.length cp
    have c0 := (hb4.ext x5).get (o := 0) rfl
    have c1 := (hb4.ext x5).get (o := 1) rfl
    have c2 := (hb4.ext x5).get (o := 2) rfl
    have c3 := (hb4.ext x5).get (o := 3) rfl
    have c4 := (hb4.ext x5).get (o := 4) rfl
    have c5 := (hb4.ext x5).get (o := 5) rfl
    have d0 := hb9.get (o := 0) rfl
    have d1 := hb9.get (o := 1) rfl
    have d2 := hb9.get (o := 2) rfl
    have d3 := hb9.get (o := 3) rfl
    have d4 := hb9.get (o := 4) rfl
    have d5 := hb9.get (o := 5) rfl
    have x9 : Ext w w9 := hf9.ext (hxs.trans x5) (by simp)
    simp -dsimp -implicitDefEqProofs only [hsz, c0, c1, c2, c3, c4, c5, hs9, d0, d1, d2, d3, d4, d5, m46, sF46, Nat.reduceEqDiff, ↓reduceIte, Nat.reduceAdd, Nat.reduceMul, Value.cells, Value.oneCell', eq_self, ne_eq, Int.reduceToNat, Int.reduceEq, Int.reduceLT, Int.reduceLE, Int.reduceNeg, if_true, if_false, reduceCtorEq, Nat.reduceSub, slcV_slice, ↓mwD, mwU]
    rw [hsy]
    exact ⟨op, rfl, openR.mono (s := US.press th ra at_ re lev) ho (by omega), x9⟩
  | look th ra at_ re lev h =>
    obtain ⟨rfl, hAe, hTe⟩ := hk
    obtain ⟨⟨q1, q2, q3, q4, q5, q6, q7, q8, q9, q10⟩, hsm, hl5⟩ := id hs
    obtain ⟨bA, oA, cA, hvA, hcA⟩ := hA'.some (by rw [hAe]; simp)
    cases hvA
    have a0 : W.cell? ⟨bA, oA, none⟩ = some (.int .i64 th) := hcA 0 th (by rw [hAe]; rfl)
    have a1 : W.cell? ⟨bA, oA + 1, none⟩ = some (.int .i64 ra) := hcA 1 ra (by rw [hAe]; rfl)
    have a2 : W.cell? ⟨bA, oA + 2, none⟩ = some (.int .i64 at_) := hcA 2 at_ (by rw [hAe]; rfl)
    have a3 : W.cell? ⟨bA, oA + 3, none⟩ = some (.int .i64 re) := hcA 3 re (by rw [hAe]; rfl)
    have a4 : W.cell? ⟨bA, oA + 4, none⟩ = some (.int .i64 h.length) := hcA 4 h.length (by rw [hAe]; rfl)
    have l0 : (0 : Int) < (A.length : Nat) := by rw [hAe]; simp
    have l1 : (1 : Int) < (A.length : Nat) := by rw [hAe]; simp
    have l2 : (2 : Int) < (A.length : Nat) := by rw [hAe]; simp
    have l3 : (3 : Int) < (A.length : Nat) := by rw [hAe]; simp
    have l4 : (4 : Int) < (A.length : Nat) := by rw [hAe]; simp
    have hlev := levI_bd (at_ := at_) (re := re) hX1 hX2 q5 q6 q7 q8 q9 q10
    have hfo := folI_bd (th := th) (ra := ra) (lev := levI at_ re lev x) q1 q3 hlev.1
    have hA4 : SlI W (.slice (some ⟨bA, oA, none⟩) A.length ca) (th :: ra :: at_ :: re :: [(h.length : Int)]) := by rw [← hAe]; exact hA'
    have b4' : W.cell? ⟨w.heap.size, 4, none⟩ = some (.int .i64 lev) := b4
    have hb4 := hbx.set 4 (.int .i64 (levI at_ re lev x))
    have e4 : (W.setCell ⟨w.heap.size, 4, none⟩ (.int .i64 (levI at_ re lev x))).cell? ⟨w.heap.size, 4, none⟩ = some (.int .i64 (levI at_ re lev x)) := hb4.get (o := 4) rfl
    have e0 : (W.setCell ⟨w.heap.size, 4, none⟩ (.int .i64 (levI at_ re lev x))).cell? ⟨w.heap.size, 0, none⟩ = some (.int .i64 7) := hb4.get (o := 0) rfl
    have e3 : (W.setCell ⟨w.heap.size, 4, none⟩ (.int .i64 (levI at_ re lev x))).cell? ⟨w.heap.size, 3, none⟩ = some (.slice pp (histU (US.look th ra at_ re lev h)).reverse.length cp) := hb4.get (o := 3) rfl
    have hxs : Ext w (W.setCell ⟨w.heap.size, 4, none⟩ (.int .i64 (levI at_ re lev x))) := hxx.setCell (Nat.le_refl _) _
    have hA2 : SlI (W.setCell ⟨w.heap.size, 4, none⟩ (.int .i64 (levI at_ re lev x))) (.slice (some ⟨bA, oA, none⟩) A.length ca) (th :: ra :: at_ :: re :: [(h.length : Int)]) := by rw [← hAe]; exact hA.ext hxs
    have f4 : (W.setCell ⟨w.heap.size, 4, none⟩ (.int .i64 (levI at_ re lev x))).cell? ⟨bA, oA + 4, none⟩ = some (.int .i64 h.length) := by
      obtain ⟨_, _, _, hv, hc⟩ := (hA.ext hxs).some (by rw [hAe]; simp)
      cases hv
      exact hc 4 _ (by rw [hAe]; rfl)
    have hkx := Smps.kept hsm hx
    have hm := mul_bd (d := keptI h x) (D := 8388607) (k := folI th ra (levI at_ re lev x)) (K := 65536) hkx.1 hkx.2 hfo.1 hfo.2 (by omega)
    have em : IntKind.i64.wrap (keptI h x * folI th ra (levI at_ re lev x)) = keptI h x * folI th ra (levI at_ re lev x) := w64 (by omega) (by omega)
    have hsy : bnd (rnd (keptI h x * folI th ra (levI at_ re lev x))) = rnd (keptI h x * folI th ra (levI at_ re lev x)) := bnd_self' (hkx.rnd hfo.1 hfo.2)
    have hby2 := hby.ne (show w.heap.size ≠ w.heap.size + 1 by omega) 4 (.int .i64 (levI at_ re lev x))
    simp -dsimp -implicitDefEqProofs only [hsz, b4', m46, sF46, Nat.reduceEqDiff, ↓reduceIte, Nat.reduceAdd, Nat.reduceMul, Value.cells, Value.oneCell', eq_self, ne_eq, Int.reduceToNat, Int.reduceEq, Int.reduceLT, Int.reduceLE, Int.reduceNeg, if_true, if_false, reduceCtorEq, Nat.reduceSub, storeV_ptr, slcV_slice, ↓mwD, mwU]
    refine (refFollow_c hA4 hx q5 q6 q7 q8 q9 q10).use ?_
    rintro _ W' ⟨rfl, hw⟩
    obtain rfl := hw.symm
    simp -dsimp -implicitDefEqProofs only [hsz, b4', hbx.frozen, and_self, e0, e4, l4, f4, m46, sF46, Nat.reduceEqDiff, ↓reduceIte, Nat.reduceAdd, Nat.reduceMul, Value.cells, Value.oneCell', eq_self, ne_eq, Int.reduceToNat, Int.reduceEq, Int.reduceLT, Int.reduceLE, Int.reduceNeg, if_true, if_false, reduceCtorEq, Nat.reduceSub, storeV_ptr, slcV_slice, ↓mwD, mwU]
    refine iteW_dec (fun h0 => ?_) (fun h0 => ?_)
    · have hkp : (histU (US.look th ra at_ re lev h)).getD ((h.length : Int) - 1).toNat 0 = keptI h x := by
        have hne : h ≠ [] := by rintro rfl; simp at h0
        rw [keptI, if_neg hne, show ((h.length : Int) - 1).toNat = h.length - 1 by omega]; rfl
      refine mwpB_drawE ?_
      simp -dsimp -implicitDefEqProofs only [hsz, e3, f4, l4, m46, sF46, Nat.reduceEqDiff, ↓reduceIte, Nat.reduceAdd, Nat.reduceMul, Value.cells, Value.oneCell', eq_self, ne_eq, Int.reduceToNat, Int.reduceEq, Int.reduceLT, Int.reduceLE, Int.reduceNeg, if_true, if_false, reduceCtorEq, Nat.reduceSub, storeV_ptr, slcV_slice, ↓mwD, mwU]
      refine (hago _ h.length hxs.drew' (by omega) (by simp [histU])).use ?_
      rintro _ W' ⟨rfl, hw⟩
      obtain rfl := hw.symm
      rw [hkp]
      refine ⟨Ext.refl _, ?_⟩
      simp -dsimp -implicitDefEqProofs only [hsz, e4, m46, sF46, Nat.reduceEqDiff, ↓reduceIte, Nat.reduceAdd, Nat.reduceMul, Value.cells, Value.oneCell', eq_self, ne_eq, Int.reduceToNat, Int.reduceEq, Int.reduceLT, Int.reduceLE, Int.reduceNeg, if_true, if_false, reduceCtorEq, Nat.reduceSub, storeV_ptr, slcV_slice, ↓mwD, mwU]
      refine (refGain_c (w := (W.setCell ⟨w.heap.size, 4, none⟩ (.int .i64 (levI at_ re lev x))).drew) hA2 q1 q2 q3 hlev.1 hlev.2).use ?_
      rintro _ w5 ⟨rfl, x5⟩
      have x5' := (Ext.drew (W.setCell ⟨w.heap.size, 4, none⟩ (.int .i64 (levI at_ re lev x)))).trans x5
      simp -dsimp -implicitDefEqProofs only [em, m46, sF46, Nat.reduceEqDiff, ↓reduceIte, Nat.reduceAdd, Nat.reduceMul, Value.cells, Value.oneCell', eq_self, ne_eq, Int.reduceToNat, Int.reduceEq, Int.reduceLT, Int.reduceLE, Int.reduceNeg, if_true, if_false, reduceCtorEq, Nat.reduceSub, storeV_ptr, slcV_slice, ↓mwD, mwU]
      refine (Rounded_c _ (by omega) (by omega) _).use ?_
      rintro _ _ ⟨rfl, rfl⟩
      simp -dsimp -implicitDefEqProofs only [m46, sF46, Nat.reduceEqDiff, ↓reduceIte, Nat.reduceAdd, Nat.reduceMul, Value.cells, Value.oneCell', eq_self, ne_eq, Int.reduceToNat, Int.reduceEq, Int.reduceLT, Int.reduceLE, Int.reduceNeg, if_true, if_false, reduceCtorEq, Nat.reduceSub, storeV_ptr, slcV_slice, ↓mwD, mwU]
      refine (Bounded_c _ _).use ?_
      rintro _ _ ⟨rfl, rfl⟩
      obtain ⟨w9, hs9, hb9, hf9⟩ := store_ref (hby2.ext x5') rfl 7 (levI at_ re lev x) op (some ⟨bA, oA, none⟩) pt pp A.length ca T.length ct (histU (US.look th ra at_ re lev h)).reverse.length cp
      have c0 := (hb4.ext x5').get (o := 0) rfl
      have c1 := (hb4.ext x5').get (o := 1) rfl
      have c2 := (hb4.ext x5').get (o := 2) rfl
      have c3 := (hb4.ext x5').get (o := 3) rfl
      have c4 := (hb4.ext x5').get (o := 4) rfl
      have c5 := (hb4.ext x5').get (o := 5) rfl
      have d0 := hb9.get (o := 0) rfl
      have d1 := hb9.get (o := 1) rfl
      have d2 := hb9.get (o := 2) rfl
      have d3 := hb9.get (o := 3) rfl
      have d4 := hb9.get (o := 4) rfl
      have d5 := hb9.get (o := 5) rfl
      have x9 : Ext w w9 := hf9.ext (hxs.trans x5') (by simp)
      simp -dsimp -implicitDefEqProofs only [hsz, c0, c1, c2, c3, c4, c5, hs9, d0, d1, d2, d3, d4, d5, m46, sF46, Nat.reduceEqDiff, ↓reduceIte, Nat.reduceAdd, Nat.reduceMul, Value.cells, Value.oneCell', eq_self, ne_eq, Int.reduceToNat, Int.reduceEq, Int.reduceLT, Int.reduceLE, Int.reduceNeg, if_true, if_false, reduceCtorEq, Nat.reduceSub, slcV_slice, ↓mwD, mwU]
      rw [hsy]
      exact ⟨op, rfl, openR.mono (s := US.look th ra at_ re lev h) ho (by omega), x9⟩
    · have hkp : keptI h x = x := by
        have hne : h = [] := by cases h with
          | nil => rfl
          | cons y h => simp at h0
        rw [keptI, if_pos hne]
      have em' : IntKind.i64.wrap (x * folI th ra (levI at_ re lev x)) = keptI h x * folI th ra (levI at_ re lev x) := by rw [hkp] at em ⊢; exact em
      simp -dsimp -implicitDefEqProofs only [hsz, e4, m46, sF46, Nat.reduceEqDiff, ↓reduceIte, Nat.reduceAdd, Nat.reduceMul, Value.cells, Value.oneCell', eq_self, ne_eq, Int.reduceToNat, Int.reduceEq, Int.reduceLT, Int.reduceLE, Int.reduceNeg, if_true, if_false, reduceCtorEq, Nat.reduceSub, storeV_ptr, slcV_slice, ↓mwD, mwU]
      refine (refGain_c hA2 q1 q2 q3 hlev.1 hlev.2).use ?_
      rintro _ w5 ⟨rfl, x5⟩
      simp -dsimp -implicitDefEqProofs only [em', m46, sF46, Nat.reduceEqDiff, ↓reduceIte, Nat.reduceAdd, Nat.reduceMul, Value.cells, Value.oneCell', eq_self, ne_eq, Int.reduceToNat, Int.reduceEq, Int.reduceLT, Int.reduceLE, Int.reduceNeg, if_true, if_false, reduceCtorEq, Nat.reduceSub, storeV_ptr, slcV_slice, ↓mwD, mwU]
      refine (Rounded_c _ (by omega) (by omega) _).use ?_
      rintro _ _ ⟨rfl, rfl⟩
      simp -dsimp -implicitDefEqProofs only [m46, sF46, Nat.reduceEqDiff, ↓reduceIte, Nat.reduceAdd, Nat.reduceMul, Value.cells, Value.oneCell', eq_self, ne_eq, Int.reduceToNat, Int.reduceEq, Int.reduceLT, Int.reduceLE, Int.reduceNeg, if_true, if_false, reduceCtorEq, Nat.reduceSub, storeV_ptr, slcV_slice, ↓mwD, mwU]
      refine (Bounded_c _ _).use ?_
      rintro _ _ ⟨rfl, rfl⟩
      obtain ⟨w9, hs9, hb9, hf9⟩ := store_ref (hby2.ext x5) rfl 7 (levI at_ re lev x) op (some ⟨bA, oA, none⟩) pt pp A.length ca T.length ct (histU (US.look th ra at_ re lev h)).reverse.length cp
      have c0 := (hb4.ext x5).get (o := 0) rfl
      have c1 := (hb4.ext x5).get (o := 1) rfl
      have c2 := (hb4.ext x5).get (o := 2) rfl
      have c3 := (hb4.ext x5).get (o := 3) rfl
      have c4 := (hb4.ext x5).get (o := 4) rfl
      have c5 := (hb4.ext x5).get (o := 5) rfl
      have d0 := hb9.get (o := 0) rfl
      have d1 := hb9.get (o := 1) rfl
      have d2 := hb9.get (o := 2) rfl
      have d3 := hb9.get (o := 3) rfl
      have d4 := hb9.get (o := 4) rfl
      have d5 := hb9.get (o := 5) rfl
      have x9 : Ext w w9 := hf9.ext (hxs.trans x5) (by simp)
      simp -dsimp -implicitDefEqProofs only [hsz, c0, c1, c2, c3, c4, c5, hs9, d0, d1, d2, d3, d4, d5, m46, sF46, Nat.reduceEqDiff, ↓reduceIte, Nat.reduceAdd, Nat.reduceMul, Value.cells, Value.oneCell', eq_self, ne_eq, Int.reduceToNat, Int.reduceEq, Int.reduceLT, Int.reduceLE, Int.reduceNeg, if_true, if_false, reduceCtorEq, Nat.reduceSub, slcV_slice, ↓mwD, mwU]
      rw [hsy]
      exact ⟨op, rfl, openR.mono (s := US.look th ra at_ re lev h) ho (by omega), x9⟩
  | gate th hold since =>
    obtain ⟨rfl, hAe, hTe⟩ := hk
    obtain ⟨q1, q2, q3, q4, q5, q6⟩ := id hs
    obtain ⟨bA, oA, cA, hvA, hcA⟩ := hA'.some (by rw [hAe]; simp)
    cases hvA
    have a0 : W.cell? ⟨bA, oA, none⟩ = some (.int .i64 th) := hcA 0 th (by rw [hAe]; rfl)
    have a1 : W.cell? ⟨bA, oA + 1, none⟩ = some (.int .i64 hold) := hcA 1 hold (by rw [hAe]; rfl)
    have l0 : (0 : Int) < (A.length : Nat) := by rw [hAe]; simp
    have l1 : (1 : Int) < (A.length : Nat) := by rw [hAe]; simp
    have hneg : IntKind.i64.wrap (0 - x) = -x := by rw [w64 (by omega) (by omega)]; omega
    by_cases h1 : th ≤ x
    · have hop : th ≤ absI x := by unfold absI; split <;> omega
      have hs0 : sinceI th since x = 0 := by rw [sinceI, if_pos hop]
      have hb5 := hbx.set 5 (.int .i64 0)
      have e5 : (W.setCell ⟨w.heap.size, 5, none⟩ (.int .i64 0)).cell? ⟨w.heap.size, 5, none⟩ = some (.int .i64 0) := hb5.get (o := 5) rfl
      have hxs : Ext w (W.setCell ⟨w.heap.size, 5, none⟩ (.int .i64 0)) := hxx.setCell (Nat.le_refl _) _
      have hby2 := hby.ne (show w.heap.size ≠ w.heap.size + 1 by omega) 5 (.int .i64 0)
      have f1 : (W.setCell ⟨w.heap.size, 5, none⟩ (.int .i64 0)).cell? ⟨bA, oA + 1, none⟩ = some (.int .i64 hold) := by
        obtain ⟨_, _, _, hv, hc⟩ := (hA.ext hxs).some (by rw [hAe]; simp)
        cases hv
        exact hc 1 _ (by rw [hAe]; rfl)
      have hn : ¬ hold < 0 := by omega
      simp -dsimp -implicitDefEqProofs only [h1, hsz, a0, l0, hneg, b5, hbx.frozen, and_self, decide_true, decide_false, m46, sF46, Nat.reduceEqDiff, ↓reduceIte, Nat.reduceAdd, Nat.reduceMul, Value.cells, Value.oneCell', eq_self, ne_eq, Int.reduceToNat, Int.reduceEq, Int.reduceLT, Int.reduceLE, Int.reduceNeg, if_true, if_false, reduceCtorEq, Nat.reduceSub, storeV_ptr, slcV_slice, ↓mwD, mwU]
      refine mwpB_drawE ?_
      simp -dsimp -implicitDefEqProofs only [hsz, e5, f1, l1, hn, decide_false, m46, sF46, Nat.reduceEqDiff, ↓reduceIte, Nat.reduceAdd, Nat.reduceMul, Value.cells, Value.oneCell', eq_self, ne_eq, Int.reduceToNat, Int.reduceEq, Int.reduceLT, Int.reduceLE, Int.reduceNeg, if_true, if_false, reduceCtorEq, Nat.reduceSub, storeV_ptr, slcV_slice, ↓mwD, mwU]
      obtain ⟨w9, hs9, hb9, hf9⟩ := store_ref hby2.drew rfl 6 (levU (US.gate th hold since)) 0 (some ⟨bA, oA, none⟩) pt pp A.length ca T.length ct (histU (US.gate th hold since)).reverse.length cp
      have c0 := hb5.get (o := 0) rfl
      have c1 := hb5.get (o := 1) rfl
      have c2 := hb5.get (o := 2) rfl
      have c3 := hb5.get (o := 3) rfl
      have c4 := hb5.get (o := 4) rfl
      have c5 := hb5.get (o := 5) rfl
      have d0 := hb9.get (o := 0) rfl
      have d1 := hb9.get (o := 1) rfl
      have d2 := hb9.get (o := 2) rfl
      have d3 := hb9.get (o := 3) rfl
      have d4 := hb9.get (o := 4) rfl
      have d5 := hb9.get (o := 5) rfl
      have x9 : Ext w w9 := hf9.ext hxs.drew' (by simp)
      simp -dsimp -implicitDefEqProofs only [hsz, c0, c1, c2, c3, c4, c5, hs9, d0, d1, d2, d3, d4, d5, m46, sF46, Nat.reduceEqDiff, ↓reduceIte, Nat.reduceAdd, Nat.reduceMul, Value.cells, Value.oneCell', eq_self, ne_eq, Int.reduceToNat, Int.reduceEq, Int.reduceLT, Int.reduceLE, Int.reduceNeg, if_true, if_false, reduceCtorEq, Nat.reduceSub, slcV_slice, ↓mwD, mwU]
      refine ⟨0, ?_, .inr ⟨by omega, by omega, ?_⟩, x9⟩
      · rw [stepU, hs0, if_neg (by omega)]; rfl
      · rw [hs0]; rfl
    · by_cases h2 : th ≤ -x
      · have hop : th ≤ absI x := by unfold absI; split <;> omega
        have hs0 : sinceI th since x = 0 := by rw [sinceI, if_pos hop]
        have hb5 := hbx.set 5 (.int .i64 0)
        have e5 : (W.setCell ⟨w.heap.size, 5, none⟩ (.int .i64 0)).cell? ⟨w.heap.size, 5, none⟩ = some (.int .i64 0) := hb5.get (o := 5) rfl
        have hxs : Ext w (W.setCell ⟨w.heap.size, 5, none⟩ (.int .i64 0)) := hxx.setCell (Nat.le_refl _) _
        have hby2 := hby.ne (show w.heap.size ≠ w.heap.size + 1 by omega) 5 (.int .i64 0)
        have f1 : (W.setCell ⟨w.heap.size, 5, none⟩ (.int .i64 0)).cell? ⟨bA, oA + 1, none⟩ = some (.int .i64 hold) := by
          obtain ⟨_, _, _, hv, hc⟩ := (hA.ext hxs).some (by rw [hAe]; simp)
          cases hv
          exact hc 1 _ (by rw [hAe]; rfl)
        have hn : ¬ hold < 0 := by omega
        simp -dsimp -implicitDefEqProofs only [h1, h2, hsz, a0, l0, hneg, b5, hbx.frozen, and_self, decide_true, decide_false, m46, sF46, Nat.reduceEqDiff, ↓reduceIte, Nat.reduceAdd, Nat.reduceMul, Value.cells, Value.oneCell', eq_self, ne_eq, Int.reduceToNat, Int.reduceEq, Int.reduceLT, Int.reduceLE, Int.reduceNeg, if_true, if_false, reduceCtorEq, Nat.reduceSub, storeV_ptr, slcV_slice, ↓mwD, mwU]
        refine mwpB_drawE ?_
        simp -dsimp -implicitDefEqProofs only [hsz, e5, f1, l1, hn, decide_false, m46, sF46, Nat.reduceEqDiff, ↓reduceIte, Nat.reduceAdd, Nat.reduceMul, Value.cells, Value.oneCell', eq_self, ne_eq, Int.reduceToNat, Int.reduceEq, Int.reduceLT, Int.reduceLE, Int.reduceNeg, if_true, if_false, reduceCtorEq, Nat.reduceSub, storeV_ptr, slcV_slice, ↓mwD, mwU]
        obtain ⟨w9, hs9, hb9, hf9⟩ := store_ref hby2.drew rfl 6 (levU (US.gate th hold since)) 0 (some ⟨bA, oA, none⟩) pt pp A.length ca T.length ct (histU (US.gate th hold since)).reverse.length cp
        have c0 := hb5.get (o := 0) rfl
        have c1 := hb5.get (o := 1) rfl
        have c2 := hb5.get (o := 2) rfl
        have c3 := hb5.get (o := 3) rfl
        have c4 := hb5.get (o := 4) rfl
        have c5 := hb5.get (o := 5) rfl
        have d0 := hb9.get (o := 0) rfl
        have d1 := hb9.get (o := 1) rfl
        have d2 := hb9.get (o := 2) rfl
        have d3 := hb9.get (o := 3) rfl
        have d4 := hb9.get (o := 4) rfl
        have d5 := hb9.get (o := 5) rfl
        have x9 : Ext w w9 := hf9.ext hxs.drew' (by simp)
        simp -dsimp -implicitDefEqProofs only [hsz, c0, c1, c2, c3, c4, c5, hs9, d0, d1, d2, d3, d4, d5, m46, sF46, Nat.reduceEqDiff, ↓reduceIte, Nat.reduceAdd, Nat.reduceMul, Value.cells, Value.oneCell', eq_self, ne_eq, Int.reduceToNat, Int.reduceEq, Int.reduceLT, Int.reduceLE, Int.reduceNeg, if_true, if_false, reduceCtorEq, Nat.reduceSub, slcV_slice, ↓mwD, mwU]
        refine ⟨0, ?_, .inr ⟨by omega, by omega, ?_⟩, x9⟩
        · rw [stepU, hs0, if_neg (by omega)]; rfl
        · rw [hs0]; rfl
      · have hop : ¬ th ≤ absI x := by unfold absI; split <;> omega
        have hs1 : sinceI th since x = (if 4097 < since + 1 then 4097 else since + 1) := by rw [sinceI, if_neg hop]
        rcases ho with ⟨rfl, rfl⟩ | ⟨ho1, ho2, ho3⟩
        · have hs2 : sinceI th 4097 x = 4097 := by rw [hs1]; rfl
          have hn : hold < 4097 := by omega
          simp -dsimp -implicitDefEqProofs only [h1, h2, hsz, a0, l0, hneg, b5, decide_true, decide_false, m46, sF46, Nat.reduceEqDiff, ↓reduceIte, Nat.reduceAdd, Nat.reduceMul, Value.cells, Value.oneCell', eq_self, ne_eq, Int.reduceToNat, Int.reduceEq, Int.reduceLT, Int.reduceLE, Int.reduceNeg, if_true, if_false, reduceCtorEq, Nat.reduceSub, storeV_ptr, slcV_slice, ↓mwD, mwU]
          refine mwpB_drawE ?_
          simp -dsimp -implicitDefEqProofs only [hsz, b5, m46, sF46, Nat.reduceEqDiff, ↓reduceIte, Nat.reduceAdd, Nat.reduceMul, Value.cells, Value.oneCell', eq_self, ne_eq, Int.reduceToNat, Int.reduceEq, Int.reduceLT, Int.reduceLE, Int.reduceNeg, if_true, if_false, reduceCtorEq, Nat.reduceSub, storeV_ptr, slcV_slice, ↓mwD, mwU]
          obtain ⟨w9, hs9, hb9, hf9⟩ := store_ref hby.drew rfl 6 (levU (US.gate th hold 4097)) (-1) (some ⟨bA, oA, none⟩) pt pp A.length ca T.length ct (histU (US.gate th hold 4097)).reverse.length cp
          have c0 := hbx.get (o := 0) rfl
          have c1 := hbx.get (o := 1) rfl
          have c2 := hbx.get (o := 2) rfl
          have c3 := hbx.get (o := 3) rfl
          have c4 := hbx.get (o := 4) rfl
          have c5 := hbx.get (o := 5) rfl
          have d0 := hb9.get (o := 0) rfl
          have d1 := hb9.get (o := 1) rfl
          have d2 := hb9.get (o := 2) rfl
          have d3 := hb9.get (o := 3) rfl
          have d4 := hb9.get (o := 4) rfl
          have d5 := hb9.get (o := 5) rfl
          have x9 : Ext w w9 := hf9.ext hxx.drew' (by simp)
          simp -dsimp -implicitDefEqProofs only [hsz, c0, c1, c2, c3, c4, c5, hs9, d0, d1, d2, d3, d4, d5, m46, sF46, Nat.reduceEqDiff, ↓reduceIte, Nat.reduceAdd, Nat.reduceMul, Value.cells, Value.oneCell', eq_self, ne_eq, Int.reduceToNat, Int.reduceEq, Int.reduceLT, Int.reduceLE, Int.reduceNeg, if_true, if_false, reduceCtorEq, Nat.reduceSub, slcV_slice, ↓mwD, mwU]
          refine ⟨-1, ?_, .inl ⟨rfl, hs2⟩, x9⟩
          rw [stepU, hs2, if_pos hn]
        · have hb5 := hbx.set 5 (.int .i64 (op + 1))
          have e5 : (W.setCell ⟨w.heap.size, 5, none⟩ (.int .i64 (op + 1))).cell? ⟨w.heap.size, 5, none⟩ = some (.int .i64 (op + 1)) := hb5.get (o := 5) rfl
          have hxs : Ext w (W.setCell ⟨w.heap.size, 5, none⟩ (.int .i64 (op + 1))) := hxx.setCell (Nat.le_refl _) _
          have hby2 := hby.ne (show w.heap.size ≠ w.heap.size + 1 by omega) 5 (.int .i64 (op + 1))
          have f1 : (W.setCell ⟨w.heap.size, 5, none⟩ (.int .i64 (op + 1))).cell? ⟨bA, oA + 1, none⟩ = some (.int .i64 hold) := by
            obtain ⟨_, _, _, hv, hc⟩ := (hA.ext hxs).some (by rw [hAe]; simp)
            cases hv
            exact hc 1 _ (by rw [hAe]; rfl)
          have eo : IntKind.i64.wrap (op + 1) = op + 1 := w64 (by omega) (by omega)
          have n1 : ¬ op + 1 < 0 := by omega
          have hlt : (hold < sinceI th since x) ↔ hold < op + 1 := by rw [hs1, ho3]; split <;> split <;> omega
          simp -dsimp -implicitDefEqProofs only [h1, h2, ho1, hsz, a0, l0, hneg, b5, hbx.frozen, and_self, decide_true, decide_false, eo, m46, sF46, Nat.reduceEqDiff, ↓reduceIte, Nat.reduceAdd, Nat.reduceMul, Value.cells, Value.oneCell', eq_self, ne_eq, Int.reduceToNat, Int.reduceEq, Int.reduceLT, Int.reduceLE, Int.reduceNeg, if_true, if_false, reduceCtorEq, Nat.reduceSub, storeV_ptr, slcV_slice, ↓mwD, mwU]
          refine mwpB_drawE ?_
          simp -dsimp -implicitDefEqProofs only [hsz, e5, f1, l1, n1, decide_false, m46, sF46, Nat.reduceEqDiff, ↓reduceIte, Nat.reduceAdd, Nat.reduceMul, Value.cells, Value.oneCell', eq_self, ne_eq, Int.reduceToNat, Int.reduceEq, Int.reduceLT, Int.reduceLE, Int.reduceNeg, if_true, if_false, reduceCtorEq, Nat.reduceSub, storeV_ptr, slcV_slice, ↓mwD, mwU]
          refine iteW_dec (fun hh => ?_) (fun hh => ?_)
          · skip
            obtain ⟨w9, hs9, hb9, hf9⟩ := store_ref hby2.drew rfl 6 (levU (US.gate th hold since)) (op + 1) (some ⟨bA, oA, none⟩) pt pp A.length ca T.length ct (histU (US.gate th hold since)).reverse.length cp
            have c0 := hb5.get (o := 0) rfl
            have c1 := hb5.get (o := 1) rfl
            have c2 := hb5.get (o := 2) rfl
            have c3 := hb5.get (o := 3) rfl
            have c4 := hb5.get (o := 4) rfl
            have c5 := hb5.get (o := 5) rfl
            have d0 := hb9.get (o := 0) rfl
            have d1 := hb9.get (o := 1) rfl
            have d2 := hb9.get (o := 2) rfl
            have d3 := hb9.get (o := 3) rfl
            have d4 := hb9.get (o := 4) rfl
            have d5 := hb9.get (o := 5) rfl
            have x9 : Ext w w9 := hf9.ext hxs.drew' (by simp)
            simp -dsimp -implicitDefEqProofs only [hsz, c0, c1, c2, c3, c4, c5, hs9, d0, d1, d2, d3, d4, d5, m46, sF46, Nat.reduceEqDiff, ↓reduceIte, Nat.reduceAdd, Nat.reduceMul, Value.cells, Value.oneCell', eq_self, ne_eq, Int.reduceToNat, Int.reduceEq, Int.reduceLT, Int.reduceLE, Int.reduceNeg, if_true, if_false, reduceCtorEq, Nat.reduceSub, slcV_slice, ↓mwD, mwU]
            refine ⟨op + 1, ?_, .inr ⟨by omega, by omega, ?_⟩, x9⟩
            · rw [stepU, if_pos (hlt.2 hh)]; rfl
            · rw [hs1, ho3]; split <;> split <;> split <;> omega
          · skip
            obtain ⟨w9, hs9, hb9, hf9⟩ := store_ref hby2.drew rfl 6 (levU (US.gate th hold since)) (op + 1) (some ⟨bA, oA, none⟩) pt pp A.length ca T.length ct (histU (US.gate th hold since)).reverse.length cp
            have c0 := hb5.get (o := 0) rfl
            have c1 := hb5.get (o := 1) rfl
            have c2 := hb5.get (o := 2) rfl
            have c3 := hb5.get (o := 3) rfl
            have c4 := hb5.get (o := 4) rfl
            have c5 := hb5.get (o := 5) rfl
            have d0 := hb9.get (o := 0) rfl
            have d1 := hb9.get (o := 1) rfl
            have d2 := hb9.get (o := 2) rfl
            have d3 := hb9.get (o := 3) rfl
            have d4 := hb9.get (o := 4) rfl
            have d5 := hb9.get (o := 5) rfl
            have x9 : Ext w w9 := hf9.ext hxs.drew' (by simp)
            simp -dsimp -implicitDefEqProofs only [hsz, c0, c1, c2, c3, c4, c5, hs9, d0, d1, d2, d3, d4, d5, m46, sF46, Nat.reduceEqDiff, ↓reduceIte, Nat.reduceAdd, Nat.reduceMul, Value.cells, Value.oneCell', eq_self, ne_eq, Int.reduceToNat, Int.reduceEq, Int.reduceLT, Int.reduceLE, Int.reduceNeg, if_true, if_false, reduceCtorEq, Nat.reduceSub, slcV_slice, ↓mwD, mwU]
            refine ⟨op + 1, ?_, .inr ⟨by omega, by omega, ?_⟩, x9⟩
            · rw [stepU, if_neg (fun h => hh (hlt.1 h))]; rfl
            · rw [hs1, ho3]; split <;> split <;> split <;> omega
end Go.Proofs.YtefcfnmmpnjjjaaGreatDoor

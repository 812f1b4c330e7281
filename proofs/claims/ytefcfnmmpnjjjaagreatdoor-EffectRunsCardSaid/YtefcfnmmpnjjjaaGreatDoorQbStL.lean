/- EffectRuns: what an effect makes of samples, at once and in blocks. -/
import Derived.Test.YtefcfnmmpnjjjaaGreatDoorQbStF
import Derived.Test.YtefcfnmmpnjjjaaGreatDoorQbStK
import Derived.Test.YtefcfnmmpnjjjaaGreatDoorQbMwJoin
namespace Go.Proofs.YtefcfnmmpnjjjaaGreatDoor
open Go.RowKit
set_option linter.unusedSimpArgs false

/-- A part of a row that came in. -/
theorem sl_slc {w : World} {v : Value} {L : List Int} {i j : Nat} (h : SlI w v L) (hij : i ≤ j) (hj : j ≤ L.length) :
    ∃ p c, slcV Go.Proofs.Tryz.prog 22 v (some (.int .i64 i)) (some (.int .i64 j)) = some (.slice p (j - i) c) ∧ SlI w (.slice p (j - i) c) ((L.drop i).take (j - i)) ∧ ∀ q, (Value.slice p (j - i) c).ownBlock = some q → v.ownBlock = some q := by
  rcases h with ⟨rfl, h2⟩ | ⟨b, o, cap, rfl, hle, hm, hc⟩
  · have hl : L = [] := by simpa [ints] using h2
    subst hl
    obtain rfl : i = 0 := by simp at hj; omega
    obtain rfl : j = 0 := by simpa using hj
    refine ⟨none, 0, ?_, SlI.nil _, fun q hq => by simp [Value.ownBlock] at hq⟩
    rw [slcV_slice, telem_22]
    simp [boundV_some, tok_3, tsz_3]
  · rw [ints_length] at hle ⊢
    refine ⟨if (cap : Int) = i then some ⟨b, o, none⟩ else some ⟨b, o + i, none⟩, cap - i, ?_, ?_, fun q hq => ?_⟩
    · have hb : (0 : Int) ≤ i ∧ (i : Int) ≤ j ∧ (j : Int) ≤ cap := by omega
      rw [slcV_slice, telem_22]
      simp only [Option.bind_some, boundV_some, tok_3, tsz_3, hb, and_self, if_true, Option.map_some, Addr.add_lit, Int.toNat_natCast, Nat.mul_one]
      congr 2
      · omega
      · omega
    · by_cases hci : (cap : Int) = i
      · have hji : j - i = 0 := by omega
        rw [if_pos hci, hji]
        exact .inr ⟨b, o, cap - i, by simp [ints], by simp [ints], by omega, fun k u hk => by simp [ints] at hk⟩
      · rw [if_neg hci]
        have hlen : (ints ((L.drop i).take (j - i))).length = j - i := by rw [ints_length, List.length_take, List.length_drop]; omega
        refine .inr ⟨b, o + i, cap - i, by rw [hlen], by rw [hlen]; omega, by omega, fun k u hk => ?_⟩
        have hkl : k < j - i := by have := (List.getElem?_eq_some_iff.1 hk).1; omega
        have : (ints L)[i + k]? = some u := by
          rw [← hk]
          simp only [ints, List.getElem?_map, List.getElem?_take, List.getElem?_drop]
          rw [if_pos hkl]
        have := hc (i + k) u this
        rw [show o + i + k = o + (i + k) by omega]
        exact this
    · split at hq <;> simpa [Value.ownBlock] using hq
theorem runU_append : ∀ (l m : List Int) (s : US), runU s (l ++ m) = ((runU (runU s l).1 m).1, (runU s l).2 ++ (runU (runU s l).1 m).2)
  | [], m, s => by simp [runU]
  | x :: l, m, s => by simp [runU, runU_append l m]
theorem mid_part (p q r : List Int) (i d : Nat) (h1 : p.length = i) (h2 : q.length = d) : ((p ++ (q ++ r)).drop i).take d = q := by
  subst h1 h2; simp
theorem runU_part (s : US) (L : List Int) (i d : Nat) (h : i + d ≤ L.length) :
    (runU (runU s (L.take i)).1 ((L.drop i).take d)).1 = (runU s (L.take (i + d))).1 ∧ (runU (runU s (L.take i)).1 ((L.drop i).take d)).2 = ((runU s L).2.drop i).take d := by
  have e1 : L.take (i + d) = L.take i ++ (L.drop i).take d := by rw [List.take_add]
  have e2 : L = L.take i ++ ((L.drop i).take d ++ (L.drop i).drop d) := by rw [List.take_append_drop, List.take_append_drop]
  refine ⟨by rw [e1, runU_append], ?_⟩
  have hl1 : (runU s (L.take i)).2.length = i := by rw [runU_length, List.length_take]; omega
  have hl2 : (runU (runU s (L.take i)).1 ((L.drop i).take d)).2.length = d := by rw [runU_length, List.length_take, List.length_drop]; omega
  have e3 : (runU s L).2 = (runU s (L.take i)).2 ++ ((runU (runU s (L.take i)).1 ((L.drop i).take d)).2 ++ (runU (runU (runU s (L.take i)).1 ((L.drop i).take d)).1 ((L.drop i).drop d)).2) := by
    conv => lhs; rw [e2]
    rw [runU_append, runU_append]
  rw [e3, mid_part _ _ _ i d hl1 hl2]
theorem samples_part {L : List Int} (h : samplesB L = true) (i d : Nat) : samplesB ((L.drop i).take d) = true := by
  simp only [samplesB, Bool.and_eq_true, decide_eq_true_eq, Bool.not_eq_true', List.any_eq_false] at h ⊢
  refine ⟨by have := h.1; rw [List.length_take, List.length_drop]; omega, fun x hx => h.2 x (List.mem_of_mem_drop (List.mem_of_mem_take hx))⟩
theorem res_kin {s : US} {k : Int} {A T : List Int} (h : KinU s k A T) (hl : lenU s = lenU (initU k A T)) : resU (initU k A T) (numsU s) = s := by
  cases s <;> simp only [KinU] at h <;> obtain ⟨rfl, rfl, rfl⟩ := h
  case filter h =>
    have e : initU 4 [] T = .filter (List.replicate (T.length - 1) 0) T := by simp [initU]
    rw [e] at hl ⊢
    simp only [lenU, numsU] at hl
    simp only [resU, numsU]
    rw [fillL_self _ _ hl]
  all_goals simp [initU, resU, numsU, fillL_self]
theorem hist_init {k : Int} {A T : List Int} (h : VShape k A T) : (histU (initU k A T)).reverse = List.replicate (histU (initU k A T)).length 0 := by
  cases h <;> simp [initU, histU]
theorem lev_init {k : Int} {A T : List Int} : levU (initU k A T) = 0 := by
  unfold initU
  split <;> (try split) <;> (try split) <;> (try split) <;> (try split) <;> (try split) <;> rfl
theorem open_init {k : Int} {A T : List Int} : openR (initU k A T) 0 (-1) := by
  unfold initU
  split <;> (try split) <;> (try split) <;> (try split) <;> (try split) <;> (try split) <;> simp [openR]

theorem EffectRuns_c (k : Int) (a t : Value) (A T : List Int) (l : Value) (L : List Int) (cu : Value) (C : List Int) (at_ : Int) (w : World) (hE : EnvS w) (hA : SlI w a A) (hT : SlI w t T) (hL : SlI w l L) (hC : SlI w cu C) :
    Rets Go.Proofs.Tryz.prog 4 #[.agg #[.int .i64 k, a, t], l, cu, .int .i64 at_] w fun r w' => r = .bool true ∧ Ext w w' := by
  obtain ⟨pa, ca, rfl, _, _⟩ := hA.shape
  obtain ⟨pt, ct, rfl, _, _⟩ := hT.shape
  obtain ⟨pl, cl, rfl, _, _⟩ := hL.shape
  obtain ⟨pc, cc, rfl, _, _⟩ := hC.shape
  refine en4 ?_
  have hbx := Bk.new w [.int .i64 k, .slice pa A.length ca, .slice pt T.length ct] 24
  have hx0 : Ext w (w.alloc (.cells #[.int .i64 k, .slice pa A.length ca, .slice pt T.length ct] 24)) := Ext.alloc _ _
  simp -dsimp -implicitDefEqProofs only [m4, sF4, Nat.reduceEqDiff, ↓reduceIte, Nat.reduceAdd, Nat.reduceMul, Value.cells, Value.oneCell', eq_self, ne_eq, Int.reduceToNat, Int.reduceEq, Int.reduceLT, Int.reduceLE, Int.reduceNeg, if_true, if_false, reduceCtorEq, Nat.reduceSub, storeV_ptr, slcV_slice, ↓mwD, mwU]
  generalize hW0 : World.alloc w _ = W0 at *
  have b0 := hbx.get (o := 0) rfl
  have b1 := hbx.get (o := 1) rfl
  have b2 := hbx.get (o := 2) rfl
  have hE0 := hE.ext hx0
  refine (awake_c _).use ?_
  rintro r w1 ⟨rfl, x1⟩
  simp -dsimp -implicitDefEqProofs only [x1.cell b0, x1.cell b1, x1.cell b2, m4, sF4, Nat.reduceEqDiff, ↓reduceIte, Nat.reduceAdd, Nat.reduceMul, Value.cells, Value.oneCell', eq_self, ne_eq, Int.reduceToNat, Int.reduceEq, Int.reduceLT, Int.reduceLE, Int.reduceNeg, if_true, if_false, reduceCtorEq, Nat.reduceSub, storeV_ptr, slcV_slice, ↓mwD, mwU]
  refine (long_c k _ _ A T _ L w1 (hA.ext (hx0.trans x1)) (hT.ext (hx0.trans x1)) (hL.ext (hx0.trans x1))).use ?_
  rintro r w2 ⟨rfl, he2⟩
  have x2 := x1.trans he2
  cases hl : longB A T L
  rotate_left
  · simp -dsimp -implicitDefEqProofs only [m4, sF4, Nat.reduceEqDiff, ↓reduceIte, Nat.reduceAdd, Nat.reduceMul, Value.cells, Value.oneCell', eq_self, ne_eq, Int.reduceToNat, Int.reduceEq, Int.reduceLT, Int.reduceLE, Int.reduceNeg, if_true, if_false, reduceCtorEq, Nat.reduceSub, storeV_ptr, slcV_slice, ↓mwD, mwU]
    exact hx0.trans x2
  simp -dsimp -implicitDefEqProofs only [m4, sF4, Nat.reduceEqDiff, ↓reduceIte, Nat.reduceAdd, Nat.reduceMul, Value.cells, Value.oneCell', eq_self, ne_eq, Int.reduceToNat, Int.reduceEq, Int.reduceLT, Int.reduceLE, Int.reduceNeg, if_true, if_false, reduceCtorEq, Nat.reduceSub, storeV_ptr, slcV_slice, ↓mwD, mwU]
  refine iteW_dec (fun hcl => ?_) (fun hcl => ?_)
  · simp -dsimp -implicitDefEqProofs only [hcl, m4, sF4, Nat.reduceEqDiff, ↓reduceIte, Nat.reduceAdd, Nat.reduceMul, Value.cells, Value.oneCell', eq_self, ne_eq, Int.reduceToNat, Int.reduceEq, Int.reduceLT, Int.reduceLE, Int.reduceNeg, if_true, if_false, reduceCtorEq, Nat.reduceSub, storeV_ptr, slcV_slice, ↓mwD, mwU]
    exact hx0.trans x2
  simp -dsimp -implicitDefEqProofs only [x2.cell b0, x2.cell b1, x2.cell b2, m4, sF4, Nat.reduceEqDiff, ↓reduceIte, Nat.reduceAdd, Nat.reduceMul, Value.cells, Value.oneCell', eq_self, ne_eq, Int.reduceToNat, Int.reduceEq, Int.reduceLT, Int.reduceLE, Int.reduceNeg, if_true, if_false, reduceCtorEq, Nat.reduceSub, storeV_ptr, slcV_slice, ↓mwD, mwU]
  refine (ERun_c k _ _ A T _ L w2 (hA.ext (hx0.trans x2)) (hT.ext (hx0.trans x2)) (hL.ext (hx0.trans x2))).use ?_
  rintro r w3 ⟨he3, hr3⟩
  have x3 := x2.trans he3
  cases hv : validB k A T
  · simp only [hv, Bool.false_and, Bool.false_eq_true, if_false] at hr3
    subst hr3
    simp -dsimp -implicitDefEqProofs only [x3.cell b0, x3.cell b1, x3.cell b2, m4, sF4, Nat.reduceEqDiff, ↓reduceIte, Nat.reduceAdd, Nat.reduceMul, Value.cells, Value.oneCell', eq_self, ne_eq, Int.reduceToNat, Int.reduceEq, Int.reduceLT, Int.reduceLE, Int.reduceNeg, if_true, if_false, reduceCtorEq, Nat.reduceSub, storeV_ptr, slcV_slice, ↓mwD, mwU]
    refine (refNew_c k _ _ A T w3 (hA.ext (hx0.trans x3)) (hT.ext (hx0.trans x3))).use ?_
    rintro r w4 ⟨he4, hr4⟩
    rw [hv] at hr4
    simp only [Bool.false_eq_true, if_false] at hr4
    subst hr4
    obtain ⟨w5, hs5, hb5, hf5⟩ := store_ref (Bk.new w4 [.int .i64 0, .slice none 0 0, .slice none 0 0, .slice none 0 0, .int .i64 0, .int .i64 0] 39) rfl 0 0 0 none none none 0 0 0 0 0 0
    have x5 : Ext W0 w5 := hf5.ext ((x3.trans he4).alloc' _) (by have := (x3.trans he4).le; simpa using this)
    simp -dsimp -implicitDefEqProofs only [hs5, m4, sF4, Nat.reduceEqDiff, ↓reduceIte, Nat.reduceAdd, Nat.reduceMul, Value.cells, Value.oneCell', eq_self, ne_eq, Int.reduceToNat, Int.reduceEq, Int.reduceLT, Int.reduceLE, Int.reduceNeg, if_true, if_false, reduceCtorEq, Nat.reduceSub, slcV_slice, ↓mwD, mwU]
    exact hx0.trans x5
  have hsh := valid_shape hv
  simp only [hv, Bool.true_and] at hr3
  obtain ⟨po, co, R, e0, rfl, hR, hRe⟩ : ∃ po co R e0, r = .tuple #[.slice po R.length co, .int .i64 e0] ∧ SlI w3 (.slice po R.length co) R ∧ ((samplesB L = true ∧ R = (runU (initU k A T) L).2 ∧ e0 = 0) ∨ (samplesB L = false ∧ R = [] ∧ e0 = 1)) := by
    cases hsm : samplesB L
    · rw [hsm] at hr3
      simp only [Bool.false_eq_true, if_false] at hr3
      exact ⟨none, 0, [], 1, hr3, SlI.nil _, .inr ⟨rfl, rfl, rfl⟩⟩
    · rw [hsm] at hr3
      simp only [if_true] at hr3
      obtain ⟨o, rfl, ho⟩ := hr3
      obtain ⟨p, c, rfl, _, _⟩ := ho.shape
      exact ⟨_, _, _, 0, rfl, ho, .inl ⟨rfl, rfl, rfl⟩⟩
  clear hr3
  simp -dsimp -implicitDefEqProofs only [x3.cell b0, x3.cell b1, x3.cell b2, m4, sF4, Nat.reduceEqDiff, ↓reduceIte, Nat.reduceAdd, Nat.reduceMul, Value.cells, Value.oneCell', eq_self, ne_eq, Int.reduceToNat, Int.reduceEq, Int.reduceLT, Int.reduceLE, Int.reduceNeg, if_true, if_false, reduceCtorEq, Nat.reduceSub, storeV_ptr, slcV_slice, ↓mwD, mwU]
  refine (refNew_c k _ _ A T w3 (hA.ext (hx0.trans x3)) (hT.ext (hx0.trans x3))).use ?_
  rintro r w4 ⟨he4, hr4⟩
  rw [hv] at hr4
  simp only [if_true] at hr4
  obtain ⟨p4, rfl, hp4, hp4b⟩ := hr4
  rw [← hist_init hsh] at hp4
  obtain ⟨pp, cp, rfl, _, _⟩ := hp4.shape
  obtain ⟨w5, hs5, hb5, hf5⟩ := store_ref (Bk.new w4 [.int .i64 0, .slice none 0 0, .slice none 0 0, .slice none 0 0, .int .i64 0, .int .i64 0] 39) rfl k 0 (-1) pa pt pp A.length ca T.length ct (histU (initU k A T)).reverse.length cp
  have x5 : Ext W0 w5 := hf5.ext ((x3.trans he4).alloc' _) (by have := (x3.trans he4).le; simpa using this)
  have hp5 : SlI w5 (.slice pp (histU (initU k A T)).reverse.length cp) (histU (initU k A T)).reverse := by
    refine Sl.same (G := fun q => q < w4.heap.size) (cs := ints _) hp4 (fun q hq => ?_) (fun hne q hq => Sl.block (cs := ints _) hp4 hne q hq)
    rw [hf5.block q (by simp; omega), Below.heap_alloc _ _ _ hq]
  have e45 : Ext w4 w5 := hf5.ext (Ext.alloc _ _) (by simp)
  have hsz5 : w4.heap.size < w5.heap.size := hb5.lt
  have d0 := hb5.get (o := 0) rfl
  have d1 := hb5.get (o := 1) rfl
  have d2 := hb5.get (o := 2) rfl
  have d3 := hb5.get (o := 3) rfl
  have d4 := hb5.get (o := 4) rfl
  have d5 := hb5.get (o := 5) rfl
  simp -dsimp -implicitDefEqProofs only [hs5, m4, sF4, Nat.reduceEqDiff, ↓reduceIte, Nat.reduceAdd, Nat.reduceMul, Value.cells, Value.oneCell', eq_self, ne_eq, Int.reduceToNat, Int.reduceEq, Int.reduceLT, Int.reduceLE, Int.reduceNeg, if_true, if_false, reduceCtorEq, Nat.reduceSub, slcV_slice, ↓mwD, mwU]
  simp -dsimp -implicitDefEqProofs only [d0, d1, d2, d3, d4, d5, m4, sF4, Nat.reduceEqDiff, ↓reduceIte, Nat.reduceAdd, Nat.reduceMul, Value.cells, Value.oneCell', eq_self, ne_eq, Int.reduceToNat, Int.reduceEq, Int.reduceLT, Int.reduceLE, Int.reduceNeg, if_true, if_false, reduceCtorEq, Nat.reduceSub, storeV_ptr, slcV_slice, ↓mwD, mwU]
  have hx5 := hx0.trans x5
  have hrun := refRun_c (N := 0) (initU_ok hsh) (kin_init hsh) open_init (by omega) (hA.ext hx5) (hT.ext hx5) hp5 (hL.ext hx5)
  rw [lev_init] at hrun
  refine hrun.use ?_
  rintro r w6 ⟨x6, hr6⟩
  obtain ⟨lv, op6, pq, nq, cq, po6, co6, rfl, hR6, hq6⟩ : ∃ lv op6 pq nq cq po6 co6, r = .tuple #[refV k lv op6 (.slice pa A.length ca) (.slice pt T.length ct) (.slice pq nq cq), .slice po6 R.length co6, .int .i64 e0] ∧ SlI w6 (.slice po6 R.length co6) R ∧ ∀ q, (Value.slice po6 R.length co6).ownBlock = some q → w5.heap.size ≤ q := by
    rcases hRe with ⟨hsm, rfl, rfl⟩ | ⟨hsm, rfl, rfl⟩
    · rw [hsm] at hr6
      simp only [if_true] at hr6
      obtain ⟨p', op', o, rfl, hp', ho, _, _, hob⟩ := hr6
      obtain ⟨p, c, rfl, _, _⟩ := ho.shape
      obtain ⟨p2, c2, rfl, _, _⟩ := hp'.shape
      exact ⟨_, _, _, _, _, _, _, rfl, ho, hob⟩
    · rw [hsm] at hr6
      simp only [Bool.false_eq_true, if_false] at hr6
      exact ⟨_, _, _, _, _, none, 0, hr6, SlI.nil _, fun q hq => by simp [Value.ownBlock] at hq⟩
  clear hr6 hrun
  obtain ⟨w7, hs7, hb7, hf7⟩ := store_ref (Bk.new w6 [.int .i64 0, .slice none 0 0, .slice none 0 0, .slice none 0 0, .int .i64 0, .int .i64 0] 39) rfl k lv op6 pa pt pq A.length ca T.length ct nq cq
  have x67 : Ext w6 w7 := hf7.ext (Ext.alloc _ _) (by simp)
  have x7 := (x5.trans x6).trans x67
  simp -dsimp -implicitDefEqProofs only [hs7, m4, sF4, Nat.reduceEqDiff, ↓reduceIte, Nat.reduceAdd, Nat.reduceMul, Value.cells, Value.oneCell', eq_self, ne_eq, Int.reduceToNat, Int.reduceEq, Int.reduceLT, Int.reduceLE, Int.reduceNeg, if_true, if_false, reduceCtorEq, Nat.reduceSub, slcV_slice, ↓mwD, mwU]
  refine (ints_c (hR.ext (((he4.trans e45).trans x6).trans x67)) (hR6.ext x67)).use ?_
  rintro _ w8 ⟨rfl, he8⟩
  have x8 := x7.trans he8
  simp -dsimp -implicitDefEqProofs only [decide_true, m4, sF4, Nat.reduceEqDiff, ↓reduceIte, Nat.reduceAdd, Nat.reduceMul, Value.cells, Value.oneCell', eq_self, ne_eq, Int.reduceToNat, Int.reduceEq, Int.reduceLT, Int.reduceLE, Int.reduceNeg, if_true, if_false, reduceCtorEq, Nat.reduceSub, storeV_ptr, slcV_slice, ↓mwD, mwU]
  rcases hRe with ⟨hsm, rfl, rfl⟩ | ⟨hsm, rfl, rfl⟩
  rotate_left
  · simp -dsimp -implicitDefEqProofs only [m4, sF4, Nat.reduceEqDiff, ↓reduceIte, Nat.reduceAdd, Nat.reduceMul, Value.cells, Value.oneCell', eq_self, ne_eq, Int.reduceToNat, Int.reduceEq, Int.reduceLT, Int.reduceLE, Int.reduceNeg, if_true, if_false, reduceCtorEq, Nat.reduceSub, storeV_ptr, slcV_slice, ↓mwD, mwU]
    exact hx0.trans x8
  simp -dsimp -implicitDefEqProofs only [m4, sF4, Nat.reduceEqDiff, ↓reduceIte, Nat.reduceAdd, Nat.reduceMul, Value.cells, Value.oneCell', eq_self, ne_eq, Int.reduceToNat, Int.reduceEq, Int.reduceLT, Int.reduceLE, Int.reduceNeg, if_true, if_false, reduceCtorEq, Nat.reduceSub, storeV_ptr, slcV_slice, ↓mwD, mwU]
  simp -dsimp -implicitDefEqProofs only [x8.cell b0, x8.cell b1, x8.cell b2, m4, sF4, Nat.reduceEqDiff, ↓reduceIte, Nat.reduceAdd, Nat.reduceMul, Value.cells, Value.oneCell', eq_self, ne_eq, Int.reduceToNat, Int.reduceEq, Int.reduceLT, Int.reduceLE, Int.reduceNeg, if_true, if_false, reduceCtorEq, Nat.reduceSub, storeV_ptr, slcV_slice, ↓mwD, mwU]
  have hx8 := hx0.trans x8
  refine (NewB_c k _ _ A T w8 (hA.ext hx8) (hT.ext hx8)).use ?_
  rintro r w9 ⟨he9, hr9⟩
  rw [hv] at hr9
  simp only [if_true] at hr9
  obtain ⟨v9, F9, rfl, hu9⟩ := hr9
  have x9 := x8.trans he9
  simp -dsimp -implicitDefEqProofs only [m4, sF4, Nat.reduceEqDiff, ↓reduceIte, Nat.reduceAdd, Nat.reduceMul, Value.cells, Value.oneCell', eq_self, ne_eq, Int.reduceToNat, Int.reduceEq, Int.reduceLT, Int.reduceLE, Int.reduceNeg, if_true, if_false, reduceCtorEq, Nat.reduceSub, storeV_ptr, slcV_slice, ↓mwD, mwU]
  have hL5 := (samples_smps hsm).1
  have hlk := he4.le
  have hle48 : w4.heap.size < w8.heap.size := by have := e45.le; have := x6.le; have := x67.le; have := he8.le; omega
  have hLb : ∀ {q : Nat}, (Value.slice pl L.length cl).ownBlock = some q → L ≠ [] → q < W0.heap.size := fun {q} hq hne => Nat.lt_of_lt_of_le (Sl.block (cs := ints L) hL (by simpa [ints] using hne) q hq) hx0.le
  have hWb : ∀ {q : Nat}, (Value.slice po6 (runU (initU k A T) L).2.length co6).ownBlock = some q → (runU (initU k A T) L).2 ≠ [] → q ≠ w4.heap.size ∧ q < w8.heap.size := fun {q} hq hne => by
    have h1 := hq6 q hq
    have h2 := Sl.block (cs := ints (runU (initU k A T) L).2) hR6 (by simpa [ints] using hne) q hq
    have := x67.le; have := he8.le
    omega
  have hp89 : SlI w9 (.slice pp (histU (initU k A T)).reverse.length cp) (histU (initU k A T)).reverse := hp5.ext (((x6.trans x67).trans he8).trans he9)
  have hR9 : SlI w9 (.slice po6 (runU (initU k A T) L).2.length co6) (runU (initU k A T) L).2 := hR6.ext ((x67.trans he8).trans he9)
  have hb59 := ((hb5.ext x6).ext x67 |>.ext he8).ext he9
  have hppb : (histU (initU k A T)).reverse ≠ [] → ∀ q, (Value.slice pp (histU (initU k A T)).reverse.length cp).ownBlock = some q → q ≠ w4.heap.size ∧ q < w8.heap.size := fun hne q hq => by
    have h2 := Sl.block (cs := ints (histU (initU k A T)).reverse) hp4 (by simpa [ints] using hne) q hq
    omega
  refine mwpB_loop (fun e ds wl => ∃ (i n : Nat) (op : Int) (pr : Option Addr) (cr : Nat) (F : List Nat), i ≤ L.length ∧ n ≤ C.length + i ∧
     e 1 = .slice pl L.length cl ∧ e 2 = .slice pc C.length cc ∧ e 3 = .int .i64 at_ ∧ e 4 = .pointer (some ⟨w.heap.size, 0, none⟩) ∧ e 11 = .pointer (some ⟨w4.heap.size, 0, none⟩) ∧ e 14 = .slice po6 (runU (initU k A T) L).2.length co6 ∧ e 16 = .int .i64 i ∧ e 17 = .int .i64 n ∧ ds = [] ∧
     Ext W0 wl ∧ w8.heap.size ≤ wl.heap.size ∧ UnitB w8.heap.size wl (e 15) F (runU (initU k A T) (L.take i)).1 k A T ∧
     Bk wl w4.heap.size [.int .i64 k, .slice pa A.length ca, .slice pt T.length ct, .slice pr (histU (runU (initU k A T) (L.take i)).1).reverse.length cr, .int .i64 (levU (runU (initU k A T) (L.take i)).1), .int .i64 op] 39 ∧
     openR (runU (initU k A T) (L.take i)).1 i op ∧ SlI wl (.slice pr (histU (runU (initU k A T) (L.take i)).1).reverse.length cr) (histU (runU (initU k A T) (L.take i)).1).reverse ∧
     ((histU (runU (initU k A T) (L.take i)).1).reverse ≠ [] → ∀ q, (Value.slice pr (histU (runU (initU k A T) (L.take i)).1).reverse.length cr).ownBlock = some q → q ≠ w4.heap.size ∧ q ∉ F) ∧
     SlI wl (.slice po6 (runU (initU k A T) L).2.length co6) (runU (initU k A T) L).2)
   (fun e _ => (L.length - (intOf (e 16)).toNat) + (C.length - (intOf (e 17)).toNat)) ?_ ?_
  · simp -dsimp -implicitDefEqProofs only [m4, sF4, Nat.reduceEqDiff, ↓reduceIte, Nat.reduceAdd, Nat.reduceMul, Value.cells, Value.oneCell', eq_self, ne_eq, Int.reduceToNat, Int.reduceEq, Int.reduceLT, Int.reduceLE, Int.reduceNeg, if_true, if_false, reduceCtorEq, Nat.reduceSub, storeV_ptr, slcV_slice, ↓mwD, mwU]
    refine ⟨0, 0, -1, pp, cp, F9, by omega, by omega, rfl, rfl, x9, he9.le, ?_, ?_, ?_, ?_, ?_, hR9⟩
    all_goals simp only [List.take_zero, runU]
    · exact hu9
    · rw [lev_init]; exact hb59
    · exact open_init
    · exact hp89
    · intro hne q hq
      have h1 := hppb hne q hq
      exact ⟨h1.1, fun hm => by have := hu9.ge q hm; omega⟩
  · rintro e ds wl ⟨i, n, op, pr, cr, F, hi, hn, h1, h2, h3, h4, h11, h14, h16, h17, rfl, hxl, hwl, hu, hbr, hop, hpr, hprb, hRl⟩
    refine mwpB_bcut 4 (fun e' ds w' => e' 1 = e 1 ∧ e' 2 = e 2 ∧ e' 3 = e 3 ∧ e' 4 = e 4 ∧ e' 11 = e 11 ∧ e' 14 = e 14 ∧ e' 15 = e 15 ∧ e' 16 = e 16 ∧ e' 17 = e 17 ∧ ds = [] ∧ w' = wl ∧ ∃ d : Nat, e' 18 = .int .i64 d ∧ i + d ≤ L.length ∧ (C.length ≤ n → 1 ≤ d)) ?_ ?_
    · simp -dsimp -implicitDefEqProofs only [h1, h2, h3, h4, h11, h14, h16, h17, headM_zero, headM_seq, m4, sF4, Nat.reduceEqDiff, ↓reduceIte, Nat.reduceAdd, Nat.reduceMul, Value.cells, Value.oneCell', eq_self, ne_eq, Int.reduceToNat, Int.reduceEq, Int.reduceLT, Int.reduceLE, Int.reduceNeg, if_true, if_false, reduceCtorEq, Nat.reduceSub, storeV_ptr, slcV_slice, ↓mwD, mwU]
      refine iteW_dec (fun hlt => ?_) (fun hge => ?_)
      · have hil : i < L.length := by omega
        have hw1 : IntKind.i64.wrap (1 + Int.tmod (i : Int) 50) = 1 + Int.tmod (i : Int) 50 := by rw [Int.tmod_eq_emod_of_nonneg (by omega)]; exact w64 (by omega) (by omega)
        have hwd : IntKind.i64.wrap ((L.length : Int) - i) = (L.length : Int) - i := w64 (by omega) (by omega)
        have fin : ∀ kk : Int, 0 ≤ kk → (C.length ≤ n → 1 ≤ kk) → ∃ d : Nat, Value.int .i64 (if (L.length : Int) - i < kk then (L.length : Int) - i else kk) = .int .i64 d ∧ i + d ≤ L.length ∧ (C.length ≤ n → 1 ≤ d) := fun kk h0 h1 => by
          refine ⟨(if (L.length : Int) - i < kk then (L.length : Int) - i else kk).toNat, ?_, ?_, ?_⟩
          · refine congrArg (Value.int .i64) ?_
            split <;> omega
          · split <;> omega
          · intro h; have := h1 h; split <;> omega
        have f0 : 0 ≤ 1 + Int.tmod (i : Int) 50 ∧ (C.length ≤ n → 1 ≤ 1 + Int.tmod (i : Int) 50) := by rw [Int.tmod_eq_emod_of_nonneg (by omega)]; omega
        have fl : (0 : Int) ≤ L.length ∧ (C.length ≤ n → (1 : Int) ≤ L.length) := by omega
        simp -dsimp -implicitDefEqProofs only [h1, h2, h3, h4, h11, h14, h16, h17, headM_zero, headM_seq, hw1, m4, sF4, Nat.reduceEqDiff, ↓reduceIte, Nat.reduceAdd, Nat.reduceMul, Value.cells, Value.oneCell', eq_self, ne_eq, Int.reduceToNat, Int.reduceEq, Int.reduceLT, Int.reduceLE, Int.reduceNeg, if_true, if_false, reduceCtorEq, Nat.reduceSub, storeV_ptr, slcV_slice, ↓mwD, mwU]
        refine iteW_dec (fun hnc => ?_) (fun hnc => ?_)
        · have hnC : n < C.length := by omega
          obtain ⟨bC, oC, cC, hvC, hcC⟩ := hC.some (by omega)
          cases hvC
          have cn := (hx0.trans hxl).cell (hcC n C[n] (by simp [hnC]))
          have hbn : (0 : Int) ≤ n ∧ (n : Int) < C.length := by omega
          simp -dsimp -implicitDefEqProofs only [h1, h2, h3, h4, h11, h14, h16, h17, headM_zero, headM_seq, hw1, hnc, cn, hbn, and_self, m4, sF4, Nat.reduceEqDiff, ↓reduceIte, Nat.reduceAdd, Nat.reduceMul, Value.cells, Value.oneCell', eq_self, ne_eq, Int.reduceToNat, Int.reduceEq, Int.reduceLT, Int.reduceLE, Int.reduceNeg, if_true, if_false, reduceCtorEq, Nat.reduceSub, storeV_ptr, slcV_slice, ↓mwD, mwU]
          refine iteW_dec (fun hc0 => ?_) (fun hc0 => ?_)
          · have f1 : 0 ≤ Int.tmod C[n] 60 ∧ (C.length ≤ n → 1 ≤ Int.tmod C[n] 60) := by rw [Int.tmod_eq_emod_of_nonneg (by omega)]; omega
            simp -dsimp -implicitDefEqProofs only [h1, h2, h3, h4, h11, h14, h16, h17, headM_zero, headM_seq, hw1, hnc, cn, hbn, and_self, m4, sF4, Nat.reduceEqDiff, ↓reduceIte, Nat.reduceAdd, Nat.reduceMul, Value.cells, Value.oneCell', eq_self, ne_eq, Int.reduceToNat, Int.reduceEq, Int.reduceLT, Int.reduceLE, Int.reduceNeg, if_true, if_false, reduceCtorEq, Nat.reduceSub, storeV_ptr, slcV_slice, ↓mwD, mwU]
            refine iteW_dec (fun h200 => ?_) (fun h200 => ?_)
            · simp -dsimp -implicitDefEqProofs only [h1, h2, h3, h4, h11, h14, h16, h17, headM_zero, headM_seq, hwd, m4, sF4, Nat.reduceEqDiff, ↓reduceIte, Nat.reduceAdd, Nat.reduceMul, Value.cells, Value.oneCell', eq_self, ne_eq, Int.reduceToNat, Int.reduceEq, Int.reduceLT, Int.reduceLE, Int.reduceNeg, if_true, if_false, reduceCtorEq, Nat.reduceSub, storeV_ptr, slcV_slice, ↓mwD, mwU]
              exact fin _ fl.1 fl.2
            · simp -dsimp -implicitDefEqProofs only [h1, h2, h3, h4, h11, h14, h16, h17, headM_zero, headM_seq, hwd, m4, sF4, Nat.reduceEqDiff, ↓reduceIte, Nat.reduceAdd, Nat.reduceMul, Value.cells, Value.oneCell', eq_self, ne_eq, Int.reduceToNat, Int.reduceEq, Int.reduceLT, Int.reduceLE, Int.reduceNeg, if_true, if_false, reduceCtorEq, Nat.reduceSub, storeV_ptr, slcV_slice, ↓mwD, mwU]
              exact fin _ f1.1 f1.2
          · simp -dsimp -implicitDefEqProofs only [h1, h2, h3, h4, h11, h14, h16, h17, headM_zero, headM_seq, hw1, m4, sF4, Nat.reduceEqDiff, ↓reduceIte, Nat.reduceAdd, Nat.reduceMul, Value.cells, Value.oneCell', eq_self, ne_eq, Int.reduceToNat, Int.reduceEq, Int.reduceLT, Int.reduceLE, Int.reduceNeg, if_true, if_false, reduceCtorEq, Nat.reduceSub, storeV_ptr, slcV_slice, ↓mwD, mwU]
            refine iteW_dec (fun h200 => ?_) (fun h200 => ?_)
            · simp -dsimp -implicitDefEqProofs only [h1, h2, h3, h4, h11, h14, h16, h17, headM_zero, headM_seq, hwd, m4, sF4, Nat.reduceEqDiff, ↓reduceIte, Nat.reduceAdd, Nat.reduceMul, Value.cells, Value.oneCell', eq_self, ne_eq, Int.reduceToNat, Int.reduceEq, Int.reduceLT, Int.reduceLE, Int.reduceNeg, if_true, if_false, reduceCtorEq, Nat.reduceSub, storeV_ptr, slcV_slice, ↓mwD, mwU]
              exact fin _ fl.1 fl.2
            · simp -dsimp -implicitDefEqProofs only [h1, h2, h3, h4, h11, h14, h16, h17, headM_zero, headM_seq, hwd, m4, sF4, Nat.reduceEqDiff, ↓reduceIte, Nat.reduceAdd, Nat.reduceMul, Value.cells, Value.oneCell', eq_self, ne_eq, Int.reduceToNat, Int.reduceEq, Int.reduceLT, Int.reduceLE, Int.reduceNeg, if_true, if_false, reduceCtorEq, Nat.reduceSub, storeV_ptr, slcV_slice, ↓mwD, mwU]
              exact fin _ f0.1 f0.2
        · simp -dsimp -implicitDefEqProofs only [h1, h2, h3, h4, h11, h14, h16, h17, headM_zero, headM_seq, hw1, hnc, decide_false, m4, sF4, Nat.reduceEqDiff, ↓reduceIte, Nat.reduceAdd, Nat.reduceMul, Value.cells, Value.oneCell', eq_self, ne_eq, Int.reduceToNat, Int.reduceEq, Int.reduceLT, Int.reduceLE, Int.reduceNeg, if_true, if_false, reduceCtorEq, Nat.reduceSub, storeV_ptr, slcV_slice, ↓mwD, mwU]
          refine iteW_dec (fun h200 => ?_) (fun h200 => ?_)
          · simp -dsimp -implicitDefEqProofs only [h1, h2, h3, h4, h11, h14, h16, h17, headM_zero, headM_seq, hwd, m4, sF4, Nat.reduceEqDiff, ↓reduceIte, Nat.reduceAdd, Nat.reduceMul, Value.cells, Value.oneCell', eq_self, ne_eq, Int.reduceToNat, Int.reduceEq, Int.reduceLT, Int.reduceLE, Int.reduceNeg, if_true, if_false, reduceCtorEq, Nat.reduceSub, storeV_ptr, slcV_slice, ↓mwD, mwU]
            exact fin _ fl.1 fl.2
          · simp -dsimp -implicitDefEqProofs only [h1, h2, h3, h4, h11, h14, h16, h17, headM_zero, headM_seq, hwd, m4, sF4, Nat.reduceEqDiff, ↓reduceIte, Nat.reduceAdd, Nat.reduceMul, Value.cells, Value.oneCell', eq_self, ne_eq, Int.reduceToNat, Int.reduceEq, Int.reduceLT, Int.reduceLE, Int.reduceNeg, if_true, if_false, reduceCtorEq, Nat.reduceSub, storeV_ptr, slcV_slice, ↓mwD, mwU]
            exact fin _ f0.1 f0.2
      · simp -dsimp -implicitDefEqProofs only [h1, h2, h3, h4, h11, h14, h16, h17, headM_zero, headM_seq, hge, m4, sF4, Nat.reduceEqDiff, ↓reduceIte, Nat.reduceAdd, Nat.reduceMul, Value.cells, Value.oneCell', eq_self, ne_eq, Int.reduceToNat, Int.reduceEq, Int.reduceLT, Int.reduceLE, Int.reduceNeg, if_true, if_false, reduceCtorEq, Nat.reduceSub, storeV_ptr, slcV_slice, ↓mwD, mwU]
        obtain rfl : i = L.length := by omega
        rw [List.take_length] at hu hbr hop hpr hprb
        refine (Reset_c hu hsh hwl).use ?_
        rintro _ w10 ⟨rfl, F2, hu2, hb2⟩
        have x10 : Ext W0 w10 := Below.trans hxl (Below.mono hb2 x8.le)
        simp -dsimp -implicitDefEqProofs only [h1, h2, h3, h4, h11, h14, h16, h17, m4, sF4, Nat.reduceEqDiff, ↓reduceIte, Nat.reduceAdd, Nat.reduceMul, Value.cells, Value.oneCell', eq_self, ne_eq, Int.reduceToNat, Int.reduceEq, Int.reduceLT, Int.reduceLE, Int.reduceNeg, if_true, if_false, reduceCtorEq, Nat.reduceSub, storeV_ptr, slcV_slice, ↓mwD, mwU]
        refine (Level_c hu2.at).use ?_
        rintro _ w11 ⟨rfl, rfl⟩
        rw [lev_init]
        simp -dsimp -implicitDefEqProofs only [h1, h2, h3, h4, h11, h14, h16, h17, m4, sF4, Nat.reduceEqDiff, ↓reduceIte, Nat.reduceAdd, Nat.reduceMul, Value.cells, Value.oneCell', eq_self, ne_eq, Int.reduceToNat, Int.reduceEq, Int.reduceLT, Int.reduceLE, Int.reduceNeg, if_true, if_false, reduceCtorEq, Nat.reduceSub, storeV_ptr, slcV_slice, ↓mwD, mwU]
        refine (URun_c hu2.at (initU_ok hsh) (hL.ext (hx0.trans x10)) (fun hne q hq hm => ?_)).use ?_
        · have h1 := hLb hq hne
          have h2 := hu2.ge q hm
          have := x8.le
          omega
        rintro r w12 hr
        rw [hsm] at hr
        simp only [if_true] at hr
        obtain ⟨o, rfl, ho, hu12, hc12, _⟩ := hr
        have x12 : Ext W0 w12 := hc12.ext x10 fun b hb => by have := hu2.ge b hb; have := x8.le; omega
        have hR12 : SlI w12 (.slice po6 (runU (initU k A T) L).2.length co6) (runU (initU k A T) L).2 := by
          refine ints_ch (F := F2) ?_ hc12 (fun hne q hq hm => by have := hWb hq hne; have := hu2.ge q hm; omega)
          exact Sl.same (G := fun q => q < w8.heap.size) (cs := ints _) hRl (fun q hq => hb2.block q hq) (fun hne q hq => (hWb hq (by simpa [ints] using hne)).2)
        simp -dsimp -implicitDefEqProofs only [h1, h2, h3, h4, h11, h14, h16, h17, m4, sF4, Nat.reduceEqDiff, ↓reduceIte, Nat.reduceAdd, Nat.reduceMul, Value.cells, Value.oneCell', eq_self, ne_eq, Int.reduceToNat, Int.reduceEq, Int.reduceLT, Int.reduceLE, Int.reduceNeg, if_true, if_false, reduceCtorEq, Nat.reduceSub, storeV_ptr, slcV_slice, ↓mwD, mwU]
        refine (ints_c ho hR12).use ?_
        rintro _ w13 ⟨rfl, he13⟩
        simp -dsimp -implicitDefEqProofs only [h1, h2, h3, h4, h11, h14, h16, h17, decide_true, m4, sF4, Nat.reduceEqDiff, ↓reduceIte, Nat.reduceAdd, Nat.reduceMul, Value.cells, Value.oneCell', eq_self, ne_eq, Int.reduceToNat, Int.reduceEq, Int.reduceLT, Int.reduceLE, Int.reduceNeg, if_true, if_false, reduceCtorEq, Nat.reduceSub, storeV_ptr, slcV_slice, ↓mwD, mwU]
        exact hx0.trans (x12.trans he13)
    · rintro e' ds w' ⟨g1, g2, g3, g4, g11, g14, g15, g16, g17, rfl, rfl, d, g18, hd, hd1⟩
      rw [h1] at g1
      rw [h2] at g2
      rw [h3] at g3
      rw [h4] at g4
      rw [h11] at g11
      rw [h14] at g14
      rw [h16] at g16
      rw [h17] at g17
      have hwd : IntKind.i64.wrap ((i : Int) + d) = ((i + d : Nat) : Int) := by rw [w64 (by omega) (by omega)]; omega
      obtain ⟨ps, cs, hslc, hSs, hsb⟩ := sl_slc (i := i) (j := i + d) (hL.ext (hx0.trans hxl)) (by omega) (by omega)
      obtain ⟨ps2, cs2, hslc2, hSs2, hsb2⟩ := sl_slc (i := i) (j := i + d) hRl (by omega) (by rw [runU_length]; omega)
      have hdd : i + d - i = d := by omega
      rw [hdd] at hslc hSs hsb hslc2 hSs2 hsb2
      have hok : (runU (initU k A T) (L.take i)).1.ok := (runU_ok _ _ (initU_ok hsh) (fun x hx => (samples_smps hsm).2 x (List.mem_of_mem_take hx))).1
      have hkin := kin_run (L.take i) (kin_init hsh)
      obtain ⟨hp1, hp2⟩ := runU_part (initU k A T) L i d hd
      have hlen2 : lenU (runU (initU k A T) (L.take (i + d))).1 = lenU (initU k A T) := lenU_run _ _
      have hok2 : (runU (initU k A T) (L.take (i + d))).1.ok := (runU_ok _ _ (initU_ok hsh) (fun x hx => (samples_smps hsm).2 x (List.mem_of_mem_take hx))).1
      have hkin2 := kin_run (L.take (i + d)) (kin_init hsh)
      have hsp := samples_part hsm i d
      have hsl : ((L.drop i).take d).length = d := by rw [List.length_take, List.length_drop]; omega
      generalize hs1 : (runU (initU k A T) (L.take i)).1 = s1 at *
      generalize hs2 : (runU (initU k A T) (L.take (i + d))).1 = s2 at *
      have hbF : w4.heap.size ∉ F := fun hm => by have := hu.ge _ hm; omega
      have hFW : ∀ b ∈ F, W0.heap.size ≤ b := fun b hb => by have := hu.ge b hb; have := x8.le; omega
      have hneL : (L.drop i).take d ≠ [] → L ≠ [] := fun h e => h (by simp [e])
      have hneR : ((runU (initU k A T) L).2.drop i).take d ≠ [] → (runU (initU k A T) L).2 ≠ [] := fun h e => h (by simp [e])
      simp only [mwpB_block, tailM_seq, tailM_zero]
      refine mwpB_cut 2 (fun e2 ds w2 => e2 1 = e' 1 ∧ e2 2 = e' 2 ∧ e2 3 = e' 3 ∧ e2 4 = e' 4 ∧ e2 11 = e' 11 ∧ e2 14 = e' 14 ∧ e2 15 = e' 15 ∧ e2 16 = e' 16 ∧ e2 17 = e' 17 ∧ e2 18 = e' 18 ∧ ds = [] ∧ ∃ (pr' : Option Addr) (cr' : Nat) (op' : Int) (b21 : Nat) (o : Value),
        e2 19 = o ∧ e2 20 = .int .i64 0 ∧ e2 21 = .pointer (some ⟨b21, 0, none⟩) ∧ Ext W0 w2 ∧ w8.heap.size ≤ w2.heap.size ∧ UnitB w8.heap.size w2 (e 15) F s2 k A T ∧
        Bk w2 b21 [.int .i64 k, .slice pa A.length ca, .slice pt T.length ct, .slice pr' (histU s2).reverse.length cr', .int .i64 (levU s2), .int .i64 op'] 39 ∧ (∃ cs0, cs0.length = 6 ∧ Bk w2 w4.heap.size cs0 39) ∧
        openR s2 (i + d) op' ∧ SlI w2 (.slice pr' (histU s2).reverse.length cr') (histU s2).reverse ∧ (∀ q, (Value.slice pr' (histU s2).reverse.length cr').ownBlock = some q → q ≠ w4.heap.size ∧ q ∉ F) ∧
        SlI w2 (.slice po6 (runU (initU k A T) L).2.length co6) (runU (initU k A T) L).2 ∧ SlI w2 o (((runU (initU k A T) L).2.drop i).take d)) ?_ ?_
      · simp -dsimp -implicitDefEqProofs only [g1, g2, g3, g4, g11, g14, g15, g16, g17, g18, headM_zero, headM_seq, hwd, hslc, m4, sF4, Nat.reduceEqDiff, ↓reduceIte, Nat.reduceAdd, Nat.reduceMul, Value.cells, Value.oneCell', eq_self, ne_eq, Int.reduceToNat, Int.reduceEq, Int.reduceLT, Int.reduceLE, Int.reduceNeg, if_true, if_false, reduceCtorEq, Nat.reduceSub, storeV_ptr, ↓mwD, mwU]
        refine (URun_c hu.at hok hSs (fun hne q hq hm => ?_)).use ?_
        · have h1 := hLb (hsb q hq) (hneL hne)
          have h2 := hFW q hm
          omega
        rintro r w10 hr
        rw [hsp] at hr
        simp only [if_true] at hr
        obtain ⟨o, rfl, ho, hu10, hc10, hob⟩ := hr
        have hB10 := hu.next hu10 hc10
        have x10 : Ext W0 w10 := hc10.ext hxl hFW
        have hz10 := hc10.size
        have hbu10 := hc10.bk hbF hbr
        have hpr10 := ints_ch hpr hc10 (fun hne q hq => (hprb hne q hq).2)
        have hR10 := ints_ch hRl hc10 (fun hne q hq hm => by have := hWb hq hne; have := hu.ge q hm; omega)
        have hS10 := ints_ch hSs hc10 (fun hne q hq hm => by have h1 := hLb (hsb q hq) (hneL hne); have h2 := hFW q hm; omega)
        have q0 := hbu10.get (o := 0) rfl
        have q1 := hbu10.get (o := 1) rfl
        have q2 := hbu10.get (o := 2) rfl
        have q3 := hbu10.get (o := 3) rfl
        have q4 := hbu10.get (o := 4) rfl
        have q5 := hbu10.get (o := 5) rfl
        have hFlt := hu10.lt
        obtain ⟨po1, co1, rfl, _, _⟩ := ho.shape
        simp -dsimp -implicitDefEqProofs only [g1, g2, g3, g4, g11, g14, g15, g16, g17, g18, m4, sF4, Nat.reduceEqDiff, ↓reduceIte, Nat.reduceAdd, Nat.reduceMul, Value.cells, Value.oneCell', eq_self, ne_eq, Int.reduceToNat, Int.reduceEq, Int.reduceLT, Int.reduceLE, Int.reduceNeg, if_true, if_false, reduceCtorEq, Nat.reduceSub, storeV_ptr, slcV_slice, ↓mwD, mwU]
        refine mwpB_drawE ?_
        simp -dsimp -implicitDefEqProofs only [g1, g2, g3, g4, g11, g14, g15, g16, g17, g18, q0, q1, q2, q3, q4, q5, hwd, hslc, planEB_two, m4, sF4, Nat.reduceEqDiff, ↓reduceIte, Nat.reduceAdd, Nat.reduceMul, Value.cells, Value.oneCell', eq_self, ne_eq, Int.reduceToNat, Int.reduceEq, Int.reduceLT, Int.reduceLE, Int.reduceNeg, if_true, if_false, reduceCtorEq, Nat.reduceSub, storeV_ptr, ↓mwD, mwU]
        rw [hp1] at hB10
        have hcall : ∀ W, Ext w10 W → Rets Go.Proofs.Tryz.prog 16 #[refV k (levU s1) op (.slice pa A.length ca) (.slice pt T.length ct) (.slice pr (histU s1).reverse.length cr), .slice ps d cs] W fun r w' => Ext W w' ∧ ∃ pr' cr' op' o2, r = .tuple #[refV k (levU s2) op' (.slice pa A.length ca) (.slice pt T.length ct) (.slice pr' (histU s2).reverse.length cr'), o2, .int .i64 0] ∧
            openR s2 (i + d) op' ∧ SlI w' (.slice pr' (histU s2).reverse.length cr') (histU s2).reverse ∧ ∀ q, (Value.slice pr' (histU s2).reverse.length cr').ownBlock = some q → W.heap.size ≤ q := fun W hW => by
          have hxW : Ext w W := (hx0.trans x10).trans hW
          refine (refRun_c (N := i) hok hkin hop (by omega) (hA.ext hxW) (hT.ext hxW) (hpr10.ext hW) (hS10.ext hW)).mono ?_
          rintro r w11 ⟨x11, hr11⟩
          rw [hsp] at hr11
          simp only [if_true] at hr11
          obtain ⟨p', op', o2, rfl, hp', ho2, hop', hpb', hob'⟩ := hr11
          rw [hp1] at hp' hop' ⊢
          rw [hsl] at hop'
          obtain ⟨pr', cr', rfl, _, _⟩ := hp'.shape
          exact ⟨x11, _, _, _, _, rfl, hop', hp', hpb'⟩
        refine ⟨?_, ?_⟩
        · refine (hcall _ (Ext.drew _)).use ?_
          rintro r w11 ⟨x11, pr', cr', op', o2, rfl, hop', hp', hpb'⟩
          have x1011 : Ext w10 w11 := (Ext.drew w10).trans x11
          refine ⟨x11, ?_⟩
          obtain ⟨w12, hs12, hb12, hf12⟩ := store_ref (Bk.new w11 [.int .i64 0, .slice none 0 0, .slice none 0 0, .slice none 0 0, .int .i64 0, .int .i64 0] 39) rfl k (levU s2) op' pa pt pr' A.length ca T.length ct (histU s2).reverse.length cr'
          have x1112 : Ext w11 w12 := hf12.ext (Ext.alloc _ _) (by simp)
          simp -dsimp -implicitDefEqProofs only [g1, g2, g3, g4, g11, g14, g15, g16, g17, g18, hs12, m4, sF4, Nat.reduceEqDiff, ↓reduceIte, Nat.reduceAdd, Nat.reduceMul, Value.cells, Value.oneCell', eq_self, ne_eq, Int.reduceToNat, Int.reduceEq, Int.reduceLT, Int.reduceLE, Int.reduceNeg, if_true, if_false, reduceCtorEq, Nat.reduceSub, slcV_slice, ↓mwD, mwU]
          have xA : Ext w10 w12 := x1011.trans x1112
          have hzA := xA.le
          refine ⟨x11.alloc' _, pr', cr', op', _, _, rfl, rfl, x10.trans xA, by omega, hB10.ext xA, hb12, ⟨_, by simp, hbu10.ext xA⟩, hop', hp'.ext x1112, fun q hq => ?_, hR10.ext xA, by have h := ho.ext xA; rw [← hp2]; exact h⟩
          have h1 := hpb' q hq
          have h1' : w10.heap.size ≤ q := h1
          exact ⟨by omega, fun hm => by have := hFlt q hm; omega⟩
        · refine ⟨Ext.alloc _ _, (hcall _ ((Ext.drew w10).alloc' _)).use ?_⟩
          rintro r w11 ⟨x11, pr', cr', op', o2, rfl, hop', hp', hpb'⟩
          have xd11 : Ext w10.drew w11 := (Ext.alloc _ _).trans x11
          have x1011 : Ext w10 w11 := (Ext.drew w10).trans xd11
          refine ⟨xd11, ?_⟩
          obtain ⟨w12, hs12, hb12, hf12⟩ := store_ref ((Bk.new w10.drew [.int .i64 0, .slice none 0 0, .slice none 0 0, .slice none 0 0, .int .i64 0, .int .i64 0] 39).ext x11) rfl k (levU s2) op' pa pt pr' A.length ca T.length ct (histU s2).reverse.length cr'
          have hzd : w10.drew.heap.size = w10.heap.size := rfl
          simp -dsimp -implicitDefEqProofs only [g1, g2, g3, g4, g11, g14, g15, g16, g17, g18, hs12, m4, sF4, Nat.reduceEqDiff, ↓reduceIte, Nat.reduceAdd, Nat.reduceMul, Value.cells, Value.oneCell', eq_self, ne_eq, Int.reduceToNat, Int.reduceEq, Int.reduceLT, Int.reduceLE, Int.reduceNeg, if_true, if_false, reduceCtorEq, Nat.reduceSub, slcV_slice, ↓mwD, mwU]
          have xA : Ext w10 w12 := hf12.ext x1011 (by simp [hzd])
          have hzA := xA.le
          have hbb : ∀ q, (Value.slice pr' (histU s2).reverse.length cr').ownBlock = some q → w10.heap.size + 1 ≤ q := fun q hq => by have := hpb' q hq; simpa [hzd] using this
          refine ⟨pr', cr', op', _, _, rfl, rfl, x10.trans xA, by omega, hB10.ext xA, hb12, ⟨_, by simp, hbu10.ext xA⟩, hop', Sl.fr (cs := ints _) hp' hf12 (fun q hq hm => ?_), fun q hq => ?_, hR10.ext xA, by have h := ho.ext xA; rw [← hp2]; exact h⟩
          · have h1 := hbb q hq
            simp [hzd] at hm
            omega
          · have h1 := hbb q hq
            exact ⟨by omega, fun hm => by have := hFlt q hm; omega⟩
      · rintro e2 ds w2 ⟨k1, k2, k3, k4, k11, k14, k15, k16, k17, k18, rfl, pr', cr', op', b21, o, k19, k20, k21, xl2, hwl2, hu2, hb21, ⟨cs0, hcs0, hbu2⟩, hop2, hpr2, hprb2, hR2, ho2⟩
        rw [g1] at k1
        rw [g2] at k2
        rw [g3] at k3
        rw [g4] at k4
        rw [g11] at k11
        rw [g14] at k14
        rw [g15] at k15
        rw [g16] at k16
        rw [g17] at k17
        rw [g18] at k18
        simp only [tailM_seq, tailM_zero]
        obtain ⟨po1, co1, rfl, _, _⟩ := ho2.shape
        obtain ⟨ps2, cs2, hslc2, hSs2, hsb2⟩ := sl_slc (i := i) (j := i + d) hR2 (by omega) (by rw [runU_length]; omega)
        rw [hdd] at hslc2 hSs2
        have hbF2 : w4.heap.size ∉ F := hbF
        have c0 := hb21.get (o := 0) rfl
        have c1 := hb21.get (o := 1) rfl
        have c2 := hb21.get (o := 2) rfl
        have c3 := hb21.get (o := 3) rfl
        have c4 := hb21.get (o := 4) rfl
        have c5 := hb21.get (o := 5) rfl
        simp -dsimp -implicitDefEqProofs only [k1, k2, k3, k4, k11, k14, k15, k16, k17, k18, k19, k20, k21, m4, sF4, Nat.reduceEqDiff, ↓reduceIte, Nat.reduceAdd, Nat.reduceMul, Value.cells, Value.oneCell', eq_self, ne_eq, Int.reduceToNat, Int.reduceEq, Int.reduceLT, Int.reduceLE, Int.reduceNeg, if_true, if_false, reduceCtorEq, Nat.reduceSub, storeV_ptr, slcV_slice, ↓mwD, mwU]
        refine mwpB_drawE ?_
        simp -dsimp -implicitDefEqProofs only [k1, k2, k3, k4, k11, k14, k15, k16, k17, k18, k19, k20, k21, hwd, hslc2, m4, sF4, Nat.reduceEqDiff, ↓reduceIte, Nat.reduceAdd, Nat.reduceMul, Value.cells, Value.oneCell', eq_self, ne_eq, Int.reduceToNat, Int.reduceEq, Int.reduceLT, Int.reduceLE, Int.reduceNeg, if_true, if_false, reduceCtorEq, Nat.reduceSub, storeV_ptr, ↓mwD, mwU]
        refine (ints_c (ho2.ext (Ext.drew _)) (hSs2.ext (Ext.drew _))).use ?_
        rintro _ w13 ⟨rfl, x13⟩
        have x213 : Ext w2 w13 := (Ext.drew w2).trans x13
        refine ⟨x13, ?_⟩
        simp -dsimp -implicitDefEqProofs only [k1, k2, k3, k4, k11, k14, k15, k16, k17, k18, k19, k20, k21, decide_true, c4, m4, sF4, Nat.reduceEqDiff, ↓reduceIte, Nat.reduceAdd, Nat.reduceMul, Value.cells, Value.oneCell', eq_self, ne_eq, Int.reduceToNat, Int.reduceEq, Int.reduceLT, Int.reduceLE, Int.reduceNeg, if_true, if_false, reduceCtorEq, Nat.reduceSub, storeV_ptr, slcV_slice, ↓mwD, mwU]
        refine (Level_c (hu2.ext x213).at).use ?_
        rintro _ w14 ⟨rfl, rfl⟩
        refine ⟨x13, ?_⟩
        obtain ⟨w15, hs15, hb15, hf15⟩ := store_ref (hbu2.ext x213) hcs0 k (levU s2) op' pa pt pr' A.length ca T.length ct (histU s2).reverse.length cr'
        simp -dsimp -implicitDefEqProofs only [k1, k2, k3, k4, k11, k14, k15, k16, k17, k18, k19, k20, k21, decide_true, x213.cell c0, x213.cell c1, x213.cell c2, x213.cell c3, x213.cell c4, x213.cell c5, hs15, hwd, m4, sF4, Nat.reduceEqDiff, ↓reduceIte, Nat.reduceAdd, Nat.reduceMul, Value.cells, Value.oneCell', eq_self, ne_eq, Int.reduceToNat, Int.reduceEq, Int.reduceLT, Int.reduceLE, Int.reduceNeg, if_true, if_false, reduceCtorEq, Nat.reduceSub, slcV_slice, ↓mwD, mwU]
        have hW4 : W0.heap.size ≤ w4.heap.size := (x3.trans he4).le
        have hz15 : w15.heap.size = w14.heap.size := hf15.size
        have hz14 := x213.le
        have x15 : Ext W0 w15 := hf15.ext (xl2.trans x213) (by simp; omega)
        have hu15 : UnitB w8.heap.size w15 (e 15) F s2 k A T := (hu2.ext x213).same fun q hq _ => hf15.block q (by simp; omega)
        have hpr15 := Sl.fr (cs := ints _) (hpr2.ext x213) hf15 (fun q hq hm => (hprb2 q hq).1 (by simpa using hm))
        have hR15 : SlI w15 (.slice po6 (runU (initU k A T) L).2.length co6) (runU (initU k A T) L).2 := Sl.same (G := fun q => q ≠ w4.heap.size) (cs := ints _) (hR2.ext x213) (fun q hq => hf15.block q (by simpa using hq)) (fun hne q hq => (hWb hq (by simpa [ints] using hne)).1)
        refine iteW_join (fun e3 ds w3 => e3 1 = e 1 ∧ e3 2 = e 2 ∧ e3 3 = e 3 ∧ e3 4 = e 4 ∧ e3 11 = e 11 ∧ e3 14 = e 14 ∧ e3 16 = .int .i64 ((i + d : Nat) : Int) ∧ e3 17 = e 17 ∧ ds = [] ∧ ∃ F3 : List Nat, Ext W0 w3 ∧ w8.heap.size ≤ w3.heap.size ∧ UnitB w8.heap.size w3 (e3 15) F3 s2 k A T ∧
          Bk w3 w4.heap.size [.int .i64 k, .slice pa A.length ca, .slice pt T.length ct, .slice pr' (histU s2).reverse.length cr', .int .i64 (levU s2), .int .i64 op'] 39 ∧
          SlI w3 (.slice pr' (histU s2).reverse.length cr') (histU s2).reverse ∧ ((histU s2).reverse ≠ [] → ∀ q, (Value.slice pr' (histU s2).reverse.length cr').ownBlock = some q → q ≠ w4.heap.size ∧ q ∉ F3) ∧
          SlI w3 (.slice po6 (runU (initU k A T) L).2.length co6) (runU (initU k A T) L).2) (fun hat => ?_) (fun hat => ?_) ?_
        · simp -dsimp -implicitDefEqProofs only [k1, k2, k3, k4, k11, k14, k15, k16, k17, k18, k19, k20, k21, x15.cell b0, x15.cell b1, x15.cell b2, m4, sF4, Nat.reduceEqDiff, ↓reduceIte, Nat.reduceAdd, Nat.reduceMul, Value.cells, Value.oneCell', eq_self, ne_eq, Int.reduceToNat, Int.reduceEq, Int.reduceLT, Int.reduceLE, Int.reduceNeg, if_true, if_false, reduceCtorEq, Nat.reduceSub, storeV_ptr, slcV_slice, ↓mwD, mwU]
          have hxw15 := hx0.trans x15
          refine (NewB_c k _ _ A T w15 (hA.ext hxw15) (hT.ext hxw15)).use ?_
          rintro r w16 ⟨he16, hr16⟩
          rw [hv] at hr16
          simp only [if_true] at hr16
          obtain ⟨v16, F16, rfl, hu16⟩ := hr16
          have hU : SUnit s2 k A T := ⟨hok2, hsh, hlen2⟩
          have x16 := x15.trans he16
          simp -dsimp -implicitDefEqProofs only [k1, k2, k3, k4, k11, k14, k15, k16, k17, k18, k19, k20, k21, m4, sF4, Nat.reduceEqDiff, ↓reduceIte, Nat.reduceAdd, Nat.reduceMul, Value.cells, Value.oneCell', eq_self, ne_eq, Int.reduceToNat, Int.reduceEq, Int.reduceLT, Int.reduceLE, Int.reduceNeg, if_true, if_false, reduceCtorEq, Nat.reduceSub, storeV_ptr, slcV_slice, ↓mwD, mwU]
          refine (hU.State_c (hE0.ext x16) (hu15.ext he16).at).use ?_
          rintro _ w17 ⟨rfl, he17⟩
          have x17 := x16.trans he17
          simp -dsimp -implicitDefEqProofs only [k1, k2, k3, k4, k11, k14, k15, k16, k17, k18, k19, k20, k21, m4, sF4, Nat.reduceEqDiff, ↓reduceIte, Nat.reduceAdd, Nat.reduceMul, Value.cells, Value.oneCell', eq_self, ne_eq, Int.reduceToNat, Int.reduceEq, Int.reduceLT, Int.reduceLE, Int.reduceNeg, if_true, if_false, reduceCtorEq, Nat.reduceSub, storeV_ptr, slcV_slice, ↓mwD, mwU]
          obtain ⟨_, _, _, lA, lT⟩ := vshape_in hsh
          refine (Resume_c (hE0.ext x17) (hu16.ext he17).at (by have := hU.size; omega) (len_ok (initU_ok hsh)) lA lT).use ?_
          rintro r w18 hr
          unfold ResumeR at hr
          rw [← hlen2, hU.reads] at hr
          simp only at hr
          rw [res_kin hkin2 hlen2] at hr
          obtain ⟨rfl, hu18, hc18⟩ := hr
          have hB18 := (hu16.ext he17).next hu18 hc18
          have hF16 : ∀ q ∈ F16, w15.heap.size ≤ q := hB18.ge
          have hz15' := x15.le
          have x18 : Ext W0 w18 := hc18.ext x17 fun b hb => by have := hF16 b hb; omega
          simp -dsimp -implicitDefEqProofs only [k1, k2, k3, k4, k11, k14, k15, k16, k17, k18, k19, k20, k21, m4, sF4, Nat.reduceEqDiff, ↓reduceIte, Nat.reduceAdd, Nat.reduceMul, Value.cells, Value.oneCell', eq_self, ne_eq, Int.reduceToNat, Int.reduceEq, Int.reduceLT, Int.reduceLE, Int.reduceNeg, if_true, if_false, reduceCtorEq, Nat.reduceSub, storeV_ptr, slcV_slice, ↓mwD, mwU]
          refine (Level_c hB18.at).use ?_
          rintro _ w19 ⟨rfl, rfl⟩
          have x1519 : Ext w15 w19 := hc18.ext (he16.trans he17) hF16
          simp -dsimp -implicitDefEqProofs only [k1, k2, k3, k4, k11, k14, k15, k16, k17, k18, k19, k20, k21, m4, sF4, Nat.reduceEqDiff, ↓reduceIte, Nat.reduceAdd, Nat.reduceMul, Value.cells, Value.oneCell', eq_self, ne_eq, Int.reduceToNat, Int.reduceEq, Int.reduceLT, Int.reduceLE, Int.reduceNeg, if_true, if_false, reduceCtorEq, Nat.reduceSub, storeV_ptr, slcV_slice, ↓mwD, mwU]
          refine (Level_c (hu15.ext x1519).at).use ?_
          rintro _ w20 ⟨rfl, rfl⟩
          simp -dsimp -implicitDefEqProofs only [k1, k2, k3, k4, k11, k14, k15, k16, k17, k18, k19, k20, k21, decide_true, h1, h2, h3, h4, h11, h14, h16, h17, m4, sF4, Nat.reduceEqDiff, ↓reduceIte, Nat.reduceAdd, Nat.reduceMul, Value.cells, Value.oneCell', eq_self, ne_eq, Int.reduceToNat, Int.reduceEq, Int.reduceLT, Int.reduceLE, Int.reduceNeg, if_true, if_false, reduceCtorEq, Nat.reduceSub, storeV_ptr, slcV_slice, ↓mwD, mwU]
          have hz20 := x1519.le
          refine ⟨F16, x18, by omega, hB18.mono (by omega), hb15.ext x1519, SlI.ext hpr15 x1519, fun hne q hq => ⟨(hprb2 q hq).1, fun hm => ?_⟩, hR15.ext x1519⟩
          have h1 := Sl.block (cs := ints (histU s2).reverse) hpr15 (by simpa [ints] using hne) q hq
          have h2 := hF16 q hm
          omega
        · simp -dsimp -implicitDefEqProofs only [k1, k2, k3, k4, k11, k14, k15, k16, k17, k18, k19, k20, k21, h1, h2, h3, h4, h11, h14, h16, h17, m4, sF4, Nat.reduceEqDiff, ↓reduceIte, Nat.reduceAdd, Nat.reduceMul, Value.cells, Value.oneCell', eq_self, ne_eq, Int.reduceToNat, Int.reduceEq, Int.reduceLT, Int.reduceLE, Int.reduceNeg, if_true, if_false, reduceCtorEq, Nat.reduceSub, storeV_ptr, slcV_slice, ↓mwD, mwU]
          exact ⟨F, x15, by omega, hu15, hb15, hpr15, fun _ => hprb2, hR15⟩
        · rintro e3 ds w3 ⟨m1, m2, m3, m4, m11, m14, m16, m17, rfl, F3, xl3, hwl3, hu3, hbr3, hpr3, hprb3, hR3⟩
          rw [h1] at m1
          rw [h2] at m2
          rw [h3] at m3
          rw [h4] at m4
          rw [h11] at m11
          rw [h14] at m14
          rw [h17] at m17
          have hw1 : IntKind.i64.wrap ((n : Int) + 1) = ((n + 1 : Nat) : Int) := by rw [w64 (by omega) (by omega)]; omega
          simp -dsimp -implicitDefEqProofs only [m1, m2, m3, m4, m11, m14, m16, m17, hw1, m4, sF4, Nat.reduceEqDiff, ↓reduceIte, Nat.reduceAdd, Nat.reduceMul, Value.cells, Value.oneCell', eq_self, ne_eq, Int.reduceToNat, Int.reduceEq, Int.reduceLT, Int.reduceLE, Int.reduceNeg, if_true, if_false, reduceCtorEq, Nat.reduceSub, storeV_ptr, slcV_slice, ↓mwD, mwU]
          refine ⟨⟨i + d, n + 1, op', pr', cr', F3, hd, ?_, rfl, rfl, xl3, hwl3, ?_⟩, ?_⟩
          · by_cases hcn : C.length ≤ n
            · have := hd1 hcn; omega
            · omega
          · rw [hs2]
            exact ⟨hu3, hbr3, hop2, hpr3, hprb3, hR3⟩
          · rw [h16, h17]
            simp only [intOf, Int.toNat_natCast]
            by_cases hcn : C.length ≤ n
            · have := hd1 hcn; omega
            · omega
end Go.Proofs.YtefcfnmmpnjjjaaGreatDoor

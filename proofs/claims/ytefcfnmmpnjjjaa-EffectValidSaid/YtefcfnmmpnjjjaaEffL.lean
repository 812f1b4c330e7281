/- The law functions EffectValid and EffectBounds tell true. -/
import Derived.Test.YtefcfnmmpnjjjaaEffK
namespace Go.Proofs.Ytefcfnmmpnjjjaa
open Go.RowKit
set_option linter.unusedSimpArgs false

theorem box3 {w w' : World} {a b c : Value} {t : TypeId} (h : Ext (w.alloc (.cells #[a, b, c] t)) w') : w'.cell? ⟨w.heap.size, 0, none⟩ = some a ∧ w'.cell? ⟨w.heap.size, 1, none⟩ = some b ∧ w'.cell? ⟨w.heap.size, 2, none⟩ = some c :=
  ⟨box_cell h rfl, box_cell h rfl, box_cell h rfl⟩

theorem EffectValid_c (k : Int) (a t : Value) (A T : List Int) (w : World) (hA : SlI w a A) (hT : SlI w t T) :
    Rets Go.Proofs.Try.prog 4 #[.agg #[.int .i64 k, a, t]] w fun r w' => r = .bool true ∧ Ext w w' := by
  obtain ⟨pa, ca, rfl, _, _⟩ := hA.shape
  obtain ⟨pt, ct, rfl, _, _⟩ := hT.shape
  have hx : Ext w (w.alloc (.cells #[.int .i64 k, .slice pa A.length ca, .slice pt T.length ct] 24)) := Ext.alloc _ _
  refine en4 ?_
  simp -dsimp -implicitDefEqProofs only [m4, sF4, Nat.reduceEqDiff, ↓reduceIte, Nat.reduceAdd, Nat.reduceMul, Value.cells, Value.oneCell', eq_self, ne_eq, Int.reduceToNat, Int.reduceEq, Int.reduceLT, Int.reduceLE, Int.reduceNeg, if_true, if_false, reduceCtorEq, Nat.reduceSub, storeV_ptr, slcV_slice, ↓mwD, mwU]
  refine (awake_c _).use ?_
  rintro r w1 ⟨rfl, he1⟩
  obtain ⟨b0, b1, b2⟩ := box3 he1
  have x1 := hx.trans he1
  simp -dsimp -implicitDefEqProofs only [b0, b1, b2, m4, sF4, Nat.reduceEqDiff, ↓reduceIte, Nat.reduceAdd, Nat.reduceMul, Value.cells, Value.oneCell', eq_self, ne_eq, Int.reduceToNat, Int.reduceEq, Int.reduceLT, Int.reduceLE, Int.reduceNeg, if_true, if_false, reduceCtorEq, Nat.reduceSub, storeV_ptr, slcV_slice, ↓mwD, mwU]
  refine (long_c k _ _ A T _ [] w1 (hA.ext x1) (hT.ext x1) (SlI.nil _)).use ?_
  rintro r w2 ⟨rfl, he2⟩
  have x2 := x1.trans he2
  cases hl : longB A T []
  · have c0 := he2.cell b0
    have c1 := he2.cell b1
    have c2 := he2.cell b2
    simp -dsimp -implicitDefEqProofs only [c0, c1, c2, m4, sF4, Nat.reduceEqDiff, ↓reduceIte, Nat.reduceAdd, Nat.reduceMul, Value.cells, Value.oneCell', eq_self, ne_eq, Int.reduceToNat, Int.reduceEq, Int.reduceLT, Int.reduceLE, Int.reduceNeg, if_true, if_false, reduceCtorEq, Nat.reduceSub, storeV_ptr, slcV_slice, ↓mwD, mwU]
    refine (Latency_c k _ _ A T w2 (hA.ext x2) (hT.ext x2)).use ?_
    rintro r w3 ⟨rfl, he3⟩
    have d0 := he3.cell c0
    have d1 := he3.cell c1
    have d2 := he3.cell c2
    have x3 := x2.trans he3
    simp -dsimp -implicitDefEqProofs only [d0, d1, d2, m4, sF4, Nat.reduceEqDiff, ↓reduceIte, Nat.reduceAdd, Nat.reduceMul, Value.cells, Value.oneCell', eq_self, ne_eq, Int.reduceToNat, Int.reduceEq, Int.reduceLT, Int.reduceLE, Int.reduceNeg, if_true, if_false, reduceCtorEq, Nat.reduceSub, storeV_ptr, slcV_slice, ↓mwD, mwU]
    refine (refLatencyE_c k _ _ A T w3 (hA.ext x3) (hT.ext x3)).use ?_
    rintro r w4 ⟨rfl, he4⟩
    have e0 := he4.cell d0
    have e1 := he4.cell d1
    have e2 := he4.cell d2
    have x4 := x3.trans he4
    simp -dsimp -implicitDefEqProofs only [m4, sF4, Nat.reduceEqDiff, ↓reduceIte, Nat.reduceAdd, Nat.reduceMul, Value.cells, Value.oneCell', eq_self, ne_eq, Int.reduceToNat, Int.reduceEq, Int.reduceLT, Int.reduceLE, Int.reduceNeg, if_true, if_false, reduceCtorEq, Nat.reduceSub, storeV_ptr, slcV_slice, ↓mwD, mwU]
    refine mwpB_drawE ?_
    simp -dsimp -implicitDefEqProofs only [e0, e1, e2, m4, sF4, Nat.reduceEqDiff, ↓reduceIte, Nat.reduceAdd, Nat.reduceMul, Value.cells, Value.oneCell', eq_self, ne_eq, Int.reduceToNat, Int.reduceEq, Int.reduceLT, Int.reduceLE, Int.reduceNeg, if_true, if_false, reduceCtorEq, Nat.reduceSub, storeV_ptr, slcV_slice, ↓mwD, mwU]
    have xd : Ext w w4.drew := x4.drew'
    refine (Valid_c k _ _ A T _ (hA.ext xd) (hT.ext xd)).use ?_
    rintro r w5 ⟨rfl, he5⟩
    simp -dsimp -implicitDefEqProofs only [m4, sF4, Nat.reduceEqDiff, ↓reduceIte, Nat.reduceAdd, Nat.reduceMul, Value.cells, Value.oneCell', eq_self, ne_eq, Int.reduceToNat, Int.reduceEq, Int.reduceLT, Int.reduceLE, Int.reduceNeg, if_true, if_false, reduceCtorEq, Nat.reduceSub, storeV_ptr, slcV_slice, ↓mwD, mwU]
    refine ⟨he5, (refValid_c k _ _ A T w5 (hA.ext (xd.trans he5)) (hT.ext (xd.trans he5))).use ?_⟩
    rintro r w6 ⟨rfl, he6⟩
    have x6 := (xd.trans he5).trans he6
    have hE := he5.trans he6
    have f0 := hE.cell (a := ⟨w.heap.size, 0, none⟩) e0
    have f1 := hE.cell (a := ⟨w.heap.size, 1, none⟩) e1
    have f2 := hE.cell (a := ⟨w.heap.size, 2, none⟩) e2
    refine ⟨hE, ?_⟩
    simp -dsimp -implicitDefEqProofs only [bne_self_eq_false, f0, f1, f2, m4, sF4, Nat.reduceEqDiff, ↓reduceIte, Nat.reduceAdd, Nat.reduceMul, Value.cells, Value.oneCell', eq_self, ne_eq, Int.reduceToNat, Int.reduceEq, Int.reduceLT, Int.reduceLE, Int.reduceNeg, if_true, if_false, reduceCtorEq, Nat.reduceSub, storeV_ptr, slcV_slice, ↓mwD, mwU]
    refine (Tail_c k _ _ A T w6 (hA.ext x6) (hT.ext x6)).use ?_
    rintro r w7 ⟨rfl, he7⟩
    have x7 := x6.trans he7
    have g0 := he7.cell f0
    have g1 := he7.cell f1
    have g2 := he7.cell f2
    simp -dsimp -implicitDefEqProofs only [g0, g1, g2, m4, sF4, Nat.reduceEqDiff, ↓reduceIte, Nat.reduceAdd, Nat.reduceMul, Value.cells, Value.oneCell', eq_self, ne_eq, Int.reduceToNat, Int.reduceEq, Int.reduceLT, Int.reduceLE, Int.reduceNeg, if_true, if_false, reduceCtorEq, Nat.reduceSub, storeV_ptr, slcV_slice, ↓mwD, mwU]
    refine (refTail_c k _ _ A T w7 (hA.ext x7) (hT.ext x7)).use ?_
    rintro r w8 ⟨rfl, he8⟩
    simp -dsimp -implicitDefEqProofs only [m4, sF4, Nat.reduceEqDiff, ↓reduceIte, Nat.reduceAdd, Nat.reduceMul, Value.cells, Value.oneCell', eq_self, ne_eq, Int.reduceToNat, Int.reduceEq, Int.reduceLT, Int.reduceLE, Int.reduceNeg, if_true, if_false, reduceCtorEq, Nat.reduceSub, storeV_ptr, slcV_slice, ↓mwD, mwU]
    exact x7.trans he8
  · simp -dsimp -implicitDefEqProofs only [m4, sF4, Nat.reduceEqDiff, ↓reduceIte, Nat.reduceAdd, Nat.reduceMul, Value.cells, Value.oneCell', eq_self, ne_eq, Int.reduceToNat, Int.reduceEq, Int.reduceLT, Int.reduceLE, Int.reduceNeg, if_true, if_false, reduceCtorEq, Nat.reduceSub, storeV_ptr, slcV_slice, ↓mwD, mwU]
    exact x2

/-- A compressor never makes a sample greater. -/
theorem runU_press : ∀ (L : List Int) (th ra at_ re lev : Int), (US.press th ra at_ re lev).ok → Smps L → ∀ (i : Nat) (x y : Int), L[i]? = some x → (runU (.press th ra at_ re lev) L).2[i]? = some y → (0 < y → y ≤ x) ∧ (y < 0 → x ≤ y)
  | [], _, _, _, _, _, _, _, i, x, y, hx, _ => by simp at hx
  | z :: L, th, ra, at_, re, lev, hok, hs, i, x, y, hx, hy => by
    have hz := hs z (by simp)
    have h1 := stepU_ok hok hz
    cases i with
    | zero =>
      simp only [List.getElem?_cons_zero, Option.some.injEq] at hx
      subst hx
      simp only [runU, stepU, List.getElem?_cons_zero, Option.some.injEq] at hy
      obtain ⟨a1, a2, a3, a4, a5, a6, a7, a8, a9, a10⟩ := hok
      have hl := levI_bd (at_ := at_) (re := re) hz.1 hz.2 a5 a6 a7 a8 a9 a10
      have hf := folI_bd (th := th) (ra := ra) (lev := levI at_ re lev z) a1 a3 hl.1
      have hr := rnd_mul (d := z) hf.1 hf.2
      rw [hy] at hr
      by_cases h0 : 0 ≤ z
      · have := hr.1 h0; omega
      · have := hr.2 (by omega); omega
    | succ i => exact runU_press L th ra at_ re _ h1.1 (fun u hu => hs u (by simp [hu])) i x y (by simpa using hx) (by simpa [runU, stepU] using hy)

theorem bnd_self {x : Int} (h : Smp x) : bnd x = x := by unfold Smp at h; unfold bnd; split <;> (try split) <;> omega

theorem EffectBounds_c (k : Int) (a t : Value) (A T : List Int) (l : Value) (L : List Int) (w : World) (hA : SlI w a A) (hT : SlI w t T) (hL : SlI w l L) :
    Rets Go.Proofs.Try.prog 3 #[.agg #[.int .i64 k, a, t], l] w fun r w' => r = .bool true ∧ Ext w w' := by
  obtain ⟨pa, ca, rfl, _, _⟩ := hA.shape
  obtain ⟨pt, ct, rfl, _, _⟩ := hT.shape
  obtain ⟨pl, cl, rfl, _, _⟩ := hL.shape
  have hx : Ext w (w.alloc (.cells #[.int .i64 k, .slice pa A.length ca, .slice pt T.length ct] 24)) := Ext.alloc _ _
  refine en3 ?_
  simp -dsimp -implicitDefEqProofs only [m3, sF3, Nat.reduceEqDiff, ↓reduceIte, Nat.reduceAdd, Nat.reduceMul, Value.cells, Value.oneCell', eq_self, ne_eq, Int.reduceToNat, Int.reduceEq, Int.reduceLT, Int.reduceLE, Int.reduceNeg, if_true, if_false, reduceCtorEq, Nat.reduceSub, storeV_ptr, slcV_slice, ↓mwD, mwU]
  refine (awake_c _).use ?_
  rintro r w1 ⟨rfl, he1⟩
  obtain ⟨b0, b1, b2⟩ := box3 he1
  have x1 := hx.trans he1
  simp -dsimp -implicitDefEqProofs only [b0, b1, b2, m3, sF3, Nat.reduceEqDiff, ↓reduceIte, Nat.reduceAdd, Nat.reduceMul, Value.cells, Value.oneCell', eq_self, ne_eq, Int.reduceToNat, Int.reduceEq, Int.reduceLT, Int.reduceLE, Int.reduceNeg, if_true, if_false, reduceCtorEq, Nat.reduceSub, storeV_ptr, slcV_slice, ↓mwD, mwU]
  refine (long_c k _ _ A T _ L w1 (hA.ext x1) (hT.ext x1) (hL.ext x1)).use ?_
  rintro r w2 ⟨rfl, he2⟩
  have x2 := x1.trans he2
  cases hl : longB A T L
  · have c0 := he2.cell b0
    have c1 := he2.cell b1
    have c2 := he2.cell b2
    simp -dsimp -implicitDefEqProofs only [c0, c1, c2, m3, sF3, Nat.reduceEqDiff, ↓reduceIte, Nat.reduceAdd, Nat.reduceMul, Value.cells, Value.oneCell', eq_self, ne_eq, Int.reduceToNat, Int.reduceEq, Int.reduceLT, Int.reduceLE, Int.reduceNeg, if_true, if_false, reduceCtorEq, Nat.reduceSub, storeV_ptr, slcV_slice, ↓mwD, mwU]
    refine (ERun_c k _ _ A T _ L w2 (hA.ext x2) (hT.ext x2) (hL.ext x2)).use ?_
    rintro r w3 ⟨he3, h⟩
    have x3 := x2.trans he3
    have d0 := he3.cell c0
    cases hv : (validB k A T && samplesB L)
    · rw [hv] at h
      simp only [Bool.false_eq_true, if_false] at h
      subst h
      simp -dsimp -implicitDefEqProofs only [m3, sF3, Nat.reduceEqDiff, ↓reduceIte, Nat.reduceAdd, Nat.reduceMul, Value.cells, Value.oneCell', eq_self, ne_eq, Int.reduceToNat, Int.reduceEq, Int.reduceLT, Int.reduceLE, Int.reduceNeg, if_true, if_false, reduceCtorEq, Nat.reduceSub, storeV_ptr, slcV_slice, ↓mwD, mwU]
      exact x3
    · rw [hv] at h
      simp only [if_true] at h
      obtain ⟨o, rfl, ho⟩ := h
      simp -dsimp -implicitDefEqProofs only [m3, sF3, Nat.reduceEqDiff, ↓reduceIte, Nat.reduceAdd, Nat.reduceMul, Value.cells, Value.oneCell', eq_self, ne_eq, Int.reduceToNat, Int.reduceEq, Int.reduceLT, Int.reduceLE, Int.reduceNeg, if_true, if_false, reduceCtorEq, Nat.reduceSub, storeV_ptr, slcV_slice, ↓mwD, mwU]
      simp only [Bool.and_eq_true] at hv
      obtain ⟨hlen, hsmp⟩ := samples_smps hv.2
      have hok := runU_ok L _ (initU_ok (valid_shape hv.1)) hsmp
      have hpr : k = 5 → ∀ (i : Nat) (x y : Int), L[i]? = some x → (runU (initU k A T) L).2[i]? = some y → (0 < y → y ≤ x) ∧ (y < 0 → x ≤ y) := by
        rintro rfl
        exact runU_press L _ _ _ _ _ (initU_ok (valid_shape hv.1)) hsmp
      have hol := runU_length L (initU k A T)
      obtain ⟨po, co, rfl, ho1, ho2⟩ := ho.shape
      generalize (runU (initU k A T) L).2 = O at *
      rw [hol]
      refine mwpB_loop (fun e ds wl => ∃ i : Nat, i ≤ L.length ∧ e 7 = .int .i64 i ∧ e 5 = .slice po L.length co ∧ e 1 = .slice pl L.length cl ∧ e 2 = .pointer (some ⟨w.heap.size, 0, none⟩) ∧ ds = [] ∧ Ext w3 wl) (fun e _ => L.length - (intOf (e 7)).toNat) ?_ ?_
      · simp -dsimp -implicitDefEqProofs only [m3, sF3, Nat.reduceEqDiff, ↓reduceIte, Nat.reduceAdd, Nat.reduceMul, Value.cells, Value.oneCell', eq_self, ne_eq, Int.reduceToNat, Int.reduceEq, Int.reduceLT, Int.reduceLE, Int.reduceNeg, if_true, if_false, reduceCtorEq, Nat.reduceSub, storeV_ptr, slcV_slice, ↓mwD, mwU]
        exact ⟨0, by omega, rfl, Ext.refl _⟩
      · rintro e ds wl ⟨i, hi, h7, h5, h1, h2, rfl, hx⟩
        simp -dsimp -implicitDefEqProofs only [h7, h5, h1, h2, m3, sF3, Nat.reduceEqDiff, ↓reduceIte, Nat.reduceAdd, Nat.reduceMul, Value.cells, Value.oneCell', eq_self, ne_eq, Int.reduceToNat, Int.reduceEq, Int.reduceLT, Int.reduceLE, Int.reduceNeg, if_true, if_false, reduceCtorEq, Nat.reduceSub, storeV_ptr, slcV_slice, ↓mwD, mwU]
        refine iteW_dec (fun hlt => ?_) (fun hge => ?_)
        · have hil : i < L.length := by omega
          have hio : i < O.length := by omega
          obtain ⟨bo, oo, co', hvo, hco⟩ := ho.some (by omega)
          obtain ⟨bl, ol, cl', hvl, hcl⟩ := hL.some (by omega)
          rw [hol] at hvo
          cases hvo
          cases hvl
          have ci := hx.cell (hco i O[i] (by simp [hio]))
          have li := (x3.trans hx).cell (hcl i L[i] (by simp [hil]))
          have kc := hx.cell d0
          have hb1 : (0 : Int) ≤ i ∧ (i : Int) < L.length := by omega
          have hw1 : IntKind.i64.wrap ((i : Int) + 1) = ((i + 1 : Nat) : Int) := by rw [w64 (by omega) (by omega)]; omega
          have hbn := bnd_self (hok.2 O[i] (by simp))
          simp -dsimp -implicitDefEqProofs only [h7, h5, h1, h2, m3, sF3, Nat.reduceEqDiff, ↓reduceIte, Nat.reduceAdd, Nat.reduceMul, Value.cells, Value.oneCell', eq_self, ne_eq, Int.reduceToNat, Int.reduceEq, Int.reduceLT, Int.reduceLE, Int.reduceNeg, if_true, if_false, reduceCtorEq, Nat.reduceSub, storeV_ptr, slcV_slice, ↓mwD, mwU]
          refine mwpB_drawE ?_
          simp -dsimp -implicitDefEqProofs only [h7, h5, h1, h2, hb1, and_self, ci, m3, sF3, Nat.reduceEqDiff, ↓reduceIte, Nat.reduceAdd, Nat.reduceMul, Value.cells, Value.oneCell', eq_self, ne_eq, Int.reduceToNat, Int.reduceEq, Int.reduceLT, Int.reduceLE, Int.reduceNeg, if_true, if_false, reduceCtorEq, Nat.reduceSub, storeV_ptr, slcV_slice, ↓mwD, mwU]
          refine (Bounded_c _ _).use ?_
          rintro r w4 ⟨rfl, rfl⟩
          rw [hbn]
          simp -dsimp -implicitDefEqProofs only [m3, sF3, Nat.reduceEqDiff, ↓reduceIte, Nat.reduceAdd, Nat.reduceMul, Value.cells, Value.oneCell', eq_self, ne_eq, Int.reduceToNat, Int.reduceEq, Int.reduceLT, Int.reduceLE, Int.reduceNeg, if_true, if_false, reduceCtorEq, Nat.reduceSub, storeV_ptr, slcV_slice, ↓mwD, mwU]
          refine ⟨Ext.refl _, mwpB_drawE ?_⟩
          simp -dsimp -implicitDefEqProofs only [h7, h5, h1, h2, hb1, and_self, ci, li, kc, m3, sF3, Nat.reduceEqDiff, ↓reduceIte, Nat.reduceAdd, Nat.reduceMul, Value.cells, Value.oneCell', eq_self, ne_eq, Int.reduceToNat, Int.reduceEq, Int.reduceLT, Int.reduceLE, Int.reduceNeg, if_true, if_false, reduceCtorEq, Nat.reduceSub, storeV_ptr, slcV_slice, ↓mwD, mwU]
          refine iteW_dec (fun h5k => ?_) (fun h5k => ?_)
          · have hp := hpr h5k i L[i] O[i] (by simp [hil]) (by simp [hio])
            simp -dsimp -implicitDefEqProofs only [h7, h5, h1, h2, hb1, and_self, ci, li, hw1, h5k, m3, sF3, Nat.reduceEqDiff, ↓reduceIte, Nat.reduceAdd, Nat.reduceMul, Value.cells, Value.oneCell', eq_self, ne_eq, Int.reduceToNat, Int.reduceEq, Int.reduceLT, Int.reduceLE, Int.reduceNeg, if_true, if_false, reduceCtorEq, Nat.reduceSub, storeV_ptr, slcV_slice, ↓mwD, mwU]
            refine iteW_dec (fun hpos => ?_) (fun hpos => ?_)
            · have n1 : ¬ L[i] < O[i] := by have := hp.1 hpos; omega
              have n2 : ¬ O[i] < 0 := by omega
              simp -dsimp -implicitDefEqProofs only [h7, h5, h1, h2, hb1, and_self, ci, li, hw1, h5k, hpos, n1, n2, m3, sF3, Nat.reduceEqDiff, ↓reduceIte, Nat.reduceAdd, Nat.reduceMul, Value.cells, Value.oneCell', eq_self, ne_eq, Int.reduceToNat, Int.reduceEq, Int.reduceLT, Int.reduceLE, Int.reduceNeg, if_true, if_false, reduceCtorEq, Nat.reduceSub, storeV_ptr, slcV_slice, ↓mwD, mwU]
              refine ⟨⟨i + 1, by omega, rfl, (hx.drew').drew'⟩, by simp only [intOf]; omega⟩
            · simp -dsimp -implicitDefEqProofs only [h7, h5, h1, h2, hb1, and_self, ci, li, hw1, h5k, hpos, m3, sF3, Nat.reduceEqDiff, ↓reduceIte, Nat.reduceAdd, Nat.reduceMul, Value.cells, Value.oneCell', eq_self, ne_eq, Int.reduceToNat, Int.reduceEq, Int.reduceLT, Int.reduceLE, Int.reduceNeg, if_true, if_false, reduceCtorEq, Nat.reduceSub, storeV_ptr, slcV_slice, ↓mwD, mwU]
              refine iteW_dec (fun hneg => ?_) (fun hneg => ?_)
              · have n1 : ¬ O[i] < L[i] := by have := hp.2 hneg; omega
                simp -dsimp -implicitDefEqProofs only [h7, h5, h1, h2, hb1, and_self, ci, li, hw1, h5k, hpos, hneg, n1, m3, sF3, Nat.reduceEqDiff, ↓reduceIte, Nat.reduceAdd, Nat.reduceMul, Value.cells, Value.oneCell', eq_self, ne_eq, Int.reduceToNat, Int.reduceEq, Int.reduceLT, Int.reduceLE, Int.reduceNeg, if_true, if_false, reduceCtorEq, Nat.reduceSub, storeV_ptr, slcV_slice, ↓mwD, mwU]
                refine ⟨⟨i + 1, by omega, rfl, (hx.drew').drew'⟩, by simp only [intOf]; omega⟩
              · simp -dsimp -implicitDefEqProofs only [h7, h5, h1, h2, hb1, and_self, ci, li, hw1, h5k, hpos, hneg, m3, sF3, Nat.reduceEqDiff, ↓reduceIte, Nat.reduceAdd, Nat.reduceMul, Value.cells, Value.oneCell', eq_self, ne_eq, Int.reduceToNat, Int.reduceEq, Int.reduceLT, Int.reduceLE, Int.reduceNeg, if_true, if_false, reduceCtorEq, Nat.reduceSub, storeV_ptr, slcV_slice, ↓mwD, mwU]
                refine ⟨⟨i + 1, by omega, rfl, (hx.drew').drew'⟩, by simp only [intOf]; omega⟩
          · simp -dsimp -implicitDefEqProofs only [h7, h5, h1, h2, hb1, and_self, ci, li, hw1, h5k, m3, sF3, Nat.reduceEqDiff, ↓reduceIte, Nat.reduceAdd, Nat.reduceMul, Value.cells, Value.oneCell', eq_self, ne_eq, Int.reduceToNat, Int.reduceEq, Int.reduceLT, Int.reduceLE, Int.reduceNeg, if_true, if_false, reduceCtorEq, Nat.reduceSub, storeV_ptr, slcV_slice, ↓mwD, mwU]
            refine ⟨⟨i + 1, by omega, rfl, (hx.drew').drew'⟩, by simp only [intOf]; omega⟩
        · simp -dsimp -implicitDefEqProofs only [h7, h5, h1, h2, m3, sF3, Nat.reduceEqDiff, ↓reduceIte, Nat.reduceAdd, Nat.reduceMul, Value.cells, Value.oneCell', eq_self, ne_eq, Int.reduceToNat, Int.reduceEq, Int.reduceLT, Int.reduceLE, Int.reduceNeg, if_true, if_false, reduceCtorEq, Nat.reduceSub, storeV_ptr, slcV_slice, ↓mwD, mwU]
          exact x3.trans hx
  · simp -dsimp -implicitDefEqProofs only [m3, sF3, Nat.reduceEqDiff, ↓reduceIte, Nat.reduceAdd, Nat.reduceMul, Value.cells, Value.oneCell', eq_self, ne_eq, Int.reduceToNat, Int.reduceEq, Int.reduceLT, Int.reduceLE, Int.reduceNeg, if_true, if_false, reduceCtorEq, Nat.reduceSub, storeV_ptr, slcV_slice, ↓mwD, mwU]
    exact x2

end Go.Proofs.Ytefcfnmmpnjjjaa

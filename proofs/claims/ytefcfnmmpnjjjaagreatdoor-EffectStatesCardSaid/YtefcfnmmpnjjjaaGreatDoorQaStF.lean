/- EffectStates: the walk. -/
import Derived.Test.YtefcfnmmpnjjjaaGreatDoorQaStE
import Derived.Test.YtefcfnmmpnjjjaaGreatDoorQaEffR
namespace Go.Proofs.YtefcfnmmpnjjjaaGreatDoor
open Go.RowKit
set_option linter.unusedSimpArgs false

theorem lenU_step (s : US) (x : Int) : lenU (stepU s x).1 = lenU s := by
  cases s <;> simp [lenU, numsU, stepU, pushL_length]
theorem lenU_run : ∀ (L : List Int) (s : US), lenU (runU s L).1 = lenU s
  | [], s => rfl
  | x :: L, s => by rw [runU, lenU_run L]; exact lenU_step s x
theorem nums_smps {s : US} (h : s.ok) : Smps (numsU s) := by
  cases s with
  | gain g => intro x hx; cases hx
  | delay l => exact h.1
  | echo l g => exact h.1
  | filter l T => exact h.1
  | press th ra at_ re lev =>
    obtain ⟨_, _, _, _, _, _, _, _, h9, h10⟩ := h
    intro x hx
    simp [numsU] at hx
    subst hx
    exact ⟨by omega, by omega⟩
  | gate th hold since =>
    obtain ⟨_, _, _, _, h5, h6⟩ := h
    intro x hx
    simp [numsU] at hx
    subst hx
    exact ⟨by omega, by omega⟩
  | look th ra at_ re lev l =>
    obtain ⟨⟨_, _, _, _, _, _, _, _, h9, h10⟩, hs, _⟩ := h
    intro x hx
    rcases List.mem_cons.1 hx with rfl | hx
    · exact ⟨by omega, by omega⟩
    · exact hs x hx
theorem smps_in {l : List Int} (h : Smps l) : ∀ n ∈ l, inI n := fun n hn => by have := h n hn; unfold Smp at this; unfold inI; omega
theorem len_ok {s : US} (h : s.ok) : lenU s ≤ 4097 := by
  cases s with
  | gain g => simp [lenU, numsU]
  | delay l => have := h.2; simp [lenU, numsU]; omega
  | echo l g => have := h.2.2.1; simp [lenU, numsU]; omega
  | filter l T => have := h.2.1; have := h.2.2.1; simp [lenU, numsU]; omega
  | press th ra at_ re lev => simp [lenU, numsU]
  | gate th hold since => simp [lenU, numsU]
  | look th ra at_ re lev l => have := h.2.2; simp [lenU, numsU]; omega
theorem vshape_in {k : Int} {A T : List Int} (h : VShape k A T) : inI k ∧ (∀ n ∈ A, inI n) ∧ (∀ n ∈ T, inI n) ∧ A.length ≤ 512 ∧ T.length ≤ 512 := by
  have hl := shape_len h
  refine ⟨?_, ?_, ?_, by omega, hl.2⟩
  · cases h <;> exact ⟨by decide, by decide⟩
  · intro n hn
    cases h <;> simp only [List.mem_cons, List.not_mem_nil, or_false] at hn
    case gain h => subst hn; exact ⟨by omega, by omega⟩
    case delay h => subst hn; exact ⟨by omega, by omega⟩
    case echo h h' => rcases hn with rfl | rfl <;> exact ⟨by omega, by omega⟩
    case press h0 h1 h2 h3 => rcases hn with rfl | rfl | rfl | rfl <;> exact ⟨by omega, by omega⟩
    case gate h0 h1 => rcases hn with rfl | rfl <;> exact ⟨by omega, by omega⟩
    case look h0 h1 h2 h3 h4 => rcases hn with rfl | rfl | rfl | rfl | rfl <;> exact ⟨by omega, by omega⟩
  · intro n hn
    cases h
    case filter h =>
      simp only [tapsB, Bool.and_eq_true, Bool.not_eq_true', List.any_eq_false] at h
      have := h.2 n hn
      simp [wtn] at this
      exact ⟨by omega, by omega⟩
    all_goals simp at hn

/-- A unit that made samples: what its text tells, and what reading that comes to. -/
structure SUnit (s : US) (k : Int) (A T : List Int) : Prop where
  ok : s.ok
  shape : VShape k A T
  len : lenU s = lenU (initU k A T)
theorem SUnit.reads {s : US} {k : Int} {A T : List Int} (h : SUnit s k A T) : unitP k A T (lenU s) (splitW (textL (stL k A T (numsU s)))) = some (numsU s, []) := by
  obtain ⟨hk, hA, hT, lA, lT⟩ := vshape_in h.shape
  rw [splitW_text _ (by simp [stL])]
  have := unitP_words hk hA hT (nums_smps h.ok) (by omega) (by omega) (by have := len_ok h.ok; unfold lenU at this; omega) []
  rw [List.append_nil] at this
  exact this
theorem SUnit.size {s : US} {k : Int} {A T : List Int} (h : SUnit s k A T) : (textL (stL k A T (numsU s))).size ≤ 1000000 := by
  obtain ⟨hk, hA, hT, lA, lT⟩ := vshape_in h.shape
  obtain ⟨h1, h2⟩ := stL_in hk hA hT (smps_in (nums_smps h.ok)) lA lT (len_ok h.ok)
  have := textL_size _ h1
  omega
theorem SUnit.State_c {w : World} {v : Value} {F : List Nat} {s : US} {k : Int} {A T : List Int} (h : SUnit s k A T) (hE : EnvS w) (hu : UnitAt w v F s k A T) :
    Rets Go.Proofs.Tryz.prog 11 #[v] w fun r w' => r = .string (textL (stL k A T (numsU s))) ∧ Ext w w' := by
  obtain ⟨hk, hA, hT, lA, lT⟩ := vshape_in h.shape
  exact Go.Proofs.YtefcfnmmpnjjjaaGreatDoor.State_c hE hu (len_ok h.ok) lA lT hk hA hT (smps_in (nums_smps h.ok))

theorem ne_self {α : Type} (a : α) : (a ≠ a) = False := by simp
theorem EffectStates_c (k : Int) (a t : Value) (A T : List Int) (k' : Int) (a' t' : Value) (A' T' : List Int) (l : Value) (L : List Int) (st : ByteArray) (w : World) (hE : EnvS w) (hA : SlI w a A) (hT : SlI w t T) (hA' : SlI w a' A') (hT' : SlI w t' T') (hL : SlI w l L) :
    Rets Go.Proofs.Tryz.prog 3 #[.agg #[.int .i64 k, a, t], .agg #[.int .i64 k', a', t'], l, .string st] w fun r w' => r = .bool true ∧ Ext w w' := by
  obtain ⟨pa, ca, rfl, _, _⟩ := hA.shape
  obtain ⟨pt, ct, rfl, _, _⟩ := hT.shape
  obtain ⟨pa', ca', rfl, _, _⟩ := hA'.shape
  obtain ⟨pt', ct', rfl, _, _⟩ := hT'.shape
  obtain ⟨pl, cl, rfl, _, _⟩ := hL.shape
  refine en3 ?_
  have hsz : ∀ o, (w.alloc o).heap.size = w.heap.size + 1 := fun o => by simp
  have hbx2 := (Bk.new w [.int .i64 k, .slice pa A.length ca, .slice pt T.length ct] 24).ext (Ext.alloc _ (.cells #[.int .i64 k', .slice pa' A'.length ca', .slice pt' T'.length ct'] 24))
  have hby := Bk.new (w.alloc (.cells #[.int .i64 k, .slice pa A.length ca, .slice pt T.length ct] 24)) [.int .i64 k', .slice pa' A'.length ca', .slice pt' T'.length ct'] 24
  have hx0 : Ext w ((w.alloc (.cells #[.int .i64 k, .slice pa A.length ca, .slice pt T.length ct] 24)).alloc (.cells #[.int .i64 k', .slice pa' A'.length ca', .slice pt' T'.length ct'] 24)) := (Ext.alloc _ _).alloc' _
  rw [hsz] at hby
  have hs0 : ((w.alloc (.cells #[.int .i64 k, .slice pa A.length ca, .slice pt T.length ct] 24)).alloc (.cells #[.int .i64 k', .slice pa' A'.length ca', .slice pt' T'.length ct'] 24)).heap.size = w.heap.size + 2 := by simp
  simp -dsimp -implicitDefEqProofs only [hsz, m3, sF3, Nat.reduceEqDiff, ↓reduceIte, Nat.reduceAdd, Nat.reduceMul, Value.cells, Value.oneCell', eq_self, ne_eq, Int.reduceToNat, Int.reduceEq, Int.reduceLT, Int.reduceLE, Int.reduceNeg, if_true, if_false, reduceCtorEq, Nat.reduceSub, storeV_ptr, slcV_slice, ↓mwD, mwU]
  generalize hW0 : World.alloc (World.alloc w _) _ = W0 at *
  have b0 := hbx2.get (o := 0) rfl
  have b1 := hbx2.get (o := 1) rfl
  have b2 := hbx2.get (o := 2) rfl
  have c0 := hby.get (o := 0) rfl
  have c1 := hby.get (o := 1) rfl
  have c2 := hby.get (o := 2) rfl
  have hE0 := hE.ext hx0
  refine (awake_c _).use ?_
  rintro r w1 ⟨rfl, x1⟩
  simp -dsimp -implicitDefEqProofs only [x1.cell b0, x1.cell b1, x1.cell b2, m3, sF3, Nat.reduceEqDiff, ↓reduceIte, Nat.reduceAdd, Nat.reduceMul, Value.cells, Value.oneCell', eq_self, ne_eq, Int.reduceToNat, Int.reduceEq, Int.reduceLT, Int.reduceLE, Int.reduceNeg, if_true, if_false, reduceCtorEq, Nat.reduceSub, storeV_ptr, slcV_slice, ↓mwD, mwU]
  refine (long_c k _ _ A T _ L w1 (hA.ext (hx0.trans x1)) (hT.ext (hx0.trans x1)) (hL.ext (hx0.trans x1))).use ?_
  rintro r w2 ⟨rfl, he2⟩
  have x2 := x1.trans he2
  cases hl : longB A T L
  · simp -dsimp -implicitDefEqProofs only [hsz, x2.cell c0, x2.cell c1, x2.cell c2, m3, sF3, Nat.reduceEqDiff, ↓reduceIte, Nat.reduceAdd, Nat.reduceMul, Value.cells, Value.oneCell', eq_self, ne_eq, Int.reduceToNat, Int.reduceEq, Int.reduceLT, Int.reduceLE, Int.reduceNeg, if_true, if_false, reduceCtorEq, Nat.reduceSub, storeV_ptr, slcV_slice, ↓mwD, mwU]
    refine (long_c k' _ _ A' T' _ L w2 (hA'.ext (hx0.trans x2)) (hT'.ext (hx0.trans x2)) (hL.ext (hx0.trans x2))).use ?_
    rintro r w3 ⟨rfl, he3⟩
    have x3 := x2.trans he3
    cases hl' : longB A' T' L
    · simp -dsimp -implicitDefEqProofs only [m3, sF3, Nat.reduceEqDiff, ↓reduceIte, Nat.reduceAdd, Nat.reduceMul, Value.cells, Value.oneCell', eq_self, ne_eq, Int.reduceToNat, Int.reduceEq, Int.reduceLT, Int.reduceLE, Int.reduceNeg, if_true, if_false, reduceCtorEq, Nat.reduceSub, storeV_ptr, slcV_slice, ↓mwD, mwU]
      refine iteW_dec (fun hst => ?_) (fun hst => ?_)
      · simp -dsimp -implicitDefEqProofs only [m3, sF3, Nat.reduceEqDiff, ↓reduceIte, Nat.reduceAdd, Nat.reduceMul, Value.cells, Value.oneCell', eq_self, ne_eq, Int.reduceToNat, Int.reduceEq, Int.reduceLT, Int.reduceLE, Int.reduceNeg, if_true, if_false, reduceCtorEq, Nat.reduceSub, storeV_ptr, slcV_slice, ↓mwD, mwU]
        exact hx0.trans x3
      · have hst' : st.size ≤ 1000000000 := by omega
        simp -dsimp -implicitDefEqProofs only [x3.cell b0, x3.cell b1, x3.cell b2, m3, sF3, Nat.reduceEqDiff, ↓reduceIte, Nat.reduceAdd, Nat.reduceMul, Value.cells, Value.oneCell', eq_self, ne_eq, Int.reduceToNat, Int.reduceEq, Int.reduceLT, Int.reduceLE, Int.reduceNeg, if_true, if_false, reduceCtorEq, Nat.reduceSub, storeV_ptr, slcV_slice, ↓mwD, mwU]
        refine (New_c k _ _ A T w3 (hA.ext (hx0.trans x3)) (hT.ext (hx0.trans x3))).use ?_
        rintro r w4 hr
        cases hv : validB k A T
        · rw [hv] at hr
          simp only [Bool.false_eq_true, if_false] at hr
          obtain ⟨rfl, he4⟩ := hr
          simp -dsimp -implicitDefEqProofs only [m3, sF3, Nat.reduceEqDiff, ↓reduceIte, Nat.reduceAdd, Nat.reduceMul, Value.cells, Value.oneCell', eq_self, ne_eq, Int.reduceToNat, Int.reduceEq, Int.reduceLT, Int.reduceLE, Int.reduceNeg, if_true, if_false, reduceCtorEq, Nat.reduceSub, storeV_ptr, slcV_slice, ↓mwD, mwU]
          exact (hx0.trans x3).trans he4
        · rw [hv] at hr
          simp only [if_true] at hr
          obtain ⟨v, rfl, F, hu, he4, hF⟩ := hr
          have x4 := x3.trans he4
          have hFW : ∀ b ∈ F, W0.heap.size ≤ b := fun b hb => by have := hF b hb; have := x3.le; omega
          have hsh := valid_shape hv
          simp -dsimp -implicitDefEqProofs only [m3, sF3, Nat.reduceEqDiff, ↓reduceIte, Nat.reduceAdd, Nat.reduceMul, Value.cells, Value.oneCell', eq_self, ne_eq, Int.reduceToNat, Int.reduceEq, Int.reduceLT, Int.reduceLE, Int.reduceNeg, if_true, if_false, reduceCtorEq, Nat.reduceSub, storeV_ptr, slcV_slice, ↓mwD, mwU]
          refine (URun_c hu (initU_ok hsh) (hL.ext (hx0.trans x4)) (fun hne q hq hm => ?_)).use ?_
          · have h1 := Sl.block (cs := ints L) hL (by simpa [ints] using hne) q hq
            have h2 := hFW q hm
            have := hx0.le
            omega
          rintro r w5 hr
          cases hsm : samplesB L
          · rw [hsm] at hr
            simp only [Bool.false_eq_true, if_false] at hr
            obtain ⟨rfl, rfl⟩ := hr
            simp -dsimp -implicitDefEqProofs only [m3, sF3, Nat.reduceEqDiff, ↓reduceIte, Nat.reduceAdd, Nat.reduceMul, Value.cells, Value.oneCell', eq_self, ne_eq, Int.reduceToNat, Int.reduceEq, Int.reduceLT, Int.reduceLE, Int.reduceNeg, if_true, if_false, reduceCtorEq, Nat.reduceSub, storeV_ptr, slcV_slice, ↓mwD, mwU]
            exact hx0.trans x4
          · rw [hsm] at hr
            simp only [if_true] at hr
            obtain ⟨o, rfl, ho, hu5, hc5, _⟩ := hr
            have x5 : Ext W0 w5 := hc5.ext x4 hFW
            obtain ⟨hlen, hsmp⟩ := samples_smps hsm
            have hU : SUnit (runU (initU k A T) L).1 k A T := ⟨(runU_ok L _ (initU_ok hsh) hsmp).1, hsh, lenU_run L _⟩
            generalize hs1 : (runU (initU k A T) L).1 = s1 at *
            obtain ⟨po, co, rfl, _, _⟩ := ho.shape
            simp -dsimp -implicitDefEqProofs only [m3, sF3, Nat.reduceEqDiff, ↓reduceIte, Nat.reduceAdd, Nat.reduceMul, Value.cells, Value.oneCell', eq_self, ne_eq, Int.reduceToNat, Int.reduceEq, Int.reduceLT, Int.reduceLE, Int.reduceNeg, if_true, if_false, reduceCtorEq, Nat.reduceSub, storeV_ptr, slcV_slice, ↓mwD, mwU]
            refine (hU.State_c (hE0.ext x5) hu5).use ?_
            rintro _ w6 ⟨rfl, he6⟩
            have x6 := x5.trans he6
            simp -dsimp -implicitDefEqProofs only [m3, sF3, Nat.reduceEqDiff, ↓reduceIte, Nat.reduceAdd, Nat.reduceMul, Value.cells, Value.oneCell', eq_self, ne_eq, Int.reduceToNat, Int.reduceEq, Int.reduceLT, Int.reduceLE, Int.reduceNeg, if_true, if_false, reduceCtorEq, Nat.reduceSub, storeV_ptr, slcV_slice, ↓mwD, mwU]
            obtain ⟨_, _, _, lA, lT⟩ := vshape_in hsh
            refine (Resume_c (hE0.ext x6) (hu5.ext he6) hst' (len_ok hU.ok) lA lT).use ?_
            rintro r w7 hr
            -- behind the text that was given: another state, or the same one
            have h7 : ∃ s2, UnitAt w7 v F s2 k A T ∧ lenU s2 = lenU s1 ∧ resU s2 (numsU s1) = s1 ∧ Ext W0 w7 ∧ (r = .int .i64 0 ∨ (r = .int .i64 2 ∧ s2 = s1)) := by
              unfold ResumeR at hr
              split at hr
              · rename_i l' hp
                obtain ⟨rfl, hu7, hc7⟩ := hr
                exact ⟨_, hu7, lenU_res _ _, by rw [resU_res, resU_self], hc7.ext x6 hFW, .inl rfl⟩
              · obtain ⟨rfl, he7⟩ := hr
                exact ⟨s1, (hu5.ext he6).ext he7, rfl, resU_self _, x6.trans he7, .inr ⟨rfl, rfl⟩⟩
            obtain ⟨s2, hu7, hl7, hre7, x7, hrr⟩ := h7
            have hEk := x7
            have hsize := hU.size
            have hlens := len_ok hU.ok
            have hreads := hU.reads
            have hother : ∀ n, ¬ (k' = k ∧ A' = A) → unitP k' A' T' n (splitW (textL (stL k A T (numsU s1)))) = none := fun n hne => by
              obtain ⟨kI, aI, tI, _, _⟩ := vshape_in hsh
              rw [splitW_text _ (by simp [stL])]
              have := unitP_other (T' := T') (N := numsU s1) (n := n) kI aI tI (by omega) (by omega) [] hne
              rw [List.append_nil] at this
              exact this
            rcases hrr with rfl | ⟨rfl, hss⟩
            · simp -dsimp -implicitDefEqProofs only [m3, sF3, Nat.reduceEqDiff, ↓reduceIte, Nat.reduceAdd, Nat.reduceMul, Value.cells, Value.oneCell', eq_self, ne_eq, Int.reduceToNat, Int.reduceEq, Int.reduceLT, Int.reduceLE, Int.reduceNeg, if_true, if_false, reduceCtorEq, Nat.reduceSub, storeV_ptr, slcV_slice, ↓mwD, mwU]
              refine (Resume_c (hE0.ext x7) hu7 (by omega) (by omega) lA lT).use ?_
              rintro r w9 hr
              unfold ResumeR at hr
              rw [hl7, hreads] at hr
              simp only at hr
              rw [hre7] at hr
              obtain ⟨rfl, hu9, hc9⟩ := hr
              have x9 : Ext W0 w9 := hc9.ext x7 hFW
              simp -dsimp -implicitDefEqProofs only [m3, sF3, Nat.reduceEqDiff, ↓reduceIte, Nat.reduceAdd, Nat.reduceMul, Value.cells, Value.oneCell', eq_self, ne_eq, Int.reduceToNat, Int.reduceEq, Int.reduceLT, Int.reduceLE, Int.reduceNeg, if_true, if_false, reduceCtorEq, Nat.reduceSub, storeV_ptr, slcV_slice, ↓mwD, mwU]
              refine (hU.State_c (hE0.ext x9) hu9).use ?_
              rintro _ w10 ⟨rfl, he10⟩
              have x10 := x9.trans he10
              simp -dsimp -implicitDefEqProofs only [binV_neS, decide_false, ne_self, hsz, x10.cell c0, x10.cell c1, x10.cell c2, m3, sF3, Nat.reduceEqDiff, ↓reduceIte, Nat.reduceAdd, Nat.reduceMul, Value.cells, Value.oneCell', eq_self, ne_eq, Int.reduceToNat, Int.reduceEq, Int.reduceLT, Int.reduceLE, Int.reduceNeg, if_true, if_false, reduceCtorEq, Nat.reduceSub, storeV_ptr, slcV_slice, ↓mwD, mwU]
              refine (New_c k' _ _ A' T' w10 (hA'.ext (hx0.trans x10)) (hT'.ext (hx0.trans x10))).use ?_
              rintro r w11 hr
              cases hv' : validB k' A' T'
              · rw [hv'] at hr
                simp only [Bool.false_eq_true, if_false] at hr
                obtain ⟨rfl, he11⟩ := hr
                simp -dsimp -implicitDefEqProofs only [m3, sF3, Nat.reduceEqDiff, ↓reduceIte, Nat.reduceAdd, Nat.reduceMul, Value.cells, Value.oneCell', eq_self, ne_eq, Int.reduceToNat, Int.reduceEq, Int.reduceLT, Int.reduceLE, Int.reduceNeg, if_true, if_false, reduceCtorEq, Nat.reduceSub, storeV_ptr, slcV_slice, ↓mwD, mwU]
                exact (hx0.trans x10).trans he11
              · rw [hv'] at hr
                simp only [if_true] at hr
                obtain ⟨v', rfl, F', hu', he11, hF'⟩ := hr
                have x11 := x10.trans he11
                have hFW' : ∀ b ∈ F', W0.heap.size ≤ b := fun b hb => by have := hF' b hb; have := x10.le; omega
                have hsh' := valid_shape hv'
                obtain ⟨kI', aI', tI', lA', lT'⟩ := vshape_in hsh'
                have hlen' := len_ok (initU_ok hsh')
                simp -dsimp -implicitDefEqProofs only [hsz, x11.cell b0, x11.cell b1, x11.cell b2, x11.cell c0, x11.cell c1, x11.cell c2, m3, sF3, Nat.reduceEqDiff, ↓reduceIte, Nat.reduceAdd, Nat.reduceMul, Value.cells, Value.oneCell', eq_self, ne_eq, Int.reduceToNat, Int.reduceEq, Int.reduceLT, Int.reduceLE, Int.reduceNeg, if_true, if_false, reduceCtorEq, Nat.reduceSub, storeV_ptr, slcV_slice, ↓mwD, mwU]
                refine iteW_dec (fun hkk => ?_) (fun hkk => ?_)
                · subst hkk
                  simp -dsimp -implicitDefEqProofs only [decide_true, hsz, x11.cell b0, x11.cell b1, x11.cell b2, x11.cell c0, x11.cell c1, x11.cell c2, m3, sF3, Nat.reduceEqDiff, ↓reduceIte, Nat.reduceAdd, Nat.reduceMul, Value.cells, Value.oneCell', eq_self, ne_eq, Int.reduceToNat, Int.reduceEq, Int.reduceLT, Int.reduceLE, Int.reduceNeg, if_true, if_false, reduceCtorEq, Nat.reduceSub, storeV_ptr, slcV_slice, ↓mwD, mwU]
                  refine (ints_c (hA.ext (hx0.trans x11)) (hA'.ext (hx0.trans x11))).use ?_
                  rintro _ w12 ⟨rfl, he12⟩
                  have x12 := x11.trans he12
                  have hu12 := hu'.ext he12
                  simp -dsimp -implicitDefEqProofs only [m3, sF3, Nat.reduceEqDiff, ↓reduceIte, Nat.reduceAdd, Nat.reduceMul, Value.cells, Value.oneCell', eq_self, ne_eq, Int.reduceToNat, Int.reduceEq, Int.reduceLT, Int.reduceLE, Int.reduceNeg, if_true, if_false, reduceCtorEq, Nat.reduceSub, storeV_ptr, slcV_slice, ↓mwD, mwU]
                  refine iteW_dec (fun hAA => ?_) (fun hAA => ?_)
                  · subst hAA
                    simp -dsimp -implicitDefEqProofs only [decide_true, hsz, x12.cell b2, x12.cell c2, m3, sF3, Nat.reduceEqDiff, ↓reduceIte, Nat.reduceAdd, Nat.reduceMul, Value.cells, Value.oneCell', eq_self, ne_eq, Int.reduceToNat, Int.reduceEq, Int.reduceLT, Int.reduceLE, Int.reduceNeg, if_true, if_false, reduceCtorEq, Nat.reduceSub, storeV_ptr, slcV_slice, ↓mwD, mwU]
                    refine (ints_c (hT.ext (hx0.trans x12)) (hT'.ext (hx0.trans x12))).use ?_
                    rintro _ w13 ⟨rfl, he13⟩
                    have x13 := x12.trans he13
                    have hu13 := hu12.ext he13
                    simp -dsimp -implicitDefEqProofs only [m3, sF3, Nat.reduceEqDiff, ↓reduceIte, Nat.reduceAdd, Nat.reduceMul, Value.cells, Value.oneCell', eq_self, ne_eq, Int.reduceToNat, Int.reduceEq, Int.reduceLT, Int.reduceLE, Int.reduceNeg, if_true, if_false, reduceCtorEq, Nat.reduceSub, storeV_ptr, slcV_slice, ↓mwD, mwU]
                    refine iteW_dec (fun hTT => ?_) (fun hTT => ?_)
                    · subst hTT
                      simp -dsimp -implicitDefEqProofs only [decide_true, m3, sF3, Nat.reduceEqDiff, ↓reduceIte, Nat.reduceAdd, Nat.reduceMul, Value.cells, Value.oneCell', eq_self, ne_eq, Int.reduceToNat, Int.reduceEq, Int.reduceLT, Int.reduceLE, Int.reduceNeg, if_true, if_false, reduceCtorEq, Nat.reduceSub, storeV_ptr, slcV_slice, ↓mwD, mwU]
                      refine (Resume_c (hE0.ext x13) hu13 (by omega) hlen' lA' lT').use ?_
                      rintro r w14 hr
                      have hlU : lenU (initU k A T) = lenU s1 := hU.len.symm
                      unfold ResumeR at hr
                      rw [hlU, hreads] at hr
                      simp only at hr
                      obtain ⟨rfl, hu14, hc14⟩ := hr
                      have hc14' : Ext W0 w14 := hc14.ext x13 hFW'
                      simp -dsimp -implicitDefEqProofs only [m3, sF3, Nat.reduceEqDiff, ↓reduceIte, Nat.reduceAdd, Nat.reduceMul, Value.cells, Value.oneCell', eq_self, ne_eq, Int.reduceToNat, Int.reduceEq, Int.reduceLT, Int.reduceLE, Int.reduceNeg, if_true, if_false, reduceCtorEq, Nat.reduceSub, storeV_ptr, slcV_slice, ↓mwD, mwU]
                      have hnum : numsU (resU (initU k A T) (numsU s1)) = numsU s1 := numsU_res _ _ (by show lenU s1 = _; exact hlU.symm)
                      refine (State_c (hE0.ext hc14') hu14 (by rw [lenU_res]; exact hlen') lA lT kI' aI' tI' (by rw [hnum]; exact smps_in (nums_smps hU.ok))).use ?_
                      rw [hnum]
                      rintro _ w15 ⟨rfl, he15⟩
                      simp -dsimp -implicitDefEqProofs only [binV_eqS, decide_true, m3, sF3, Nat.reduceEqDiff, ↓reduceIte, Nat.reduceAdd, Nat.reduceMul, Value.cells, Value.oneCell', eq_self, ne_eq, Int.reduceToNat, Int.reduceEq, Int.reduceLT, Int.reduceLE, Int.reduceNeg, if_true, if_false, reduceCtorEq, Nat.reduceSub, storeV_ptr, slcV_slice, ↓mwD, mwU]
                      exact (hx0.trans hc14').trans he15
                    · simp -dsimp -implicitDefEqProofs only [hTT, decide_false, m3, sF3, Nat.reduceEqDiff, ↓reduceIte, Nat.reduceAdd, Nat.reduceMul, Value.cells, Value.oneCell', eq_self, ne_eq, Int.reduceToNat, Int.reduceEq, Int.reduceLT, Int.reduceLE, Int.reduceNeg, if_true, if_false, reduceCtorEq, Nat.reduceSub, storeV_ptr, slcV_slice, ↓mwD, mwU]
                      exact hx0.trans x13
                  · simp -dsimp -implicitDefEqProofs only [hAA, decide_false, m3, sF3, Nat.reduceEqDiff, ↓reduceIte, Nat.reduceAdd, Nat.reduceMul, Value.cells, Value.oneCell', eq_self, ne_eq, Int.reduceToNat, Int.reduceEq, Int.reduceLT, Int.reduceLE, Int.reduceNeg, if_true, if_false, reduceCtorEq, Nat.reduceSub, storeV_ptr, slcV_slice, ↓mwD, mwU]
                    refine (Resume_c (hE0.ext x12) hu12 (by omega) hlen' lA' lT').use ?_
                    rintro r w13 hr
                    unfold ResumeR at hr
                    rw [hother _ (fun h => hAA h.2.symm)] at hr
                    simp only at hr
                    obtain ⟨rfl, he13⟩ := hr
                    simp -dsimp -implicitDefEqProofs only [m3, sF3, Nat.reduceEqDiff, ↓reduceIte, Nat.reduceAdd, Nat.reduceMul, Value.cells, Value.oneCell', eq_self, ne_eq, Int.reduceToNat, Int.reduceEq, Int.reduceLT, Int.reduceLE, Int.reduceNeg, if_true, if_false, reduceCtorEq, Nat.reduceSub, storeV_ptr, slcV_slice, ↓mwD, mwU]
                    exact (hx0.trans x12).trans he13
                · simp -dsimp -implicitDefEqProofs only [hkk, decide_false, m3, sF3, Nat.reduceEqDiff, ↓reduceIte, Nat.reduceAdd, Nat.reduceMul, Value.cells, Value.oneCell', eq_self, ne_eq, Int.reduceToNat, Int.reduceEq, Int.reduceLT, Int.reduceLE, Int.reduceNeg, if_true, if_false, reduceCtorEq, Nat.reduceSub, storeV_ptr, slcV_slice, ↓mwD, mwU]
                  refine (Resume_c (hE0.ext x11) hu' (by omega) hlen' lA' lT').use ?_
                  rintro r w12 hr
                  unfold ResumeR at hr
                  rw [hother _ (fun h => hkk h.1.symm)] at hr
                  simp only at hr
                  obtain ⟨rfl, he12⟩ := hr
                  simp -dsimp -implicitDefEqProofs only [m3, sF3, Nat.reduceEqDiff, ↓reduceIte, Nat.reduceAdd, Nat.reduceMul, Value.cells, Value.oneCell', eq_self, ne_eq, Int.reduceToNat, Int.reduceEq, Int.reduceLT, Int.reduceLE, Int.reduceNeg, if_true, if_false, reduceCtorEq, Nat.reduceSub, storeV_ptr, slcV_slice, ↓mwD, mwU]
                  exact (hx0.trans x11).trans he12
            · simp -dsimp -implicitDefEqProofs only [m3, sF3, Nat.reduceEqDiff, ↓reduceIte, Nat.reduceAdd, Nat.reduceMul, Value.cells, Value.oneCell', eq_self, ne_eq, Int.reduceToNat, Int.reduceEq, Int.reduceLT, Int.reduceLE, Int.reduceNeg, if_true, if_false, reduceCtorEq, Nat.reduceSub, storeV_ptr, slcV_slice, ↓mwD, mwU]
              refine (hU.State_c (hE0.ext x7) (by rw [← hss]; exact hu7)).use ?_
              rintro _ w8 ⟨rfl, he8⟩
              have x8 := x7.trans he8
              have hu8 := hu7.ext he8
              simp -dsimp -implicitDefEqProofs only [binV_neS, decide_false, ne_self, m3, sF3, Nat.reduceEqDiff, ↓reduceIte, Nat.reduceAdd, Nat.reduceMul, Value.cells, Value.oneCell', eq_self, ne_eq, Int.reduceToNat, Int.reduceEq, Int.reduceLT, Int.reduceLE, Int.reduceNeg, if_true, if_false, reduceCtorEq, Nat.reduceSub, storeV_ptr, slcV_slice, ↓mwD, mwU]
              refine (Resume_c (hE0.ext x8) hu8 (by omega) (by omega) lA lT).use ?_
              rintro r w9 hr
              unfold ResumeR at hr
              rw [hl7, hreads] at hr
              simp only at hr
              rw [hre7] at hr
              obtain ⟨rfl, hu9, hc9⟩ := hr
              have x9 : Ext W0 w9 := hc9.ext x8 hFW
              simp -dsimp -implicitDefEqProofs only [m3, sF3, Nat.reduceEqDiff, ↓reduceIte, Nat.reduceAdd, Nat.reduceMul, Value.cells, Value.oneCell', eq_self, ne_eq, Int.reduceToNat, Int.reduceEq, Int.reduceLT, Int.reduceLE, Int.reduceNeg, if_true, if_false, reduceCtorEq, Nat.reduceSub, storeV_ptr, slcV_slice, ↓mwD, mwU]
              refine (hU.State_c (hE0.ext x9) hu9).use ?_
              rintro _ w10 ⟨rfl, he10⟩
              have x10 := x9.trans he10
              simp -dsimp -implicitDefEqProofs only [binV_neS, decide_false, ne_self, hsz, x10.cell c0, x10.cell c1, x10.cell c2, m3, sF3, Nat.reduceEqDiff, ↓reduceIte, Nat.reduceAdd, Nat.reduceMul, Value.cells, Value.oneCell', eq_self, ne_eq, Int.reduceToNat, Int.reduceEq, Int.reduceLT, Int.reduceLE, Int.reduceNeg, if_true, if_false, reduceCtorEq, Nat.reduceSub, storeV_ptr, slcV_slice, ↓mwD, mwU]
              refine (New_c k' _ _ A' T' w10 (hA'.ext (hx0.trans x10)) (hT'.ext (hx0.trans x10))).use ?_
              rintro r w11 hr
              cases hv' : validB k' A' T'
              · rw [hv'] at hr
                simp only [Bool.false_eq_true, if_false] at hr
                obtain ⟨rfl, he11⟩ := hr
                simp -dsimp -implicitDefEqProofs only [m3, sF3, Nat.reduceEqDiff, ↓reduceIte, Nat.reduceAdd, Nat.reduceMul, Value.cells, Value.oneCell', eq_self, ne_eq, Int.reduceToNat, Int.reduceEq, Int.reduceLT, Int.reduceLE, Int.reduceNeg, if_true, if_false, reduceCtorEq, Nat.reduceSub, storeV_ptr, slcV_slice, ↓mwD, mwU]
                exact (hx0.trans x10).trans he11
              · rw [hv'] at hr
                simp only [if_true] at hr
                obtain ⟨v', rfl, F', hu', he11, hF'⟩ := hr
                have x11 := x10.trans he11
                have hFW' : ∀ b ∈ F', W0.heap.size ≤ b := fun b hb => by have := hF' b hb; have := x10.le; omega
                have hsh' := valid_shape hv'
                obtain ⟨kI', aI', tI', lA', lT'⟩ := vshape_in hsh'
                have hlen' := len_ok (initU_ok hsh')
                simp -dsimp -implicitDefEqProofs only [hsz, x11.cell b0, x11.cell b1, x11.cell b2, x11.cell c0, x11.cell c1, x11.cell c2, m3, sF3, Nat.reduceEqDiff, ↓reduceIte, Nat.reduceAdd, Nat.reduceMul, Value.cells, Value.oneCell', eq_self, ne_eq, Int.reduceToNat, Int.reduceEq, Int.reduceLT, Int.reduceLE, Int.reduceNeg, if_true, if_false, reduceCtorEq, Nat.reduceSub, storeV_ptr, slcV_slice, ↓mwD, mwU]
                refine iteW_dec (fun hkk => ?_) (fun hkk => ?_)
                · subst hkk
                  simp -dsimp -implicitDefEqProofs only [decide_true, hsz, x11.cell b0, x11.cell b1, x11.cell b2, x11.cell c0, x11.cell c1, x11.cell c2, m3, sF3, Nat.reduceEqDiff, ↓reduceIte, Nat.reduceAdd, Nat.reduceMul, Value.cells, Value.oneCell', eq_self, ne_eq, Int.reduceToNat, Int.reduceEq, Int.reduceLT, Int.reduceLE, Int.reduceNeg, if_true, if_false, reduceCtorEq, Nat.reduceSub, storeV_ptr, slcV_slice, ↓mwD, mwU]
                  refine (ints_c (hA.ext (hx0.trans x11)) (hA'.ext (hx0.trans x11))).use ?_
                  rintro _ w12 ⟨rfl, he12⟩
                  have x12 := x11.trans he12
                  have hu12 := hu'.ext he12
                  simp -dsimp -implicitDefEqProofs only [m3, sF3, Nat.reduceEqDiff, ↓reduceIte, Nat.reduceAdd, Nat.reduceMul, Value.cells, Value.oneCell', eq_self, ne_eq, Int.reduceToNat, Int.reduceEq, Int.reduceLT, Int.reduceLE, Int.reduceNeg, if_true, if_false, reduceCtorEq, Nat.reduceSub, storeV_ptr, slcV_slice, ↓mwD, mwU]
                  refine iteW_dec (fun hAA => ?_) (fun hAA => ?_)
                  · subst hAA
                    simp -dsimp -implicitDefEqProofs only [decide_true, hsz, x12.cell b2, x12.cell c2, m3, sF3, Nat.reduceEqDiff, ↓reduceIte, Nat.reduceAdd, Nat.reduceMul, Value.cells, Value.oneCell', eq_self, ne_eq, Int.reduceToNat, Int.reduceEq, Int.reduceLT, Int.reduceLE, Int.reduceNeg, if_true, if_false, reduceCtorEq, Nat.reduceSub, storeV_ptr, slcV_slice, ↓mwD, mwU]
                    refine (ints_c (hT.ext (hx0.trans x12)) (hT'.ext (hx0.trans x12))).use ?_
                    rintro _ w13 ⟨rfl, he13⟩
                    have x13 := x12.trans he13
                    have hu13 := hu12.ext he13
                    simp -dsimp -implicitDefEqProofs only [m3, sF3, Nat.reduceEqDiff, ↓reduceIte, Nat.reduceAdd, Nat.reduceMul, Value.cells, Value.oneCell', eq_self, ne_eq, Int.reduceToNat, Int.reduceEq, Int.reduceLT, Int.reduceLE, Int.reduceNeg, if_true, if_false, reduceCtorEq, Nat.reduceSub, storeV_ptr, slcV_slice, ↓mwD, mwU]
                    refine iteW_dec (fun hTT => ?_) (fun hTT => ?_)
                    · subst hTT
                      simp -dsimp -implicitDefEqProofs only [decide_true, m3, sF3, Nat.reduceEqDiff, ↓reduceIte, Nat.reduceAdd, Nat.reduceMul, Value.cells, Value.oneCell', eq_self, ne_eq, Int.reduceToNat, Int.reduceEq, Int.reduceLT, Int.reduceLE, Int.reduceNeg, if_true, if_false, reduceCtorEq, Nat.reduceSub, storeV_ptr, slcV_slice, ↓mwD, mwU]
                      refine (Resume_c (hE0.ext x13) hu13 (by omega) hlen' lA' lT').use ?_
                      rintro r w14 hr
                      have hlU : lenU (initU k A T) = lenU s1 := hU.len.symm
                      unfold ResumeR at hr
                      rw [hlU, hreads] at hr
                      simp only at hr
                      obtain ⟨rfl, hu14, hc14⟩ := hr
                      have hc14' : Ext W0 w14 := hc14.ext x13 hFW'
                      simp -dsimp -implicitDefEqProofs only [m3, sF3, Nat.reduceEqDiff, ↓reduceIte, Nat.reduceAdd, Nat.reduceMul, Value.cells, Value.oneCell', eq_self, ne_eq, Int.reduceToNat, Int.reduceEq, Int.reduceLT, Int.reduceLE, Int.reduceNeg, if_true, if_false, reduceCtorEq, Nat.reduceSub, storeV_ptr, slcV_slice, ↓mwD, mwU]
                      have hnum : numsU (resU (initU k A T) (numsU s1)) = numsU s1 := numsU_res _ _ (by show lenU s1 = _; exact hlU.symm)
                      refine (State_c (hE0.ext hc14') hu14 (by rw [lenU_res]; exact hlen') lA lT kI' aI' tI' (by rw [hnum]; exact smps_in (nums_smps hU.ok))).use ?_
                      rw [hnum]
                      rintro _ w15 ⟨rfl, he15⟩
                      simp -dsimp -implicitDefEqProofs only [binV_eqS, decide_true, m3, sF3, Nat.reduceEqDiff, ↓reduceIte, Nat.reduceAdd, Nat.reduceMul, Value.cells, Value.oneCell', eq_self, ne_eq, Int.reduceToNat, Int.reduceEq, Int.reduceLT, Int.reduceLE, Int.reduceNeg, if_true, if_false, reduceCtorEq, Nat.reduceSub, storeV_ptr, slcV_slice, ↓mwD, mwU]
                      exact (hx0.trans hc14').trans he15
                    · simp -dsimp -implicitDefEqProofs only [hTT, decide_false, m3, sF3, Nat.reduceEqDiff, ↓reduceIte, Nat.reduceAdd, Nat.reduceMul, Value.cells, Value.oneCell', eq_self, ne_eq, Int.reduceToNat, Int.reduceEq, Int.reduceLT, Int.reduceLE, Int.reduceNeg, if_true, if_false, reduceCtorEq, Nat.reduceSub, storeV_ptr, slcV_slice, ↓mwD, mwU]
                      exact hx0.trans x13
                  · simp -dsimp -implicitDefEqProofs only [hAA, decide_false, m3, sF3, Nat.reduceEqDiff, ↓reduceIte, Nat.reduceAdd, Nat.reduceMul, Value.cells, Value.oneCell', eq_self, ne_eq, Int.reduceToNat, Int.reduceEq, Int.reduceLT, Int.reduceLE, Int.reduceNeg, if_true, if_false, reduceCtorEq, Nat.reduceSub, storeV_ptr, slcV_slice, ↓mwD, mwU]
                    refine (Resume_c (hE0.ext x12) hu12 (by omega) hlen' lA' lT').use ?_
                    rintro r w13 hr
                    unfold ResumeR at hr
                    rw [hother _ (fun h => hAA h.2.symm)] at hr
                    simp only at hr
                    obtain ⟨rfl, he13⟩ := hr
                    simp -dsimp -implicitDefEqProofs only [m3, sF3, Nat.reduceEqDiff, ↓reduceIte, Nat.reduceAdd, Nat.reduceMul, Value.cells, Value.oneCell', eq_self, ne_eq, Int.reduceToNat, Int.reduceEq, Int.reduceLT, Int.reduceLE, Int.reduceNeg, if_true, if_false, reduceCtorEq, Nat.reduceSub, storeV_ptr, slcV_slice, ↓mwD, mwU]
                    exact (hx0.trans x12).trans he13
                · simp -dsimp -implicitDefEqProofs only [hkk, decide_false, m3, sF3, Nat.reduceEqDiff, ↓reduceIte, Nat.reduceAdd, Nat.reduceMul, Value.cells, Value.oneCell', eq_self, ne_eq, Int.reduceToNat, Int.reduceEq, Int.reduceLT, Int.reduceLE, Int.reduceNeg, if_true, if_false, reduceCtorEq, Nat.reduceSub, storeV_ptr, slcV_slice, ↓mwD, mwU]
                  refine (Resume_c (hE0.ext x11) hu' (by omega) hlen' lA' lT').use ?_
                  rintro r w12 hr
                  unfold ResumeR at hr
                  rw [hother _ (fun h => hkk h.1.symm)] at hr
                  simp only at hr
                  obtain ⟨rfl, he12⟩ := hr
                  simp -dsimp -implicitDefEqProofs only [m3, sF3, Nat.reduceEqDiff, ↓reduceIte, Nat.reduceAdd, Nat.reduceMul, Value.cells, Value.oneCell', eq_self, ne_eq, Int.reduceToNat, Int.reduceEq, Int.reduceLT, Int.reduceLE, Int.reduceNeg, if_true, if_false, reduceCtorEq, Nat.reduceSub, storeV_ptr, slcV_slice, ↓mwD, mwU]
                  exact (hx0.trans x11).trans he12
    · simp -dsimp -implicitDefEqProofs only [m3, sF3, Nat.reduceEqDiff, ↓reduceIte, Nat.reduceAdd, Nat.reduceMul, Value.cells, Value.oneCell', eq_self, ne_eq, Int.reduceToNat, Int.reduceEq, Int.reduceLT, Int.reduceLE, Int.reduceNeg, if_true, if_false, reduceCtorEq, Nat.reduceSub, storeV_ptr, slcV_slice, ↓mwD, mwU]
      exact hx0.trans x3
  · simp -dsimp -implicitDefEqProofs only [m3, sF3, Nat.reduceEqDiff, ↓reduceIte, Nat.reduceAdd, Nat.reduceMul, Value.cells, Value.oneCell', eq_self, ne_eq, Int.reduceToNat, Int.reduceEq, Int.reduceLT, Int.reduceLE, Int.reduceNeg, if_true, if_false, reduceCtorEq, Nat.reduceSub, storeV_ptr, slcV_slice, ↓mwD, mwU]
    exact hx0.trans x2
end Go.Proofs.YtefcfnmmpnjjjaaGreatDoor

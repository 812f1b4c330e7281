/- Contracts: slices.Clone, the ranges, Valid of the program. -/
import Derived.Test.YtefcfnmmpnjjjaaGreatDoorQbEffA
namespace Go.Proofs.YtefcfnmmpnjjjaaGreatDoor
open Go.RowKit
set_option linter.unusedSimpArgs false

def cells2 : List (Int × Int) → List Value
  | [] => []
  | p :: ps => .int .i64 p.1 :: .int .i64 p.2 :: cells2 ps
theorem cells2_length : ∀ ps, (cells2 ps).length = ps.length * 2
  | [] => rfl
  | p :: ps => by simp [cells2, cells2_length ps]; omega
theorem cells2_get : ∀ (ps : List (Int × Int)) (k : Nat) (p : Int × Int), ps[k]? = some p → (cells2 ps)[k * 2]? = some (.int .i64 p.1) ∧ (cells2 ps)[k * 2 + 1]? = some (.int .i64 p.2)
  | [], k, p, h => by simp at h
  | q :: ps, 0, p, h => by simp at h; subst h; simp [cells2]
  | q :: ps, k + 1, p, h => by
    have := cells2_get ps k p (by simpa using h)
    have e1 : (k + 1) * 2 = k * 2 + 2 := by omega
    rw [e1]
    simpa [cells2] using this
theorem cells2_one : ∀ ps, ∀ u ∈ cells2 ps, u.oneCell' = true
  | [], u, h => by cases h
  | p :: ps, u, h => by
    simp only [cells2, List.mem_cons] at h
    rcases h with rfl | rfl | h
    · rfl
    · rfl
    · exact cells2_one ps u h

/-- A slice of pairs. -/
def SlP (w : World) (v : Value) (ps : List (Int × Int)) : Prop :=
  (v = .slice none 0 0 ∧ ps = []) ∨ ∃ b o cap, v = .slice (some ⟨b, o, none⟩) ps.length cap ∧ ps.length ≤ cap ∧ cap ≤ maxLen ∧ Row w b o (cells2 ps)
theorem SlP.ext {w w' : World} {v : Value} {ps : List (Int × Int)} (h : SlP w v ps) (he : Ext w w') : SlP w' v ps := by
  rcases h with h | ⟨b, o, cap, h1, h2, h3, h4⟩
  · exact .inl h
  · exact .inr ⟨b, o, cap, h1, h2, h3, h4.ext he⟩
theorem SlP.shape {w : World} {v : Value} {ps : List (Int × Int)} (h : SlP w v ps) : ∃ p cap, v = .slice p ps.length cap ∧ ps.length ≤ cap ∧ cap ≤ maxLen := by
  rcases h with ⟨h, h'⟩ | ⟨b, o, cap, h1, h2, h3, h4⟩
  · exact ⟨none, 0, by rw [h, h']; rfl, by rw [h']; simp, by simp⟩
  · exact ⟨_, cap, h1, h2, h3⟩
theorem SlP.at {w : World} {v : Value} {ps : List (Int × Int)} (h : SlP w v ps) (hne : ps ≠ []) :
    ∃ b o cap, v = .slice (some ⟨b, o, none⟩) ps.length cap ∧ ps.length ≤ cap ∧ cap ≤ maxLen ∧ ∀ k p, ps[k]? = some p → w.cell? ⟨b, o + k * 2, none⟩ = some (.int .i64 p.1) ∧ w.cell? ⟨b, o + k * 2 + 1, none⟩ = some (.int .i64 p.2) := by
  rcases h with ⟨_, h'⟩ | ⟨b, o, cap, h1, h2, h3, h4⟩
  · exact absurd h' hne
  · refine ⟨b, o, cap, h1, h2, h3, fun k p hp => ?_⟩
    obtain ⟨g1, g2⟩ := cells2_get ps k p hp
    exact ⟨h4 _ _ g1, by have := h4 _ _ g2; rwa [← Nat.add_assoc] at this⟩

/-- slices.EqualFunc(args, ranges, ..). -/
theorem EqualFunc_c (v u : Value) (A : List Int) (ps : List (Int × Int)) (w : World) (hA : SlI w v A) (hP : SlP w u ps) :
    Rets Go.Proofs.Tryz.prog 72 #[v, u, .func (.func 74) #[] #[]] w fun r w' => r = .bool (eqfB A ps) ∧ Ext w w' := by
  obtain ⟨q, cap, rfl, hc1, hc2⟩ := hA.shape
  obtain ⟨q', cap', rfl, hc1', hc2'⟩ := hP.shape
  refine en72 ?_
  simp -dsimp -implicitDefEqProofs only [m72, sF72, Nat.reduceEqDiff, ↓reduceIte, Nat.reduceAdd, Nat.reduceMul, Value.cells, Value.oneCell', eq_self, ne_eq, Int.reduceToNat, Int.reduceEq, Int.reduceLT, Int.reduceLE, Int.reduceNeg, if_true, if_false, reduceCtorEq, Nat.reduceSub, storeV_ptr, slcV_slice, ↓mwD, mwU]
  refine iteW_dec (fun hlen => ?_) (fun hlen => ?_)
  · have hlen' : A.length = ps.length := by omega
    simp -dsimp -implicitDefEqProofs only [m72, sF72, Nat.reduceEqDiff, ↓reduceIte, Nat.reduceAdd, Nat.reduceMul, Value.cells, Value.oneCell', eq_self, ne_eq, Int.reduceToNat, Int.reduceEq, Int.reduceLT, Int.reduceLE, Int.reduceNeg, if_true, if_false, reduceCtorEq, Nat.reduceSub, storeV_ptr, slcV_slice, ↓mwD, mwU]
    refine mwpB_loop (fun e ds w' => ∃ k : Nat, k ≤ A.length ∧ e 17 = .int .i64 k ∧ e 16 = .int .i64 A.length ∧ e 15 = .slice q A.length cap ∧ e 1 = .slice q' ps.length cap' ∧ e 2 = .func (.func 74) #[] #[] ∧ ds = [] ∧ Ext w w' ∧
      (∀ j n p, j < k → A[j]? = some n → ps[j]? = some p → wtn n p.1 p.2 = true)) (fun e _ => A.length - (intOf (e 17)).toNat) ?_ ?_
    · simp -dsimp -implicitDefEqProofs only [m72, sF72, Nat.reduceEqDiff, ↓reduceIte, Nat.reduceAdd, Nat.reduceMul, Value.cells, Value.oneCell', eq_self, ne_eq, Int.reduceToNat, Int.reduceEq, Int.reduceLT, Int.reduceLE, Int.reduceNeg, if_true, if_false, reduceCtorEq, Nat.reduceSub, storeV_ptr, slcV_slice, ↓mwD, mwU]
      exact ⟨0, by omega, rfl, Ext.refl _, fun j _ _ h => by omega⟩
    · rintro e ds w1 ⟨k, hk, h17, h16, h15, h1, h2, rfl, hx, hp⟩
      simp -dsimp -implicitDefEqProofs only [h17, h16, h15, h1, h2, m72, sF72, Nat.reduceEqDiff, ↓reduceIte, Nat.reduceAdd, Nat.reduceMul, Value.cells, Value.oneCell', eq_self, ne_eq, Int.reduceToNat, Int.reduceEq, Int.reduceLT, Int.reduceLE, Int.reduceNeg, if_true, if_false, reduceCtorEq, Nat.reduceSub, storeV_ptr, slcV_slice, ↓mwD, mwU]
      refine iteW_dec (fun hlt => ?_) (fun hge => ?_)
      · have hlt' : k < A.length := by omega
        obtain ⟨b, o, cp, hv, _, _, hcell⟩ := hA.at (by intro h0; rw [h0] at hlt'; simp at hlt')
        cases hv
        obtain ⟨b', o', cp', hv', _, _, hcell'⟩ := hP.at (by intro h0; rw [h0] at hlen'; simp at hlen'; rw [hlen'] at hlt'; simp at hlt')
        cases hv'
        have hck := hx.cell (hcell k hlt')
        obtain ⟨p, hpk⟩ : ∃ p, ps[k]? = some p := ⟨ps[k]'(by omega), by simp [show k < ps.length by omega]⟩
        have hck1 := hx.cell (hcell' k p hpk).1
        have hck2 := hx.cell (hcell' k p hpk).2
        have hb1 : (0 : Int) ≤ k ∧ (k : Int) < A.length := by omega
        have hb2 : (0 : Int) ≤ k ∧ (k : Int) < ps.length := by omega
        have hw := w64_succ hlt' (Nat.le_trans hc1 hc2)
        simp -dsimp -implicitDefEqProofs only [h17, h16, h15, h1, h2, hb1, hb2, and_self, hck, hck1, hck2, okF_74, m72, sF72, Nat.reduceEqDiff, ↓reduceIte, Nat.reduceAdd, Nat.reduceMul, Value.cells, Value.oneCell', eq_self, ne_eq, Int.reduceToNat, Int.reduceEq, Int.reduceLT, Int.reduceLE, Int.reduceNeg, if_true, if_false, reduceCtorEq, Nat.reduceSub, storeV_ptr, slcV_slice, ↓mwD, mwU]
        refine (Valid1_c _ _ _ _).use ?_
        rintro r w' ⟨rfl, hx'⟩
        have hx2 : Ext w w' := (hx.alloc' _).trans hx'
        simp -dsimp -implicitDefEqProofs only [h17, h16, h15, h1, h2, m72, sF72, Nat.reduceEqDiff, ↓reduceIte, Nat.reduceAdd, Nat.reduceMul, Value.cells, Value.oneCell', eq_self, ne_eq, Int.reduceToNat, Int.reduceEq, Int.reduceLT, Int.reduceLE, Int.reduceNeg, if_true, if_false, reduceCtorEq, Nat.reduceSub, storeV_ptr, slcV_slice, ↓mwD, mwU]
        refine iteW_intro (fun hpk' => ?_) (fun hpk' => ?_)
        · simp -dsimp -implicitDefEqProofs only [h17, h16, h15, h1, h2, hw, m72, sF72, Nat.reduceEqDiff, ↓reduceIte, Nat.reduceAdd, Nat.reduceMul, Value.cells, Value.oneCell', eq_self, ne_eq, Int.reduceToNat, Int.reduceEq, Int.reduceLT, Int.reduceLE, Int.reduceNeg, if_true, if_false, reduceCtorEq, Nat.reduceSub, storeV_ptr, slcV_slice, ↓mwD, mwU]
          refine ⟨⟨k + 1, by omega, rfl, hx2, fun j n p' hj hn hp' => ?_⟩, ?_⟩
          · rcases Nat.lt_or_ge j k with hjk | hjk
            · exact hp j n p' hjk hn hp'
            · obtain rfl : j = k := by omega
              rw [hpk] at hp'; cases hp'
              simp [hlt'] at hn; subst hn
              exact hpk'
          · simp [intOf]; omega
        · simp -dsimp -implicitDefEqProofs only [h17, h16, h15, h1, h2, hw, m72, sF72, Nat.reduceEqDiff, ↓reduceIte, Nat.reduceAdd, Nat.reduceMul, Value.cells, Value.oneCell', eq_self, ne_eq, Int.reduceToNat, Int.reduceEq, Int.reduceLT, Int.reduceLE, Int.reduceNeg, if_true, if_false, reduceCtorEq, Nat.reduceSub, storeV_ptr, slcV_slice, ↓mwD, mwU]
          refine ⟨?_, hx2⟩
          have : eqfB A ps = false := by
            rw [← Bool.not_eq_true, eqfB_iff]
            rintro ⟨_, h3⟩
            have := h3 k A[k] p (by simp [hlt']) hpk
            rw [hpk'] at this; cases this
          rw [this]
      · have hkl : k = A.length := by omega
        subst hkl
        simp -dsimp -implicitDefEqProofs only [h17, h16, h15, h1, h2, m72, sF72, Nat.reduceEqDiff, ↓reduceIte, Nat.reduceAdd, Nat.reduceMul, Value.cells, Value.oneCell', eq_self, ne_eq, Int.reduceToNat, Int.reduceEq, Int.reduceLT, Int.reduceLE, Int.reduceNeg, if_true, if_false, reduceCtorEq, Nat.reduceSub, storeV_ptr, slcV_slice, ↓mwD, mwU]
        refine ⟨?_, hx⟩
        have : eqfB A ps = true := by
          rw [eqfB_iff]
          refine ⟨hlen', fun k n p hn hp' => hp k n p ?_ hn hp'⟩
          have := List.getElem?_eq_some_iff.1 hn
          exact this.1
        rw [this]
  · simp -dsimp -implicitDefEqProofs only [m72, sF72, Nat.reduceEqDiff, ↓reduceIte, Nat.reduceAdd, Nat.reduceMul, Value.cells, Value.oneCell', eq_self, ne_eq, Int.reduceToNat, Int.reduceEq, Int.reduceLT, Int.reduceLE, Int.reduceNeg, if_true, if_false, reduceCtorEq, Nat.reduceSub, storeV_ptr, slcV_slice, ↓mwD, mwU]
    have : eqfB A ps = false := by
      rw [← Bool.not_eq_true]
      intro h
      exact hlen (by have := eqfB_length A ps h; omega)
    rw [this]
    exact ⟨rfl, Ext.refl _⟩

/-- slices.Clone of ints: new memory, owned by whoever called. -/
theorem CloneI_c (v : Value) (xs : List Int) (w : World) (h : SlI w v xs) (hn : xs.length ≤ 1099511627776) :
    Rets Go.Proofs.Tryz.prog 92 #[v] w fun r w' => Ext w w' ∧ w'.ownsRow w.heap.size 3 1 r xs.length (ints xs) := by
  rcases h with ⟨rfl, hx⟩ | ⟨b, o, cap, rfl, h1, h2, h3⟩
  · obtain rfl : xs = [] := by simpa [ints] using hx
    refine en92 ?_
    simp -dsimp -implicitDefEqProofs only [m92, sF92, Nat.reduceEqDiff, ↓reduceIte, Nat.reduceAdd, Nat.reduceMul, Value.cells, Value.oneCell', eq_self, ne_eq, Int.reduceToNat, Int.reduceEq, Int.reduceLT, Int.reduceLE, Int.reduceNeg, if_true, if_false, reduceCtorEq, Nat.reduceSub, storeV_ptr, slcV_slice, ↓mwD, mwU]
    exact ⟨Ext.refl _, World.ownsRow_nil _ _ _ _⟩
  · have hb : buildS Go.Proofs.Tryz.prog 22 0 [] = some (3, #[]) := by kernel_rfl
    rw [ints_length] at *
    refine en92 ?_
    simp -dsimp -implicitDefEqProofs only [hb, m92, sF92, Nat.reduceEqDiff, ↓reduceIte, Nat.reduceAdd, Nat.reduceMul, Value.cells, Value.oneCell', eq_self, ne_eq, Int.reduceToNat, Int.reduceEq, Int.reduceLT, Int.reduceLE, Int.reduceNeg, if_true, if_false, reduceCtorEq, Nat.reduceSub, storeV_ptr, slcV_slice, ↓mwD, mwU]
    have ho := own_new w [] 3 w.heap.size 0 1 rfl (Nat.le_refl _) (by simp)
    obtain ⟨v', w', ha, hown, hg⟩ := append_own (P := Go.Proofs.Tryz.prog) (w := w.alloc (.cells #[] 3)) (t := 22) (ty := 22) (z := .int .i64 0) (ats := [22, 22]) rfl telem_22 tok_3 tzero_3 (by rw [tsz_3]; rfl) (by rw [tsz_3]; omega)
      (by rw [tsz_3]; exact ho) (a := ⟨b, o, none⟩) (m := xs.length) (c := cap) (news := ints xs) (by rw [tsz_3, ints_length]; omega)
      (fun j u hj => by rw [Addr.add_lit]; exact cell_old (h3 j u hj) _) (fun u hu => by simp [ints] at hu; obtain ⟨n, _, rfl⟩ := hu; rfl) (by unfold maxLen; omega) (by rw [tby_3]; omega) (by simp)
    refine appB.mk ha ?_
    simp -dsimp -implicitDefEqProofs only [m92, sF92, Nat.reduceEqDiff, ↓reduceIte, Nat.reduceAdd, Nat.reduceMul, Value.cells, Value.oneCell', eq_self, ne_eq, Int.reduceToNat, Int.reduceEq, Int.reduceLT, Int.reduceLE, Int.reduceNeg, if_true, if_false, reduceCtorEq, Nat.reduceSub, storeV_ptr, slcV_slice, ↓mwD, mwU]
    refine ⟨(Ext.alloc _ _).grown hg (fun k hk => ?_), ?_⟩
    · simp [Value.ownBlock] at hk; omega
    · rw [tsz_3] at hown; simpa using hown

/-- slices.Clone of pairs. -/
theorem CloneP_c (v : Value) (xs : List (Int × Int)) (w : World) (h : SlP w v xs) (hne : xs ≠ []) (hn : xs.length ≤ 1099511627776) :
    Rets Go.Proofs.Tryz.prog 112 #[v] w fun r w' => Ext w w' ∧ w'.ownsRow w.heap.size 133 2 r xs.length (cells2 xs) := by
  rcases h with ⟨rfl, hx⟩ | ⟨b, o, cap, rfl, h1, h2, h3⟩
  · exact absurd hx hne
  · have hb : buildS Go.Proofs.Tryz.prog 132 0 [] = some (133, #[]) := by kernel_rfl
    refine en112 ?_
    simp -dsimp -implicitDefEqProofs only [hb, m112, sF112, Nat.reduceEqDiff, ↓reduceIte, Nat.reduceAdd, Nat.reduceMul, Value.cells, Value.oneCell', eq_self, ne_eq, Int.reduceToNat, Int.reduceEq, Int.reduceLT, Int.reduceLE, Int.reduceNeg, if_true, if_false, reduceCtorEq, Nat.reduceSub, storeV_ptr, slcV_slice, ↓mwD, mwU]
    have ho := own_new w [] 133 w.heap.size 0 2 rfl (Nat.le_refl _) (by simp)
    obtain ⟨v', w', ha, hown, hg⟩ := append_own (P := Go.Proofs.Tryz.prog) (w := w.alloc (.cells #[] 133)) (t := 132) (ty := 132) (ats := [132, 132]) rfl telem_132 tok_133 tzero_133 (by rw [tsz_133]; rfl) (by rw [tsz_133]; omega)
      (by rw [tsz_133]; exact ho) (a := ⟨b, o, none⟩) (m := xs.length) (c := cap) (news := cells2 xs) (by rw [tsz_133, cells2_length])
      (fun j u hj => by rw [Addr.add_lit]; exact cell_old (h3 j u hj) _) (cells2_one xs) (by unfold maxLen; omega) (by rw [tby_133]; omega) (by simp)
    refine appB.mk ha ?_
    simp -dsimp -implicitDefEqProofs only [m112, sF112, Nat.reduceEqDiff, ↓reduceIte, Nat.reduceAdd, Nat.reduceMul, Value.cells, Value.oneCell', eq_self, ne_eq, Int.reduceToNat, Int.reduceEq, Int.reduceLT, Int.reduceLE, Int.reduceNeg, if_true, if_false, reduceCtorEq, Nat.reduceSub, storeV_ptr, slcV_slice, ↓mwD, mwU]
    refine ⟨(Ext.alloc _ _).grown hg (fun k hk => ?_), ?_⟩
    · simp [Value.ownBlock] at hk; omega
    · rw [tsz_133] at hown; simpa using hown

/-- An owned row of pairs reads as a slice. -/
theorem own_SlP {w : World} {base : Nat} {e : TypeId} {v : Value} {ps : List (Int × Int)} (h : w.ownsRow base e 2 v ps.length (cells2 ps)) : SlP w v ps := by
  rcases h.2 with ⟨hv, h0⟩ | ⟨g, cap, cur, hv, hb, hg, h1, h2, h3, h4⟩
  · left; refine ⟨hv, ?_⟩; cases ps with
    | nil => rfl
    | cons a l => simp at h0
  · right
    refine ⟨g, 0, cap, hv, h1, h2, fun k u hk => ?_⟩
    have := World.ownsRow.cells h (g := g) (by simp [hv, Value.ownBlock]) k u hk
    simpa [Addr.add_lit] using this

theorem SlP.new (w : World) (ps : List (Int × Int)) (t : TypeId) (hm : ps.length ≤ maxLen) : SlP (w.alloc (.cells (cells2 ps).toArray t)) (.slice (some ⟨w.heap.size, 0, none⟩) ps.length ps.length) ps :=
  .inr ⟨w.heap.size, 0, ps.length, rfl, Nat.le_refl _, hm, row_new w _ t⟩

end Go.Proofs.YtefcfnmmpnjjjaaGreatDoor

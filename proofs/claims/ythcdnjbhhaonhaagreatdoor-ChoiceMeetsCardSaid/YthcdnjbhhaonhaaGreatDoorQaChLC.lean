/- Layer 02: the law ChoiceMeets, over what awake tells. -/
import Derived.Test.YthcdnjbhhaonhaaGreatDoorQaChXToChZ

namespace Go.Proofs.YthcdnjbhhaonhaaGreatDoor
open Go.RowKit
set_option linter.unusedSimpArgs false

theorem bv_rows (q : Option Addr) (n cap : Nat) : buildV Go.Proofs.Tryz.prog 35 [(2, .slice q n cap)] = some (.agg #[.int .i64 0, .int .i64 0, .slice q n cap]) := by kernel_rfl
theorem rows_c (va vb : Value) (L : List Int) (w : World) (ha : SlI w va L) (hb : SlI w vb L) : Rets Go.Proofs.Tryz.prog 22 #[va, vb] w fun r w' => r = .bool true ∧ Ext w w' := by
  obtain ⟨pa, ca, rfl, _, _⟩ := ha.shape
  obtain ⟨pb, cb, rfl, _, _⟩ := hb.shape
  refine en22 ?_
  simp -dsimp -implicitDefEqProofs only [bv_rows, m22, sF22, Nat.reduceEqDiff, ↓reduceIte, Nat.reduceAdd, Nat.reduceMul, Value.cells, Value.oneCell', eq_self, ne_eq, Int.reduceToNat, Int.reduceEq, Int.reduceLT, Int.reduceLE, Int.reduceNeg, if_true, if_false, reduceCtorEq, Nat.reduceSub, storeV_ptr, slcV_slice, ↓mwD, mwU]
  refine (sameChoice_c ⟨0, 0, L⟩ ⟨0, 0, L⟩ _ _ w ha hb rfl rfl rfl).use ?_
  rintro r w1 ⟨rfl, hx⟩
  simp -dsimp -implicitDefEqProofs only [m22, sF22, Nat.reduceEqDiff, ↓reduceIte, Nat.reduceAdd, Nat.reduceMul, Value.cells, Value.oneCell', eq_self, ne_eq, Int.reduceToNat, Int.reduceEq, Int.reduceLT, Int.reduceLE, Int.reduceNeg, if_true, if_false, reduceCtorEq, Nat.reduceSub, storeV_ptr, slcV_slice, ↓mwD, mwU]
  exact hx
/-- What Numbers tells. -/
def numE (c : Ch) (m : Int) : Int := if c.valid = false then 1 else if m < 0 ∨ 1000 < m then 7 else 0
def numL (c : Ch) (m : Int) : List Int := if c.valid = false then [] else if m < 0 ∨ 1000 < m then [] else c.first m.toNat
theorem num_tell {c : Ch} {m : Int} {w w' : World} {r : Value} (h : Ext w w' ∧ if c.valid = false then r = .tuple #[.slice none 0 0, .int .i64 1] else if m < 0 ∨ 1000 < m then r = .tuple #[.slice none 0 0, .int .i64 7] else ∃ v, r = .tuple #[v, .int .i64 0] ∧ SlI w' v (c.first m.toNat)) :
    Ext w w' ∧ ∃ v, r = .tuple #[v, .int .i64 (numE c m)] ∧ SlI w' v (numL c m) := by
  refine ⟨h.1, ?_⟩
  have h2 := h.2
  unfold numE numL
  split at h2
  · rename_i hv
    rw [if_pos hv, if_pos hv]
    exact ⟨_, h2, SlI.nil _⟩
  · rename_i hv
    rw [if_neg hv, if_neg hv]
    split at h2
    · rename_i hm
      rw [if_pos hm, if_pos hm]
      exact ⟨_, h2, SlI.nil _⟩
    · rename_i hm
      rw [if_neg hm, if_neg hm]
      exact h2
/-- What Meet tells of a pair. -/
def MeetT (a b cc : Ch) (is : Bool) (e : Int) : Prop := if (a.valid && b.valid) = true then e = 0 ∧ ∃ o, Met a b o ∧ (match o with | none => cc = ⟨0, 0, []⟩ ∧ is = false | some c => cc = c ∧ is = true) else cc = ⟨0, 0, []⟩ ∧ is = false ∧ e = 1
theorem MeetT.eq {a b c c' : Ch} {i i' : Bool} {e e' : Int} (h : MeetT a b c i e) (h' : MeetT a b c' i' e') : c = c' ∧ i = i' ∧ e = e' := by
  unfold MeetT at h h'
  split at h
  · rename_i hv
    rw [if_pos hv] at h'
    obtain ⟨rfl, o, h1, h2⟩ := h
    obtain ⟨rfl, o', h3, h4⟩ := h'
    obtain rfl := h1.eq h3
    cases o with
    | none => exact ⟨h2.1.trans h4.1.symm, h2.2.trans h4.2.symm, rfl⟩
    | some o => exact ⟨h2.1.trans h4.1.symm, h2.2.trans h4.2.symm, rfl⟩
  · rename_i hv
    rw [if_neg hv] at h'
    exact ⟨h.1.trans h'.1.symm, h.2.1.trans h'.2.1.symm, h.2.2.trans h'.2.2.symm⟩
theorem meet_tell {a b : Ch} {w w' : World} {r : Value} (h : MeetQ w a b r w') : Ext w w' ∧ ∃ cc q cp is e, r = .tuple #[.agg #[.int .i64 cc.k, .int .i64 cc.d, .slice q cc.L.length cp], .bool is, .int .i64 e] ∧ SlI w' (.slice q cc.L.length cp) cc.L ∧ MeetT a b cc is e := by
  refine ⟨h.1, ?_⟩
  have h2 := h.2
  unfold MeetT
  split at h2
  · rename_i hv
    obtain ⟨o, h1, hm⟩ := h2
    cases o with
    | none => exact ⟨⟨0, 0, []⟩, none, 0, false, 0, hm, SlI.nil _, by rw [if_pos hv]; exact ⟨rfl, none, h1, rfl, rfl⟩⟩
    | some c =>
      obtain ⟨v, rfl, hs⟩ := hm
      obtain ⟨q, cp, rfl, _, _⟩ := hs.shape
      exact ⟨c, q, cp, true, 0, rfl, hs, by rw [if_pos hv]; exact ⟨rfl, some c, h1, rfl, rfl⟩⟩
  · rename_i hv
    exact ⟨⟨0, 0, []⟩, none, 0, false, 1, h2, SlI.nil _, by rw [if_neg hv]; exact ⟨rfl, rfl, rfl⟩⟩
theorem law_c (a b : Ch) (sa sb : Value) (n most : Int) (w : World) (ha : SlI w sa a.L) (hb : SlI w sb b.L) (haw : ∀ w', Ext w w' → Rets Go.Proofs.Tryz.prog 10 #[] w' fun r w'' => r = .bool true ∧ Ext w' w'') :
    Rets Go.Proofs.Tryz.prog 4 #[chV a sa, chV b sb, .int .i64 n, .int .i64 most] w fun r w' => r = .bool true ∧ Ext w w' := by
  obtain ⟨pa, ca, rfl, _, _⟩ := ha.shape
  obtain ⟨pb, cb, rfl, _, _⟩ := hb.shape
  obtain ⟨W, hW, hxW, BA, BB⟩ : ∃ W, W = (w.alloc (.cells #[.int .i64 a.k, .int .i64 a.d, .slice pa a.L.length ca] 35)).alloc (.cells #[.int .i64 b.k, .int .i64 b.d, .slice pb b.L.length cb] 35) ∧ Ext w W ∧ Bk W w.heap.size [.int .i64 a.k, .int .i64 a.d, .slice pa a.L.length ca] 35 ∧ Bk W (w.heap.size + 1) [.int .i64 b.k, .int .i64 b.d, .slice pb b.L.length cb] 35 := by
    refine ⟨_, rfl, (Ext.alloc _ _).trans (Ext.alloc _ _), (Bk.new w _ _).ext (Ext.alloc _ _), ?_⟩
    have := Bk.new (w.alloc (.cells #[.int .i64 a.k, .int .i64 a.d, .slice pa a.L.length ca] 35)) [.int .i64 b.k, .int .i64 b.d, .slice pb b.L.length cb] 35
    rw [World.size_alloc] at this
    exact this
  have A2 := BA.get (o := 2) rfl
  have B2 := BB.get (o := 2) rfl
  have cells : ∀ {w'}, Ext W w' → (w'.cell? ⟨w.heap.size, 0, none⟩ = some (.int .i64 a.k) ∧ w'.cell? ⟨w.heap.size, 1, none⟩ = some (.int .i64 a.d) ∧ w'.cell? ⟨w.heap.size, 2, none⟩ = some (.slice pa a.L.length ca)) ∧
      (w'.cell? ⟨w.heap.size + 1, 0, none⟩ = some (.int .i64 b.k) ∧ w'.cell? ⟨w.heap.size + 1, 1, none⟩ = some (.int .i64 b.d) ∧ w'.cell? ⟨w.heap.size + 1, 2, none⟩ = some (.slice pb b.L.length cb)) := fun hx =>
    ⟨⟨(BA.ext hx).get (o := 0) rfl, (BA.ext hx).get (o := 1) rfl, (BA.ext hx).get (o := 2) rfl⟩, (BB.ext hx).get (o := 0) rfl, (BB.ext hx).get (o := 1) rfl, (BB.ext hx).get (o := 2) rfl⟩
  refine en4 ?_
  refine mwpB_cut 1 (fun e ds w' => e 2 = .int .i64 n ∧ e 3 = .int .i64 most ∧ e 4 = .pointer (some ⟨w.heap.size, 0, none⟩) ∧ e 5 = .pointer (some ⟨w.heap.size + 1, 0, none⟩) ∧ ds = [] ∧ w' = W) ?_ ?_
  · simp -dsimp -implicitDefEqProofs only [chV, headM_zero, headM_seq, World.size_alloc, Nat.add_assoc, ← hW, m4, sF4, Nat.reduceEqDiff, ↓reduceIte, Nat.reduceAdd, Nat.reduceMul, Value.cells, Value.oneCell', eq_self, ne_eq, Int.reduceToNat, Int.reduceEq, Int.reduceLT, Int.reduceLE, Int.reduceNeg, if_true, if_false, reduceCtorEq, Nat.reduceSub, storeV_ptr, slcV_slice, ↓mwD, mwU]
  · clear hW
    rintro e ds w0 ⟨h2, h3, h4, h5, rfl, rfl⟩
    by_cases n1 : (60 : Int) < (a.L.length : Int)
    · simp -dsimp -implicitDefEqProofs only [tailM_zero, tailM_seq, h2, h3, h4, h5, A2, B2, n1, m4, sF4, Nat.reduceEqDiff, ↓reduceIte, Nat.reduceAdd, Nat.reduceMul, Value.cells, Value.oneCell', eq_self, ne_eq, Int.reduceToNat, Int.reduceEq, Int.reduceLT, Int.reduceLE, Int.reduceNeg, if_true, if_false, reduceCtorEq, Nat.reduceSub, storeV_ptr, slcV_slice, ↓mwD, mwU]
      refine (haw w0 hxW).use ?_
      rintro r w1 ⟨rfl, hx1⟩
      simp -dsimp -implicitDefEqProofs only [m4, sF4, Nat.reduceEqDiff, ↓reduceIte, Nat.reduceAdd, Nat.reduceMul, Value.cells, Value.oneCell', eq_self, ne_eq, Int.reduceToNat, Int.reduceEq, Int.reduceLT, Int.reduceLE, Int.reduceNeg, if_true, if_false, reduceCtorEq, Nat.reduceSub, storeV_ptr, slcV_slice, ↓mwD, mwU]
      exact hxW.trans hx1
    · by_cases n2 : (60 : Int) < (b.L.length : Int)
      · simp -dsimp -implicitDefEqProofs only [tailM_zero, tailM_seq, h2, h3, h4, h5, A2, B2, n1, n2, m4, sF4, Nat.reduceEqDiff, ↓reduceIte, Nat.reduceAdd, Nat.reduceMul, Value.cells, Value.oneCell', eq_self, ne_eq, Int.reduceToNat, Int.reduceEq, Int.reduceLT, Int.reduceLE, Int.reduceNeg, if_true, if_false, reduceCtorEq, Nat.reduceSub, storeV_ptr, slcV_slice, ↓mwD, mwU]
        refine (haw w0 hxW).use ?_
        rintro r w1 ⟨rfl, hx1⟩
        simp -dsimp -implicitDefEqProofs only [m4, sF4, Nat.reduceEqDiff, ↓reduceIte, Nat.reduceAdd, Nat.reduceMul, Value.cells, Value.oneCell', eq_self, ne_eq, Int.reduceToNat, Int.reduceEq, Int.reduceLT, Int.reduceLE, Int.reduceNeg, if_true, if_false, reduceCtorEq, Nat.reduceSub, storeV_ptr, slcV_slice, ↓mwD, mwU]
        exact hxW.trans hx1
      · obtain ⟨x, ec, hxe⟩ : ∃ x ec, (if a.valid = true then Value.tuple #[.bool (a.has n), .int .i64 0] else .tuple #[.bool false, .int .i64 1]) = .tuple #[.bool x, .int .i64 ec] := by
          cases a.valid
          · exact ⟨_, _, rfl⟩
          · exact ⟨_, _, rfl⟩
        obtain ⟨⟨A0, A1, _⟩, _⟩ := cells (Ext.refl w0)
        simp -dsimp -implicitDefEqProofs only [tailM_zero, tailM_seq, h2, h3, h4, h5, A0, A1, A2, B2, n1, n2, m4, sF4, Nat.reduceEqDiff, ↓reduceIte, Nat.reduceAdd, Nat.reduceMul, Value.cells, Value.oneCell', eq_self, ne_eq, Int.reduceToNat, Int.reduceEq, Int.reduceLT, Int.reduceLE, Int.reduceNeg, if_true, if_false, reduceCtorEq, Nat.reduceSub, storeV_ptr, slcV_slice, ↓mwD, mwU]
        refine (Has_c a _ n w0 (ha.ext hxW)).use ?_
        rintro r w1 ⟨rfl, hx1⟩
        rw [hxe]
        obtain ⟨⟨A0', A1', A2'⟩, _⟩ := cells hx1
        simp -dsimp -implicitDefEqProofs only [h2, h3, h4, h5, A0', A1', A2', m4, sF4, Nat.reduceEqDiff, ↓reduceIte, Nat.reduceAdd, Nat.reduceMul, Value.cells, Value.oneCell', eq_self, ne_eq, Int.reduceToNat, Int.reduceEq, Int.reduceLT, Int.reduceLE, Int.reduceNeg, if_true, if_false, reduceCtorEq, Nat.reduceSub, storeV_ptr, slcV_slice, ↓mwD, mwU]
        refine (refHas_c a _ n w1 (ha.ext (hxW.trans hx1))).use ?_
        rintro r w2 ⟨rfl, hx2⟩
        rw [hxe]
        have hx02 := hx1.trans hx2
        obtain ⟨⟨A0', A1', A2'⟩, _⟩ := cells hx02
        simp -dsimp -implicitDefEqProofs only [h2, h3, h4, h5, A0', A1', A2', m4, sF4, Nat.reduceEqDiff, ↓reduceIte, Nat.reduceAdd, Nat.reduceMul, Value.cells, Value.oneCell', eq_self, ne_eq, Int.reduceToNat, Int.reduceEq, Int.reduceLT, Int.reduceLE, Int.reduceNeg, if_true, if_false, reduceCtorEq, Nat.reduceSub, storeV_ptr, slcV_slice, ↓mwD, mwU]
        refine (Numbers_c a _ most w2 (ha.ext (hxW.trans hx02))).use ?_
        rintro r w3 hr3
        obtain ⟨hx3, v3, rfl, hs3⟩ := num_tell hr3
        have hx03 := hx02.trans hx3
        obtain ⟨⟨A0', A1', A2'⟩, _⟩ := cells hx03
        simp -dsimp -implicitDefEqProofs only [h2, h3, h4, h5, A0', A1', A2', m4, sF4, Nat.reduceEqDiff, ↓reduceIte, Nat.reduceAdd, Nat.reduceMul, Value.cells, Value.oneCell', eq_self, ne_eq, Int.reduceToNat, Int.reduceEq, Int.reduceLT, Int.reduceLE, Int.reduceNeg, if_true, if_false, reduceCtorEq, Nat.reduceSub, storeV_ptr, slcV_slice, ↓mwD, mwU]
        refine (refNumbers_c a _ most w3 (ha.ext (hxW.trans hx03))).use ?_
        rintro r w4 hr4
        obtain ⟨hx4, v4, rfl, hs4⟩ := num_tell hr4
        have hx04 := hx03.trans hx4
        obtain ⟨⟨A0', A1', A2'⟩, _⟩ := cells hx04
        simp -dsimp -implicitDefEqProofs only [h2, h3, h4, h5, A0', A1', A2', m4, sF4, Nat.reduceEqDiff, ↓reduceIte, Nat.reduceAdd, Nat.reduceMul, Value.cells, Value.oneCell', eq_self, ne_eq, Int.reduceToNat, Int.reduceEq, Int.reduceLT, Int.reduceLE, Int.reduceNeg, if_true, if_false, reduceCtorEq, Nat.reduceSub, storeV_ptr, slcV_slice, ↓mwD, mwU]
        refine mwpB_drawE ?_
        simp -dsimp -implicitDefEqProofs only [h2, h3, h4, h5, A0', A1', A2', m4, sF4, Nat.reduceEqDiff, ↓reduceIte, Nat.reduceAdd, Nat.reduceMul, Value.cells, Value.oneCell', eq_self, ne_eq, Int.reduceToNat, Int.reduceEq, Int.reduceLT, Int.reduceLE, Int.reduceNeg, if_true, if_false, reduceCtorEq, Nat.reduceSub, storeV_ptr, slcV_slice, ↓mwD, mwU]
        refine (ValidChoice_c a _ w4.drew (ha.ext (hxW.trans (hx04.trans (Ext.drew _))))).use ?_
        rintro r w5 ⟨rfl, hx5⟩
        simp -dsimp -implicitDefEqProofs only [h2, h3, h4, h5, hx5, A0', A1', A2', m4, sF4, Nat.reduceEqDiff, ↓reduceIte, Nat.reduceAdd, Nat.reduceMul, Value.cells, Value.oneCell', eq_self, ne_eq, Int.reduceToNat, Int.reduceEq, Int.reduceLT, Int.reduceLE, Int.reduceNeg, if_true, if_false, reduceCtorEq, Nat.reduceSub, storeV_ptr, slcV_slice, ↓mwD, mwU]
        refine (refValid_c a _ w5 (ha.ext (hxW.trans (hx04.trans ((Ext.drew _).trans hx5))))).use ?_
        rintro r w6 ⟨rfl, hx6⟩
        have hx56 := hx5.trans hx6
        have hx46 : Ext w4 w6 := (Ext.drew _).trans hx56
        simp -dsimp -implicitDefEqProofs only [hx56, bne_self_eq_false, m4, sF4, Nat.reduceEqDiff, ↓reduceIte, Nat.reduceAdd, Nat.reduceMul, Value.cells, Value.oneCell', eq_self, ne_eq, Int.reduceToNat, Int.reduceEq, Int.reduceLT, Int.reduceLE, Int.reduceNeg, if_true, if_false, reduceCtorEq, Nat.reduceSub, storeV_ptr, slcV_slice, ↓mwD, mwU]
        refine (rows_c v3 v4 _ w6 (hs3.ext (hx4.trans hx46)) (hs4.ext hx46)).use ?_
        rintro r w7 ⟨rfl, hx7⟩
        have hx57 := hx56.trans hx7
        have hx07 := hx04.trans (hx46.trans hx7)
        obtain ⟨⟨A0', A1', A2'⟩, B0', B1', B2'⟩ := cells hx07
        simp -dsimp -implicitDefEqProofs only [h2, h3, h4, h5, hx57, bne_self_eq_false, A0', A1', A2', B0', B1', B2', m4, sF4, Nat.reduceEqDiff, ↓reduceIte, Nat.reduceAdd, Nat.reduceMul, Value.cells, Value.oneCell', eq_self, ne_eq, Int.reduceToNat, Int.reduceEq, Int.reduceLT, Int.reduceLE, Int.reduceNeg, if_true, if_false, reduceCtorEq, Nat.reduceSub, storeV_ptr, slcV_slice, ↓mwD, mwU]
        have hxw7 := hxW.trans hx07
        refine (Meet_c a b _ _ w7 (ha.ext hxw7) (hb.ext hxw7)).use ?_
        rintro r w8 hq8
        obtain ⟨hx8, cc, q8, p8, is, ee, rfl, hs8, ht8⟩ := meet_tell hq8
        have hB8 := Bk.new w8 [.int .i64 cc.k, .int .i64 cc.d, .slice q8 cc.L.length p8] 35
        have hx8a : Ext w8 (w8.alloc (.cells #[.int .i64 cc.k, .int .i64 cc.d, .slice q8 cc.L.length p8] 35)) := Ext.alloc _ _
        have hx08 := hx07.trans (hx8.trans hx8a)
        obtain ⟨⟨A0', A1', A2'⟩, B0', B1', B2'⟩ := cells hx08
        simp -dsimp -implicitDefEqProofs only [h2, h3, h4, h5, setCell_new, A0', A1', A2', B0', B1', B2', m4, sF4, Nat.reduceEqDiff, ↓reduceIte, Nat.reduceAdd, Nat.reduceMul, Value.cells, Value.oneCell', eq_self, ne_eq, Int.reduceToNat, Int.reduceEq, Int.reduceLT, Int.reduceLE, Int.reduceNeg, if_true, if_false, reduceCtorEq, Nat.reduceSub, storeV_ptr, slcV_slice, ↓mwD, mwU]
        refine (refMeet_c a b _ _ _ (ha.ext (hxW.trans hx08)) (hb.ext (hxW.trans hx08))).use ?_
        rintro r w9 hq9
        obtain ⟨hx9, cc', q9, p9, is', ee', rfl, hs9, ht9⟩ := meet_tell hq9
        obtain ⟨rfl, rfl, rfl⟩ := ht8.eq ht9
        clear ht9
        have hB9 := Bk.new w9 [.int .i64 cc.k, .int .i64 cc.d, .slice q9 cc.L.length p9] 35
        have hx9a : Ext w9 (w9.alloc (.cells #[.int .i64 cc.k, .int .i64 cc.d, .slice q9 cc.L.length p9] 35)) := Ext.alloc _ _
        have hb8 := hB8.ext (hx9.trans hx9a)
        have hx09 := hx08.trans (hx9.trans hx9a)
        have C0 := hb8.get (o := 0) rfl
        have C1 := hb8.get (o := 1) rfl
        have C2 := hb8.get (o := 2) rfl
        simp -dsimp -implicitDefEqProofs only [h2, h3, h4, h5, setCell_new, C0, C1, C2, m4, sF4, Nat.reduceEqDiff, ↓reduceIte, Nat.reduceAdd, Nat.reduceMul, Value.cells, Value.oneCell', eq_self, ne_eq, Int.reduceToNat, Int.reduceEq, Int.reduceLT, Int.reduceLE, Int.reduceNeg, if_true, if_false, reduceCtorEq, Nat.reduceSub, storeV_ptr, slcV_slice, ↓mwD, mwU]
        refine (sameChoice_c cc cc _ _ _ (hs8.ext (hx8a.trans (hx9.trans hx9a))) (hs9.ext hx9a) rfl rfl rfl).use ?_
        rintro r w10 ⟨rfl, hx10⟩
        simp -dsimp -implicitDefEqProofs only [h2, h3, h4, h5, bne_self_eq_false, m4, sF4, Nat.reduceEqDiff, ↓reduceIte, Nat.reduceAdd, Nat.reduceMul, Value.cells, Value.oneCell', eq_self, ne_eq, Int.reduceToNat, Int.reduceEq, Int.reduceLT, Int.reduceLE, Int.reduceNeg, if_true, if_false, reduceCtorEq, Nat.reduceSub, storeV_ptr, slcV_slice, ↓mwD, mwU]
        have hx010 := hx09.trans hx10
        have hx810 := (hx9.trans hx9a).trans hx10
        refine iteW_dec (fun he => ?_) (fun he => ?_)
        · subst he
          have hval : (a.valid && b.valid) = true := by
            cases hv : (a.valid && b.valid) with
            | true => rfl
            | false => unfold MeetT at ht8; rw [if_neg (by rw [hv]; simp)] at ht8; exact absurd ht8.2.2 (by decide)
          have va : a.valid = true := by simp at hval; exact hval.1
          have vb : b.valid = true := by simp at hval; exact hval.2
          obtain ⟨⟨A0', A1', A2'⟩, B0', B1', B2'⟩ := cells hx010
          simp -dsimp -implicitDefEqProofs only [h2, h3, h4, h5, A0', A1', A2', B0', B1', B2', m4, sF4, Nat.reduceEqDiff, ↓reduceIte, Nat.reduceAdd, Nat.reduceMul, Value.cells, Value.oneCell', eq_self, ne_eq, Int.reduceToNat, Int.reduceEq, Int.reduceLT, Int.reduceLE, Int.reduceNeg, if_true, if_false, reduceCtorEq, Nat.reduceSub, storeV_ptr, slcV_slice, ↓mwD, mwU]
          refine (Meet_c b a _ _ w10 (hb.ext (hxW.trans hx010)) (ha.ext (hxW.trans hx010))).use ?_
          rintro r w11 hq11
          obtain ⟨hx11, c2, q11, p11, is2, e2, rfl, hs11, ht11⟩ := meet_tell hq11
          have hval2 : (b.valid && a.valid) = true := by rw [va, vb]; rfl
          unfold MeetT at ht8 ht11
          rw [if_pos hval] at ht8
          rw [if_pos hval2] at ht11
          obtain ⟨_, o, hm8, ho8⟩ := ht8
          obtain ⟨rfl, o2, hm11, ho11⟩ := ht11
          have hsym := met_sym va vb hm8 hm11
          have hx011 := hx010.trans hx11
          have hB11 := Bk.new w11 [.int .i64 c2.k, .int .i64 c2.d, .slice q11 c2.L.length p11] 35
          have hx11a : Ext w11 (w11.alloc (.cells #[.int .i64 c2.k, .int .i64 c2.d, .slice q11 c2.L.length p11] 35)) := Ext.alloc _ _
          cases o with
          | none =>
            cases o2 with
            | some _ => cases hsym
            | none =>
              obtain ⟨rfl, rfl⟩ := ho8
              obtain ⟨rfl, rfl⟩ := ho11
              simp -dsimp -implicitDefEqProofs only [h2, h3, h4, h5, setCell_new, bne_self_eq_false, beq_self_eq_true, m4, sF4, Nat.reduceEqDiff, ↓reduceIte, Nat.reduceAdd, Nat.reduceMul, Value.cells, Value.oneCell', eq_self, ne_eq, Int.reduceToNat, Int.reduceEq, Int.reduceLT, Int.reduceLE, Int.reduceNeg, if_true, if_false, reduceCtorEq, Nat.reduceSub, storeV_ptr, slcV_slice, ↓mwD, mwU]
              refine (haw _ (hxW.trans (hx011.trans (Ext.alloc _ _)))).use ?_
              rintro r w12 ⟨rfl, hx12⟩
              simp -dsimp -implicitDefEqProofs only [m4, sF4, Nat.reduceEqDiff, ↓reduceIte, Nat.reduceAdd, Nat.reduceMul, Value.cells, Value.oneCell', eq_self, ne_eq, Int.reduceToNat, Int.reduceEq, Int.reduceLT, Int.reduceLE, Int.reduceNeg, if_true, if_false, reduceCtorEq, Nat.reduceSub, storeV_ptr, slcV_slice, ↓mwD, mwU]
              exact hxW.trans ((hx011.trans (Ext.alloc _ _)).trans hx12)
          | some c =>
            cases o2 with
            | none => cases hsym
            | some d =>
              obtain ⟨rfl, rfl⟩ := ho8
              obtain ⟨rfl, rfl⟩ := ho11
              obtain ⟨vd, hcut⟩ := met_ok va vb hm8
              obtain ⟨vc2, _⟩ := met_ok vb va hm11
              have hx012 := hx011.trans hx11a
              have hb9 := (hB9.ext hx10).ext (hx11.trans hx11a)
              have D0 := hb9.get (o := 0) rfl
              have D1 := hb9.get (o := 1) rfl
              have D2 := hb9.get (o := 2) rfl
              obtain ⟨⟨A0', A1', A2'⟩, B0', B1', B2'⟩ := cells hx012
              have E0 := hB11.get (o := 0) rfl
              have E1 := hB11.get (o := 1) rfl
              have E2 := hB11.get (o := 2) rfl
              have hsc := (hs9.ext hx9a).ext (hx10.trans (hx11.trans (hx11a.trans (Ext.drew _))))
              by_cases k2 : cc.k = 2
              · have dk : decide (cc.k = 2) = true := by simp [k2]
                by_cases l20 : (cc.L.length : Int) = 20
                · have dl : decide ((cc.L.length : Int) = 20) = true := by simp [l20]
                  simp -dsimp -implicitDefEqProofs only [h2, h3, h4, h5, setCell_new, D0, D2, bne_self_eq_false, beq_self_eq_true, dk, dl, m4, sF4, Nat.reduceEqDiff, ↓reduceIte, Nat.reduceAdd, Nat.reduceMul, Value.cells, Value.oneCell', eq_self, ne_eq, Int.reduceToNat, Int.reduceEq, Int.reduceLT, Int.reduceLE, Int.reduceNeg, if_true, if_false, reduceCtorEq, Nat.reduceSub, storeV_ptr, slcV_slice, ↓mwD, mwU]
                  refine mwpB_drawE ?_
                  simp -dsimp -implicitDefEqProofs only [h2, h3, h4, h5, E0, E1, E2, m4, sF4, Nat.reduceEqDiff, ↓reduceIte, Nat.reduceAdd, Nat.reduceMul, Value.cells, Value.oneCell', eq_self, ne_eq, Int.reduceToNat, Int.reduceEq, Int.reduceLT, Int.reduceLE, Int.reduceNeg, if_true, if_false, reduceCtorEq, Nat.reduceSub, storeV_ptr, slcV_slice, ↓mwD, mwU]
                  refine (refValid_c c2 _ _ (hs11.ext (hx11a.trans (Ext.drew _)))).use ?_
                  rintro r w16 ⟨rfl, hx16⟩
                  simp -dsimp -implicitDefEqProofs only [hx16, vc2, m4, sF4, Nat.reduceEqDiff, ↓reduceIte, Nat.reduceAdd, Nat.reduceMul, Value.cells, Value.oneCell', eq_self, ne_eq, Int.reduceToNat, Int.reduceEq, Int.reduceLT, Int.reduceLE, Int.reduceNeg, if_true, if_false, reduceCtorEq, Nat.reduceSub, storeV_ptr, slcV_slice, ↓mwD, mwU]
                  refine (haw w16 (hxW.trans (hx012.trans ((Ext.drew _).trans hx16)))).use ?_
                  rintro r w17 ⟨rfl, hx17⟩
                  have hx1317 := hx16.trans hx17
                  simp -dsimp -implicitDefEqProofs only [hx1317, m4, sF4, Nat.reduceEqDiff, ↓reduceIte, Nat.reduceAdd, Nat.reduceMul, Value.cells, Value.oneCell', eq_self, ne_eq, Int.reduceToNat, Int.reduceEq, Int.reduceLT, Int.reduceLE, Int.reduceNeg, if_true, if_false, reduceCtorEq, Nat.reduceSub, storeV_ptr, slcV_slice, ↓mwD, mwU]
                  exact hxW.trans (hx012.trans ((Ext.drew _).trans hx1317))
                · have dl : decide ((cc.L.length : Int) = 20) = false := by simp [l20]
                  have heqn : cc.has n = (a.has n && b.has n) := by
                    rcases hcut with h | h
                    · exact absurd (by rw [h.2]; rfl) l20
                    · exact h n
                  simp -dsimp -implicitDefEqProofs only [h2, h3, h4, h5, setCell_new, D0, D2, bne_self_eq_false, beq_self_eq_true, dk, dl, m4, sF4, Nat.reduceEqDiff, ↓reduceIte, Nat.reduceAdd, Nat.reduceMul, Value.cells, Value.oneCell', eq_self, ne_eq, Int.reduceToNat, Int.reduceEq, Int.reduceLT, Int.reduceLE, Int.reduceNeg, if_true, if_false, reduceCtorEq, Nat.reduceSub, storeV_ptr, slcV_slice, ↓mwD, mwU]
                  refine mwpB_drawE ?_
                  simp -dsimp -implicitDefEqProofs only [h2, h3, h4, h5, D0, D1, D2, A0', A1', A2', B0', B1', B2', E0, E1, E2, m4, sF4, Nat.reduceEqDiff, ↓reduceIte, Nat.reduceAdd, Nat.reduceMul, Value.cells, Value.oneCell', eq_self, ne_eq, Int.reduceToNat, Int.reduceEq, Int.reduceLT, Int.reduceLE, Int.reduceNeg, if_true, if_false, reduceCtorEq, Nat.reduceSub, storeV_ptr, slcV_slice, ↓mwD, mwU]
                  refine (Has1_c cc _ n _ hsc (valid_fit vd)).use ?_
                  rintro r w13 ⟨rfl, hx13⟩
                  simp -dsimp -implicitDefEqProofs only [hx13, m4, sF4, Nat.reduceEqDiff, ↓reduceIte, Nat.reduceAdd, Nat.reduceMul, Value.cells, Value.oneCell', eq_self, ne_eq, Int.reduceToNat, Int.reduceEq, Int.reduceLT, Int.reduceLE, Int.reduceNeg, if_true, if_false, reduceCtorEq, Nat.reduceSub, storeV_ptr, slcV_slice, ↓mwD, mwU]
                  refine (Has1_c a _ n w13 (ha.ext (hxW.trans (hx012.trans ((Ext.drew _).trans hx13)))) (valid_fit va)).use ?_
                  rintro r w14 ⟨rfl, hx14⟩
                  have hx1314 := hx13.trans hx14
                  cases hah : a.has n
                  · rw [hah, Bool.false_and] at heqn
                    simp -dsimp -implicitDefEqProofs only [hx1314, heqn, h4, h5, E0, E1, E2, beq_self_eq_true, m4, sF4, Nat.reduceEqDiff, ↓reduceIte, Nat.reduceAdd, Nat.reduceMul, Value.cells, Value.oneCell', eq_self, ne_eq, Int.reduceToNat, Int.reduceEq, Int.reduceLT, Int.reduceLE, Int.reduceNeg, if_true, if_false, reduceCtorEq, Nat.reduceSub, storeV_ptr, slcV_slice, ↓mwD, mwU]
                    refine (refValid_c c2 _ w14 (hs11.ext (hx11a.trans ((Ext.drew _).trans hx1314)))).use ?_
                    rintro r w16 ⟨rfl, hx16⟩
                    have hx1316 := hx1314.trans hx16
                    simp -dsimp -implicitDefEqProofs only [hx1316, vc2, m4, sF4, Nat.reduceEqDiff, ↓reduceIte, Nat.reduceAdd, Nat.reduceMul, Value.cells, Value.oneCell', eq_self, ne_eq, Int.reduceToNat, Int.reduceEq, Int.reduceLT, Int.reduceLE, Int.reduceNeg, if_true, if_false, reduceCtorEq, Nat.reduceSub, storeV_ptr, slcV_slice, ↓mwD, mwU]
                    refine (haw w16 (hxW.trans (hx012.trans ((Ext.drew _).trans hx1316)))).use ?_
                    rintro r w17 ⟨rfl, hx17⟩
                    have hx1317 := hx1316.trans hx17
                    simp -dsimp -implicitDefEqProofs only [hx1317, m4, sF4, Nat.reduceEqDiff, ↓reduceIte, Nat.reduceAdd, Nat.reduceMul, Value.cells, Value.oneCell', eq_self, ne_eq, Int.reduceToNat, Int.reduceEq, Int.reduceLT, Int.reduceLE, Int.reduceNeg, if_true, if_false, reduceCtorEq, Nat.reduceSub, storeV_ptr, slcV_slice, ↓mwD, mwU]
                    exact hxW.trans (hx012.trans ((Ext.drew _).trans hx1317))
                  · rw [hah, Bool.true_and] at heqn
                    simp -dsimp -implicitDefEqProofs only [hx1314, h2, h3, h4, h5, B0', B1', B2', m4, sF4, Nat.reduceEqDiff, ↓reduceIte, Nat.reduceAdd, Nat.reduceMul, Value.cells, Value.oneCell', eq_self, ne_eq, Int.reduceToNat, Int.reduceEq, Int.reduceLT, Int.reduceLE, Int.reduceNeg, if_true, if_false, reduceCtorEq, Nat.reduceSub, storeV_ptr, slcV_slice, ↓mwD, mwU]
                    refine (Has1_c b _ n w14 (hb.ext (hxW.trans (hx012.trans ((Ext.drew _).trans hx1314)))) (valid_fit vb)).use ?_
                    rintro r w15 ⟨rfl, hx15⟩
                    have hx1315 := hx1314.trans hx15
                    simp -dsimp -implicitDefEqProofs only [hx1315, heqn, h4, h5, E0, E1, E2, beq_self_eq_true, m4, sF4, Nat.reduceEqDiff, ↓reduceIte, Nat.reduceAdd, Nat.reduceMul, Value.cells, Value.oneCell', eq_self, ne_eq, Int.reduceToNat, Int.reduceEq, Int.reduceLT, Int.reduceLE, Int.reduceNeg, if_true, if_false, reduceCtorEq, Nat.reduceSub, storeV_ptr, slcV_slice, ↓mwD, mwU]
                    refine (refValid_c c2 _ w15 (hs11.ext (hx11a.trans ((Ext.drew _).trans hx1315)))).use ?_
                    rintro r w16 ⟨rfl, hx16⟩
                    have hx1316 := hx1315.trans hx16
                    simp -dsimp -implicitDefEqProofs only [hx1316, vc2, m4, sF4, Nat.reduceEqDiff, ↓reduceIte, Nat.reduceAdd, Nat.reduceMul, Value.cells, Value.oneCell', eq_self, ne_eq, Int.reduceToNat, Int.reduceEq, Int.reduceLT, Int.reduceLE, Int.reduceNeg, if_true, if_false, reduceCtorEq, Nat.reduceSub, storeV_ptr, slcV_slice, ↓mwD, mwU]
                    refine (haw w16 (hxW.trans (hx012.trans ((Ext.drew _).trans hx1316)))).use ?_
                    rintro r w17 ⟨rfl, hx17⟩
                    have hx1317 := hx1316.trans hx17
                    simp -dsimp -implicitDefEqProofs only [hx1317, m4, sF4, Nat.reduceEqDiff, ↓reduceIte, Nat.reduceAdd, Nat.reduceMul, Value.cells, Value.oneCell', eq_self, ne_eq, Int.reduceToNat, Int.reduceEq, Int.reduceLT, Int.reduceLE, Int.reduceNeg, if_true, if_false, reduceCtorEq, Nat.reduceSub, storeV_ptr, slcV_slice, ↓mwD, mwU]
                    exact hxW.trans (hx012.trans ((Ext.drew _).trans hx1317))
              · have dk : decide (cc.k = 2) = false := by simp [k2]
                have heqn : cc.has n = (a.has n && b.has n) := by
                  rcases hcut with h | h
                  · exact absurd h.1 k2
                  · exact h n
                simp -dsimp -implicitDefEqProofs only [h2, h3, h4, h5, setCell_new, D0, D2, bne_self_eq_false, beq_self_eq_true, dk, m4, sF4, Nat.reduceEqDiff, ↓reduceIte, Nat.reduceAdd, Nat.reduceMul, Value.cells, Value.oneCell', eq_self, ne_eq, Int.reduceToNat, Int.reduceEq, Int.reduceLT, Int.reduceLE, Int.reduceNeg, if_true, if_false, reduceCtorEq, Nat.reduceSub, storeV_ptr, slcV_slice, ↓mwD, mwU]
                refine mwpB_drawE ?_
                simp -dsimp -implicitDefEqProofs only [h2, h3, h4, h5, D0, D1, D2, A0', A1', A2', B0', B1', B2', E0, E1, E2, m4, sF4, Nat.reduceEqDiff, ↓reduceIte, Nat.reduceAdd, Nat.reduceMul, Value.cells, Value.oneCell', eq_self, ne_eq, Int.reduceToNat, Int.reduceEq, Int.reduceLT, Int.reduceLE, Int.reduceNeg, if_true, if_false, reduceCtorEq, Nat.reduceSub, storeV_ptr, slcV_slice, ↓mwD, mwU]
                refine (Has1_c cc _ n _ hsc (valid_fit vd)).use ?_
                rintro r w13 ⟨rfl, hx13⟩
                simp -dsimp -implicitDefEqProofs only [hx13, m4, sF4, Nat.reduceEqDiff, ↓reduceIte, Nat.reduceAdd, Nat.reduceMul, Value.cells, Value.oneCell', eq_self, ne_eq, Int.reduceToNat, Int.reduceEq, Int.reduceLT, Int.reduceLE, Int.reduceNeg, if_true, if_false, reduceCtorEq, Nat.reduceSub, storeV_ptr, slcV_slice, ↓mwD, mwU]
                refine (Has1_c a _ n w13 (ha.ext (hxW.trans (hx012.trans ((Ext.drew _).trans hx13)))) (valid_fit va)).use ?_
                rintro r w14 ⟨rfl, hx14⟩
                have hx1314 := hx13.trans hx14
                cases hah : a.has n
                · rw [hah, Bool.false_and] at heqn
                  simp -dsimp -implicitDefEqProofs only [hx1314, heqn, h4, h5, E0, E1, E2, beq_self_eq_true, m4, sF4, Nat.reduceEqDiff, ↓reduceIte, Nat.reduceAdd, Nat.reduceMul, Value.cells, Value.oneCell', eq_self, ne_eq, Int.reduceToNat, Int.reduceEq, Int.reduceLT, Int.reduceLE, Int.reduceNeg, if_true, if_false, reduceCtorEq, Nat.reduceSub, storeV_ptr, slcV_slice, ↓mwD, mwU]
                  refine (refValid_c c2 _ w14 (hs11.ext (hx11a.trans ((Ext.drew _).trans hx1314)))).use ?_
                  rintro r w16 ⟨rfl, hx16⟩
                  have hx1316 := hx1314.trans hx16
                  simp -dsimp -implicitDefEqProofs only [hx1316, vc2, m4, sF4, Nat.reduceEqDiff, ↓reduceIte, Nat.reduceAdd, Nat.reduceMul, Value.cells, Value.oneCell', eq_self, ne_eq, Int.reduceToNat, Int.reduceEq, Int.reduceLT, Int.reduceLE, Int.reduceNeg, if_true, if_false, reduceCtorEq, Nat.reduceSub, storeV_ptr, slcV_slice, ↓mwD, mwU]
                  refine (haw w16 (hxW.trans (hx012.trans ((Ext.drew _).trans hx1316)))).use ?_
                  rintro r w17 ⟨rfl, hx17⟩
                  have hx1317 := hx1316.trans hx17
                  simp -dsimp -implicitDefEqProofs only [hx1317, m4, sF4, Nat.reduceEqDiff, ↓reduceIte, Nat.reduceAdd, Nat.reduceMul, Value.cells, Value.oneCell', eq_self, ne_eq, Int.reduceToNat, Int.reduceEq, Int.reduceLT, Int.reduceLE, Int.reduceNeg, if_true, if_false, reduceCtorEq, Nat.reduceSub, storeV_ptr, slcV_slice, ↓mwD, mwU]
                  exact hxW.trans (hx012.trans ((Ext.drew _).trans hx1317))
                · rw [hah, Bool.true_and] at heqn
                  simp -dsimp -implicitDefEqProofs only [hx1314, h2, h3, h4, h5, B0', B1', B2', m4, sF4, Nat.reduceEqDiff, ↓reduceIte, Nat.reduceAdd, Nat.reduceMul, Value.cells, Value.oneCell', eq_self, ne_eq, Int.reduceToNat, Int.reduceEq, Int.reduceLT, Int.reduceLE, Int.reduceNeg, if_true, if_false, reduceCtorEq, Nat.reduceSub, storeV_ptr, slcV_slice, ↓mwD, mwU]
                  refine (Has1_c b _ n w14 (hb.ext (hxW.trans (hx012.trans ((Ext.drew _).trans hx1314)))) (valid_fit vb)).use ?_
                  rintro r w15 ⟨rfl, hx15⟩
                  have hx1315 := hx1314.trans hx15
                  simp -dsimp -implicitDefEqProofs only [hx1315, heqn, h4, h5, E0, E1, E2, beq_self_eq_true, m4, sF4, Nat.reduceEqDiff, ↓reduceIte, Nat.reduceAdd, Nat.reduceMul, Value.cells, Value.oneCell', eq_self, ne_eq, Int.reduceToNat, Int.reduceEq, Int.reduceLT, Int.reduceLE, Int.reduceNeg, if_true, if_false, reduceCtorEq, Nat.reduceSub, storeV_ptr, slcV_slice, ↓mwD, mwU]
                  refine (refValid_c c2 _ w15 (hs11.ext (hx11a.trans ((Ext.drew _).trans hx1315)))).use ?_
                  rintro r w16 ⟨rfl, hx16⟩
                  have hx1316 := hx1315.trans hx16
                  simp -dsimp -implicitDefEqProofs only [hx1316, vc2, m4, sF4, Nat.reduceEqDiff, ↓reduceIte, Nat.reduceAdd, Nat.reduceMul, Value.cells, Value.oneCell', eq_self, ne_eq, Int.reduceToNat, Int.reduceEq, Int.reduceLT, Int.reduceLE, Int.reduceNeg, if_true, if_false, reduceCtorEq, Nat.reduceSub, storeV_ptr, slcV_slice, ↓mwD, mwU]
                  refine (haw w16 (hxW.trans (hx012.trans ((Ext.drew _).trans hx1316)))).use ?_
                  rintro r w17 ⟨rfl, hx17⟩
                  have hx1317 := hx1316.trans hx17
                  simp -dsimp -implicitDefEqProofs only [hx1317, m4, sF4, Nat.reduceEqDiff, ↓reduceIte, Nat.reduceAdd, Nat.reduceMul, Value.cells, Value.oneCell', eq_self, ne_eq, Int.reduceToNat, Int.reduceEq, Int.reduceLT, Int.reduceLE, Int.reduceNeg, if_true, if_false, reduceCtorEq, Nat.reduceSub, storeV_ptr, slcV_slice, ↓mwD, mwU]
                  exact hxW.trans (hx012.trans ((Ext.drew _).trans hx1317))
        · simp -dsimp -implicitDefEqProofs only [h2, h3, h4, h5, m4, sF4, Nat.reduceEqDiff, ↓reduceIte, Nat.reduceAdd, Nat.reduceMul, Value.cells, Value.oneCell', eq_self, ne_eq, Int.reduceToNat, Int.reduceEq, Int.reduceLT, Int.reduceLE, Int.reduceNeg, if_true, if_false, reduceCtorEq, Nat.reduceSub, storeV_ptr, slcV_slice, ↓mwD, mwU]
          refine (haw w10 (hxW.trans hx010)).use ?_
          rintro r w11 ⟨rfl, hx11⟩
          simp -dsimp -implicitDefEqProofs only [m4, sF4, Nat.reduceEqDiff, ↓reduceIte, Nat.reduceAdd, Nat.reduceMul, Value.cells, Value.oneCell', eq_self, ne_eq, Int.reduceToNat, Int.reduceEq, Int.reduceLT, Int.reduceLE, Int.reduceNeg, if_true, if_false, reduceCtorEq, Nat.reduceSub, storeV_ptr, slcV_slice, ↓mwD, mwU]
          exact hxW.trans (hx010.trans hx11)
end Go.Proofs.YthcdnjbhhaonhaaGreatDoor

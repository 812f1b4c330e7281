/- States read: the scanner. -/
import Derived.Test.YtefcfnmmpnjjjaaGreatDoorQbStC
namespace Go.Proofs.YtefcfnmmpnjjjaaGreatDoor
open Go.RowKit
set_option linter.unusedSimpArgs false

/-- The scanner in memory: the words that are left. -/
def ScAt (w : World) (sb : Nat) (ws : List ByteArray) : Prop := ∃ v, Bk w sb [v] 88 ∧ SlS w v ws ∧ ∀ q, v.ownBlock = some q → q < sb
theorem ScAt.same {w w' : World} {sb : Nat} {ws : List ByteArray} (h : ScAt w sb ws) (hs : Same (fun q => q ≤ sb) w w') : ScAt w' sb ws := by
  obtain ⟨v, hb, hS, hv⟩ := h
  exact ⟨v, hb.same hs (Nat.le_refl _), Sl.same hS hs (fun _ p hp => Nat.le_of_lt (hv p hp)), hv⟩
/-- What leaves the reading of a state. -/
def wrongP (ch : List PanicEntry) : Prop := ch = [⟨.iface 140 (.agg #[]), false, false⟩]
/-- A number is read. -/
def numP : List ByteArray → Option (Int × List ByteArray)
  | [] => none
  | wd :: ws => (numW wd).map fun x => (x, ws)
/-- Only block sb was turned. -/
abbrev ChS (sb : Nat) (w w' : World) : Prop := ChP (fun q => q = sb) w w'
theorem sl_tailS {w : World} {cs : List Value} {n cap : Nat} {b o : Nat} (hl : Sl w (.slice (some ⟨b, o, none⟩) n cap) cs) (hn : cs.length = n) (h1 : 1 ≤ n) :
    Sl w (.slice (if (cap : Int) = 1 then some ⟨b, o, none⟩ else some ⟨b, o + 1, none⟩) ((n : Int) - 1).toNat ((cap : Int) - 1).toNat) (cs.drop 1) := by
  subst hn
  obtain ⟨_, _, _, hv, hle, hm, hc⟩ := hl.at (by rintro rfl; simp at h1)
  cases hv
  refine .inr ⟨b, if (cap : Int) = 1 then o else o + 1, cap - 1, ?_, ?_, by omega, ?_⟩
  · rw [List.length_drop]
    split
    · rw [show ((cs.length : Int) - 1).toNat = cs.length - 1 by omega, show ((cap : Int) - 1).toNat = cap - 1 by omega]
    · rw [show ((cs.length : Int) - 1).toNat = cs.length - 1 by omega, show ((cap : Int) - 1).toNat = cap - 1 by omega]
  · rw [List.length_drop]; omega
  · intro k u hk
    have hkl : k < (cs.drop 1).length := (List.getElem?_eq_some_iff.1 hk).1
    rw [List.getElem?_drop] at hk
    rw [List.length_drop] at hkl
    rw [if_neg (by omega), Nat.add_assoc]
    exact hc (1 + k) u hk

theorem bv_wrong : buildV Go.Proofs.Tryz.prog 140 [] = some (.agg #[]) := by kernel_rfl
theorem number_c {w0 w : World} {sb : Nat} {ws : List ByteArray} (hE : EnvS w0) (h0 : Ext w0 w) (hs : ScAt w sb ws) (hsz : ∀ x ∈ ws, x.size ≤ 1000000000) :
    Ends Go.Proofs.Tryz.prog 102 #[.pointer (some ⟨sb, 0, none⟩)] w (fun r w' => ∃ x ws', numP ws = some (x, ws') ∧ r = .int .i64 x ∧ ScAt w' sb ws' ∧ ChS sb w w')
      (fun ch w' => numP ws = none ∧ wrongP ch ∧ ChS sb w w') := by
  obtain ⟨v, hb, hS, hv⟩ := hs
  have c0 := hb.get (o := 0) rfl
  refine ex102 ?_
  cases ws with
  | nil =>
    obtain ⟨p, cap, rfl, _, _⟩ := hS.shape
    simp -dsimp -implicitDefEqProofs only [c0, bv_wrong, panV_iface, m102, sF102, Nat.reduceEqDiff, ↓reduceIte, Nat.reduceAdd, Nat.reduceMul, Value.cells, Value.oneCell', eq_self, ne_eq, Int.reduceToNat, Int.reduceEq, Int.reduceLT, Int.reduceLE, Int.reduceNeg, if_true, if_false, reduceCtorEq, Nat.reduceSub, storeV_ptr, slcV_slice, ↓mwD, mwU]
    exact ⟨rfl, rfl, ChP.refl _ _⟩
  | cons wd ws =>
    obtain ⟨b, o, cap, rfl, hle, hm, hc⟩ := hS.at (by simp)
    have hc0 : w.cell? ⟨b, o, none⟩ = some (.string wd) := hc 0 _ rfl
    generalize hN : ((wd :: ws).map Value.string).length = N at *
    have hN1 : 1 ≤ N := by rw [← hN]; simp
    have hl0 : ¬ ((N : Int) = 0) := by omega
    have hl1 : (0 : Int) < N := by omega
    simp -dsimp -implicitDefEqProofs only [c0, hl0, hl1, hc0, m102, sF102, Nat.reduceEqDiff, ↓reduceIte, Nat.reduceAdd, Nat.reduceMul, Value.cells, Value.oneCell', eq_self, ne_eq, Int.reduceToNat, Int.reduceEq, Int.reduceLT, Int.reduceLE, Int.reduceNeg, if_true, if_false, reduceCtorEq, Nat.reduceSub, storeV_ptr, slcV_slice, ↓mwD, mwU]
    refine (Atoi_c (hsz wd (by simp)) (hE.ext h0)).use ?_
    rintro r w1 ⟨hr, hx1⟩
    cases hat : Lib.atoiAll wd.data.toList
    case ok n =>
      rw [hat] at hr
      subst hr
      simp -dsimp -implicitDefEqProofs only [m102, sF102, Nat.reduceEqDiff, ↓reduceIte, Nat.reduceAdd, Nat.reduceMul, Value.cells, Value.oneCell', eq_self, ne_eq, Int.reduceToNat, Int.reduceEq, Int.reduceLT, Int.reduceLE, Int.reduceNeg, if_true, if_false, reduceCtorEq, Nat.reduceSub, storeV_ptr, slcV_slice, ↓mwD, mwU]
      have d0 := hx1.cell c0
      have dc := hx1.cell hc0
      refine mwpB_drawE ?_
      simp -dsimp -implicitDefEqProofs only [d0, hl1, dc, m102, sF102, Nat.reduceEqDiff, ↓reduceIte, Nat.reduceAdd, Nat.reduceMul, Value.cells, Value.oneCell', eq_self, ne_eq, Int.reduceToNat, Int.reduceEq, Int.reduceLT, Int.reduceLE, Int.reduceNeg, if_true, if_false, reduceCtorEq, Nat.reduceSub, storeV_ptr, slcV_slice, ↓mwD, mwU]
      refine (Itoa_c (Lib.atoiAll_bounds hat) ((hE.ext (h0.trans hx1)).ext (Ext.drew _))).use ?_
      rintro _ w2 ⟨rfl, hx2⟩
      refine ⟨hx2, ?_⟩
      simp -dsimp -implicitDefEqProofs only [binV_neS, m102, sF102, Nat.reduceEqDiff, ↓reduceIte, Nat.reduceAdd, Nat.reduceMul, Value.cells, Value.oneCell', eq_self, ne_eq, Int.reduceToNat, Int.reduceEq, Int.reduceLT, Int.reduceLE, Int.reduceNeg, if_true, if_false, reduceCtorEq, Nat.reduceSub, storeV_ptr, slcV_slice, ↓mwD, mwU]
      have hx3 : Ext w w2 := (hx1.trans (Ext.drew _)).trans hx2
      refine iteW_dec (fun hne => ?_) (fun heq => ?_)
      · simp -dsimp -implicitDefEqProofs only [bv_wrong, panV_iface, m102, sF102, Nat.reduceEqDiff, ↓reduceIte, Nat.reduceAdd, Nat.reduceMul, Value.cells, Value.oneCell', eq_self, ne_eq, Int.reduceToNat, Int.reduceEq, Int.reduceLT, Int.reduceLE, Int.reduceNeg, if_true, if_false, reduceCtorEq, Nat.reduceSub, storeV_ptr, slcV_slice, ↓mwD, mwU]
        refine ⟨?_, rfl, hx3.chp⟩
        have : numW wd = none := by
          unfold numW
          rw [hat]
          simp only
          rw [if_neg (fun e => hne (ba_ext (by rw [← e]; rfl)))]
        simp [numP, this]
      · have heq' : wordOf n = wd := Classical.byContradiction heq
        have e0 := hx3.cell c0
        simp -dsimp -implicitDefEqProofs only [e0, m102, sF102, Nat.reduceEqDiff, ↓reduceIte, Nat.reduceAdd, Nat.reduceMul, Value.cells, Value.oneCell', eq_self, ne_eq, Int.reduceToNat, Int.reduceEq, Int.reduceLT, Int.reduceLE, Int.reduceNeg, if_true, if_false, reduceCtorEq, Nat.reduceSub, storeV_ptr, slcV_slice, ↓mwD, mwU]
        have hbb : b < sb := hv b rfl
        have hnw : numW wd = some n := by
          unfold numW
          rw [hat]
          simp only
          rw [if_pos (by rw [← heq']; rfl)]
        have hown : ∀ q, (Value.slice (if (cap : Int) = 1 then some ⟨b, o, none⟩ else some ⟨b, o + 1, none⟩) ((N : Int) - 1).toNat ((cap : Int) - 1).toNat).ownBlock = some q → q < sb := fun q hq => by
          split at hq <;> simp [Value.ownBlock] at hq <;> omega
        refine ⟨⟨by omega, by omega⟩, (hb.ext hx3).frozen _, n, ws, by simp [numP, hnw], rfl, ⟨_, (hb.ext hx3).set 0 _, ?_, hown⟩, ChP.setCell (G := fun q => q = sb) hx3.chp (fun _ => rfl) _⟩
        have hS3 := sl_tailS (Sl.ext hS hx3) hN hN1
        exact Sl.same (G := fun q => q ≠ sb) hS3 (fun q hq => Below.heap_setCell _ _ _ _ hq) (fun _ p hp => Nat.ne_of_lt (hown p hp))
    all_goals
      rw [hat] at hr
      obtain ⟨n, t, p, rfl⟩ := hr
      simp -dsimp -implicitDefEqProofs only [m102, sF102, Nat.reduceEqDiff, ↓reduceIte, Nat.reduceAdd, Nat.reduceMul, Value.cells, Value.oneCell', eq_self, ne_eq, Int.reduceToNat, Int.reduceEq, Int.reduceLT, Int.reduceLE, Int.reduceNeg, if_true, if_false, reduceCtorEq, Nat.reduceSub, storeV_ptr, slcV_slice, ↓mwD, mwU]
      refine mwpB_drawE ?_
      simp -dsimp -implicitDefEqProofs only [bv_wrong, panV_iface, m102, sF102, Nat.reduceEqDiff, ↓reduceIte, Nat.reduceAdd, Nat.reduceMul, Value.cells, Value.oneCell', eq_self, ne_eq, Int.reduceToNat, Int.reduceEq, Int.reduceLT, Int.reduceLE, Int.reduceNeg, if_true, if_false, reduceCtorEq, Nat.reduceSub, storeV_ptr, slcV_slice, ↓mwD, mwU]
      exact ⟨by simp [numP, numW, hat], rfl, (hx1.trans (Ext.drew _)).chp⟩
theorem numP_some {ws : List ByteArray} {x : Int} {ws' : List ByteArray} (h : numP ws = some (x, ws')) : ∃ wd, ws = wd :: ws' ∧ numW wd = some x := by
  cases ws with
  | nil => simp [numP] at h
  | cons wd ws =>
    simp only [numP, Option.map_eq_some_iff] at h
    obtain ⟨y, hy, he⟩ := h
    cases he
    exact ⟨wd, rfl, hy⟩
theorem sameP_none {ws : List ByteArray} (h : numP ws = none) (n : Int) (l : List Int) : sameP (n :: l) ws = none := by
  cases ws with
  | nil => rfl
  | cons wd ws =>
    simp only [numP, Option.map_eq_none_iff] at h
    simp [sameP, h]
/-- Numbers that must be these. -/
theorem same_c {w0 w : World} {sb : Nat} {ws : List ByteArray} {l : Value} {L : List Int} (hE : EnvS w0) (h0 : Ext w0 w) (hs0 : w0.heap.size ≤ sb) (hs : ScAt w sb ws) (hsz : ∀ x ∈ ws, x.size ≤ 1000000000) (hl : SlI w l L) (hd : L ≠ [] → ∀ q, l.ownBlock = some q → q ≠ sb) (hL : L.length ≤ 1000000) :
    Ends Go.Proofs.Tryz.prog 61 #[.pointer (some ⟨sb, 0, none⟩), l] w (fun _ w' => ∃ ws', sameP L ws = some ws' ∧ ScAt w' sb ws' ∧ ChS sb w w')
      (fun ch w' => sameP L ws = none ∧ wrongP ch ∧ ChS sb w w') := by
  obtain ⟨p, cap, rfl, hc1, hc2⟩ := hl.shape
  refine ex61 ?_
  simp -dsimp -implicitDefEqProofs only [m61, sF61, Nat.reduceEqDiff, ↓reduceIte, Nat.reduceAdd, Nat.reduceMul, Value.cells, Value.oneCell', eq_self, ne_eq, Int.reduceToNat, Int.reduceEq, Int.reduceLT, Int.reduceLE, Int.reduceNeg, if_true, if_false, reduceCtorEq, Nat.reduceSub, storeV_ptr, slcV_slice, ↓mwD, mwU]
  refine mwpB_loop (fun e ds wl => ∃ n : Nat, n ≤ L.length ∧ e 11 = .int .i64 n ∧ e 10 = .int .i64 L.length ∧ e 9 = .slice p L.length cap ∧ e 4 = .func (.func 102) #[.pointer (some ⟨sb, 0, none⟩)] #[] ∧ ds = [] ∧
      ∃ ws', sameP L ws = (sameP (L.drop n) ws') ∧ ScAt wl sb ws' ∧ ChS sb w wl ∧ ∀ x ∈ ws', x.size ≤ 1000000000) (fun e _ => L.length - (intOf (e 11)).toNat) ?_ ?_
  · simp -dsimp -implicitDefEqProofs only [m61, sF61, Nat.reduceEqDiff, ↓reduceIte, Nat.reduceAdd, Nat.reduceMul, Value.cells, Value.oneCell', eq_self, ne_eq, Int.reduceToNat, Int.reduceEq, Int.reduceLT, Int.reduceLE, Int.reduceNeg, if_true, if_false, reduceCtorEq, Nat.reduceSub, storeV_ptr, slcV_slice, ↓mwD, mwU]
    exact ⟨0, by omega, rfl, ws, rfl, hs, ChP.refl _ _, hsz⟩
  · rintro e ds wl ⟨n, hn, h11, h10, h9, h4, rfl, ws', heq, hsl, hch, hszl⟩
    simp -dsimp -implicitDefEqProofs only [h11, h10, h9, h4, m61, sF61, Nat.reduceEqDiff, ↓reduceIte, Nat.reduceAdd, Nat.reduceMul, Value.cells, Value.oneCell', eq_self, ne_eq, Int.reduceToNat, Int.reduceEq, Int.reduceLT, Int.reduceLE, Int.reduceNeg, if_true, if_false, reduceCtorEq, Nat.reduceSub, storeV_ptr, slcV_slice, ↓mwD, mwU]
    refine iteW_dec (fun hlt' => ?_) (fun hge => ?_)
    · have hnl : n < L.length := by omega
      obtain ⟨bl, ol, cl, hv', hcl⟩ := hl.some (by omega)
      cases hv'
      have cn : wl.cell? ⟨bl, ol + n, none⟩ = some (.int .i64 L[n]) := hch.cell (hd (by rintro rfl; simp at hnl) bl rfl) (hcl n _ (by simp [hnl]))
      have hb1 : (0 : Int) ≤ n ∧ (n : Int) < L.length := by omega
      have hw1 : IntKind.i64.wrap ((n : Int) + 1) = ((n + 1 : Nat) : Int) := by rw [w64 (by omega) (by omega)]; omega
      have hx : Ext w0 wl := ChP.ext hch h0 (fun b hb => hb ▸ hs0)
      rw [List.drop_eq_getElem_cons hnl] at heq
      simp -dsimp -implicitDefEqProofs only [h11, h10, h9, h4, hb1, and_self, cn, okF_102, m61, sF61, Nat.reduceEqDiff, ↓reduceIte, Nat.reduceAdd, Nat.reduceMul, Value.cells, Value.oneCell', eq_self, ne_eq, Int.reduceToNat, Int.reduceEq, Int.reduceLT, Int.reduceLE, Int.reduceNeg, if_true, if_false, reduceCtorEq, Nat.reduceSub, storeV_ptr, slcV_slice, ↓mwD, mwU]
      refine (number_c hE hx hsl hszl).use ?_ ?_
      · rintro _ w2 ⟨x, ws2, hn2, rfl, hs2, hch2⟩
        simp -dsimp -implicitDefEqProofs only [h11, h10, h9, h4, m61, sF61, Nat.reduceEqDiff, ↓reduceIte, Nat.reduceAdd, Nat.reduceMul, Value.cells, Value.oneCell', eq_self, ne_eq, Int.reduceToNat, Int.reduceEq, Int.reduceLT, Int.reduceLE, Int.reduceNeg, if_true, if_false, reduceCtorEq, Nat.reduceSub, storeV_ptr, slcV_slice, ↓mwD, mwU]
        obtain ⟨wd, rfl, hnw⟩ := numP_some hn2
        refine iteW_dec (fun hxe => ?_) (fun hxe => ?_)
        · simp -dsimp -implicitDefEqProofs only [h11, h10, h9, h4, hw1, m61, sF61, Nat.reduceEqDiff, ↓reduceIte, Nat.reduceAdd, Nat.reduceMul, Value.cells, Value.oneCell', eq_self, ne_eq, Int.reduceToNat, Int.reduceEq, Int.reduceLT, Int.reduceLE, Int.reduceNeg, if_true, if_false, reduceCtorEq, Nat.reduceSub, storeV_ptr, slcV_slice, ↓mwD, mwU]
          refine ⟨⟨n + 1, by omega, rfl, ws2, ?_, hs2, hch.trans hch2, fun y hy => hszl y (List.mem_cons_of_mem _ hy)⟩, by simp only [intOf]; omega⟩
          rw [heq, sameP, if_pos (by rw [hnw, hxe])]
        · simp -dsimp -implicitDefEqProofs only [bv_wrong, panV_iface, m61, sF61, Nat.reduceEqDiff, ↓reduceIte, Nat.reduceAdd, Nat.reduceMul, Value.cells, Value.oneCell', eq_self, ne_eq, Int.reduceToNat, Int.reduceEq, Int.reduceLT, Int.reduceLE, Int.reduceNeg, if_true, if_false, reduceCtorEq, Nat.reduceSub, storeV_ptr, slcV_slice, ↓mwD, mwU]
          refine ⟨?_, rfl, hch.trans hch2⟩
          rw [heq, sameP, if_neg (by rw [hnw]; simpa using hxe)]
      · rintro ch w2 ⟨hn2, hwr, hch2⟩
        refine ⟨rfl, ?_, hwr, hch.trans hch2⟩
        rw [heq]
        exact sameP_none hn2 _ _
    · have hnl : n = L.length := by omega
      subst hnl
      rw [List.drop_length] at heq
      simp -dsimp -implicitDefEqProofs only [m61, sF61, Nat.reduceEqDiff, ↓reduceIte, Nat.reduceAdd, Nat.reduceMul, Value.cells, Value.oneCell', eq_self, ne_eq, Int.reduceToNat, Int.reduceEq, Int.reduceLT, Int.reduceLE, Int.reduceNeg, if_true, if_false, reduceCtorEq, Nat.reduceSub, storeV_ptr, slcV_slice, ↓mwD, mwU]
      exact ⟨ws', heq, hsl, hch⟩

/-- A sample is read. -/
theorem sample_c {w0 w : World} {sb : Nat} {ws : List ByteArray} (hE : EnvS w0) (h0 : Ext w0 w) (hs : ScAt w sb ws) (hsz : ∀ x ∈ ws, x.size ≤ 1000000000) :
    Ends Go.Proofs.Tryz.prog 103 #[.pointer (some ⟨sb, 0, none⟩)] w (fun r w' => ∃ x ws', smpP 1 ws = some ([x], ws') ∧ r = .int .i64 x ∧ ScAt w' sb ws' ∧ ChS sb w w' ∧ ∃ wd, ws = wd :: ws' ∧ numW wd = some x ∧ -8388607 ≤ x ∧ x ≤ 8388607)
      (fun ch w' => smpP 1 ws = none ∧ wrongP ch ∧ ChS sb w w') := by
  refine ex103 ?_
  simp -dsimp -implicitDefEqProofs only [m103, sF103, Nat.reduceEqDiff, ↓reduceIte, Nat.reduceAdd, Nat.reduceMul, Value.cells, Value.oneCell', eq_self, ne_eq, Int.reduceToNat, Int.reduceEq, Int.reduceLT, Int.reduceLE, Int.reduceNeg, if_true, if_false, reduceCtorEq, Nat.reduceSub, storeV_ptr, slcV_slice, ↓mwD, mwU]
  refine (number_c hE h0 hs hsz).use ?_ ?_
  · rintro _ w2 ⟨x, ws2, hn2, rfl, hs2, hch2⟩
    obtain ⟨wd, rfl, hnw⟩ := numP_some hn2
    simp -dsimp -implicitDefEqProofs only [m103, sF103, Nat.reduceEqDiff, ↓reduceIte, Nat.reduceAdd, Nat.reduceMul, Value.cells, Value.oneCell', eq_self, ne_eq, Int.reduceToNat, Int.reduceEq, Int.reduceLT, Int.reduceLE, Int.reduceNeg, if_true, if_false, reduceCtorEq, Nat.reduceSub, storeV_ptr, slcV_slice, ↓mwD, mwU]
    refine (within_c x (-8388607) 8388607 w2).use ?_
    rintro _ w3 ⟨rfl, rfl⟩
    have hone : smpP 1 (wd :: ws2) = if -8388607 ≤ x ∧ x ≤ 8388607 then some ([x], ws2) else none := by
      simp only [smpP, hnw, Option.bind_some, Option.map_some]
    cases hb : wtn x (-8388607) 8388607
    · simp -dsimp -implicitDefEqProofs only [hb, bv_wrong, panV_iface, m103, sF103, Nat.reduceEqDiff, ↓reduceIte, Nat.reduceAdd, Nat.reduceMul, Value.cells, Value.oneCell', eq_self, ne_eq, Int.reduceToNat, Int.reduceEq, Int.reduceLT, Int.reduceLE, Int.reduceNeg, if_true, if_false, reduceCtorEq, Nat.reduceSub, storeV_ptr, slcV_slice, ↓mwD, mwU]
      refine ⟨?_, rfl, hch2⟩
      rw [hone, if_neg]
      intro h
      simp [wtn, h] at hb
    · simp -dsimp -implicitDefEqProofs only [hb, m103, sF103, Nat.reduceEqDiff, ↓reduceIte, Nat.reduceAdd, Nat.reduceMul, Value.cells, Value.oneCell', eq_self, ne_eq, Int.reduceToNat, Int.reduceEq, Int.reduceLT, Int.reduceLE, Int.reduceNeg, if_true, if_false, reduceCtorEq, Nat.reduceSub, storeV_ptr, slcV_slice, ↓mwD, mwU]
      have hr : -8388607 ≤ x ∧ x ≤ 8388607 := by simpa [wtn] using hb
      exact ⟨x, ws2, by rw [hone, if_pos hr], rfl, hs2, hch2, wd, rfl, hnw, hr⟩
  · rintro ch w2 ⟨hn2, hwr, hch2⟩
    refine ⟨rfl, ?_, hwr, hch2⟩
    cases ws with
    | nil => rfl
    | cons wd ws =>
      simp only [numP, Option.map_eq_none_iff] at hn2
      simp [smpP, hn2]
/-- Nothing is left. -/
theorem end_c {w : World} {sb : Nat} {ws : List ByteArray} (hs : ScAt w sb ws) :
    Ends Go.Proofs.Tryz.prog 42 #[.pointer (some ⟨sb, 0, none⟩)] w (fun _ w' => ws = [] ∧ w' = w) (fun ch w' => ws ≠ [] ∧ wrongP ch ∧ w' = w) := by
  obtain ⟨v, hb, hS, hv⟩ := hs
  have c0 := hb.get (o := 0) rfl
  obtain ⟨p, cap, rfl, _, _⟩ := hS.shape
  refine ex42 ?_
  simp -dsimp -implicitDefEqProofs only [c0, m42, sF42, Nat.reduceEqDiff, ↓reduceIte, Nat.reduceAdd, Nat.reduceMul, Value.cells, Value.oneCell', eq_self, ne_eq, Int.reduceToNat, Int.reduceEq, Int.reduceLT, Int.reduceLE, Int.reduceNeg, if_true, if_false, reduceCtorEq, Nat.reduceSub, storeV_ptr, slcV_slice, ↓mwD, mwU]
  refine iteW_dec (fun h => ?_) (fun h => ?_)
  · simp -dsimp -implicitDefEqProofs only [bv_wrong, panV_iface, m42, sF42, Nat.reduceEqDiff, ↓reduceIte, Nat.reduceAdd, Nat.reduceMul, Value.cells, Value.oneCell', eq_self, ne_eq, Int.reduceToNat, Int.reduceEq, Int.reduceLT, Int.reduceLE, Int.reduceNeg, if_true, if_false, reduceCtorEq, Nat.reduceSub, storeV_ptr, slcV_slice, ↓mwD, mwU]
    refine ⟨?_, rfl⟩
    rintro rfl
    simp at h
  · simp -dsimp -implicitDefEqProofs only [m42, sF42, Nat.reduceEqDiff, ↓reduceIte, Nat.reduceAdd, Nat.reduceMul, Value.cells, Value.oneCell', eq_self, ne_eq, Int.reduceToNat, Int.reduceEq, Int.reduceLT, Int.reduceLE, Int.reduceNeg, if_true, if_false, reduceCtorEq, Nat.reduceSub, storeV_ptr, slcV_slice, ↓mwD, mwU]
    cases ws with
    | nil => rfl
    | cons x ws => simp at h
theorem smpP_step {n : Nat} {wd : ByteArray} {ws : List ByteArray} {x : Int} (hnw : numW wd = some x) (hr : -8388607 ≤ x ∧ x ≤ 8388607) : smpP (n + 1) (wd :: ws) = (smpP n ws).map fun p => (x :: p.1, p.2) := by
  simp only [smpP, hnw, Option.bind_some]
  rw [if_pos hr]
theorem smpP_stop {n : Nat} {ws : List ByteArray} (h : smpP 1 ws = none) : smpP (n + 1) ws = none := by
  cases ws with
  | nil => rfl
  | cons wd ws =>
    cases hw : numW wd with
    | none => simp [smpP, hw]
    | some x =>
      simp only [smpP, hw, Option.bind_some] at h ⊢
      split at h
      · simp at h
      · rename_i hx; rw [if_neg hx]
theorem bs_int1 (x : Int) : buildS Go.Proofs.Tryz.prog 22 1 [(0, .int .i64 x)] = some (3, #[.int .i64 x]) := by kernel_rfl
theorem sameP_mem (l : List Int) : ∀ (ws ws' : List ByteArray), sameP l ws = some ws' → ∀ x ∈ ws', x ∈ ws := by
  induction l with
  | nil => intro ws ws' h x hx; simp [sameP] at h; subst h; exact hx
  | cons n l ih =>
    intro ws ws' h x hx
    cases ws with
    | nil => simp [sameP] at h
    | cons wd ws =>
      simp only [sameP] at h
      split at h
      · exact List.mem_cons_of_mem _ (ih ws ws' h x hx)
      · cases h
/-- So many samples are read. -/
theorem list_c {w0 w : World} {sb n : Nat} {ws : List ByteArray} (hE : EnvS w0) (h0 : Ext w0 w) (hs0 : w0.heap.size ≤ sb) (hs : ScAt w sb ws) (hsz : ∀ x ∈ ws, x.size ≤ 1000000000) (hn : n ≤ 4097) :
    Ends Go.Proofs.Tryz.prog 62 #[.pointer (some ⟨sb, 0, none⟩), .int .i64 n] w (fun r w' => ∃ l ws', listP n ws = some (l, ws') ∧ SlI w' r l ∧ (∀ q, r.ownBlock = some q → w.heap.size ≤ q) ∧ ScAt w' sb ws' ∧ ChS sb w w' ∧ ∀ x ∈ ws', x.size ≤ 1000000000)
      (fun ch w' => listP n ws = none ∧ wrongP ch ∧ ChS sb w w') := by
  have hsb : sb < w.heap.size := by obtain ⟨_, hb, _⟩ := hs; exact hb.lt
  have hsub := sameP_mem
  refine ex62 ?_
  simp -dsimp -implicitDefEqProofs only [bs_int1, m62, sF62, Nat.reduceEqDiff, ↓reduceIte, Nat.reduceAdd, Nat.reduceMul, Value.cells, Value.oneCell', eq_self, ne_eq, Int.reduceToNat, Int.reduceEq, Int.reduceLT, Int.reduceLE, Int.reduceNeg, if_true, if_false, reduceCtorEq, Nat.reduceSub, storeV_ptr, slcV_slice, ↓mwD, mwU]
  refine (same_c (L := [(n : Int)]) hE (h0.alloc' _) hs0 (by obtain ⟨v, hb, hS, hv⟩ := hs; exact ⟨v, hb.ext (Ext.alloc _ _), hS.ext (Ext.alloc _ _), hv⟩) hsz (sl_one w n) (fun _ q hq => by simp [Value.ownBlock] at hq; omega) (by simp)).use ?_ ?_
  · rintro _ w1 ⟨ws1, hp1, hs1, hch1⟩
    have hch : ChS sb w w1 := (Ext.chp (Ext.alloc _ _)).trans hch1
    have hsz1 : ∀ x ∈ ws1, x.size ≤ 1000000000 := fun x hx => hsz x (hsub _ _ _ hp1 x hx)
    have hlp : listP n ws = smpP n ws1 := by unfold listP; rw [hp1]; rfl
    rw [hlp]
    simp -dsimp -implicitDefEqProofs only [m62, sF62, Nat.reduceEqDiff, ↓reduceIte, Nat.reduceAdd, Nat.reduceMul, Value.cells, Value.oneCell', eq_self, ne_eq, Int.reduceToNat, Int.reduceEq, Int.reduceLT, Int.reduceLE, Int.reduceNeg, if_true, if_false, reduceCtorEq, Nat.reduceSub, storeV_ptr, slcV_slice, ↓mwD, mwU]
    refine mwpB_loop (fun e ds wl => ∃ m : Nat, m ≤ n ∧ e 11 = .int .i64 m ∧ e 10 = .int .i64 n ∧ e 0 = .pointer (some ⟨sb, 0, none⟩) ∧ ds = [] ∧
      ∃ l1 ws', l1.length = m ∧ wl.ownsRow w.heap.size 3 1 (e 5) m (ints l1) ∧ smpP n ws1 = ((smpP (n - m) ws').map fun p => (l1 ++ p.1, p.2)) ∧ ScAt wl sb ws' ∧ ChS sb w wl ∧ ∀ x ∈ ws', x.size ≤ 1000000000) (fun e _ => n - (intOf (e 11)).toNat) ?_ ?_
    · simp -dsimp -implicitDefEqProofs only [m62, sF62, Nat.reduceEqDiff, ↓reduceIte, Nat.reduceAdd, Nat.reduceMul, Value.cells, Value.oneCell', eq_self, ne_eq, Int.reduceToNat, Int.reduceEq, Int.reduceLT, Int.reduceLE, Int.reduceNeg, if_true, if_false, reduceCtorEq, Nat.reduceSub, storeV_ptr, slcV_slice, ↓mwD, mwU]
      exact ⟨0, by omega, rfl, [], ws1, rfl, World.ownsRow_nil _ _ _ _, by simp, hs1, hch, hsz1⟩
    · rintro e ds wl ⟨m, hm, h11, h10, h00, rfl, l1, ws', hl1, hown, heq, hsl, hchl, hszl⟩
      simp -dsimp -implicitDefEqProofs only [h11, h10, h00, m62, sF62, Nat.reduceEqDiff, ↓reduceIte, Nat.reduceAdd, Nat.reduceMul, Value.cells, Value.oneCell', eq_self, ne_eq, Int.reduceToNat, Int.reduceEq, Int.reduceLT, Int.reduceLE, Int.reduceNeg, if_true, if_false, reduceCtorEq, Nat.reduceSub, storeV_ptr, slcV_slice, ↓mwD, mwU]
      refine iteW_dec (fun hlt => ?_) (fun hge => ?_)
      · have hmn : m < n := by omega
        obtain ⟨k, hk⟩ : ∃ k, n - m = k + 1 := ⟨n - m - 1, by omega⟩
        have hw1 : IntKind.i64.wrap ((m : Int) + 1) = ((m + 1 : Nat) : Int) := by rw [w64 (by omega) (by omega)]; omega
        have hx : Ext w0 wl := ChP.ext hchl h0 (fun b hb => hb ▸ hs0)
        rw [hk] at heq
        simp -dsimp -implicitDefEqProofs only [h11, h10, h00, m62, sF62, Nat.reduceEqDiff, ↓reduceIte, Nat.reduceAdd, Nat.reduceMul, Value.cells, Value.oneCell', eq_self, ne_eq, Int.reduceToNat, Int.reduceEq, Int.reduceLT, Int.reduceLE, Int.reduceNeg, if_true, if_false, reduceCtorEq, Nat.reduceSub, storeV_ptr, slcV_slice, ↓mwD, mwU]
        refine (sample_c hE hx hsl hszl).use ?_ ?_
        · rintro _ w2 ⟨x, ws2, hn2, rfl, hs2, hch2, wd, rfl, hnw, hxr⟩
          have hown2 : w2.ownsRow w.heap.size 3 1 (e 5) m (ints l1) := Own.same hown fun q hq hql => hch2.block q hql (fun e => by omega)
          have hsz2 : w.heap.size ≤ w2.heap.size := by have := hchl.size; have := hch2.size; omega
          simp -dsimp -implicitDefEqProofs only [h11, h10, h00, bs_int1, m62, sF62, Nat.reduceEqDiff, ↓reduceIte, Nat.reduceAdd, Nat.reduceMul, Value.cells, Value.oneCell', eq_self, ne_eq, Int.reduceToNat, Int.reduceEq, Int.reduceLT, Int.reduceLE, Int.reduceNeg, if_true, if_false, reduceCtorEq, Nat.reduceSub, storeV_ptr, slcV_slice, ↓mwD, mwU]
          obtain ⟨v2, w3, ha2, hown3, hg2⟩ := append_int hown2 x (by omega) hsz2
          refine appB.mk ha2 ?_
          simp -dsimp -implicitDefEqProofs only [h11, h10, h00, hw1, m62, sF62, Nat.reduceEqDiff, ↓reduceIte, Nat.reduceAdd, Nat.reduceMul, Value.cells, Value.oneCell', eq_self, ne_eq, Int.reduceToNat, Int.reduceEq, Int.reduceLT, Int.reduceLE, Int.reduceNeg, if_true, if_false, reduceCtorEq, Nat.reduceSub, storeV_ptr, slcV_slice, ↓mwD, mwU]
          have hge2 := Own.ge hown2
          have hwl := hchl.size
          have hwl2 := hch2.size
          refine ⟨⟨m + 1, by omega, rfl, l1 ++ [x], ws2, by simp [hl1], hown3, ?_, hs2.same ?_, ?_, fun y hy => hszl y (List.mem_cons_of_mem _ hy)⟩, by simp only [intOf]; omega⟩
          · rw [heq, smpP_step hnw hxr, Option.map_map, show n - (m + 1) = k by omega]
            cases smpP k ws2 with
            | none => rfl
            | some p => simp only [Option.map_some, Function.comp, List.append_assoc, List.singleton_append]
          · intro q hq
            rw [hg2.block q (by simp; omega) (fun e => by have := hge2 q e.symm; omega)]
            exact Below.heap_alloc _ _ _ (by omega)
          · exact ChP.grown' ((hchl.trans hch2).trans (Ext.chp (Ext.alloc _ _))) hg2 (fun k hk hkw => by have := hge2 k hk; omega)
        · rintro ch w2 ⟨hn2, hwr, hch2⟩
          refine ⟨rfl, ?_, hwr, hchl.trans hch2⟩
          rw [heq, smpP_stop hn2]; rfl
      · have hmn : m = n := by omega
        subst hmn
        simp -dsimp -implicitDefEqProofs only [m62, sF62, Nat.reduceEqDiff, ↓reduceIte, Nat.reduceAdd, Nat.reduceMul, Value.cells, Value.oneCell', eq_self, ne_eq, Int.reduceToNat, Int.reduceEq, Int.reduceLT, Int.reduceLE, Int.reduceNeg, if_true, if_false, reduceCtorEq, Nat.reduceSub, storeV_ptr, slcV_slice, ↓mwD, mwU]
        refine ⟨l1, ws', ?_, ow_sl hown, Own.ge hown, hsl, hchl, hszl⟩
        rw [heq, Nat.sub_self]
        show (Option.map (fun p => (l1 ++ p.1, p.2)) (some (([] : List Int), ws'))) = _
        rw [Option.map_some, List.append_nil]
  · rintro ch w2 ⟨hn2, hwr, hch2⟩
    refine ⟨rfl, ?_, hwr, (Ext.chp (Ext.alloc _ _)).trans hch2⟩
    unfold listP
    rw [hn2]; rfl
/-- A unit's numbers are read. -/
theorem scUnit_c {w0 w : World} {sb : Nat} {ws : List ByteArray} {u : Value} {F : List Nat} {s : US} {k : Int} {A T : List Int} (hE : EnvS w0) (h0 : Ext w0 w) (hs0 : w0.heap.size ≤ sb) (hs : ScAt w sb ws) (hsz : ∀ x ∈ ws, x.size ≤ 1000000000)
    (hu : UnitAt w0 u F s k A T) (hl : lenU s ≤ 4097) (lA : A.length ≤ 512) (lT : T.length ≤ 512) :
    Ends Go.Proofs.Tryz.prog 41 #[.pointer (some ⟨sb, 0, none⟩), u] w (fun r w' => ∃ l ws', unitP k A T (lenU s) ws = some (l, ws') ∧ SlI w' r l ∧ (∀ q, r.ownBlock = some q → w.heap.size ≤ q) ∧ ScAt w' sb ws' ∧ ChS sb w w' ∧ ∀ x ∈ ws', x.size ≤ 1000000000)
      (fun ch w' => unitP k A T (lenU s) ws = none ∧ wrongP ch ∧ ChS sb w w') := by
  have hsb : sb < w.heap.size := by obtain ⟨_, hb, _⟩ := hs; exact hb.lt
  have hu0 := hu
  obtain ⟨b, cs, wk, a, t, rfl, hb, hbF, g0, g1, g2, g3, hwk, ha, ht, da, dt⟩ := hu
  obtain ⟨pa, ca, rfl, _, _⟩ := ha.shape
  obtain ⟨pt, ct, rfl, _, _⟩ := ht.shape
  have c0 := hb.get g0
  have c1 := hb.get g1
  have c2 := hb.get g2
  have c3 := hb.get g3
  have hA0 : ∀ q, (Value.slice pa A.length ca).ownBlock = some q → A ≠ [] → q ≠ sb := fun q hq hne => by
    have := Sl.block ha (by simpa [ints] using hne) q hq
    omega
  refine ex41 ?_
  have d1 := h0.cell c1
  have d2 := h0.cell c2
  have d3 := h0.cell c3
  simp -dsimp -implicitDefEqProofs only [m41, sF41, Nat.reduceEqDiff, ↓reduceIte, Nat.reduceAdd, Nat.reduceMul, Value.cells, Value.oneCell', eq_self, ne_eq, Int.reduceToNat, Int.reduceEq, Int.reduceLT, Int.reduceLE, Int.reduceNeg, if_true, if_false, reduceCtorEq, Nat.reduceSub, storeV_ptr, slcV_slice, ↓mwD, mwU]
  have hbsb : b < sb := by have := hb.lt; omega
  have hm : ∀ (l : List Int) (ws ws' : List ByteArray), sameP l ws = some ws' → ∀ x ∈ ws', x ∈ ws := sameP_mem
  refine mwpB_draw (fun w' => w'.cell? ⟨b, 1, none⟩ = some (.int .i64 k) ∧ w'.cell? ⟨b, 2, none⟩ = some (.slice pa A.length ca) ∧ w'.cell? ⟨b, 3, none⟩ = some (.slice pt T.length ct)) ⟨d1, d2, d3⟩ ?_
  simp -dsimp -implicitDefEqProofs only [m41, sF41, Nat.reduceEqDiff, ↓reduceIte, Nat.reduceAdd, Nat.reduceMul, Value.cells, Value.oneCell', eq_self, ne_eq, Int.reduceToNat, Int.reduceEq, Int.reduceLT, Int.reduceLE, Int.reduceNeg, if_true, if_false, reduceCtorEq, Nat.reduceSub, storeV_ptr, slcV_slice, ↓mwD, mwU]
  refine softB_load (v := .int .i64 k) (fun w' hw => ?_) ?_
  · simp -dsimp -implicitDefEqProofs only [hw.1, m41, sF41, Nat.reduceEqDiff, ↓reduceIte, Nat.reduceAdd, Nat.reduceMul, Value.cells, Value.oneCell', eq_self, ne_eq, Int.reduceToNat, Int.reduceEq, Int.reduceLT, Int.reduceLE, Int.reduceNeg, if_true, if_false, reduceCtorEq, Nat.reduceSub, storeV_ptr, slcV_slice, ↓mwD, mwU]
  simp -dsimp -implicitDefEqProofs only [m41, sF41, Nat.reduceEqDiff, ↓reduceIte, Nat.reduceAdd, Nat.reduceMul, Value.cells, Value.oneCell', eq_self, ne_eq, Int.reduceToNat, Int.reduceEq, Int.reduceLT, Int.reduceLE, Int.reduceNeg, if_true, if_false, reduceCtorEq, Nat.reduceSub, storeV_ptr, slcV_slice, ↓mwD, mwU]
  refine softB_load (v := .slice pa A.length ca) (fun w' hw => ?_) ?_
  · simp -dsimp -implicitDefEqProofs only [hw.2.1, m41, sF41, Nat.reduceEqDiff, ↓reduceIte, Nat.reduceAdd, Nat.reduceMul, Value.cells, Value.oneCell', eq_self, ne_eq, Int.reduceToNat, Int.reduceEq, Int.reduceLT, Int.reduceLE, Int.reduceNeg, if_true, if_false, reduceCtorEq, Nat.reduceSub, storeV_ptr, slcV_slice, ↓mwD, mwU]
  simp -dsimp -implicitDefEqProofs only [m41, sF41, Nat.reduceEqDiff, ↓reduceIte, Nat.reduceAdd, Nat.reduceMul, Value.cells, Value.oneCell', eq_self, ne_eq, Int.reduceToNat, Int.reduceEq, Int.reduceLT, Int.reduceLE, Int.reduceNeg, if_true, if_false, reduceCtorEq, Nat.reduceSub, storeV_ptr, slcV_slice, ↓mwD, mwU]
  refine softB_load (v := .slice pt T.length ct) (fun w' hw => ?_) ?_
  · simp -dsimp -implicitDefEqProofs only [hw.2.2, m41, sF41, Nat.reduceEqDiff, ↓reduceIte, Nat.reduceAdd, Nat.reduceMul, Value.cells, Value.oneCell', eq_self, ne_eq, Int.reduceToNat, Int.reduceEq, Int.reduceLT, Int.reduceLE, Int.reduceNeg, if_true, if_false, reduceCtorEq, Nat.reduceSub, storeV_ptr, slcV_slice, ↓mwD, mwU]
  simp -dsimp -implicitDefEqProofs only [bs_three, m41, sF41, Nat.reduceEqDiff, ↓reduceIte, Nat.reduceAdd, Nat.reduceMul, Value.cells, Value.oneCell', eq_self, ne_eq, Int.reduceToNat, Int.reduceEq, Int.reduceLT, Int.reduceLE, Int.reduceNeg, if_true, if_false, reduceCtorEq, Nat.reduceSub, storeV_ptr, slcV_slice, ↓mwD, mwU]
  generalize hW : World.alloc _ _ = W
  have hxW : Ext w W := by rw [← hW]; exact (Ext.drew _).alloc' _
  have hlW : SlI W (.slice (some ⟨w.drew.heap.size, 0, none⟩) 3 3) [k, A.length, T.length] := by
    rw [← hW]; exact .inr ⟨_, 0, 3, rfl, Nat.le_refl _, by unfold maxLen; omega, row_new w.drew [.int .i64 k, .int .i64 A.length, .int .i64 T.length] _⟩
  refine ⟨⟨hxW.cell d1, hxW.cell d2, hxW.cell d3⟩, ?_⟩
  have hsW : ScAt W sb ws := hs.same (fun q hq => hxW.block q (by omega))
  refine (same_c (L := [k, (A.length : Int), (T.length : Int)]) hE (h0.trans hxW) hs0 hsW hsz hlW (fun _ q hq => by simp [Value.ownBlock] at hq; omega) (by simp)).use ?_ ?_
  · rintro _ w1 ⟨ws1, hp1, hs1, hch1⟩
    have hc1 : ChS sb w w1 := hxW.chp.trans hch1
    have hx1 : Ext w0 w1 := ChP.ext hc1 h0 (fun b hb => hb ▸ hs0)
    have hsz1 : ∀ x ∈ ws1, x.size ≤ 1000000000 := fun x hx => hsz x (hm _ _ _ hp1 x hx)
    refine ⟨⟨hx1.cell c1, hx1.cell c2, hx1.cell c3⟩, ?_⟩
    simp -dsimp -implicitDefEqProofs only [hx1.cell c2, m41, sF41, Nat.reduceEqDiff, ↓reduceIte, Nat.reduceAdd, Nat.reduceMul, Value.cells, Value.oneCell', eq_self, ne_eq, Int.reduceToNat, Int.reduceEq, Int.reduceLT, Int.reduceLE, Int.reduceNeg, if_true, if_false, reduceCtorEq, Nat.reduceSub, storeV_ptr, slcV_slice, ↓mwD, mwU]
    refine (same_c (L := A) hE hx1 hs0 hs1 hsz1 (ha.ext hx1) (fun hne q hq => by have := Sl.block ha (by simpa [ints] using hne) q hq; omega) (by omega)).use ?_ ?_
    · rintro _ w2 ⟨ws2, hp2, hs2, hch2⟩
      have hc2 : ChS sb w w2 := hc1.trans hch2
      have hx2 : Ext w0 w2 := ChP.ext hc2 h0 (fun b hb => hb ▸ hs0)
      have hsz2 : ∀ x ∈ ws2, x.size ≤ 1000000000 := fun x hx => hsz1 x (hm _ _ _ hp2 x hx)
      simp -dsimp -implicitDefEqProofs only [hx2.cell c3, m41, sF41, Nat.reduceEqDiff, ↓reduceIte, Nat.reduceAdd, Nat.reduceMul, Value.cells, Value.oneCell', eq_self, ne_eq, Int.reduceToNat, Int.reduceEq, Int.reduceLT, Int.reduceLE, Int.reduceNeg, if_true, if_false, reduceCtorEq, Nat.reduceSub, storeV_ptr, slcV_slice, ↓mwD, mwU]
      refine (same_c (L := T) hE hx2 hs0 hs2 hsz2 (ht.ext hx2) (fun hne q hq => by have := Sl.block ht (by simpa [ints] using hne) q hq; omega) (by omega)).use ?_ ?_
      · rintro _ w3 ⟨ws3, hp3, hs3, hch3⟩
        have hc3 : ChS sb w w3 := hc2.trans hch3
        have hx3 : Ext w0 w3 := ChP.ext hc3 h0 (fun b hb => hb ▸ hs0)
        have hsz3 : ∀ x ∈ ws3, x.size ≤ 1000000000 := fun x hx => hsz2 x (hm _ _ _ hp3 x hx)
        obtain ⟨ti, pv, f, rfl, hme, hof, hst⟩ := state_any (hwk.ext hx3) hl
        simp -dsimp -implicitDefEqProofs only [hx3.cell c0, hme, hof, m41, sF41, Nat.reduceEqDiff, ↓reduceIte, Nat.reduceAdd, Nat.reduceMul, Value.cells, Value.oneCell', eq_self, ne_eq, Int.reduceToNat, Int.reduceEq, Int.reduceLT, Int.reduceLE, Int.reduceNeg, if_true, if_false, reduceCtorEq, Nat.reduceSub, storeV_ptr, slcV_slice, ↓mwD, mwU]
        refine hst.use ?_
        rintro r w4 ⟨hr, hx4, hfr⟩
        obtain ⟨pr, cr, rfl, _, _⟩ := hr.shape
        simp -dsimp -implicitDefEqProofs only [m41, sF41, Nat.reduceEqDiff, ↓reduceIte, Nat.reduceAdd, Nat.reduceMul, Value.cells, Value.oneCell', eq_self, ne_eq, Int.reduceToNat, Int.reduceEq, Int.reduceLT, Int.reduceLE, Int.reduceNeg, if_true, if_false, reduceCtorEq, Nat.reduceSub, storeV_ptr, slcV_slice, ↓mwD, mwU]
        refine (list_c (n := (numsU s).length) hE (hx3.trans hx4) hs0 (hs3.same fun q hq => hx4.block q (by have := hc3.size; omega)) hsz3 hl).use ?_ ?_
        · rintro r w5 ⟨l, ws5, hp5, hl5, hf5, hs5, hch5, hsz5⟩
          obtain ⟨pl, cl, rfl, _, _⟩ := hl5.shape
          simp -dsimp -implicitDefEqProofs only [m41, sF41, Nat.reduceEqDiff, ↓reduceIte, Nat.reduceAdd, Nat.reduceMul, Value.cells, Value.oneCell', eq_self, ne_eq, Int.reduceToNat, Int.reduceEq, Int.reduceLT, Int.reduceLE, Int.reduceNeg, if_true, if_false, reduceCtorEq, Nat.reduceSub, storeV_ptr, slcV_slice, ↓mwD, mwU]
          refine ⟨l, ws5, ?_, hl5, fun q hq => ?_, hs5, (hc3.trans hx4.chp).trans hch5, hsz5⟩
          · unfold unitP
            rw [hp1, Option.bind_some, hp2, Option.bind_some, hp3, Option.bind_some]
            exact hp5
          · have := hf5 q hq
            have := hc3.size
            have := hx4.le
            omega
        · rintro ch w5 ⟨hp5, hwr, hch5⟩
          refine ⟨rfl, ?_, hwr, (hc3.trans hx4.chp).trans hch5⟩
          unfold unitP
          rw [hp1, Option.bind_some, hp2, Option.bind_some, hp3, Option.bind_some]
          exact hp5
      · rintro ch w3 ⟨hp3, hwr, hch3⟩
        refine ⟨rfl, ?_, hwr, hc2.trans hch3⟩
        unfold unitP
        rw [hp1, Option.bind_some, hp2, Option.bind_some, hp3]
        rfl
    · rintro ch w2 ⟨hp2, hwr, hch2⟩
      refine ⟨rfl, ?_, hwr, hc1.trans hch2⟩
      unfold unitP
      rw [hp1, Option.bind_some, hp2]
      rfl
  · rintro ch w1 ⟨hp1, hwr, hch1⟩
    intro _
    refine ⟨rfl, ?_, hwr, hxW.chp.trans hch1⟩
    unfold unitP
    rw [hp1]
    rfl
theorem split_c {s : ByteArray} {w : World} (hs : s.size ≤ 1000000000) (hE : EnvS w) : Rets Go.Proofs.Tryz.prog 40 #[.string s] w fun r w' =>
    SlS w' r (splitW s) ∧ Ext w w' ∧ ∀ q, r.ownBlock = some q → w.heap.size ≤ q := by
  refine en40 ?_
  simp -dsimp -implicitDefEqProofs only [m40, sF40, Nat.reduceEqDiff, ↓reduceIte, Nat.reduceAdd, Nat.reduceMul, Value.cells, Value.oneCell', eq_self, ne_eq, Int.reduceToNat, Int.reduceEq, Int.reduceLT, Int.reduceLE, Int.reduceNeg, if_true, if_false, reduceCtorEq, Nat.reduceSub, storeV_ptr, slcV_slice, ↓mwD, mwU]
  refine (Split_c hs hE).use ?_
  rintro r w1 h
  obtain ⟨p, cap, rfl, _, _⟩ := h.1.shape
  simp -dsimp -implicitDefEqProofs only [m40, sF40, Nat.reduceEqDiff, ↓reduceIte, Nat.reduceAdd, Nat.reduceMul, Value.cells, Value.oneCell', eq_self, ne_eq, Int.reduceToNat, Int.reduceEq, Int.reduceLT, Int.reduceLE, Int.reduceNeg, if_true, if_false, reduceCtorEq, Nat.reduceSub, storeV_ptr, slcV_slice, ↓mwD, mwU]
  exact h
end Go.Proofs.YtefcfnmmpnjjjaaGreatDoor

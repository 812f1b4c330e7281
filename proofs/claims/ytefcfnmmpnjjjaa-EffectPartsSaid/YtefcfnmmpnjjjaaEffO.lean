/- Hosts: how much later, what is asked ahead. -/
import Derived.Test.YtefcfnmmpnjjjaaEffN
namespace Go.Proofs.Ytefcfnmmpnjjjaa
open Go.RowKit
set_option linter.unusedSimpArgs false

theorem UnitIn.facts {w : World} {v : Value} {G : Nat → Prop} {x : UX} (h : UnitIn w v G x) : ∃ b a t, v = .pointer (some ⟨b, 0, none⟩) ∧ w.cell? ⟨b, 1, none⟩ = some (.int .i64 x.k) ∧ w.cell? ⟨b, 2, none⟩ = some a ∧ w.cell? ⟨b, 3, none⟩ = some t ∧ SlI w a x.A ∧ SlI w t x.T := by
  obtain ⟨F, b, cs, wk, a, t, rfl, hb, hbF, h0, h1, h2, h3, hwk, ha, ht, _⟩ := h
  exact ⟨b, a, t, rfl, hb.get h1, hb.get h2, hb.get h3, ha, ht⟩

theorem UnitIn.ext {w w' : World} {v : Value} {G : Nat → Prop} {x : UX} (h : UnitIn w v G x) (he : Ext w w') : UnitIn w' v G x := by
  obtain ⟨F, b, cs, wk, a, t, rfl, hb, hbF, h0, h1, h2, h3, hwk, ha, ht, r⟩ := h
  exact ⟨F, b, cs, wk, a, t, rfl, hb.ext he, hbF, h0, h1, h2, h3, hwk.ext he, ha.ext he, ht.ext he, r⟩
theorem LaneIn.ext {w w' : World} {v : Value} {G : Nat → Prop} {x : LX} (h : LaneIn w v G x) (he : Ext w w') : LaneIn w' v G x := by
  obtain ⟨b, r, cs, up, vs, Gf, rfl, hh, hu, hup, ho, rest⟩ := h
  exact ⟨b, r, cs, up, vs, Gf, rfl, hh.ext he, hu, hup.ext he, ⟨ho.1, fun i v s hv hs => (ho.2.1 i v s hv hs).ext he, ho.2.2⟩, rest⟩
theorem HostIn.ext {w w' : World} {v : Value} {G : Nat → Prop} {ls : List LX} {eq : Bool} (h : HostIn w v G ls eq) (he : Ext w w') : HostIn w' v G ls eq := by
  obtain ⟨b, lp, vs, Gf, rfl, hb, hlp, ho, rest⟩ := h
  exact ⟨b, lp, vs, Gf, rfl, hb.ext he, hlp.ext he, ⟨ho.1, fun i v s hv hs => (ho.2.1 i v s hv hs).ext he, ho.2.2⟩, rest⟩

def UX.valid (x : UX) : Prop := VShape x.k x.A x.T
theorem latI_bd {k : Int} {A T : List Int} (h : VShape k A T) : 0 ≤ latI k A ∧ latI k A ≤ 4096 := by
  cases h <;> simp [latI] <;> omega
theorem latI_ok {k : Int} {A T : List Int} (h : VShape k A T) : (k = 2 → 0 < A.length) ∧ (k = 7 → 4 < A.length) := by
  cases h <;> simp

def latL : List UX → Int
  | [] => 0
  | x :: us => latI x.k x.A + latL us
theorem latL_snoc : ∀ (us : List UX) (x : UX), latL (us ++ [x]) = latL us + latI x.k x.A
  | [], x => by simp [latL]
  | z :: us, x => by simp [latL, latL_snoc us, Int.add_assoc]
theorem latL_bd : ∀ (us : List UX), (∀ x ∈ us, x.valid) → 0 ≤ latL us ∧ latL us ≤ us.length * 4096
  | [], _ => by simp [latL]
  | z :: us, h => by
    have h1 := latI_bd (h z (by simp))
    have h2 := latL_bd us (fun x hx => h x (by simp [hx]))
    simp only [latL, List.length_cons]
    omega

theorem laneLatency_c {w : World} {v : Value} {G : Nat → Prop} {x : LX} (h : LaneIn w v G x) (hv : ∀ u ∈ x.us, u.valid) (h8 : x.us.length ≤ 8) :
    Rets Go.Proofs.Try.prog 54 #[v] w fun r w' => r = .int .i64 (latL x.us) ∧ Ext w w' := by
  obtain ⟨b, r, cs, up, vs, Gf, rfl, hh, hu, hup, ho, d1, d2, gb, gr, gG⟩ := h
  have hb := hh.bk
  have c2 := hb.get hu
  obtain ⟨p, cp, rfl, hp1, hp2⟩ := hup.shape
  have hl := ho.1
  refine en54 ?_
  simp -dsimp -implicitDefEqProofs only [c2, m54, sF54, Nat.reduceEqDiff, ↓reduceIte, Nat.reduceAdd, Nat.reduceMul, Value.cells, Value.oneCell', eq_self, ne_eq, Int.reduceToNat, Int.reduceEq, Int.reduceLT, Int.reduceLE, Int.reduceNeg, if_true, if_false, reduceCtorEq, Nat.reduceSub, storeV_ptr, slcV_slice, ↓mwD, mwU]
  refine mwpB_loop (fun e ds wl => ∃ n : Nat, n ≤ vs.length ∧ e 11 = .int .i64 n ∧ e 10 = .int .i64 vs.length ∧ e 9 = .slice p vs.length cp ∧ e 3 = .int .i64 (latL (x.us.take n)) ∧ ds = [] ∧ Ext w wl) (fun e _ => vs.length - (intOf (e 11)).toNat) ?_ ?_
  · simp -dsimp -implicitDefEqProofs only [m54, sF54, Nat.reduceEqDiff, ↓reduceIte, Nat.reduceAdd, Nat.reduceMul, Value.cells, Value.oneCell', eq_self, ne_eq, Int.reduceToNat, Int.reduceEq, Int.reduceLT, Int.reduceLE, Int.reduceNeg, if_true, if_false, reduceCtorEq, Nat.reduceSub, storeV_ptr, slcV_slice, ↓mwD, mwU]
    exact ⟨0, by omega, rfl, by simp [latL], Ext.refl _⟩
  · rintro e ds wl ⟨n, hn, h11, h10, h9, h3, rfl, he⟩
    simp -dsimp -implicitDefEqProofs only [h11, h10, h9, h3, m54, sF54, Nat.reduceEqDiff, ↓reduceIte, Nat.reduceAdd, Nat.reduceMul, Value.cells, Value.oneCell', eq_self, ne_eq, Int.reduceToNat, Int.reduceEq, Int.reduceLT, Int.reduceLE, Int.reduceNeg, if_true, if_false, reduceCtorEq, Nat.reduceSub, storeV_ptr, slcV_slice, ↓mwD, mwU]
    refine iteW_dec (fun hlt => ?_) (fun hge => ?_)
    · have hnl : n < vs.length := by omega
      have hnl' : n < x.us.length := by omega
      obtain ⟨bv, ov, cv, hpe, hcv⟩ := Sl.get hup (i := n) (u := vs[n]) (by simp [hnl])
      simp only [Value.slice.injEq, true_and] at hpe
      obtain ⟨rfl, rfl⟩ := hpe
      obtain ⟨bu, a, t, hve, k1, k2, k3, hA, hT⟩ := (ho.2.1 n vs[n] x.us[n] (by simp [hnl]) (by simp [hnl'])).facts
      rw [hve] at hcv
      have hcv' := he.cell hcv
      have q1 := he.cell k1
      have q2 := he.cell k2
      have q3 := he.cell k3
      obtain ⟨pt, ct, rfl, _, _⟩ := hT.shape
      have hval := hv x.us[n] (by simp)
      have hb1 : (0 : Int) ≤ n ∧ (n : Int) < vs.length := by omega
      have hw1 : IntKind.i64.wrap ((n : Int) + 1) = ((n + 1 : Nat) : Int) := by rw [w64 (by omega) (by omega)]; omega
      simp -dsimp -implicitDefEqProofs only [h11, h10, h9, h3, hb1, and_self, hcv', q1, q2, q3, m54, sF54, Nat.reduceEqDiff, ↓reduceIte, Nat.reduceAdd, Nat.reduceMul, Value.cells, Value.oneCell', eq_self, ne_eq, Int.reduceToNat, Int.reduceEq, Int.reduceLT, Int.reduceLE, Int.reduceNeg, if_true, if_false, reduceCtorEq, Nat.reduceSub, storeV_ptr, slcV_slice, ↓mwD, mwU]
      refine (latency_c _ _ _ x.us[n].A _ _ _ wl (hA.ext he) rfl (latI_ok hval).1 (latI_ok hval).2).use ?_
      rintro r w1 ⟨rfl, he1⟩
      have hb2 := latL_bd (x.us.take n) (fun y hy => hv y (List.mem_of_mem_take hy))
      rw [List.length_take, Nat.min_eq_left (by omega)] at hb2
      have hb3 := latI_bd hval
      have hs : latL (x.us.take (n + 1)) = latL (x.us.take n) + latI x.us[n].k x.us[n].A := by rw [List.take_add_one, List.getElem?_eq_getElem hnl']; exact latL_snoc _ _
      have hw2 : IntKind.i64.wrap (latL (x.us.take n) + latI x.us[n].k x.us[n].A) = latL (x.us.take (n + 1)) := by rw [hs]; exact w64 (by omega) (by omega)
      simp -dsimp -implicitDefEqProofs only [h11, h10, h9, h3, hw1, hw2, m54, sF54, Nat.reduceEqDiff, ↓reduceIte, Nat.reduceAdd, Nat.reduceMul, Value.cells, Value.oneCell', eq_self, ne_eq, Int.reduceToNat, Int.reduceEq, Int.reduceLT, Int.reduceLE, Int.reduceNeg, if_true, if_false, reduceCtorEq, Nat.reduceSub, storeV_ptr, slcV_slice, ↓mwD, mwU]
      exact ⟨⟨n + 1, by omega, rfl, rfl, he.trans he1⟩, by simp only [intOf]; omega⟩
    · have hnl : n = vs.length := by omega
      subst hnl
      rw [hl, List.take_length] at h3
      simp -dsimp -implicitDefEqProofs only [h3, m54, sF54, Nat.reduceEqDiff, ↓reduceIte, Nat.reduceAdd, Nat.reduceMul, Value.cells, Value.oneCell', eq_self, ne_eq, Int.reduceToNat, Int.reduceEq, Int.reduceLT, Int.reduceLE, Int.reduceNeg, if_true, if_false, reduceCtorEq, Nat.reduceSub, storeV_ptr, slcV_slice, ↓mwD, mwU]
      exact he

def maxI (a b : Int) : Int := if a < b then b else a
def latF (m : Int) (ls : List LX) : Int := ls.foldl (fun m x => maxI m (latL x.us)) m

theorem HLatency_c {w : World} {v : Value} {G : Nat → Prop} {ls : List LX} {eq : Bool} (h : HostIn w v G ls eq) (hv : ∀ x ∈ ls, ∀ u ∈ x.us, u.valid) (h8 : ∀ x ∈ ls, x.us.length ≤ 8) (hl8 : ls.length ≤ 8) :
    Rets Go.Proofs.Try.prog 25 #[v] w fun r w' => r = .int .i64 (latF 0 ls) ∧ Ext w w' := by
  obtain ⟨b, lp, vs, Gf, rfl, hb, hlp, ho, _⟩ := h
  have c0 := hb.get (o := 0) rfl
  obtain ⟨p, cp, rfl, hp1, hp2⟩ := hlp.shape
  have hl := ho.1
  refine en25 ?_
  simp -dsimp -implicitDefEqProofs only [c0, m25, sF25, Nat.reduceEqDiff, ↓reduceIte, Nat.reduceAdd, Nat.reduceMul, Value.cells, Value.oneCell', eq_self, ne_eq, Int.reduceToNat, Int.reduceEq, Int.reduceLT, Int.reduceLE, Int.reduceNeg, if_true, if_false, reduceCtorEq, Nat.reduceSub, storeV_ptr, slcV_slice, ↓mwD, mwU]
  refine mwpB_loop (fun e ds wl => ∃ n : Nat, n ≤ vs.length ∧ e 13 = .int .i64 n ∧ e 12 = .int .i64 vs.length ∧ e 11 = .slice p vs.length cp ∧ e 3 = .int .i64 (latF 0 (ls.take n)) ∧ ds = [] ∧ Ext w wl) (fun e _ => vs.length - (intOf (e 13)).toNat) ?_ ?_
  · simp -dsimp -implicitDefEqProofs only [m25, sF25, Nat.reduceEqDiff, ↓reduceIte, Nat.reduceAdd, Nat.reduceMul, Value.cells, Value.oneCell', eq_self, ne_eq, Int.reduceToNat, Int.reduceEq, Int.reduceLT, Int.reduceLE, Int.reduceNeg, if_true, if_false, reduceCtorEq, Nat.reduceSub, storeV_ptr, slcV_slice, ↓mwD, mwU]
    exact ⟨0, by omega, rfl, by simp [latF], Ext.refl _⟩
  · rintro e ds wl ⟨n, hn, h11, h10, h9, h3, rfl, he⟩
    simp -dsimp -implicitDefEqProofs only [h11, h10, h9, h3, m25, sF25, Nat.reduceEqDiff, ↓reduceIte, Nat.reduceAdd, Nat.reduceMul, Value.cells, Value.oneCell', eq_self, ne_eq, Int.reduceToNat, Int.reduceEq, Int.reduceLT, Int.reduceLE, Int.reduceNeg, if_true, if_false, reduceCtorEq, Nat.reduceSub, storeV_ptr, slcV_slice, ↓mwD, mwU]
    refine iteW_dec (fun hlt => ?_) (fun hge => ?_)
    · have hnl : n < vs.length := by omega
      have hnl' : n < ls.length := by omega
      obtain ⟨bv, ov, cv, hpe, hcv⟩ := Sl.get hlp (i := n) (u := vs[n]) (by simp [hnl])
      simp only [Value.slice.injEq, true_and] at hpe
      obtain ⟨rfl, rfl⟩ := hpe
      have hlane := ho.2.1 n vs[n] ls[n] (by simp [hnl]) (by simp [hnl'])
      have hcv' := he.cell hcv
      have hb1 : (0 : Int) ≤ n ∧ (n : Int) < vs.length := by omega
      have hw1 : IntKind.i64.wrap ((n : Int) + 1) = ((n + 1 : Nat) : Int) := by rw [w64 (by omega) (by omega)]; omega
      simp -dsimp -implicitDefEqProofs only [h11, h10, h9, h3, hb1, and_self, hcv', m25, sF25, Nat.reduceEqDiff, ↓reduceIte, Nat.reduceAdd, Nat.reduceMul, Value.cells, Value.oneCell', eq_self, ne_eq, Int.reduceToNat, Int.reduceEq, Int.reduceLT, Int.reduceLE, Int.reduceNeg, if_true, if_false, reduceCtorEq, Nat.reduceSub, storeV_ptr, slcV_slice, ↓mwD, mwU]
      refine (laneLatency_c (hlane.ext he) (hv _ (by simp)) (h8 _ (by simp))).use ?_
      rintro r w1 ⟨rfl, he1⟩
      have hs : latF 0 (ls.take (n + 1)) = maxI (latF 0 (ls.take n)) (latL ls[n].us) := by unfold latF; rw [List.take_add_one, List.getElem?_eq_getElem hnl', List.foldl_append]; rfl
      have hmx : (if latF 0 (ls.take n) < latL ls[n].us then latL ls[n].us else latF 0 (ls.take n)) = latF 0 (ls.take (n + 1)) := by rw [hs]; rfl
      simp -dsimp -implicitDefEqProofs only [h11, h10, h9, h3, hw1, hmx, m25, sF25, Nat.reduceEqDiff, ↓reduceIte, Nat.reduceAdd, Nat.reduceMul, Value.cells, Value.oneCell', eq_self, ne_eq, Int.reduceToNat, Int.reduceEq, Int.reduceLT, Int.reduceLE, Int.reduceNeg, if_true, if_false, reduceCtorEq, Nat.reduceSub, storeV_ptr, slcV_slice, ↓mwD, mwU]
      exact ⟨⟨n + 1, by omega, rfl, rfl, he.trans he1⟩, by simp only [intOf]; omega⟩
    · have hnl : n = vs.length := by omega
      subst hnl
      rw [hl, List.take_length] at h3
      simp -dsimp -implicitDefEqProofs only [h3, m25, sF25, Nat.reduceEqDiff, ↓reduceIte, Nat.reduceAdd, Nat.reduceMul, Value.cells, Value.oneCell', eq_self, ne_eq, Int.reduceToNat, Int.reduceEq, Int.reduceLT, Int.reduceLE, Int.reduceNeg, if_true, if_false, reduceCtorEq, Nat.reduceSub, storeV_ptr, slcV_slice, ↓mwD, mwU]
      exact he

/-! ### What is asked of the lanes ahead -/
/-- An effect as data. -/
abbrev EX := Int × List Int × List Int
/-- A slice of effects. -/
def SlE (w : World) (v : Value) (xs : List EX) : Prop :=
  ∃ p cap, v = .slice p xs.length cap ∧ xs.length ≤ cap ∧ cap ≤ maxLen ∧ ∀ i k A T, xs[i]? = some (k, A, T) → ∃ b o a t, p = some ⟨b, o, none⟩ ∧ w.cell? ⟨b, o + i * 3, none⟩ = some (.int .i64 k) ∧ w.cell? ⟨b, o + i * 3 + 1, none⟩ = some a ∧ w.cell? ⟨b, o + i * 3 + 2, none⟩ = some t ∧ SlI w a A ∧ SlI w t T
theorem SlE.ext {w w' : World} {v : Value} {xs : List EX} (h : SlE w v xs) (he : Ext w w') : SlE w' v xs := by
  obtain ⟨p, cap, h1, h2, h3, h4⟩ := h
  refine ⟨p, cap, h1, h2, h3, fun i k A T hi => ?_⟩
  obtain ⟨b, o, a, t, e0, c0, c1, c2, hA, hT⟩ := h4 i k A T hi
  exact ⟨b, o, a, t, e0, he.cell c0, he.cell c1, he.cell c2, hA.ext he, hT.ext he⟩
def exValid (x : EX) : Bool := validB x.1 x.2.1 x.2.2

theorem NewHost11_c (k : Int) (a t : Value) (A T : List Int) (w : World) (hA : SlI w a A) (hT : SlI w t T) : Rets Go.Proofs.Try.prog 50 #[.agg #[.int .i64 k, a, t]] w fun r w' => r = .bool (!validB k A T) ∧ Ext w w' := by
  obtain ⟨pa, ca, rfl, _, _⟩ := hA.shape
  obtain ⟨pt, ct, rfl, _, _⟩ := hT.shape
  have hx : Ext w (w.alloc (.cells #[.int .i64 k, .slice pa A.length ca, .slice pt T.length ct] 24)) := Ext.alloc _ _
  refine en50 ?_
  simp -dsimp -implicitDefEqProofs only [m50, sF50, Nat.reduceEqDiff, ↓reduceIte, Nat.reduceAdd, Nat.reduceMul, Value.cells, Value.oneCell', eq_self, ne_eq, Int.reduceToNat, Int.reduceEq, Int.reduceLT, Int.reduceLE, Int.reduceNeg, if_true, if_false, reduceCtorEq, Nat.reduceSub, storeV_ptr, slcV_slice, ↓mwD, mwU]
  refine (Valid_c k _ _ A T _ (hA.ext hx) (hT.ext hx)).use ?_
  rintro r w1 ⟨rfl, he⟩
  simp -dsimp -implicitDefEqProofs only [m50, sF50, Nat.reduceEqDiff, ↓reduceIte, Nat.reduceAdd, Nat.reduceMul, Value.cells, Value.oneCell', eq_self, ne_eq, Int.reduceToNat, Int.reduceEq, Int.reduceLT, Int.reduceLE, Int.reduceNeg, if_true, if_false, reduceCtorEq, Nat.reduceSub, storeV_ptr, slcV_slice, ↓mwD, mwU]
  exact hx.trans he

/-- slices.IndexFunc over effects: the first that is none. -/
theorem IndexFuncE_c {w : World} {v : Value} {xs : List EX} (h : SlE w v xs) : Rets Go.Proofs.Try.prog 62 #[v, .func (.func 50) #[] #[]] w fun r w' =>
    (∃ i : Int, r = .int .i64 i ∧ (decide (0 ≤ i) = xs.any fun x => !exValid x)) ∧ Ext w w' := by
  obtain ⟨p, cap, rfl, hc1, hc2, hx⟩ := h
  refine en62 ?_
  simp -dsimp -implicitDefEqProofs only [m62, sF62, Nat.reduceEqDiff, ↓reduceIte, Nat.reduceAdd, Nat.reduceMul, Value.cells, Value.oneCell', eq_self, ne_eq, Int.reduceToNat, Int.reduceEq, Int.reduceLT, Int.reduceLE, Int.reduceNeg, if_true, if_false, reduceCtorEq, Nat.reduceSub, storeV_ptr, slcV_slice, ↓mwD, mwU]
  refine mwpB_loop (fun e ds wl => ∃ n : Nat, n ≤ xs.length ∧ e 8 = .int .i64 n ∧ e 7 = .int .i64 xs.length ∧ e 0 = .slice p xs.length cap ∧ e 1 = .func (.func 50) #[] #[] ∧ ds = [] ∧ Ext w wl ∧ (xs.take n).any (fun x => !exValid x) = false) (fun e _ => xs.length - (intOf (e 8)).toNat) ?_ ?_
  · simp -dsimp -implicitDefEqProofs only [m62, sF62, Nat.reduceEqDiff, ↓reduceIte, Nat.reduceAdd, Nat.reduceMul, Value.cells, Value.oneCell', eq_self, ne_eq, Int.reduceToNat, Int.reduceEq, Int.reduceLT, Int.reduceLE, Int.reduceNeg, if_true, if_false, reduceCtorEq, Nat.reduceSub, storeV_ptr, slcV_slice, ↓mwD, mwU]
    exact ⟨0, by omega, rfl, Ext.refl _, by simp⟩
  · rintro e ds wl ⟨n, hn, h8, h7, h0, h1, rfl, he, hall⟩
    simp -dsimp -implicitDefEqProofs only [h8, h7, h0, h1, m62, sF62, Nat.reduceEqDiff, ↓reduceIte, Nat.reduceAdd, Nat.reduceMul, Value.cells, Value.oneCell', eq_self, ne_eq, Int.reduceToNat, Int.reduceEq, Int.reduceLT, Int.reduceLE, Int.reduceNeg, if_true, if_false, reduceCtorEq, Nat.reduceSub, storeV_ptr, slcV_slice, ↓mwD, mwU]
    refine iteW_dec (fun hlt => ?_) (fun hge => ?_)
    · have hnl : n < xs.length := by omega
      obtain ⟨b, o, a, t, rfl, c0, c1, c2, hA, hT⟩ := hx n xs[n].1 xs[n].2.1 xs[n].2.2 (by simp [hnl])
      have q0 := he.cell c0
      have q1 := he.cell c1
      have q2 := he.cell c2
      have hb1 : (0 : Int) ≤ n ∧ (n : Int) < xs.length := by omega
      have hw1 := w64_succ hnl (Nat.le_trans hc1 hc2)
      simp -dsimp -implicitDefEqProofs only [h8, h7, h0, h1, hb1, and_self, q0, q1, q2, okF_50, m62, sF62, Nat.reduceEqDiff, ↓reduceIte, Nat.reduceAdd, Nat.reduceMul, Value.cells, Value.oneCell', eq_self, ne_eq, Int.reduceToNat, Int.reduceEq, Int.reduceLT, Int.reduceLE, Int.reduceNeg, if_true, if_false, reduceCtorEq, Nat.reduceSub, storeV_ptr, slcV_slice, ↓mwD, mwU]
      refine (NewHost11_c _ _ _ _ _ wl (hA.ext he) (hT.ext he)).use ?_
      rintro r w1 ⟨rfl, he1⟩
      have hta : (xs.take (n + 1)).any (fun x => !exValid x) = !exValid xs[n] := by
        rw [List.take_add_one, List.getElem?_eq_getElem hnl, List.any_append, hall]; simp
      cases hv : validB xs[n].1 xs[n].2.1 xs[n].2.2
      · simp -dsimp -implicitDefEqProofs only [h8, h7, h0, h1, m62, sF62, Nat.reduceEqDiff, ↓reduceIte, Nat.reduceAdd, Nat.reduceMul, Value.cells, Value.oneCell', eq_self, ne_eq, Int.reduceToNat, Int.reduceEq, Int.reduceLT, Int.reduceLE, Int.reduceNeg, if_true, if_false, reduceCtorEq, Nat.reduceSub, storeV_ptr, slcV_slice, ↓mwD, mwU]
        refine ⟨⟨n, rfl, ?_⟩, he.trans he1⟩
        have : (xs.any fun x => !exValid x) = true := List.any_eq_true.2 ⟨xs[n], by simp, by simp [exValid, hv]⟩
        rw [this]; simp
      · simp -dsimp -implicitDefEqProofs only [h8, h7, h0, h1, hw1, m62, sF62, Nat.reduceEqDiff, ↓reduceIte, Nat.reduceAdd, Nat.reduceMul, Value.cells, Value.oneCell', eq_self, ne_eq, Int.reduceToNat, Int.reduceEq, Int.reduceLT, Int.reduceLE, Int.reduceNeg, if_true, if_false, reduceCtorEq, Nat.reduceSub, storeV_ptr, slcV_slice, ↓mwD, mwU]
        exact ⟨⟨n + 1, by omega, rfl, he.trans he1, by rw [hta]; simp [exValid, hv]⟩, by simp only [intOf]; omega⟩
    · have hnl : n = xs.length := by omega
      subst hnl
      rw [List.take_length] at hall
      simp -dsimp -implicitDefEqProofs only [h8, h7, h0, h1, m62, sF62, Nat.reduceEqDiff, ↓reduceIte, Nat.reduceAdd, Nat.reduceMul, Value.cells, Value.oneCell', eq_self, ne_eq, Int.reduceToNat, Int.reduceEq, Int.reduceLT, Int.reduceLE, Int.reduceNeg, if_true, if_false, reduceCtorEq, Nat.reduceSub, storeV_ptr, slcV_slice, ↓mwD, mwU]
      exact ⟨⟨-1, rfl, by rw [hall]; decide⟩, he⟩

theorem ContainsFuncE_c {w : World} {v : Value} {xs : List EX} (h : SlE w v xs) : Rets Go.Proofs.Try.prog 49 #[v, .func (.func 50) #[] #[]] w fun r w' => r = .bool (xs.any fun x => !exValid x) ∧ Ext w w' := by
  refine en49 ?_
  simp -dsimp -implicitDefEqProofs only [m49, sF49, Nat.reduceEqDiff, ↓reduceIte, Nat.reduceAdd, Nat.reduceMul, Value.cells, Value.oneCell', eq_self, ne_eq, Int.reduceToNat, Int.reduceEq, Int.reduceLT, Int.reduceLE, Int.reduceNeg, if_true, if_false, reduceCtorEq, Nat.reduceSub, storeV_ptr, slcV_slice, ↓mwD, mwU]
  refine (IndexFuncE_c h).use ?_
  rintro r w1 ⟨⟨i, rfl, hi⟩, he⟩
  simp -dsimp -implicitDefEqProofs only [m49, sF49, Nat.reduceEqDiff, ↓reduceIte, Nat.reduceAdd, Nat.reduceMul, Value.cells, Value.oneCell', eq_self, ne_eq, Int.reduceToNat, Int.reduceEq, Int.reduceLT, Int.reduceLE, Int.reduceNeg, if_true, if_false, reduceCtorEq, Nat.reduceSub, storeV_ptr, slcV_slice, ↓mwD, mwU]
  exact ⟨by rw [hi], he⟩

theorem NewHost1_c {w : World} {v : Value} {xs : List EX} (h : SlE w v xs) : Rets Go.Proofs.Try.prog 48 #[v] w fun r w' => r = .bool (xs.any fun x => !exValid x) ∧ Ext w w' := by
  refine en48 ?_
  simp -dsimp -implicitDefEqProofs only [m48, sF48, Nat.reduceEqDiff, ↓reduceIte, Nat.reduceAdd, Nat.reduceMul, Value.cells, Value.oneCell', eq_self, ne_eq, Int.reduceToNat, Int.reduceEq, Int.reduceLT, Int.reduceLE, Int.reduceNeg, if_true, if_false, reduceCtorEq, Nat.reduceSub, storeV_ptr, slcV_slice, ↓mwD, mwU]
  refine (ContainsFuncE_c h).use ?_
  rintro r w1 ⟨rfl, he⟩
  simp -dsimp -implicitDefEqProofs only [m48, sF48, Nat.reduceEqDiff, ↓reduceIte, Nat.reduceAdd, Nat.reduceMul, Value.cells, Value.oneCell', eq_self, ne_eq, Int.reduceToNat, Int.reduceEq, Int.reduceLT, Int.reduceLE, Int.reduceNeg, if_true, if_false, reduceCtorEq, Nat.reduceSub, storeV_ptr, slcV_slice, ↓mwD, mwU]
  exact he

theorem NewHost2_c {w : World} {v : Value} {xs : List EX} (h : SlE w v xs) : Rets Go.Proofs.Try.prog 51 #[v] w fun r w' => r = .bool (decide (8 < xs.length)) ∧ Ext w w' := by
  obtain ⟨p, cap, rfl, hc1, hc2, hx⟩ := h
  refine en51 ?_
  simp -dsimp -implicitDefEqProofs only [m51, sF51, Nat.reduceEqDiff, ↓reduceIte, Nat.reduceAdd, Nat.reduceMul, Value.cells, Value.oneCell', eq_self, ne_eq, Int.reduceToNat, Int.reduceEq, Int.reduceLT, Int.reduceLE, Int.reduceNeg, if_true, if_false, reduceCtorEq, Nat.reduceSub, storeV_ptr, slcV_slice, ↓mwD, mwU]
  refine ⟨?_, Ext.refl _⟩
  rw [Value.bool.injEq, decide_eq_decide]; omega

/-- A slice of slices of effects. -/
def SlEE (w : World) (v : Value) (xss : List (List EX)) : Prop := ∃ vs, Sl w v vs ∧ vs.length = xss.length ∧ ∀ (i : Nat) u xs, vs[i]? = some u → xss[i]? = some xs → SlE w u xs
theorem SlEE.ext {w w' : World} {v : Value} {xss : List (List EX)} (h : SlEE w v xss) (he : Ext w w') : SlEE w' v xss := by
  obtain ⟨vs, h1, h2, h3⟩ := h
  exact ⟨vs, h1.ext he, h2, fun i u xs hu hx => (h3 i u xs hu hx).ext he⟩

/-- slices.IndexFunc over slices of effects. -/
theorem IndexFuncEE_c {w : World} {v : Value} {xss : List (List EX)} (f : FuncId) (hok : okF Go.Proofs.Try.prog f = true) (q : List EX → Bool) (hf : ∀ w' u xs, SlE w' u xs → Rets Go.Proofs.Try.prog f #[u] w' fun r w'' => r = .bool (q xs) ∧ Ext w' w'') (h : SlEE w v xss) :
    Rets Go.Proofs.Try.prog 61 #[v, .func (.func f) #[] #[]] w fun r w' => (∃ i : Int, r = .int .i64 i ∧ (decide (0 ≤ i) = xss.any q)) ∧ Ext w w' := by
  obtain ⟨vs, hs, hl, hx⟩ := h
  obtain ⟨p, cap, rfl, hc1, hc2⟩ := hs.shape
  refine en61 ?_
  simp -dsimp -implicitDefEqProofs only [m61, sF61, Nat.reduceEqDiff, ↓reduceIte, Nat.reduceAdd, Nat.reduceMul, Value.cells, Value.oneCell', eq_self, ne_eq, Int.reduceToNat, Int.reduceEq, Int.reduceLT, Int.reduceLE, Int.reduceNeg, if_true, if_false, reduceCtorEq, Nat.reduceSub, storeV_ptr, slcV_slice, ↓mwD, mwU]
  refine mwpB_loop (fun e ds wl => ∃ n : Nat, n ≤ vs.length ∧ e 8 = .int .i64 n ∧ e 7 = .int .i64 vs.length ∧ e 0 = .slice p vs.length cap ∧ e 1 = .func (.func f) #[] #[] ∧ ds = [] ∧ Ext w wl ∧ (xss.take n).any q = false) (fun e _ => vs.length - (intOf (e 8)).toNat) ?_ ?_
  · simp -dsimp -implicitDefEqProofs only [m61, sF61, Nat.reduceEqDiff, ↓reduceIte, Nat.reduceAdd, Nat.reduceMul, Value.cells, Value.oneCell', eq_self, ne_eq, Int.reduceToNat, Int.reduceEq, Int.reduceLT, Int.reduceLE, Int.reduceNeg, if_true, if_false, reduceCtorEq, Nat.reduceSub, storeV_ptr, slcV_slice, ↓mwD, mwU]
    exact ⟨0, by omega, rfl, Ext.refl _, by simp⟩
  · rintro e ds wl ⟨n, hn, h8, h7, h0, h1, rfl, he, hall⟩
    simp -dsimp -implicitDefEqProofs only [h8, h7, h0, h1, m61, sF61, Nat.reduceEqDiff, ↓reduceIte, Nat.reduceAdd, Nat.reduceMul, Value.cells, Value.oneCell', eq_self, ne_eq, Int.reduceToNat, Int.reduceEq, Int.reduceLT, Int.reduceLE, Int.reduceNeg, if_true, if_false, reduceCtorEq, Nat.reduceSub, storeV_ptr, slcV_slice, ↓mwD, mwU]
    refine iteW_dec (fun hlt => ?_) (fun hge => ?_)
    · have hnl : n < vs.length := by omega
      have hnx : n < xss.length := by omega
      obtain ⟨bv, ov, cv, hpe, hcv⟩ := Sl.get hs (i := n) (u := vs[n]) (by simp [hnl])
      simp only [Value.slice.injEq, true_and] at hpe
      obtain ⟨rfl, rfl⟩ := hpe
      have hcv' := he.cell hcv
      have hb1 : (0 : Int) ≤ n ∧ (n : Int) < vs.length := by omega
      have hw1 := w64_succ hnl (Nat.le_trans hc1 hc2)
      simp -dsimp -implicitDefEqProofs only [h8, h7, h0, h1, hb1, and_self, hcv', hok, m61, sF61, Nat.reduceEqDiff, ↓reduceIte, Nat.reduceAdd, Nat.reduceMul, Value.cells, Value.oneCell', eq_self, ne_eq, Int.reduceToNat, Int.reduceEq, Int.reduceLT, Int.reduceLE, Int.reduceNeg, if_true, if_false, reduceCtorEq, Nat.reduceSub, storeV_ptr, slcV_slice, ↓mwD, mwU]
      refine (hf wl vs[n] xss[n] ((hx n _ _ (by simp [hnl]) (by simp [hnx])).ext he)).use ?_
      rintro r w1 ⟨rfl, he1⟩
      have hta : (xss.take (n + 1)).any q = q xss[n] := by
        rw [List.take_add_one, List.getElem?_eq_getElem hnx, List.any_append, hall]; simp
      cases hv : q xss[n]
      · simp -dsimp -implicitDefEqProofs only [h8, h7, h0, h1, hw1, m61, sF61, Nat.reduceEqDiff, ↓reduceIte, Nat.reduceAdd, Nat.reduceMul, Value.cells, Value.oneCell', eq_self, ne_eq, Int.reduceToNat, Int.reduceEq, Int.reduceLT, Int.reduceLE, Int.reduceNeg, if_true, if_false, reduceCtorEq, Nat.reduceSub, storeV_ptr, slcV_slice, ↓mwD, mwU]
        exact ⟨⟨n + 1, by omega, rfl, he.trans he1, by rw [hta, hv]⟩, by simp only [intOf]; omega⟩
      · simp -dsimp -implicitDefEqProofs only [h8, h7, h0, h1, m61, sF61, Nat.reduceEqDiff, ↓reduceIte, Nat.reduceAdd, Nat.reduceMul, Value.cells, Value.oneCell', eq_self, ne_eq, Int.reduceToNat, Int.reduceEq, Int.reduceLT, Int.reduceLE, Int.reduceNeg, if_true, if_false, reduceCtorEq, Nat.reduceSub, storeV_ptr, slcV_slice, ↓mwD, mwU]
        refine ⟨⟨n, rfl, ?_⟩, he.trans he1⟩
        have : xss.any q = true := List.any_eq_true.2 ⟨xss[n], by simp, hv⟩
        rw [this]; simp
    · have hnl : n = vs.length := by omega
      subst hnl
      rw [hl, List.take_length] at hall
      simp -dsimp -implicitDefEqProofs only [h8, h7, h0, h1, m61, sF61, Nat.reduceEqDiff, ↓reduceIte, Nat.reduceAdd, Nat.reduceMul, Value.cells, Value.oneCell', eq_self, ne_eq, Int.reduceToNat, Int.reduceEq, Int.reduceLT, Int.reduceLE, Int.reduceNeg, if_true, if_false, reduceCtorEq, Nat.reduceSub, storeV_ptr, slcV_slice, ↓mwD, mwU]
      exact ⟨⟨-1, rfl, by rw [hall]; decide⟩, he⟩

theorem ContainsFuncEE_c {w : World} {v : Value} {xss : List (List EX)} (f : FuncId) (hok : okF Go.Proofs.Try.prog f = true) (q : List EX → Bool) (hf : ∀ w' u xs, SlE w' u xs → Rets Go.Proofs.Try.prog f #[u] w' fun r w'' => r = .bool (q xs) ∧ Ext w' w'') (h : SlEE w v xss) :
    Rets Go.Proofs.Try.prog 47 #[v, .func (.func f) #[] #[]] w fun r w' => r = .bool (xss.any q) ∧ Ext w w' := by
  refine en47 ?_
  simp -dsimp -implicitDefEqProofs only [m47, sF47, Nat.reduceEqDiff, ↓reduceIte, Nat.reduceAdd, Nat.reduceMul, Value.cells, Value.oneCell', eq_self, ne_eq, Int.reduceToNat, Int.reduceEq, Int.reduceLT, Int.reduceLE, Int.reduceNeg, if_true, if_false, reduceCtorEq, Nat.reduceSub, storeV_ptr, slcV_slice, ↓mwD, mwU]
  refine (IndexFuncEE_c f hok q hf h).use ?_
  rintro r w1 ⟨⟨i, rfl, hi⟩, he⟩
  simp -dsimp -implicitDefEqProofs only [m47, sF47, Nat.reduceEqDiff, ↓reduceIte, Nat.reduceAdd, Nat.reduceMul, Value.cells, Value.oneCell', eq_self, ne_eq, Int.reduceToNat, Int.reduceEq, Int.reduceLT, Int.reduceLE, Int.reduceNeg, if_true, if_false, reduceCtorEq, Nat.reduceSub, storeV_ptr, slcV_slice, ↓mwD, mwU]
  exact ⟨by rw [hi], he⟩

end Go.Proofs.Ytefcfnmmpnjjjaa

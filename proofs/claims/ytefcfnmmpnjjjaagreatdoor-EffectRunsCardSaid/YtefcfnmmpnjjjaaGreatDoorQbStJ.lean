/- The reference's Run. -/
import Derived.Test.YtefcfnmmpnjjjaaGreatDoorQbStH
import Derived.Test.YtefcfnmmpnjjjaaGreatDoorQbStI
namespace Go.Proofs.YtefcfnmmpnjjjaaGreatDoor
open Go.RowKit
set_option linter.unusedSimpArgs false

/-- Writing into a row of the call's own. -/
theorem own_set {w : World} {base : Nat} {v : Value} {n i : Nat} {xs : List Int} (y : Int) (h : w.ownsRow base 3 1 v n (ints xs)) (hi : i < n) :
    ∃ g cap, v = .slice (some ⟨g, 0, none⟩) n cap ∧ base ≤ g ∧ g < w.heap.size ∧ w.frozen? ⟨g, i, none⟩ = false ∧ (w.cell? ⟨g, i, none⟩).isSome = true ∧ (w.setCell ⟨g, i, none⟩ (.int .i64 y)).ownsRow base 3 1 v n (ints (xs.set i y)) := by
  have hl : xs.length = n := by have := h.1; simpa [ints] using this
  rcases h.2 with ⟨rfl, rfl⟩ | ⟨g, cap, cur, rfl, hbg, hg, hnc, hcm, hcs, htake⟩
  · omega
  · have hb : Bk w g cur.toList 3 := by unfold Bk; rw [hg]
    have hb2 := hb.set i (.int .i64 y)
    have hsz : i < cur.toList.length := by rw [Array.length_toList, hcs]; omega
    refine ⟨g, cap, rfl, hbg, hb.lt, hb.frozen i, by rw [hb.get (List.getElem?_eq_getElem hsz)]; rfl, ⟨by simp [ints, hl], .inr ⟨g, cap, (cur.toList.set i (.int .i64 y)).toArray, rfl, hbg, hb2, hnc, hcm, by simp [hcs], ?_⟩⟩⟩
    have e : ints (xs.set i y) = (ints xs).set i (.int .i64 y) := (ints_set xs i y).symm
    rw [e, ← htake]
    simp only [List.toList_toArray, List.take_set]
/-- Slicing a row of the call's own. -/
theorem own_slc {w : World} {base : Nat} {v : Value} {n i j : Nat} {xs : List Int} (h : w.ownsRow base 3 1 v n (ints xs)) (hij : i ≤ j) (hj : j ≤ n) (hn : n ≤ 100000) :
    ∃ p c, slcV Go.Proofs.Tryz.prog 22 v (some (.int .i64 i)) (some (.int .i64 j)) = some (.slice p (j - i) c) ∧ SlI w (.slice p (j - i) c) ((xs.drop i).take (j - i)) ∧ ∀ q, (Value.slice p (j - i) c).ownBlock = some q → v.ownBlock = some q := by
  have hl : xs.length = n := by have := h.1; simpa [ints] using this
  rcases h.2 with ⟨rfl, rfl⟩ | ⟨g, cap, cur, rfl, hbg, hg, hnc, hcm, hcs, htake⟩
  · obtain rfl : i = 0 := by omega
    obtain rfl : j = 0 := by omega
    have hx : xs = [] := by simpa using hl
    subst hx
    refine ⟨none, 0, ?_, SlI.nil _, fun q hq => by simp [Value.ownBlock] at hq⟩
    rw [slcV_slice, telem_22]
    simp [boundV_some, tok_3, tsz_3]
  · have hS := Own.sl h
    obtain ⟨_, _, _, hv, hle, hm, hc⟩ : ∃ b o c, (Value.slice (some ⟨g, 0, none⟩) n cap) = .slice (some ⟨b, o, none⟩) n c ∧ n ≤ c ∧ c ≤ maxLen ∧ Row w b o (ints xs) := by
      rcases hS with ⟨h1, _⟩ | ⟨b, o, c, h1, h2, h3, h4⟩
      · cases h1
      · rw [ints_length, hl] at h1 h2
        exact ⟨b, o, c, h1, h2, h3, h4⟩
    cases hv
    refine ⟨if (cap : Int) = i then some ⟨g, 0, none⟩ else some ⟨g, 0 + i, none⟩, cap - i, ?_, ?_, fun q hq => ?_⟩
    · have hb : (0 : Int) ≤ i ∧ (i : Int) ≤ j ∧ (j : Int) ≤ cap := by omega
      rw [slcV_slice, telem_22]
      simp only [Option.bind_some, boundV_some, tok_3, tsz_3, hb, and_self, if_true, Option.map_some, Addr.add_lit, Int.toNat_natCast, Nat.mul_one]
      congr 2
      · omega
      · omega
    · by_cases hci : (cap : Int) = i
      · have hji : j - i = 0 := by omega
        rw [if_pos hci, hji]
        exact .inr ⟨g, 0, cap - i, by simp [ints], by simp [ints], by omega, fun k u hk => by simp [ints] at hk⟩
      · rw [if_neg hci]
        have hlen : (ints ((xs.drop i).take (j - i))).length = j - i := by rw [ints_length, List.length_take, List.length_drop]; omega
        refine .inr ⟨g, 0 + i, cap - i, by rw [hlen], by rw [hlen]; omega, by omega, fun k u hk => ?_⟩
        have hkl : k < j - i := by have := (List.getElem?_eq_some_iff.1 hk).1; omega
        have : (ints xs)[i + k]? = some u := by
          rw [← hk]
          simp only [ints, List.getElem?_map, List.getElem?_take, List.getElem?_drop]
          rw [if_pos hkl]
        have := hc (i + k) u this
        rw [show 0 + i + k = 0 + (i + k) by omega]
        exact this
    · split at hq <;> simpa [Value.ownBlock] using hq
theorem keep_eq {s : US} {k : Int} {A T : List Int} (h : KinU s k A T) (x : Int) : (if k = 3 then (stepU s x).2 else x) = keepU s x := by
  cases s <;> simp only [KinU] at h <;> obtain ⟨rfl, _⟩ := h <;> rfl
theorem window_step {s : US} {P0 K : List Int} {m : Nat} (hl : K.length = m) (h : (P0 ++ K).drop m = (histU s).reverse) (x : Int) : (P0 ++ (K ++ [keepU s x])).drop (m + 1) = (histU (stepU s x).1).reverse := by
  have hd : (P0 ++ (K ++ [keepU s x])).drop (m + 1) = ((P0 ++ K).drop m ++ [keepU s x]).drop 1 := by
    rw [← List.append_assoc, ← List.drop_drop, List.drop_append_of_le_length (by simp; omega)]
  rw [hd, h]
  rcases hist_step s x with e | ⟨e1, e2⟩
  · rw [e, ← List.tail_reverse]
    simp
  · rw [e1, e2]
    rfl
theorem set_mid (P0 K : List Int) (z : Nat) (i : Nat) (y : Int) (hi : i = P0.length + K.length) : (P0 ++ K ++ List.replicate (z + 1) 0).set i y = P0 ++ (K ++ [y]) ++ List.replicate z 0 := by
  subst hi
  rw [List.replicate_succ, List.set_append_right _ _ (by simp)]
  simp
/-- What the reference's Run comes to. -/
def RunRef (s : US) (N : Nat) (k op : Int) (a t p : Value) (L : List Int) (w : World) (r : Value) (w' : World) : Prop :=
  Ext w w' ∧ if samplesB L = true then ∃ p' op' o, r = .tuple #[refV k (levU (runU s L).1) op' a t p', o, .int .i64 0] ∧ SlI w' p' (histU (runU s L).1).reverse ∧ SlI w' o (runU s L).2 ∧ openR (runU s L).1 (N + L.length) op' ∧
      (∀ q, p'.ownBlock = some q → w.heap.size ≤ q) ∧ (∀ q, o.ownBlock = some q → w.heap.size ≤ q)
    else r = .tuple #[refV k (levU s) op a t p, .slice none 0 0, .int .i64 1]
theorem refRun_c {s : US} {N : Nat} {k : Int} {a t p l : Value} {A T L : List Int} {op : Int} {w : World} (hs : s.ok) (hk : KinU s k A T) (ho : openR s N op) (hN : N ≤ 1000000) (hA : SlI w a A) (hT : SlI w t T) (hp : SlI w p (histU s).reverse) (hL : SlI w l L) :
    Rets Go.Proofs.Tryz.prog 16 #[refV k (levU s) op a t p, l] w (RunRef s N k op a t p L w) := by
  obtain ⟨pa, ca, rfl, _, _⟩ := hA.shape
  obtain ⟨pt, ct, rfl, _, _⟩ := hT.shape
  obtain ⟨pp, cp, rfl, _, _⟩ := hp.shape
  obtain ⟨pl, cl, rfl, hcl1, hcl2⟩ := hL.shape
  have hsz : ∀ o, (w.alloc o).heap.size = w.heap.size + 1 := fun o => by simp
  have hlen := hist_len hs
  have all : ∀ W, (w.alloc (.cells (refV k (levU s) op (.slice pa A.length ca) (.slice pt T.length ct) (.slice pp (histU s).reverse.length cp)).cells 39)).alloc (.cells (Value.agg #[.int .i64 0, .slice none 0 0, .slice none 0 0, .slice none 0 0, .int .i64 0, .int .i64 0]).cells 39) = W →
      Bk W w.heap.size [.int .i64 k, .slice pa A.length ca, .slice pt T.length ct, .slice pp (histU s).reverse.length cp, .int .i64 (levU s), .int .i64 op] 39 ∧ Bk W (w.heap.size + 1) [.int .i64 0, .slice none 0 0, .slice none 0 0, .slice none 0 0, .int .i64 0, .int .i64 0] 39 ∧ Ext w W ∧ W.heap.size = w.heap.size + 2 := by
    rintro _ rfl
    refine ⟨(Bk.new w [.int .i64 k, .slice pa A.length ca, .slice pt T.length ct, .slice pp (histU s).reverse.length cp, .int .i64 (levU s), .int .i64 op] 39).ext (Ext.alloc _ _), ?_, (Ext.alloc _ _).alloc' _, by simp⟩
    have hby := Bk.new (w.alloc (.cells #[.int .i64 k, .slice pa A.length ca, .slice pt T.length ct, .slice pp (histU s).reverse.length cp, .int .i64 (levU s), .int .i64 op] 39)) [.int .i64 0, .slice none 0 0, .slice none 0 0, .slice none 0 0, .int .i64 0, .int .i64 0] 39
    rw [hsz] at hby
    exact hby
  refine en16 ?_
  simp -dsimp -implicitDefEqProofs only [hsz, m16, sF16, Nat.reduceEqDiff, ↓reduceIte, Nat.reduceAdd, Nat.reduceMul, Value.cells, Value.oneCell', eq_self, ne_eq, Int.reduceToNat, Int.reduceEq, Int.reduceLT, Int.reduceLE, Int.reduceNeg, if_true, if_false, reduceCtorEq, Nat.reduceSub, storeV_ptr, slcV_slice, ↓mwD, mwU]
  generalize hW : World.alloc (World.alloc w (.cells #[.int .i64 k, .slice pa A.length ca, .slice pt T.length ct, .slice pp (histU s).reverse.length cp, .int .i64 (levU s), .int .i64 op] 39)) _ = W
  obtain ⟨hbx, hby, hxx, hsz2⟩ := all W hW
  clear all hW
  refine (Samples_c _ L W (hL.ext hxx)).use ?_
  rintro _ w1 ⟨rfl, x1⟩
  have hb0 := hbx.ext x1
  have hb1 := hby.ext x1
  have e0 := hxx.trans x1
  have c0 := hb0.get (o := 0) rfl
  have c1 := hb0.get (o := 1) rfl
  have c2 := hb0.get (o := 2) rfl
  have c3 := hb0.get (o := 3) rfl
  have c4 := hb0.get (o := 4) rfl
  have c5 := hb0.get (o := 5) rfl
  cases hsm : samplesB L
  · obtain ⟨w9, hs9, hb9, hf9⟩ := store_ref hb1 rfl k (levU s) op pa pt pp A.length ca T.length ct (histU s).reverse.length cp
    have d0 := hb9.get (o := 0) rfl
    have d1 := hb9.get (o := 1) rfl
    have d2 := hb9.get (o := 2) rfl
    have d3 := hb9.get (o := 3) rfl
    have d4 := hb9.get (o := 4) rfl
    have d5 := hb9.get (o := 5) rfl
    have x9 : Ext w w9 := hf9.ext e0 (by simp)
    simp -dsimp -implicitDefEqProofs only [Bool.false_eq_true, hsz, c0, c1, c2, c3, c4, c5, hs9, d0, d1, d2, d3, d4, d5, m16, sF16, Nat.reduceEqDiff, ↓reduceIte, Nat.reduceAdd, Nat.reduceMul, Value.cells, Value.oneCell', eq_self, ne_eq, Int.reduceToNat, Int.reduceEq, Int.reduceLT, Int.reduceLE, Int.reduceNeg, if_true, if_false, reduceCtorEq, Nat.reduceSub, slcV_slice, ↓mwD, mwU]
    exact ⟨x9, by rw [if_neg (by rw [hsm]; simp)]⟩
  · obtain ⟨hLn, hsmp⟩ := samples_smps hsm
    simp -dsimp -implicitDefEqProofs only [hsz, c3, m16, sF16, Nat.reduceEqDiff, ↓reduceIte, Nat.reduceAdd, Nat.reduceMul, Value.cells, Value.oneCell', eq_self, ne_eq, Int.reduceToNat, Int.reduceEq, Int.reduceLT, Int.reduceLE, Int.reduceNeg, if_true, if_false, reduceCtorEq, Nat.reduceSub, storeV_ptr, slcV_slice, ↓mwD, mwU]
    obtain ⟨v1, w2, ha1, x2, ho1, _⟩ := app_row (w8 := W) (v := .slice none 0 0) (n := 0) (xs := []) x1 (World.ownsRow_nil _ _ _ _) (hp.ext e0) (by omega) (by rw [List.length_reverse]; omega)
    refine appB.mk ha1 ?_
    simp -dsimp -implicitDefEqProofs only [hsz, m16, sF16, Nat.reduceEqDiff, ↓reduceIte, Nat.reduceAdd, Nat.reduceMul, Value.cells, Value.oneCell', eq_self, ne_eq, Int.reduceToNat, Int.reduceEq, Int.reduceLT, Int.reduceLE, Int.reduceNeg, if_true, if_false, reduceCtorEq, Nat.reduceSub, storeV_ptr, slcV_slice, ↓mwD, mwU]
    obtain ⟨v2, w3, ha2, x3, ho2⟩ := app_zeros (k := L.length) x2 ho1 (by rw [List.length_reverse]; omega) (by omega)
    refine appB.mk ha2 ?_
    have hb0' := hbx.ext x3
    have c3' := hb0'.get (o := 3) rfl
    simp -dsimp -implicitDefEqProofs only [hsz, c3', m16, sF16, Nat.reduceEqDiff, ↓reduceIte, Nat.reduceAdd, Nat.reduceMul, Value.cells, Value.oneCell', eq_self, ne_eq, Int.reduceToNat, Int.reduceEq, Int.reduceLT, Int.reduceLE, Int.reduceNeg, if_true, if_false, reduceCtorEq, Nat.reduceSub, storeV_ptr, slcV_slice, ↓mwD, mwU]
    have hb1' := hby.ext x3
    have hw3 := x3.le
    have hg3 := World.ownsRow.lt ho2
    have hxx3 := hxx.trans x3
    refine mwpB_loop (fun e ds wl => ∃ (m : Nat) (K : List Int) (op' : Int), m ≤ L.length ∧ K.length = m ∧ e 11 = .int .i64 m ∧ e 1 = .slice pl L.length cl ∧ e 2 = .pointer (some ⟨w.heap.size, 0, none⟩) ∧ e 4 = .pointer (some ⟨w.heap.size + 1, 0, none⟩) ∧ e 8 = v2 ∧ e 9 = .int .i64 (histU s).reverse.length ∧ ds = [] ∧
      Ext w wl ∧ w3.heap.size ≤ wl.heap.size ∧ Bk wl w.heap.size [.int .i64 k, .slice pa A.length ca, .slice pt T.length ct, .slice pp (histU s).reverse.length cp, .int .i64 (levU (runU s (L.take m)).1), .int .i64 op'] 39 ∧
      Bk wl (w.heap.size + 1) [.int .i64 0, .slice none 0 0, .slice none 0 0, .slice none 0 0, .int .i64 0, .int .i64 0] 39 ∧ openR (runU s (L.take m)).1 (N + m) op' ∧
      wl.ownsRow W.heap.size 3 1 v2 ((histU s).reverse.length + L.length) (ints ((histU s).reverse ++ K ++ List.replicate (L.length - m) 0)) ∧ ((histU s).reverse ++ K).drop m = (histU (runU s (L.take m)).1).reverse ∧
      wl.ownsRow w3.heap.size 3 1 (e 10) m (ints (runU s (L.take m)).2)) (fun e _ => L.length - (intOf (e 11)).toNat) ?_ ?_
    · simp -dsimp -implicitDefEqProofs only [hsz, m16, sF16, Nat.reduceEqDiff, ↓reduceIte, Nat.reduceAdd, Nat.reduceMul, Value.cells, Value.oneCell', eq_self, ne_eq, Int.reduceToNat, Int.reduceEq, Int.reduceLT, Int.reduceLE, Int.reduceNeg, if_true, if_false, reduceCtorEq, Nat.reduceSub, storeV_ptr, slcV_slice, ↓mwD, mwU]
      exact ⟨0, [], op, by omega, rfl, rfl, hxx3, Nat.le_refl _, hb0', hb1', ho, by simpa using ho2, by simp [runU], by simpa [runU, ints] using World.ownsRow_nil w3 w3.heap.size 3 1⟩
    · rintro e ds wl ⟨m, K, op', hm, hK, h11, h1, h2, h4, h8, h9, rfl, hxl, hwl, hB0, hB1, hop, hrow, hwin, hout⟩
      simp -dsimp -implicitDefEqProofs only [h11, h1, h2, h4, h8, h9, m16, sF16, Nat.reduceEqDiff, ↓reduceIte, Nat.reduceAdd, Nat.reduceMul, Value.cells, Value.oneCell', eq_self, ne_eq, Int.reduceToNat, Int.reduceEq, Int.reduceLT, Int.reduceLE, Int.reduceNeg, if_true, if_false, reduceCtorEq, Nat.reduceSub, storeV_ptr, slcV_slice, ↓mwD, mwU]
      refine iteW_dec (fun hlt => ?_) (fun hge => ?_)
      · have hml : m < L.length := by omega
        generalize hs1 : (runU s (L.take m)).1 = s1 at *
        have hok1 : s1.ok := by rw [← hs1]; exact (runU_ok (L.take m) s hs (fun x hx => hsmp x (List.mem_of_mem_take hx))).1
        have hk1 : KinU s1 k A T := by rw [← hs1]; exact kin_run _ hk
        have hxs := hsmp L[m] (by simp)
        have b0 := hB0.get (o := 0) rfl
        have b1 := hB0.get (o := 1) rfl
        have b2 := hB0.get (o := 2) rfl
        have b3 := hB0.get (o := 3) rfl
        have b4 := hB0.get (o := 4) rfl
        have b5 := hB0.get (o := 5) rfl
        obtain ⟨w5, hs5, hb5, hf5⟩ := store_ref (Bk.new wl [.int .i64 0, .slice none 0 0, .slice none 0 0, .slice none 0 0, .int .i64 0, .int .i64 0] 39) rfl k (levU s1) op' pa pt pp A.length ca T.length ct (histU s).reverse.length cp
        -- the window, and where the sample will be kept
        have hlr : (histU s).reverse.length = (histU s).length := List.length_reverse
        obtain ⟨pz, cz, hslc, hSz, hzb⟩ := own_slc (i := m) (j := m + (histU s).reverse.length) hrow (by omega) (by omega) (by omega)
        have hwz : IntKind.i64.wrap ((m : Int) + (histU s).reverse.length) = ((m + (histU s).reverse.length : Nat) : Int) := by rw [w64 (by omega) (by omega)]; omega
        have hzl : m + (histU s).reverse.length - m = (histU s).reverse.length := by omega
        rw [hzl] at hslc hSz hzb
        have hzw : (((histU s).reverse ++ K ++ List.replicate (L.length - m) 0).drop m).take (histU s).reverse.length = (histU s1).reverse := by
          rw [List.drop_append_of_le_length (by simp; omega), hwin, List.take_append_of_le_length, List.take_of_length_le]
          · have := congrArg List.length hwin
            simp only [List.length_drop, List.length_append, hK] at this
            omega
          · have := congrArg List.length hwin
            simp only [List.length_drop, List.length_append, hK] at this
            omega
        rw [hzw] at hSz
        have hlen1 : (histU s1).reverse.length = (histU s).reverse.length := by
          have := congrArg List.length hwin
          simp only [List.length_drop, List.length_append, hK] at this
          omega
        have xl5 : Ext wl w5 := hf5.ext (Ext.alloc _ _) (by simp)
        -- the copy with the window
        have hb6 := hb5.set 3 (.slice pz (histU s).reverse.length cz)
        have x6 : Ext wl (w5.setCell ⟨wl.heap.size, 3, none⟩ (.slice pz (histU s).reverse.length cz)) := xl5.setCell (Nat.le_refl _) _
        have b5c := hb5.get (o := 3) rfl
        simp -dsimp -implicitDefEqProofs only [h11, h1, h2, h4, h8, h9, b0, b1, b2, b3, b4, b5, hs5, m16, sF16, Nat.reduceEqDiff, ↓reduceIte, Nat.reduceAdd, Nat.reduceMul, Value.cells, Value.oneCell', eq_self, ne_eq, Int.reduceToNat, Int.reduceEq, Int.reduceLT, Int.reduceLE, Int.reduceNeg, if_true, if_false, reduceCtorEq, Nat.reduceSub, slcV_slice, ↓mwD, mwU]
        simp -dsimp -implicitDefEqProofs only [hwz, hslc, b5c, hb5.frozen, and_self, m16, sF16, Nat.reduceEqDiff, ↓reduceIte, Nat.reduceAdd, Nat.reduceMul, Value.cells, Value.oneCell', eq_self, ne_eq, Int.reduceToNat, Int.reduceEq, Int.reduceLT, Int.reduceLE, Int.reduceNeg, if_true, if_false, reduceCtorEq, Nat.reduceSub, storeV_ptr, ↓mwD, mwU]
        generalize hW6 : w5.setCell ⟨wl.heap.size, 3, none⟩ (.slice pz (histU s).reverse.length cz) = w6 at *
        have b60 := hb6.get (o := 0) rfl
        have b61 := hb6.get (o := 1) rfl
        have b62 := hb6.get (o := 2) rfl
        have b63 := hb6.get (o := 3) rfl
        have b64 := hb6.get (o := 4) rfl
        have b65 := hb6.get (o := 5) rfl
        obtain ⟨bl, ol, cl', hvl, hcl⟩ := hL.some (by omega)
        cases hvl
        have hx6 := hxl.trans x6
        have c6 := hx6.cell (hcl m L[m] (by simp [hml]))
        have hbm : (0 : Int) ≤ m ∧ (m : Int) < L.length := by omega
        refine mwpB_drawE ?_
        simp -dsimp -implicitDefEqProofs only [h11, h1, h2, h4, h8, h9, b60, b61, b62, b63, b64, b65, c6, hbm, and_self, m16, sF16, Nat.reduceEqDiff, ↓reduceIte, Nat.reduceAdd, Nat.reduceMul, Value.cells, Value.oneCell', eq_self, ne_eq, Int.reduceToNat, Int.reduceEq, Int.reduceLT, Int.reduceLE, Int.reduceNeg, if_true, if_false, reduceCtorEq, Nat.reduceSub, storeV_ptr, slcV_slice, ↓mwD, mwU]
        have hSz6 : SlI w6.drew (.slice pz (histU s).reverse.length cz) (histU s1).reverse := (hSz.ext x6).ext (Ext.drew _)
        refine (refStep_c (N := N + m) hok1 hk1 hop (by omega) hxs (hA.ext hx6.drew') (hT.ext hx6.drew') hSz6).use ?_
        rintro _ w7 ⟨op2, rfl, hop2, x7⟩
        refine ⟨x7, ?_⟩
        have x67 : Ext w6 w7 := (Ext.drew _).trans x7
        obtain ⟨w8, hs8, hb8, hf8⟩ := store_ref (hb6.ext x67) rfl k (levU (stepU s1 L[m]).1) op2 pa pt pz A.length ca T.length ct (histU s).reverse.length cz
        have hx8 : Ext wl w8 := hf8.ext (x6.trans x67) (by simp)
        simp -dsimp -implicitDefEqProofs only [h11, h1, h2, h4, h8, h9, hs8, m16, sF16, Nat.reduceEqDiff, ↓reduceIte, Nat.reduceAdd, Nat.reduceMul, Value.cells, Value.oneCell', eq_self, ne_eq, Int.reduceToNat, Int.reduceEq, Int.reduceLT, Int.reduceLE, Int.reduceNeg, if_true, if_false, reduceCtorEq, Nat.reduceSub, slcV_slice, ↓mwD, mwU]
        have hB8 := hB0.ext hx8
        have e80 := hB8.get (o := 0) rfl
        have e81 := hB8.get (o := 1) rfl
        have e82 := hB8.get (o := 2) rfl
        have hxw8 := hxl.trans hx8
        have c8 := hxw8.cell (hcl m L[m] (by simp [hml]))
        refine mwpB_drawE ?_
        simp -dsimp -implicitDefEqProofs only [h11, h1, h2, h4, h8, h9, e80, e81, e82, c8, hbm, and_self, m16, sF16, Nat.reduceEqDiff, ↓reduceIte, Nat.reduceAdd, Nat.reduceMul, Value.cells, Value.oneCell', eq_self, ne_eq, Int.reduceToNat, Int.reduceEq, Int.reduceLT, Int.reduceLE, Int.reduceNeg, if_true, if_false, reduceCtorEq, Nat.reduceSub, storeV_ptr, slcV_slice, ↓mwD, mwU]
        refine (refKept_c k _ _ L[m] (stepU s1 L[m]).2 w8.drew ⟨_, _, _, rfl⟩ ⟨_, _, _, rfl⟩).use ?_
        rintro _ w9 ⟨rfl, x9⟩
        refine ⟨x9, ?_⟩
        rw [keep_eq hk1]
        have x89 : Ext wl w9 := hx8.trans ((Ext.drew _).trans x9)
        obtain ⟨g, cap, hv2, hg0, hg1, hgf, hgc, hrow'⟩ := own_set (i := m + (histU s).reverse.length) (keepU s1 L[m]) (Own.ext hrow x89) (by omega)
        have hgw3 : g < w3.heap.size := (hg3 g (by rw [hv2]; rfl)).2
        subst hv2
        have hbg : (0 : Int) ≤ ((m + (histU s).reverse.length : Nat) : Int) ∧ ((m + (histU s).reverse.length : Nat) : Int) < (((histU s).reverse.length + L.length : Nat) : Int) := by omega
        simp -dsimp -implicitDefEqProofs only [h11, h1, h2, h4, h8, h9, hwz, hbg, hgf, hgc, and_self, m16, sF16, Nat.reduceEqDiff, ↓reduceIte, Nat.reduceAdd, Nat.reduceMul, Value.cells, Value.oneCell', eq_self, ne_eq, Int.reduceToNat, Int.reduceEq, Int.reduceLT, Int.reduceLE, Int.reduceNeg, if_true, if_false, reduceCtorEq, Nat.reduceSub, storeV_ptr, slcV_slice, ↓mwD, mwU]
        have hgc' : g ≠ wl.heap.size := by omega
        have hg0' : g ≠ w.heap.size := by omega
        have hg1' : g ≠ w.heap.size + 1 := by omega
        have hcb10 := (hb8.ext ((Ext.drew w8).trans x9)).ne hgc' (m + (histU s).reverse.length) (.int .i64 (keepU s1 L[m]))
        have hB10 := (hB0.ext x89).ne hg0' (m + (histU s).reverse.length) (.int .i64 (keepU s1 L[m]))
        have hC10 := (hB1.ext x89).ne hg1' (m + (histU s).reverse.length) (.int .i64 (keepU s1 L[m]))
        have hO10 := Own.same' (w' := w9.setCell ⟨g, m + (histU s).reverse.length, none⟩ (.int .i64 (keepU s1 L[m]))) (Own.ext hout x89) (fun q hq => Below.heap_setCell _ _ _ _ (fun e => by have := Own.ge hout q hq; have e' : q = g := e; omega))
        have x10 : Ext w (w9.setCell ⟨g, m + (histU s).reverse.length, none⟩ (.int .i64 (keepU s1 L[m]))) := (hxl.trans x89).setCell (show w.heap.size ≤ g by omega) _
        have hs10 : (w9.setCell ⟨g, m + (histU s).reverse.length, none⟩ (.int .i64 (keepU s1 L[m]))).heap.size = w9.heap.size := by simp [World.setCell]
        generalize hW10 : w9.setCell ⟨g, m + (histU s).reverse.length, none⟩ (.int .i64 (keepU s1 L[m])) = w10 at *
        have g4 := hcb10.get (o := 4) rfl
        have g5 := hcb10.get (o := 5) rfl
        have hB11 := (hB10.drew.set 4 (.int .i64 (levU (stepU s1 L[m]).1))).set 5 (.int .i64 op2)
        have k4 := hB10.get (o := 4) rfl
        have k5 := (hB10.drew.set 4 (.int .i64 (levU (stepU s1 L[m]).1))).get (o := 5) rfl
        have hne01 : w.heap.size ≠ w.heap.size + 1 := by omega
        have hC11 := (hC10.drew.ne hne01 4 (.int .i64 (levU (stepU s1 L[m]).1))).ne hne01 5 (.int .i64 op2)
        refine mwpB_draw (fun w' => w'.cell? ⟨wl.heap.size, 4, none⟩ = some (.int .i64 (levU (stepU s1 L[m]).1)) ∧ w'.cell? ⟨wl.heap.size, 5, none⟩ = some (.int .i64 op2)) ⟨g4, g5⟩ ?_
        simp -dsimp -implicitDefEqProofs only [h11, h1, h2, h4, h8, h9, m16, sF16, Nat.reduceEqDiff, ↓reduceIte, Nat.reduceAdd, Nat.reduceMul, Value.cells, Value.oneCell', eq_self, ne_eq, Int.reduceToNat, Int.reduceEq, Int.reduceLT, Int.reduceLE, Int.reduceNeg, if_true, if_false, reduceCtorEq, Nat.reduceSub, storeV_ptr, slcV_slice, ↓mwD, mwU]
        refine softB_load (v := .int .i64 (levU (stepU s1 L[m]).1)) (fun w' hw' => ?_) ?_
        · simp -dsimp -implicitDefEqProofs only [hw'.1, m16, sF16, Nat.reduceEqDiff, ↓reduceIte, Nat.reduceAdd, Nat.reduceMul, Value.cells, Value.oneCell', eq_self, ne_eq, Int.reduceToNat, Int.reduceEq, Int.reduceLT, Int.reduceLE, Int.reduceNeg, if_true, if_false, reduceCtorEq, Nat.reduceSub, storeV_ptr, slcV_slice, ↓mwD, mwU]
        simp -dsimp -implicitDefEqProofs only [h11, h1, h2, h4, h8, h9, m16, sF16, Nat.reduceEqDiff, ↓reduceIte, Nat.reduceAdd, Nat.reduceMul, Value.cells, Value.oneCell', eq_self, ne_eq, Int.reduceToNat, Int.reduceEq, Int.reduceLT, Int.reduceLE, Int.reduceNeg, if_true, if_false, reduceCtorEq, Nat.reduceSub, storeV_ptr, slcV_slice, ↓mwD, mwU]
        refine softB_load (v := .int .i64 op2) (fun w' hw' => ?_) ?_
        · simp -dsimp -implicitDefEqProofs only [hw'.2, m16, sF16, Nat.reduceEqDiff, ↓reduceIte, Nat.reduceAdd, Nat.reduceMul, Value.cells, Value.oneCell', eq_self, ne_eq, Int.reduceToNat, Int.reduceEq, Int.reduceLT, Int.reduceLE, Int.reduceNeg, if_true, if_false, reduceCtorEq, Nat.reduceSub, storeV_ptr, slcV_slice, ↓mwD, mwU]
        have x11 : Ext w ((w10.drew.setCell ⟨w.heap.size, 4, none⟩ (.int .i64 (levU (stepU s1 L[m]).1))).setCell ⟨w.heap.size, 5, none⟩ (.int .i64 op2)) := (x10.drew'.setCell (Nat.le_refl _) _).setCell (Nat.le_refl _) _
        have hg4' : (w10.drew.setCell ⟨w.heap.size, 4, none⟩ (.int .i64 (levU (stepU s1 L[m]).1))).cell? ⟨wl.heap.size, 4, none⟩ = some (.int .i64 (levU (stepU s1 L[m]).1)) := (hcb10.drew.ne (show w.heap.size ≠ wl.heap.size by omega) 4 _).get (o := 4) rfl
        have hg5' : (w10.drew.setCell ⟨w.heap.size, 4, none⟩ (.int .i64 (levU (stepU s1 L[m]).1))).cell? ⟨wl.heap.size, 5, none⟩ = some (.int .i64 op2) := (hcb10.drew.ne (show w.heap.size ≠ wl.heap.size by omega) 4 _).get (o := 5) rfl
        have hfz := (hB10.drew.set 4 (.int .i64 (levU (stepU s1 L[m]).1))).frozen 5
        have hfz4 := hB10.drew.frozen 4
        simp -dsimp -implicitDefEqProofs only [h11, h1, h2, h4, h8, h9, k4, k5, hfz4, hfz, and_self, bs_one, m16, sF16, Nat.reduceEqDiff, ↓reduceIte, Nat.reduceAdd, Nat.reduceMul, Value.cells, Value.oneCell', eq_self, ne_eq, Int.reduceToNat, Int.reduceEq, Int.reduceLT, Int.reduceLE, Int.reduceNeg, if_true, if_false, reduceCtorEq, Nat.reduceSub, storeV_ptr, slcV_slice, ↓mwD, mwU]
        refine ⟨⟨hg4', hg5'⟩, ?_⟩
        have hs11 : ((w10.drew.setCell ⟨w.heap.size, 4, none⟩ (.int .i64 (levU (stepU s1 L[m]).1))).setCell ⟨w.heap.size, 5, none⟩ (.int .i64 op2)).heap.size = w9.heap.size := by rw [← hs10]; simp [World.setCell]
        have same11 : ∀ q, q ≠ w.heap.size → ((w10.drew.setCell ⟨w.heap.size, 4, none⟩ (.int .i64 (levU (stepU s1 L[m]).1))).setCell ⟨w.heap.size, 5, none⟩ (.int .i64 op2)).heap[q]? = w10.heap[q]? := fun q hq => (Below.heap_setCell _ _ _ _ (fun e => hq e)).trans (Below.heap_setCell _ _ _ _ (fun e => hq e))
        have hO11 := Own.same' (w' := (w10.drew.setCell ⟨w.heap.size, 4, none⟩ (.int .i64 (levU (stepU s1 L[m]).1))).setCell ⟨w.heap.size, 5, none⟩ (.int .i64 op2)) hO10 (fun q hq => same11 q (by have := Own.ge hout q hq; omega))
        have hgq : ∀ q, (Value.slice (some ⟨g, 0, none⟩) ((histU s).reverse.length + L.length) cap).ownBlock = some q → q ≠ w.heap.size := fun q hq => by
          have hq' : g = q := by simpa [Value.ownBlock] using hq
          omega
        have hR11 := Own.same' (w' := (w10.drew.setCell ⟨w.heap.size, 4, none⟩ (.int .i64 (levU (stepU s1 L[m]).1))).setCell ⟨w.heap.size, 5, none⟩ (.int .i64 op2)) hrow' (fun q hq => same11 q (hgq q hq))
        generalize hW11 : (w10.drew.setCell ⟨w.heap.size, 4, none⟩ (.int .i64 (levU (stepU s1 L[m]).1))).setCell ⟨w.heap.size, 5, none⟩ (.int .i64 op2) = w11 at *
        have hl9 := x89.le
        obtain ⟨v12, w12, ha12, hown12, hg12⟩ := append_int hO11 (stepU s1 L[m]).2 (by omega) (by omega)
        have hge12 := Own.ge hO11
        have hw1 : IntKind.i64.wrap ((m : Int) + 1) = ((m + 1 : Nat) : Int) := by rw [w64 (by omega) (by omega)]; omega
        refine appB.mk ha12 ?_
        simp -dsimp -implicitDefEqProofs only [h11, h1, h2, h4, h8, h9, hw1, m16, sF16, Nat.reduceEqDiff, ↓reduceIte, Nat.reduceAdd, Nat.reduceMul, Value.cells, Value.oneCell', eq_self, ne_eq, Int.reduceToNat, Int.reduceEq, Int.reduceLT, Int.reduceLE, Int.reduceNeg, if_true, if_false, reduceCtorEq, Nat.reduceSub, storeV_ptr, slcV_slice, ↓mwD, mwU]
        have keep12 : ∀ q, q < w11.heap.size → (∀ q', (e 10).ownBlock = some q' → q' ≠ q) → w12.heap[q]? = w11.heap[q]? := fun q hq hne => (hg12.block q (by simp; omega) (fun e => hne q e.symm rfl)).trans (Below.heap_alloc _ _ _ hq)
        have hrun : runU s (L.take (m + 1)) = ((stepU s1 L[m]).1, (runU s (L.take m)).2 ++ [(stepU s1 L[m]).2]) := by
          rw [List.take_add_one, List.getElem?_eq_getElem hml, ← hs1]; exact runU_snoc _ _ _
        have hz1 : L.length - m = (L.length - (m + 1)) + 1 := by omega
        have x12 : Ext w w12 := Ext.grown (x11.alloc' _) hg12 (fun k hk => by have := hge12 k hk; omega)
        refine ⟨⟨m + 1, K ++ [keepU s1 L[m]], op2, by omega, by simp [hK], rfl, x12, ?_, ?_, ?_, ?_, ?_, ?_, ?_⟩, by simp only [intOf]; omega⟩
        · have := hg12.size
          simp at this
          omega
        · rw [hrun]
          unfold Bk at hB11 ⊢
          rw [keep12 _ (by omega) (fun q' hq' => by have := hge12 q' hq'; omega)]
          exact hB11
        · unfold Bk at hC11 ⊢
          rw [keep12 _ (by omega) (fun q' hq' => by have := hge12 q' hq'; omega)]
          exact hC11
        · rw [hrun]; exact hop2
        · rw [hz1, set_mid _ _ _ _ _ (by omega)] at hR11
          refine Own.same' hR11 (fun q hq => ?_)
          have hq2 : g = q := by simpa [Value.ownBlock] using hq
          subst hq2
          exact keep12 g (by omega) (fun q' hq' => by have := hge12 q' hq'; omega)
        · rw [hrun]
          exact window_step hK hwin L[m]
        · rw [hrun]
          exact hown12
      · have hml : m = L.length := by omega
        subst hml
        have hlr : (histU s).reverse.length = (histU s).length := List.length_reverse
        rw [List.take_length] at hB0 hop hwin hout
        obtain ⟨pz, cz, hslc, hSz, hzb⟩ := own_slc (i := L.length) (j := L.length + (histU s).reverse.length) hrow (by omega) (by omega) (by omega)
        have hwz : IntKind.i64.wrap ((L.length : Int) + (histU s).reverse.length) = ((L.length + (histU s).reverse.length : Nat) : Int) := by rw [w64 (by omega) (by omega)]; omega
        have hzl : L.length + (histU s).reverse.length - L.length = (histU s).reverse.length := by omega
        rw [hzl] at hslc hSz hzb
        have hlw := congrArg List.length hwin
        simp only [List.length_drop, List.length_append, hK] at hlw
        have hzw : (((histU s).reverse ++ K ++ List.replicate (L.length - L.length) 0).drop L.length).take (histU s).reverse.length = (histU (runU s L).1).reverse := by
          rw [Nat.sub_self, List.replicate_zero, List.append_nil, hwin, List.take_of_length_le (by omega)]
        rw [hzw] at hSz
        obtain ⟨v12, w12, ha12, x12, ho12, _⟩ := app_row (w8 := wl) (v := .slice none 0 0) (n := 0) (xs := []) (Ext.refl _) (World.ownsRow_nil _ _ _ _) hSz (by omega) (by rw [← hlw]; omega)
        have hS12 : SlI w12 v12 (histU (runU s L).1).reverse := ow_sl (by simpa using ho12)
        have hge12 := Own.ge ho12
        obtain ⟨p12, c12, rfl, hp12, _⟩ := hS12.shape
        have hB12 := hB0.ext x12
        have hC12 := hB1.ext x12
        have k3 := hB12.get (o := 3) rfl
        have hfz3 := hB12.frozen 3
        have hB13 := hB12.set 3 (.slice p12 (histU (runU s L).1).reverse.length c12)
        have hC13 := hC12.ne (show w.heap.size ≠ w.heap.size + 1 by omega) 3 (.slice p12 (histU (runU s L).1).reverse.length c12)
        have x13 : Ext w (w12.setCell ⟨w.heap.size, 3, none⟩ (.slice p12 (histU (runU s L).1).reverse.length c12)) := (hxl.trans x12).setCell (Nat.le_refl _) _
        simp -dsimp -implicitDefEqProofs only [h11, h1, h2, h4, h8, h9, hwz, hslc, m16, sF16, Nat.reduceEqDiff, ↓reduceIte, Nat.reduceAdd, Nat.reduceMul, Value.cells, Value.oneCell', eq_self, ne_eq, Int.reduceToNat, Int.reduceEq, Int.reduceLT, Int.reduceLE, Int.reduceNeg, if_true, if_false, reduceCtorEq, Nat.reduceSub, storeV_ptr, ↓mwD, mwU]
        refine appB.mk ha12 ?_
        obtain ⟨w14, hs14, hb14, hf14⟩ := store_ref hC13 rfl k (levU (runU s L).1) op' pa pt p12 A.length ca T.length ct (histU (runU s L).1).reverse.length c12
        have c0 := hB13.get (o := 0) rfl
        have c1 := hB13.get (o := 1) rfl
        have c2 := hB13.get (o := 2) rfl
        have c3 := hB13.get (o := 3) rfl
        have c4 := hB13.get (o := 4) rfl
        have c5 := hB13.get (o := 5) rfl
        have d0 := hb14.get (o := 0) rfl
        have d1 := hb14.get (o := 1) rfl
        have d2 := hb14.get (o := 2) rfl
        have d3 := hb14.get (o := 3) rfl
        have d4 := hb14.get (o := 4) rfl
        have d5 := hb14.get (o := 5) rfl
        have x14 : Ext w w14 := hf14.ext x13 (by simp)
        simp -dsimp -implicitDefEqProofs only [h11, h1, h2, h4, h8, h9, k3, hfz3, and_self, m16, sF16, Nat.reduceEqDiff, ↓reduceIte, Nat.reduceAdd, Nat.reduceMul, Value.cells, Value.oneCell', eq_self, ne_eq, Int.reduceToNat, Int.reduceEq, Int.reduceLT, Int.reduceLE, Int.reduceNeg, if_true, if_false, reduceCtorEq, Nat.reduceSub, storeV_ptr, slcV_slice, ↓mwD, mwU]
        simp -dsimp -implicitDefEqProofs only [h11, h1, h2, h4, h8, h9, c0, c1, c2, c3, c4, c5, hs14, d0, d1, d2, d3, d4, d5, m16, sF16, Nat.reduceEqDiff, ↓reduceIte, Nat.reduceAdd, Nat.reduceMul, Value.cells, Value.oneCell', eq_self, ne_eq, Int.reduceToNat, Int.reduceEq, Int.reduceLT, Int.reduceLE, Int.reduceNeg, if_true, if_false, reduceCtorEq, Nat.reduceSub, slcV_slice, ↓mwD, mwU]
        refine ⟨x14, ?_⟩
        rw [if_pos hsm]
        have hlo := Own.ge hout
        have same14 : Same (fun q => q ≠ w.heap.size ∧ q ≠ w.heap.size + 1) w12 w14 := fun q hq => (hf14.block q (by simpa using hq.2)).trans (Below.heap_setCell _ _ _ _ (fun e => hq.1 e))
        refine ⟨_, op', _, rfl, ?_, ?_, hop, fun q hq => ?_, fun q hq => ?_⟩
        · exact Sl.same (cs := ints (histU (runU s L).1).reverse) hS12 same14 (fun _ q hq => by have := hge12 q hq; have := hwl; exact ⟨by omega, by omega⟩)
        · exact Sl.same (cs := ints (runU s L).2) ((ow_sl hout).ext x12) same14 (fun _ q hq => by have := hlo q hq; exact ⟨by omega, by omega⟩)
        · have := hge12 q hq
          have := hxl.le
          omega
        · have := hlo q hq
          have := hxx3.le
          omega
end Go.Proofs.YtefcfnmmpnjjjaaGreatDoor

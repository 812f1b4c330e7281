/- Filters: plain laws; the reference's Parts and Filter; NewParts, Count. -/
import Derived.Test.YtefcfnmmpnjjjaaEffX
import Derived.Test.YtefcfnmmpnjjjaaMwRf
namespace Go.Proofs.Ytefcfnmmpnjjjaa
open Go.RowKit
set_option linter.unusedSimpArgs false

/-- What a filter makes of samples, behind those that came (the last one first). -/
def filtL (T : List Int) : List Int → List Int → List Int
  | _, [] => []
  | h, x :: L => bnd (rnd (dotI T (x :: h))) :: filtL T (x :: h) L
theorem filtL_length (T : List Int) : ∀ (L h : List Int), (filtL T h L).length = L.length
  | [], h => rfl
  | x :: L, h => by simp [filtL, filtL_length T L]
theorem filtL_append (T : List Int) : ∀ (A h B : List Int), filtL T h (A ++ B) = filtL T h A ++ filtL T (A.reverse ++ h) B
  | [], h, B => rfl
  | x :: A, h, B => by simp [filtL, filtL_append T A (x :: h) B]
theorem filtL_snoc (T : List Int) (A h : List Int) (x : Int) : filtL T h (A ++ [x]) = filtL T h A ++ [bnd (rnd (dotI T (x :: (A.reverse ++ h))))] := by
  rw [filtL_append]; rfl

theorem dotI_nil (T : List Int) : dotI T [] = 0 := by cases T <;> rfl
theorem dotI_congr : ∀ (T X Y : List Int), (∀ k, k < T.length → X.getD k 0 = Y.getD k 0) → dotI T X = dotI T Y
  | [], X, Y, _ => by cases X <;> cases Y <;> rfl
  | t :: T, X, Y, h => by
    have e : ∀ Z : List Int, dotI (t :: T) Z = t * Z.getD 0 0 + dotI T Z.tail := fun Z => by cases Z <;> simp [dotI, dotI_nil]
    rw [e, e, h 0 (by simp), dotI_congr T X.tail Y.tail fun k hk => ?_]
    have := h (k + 1) (by simpa using hk)
    simpa [List.getD_eq_getElem?_getD, List.getElem?_tail] using this
theorem dotI_short : ∀ (T X : List Int) (k : Nat), X.length ≤ k → dotI (T.take k) X = dotI T X
  | [], X, k, _ => by simp
  | t :: T, [], k, _ => by rw [dotI_nil, dotI_nil]
  | t :: T, x :: X, 0, h => by simp at h
  | t :: T, x :: X, k + 1, h => by simp only [List.take_succ_cons, dotI]; rw [dotI_short T X k (by simpa using h)]
theorem dotI_cons (T : List Int) (j : Nat) (t x : Int) (h : List Int) (ht : T[j]? = some t) : dotI (T.drop j) (x :: h) = dotI (T.drop (j + 1)) h + t * x := by
  obtain ⟨hj, rfl⟩ := List.getElem?_eq_some_iff.1 ht
  rw [List.drop_eq_getElem_cons hj, dotI]; omega

/-- The unit of kind 4 is that filter. -/
theorem runU_filt (T : List Int) : ∀ (L l h : List Int), l.length + 1 = T.length → (∀ k, k < l.length → l.getD k 0 = h.getD k 0) → (runU (.filter l T) L).2 = filtL T h L
  | [], l, h, _, _ => rfl
  | x :: L, l, h, hl, hk => by
    have e : dotI T (x :: l) = dotI T (x :: h) := dotI_congr T _ _ fun k hkT => by
      cases k with
      | zero => rfl
      | succ k => simpa using hk k (by omega)
    have ih := runU_filt T L (pushL l x) (x :: h) (by rw [pushL_length]; exact hl) fun k hkl => by
      rw [pushL_length] at hkl
      have h0 : l ≠ [] := by rintro rfl; simp at hkl
      rw [pushL, if_neg h0]
      cases k with
      | zero => rfl
      | succ k =>
        have := hk k (by omega)
        simp only [List.getD_cons_succ]
        rw [← this, List.getD_eq_getElem?_getD, List.getD_eq_getElem?_getD, List.getElem?_dropLast, if_pos (by omega)]
    simp only [runU, stepU, filtL]
    rw [e]
    congr 1

theorem taps_iff {T : List Int} (h : tapsB T = true) : 1 ≤ T.length ∧ T.length ≤ 512 ∧ ∀ t ∈ T, -65536 ≤ t ∧ t ≤ 65536 := by
  simp only [tapsB, Bool.and_eq_true, Bool.not_eq_true', List.any_eq_false, wtn_iff] at h
  refine ⟨by omega, by omega, fun t ht => ?_⟩
  have := h.2 t ht
  simpa [wtn_iff] using this

theorem quo_facts {T : List Int} {n : Int} (h1 : 1 ≤ n) (h2 : n ≤ 512) (h3 : T.length ≤ 600) : IntKind.i64.wrap ((T.length : Int) + n) = T.length + n ∧ IntKind.i64.wrap ((T.length : Int) + n - 1) = T.length + n - 1 ∧
    IntKind.i64.wrap (Int.tdiv ((T.length : Int) + n - 1) n) = ((T.length : Int) + n - 1) / n ∧ n ≠ 0 := by
  have hq : Int.tdiv ((T.length : Int) + n - 1) n = ((T.length : Int) + n - 1) / n := Int.tdiv_eq_ediv_of_nonneg (by omega)
  have hb : 0 ≤ ((T.length : Int) + n - 1) / n := Int.ediv_nonneg (by omega) (by omega)
  have hc : ((T.length : Int) + n - 1) / n ≤ (T.length : Int) + n - 1 := Int.ediv_le_self _ (by omega)
  exact ⟨w64 (by omega) (by omega), w64 (by omega) (by omega), by rw [hq]; exact w64 (by omega) (by omega), by omega⟩

theorem refParts_c {w : World} {v : Value} {T : List Int} {n : Int} (hT : SlI w v T) (hn : T.length ≤ 600) : Rets Go.Proofs.Try.prog 18 #[v, .int .i64 n] w fun r w' => Ext w w' ∧
    r = if tapsB T = false then .tuple #[.int .i64 0, .int .i64 1] else if n < 1 ∨ 512 < n then .tuple #[.int .i64 0, .int .i64 7] else .tuple #[.int .i64 ((T.length + n - 1) / n), .int .i64 0] := by
  obtain ⟨p, c, rfl, _, _⟩ := hT.shape
  refine en18 ?_
  simp -dsimp -implicitDefEqProofs only [m18, sF18, Nat.reduceEqDiff, ↓reduceIte, Nat.reduceAdd, Nat.reduceMul, Value.cells, Value.oneCell', eq_self, ne_eq, Int.reduceToNat, Int.reduceEq, Int.reduceLT, Int.reduceLE, Int.reduceNeg, if_true, if_false, reduceCtorEq, Nat.reduceSub, storeV_ptr, slcV_slice, ↓mwD, mwU]
  refine (Taps_c _ T w hT).use ?_
  rintro r w' ⟨rfl, rfl⟩
  cases htp : tapsB T
  · simp -dsimp -implicitDefEqProofs only [m18, sF18, Nat.reduceEqDiff, ↓reduceIte, Nat.reduceAdd, Nat.reduceMul, Value.cells, Value.oneCell', eq_self, ne_eq, Int.reduceToNat, Int.reduceEq, Int.reduceLT, Int.reduceLE, Int.reduceNeg, if_true, if_false, reduceCtorEq, Nat.reduceSub, storeV_ptr, slcV_slice, ↓mwD, mwU]
    exact Ext.refl _
  simp -dsimp -implicitDefEqProofs only [m18, sF18, Nat.reduceEqDiff, ↓reduceIte, Nat.reduceAdd, Nat.reduceMul, Value.cells, Value.oneCell', eq_self, ne_eq, Int.reduceToNat, Int.reduceEq, Int.reduceLT, Int.reduceLE, Int.reduceNeg, if_true, if_false, reduceCtorEq, Nat.reduceSub, storeV_ptr, slcV_slice, ↓mwD, mwU]
  refine iteW_dec (fun h1 => ?_) (fun h1 => ?_)
  · simp -dsimp -implicitDefEqProofs only [h1, m18, sF18, Nat.reduceEqDiff, ↓reduceIte, Nat.reduceAdd, Nat.reduceMul, Value.cells, Value.oneCell', eq_self, ne_eq, Int.reduceToNat, Int.reduceEq, Int.reduceLT, Int.reduceLE, Int.reduceNeg, if_true, if_false, reduceCtorEq, Nat.reduceSub, storeV_ptr, slcV_slice, ↓mwD, mwU]
    exact ⟨Ext.refl _, by simp [h1]⟩
  simp -dsimp -implicitDefEqProofs only [h1, m18, sF18, Nat.reduceEqDiff, ↓reduceIte, Nat.reduceAdd, Nat.reduceMul, Value.cells, Value.oneCell', eq_self, ne_eq, Int.reduceToNat, Int.reduceEq, Int.reduceLT, Int.reduceLE, Int.reduceNeg, if_true, if_false, reduceCtorEq, Nat.reduceSub, storeV_ptr, slcV_slice, ↓mwD, mwU]
  refine iteW_dec (fun h2 => ?_) (fun h2 => ?_)
  · simp -dsimp -implicitDefEqProofs only [h1, h2, m18, sF18, Nat.reduceEqDiff, ↓reduceIte, Nat.reduceAdd, Nat.reduceMul, Value.cells, Value.oneCell', eq_self, ne_eq, Int.reduceToNat, Int.reduceEq, Int.reduceLT, Int.reduceLE, Int.reduceNeg, if_true, if_false, reduceCtorEq, Nat.reduceSub, storeV_ptr, slcV_slice, ↓mwD, mwU]
    exact ⟨Ext.refl _, by simp [h2]⟩
  have hq := quo_facts (T := T) (n := n) (by omega) (by omega) hn
  simp -dsimp -implicitDefEqProofs only [h1, h2, hq.1, hq.2.1, hq.2.2.1, hq.2.2.2, m18, sF18, Nat.reduceEqDiff, ↓reduceIte, Nat.reduceAdd, Nat.reduceMul, Value.cells, Value.oneCell', eq_self, ne_eq, Int.reduceToNat, Int.reduceEq, Int.reduceLT, Int.reduceLE, Int.reduceNeg, if_true, if_false, reduceCtorEq, Nat.reduceSub, storeV_ptr, slcV_slice, ↓mwD, mwU]
  have : ¬ (n < 1 ∨ 512 < n) := by omega
  exact ⟨Ext.refl _, by simp [this]⟩

/-- A filter in parts: its taps, its length, and what is to be added to the frames that come: f j to the j-th from now. -/
def RP (pend : List Int) (a n : Nat) (f : Nat → Int) : Prop := pend.length = n ∧ a < n ∧ ∀ j, j < n → pend[ringIx n a j]? = some (f j)
theorem RP.congr {pend : List Int} {a n : Nat} {f g : Nat → Int} (h : RP pend a n f) (hg : ∀ j, j < n → f j = g j) : RP pend a n g := ⟨h.1, h.2.1, fun j hj => by rw [h.2.2 j hj, hg j hj]⟩
theorem ringIx_inj {n a i j : Nat} (_ : a < n) (hi : i < n) (hj : j < n) (h : ringIx n a i = ringIx n a j) : i = j := by
  unfold ringIx at h; split at h <;> split at h <;> omega
theorem RP.set {pend : List Int} {a n : Nat} {f : Nat → Int} (h : RP pend a n f) {m : Nat} (hm : m < n) (v : Int) : RP (pend.set (ringIx n a m) v) a n (fun j => if j = m then v else f j) := by
  obtain ⟨h1, h2, h3⟩ := h
  refine ⟨by simpa using h1, h2, fun j hj => ?_⟩
  dsimp only
  by_cases hjm : j = m
  · subst hjm
    rw [if_pos rfl, List.getElem?_set_self (by rw [h1]; exact ringIx_lt h2 hj)]
  · rw [if_neg hjm, List.getElem?_set_ne (fun e => hjm (ringIx_inj h2 hm hj e).symm)]
    exact h3 j hj
theorem ringIx_zero {n a : Nat} (ha : a < n) : ringIx n a 0 = a := by unfold ringIx; split <;> omega
theorem RP.next {pend : List Int} {a n : Nat} {f : Nat → Int} (h : RP pend a n f) : RP (pend.set a 0) ((a + 1) % n) n (fun j => if j + 1 < n then f (j + 1) else 0) := by
  have hs := h.set (m := 0) (by have := h.2.1; omega) 0
  rw [ringIx_zero h.2.1] at hs
  obtain ⟨h1, h2, h3⟩ := hs
  have ha1 : (a + 1) % n = if a + 1 < n then a + 1 else 0 := by
    split
    · rename_i hlt; rw [Nat.mod_eq_of_lt hlt]
    · have : a + 1 = n := by omega
      rw [this]; exact Nat.mod_self n
  rw [ha1]
  refine ⟨h1, by split <;> omega, fun j hj => ?_⟩
  dsimp only
  by_cases hjn : j + 1 < n
  · rw [if_pos hjn]
    have := h3 (j + 1) hjn
    dsimp only at this
    rw [if_neg (by omega)] at this
    rw [← this]
    congr 1
    unfold ringIx
    split <;> split <;> split <;> omega
  · rw [if_neg hjn]
    have := h3 0 (by omega)
    dsimp only at this
    rw [if_pos rfl, ringIx_zero h2] at this
    rw [← this]
    congr 1
    unfold ringIx
    split <;> split <;> omega

structure PAt (w : World) (b tb to cap r : Nat) (T : List Int) (len : Int) (a : Nat) (f : Nat → Int) : Prop where
  bk : Bk w b [.slice (some ⟨tb, to, none⟩) T.length cap, .int .i64 len, .slice (some ⟨r, 0, none⟩) T.length T.length, .int .i64 a] 64
  taps : SlI w (.slice (some ⟨tb, to, none⟩) T.length cap) T
  pend : ∃ pend, Bk w r (ints pend) 3 ∧ RP pend a T.length f
  br : b ≠ r
  tbb : tb ≠ b
  tbr : tb ≠ r

theorem bv_parts (tb to n cap r m k : Nat) (len : Int) : buildV Go.Proofs.Try.prog 64 [(0, .slice (some ⟨tb, to, none⟩) n cap), (1, .int .i64 len), (2, .slice (some ⟨r, 0, none⟩) m k)] = some (.agg #[.slice (some ⟨tb, to, none⟩) n cap, .int .i64 len, .slice (some ⟨r, 0, none⟩) m k, .int .i64 0]) := by kernel_rfl

theorem NewParts_c {w : World} {v : Value} {T : List Int} {n : Int} (hT : SlI w v T) : Rets Go.Proofs.Try.prog 17 #[v, .int .i64 n] w fun r w' => Ext w w' ∧
    if tapsB T = false then r = .tuple #[.pointer none, .int .i64 1] else if n < 1 ∨ 512 < n then r = .tuple #[.pointer none, .int .i64 7] else
      ∃ b tb to cap rr, r = .tuple #[.pointer (some ⟨b, 0, none⟩), .int .i64 0] ∧ PAt w' b tb to cap rr T n 0 (fun _ => 0) ∧ w.heap.size ≤ b ∧ w.heap.size ≤ tb ∧ w.heap.size ≤ rr := by
  obtain ⟨p, c, rfl, _, _⟩ := hT.shape
  refine en17 ?_
  simp -dsimp -implicitDefEqProofs only [m17, sF17, Nat.reduceEqDiff, ↓reduceIte, Nat.reduceAdd, Nat.reduceMul, Value.cells, Value.oneCell', eq_self, ne_eq, Int.reduceToNat, Int.reduceEq, Int.reduceLT, Int.reduceLE, Int.reduceNeg, if_true, if_false, reduceCtorEq, Nat.reduceSub, storeV_ptr, slcV_slice, ↓mwD, mwU]
  refine (taps_c _ T w hT).use ?_
  rintro r w' ⟨rfl, rfl⟩
  cases htp : tapsB T
  · simp -dsimp -implicitDefEqProofs only [m17, sF17, Nat.reduceEqDiff, ↓reduceIte, Nat.reduceAdd, Nat.reduceMul, Value.cells, Value.oneCell', eq_self, ne_eq, Int.reduceToNat, Int.reduceEq, Int.reduceLT, Int.reduceLE, Int.reduceNeg, if_true, if_false, reduceCtorEq, Nat.reduceSub, storeV_ptr, slcV_slice, ↓mwD, mwU]
    exact Ext.refl _
  simp -dsimp -implicitDefEqProofs only [m17, sF17, Nat.reduceEqDiff, ↓reduceIte, Nat.reduceAdd, Nat.reduceMul, Value.cells, Value.oneCell', eq_self, ne_eq, Int.reduceToNat, Int.reduceEq, Int.reduceLT, Int.reduceLE, Int.reduceNeg, if_true, if_false, reduceCtorEq, Nat.reduceSub, storeV_ptr, slcV_slice, ↓mwD, mwU]
  refine (within_c _ _ _ _).use ?_
  rintro r w1 ⟨rfl, rfl⟩
  obtain ⟨l1, l2, l3⟩ := taps_iff htp
  cases hw : wtn n 1 512
  · have : n < 1 ∨ 512 < n := by
      have h := mt (wtn_iff (n := n) (a := 1) (b := 512)).2 (by rw [hw]; simp)
      omega
    simp -dsimp -implicitDefEqProofs only [m17, sF17, Nat.reduceEqDiff, ↓reduceIte, Nat.reduceAdd, Nat.reduceMul, Value.cells, Value.oneCell', eq_self, ne_eq, Int.reduceToNat, Int.reduceEq, Int.reduceLT, Int.reduceLE, Int.reduceNeg, if_true, if_false, reduceCtorEq, Nat.reduceSub, storeV_ptr, slcV_slice, ↓mwD, mwU]
    exact ⟨Ext.refl _, by simp [this]⟩
  · have hn := wtn_iff.1 hw
    have hneg : ¬ (n < 1 ∨ 512 < n) := by omega
    simp -dsimp -implicitDefEqProofs only [m17, sF17, Nat.reduceEqDiff, ↓reduceIte, Nat.reduceAdd, Nat.reduceMul, Value.cells, Value.oneCell', eq_self, ne_eq, Int.reduceToNat, Int.reduceEq, Int.reduceLT, Int.reduceLE, Int.reduceNeg, if_true, if_false, reduceCtorEq, Nat.reduceSub, storeV_ptr, slcV_slice, ↓mwD, mwU]
    have key : ∀ (W : World) (r1 : Value) (g2 : Nat), Ext w1 W → W.ownsRow w1.heap.size 3 1 r1 T.length (ints T) → Bk W g2 (ints (List.replicate T.length 0)) 3 → w1.heap.size ≤ g2 → r1.ownBlock ≠ some g2 →
        ∃ tb cap, r1 = .slice (some ⟨tb, 0, none⟩) T.length cap ∧ Ext w1 (W.alloc (.cells #[.slice (some ⟨tb, 0, none⟩) T.length cap, .int .i64 n, .slice (some ⟨g2, 0, none⟩) T.length T.length, .int .i64 0] 64)) ∧
          PAt (W.alloc (.cells #[.slice (some ⟨tb, 0, none⟩) T.length cap, .int .i64 n, .slice (some ⟨g2, 0, none⟩) T.length T.length, .int .i64 0] 64)) W.heap.size tb 0 cap g2 T n 0 (fun _ => 0) ∧ w1.heap.size ≤ W.heap.size ∧ w1.heap.size ≤ tb := by
      intro W r1 g2 hx ho hb hg hne
      have hsl := ow_sl ho
      have hlt := World.ownsRow.lt ho
      rcases ho.2 with ⟨_, h0⟩ | ⟨tb, cap, cur, rfl, hge, _⟩
      · omega
      · have hne' : tb ≠ g2 := fun e => hne (by rw [e]; rfl)
        have htl := (hlt tb rfl).2
        have hbl := hb.lt
        refine ⟨tb, cap, rfl, hx.alloc' _, ⟨Bk.new _ _ _, Sl.ext (cs := ints T) hsl (Ext.alloc _ _), ⟨List.replicate T.length 0, hb.ext (Ext.alloc _ _), by simp, by omega, fun j hj => ?_⟩, by omega, by omega, hne'⟩, hx.le, hge⟩
        rw [List.getElem?_replicate, if_pos (ringIx_lt (by omega) hj)]
    have hmk := makeS_ints (n := (T.length : Int)) (by omega) (by omega)
    rw [Int.toNat_natCast] at hmk
    refine mwpB_draw (fun _ => True) trivial ?_
    simp -dsimp -implicitDefEqProofs only [m17, sF17, Nat.reduceEqDiff, ↓reduceIte, Nat.reduceAdd, Nat.reduceMul, Value.cells, Value.oneCell', eq_self, ne_eq, Int.reduceToNat, Int.reduceEq, Int.reduceLT, Int.reduceLE, Int.reduceNeg, if_true, if_false, reduceCtorEq, Nat.reduceSub, storeV_ptr, slcV_slice, ↓mwD, mwU]
    refine planB_alt ?_ (planB_alt ?_ planB_no)
    · simp -dsimp -implicitDefEqProofs only [m17, sF17, Nat.reduceEqDiff, ↓reduceIte, Nat.reduceAdd, Nat.reduceMul, Value.cells, Value.oneCell', eq_self, ne_eq, Int.reduceToNat, Int.reduceEq, Int.reduceLT, Int.reduceLE, Int.reduceNeg, if_true, if_false, reduceCtorEq, Nat.reduceSub, storeV_ptr, slcV_slice, ↓mwD, mwU]
      refine (CloneI_c _ T w1.drew (SlI.ext hT (Ext.refl _).drew') (by omega)).use ?_
      rintro r1 w2 ⟨hx2, ho2⟩
      have hx := ((Ext.refl w1).drew').trans hx2
      have hl2 := World.ownsRow.lt ho2
      obtain ⟨tb, cap, rfl, k1, k2, k3, k4⟩ := key (w2.alloc (.cells (ints (List.replicate T.length 0)).toArray 3)) r1 w2.heap.size (hx.alloc' _) (Own.ext ho2 (Ext.alloc _ _)) (Bk.new _ _ _) hx.le (fun e => by have := (hl2 _ e).2; omega)
      simp -dsimp -implicitDefEqProofs only [hmk, bv_parts, m17, sF17, Nat.reduceEqDiff, ↓reduceIte, Nat.reduceAdd, Nat.reduceMul, Value.cells, Value.oneCell', eq_self, ne_eq, Int.reduceToNat, Int.reduceEq, Int.reduceLT, Int.reduceLE, Int.reduceNeg, if_true, if_false, reduceCtorEq, Nat.reduceSub, storeV_ptr, slcV_slice, ↓mwD, mwU]
      exact ⟨k1, by rw [if_neg hneg]; exact ⟨_, _, _, _, _, rfl, k2, k3, k4, hx.le⟩⟩
    · simp -dsimp -implicitDefEqProofs only [hmk, m17, sF17, Nat.reduceEqDiff, ↓reduceIte, Nat.reduceAdd, Nat.reduceMul, Value.cells, Value.oneCell', eq_self, ne_eq, Int.reduceToNat, Int.reduceEq, Int.reduceLT, Int.reduceLE, Int.reduceNeg, if_true, if_false, reduceCtorEq, Nat.reduceSub, storeV_ptr, slcV_slice, ↓mwD, mwU]
      refine (CloneI_c _ T _ (SlI.ext hT (((Ext.refl _).drew').alloc' _)) (by omega)).use ?_
      rintro r1 w2 ⟨hx2, ho2⟩
      have hx := (((Ext.refl w1).drew').alloc' (.cells (ints (List.replicate T.length 0)).toArray 3)).trans hx2
      have hge := Own.ge ho2
      have hd : w1.drew.heap.size = w1.heap.size := rfl
      obtain ⟨tb, cap, rfl, k1, k2, k3, k4⟩ := key w2 r1 w1.drew.heap.size hx (Own.mono ho2 (by simp)) ((Bk.new _ _ _).ext hx2) (by omega) (fun e => by have := hge _ e; simp at this; omega)
      simp -dsimp -implicitDefEqProofs only [bv_parts, m17, sF17, Nat.reduceEqDiff, ↓reduceIte, Nat.reduceAdd, Nat.reduceMul, Value.cells, Value.oneCell', eq_self, ne_eq, Int.reduceToNat, Int.reduceEq, Int.reduceLT, Int.reduceLE, Int.reduceNeg, if_true, if_false, reduceCtorEq, Nat.reduceSub, storeV_ptr, slcV_slice, ↓mwD, mwU]
      exact ⟨k1, by rw [if_neg hneg]; exact ⟨_, _, _, _, _, rfl, k2, k3, k4, by omega⟩⟩

theorem Count_c {w : World} {b tb to cap r : Nat} {T : List Int} {n : Int} {a : Nat} {f : Nat → Int} (h : PAt w b tb to cap r T n a f) (h1 : 1 ≤ n) (h2 : n ≤ 512) (h3 : T.length ≤ 600) :
    Rets Go.Proofs.Try.prog 19 #[.pointer (some ⟨b, 0, none⟩)] w fun v w' => v = .int .i64 ((T.length + n - 1) / n) ∧ Ext w w' := by
  have hq := quo_facts (T := T) h1 h2 h3
  have c0 := h.bk.get (o := 0) rfl
  have c1 := h.bk.get (o := 1) rfl
  refine en19 ?_
  simp -dsimp -implicitDefEqProofs only [m19, sF19, Nat.reduceEqDiff, ↓reduceIte, Nat.reduceAdd, Nat.reduceMul, Value.cells, Value.oneCell', eq_self, ne_eq, Int.reduceToNat, Int.reduceEq, Int.reduceLT, Int.reduceLE, Int.reduceNeg, if_true, if_false, reduceCtorEq, Nat.reduceSub, storeV_ptr, slcV_slice, ↓mwD, mwU]
  refine mwpB_drawE ?_
  simp -dsimp -implicitDefEqProofs only [c0, c1, hq.1, hq.2.1, hq.2.2.1, hq.2.2.2, m19, sF19, Nat.reduceEqDiff, ↓reduceIte, Nat.reduceAdd, Nat.reduceMul, Value.cells, Value.oneCell', eq_self, ne_eq, Int.reduceToNat, Int.reduceEq, Int.reduceLT, Int.reduceLE, Int.reduceNeg, if_true, if_false, reduceCtorEq, Nat.reduceSub, storeV_ptr, slcV_slice, ↓mwD, mwU]
  exact (Ext.refl _).drew'

theorem tx_bd {t x : Int} (h1 : -65536 ≤ t ∧ t ≤ 65536) (h2 : Smp x) : -549755748352 ≤ t * x ∧ t * x ≤ 549755748352 := by
  have := dotI_bd [t] [x] 1 (fun y hy => by simp at hy; subst hy; exact h1) (fun y hy => by simp at hy; subst hy; exact h2) (by simp)
  simp only [dotI] at this
  omega

/-- The reference's plain sum. -/
theorem Filter_c {w : World} {v u : Value} {T L : List Int} (hT : SlI w v T) (hL : SlI w u L) (h1 : T.length ≤ 512) (hTb : ∀ t ∈ T, -65536 ≤ t ∧ t ≤ 65536) (hl : L.length ≤ 4096) (hs : Smps L) :
    Rets Go.Proofs.Try.prog 22 #[v, u] w fun r w' => SlI w' r (filtL T [] L) ∧ Ext w w' ∧ ∀ q, r.ownBlock = some q → w.heap.size ≤ q := by
  obtain ⟨p, cp, rfl, _, _⟩ := hT.shape
  obtain ⟨q, cq, rfl, _, _⟩ := hL.shape
  refine en22 ?_
  simp -dsimp -implicitDefEqProofs only [m22, sF22, Nat.reduceEqDiff, ↓reduceIte, Nat.reduceAdd, Nat.reduceMul, Value.cells, Value.oneCell', eq_self, ne_eq, Int.reduceToNat, Int.reduceEq, Int.reduceLT, Int.reduceLE, Int.reduceNeg, if_true, if_false, reduceCtorEq, Nat.reduceSub, storeV_ptr, slcV_slice, ↓mwD, mwU]
  refine mwpB_loop (fun e ds wl => ∃ n : Nat, n ≤ L.length ∧ e 6 = .int .i64 n ∧ e 0 = .slice p T.length cp ∧ e 1 = .slice q L.length cq ∧ ds = [] ∧ Ext w wl ∧ wl.ownsRow w.heap.size 3 1 (e 5) n (ints (filtL T [] (L.take n)))) (fun e _ => L.length - (intOf (e 6)).toNat) ?_ ?_
  · simp -dsimp -implicitDefEqProofs only [m22, sF22, Nat.reduceEqDiff, ↓reduceIte, Nat.reduceAdd, Nat.reduceMul, Value.cells, Value.oneCell', eq_self, ne_eq, Int.reduceToNat, Int.reduceEq, Int.reduceLT, Int.reduceLE, Int.reduceNeg, if_true, if_false, reduceCtorEq, Nat.reduceSub, storeV_ptr, slcV_slice, ↓mwD, mwU]
    exact ⟨0, by omega, rfl, Ext.refl _, World.ownsRow_nil _ _ _ _⟩
  · rintro e ds wl ⟨n, hn, k6, k0, k1, rfl, hx, ho⟩
    simp -dsimp -implicitDefEqProofs only [k6, k0, k1, m22, sF22, Nat.reduceEqDiff, ↓reduceIte, Nat.reduceAdd, Nat.reduceMul, Value.cells, Value.oneCell', eq_self, ne_eq, Int.reduceToNat, Int.reduceEq, Int.reduceLT, Int.reduceLE, Int.reduceNeg, if_true, if_false, reduceCtorEq, Nat.reduceSub, storeV_ptr, slcV_slice, ↓mwD, mwU]
    refine iteW_dec (fun hlt => ?_) (fun hge => ?_)
    · have hnl : n < L.length := by omega
      obtain ⟨bl, ol, cl, hv, hcl⟩ := hL.some (by omega)
      cases hv
      have hrev : ∀ k, k ≤ n → ((L.take (n + 1)).reverse).getD k 0 = L.getD (n - k) 0 := fun k hk => by
        rw [List.getD_eq_getElem?_getD, List.getElem?_reverse (by simp; omega), List.getElem?_take, List.length_take, Nat.min_eq_left (by omega), if_pos (by omega), List.getD_eq_getElem?_getD]
        congr 2
      have hsm : Smps ((L.take (n + 1)).reverse) := fun x hx => hs x (List.mem_of_mem_take (List.mem_reverse.1 hx))
      simp -dsimp -implicitDefEqProofs only [k6, k0, k1, m22, sF22, Nat.reduceEqDiff, ↓reduceIte, Nat.reduceAdd, Nat.reduceMul, Value.cells, Value.oneCell', eq_self, ne_eq, Int.reduceToNat, Int.reduceEq, Int.reduceLT, Int.reduceLE, Int.reduceNeg, if_true, if_false, reduceCtorEq, Nat.reduceSub, storeV_ptr, slcV_slice, ↓mwD, mwU]
      refine mwpB_loop (fun e' df wm => ∃ k : Nat, k ≤ T.length ∧ k ≤ n + 1 ∧ e' 8 = .int .i64 k ∧ e' 7 = .int .i64 (dotI (T.take k) ((L.take (n + 1)).reverse)) ∧ e' 6 = .int .i64 n ∧ e' 0 = .slice p T.length cp ∧ e' 1 = .slice (some ⟨bl, ol, none⟩) L.length cq ∧ e' 5 = e 5 ∧ df = [] ∧ Ext wl wm) (fun e _ => T.length - (intOf (e 8)).toNat) ?_ ?_
      · simp -dsimp -implicitDefEqProofs only [k6, k0, k1, m22, sF22, Nat.reduceEqDiff, ↓reduceIte, Nat.reduceAdd, Nat.reduceMul, Value.cells, Value.oneCell', eq_self, ne_eq, Int.reduceToNat, Int.reduceEq, Int.reduceLT, Int.reduceLE, Int.reduceNeg, if_true, if_false, reduceCtorEq, Nat.reduceSub, storeV_ptr, slcV_slice, ↓mwD, mwU]
        exact ⟨0, by omega, by omega, rfl, by simp [dotI], Ext.refl _⟩
      · rintro e1 df wm ⟨k, hk, hkn, m8, m7, m6, m0, m1, m5, rfl, hm⟩
        simp -dsimp -implicitDefEqProofs only [m8, m7, m6, m0, m1, m22, sF22, Nat.reduceEqDiff, ↓reduceIte, Nat.reduceAdd, Nat.reduceMul, Value.cells, Value.oneCell', eq_self, ne_eq, Int.reduceToNat, Int.reduceEq, Int.reduceLT, Int.reduceLE, Int.reduceNeg, if_true, if_false, reduceCtorEq, Nat.reduceSub, storeV_ptr, slcV_slice, ↓mwD, mwU]
        refine iteW_dec (fun hkl => ?_) (fun hkl => ?_)
        · have hkT : k < T.length := by omega
          simp -dsimp -implicitDefEqProofs only [m8, m7, m6, m0, m1, hkl, m22, sF22, Nat.reduceEqDiff, ↓reduceIte, Nat.reduceAdd, Nat.reduceMul, Value.cells, Value.oneCell', eq_self, ne_eq, Int.reduceToNat, Int.reduceEq, Int.reduceLT, Int.reduceLE, Int.reduceNeg, if_true, if_false, reduceCtorEq, Nat.reduceSub, storeV_ptr, slcV_slice, ↓mwD, mwU]
          refine iteW_dec (fun hkn' => ?_) (fun hkn' => ?_)
          · have hkn2 : k ≤ n := by omega
            obtain ⟨bt, ot, ct, hvt, hct⟩ := hT.some (by omega)
            cases hvt
            have q1 := (hx.trans hm).cell (hct k T[k] (by simp [hkT]))
            have q2 := (hx.trans hm).cell (hcl (n - k) L[n - k] (by simp))
            have hb1 : (0 : Int) ≤ k ∧ (k : Int) < T.length := by omega
            have hsub : IntKind.i64.wrap ((n : Int) - k) = ((n - k : Nat) : Int) := by rw [w64 (by omega) (by omega)]; omega
            have hb2 : (0 : Int) ≤ ((n - k : Nat) : Int) ∧ ((n - k : Nat) : Int) < L.length := by omega
            have hTk := hTb T[k] (by simp)
            have hLk : Smp L[n - k] := hs _ (by simp)
            have hmb : -549755748352 ≤ T[k] * L[n - k] ∧ T[k] * L[n - k] ≤ 549755748352 := tx_bd hTk hLk
            have hmul : IntKind.i64.wrap (T[k] * L[n - k]) = T[k] * L[n - k] := w64 (by omega) (by omega)
            have hd1 := dotI_bd (T.take k) ((L.take (n + 1)).reverse) 512 (fun y hy => hTb y (List.mem_of_mem_take hy)) hsm (by simp; omega)
            have hadd : IntKind.i64.wrap (dotI (T.take k) ((L.take (n + 1)).reverse) + T[k] * L[n - k]) = dotI (T.take (k + 1)) ((L.take (n + 1)).reverse) := by
              rw [w64 (by omega) (by omega), dotI_take_succ T _ k T[k] (by simp), hrev k hkn2, List.getD_eq_getElem?_getD, List.getElem?_eq_getElem (by omega)]; rfl
            have hw2 : IntKind.i64.wrap ((k : Int) + 1) = ((k + 1 : Nat) : Int) := by rw [w64 (by omega) (by omega)]; omega
            simp -dsimp -implicitDefEqProofs only [m8, m7, m6, m0, m1, hkl, hkn', m22, sF22, Nat.reduceEqDiff, ↓reduceIte, Nat.reduceAdd, Nat.reduceMul, Value.cells, Value.oneCell', eq_self, ne_eq, Int.reduceToNat, Int.reduceEq, Int.reduceLT, Int.reduceLE, Int.reduceNeg, if_true, if_false, reduceCtorEq, Nat.reduceSub, storeV_ptr, slcV_slice, ↓mwD, mwU]
            refine mwpB_drawE ?_
            simp -dsimp -implicitDefEqProofs only [m8, m7, m6, m0, m1, hb1, hb2, and_self, q1, q2, hsub, hmul, hadd, hw2, m22, sF22, Nat.reduceEqDiff, ↓reduceIte, Nat.reduceAdd, Nat.reduceMul, Value.cells, Value.oneCell', eq_self, ne_eq, Int.reduceToNat, Int.reduceEq, Int.reduceLT, Int.reduceLE, Int.reduceNeg, if_true, if_false, reduceCtorEq, Nat.reduceSub, storeV_ptr, slcV_slice, ↓mwD, mwU]
            exact ⟨⟨k + 1, by omega, by omega, rfl, rfl, m5, hm.drew'⟩, by simp only [intOf, m8]; omega⟩
          · have e7 : dotI (T.take k) ((L.take (n + 1)).reverse) = dotI T ((L.take (n + 1)).reverse) := dotI_short T _ k (by simp; omega)
            rw [e7] at m7
            have hdb := dotI_bd T ((L.take (n + 1)).reverse) 512 hTb hsm h1
            have hfl : filtL T [] (L.take (n + 1)) = filtL T [] (L.take n) ++ [bnd (rnd (dotI T ((L.take (n + 1)).reverse)))] := by
              have e : L.take (n + 1) = L.take n ++ [L[n]] := by rw [List.take_add_one, List.getElem?_eq_getElem hnl]; rfl
              rw [e, filtL_snoc, List.append_nil, List.reverse_append]; rfl
            have hw1 : IntKind.i64.wrap ((n : Int) + 1) = ((n + 1 : Nat) : Int) := by rw [w64 (by omega) (by omega)]; omega
            simp -dsimp -implicitDefEqProofs only [m8, m7, m6, m0, m1, m5, hkl, hkn', m22, sF22, Nat.reduceEqDiff, ↓reduceIte, Nat.reduceAdd, Nat.reduceMul, Value.cells, Value.oneCell', eq_self, ne_eq, Int.reduceToNat, Int.reduceEq, Int.reduceLT, Int.reduceLE, Int.reduceNeg, if_true, if_false, reduceCtorEq, Nat.reduceSub, storeV_ptr, slcV_slice, ↓mwD, mwU]
            refine (Rounded_c (dotI T ((L.take (n + 1)).reverse)) (by omega) (by omega) wm).use ?_
            rintro r w' ⟨rfl, rfl⟩
            simp -dsimp -implicitDefEqProofs only [m22, sF22, Nat.reduceEqDiff, ↓reduceIte, Nat.reduceAdd, Nat.reduceMul, Value.cells, Value.oneCell', eq_self, ne_eq, Int.reduceToNat, Int.reduceEq, Int.reduceLT, Int.reduceLE, Int.reduceNeg, if_true, if_false, reduceCtorEq, Nat.reduceSub, storeV_ptr, slcV_slice, ↓mwD, mwU]
            refine (Bounded_c _ _).use ?_
            rintro r w'' ⟨rfl, rfl⟩
            simp -dsimp -implicitDefEqProofs only [bs_one, m22, sF22, Nat.reduceEqDiff, ↓reduceIte, Nat.reduceAdd, Nat.reduceMul, Value.cells, Value.oneCell', eq_self, ne_eq, Int.reduceToNat, Int.reduceEq, Int.reduceLT, Int.reduceLE, Int.reduceNeg, if_true, if_false, reduceCtorEq, Nat.reduceSub, storeV_ptr, slcV_slice, ↓mwD, mwU]
            have hxw := hx.trans hm
            obtain ⟨v', w7, ha, hown, hg⟩ := append_int (Own.ext ho hm) (bnd (rnd (dotI T ((L.take (n + 1)).reverse)))) (by omega) hxw.le
            refine appB.mk ha ?_
            simp -dsimp -implicitDefEqProofs only [m6, hw1, m22, sF22, Nat.reduceEqDiff, ↓reduceIte, Nat.reduceAdd, Nat.reduceMul, Value.cells, Value.oneCell', eq_self, ne_eq, Int.reduceToNat, Int.reduceEq, Int.reduceLT, Int.reduceLE, Int.reduceNeg, if_true, if_false, reduceCtorEq, Nat.reduceSub, storeV_ptr, slcV_slice, ↓mwD, mwU]
            exact ⟨⟨n + 1, by omega, rfl, m0, m1, (hxw.alloc' _).grown hg (Own.ge ho), by rw [hfl]; exact hown⟩, by simp only [intOf, k6]; omega⟩
        · have hkT : k = T.length := by omega
          subst hkT
          rw [List.take_length] at m7
          have hdb := dotI_bd T ((L.take (n + 1)).reverse) 512 hTb hsm h1
          have hfl : filtL T [] (L.take (n + 1)) = filtL T [] (L.take n) ++ [bnd (rnd (dotI T ((L.take (n + 1)).reverse)))] := by
            have e : L.take (n + 1) = L.take n ++ [L[n]] := by rw [List.take_add_one, List.getElem?_eq_getElem hnl]; rfl
            rw [e, filtL_snoc, List.append_nil, List.reverse_append]; rfl
          have hw1 : IntKind.i64.wrap ((n : Int) + 1) = ((n + 1 : Nat) : Int) := by rw [w64 (by omega) (by omega)]; omega
          simp -dsimp -implicitDefEqProofs only [m8, m7, m6, m0, m1, m5, hkl, m22, sF22, Nat.reduceEqDiff, ↓reduceIte, Nat.reduceAdd, Nat.reduceMul, Value.cells, Value.oneCell', eq_self, ne_eq, Int.reduceToNat, Int.reduceEq, Int.reduceLT, Int.reduceLE, Int.reduceNeg, if_true, if_false, reduceCtorEq, Nat.reduceSub, storeV_ptr, slcV_slice, ↓mwD, mwU]
          refine (Rounded_c (dotI T ((L.take (n + 1)).reverse)) (by omega) (by omega) wm).use ?_
          rintro r w' ⟨rfl, rfl⟩
          simp -dsimp -implicitDefEqProofs only [m22, sF22, Nat.reduceEqDiff, ↓reduceIte, Nat.reduceAdd, Nat.reduceMul, Value.cells, Value.oneCell', eq_self, ne_eq, Int.reduceToNat, Int.reduceEq, Int.reduceLT, Int.reduceLE, Int.reduceNeg, if_true, if_false, reduceCtorEq, Nat.reduceSub, storeV_ptr, slcV_slice, ↓mwD, mwU]
          refine (Bounded_c _ _).use ?_
          rintro r w'' ⟨rfl, rfl⟩
          simp -dsimp -implicitDefEqProofs only [bs_one, m22, sF22, Nat.reduceEqDiff, ↓reduceIte, Nat.reduceAdd, Nat.reduceMul, Value.cells, Value.oneCell', eq_self, ne_eq, Int.reduceToNat, Int.reduceEq, Int.reduceLT, Int.reduceLE, Int.reduceNeg, if_true, if_false, reduceCtorEq, Nat.reduceSub, storeV_ptr, slcV_slice, ↓mwD, mwU]
          have hxw := hx.trans hm
          obtain ⟨v', w7, ha, hown, hg⟩ := append_int (Own.ext ho hm) (bnd (rnd (dotI T ((L.take (n + 1)).reverse)))) (by omega) hxw.le
          refine appB.mk ha ?_
          simp -dsimp -implicitDefEqProofs only [m6, hw1, m22, sF22, Nat.reduceEqDiff, ↓reduceIte, Nat.reduceAdd, Nat.reduceMul, Value.cells, Value.oneCell', eq_self, ne_eq, Int.reduceToNat, Int.reduceEq, Int.reduceLT, Int.reduceLE, Int.reduceNeg, if_true, if_false, reduceCtorEq, Nat.reduceSub, storeV_ptr, slcV_slice, ↓mwD, mwU]
          exact ⟨⟨n + 1, by omega, rfl, m0, m1, (hxw.alloc' _).grown hg (Own.ge ho), by rw [hfl]; exact hown⟩, by simp only [intOf, k6]; omega⟩
    · have hnl : n = L.length := by omega
      subst hnl
      rw [List.take_length] at ho
      simp -dsimp -implicitDefEqProofs only [k6, k0, k1, m22, sF22, Nat.reduceEqDiff, ↓reduceIte, Nat.reduceAdd, Nat.reduceMul, Value.cells, Value.oneCell', eq_self, ne_eq, Int.reduceToNat, Int.reduceEq, Int.reduceLT, Int.reduceLE, Int.reduceNeg, if_true, if_false, reduceCtorEq, Nat.reduceSub, storeV_ptr, slcV_slice, ↓mwD, mwU]
      exact ⟨ow_sl ho, hx, Own.ge ho⟩
end Go.Proofs.Ytefcfnmmpnjjjaa

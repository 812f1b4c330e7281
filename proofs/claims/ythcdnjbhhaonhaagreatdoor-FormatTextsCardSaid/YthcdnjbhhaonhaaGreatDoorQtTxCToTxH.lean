/- Layer 02: tables of words, and a word's place. -/
import Derived.Test.YthcdnjbhhaonhaaGreatDoorQtTxAToTxB
import Derived.Test.YthcdnjbhhaonhaaGreatDoorQtFoFToFoN


namespace Go.Proofs.YthcdnjbhhaonhaaGreatDoor
open Go.RowKit
set_option linter.unusedSimpArgs false

def strs (l : List By) : List Value := l.map fun s => .string (bw s)
def SlS (w : World) (v : Value) (xs : List By) : Prop := Sl w v (strs xs)
theorem strs_length (xs : List By) : (strs xs).length = xs.length := by simp [strs]
theorem strs_get {xs : List By} {k : Nat} (h : k < xs.length) : (strs xs)[k]? = some (.string (bw xs[k])) := by simp [strs, h]
theorem SlS.ext {w w' : World} {v : Value} {xs : List By} (h : SlS w v xs) (he : Ext w w') : SlS w' v xs := Sl.ext h he
theorem SlS.shape {w : World} {v : Value} {xs : List By} (h : SlS w v xs) : ∃ p cap, v = .slice p xs.length cap ∧ xs.length ≤ cap ∧ cap ≤ maxLen := by
  obtain ⟨p, cap, h1, h2, h3⟩ := Sl.shape h
  rw [strs_length] at h1 h2
  exact ⟨p, cap, h1, h2, h3⟩
theorem SlS.get {w : World} {p : Option Addr} {n cap k : Nat} {xs : List By} (h : SlS w (.slice p n cap) xs) (hk : k < xs.length) : ∃ b o, p = some ⟨b, o, none⟩ ∧ w.cell? ⟨b, o + k, none⟩ = some (.string (bw xs[k])) := by
  obtain ⟨b, o, cap', h1, _, _, h4⟩ := Sl.at h (by intro h0; rw [← strs_length, h0] at hk; simp at hk)
  cases h1
  exact ⟨b, o, rfl, h4 k _ (strs_get hk)⟩
theorem bw_eq {a b : By} : bw a = bw b ↔ a = b := ⟨fun h => by cases h; rfl, fun h => by rw [h]⟩
theorem bw_size (a : By) : (bw a).size = a.length := rfl
theorem bw_add (a b : By) : bw a ++ bw b = bw (a ++ b) := by
  apply ByteArray.ext
  rw [ByteArray.data_append]
  exact (Array.ext' (by simp [bw]))
theorem bs_media : buildS Go.Proofs.Tryz.prog 73 4 [(0, .string ⟨#[]⟩), (1, .string ⟨#[97, 117, 100, 105, 111]⟩), (2, .string ⟨#[118, 105, 100, 101, 111]⟩), (3, .string ⟨#[110, 111, 116, 101, 115]⟩)] = some (9, (strs mediaT).toArray) := by kernel_rfl
theorem bs_keys : buildS Go.Proofs.Tryz.prog 73 7 [(0, .string ⟨#[]⟩), (1, .string ⟨#[101, 110, 99, 111, 100, 105, 110, 103]⟩), (2, .string ⟨#[114, 97, 116, 101]⟩), (3, .string ⟨#[99, 104, 97, 110, 110, 101, 108, 115]⟩), (4, .string ⟨#[119, 105, 100, 116, 104]⟩), (5, .string ⟨#[104, 101, 105, 103, 104, 116]⟩), (6, .string ⟨#[109, 111, 100, 105, 102, 105, 101, 114]⟩)] = some (9, (strs keyT).toArray) := by kernel_rfl
/-- A table of words, told anew. -/
def TabQ (T : List By) (w : World) (r : Value) (w' : World) : Prop := Ext w w' ∧ ∃ b, r = .slice (some ⟨b, 0, none⟩) T.length T.length ∧ ∀ k (h : k < T.length), w'.cell? ⟨b, k, none⟩ = some (.string (bw T[k]))
theorem tab_new (w : World) (T : List By) : TabQ T w (.slice (some ⟨w.heap.size, 0, none⟩) T.length T.length) (w.alloc (.cells (strs T).toArray 9)) :=
  ⟨Ext.alloc _ _, _, rfl, fun k h => by have := row_new w (strs T) 9 k _ (strs_get h); simpa using this⟩
theorem TabQ.sl {T : List By} {w w' : World} {r : Value} (h : TabQ T w r w') (hT : T.length ≤ 100) : SlS w' r T := by
  obtain ⟨_, b, rfl, h2⟩ := h
  refine .inr ⟨b, 0, T.length, by rw [strs_length], by rw [strs_length]; omega, by unfold maxLen; omega, fun k v hk => ?_⟩
  have hl := (List.getElem?_eq_some_iff.1 hk).1
  rw [strs_length] at hl
  rw [strs_get hl] at hk
  cases hk
  simpa using h2 k hl
theorem media_c (w : World) : Rets Go.Proofs.Tryz.prog 52 #[] w (TabQ mediaT w) := by
  refine en52 ?_
  simp -dsimp -implicitDefEqProofs only [bs_media, m52, sF52, Nat.reduceEqDiff, ↓reduceIte, Nat.reduceAdd, Nat.reduceMul, Value.cells, Value.oneCell', eq_self, ne_eq, Int.reduceToNat, Int.reduceEq, Int.reduceLT, Int.reduceLE, Int.reduceNeg, if_true, if_false, reduceCtorEq, Nat.reduceSub, storeV_ptr, slcV_slice, ↓mwD, mwU]
  exact tab_new w mediaT
theorem keys_c (w : World) : Rets Go.Proofs.Tryz.prog 53 #[] w (TabQ keyT w) := by
  refine en53 ?_
  simp -dsimp -implicitDefEqProofs only [bs_keys, m53, sF53, Nat.reduceEqDiff, ↓reduceIte, Nat.reduceAdd, Nat.reduceMul, Value.cells, Value.oneCell', eq_self, ne_eq, Int.reduceToNat, Int.reduceEq, Int.reduceLT, Int.reduceLE, Int.reduceNeg, if_true, if_false, reduceCtorEq, Nat.reduceSub, storeV_ptr, slcV_slice, ↓mwD, mwU]
  exact tab_new w keyT
theorem refMedia_c (w : World) : Rets Go.Proofs.Tryz.prog 61 #[] w (TabQ mediaT w) := by
  refine en61 ?_
  simp -dsimp -implicitDefEqProofs only [bs_media, m61, sF61, Nat.reduceEqDiff, ↓reduceIte, Nat.reduceAdd, Nat.reduceMul, Value.cells, Value.oneCell', eq_self, ne_eq, Int.reduceToNat, Int.reduceEq, Int.reduceLT, Int.reduceLE, Int.reduceNeg, if_true, if_false, reduceCtorEq, Nat.reduceSub, storeV_ptr, slcV_slice, ↓mwD, mwU]
  exact tab_new w mediaT
theorem words_c (w : World) : Rets Go.Proofs.Tryz.prog 64 #[] w (TabQ keyT w) := by
  refine en64 ?_
  simp -dsimp -implicitDefEqProofs only [bs_keys, m64, sF64, Nat.reduceEqDiff, ↓reduceIte, Nat.reduceAdd, Nat.reduceMul, Value.cells, Value.oneCell', eq_self, ne_eq, Int.reduceToNat, Int.reduceEq, Int.reduceLT, Int.reduceLE, Int.reduceNeg, if_true, if_false, reduceCtorEq, Nat.reduceSub, storeV_ptr, slcV_slice, ↓mwD, mwU]
  exact tab_new w keyT
theorem idxL_drop {T : List By} {k : Nat} (h : k < T.length) (s : By) (j : Int) : idxL (T.drop k) s j = if s = T[k] then j else idxL (T.drop (k + 1)) s (j + 1) := by
  rw [List.drop_eq_getElem_cons h, idxL]
theorem findL_drop {T : List By} {k : Nat} (h : k < T.length) (s : By) (j : Int) : findL (T.drop k) s j = if T[k] = s then j else findL (T.drop (k + 1)) s (j + 1) := by
  rw [List.drop_eq_getElem_cons h, findL]
theorem IndexS_c (T : List By) (v : Value) (s : By) (w : World) (h : SlS w v T) : Rets Go.Proofs.Tryz.prog 56 #[v, .string (bw s)] w fun r w' => r = .int .i64 (idxL T s 0) ∧ Ext w w' := by
  obtain ⟨q, cap, rfl, hc1, hc2⟩ := h.shape
  refine en56 ?_
  simp -dsimp -implicitDefEqProofs only [m56, sF56, Nat.reduceEqDiff, ↓reduceIte, Nat.reduceAdd, Nat.reduceMul, Value.cells, Value.oneCell', eq_self, ne_eq, Int.reduceToNat, Int.reduceEq, Int.reduceLT, Int.reduceLE, Int.reduceNeg, if_true, if_false, reduceCtorEq, Nat.reduceSub, storeV_ptr, slcV_slice, ↓mwD, mwU]
  refine mwpB_loop (fun e ds w' => ∃ k : Nat, k ≤ T.length ∧ e 8 = .int .i64 k ∧ e 7 = .int .i64 T.length ∧ e 0 = .slice q T.length cap ∧ e 1 = .string (bw s) ∧ ds = [] ∧ w' = w ∧ idxL T s 0 = idxL (T.drop k) s k)
    (fun e _ => T.length - (intOf (e 8)).toNat) ?_ ?_
  · simp -dsimp -implicitDefEqProofs only [m56, sF56, Nat.reduceEqDiff, ↓reduceIte, Nat.reduceAdd, Nat.reduceMul, Value.cells, Value.oneCell', eq_self, ne_eq, Int.reduceToNat, Int.reduceEq, Int.reduceLT, Int.reduceLE, Int.reduceNeg, if_true, if_false, reduceCtorEq, Nat.reduceSub, storeV_ptr, slcV_slice, ↓mwD, mwU]
    exact ⟨0, by omega, rfl, rfl⟩
  · rintro e ds w' ⟨k, hk, h8, h7, h0, h1, rfl, rfl, hi⟩
    simp -dsimp -implicitDefEqProofs only [h8, h7, h0, h1, m56, sF56, Nat.reduceEqDiff, ↓reduceIte, Nat.reduceAdd, Nat.reduceMul, Value.cells, Value.oneCell', eq_self, ne_eq, Int.reduceToNat, Int.reduceEq, Int.reduceLT, Int.reduceLE, Int.reduceNeg, if_true, if_false, reduceCtorEq, Nat.reduceSub, storeV_ptr, slcV_slice, ↓mwD, mwU]
    refine iteW_dec (fun hlt => ?_) (fun hge => ?_)
    · have hlt' : k < T.length := by omega
      obtain ⟨b, o, rfl, q0⟩ := h.get hlt'
      have hb1 : (0 : Int) ≤ k ∧ (k : Int) < T.length := by omega
      have hw := w64_succ hlt' (Nat.le_trans hc1 hc2)
      rw [idxL_drop hlt'] at hi
      by_cases he : s = T[k]
      · have de : decide (s = T[k]) = true := by simp [he]
        rw [if_pos he] at hi
        simp -dsimp -implicitDefEqProofs only [h8, h7, h0, h1, hb1, and_self, q0, binV_eqS, bw_eq, de, m56, sF56, Nat.reduceEqDiff, ↓reduceIte, Nat.reduceAdd, Nat.reduceMul, Value.cells, Value.oneCell', eq_self, ne_eq, Int.reduceToNat, Int.reduceEq, Int.reduceLT, Int.reduceLE, Int.reduceNeg, if_true, if_false, reduceCtorEq, Nat.reduceSub, storeV_ptr, slcV_slice, ↓mwD, mwU]
        exact ⟨by rw [hi], Ext.refl _⟩
      · have de : decide (s = T[k]) = false := by simp [he]
        rw [if_neg he] at hi
        simp -dsimp -implicitDefEqProofs only [h8, h7, h0, h1, hb1, and_self, q0, binV_eqS, bw_eq, de, hw, m56, sF56, Nat.reduceEqDiff, ↓reduceIte, Nat.reduceAdd, Nat.reduceMul, Value.cells, Value.oneCell', eq_self, ne_eq, Int.reduceToNat, Int.reduceEq, Int.reduceLT, Int.reduceLE, Int.reduceNeg, if_true, if_false, reduceCtorEq, Nat.reduceSub, storeV_ptr, slcV_slice, ↓mwD, mwU]
        exact ⟨⟨k + 1, by omega, rfl, by rw [hi]; rfl⟩, by simp only [intOf]; omega⟩
    · have hkl : k = T.length := by omega
      rw [hkl, List.drop_length] at hi
      simp -dsimp -implicitDefEqProofs only [h8, h7, h0, h1, m56, sF56, Nat.reduceEqDiff, ↓reduceIte, Nat.reduceAdd, Nat.reduceMul, Value.cells, Value.oneCell', eq_self, ne_eq, Int.reduceToNat, Int.reduceEq, Int.reduceLT, Int.reduceLE, Int.reduceNeg, if_true, if_false, reduceCtorEq, Nat.reduceSub, storeV_ptr, slcV_slice, ↓mwD, mwU]
      exact ⟨by rw [hi]; rfl, Ext.refl _⟩
theorem find_c (T : List By) (v : Value) (s : By) (w : World) (h : SlS w v T) (hne : 1 ≤ T.length) : Rets Go.Proofs.Tryz.prog 60 #[v, .string (bw s)] w fun r w' => r = .int .i64 (findL T.tail s 1) ∧ Ext w w' := by
  obtain ⟨q, cap, rfl, hc1, hc2⟩ := h.shape
  refine en60 ?_
  simp -dsimp -implicitDefEqProofs only [m60, sF60, Nat.reduceEqDiff, ↓reduceIte, Nat.reduceAdd, Nat.reduceMul, Value.cells, Value.oneCell', eq_self, ne_eq, Int.reduceToNat, Int.reduceEq, Int.reduceLT, Int.reduceLE, Int.reduceNeg, if_true, if_false, reduceCtorEq, Nat.reduceSub, storeV_ptr, slcV_slice, ↓mwD, mwU]
  refine mwpB_loop (fun e ds w' => ∃ k : Nat, k ≤ T.length ∧ 1 ≤ k ∧ e 5 = .int .i64 k ∧ e 0 = .slice q T.length cap ∧ e 1 = .string (bw s) ∧ ds = [] ∧ w' = w ∧ findL T.tail s 1 = findL (T.drop k) s k)
    (fun e _ => T.length - (intOf (e 5)).toNat) ?_ ?_
  · simp -dsimp -implicitDefEqProofs only [m60, sF60, Nat.reduceEqDiff, ↓reduceIte, Nat.reduceAdd, Nat.reduceMul, Value.cells, Value.oneCell', eq_self, ne_eq, Int.reduceToNat, Int.reduceEq, Int.reduceLT, Int.reduceLE, Int.reduceNeg, if_true, if_false, reduceCtorEq, Nat.reduceSub, storeV_ptr, slcV_slice, ↓mwD, mwU]
    exact ⟨1, by omega, by omega, rfl, by rw [List.drop_one]; rfl⟩
  · rintro e ds w' ⟨k, hk, hk1, h5, h0, h1, rfl, rfl, hi⟩
    simp -dsimp -implicitDefEqProofs only [h5, h0, h1, m60, sF60, Nat.reduceEqDiff, ↓reduceIte, Nat.reduceAdd, Nat.reduceMul, Value.cells, Value.oneCell', eq_self, ne_eq, Int.reduceToNat, Int.reduceEq, Int.reduceLT, Int.reduceLE, Int.reduceNeg, if_true, if_false, reduceCtorEq, Nat.reduceSub, storeV_ptr, slcV_slice, ↓mwD, mwU]
    refine iteW_dec (fun hlt => ?_) (fun hge => ?_)
    · have hlt' : k < T.length := by omega
      obtain ⟨b, o, rfl, q0⟩ := h.get hlt'
      have hb1 : (0 : Int) ≤ k ∧ (k : Int) < T.length := by omega
      have hw := w64_succ hlt' (Nat.le_trans hc1 hc2)
      rw [findL_drop hlt'] at hi
      by_cases he : T[k] = s
      · have de : decide (T[k] = s) = true := by simp [he]
        rw [if_pos he] at hi
        simp -dsimp -implicitDefEqProofs only [h5, h0, h1, hb1, and_self, q0, binV_eqS, bw_eq, de, m60, sF60, Nat.reduceEqDiff, ↓reduceIte, Nat.reduceAdd, Nat.reduceMul, Value.cells, Value.oneCell', eq_self, ne_eq, Int.reduceToNat, Int.reduceEq, Int.reduceLT, Int.reduceLE, Int.reduceNeg, if_true, if_false, reduceCtorEq, Nat.reduceSub, storeV_ptr, slcV_slice, ↓mwD, mwU]
        exact ⟨by rw [hi], Ext.refl _⟩
      · have de : decide (T[k] = s) = false := by simp [he]
        rw [if_neg he] at hi
        simp -dsimp -implicitDefEqProofs only [h5, h0, h1, hb1, and_self, q0, binV_eqS, bw_eq, de, hw, m60, sF60, Nat.reduceEqDiff, ↓reduceIte, Nat.reduceAdd, Nat.reduceMul, Value.cells, Value.oneCell', eq_self, ne_eq, Int.reduceToNat, Int.reduceEq, Int.reduceLT, Int.reduceLE, Int.reduceNeg, if_true, if_false, reduceCtorEq, Nat.reduceSub, storeV_ptr, slcV_slice, ↓mwD, mwU]
        exact ⟨⟨k + 1, by omega, by omega, rfl, by rw [hi]; rfl⟩, by simp only [intOf]; omega⟩
    · have hkl : k = T.length := by omega
      rw [hkl, List.drop_length] at hi
      simp -dsimp -implicitDefEqProofs only [h5, h0, h1, m60, sF60, Nat.reduceEqDiff, ↓reduceIte, Nat.reduceAdd, Nat.reduceMul, Value.cells, Value.oneCell', eq_self, ne_eq, Int.reduceToNat, Int.reduceEq, Int.reduceLT, Int.reduceLE, Int.reduceNeg, if_true, if_false, reduceCtorEq, Nat.reduceSub, storeV_ptr, slcV_slice, ↓mwD, mwU]
      exact ⟨by rw [hi]; rfl, Ext.refl _⟩
end Go.Proofs.YthcdnjbhhaonhaaGreatDoor
/- Layer 02: numbers told and read, texts cut; the reference's. -/

namespace Go.Proofs.YthcdnjbhhaonhaaGreatDoor
open Go.RowKit
set_option linter.unusedSimpArgs false

theorem ten_ext : ∀ (u : Nat), u < 10 → (⟨#[48, 49, 50, 51, 52, 53, 54, 55, 56, 57]⟩ : ByteArray).extract u (u + 1) = bw [UInt8.ofNat (48 + u)] := by decide +kernel
theorem ten_in (u : Nat) (h : u < 10) : (0 : Int) ≤ u ∧ (u : Int) ≤ ((u + 1 : Nat) : Int) ∧ ((u + 1 : Nat) : Int) ≤ ((⟨#[48, 49, 50, 51, 52, 53, 54, 55, 56, 57]⟩ : ByteArray).size : Int) := by
  have : (⟨#[48, 49, 50, 51, 52, 53, 54, 55, 56, 57]⟩ : ByteArray).size = 10 := rfl
  rw [this]; omega
theorem binV_addB {P : Program} {t : TypeId} {a b : By} (h : a.length + b.length ≤ 9223372036854775807) : binV P t .add (.string (bw a)) (.string (bw b)) = some (.string (bw (a ++ b))) := by
  show (if (bw a).size + (bw b).size ≤ 9223372036854775807 then some (Value.string (bw a ++ bw b)) else none) = _
  rw [if_pos (show (bw a).size + (bw b).size ≤ 9223372036854775807 from h), bw_add]
theorem dec_len (u : Nat) (hu : u ≤ 1000000000) : (Lib.decDigits u).length ≤ 20 := by
  rw [Lib.decDigits_length]; exact Lib.nDigits_le20 u (by omega)
theorem Decimal_c (u : Nat) (hu : u ≤ 1000000000) : ∀ (w : World), Rets Go.Proofs.Tryz.prog 95 #[.int .i64 u] w fun r w' => r = .string (bw (Lib.decDigits u)) ∧ Ext w w' := by
  induction u using Nat.strongRecOn with
  | _ u ih =>
    intro w
    refine en95 ?_
    have h0 : ¬ (u : Int) < 0 := by omega
    by_cases h : u < 10
    · have h1 : (u : Int) < 10 := by omega
      have hw : IntKind.i64.wrap ((u : Int) + 1) = ((u + 1 : Nat) : Int) := by rw [w64 (by omega) (by omega)]; omega
      have hb := ten_in u h
      have hx := ten_ext u h
      simp -dsimp -implicitDefEqProofs only [h0, h1, hw, hb, and_self, Int.toNat_natCast, hx, m95, sF95, Nat.reduceEqDiff, ↓reduceIte, Nat.reduceAdd, Nat.reduceMul, Value.cells, Value.oneCell', eq_self, ne_eq, Int.reduceToNat, Int.reduceEq, Int.reduceLT, Int.reduceLE, Int.reduceNeg, if_true, if_false, reduceCtorEq, Nat.reduceSub, storeV_ptr, slcV_slice, ↓mwD, mwU]
      rw [Lib.decDigits, dif_pos h]
      exact ⟨rfl, Ext.refl _⟩
    · have h1 : ¬ (u : Int) < 10 := by omega
      have e1 : (u : Int).tmod 10 = ((u % 10 : Nat) : Int) := by rw [Int.tmod_eq_emod_of_nonneg (by omega)]; omega
      have e2 : IntKind.i64.wrap ((u : Int).tdiv 10) = ((u / 10 : Nat) : Int) := by rw [Int.tdiv_eq_ediv_of_nonneg (by omega), w64 (by omega) (by omega)]; omega
      have hw : IntKind.i64.wrap (((u % 10 : Nat) : Int) + 1) = ((u % 10 + 1 : Nat) : Int) := by rw [w64 (by omega) (by omega)]; omega
      have hb := ten_in (u % 10) (by omega)
      have hx := ten_ext (u % 10) (by omega)
      simp -dsimp -implicitDefEqProofs only [h0, h1, m95, sF95, Nat.reduceEqDiff, ↓reduceIte, Nat.reduceAdd, Nat.reduceMul, Value.cells, Value.oneCell', eq_self, ne_eq, Int.reduceToNat, Int.reduceEq, Int.reduceLT, Int.reduceLE, Int.reduceNeg, if_true, if_false, reduceCtorEq, Nat.reduceSub, storeV_ptr, slcV_slice, ↓mwD, mwU]
      refine mwpB_drawE ?_
      simp -dsimp -implicitDefEqProofs only [h0, h1, e1, e2, hw, hb, and_self, Int.toNat_natCast, hx, m95, sF95, Nat.reduceEqDiff, ↓reduceIte, Nat.reduceAdd, Nat.reduceMul, Value.cells, Value.oneCell', eq_self, ne_eq, Int.reduceToNat, Int.reduceEq, Int.reduceLT, Int.reduceLE, Int.reduceNeg, if_true, if_false, reduceCtorEq, Nat.reduceSub, storeV_ptr, slcV_slice, ↓mwD, mwU]
      refine (ih (u / 10) (by omega) (by omega) w.drew).use ?_
      rintro r w2 ⟨rfl, h2⟩
      have hl := dec_len (u / 10) (by omega)
      have ha : ∀ t, binV Go.Proofs.Tryz.prog t .add (.string (bw (Lib.decDigits (u / 10)))) (.string (bw [UInt8.ofNat (48 + u % 10)])) = _ := fun t => binV_addB (by simp only [List.length_singleton]; omega)
      simp -dsimp -implicitDefEqProofs only [h0, h1, e1, e2, hw, hb, and_self, Int.toNat_natCast, hx, h2, ha, m95, sF95, Nat.reduceEqDiff, ↓reduceIte, Nat.reduceAdd, Nat.reduceMul, Value.cells, Value.oneCell', eq_self, ne_eq, Int.reduceToNat, Int.reduceEq, Int.reduceLT, Int.reduceLE, Int.reduceNeg, if_true, if_false, reduceCtorEq, Nat.reduceSub, storeV_ptr, slcV_slice, ↓mwD, mwU]
      have hd : Lib.decDigits u = Lib.decDigits (u / 10) ++ [UInt8.ofNat (48 + u % 10)] := by conv => lhs; rw [Lib.decDigits, dif_neg h]
      rw [hd]
      exact ⟨rfl, (Ext.drew w).trans h2⟩
theorem Itoa_c {n : Int} {w : World} (h : inI n) (hE : EnvS w) : Rets Go.Proofs.Tryz.prog 90 #[.int .i64 n] w fun r w' => r = .string (bw (Lib.itoa n)) ∧ Ext w w' := by
  unfold Rets
  refine (Itoa_a h hE).mono fun e w' ⟨he, hx⟩ => ⟨_, he, ?_, hx⟩
  rw [itoaF_eq h]
/-- Digits. -/
theorem cv_53 {a : Int} {K : Value → Prop} {alt : Prop} {tk : Tk1 K} : convB Go.Proofs.Tryz.prog 5 3 (.int .u8 a) K alt tk = K (.int .i64 (IntKind.i64.wrap a)) := convB_int 5 tok_5 tkind_3
theorem digS_drop {s : By} {k : Nat} (h : k < s.length) (acc : Int) : digS acc (s.drop k) = if (s[k].toNat : Int) < 48 ∨ 57 < (s[k].toNat : Int) ∨ (1000000000 - ((s[k].toNat : Int) - 48)).tdiv 10 < acc then none else digS (10 * acc + ((s[k].toNat : Int) - 48)) (s.drop (k + 1)) := by
  rw [List.drop_eq_getElem_cons h, digS]
theorem bw_get {s : By} {k : Nat} (h : k < s.length) : (bw s)[k]? = some s[k] := by
  show (bw s).data[k]? = _
  simp [bw, h]
theorem Digits_c (s : By) (hs : s.length ≤ 1000000000) (w : World) : Rets Go.Proofs.Tryz.prog 62 #[.string (bw s), .int .i64 1000000000] w fun r w' => r = .int .i64 (digR s) ∧ Ext w w' := by
  refine en62 ?_
  simp -dsimp -implicitDefEqProofs only [m62, sF62, Nat.reduceEqDiff, ↓reduceIte, Nat.reduceAdd, Nat.reduceMul, Value.cells, Value.oneCell', eq_self, ne_eq, Int.reduceToNat, Int.reduceEq, Int.reduceLT, Int.reduceLE, Int.reduceNeg, if_true, if_false, reduceCtorEq, Nat.reduceSub, storeV_ptr, slcV_slice, ↓mwD, mwU]
  refine mwpB_loop (fun e ds w' => ∃ (k : Nat) (acc : Int), k ≤ s.length ∧ 0 ≤ acc ∧ acc ≤ 1000000000 ∧ e 6 = .int .i64 k ∧ e 5 = .int .i64 acc ∧ e 0 = .string (bw s) ∧ e 1 = .int .i64 1000000000 ∧ ds = [] ∧ w' = w ∧ digS 0 s = digS acc (s.drop k))
    (fun e _ => s.length - (intOf (e 6)).toNat) ?_ ?_
  · simp -dsimp -implicitDefEqProofs only [m62, sF62, Nat.reduceEqDiff, ↓reduceIte, Nat.reduceAdd, Nat.reduceMul, Value.cells, Value.oneCell', eq_self, ne_eq, Int.reduceToNat, Int.reduceEq, Int.reduceLT, Int.reduceLE, Int.reduceNeg, if_true, if_false, reduceCtorEq, Nat.reduceSub, storeV_ptr, slcV_slice, ↓mwD, mwU]
    exact ⟨0, 0, by omega, by omega, by omega, rfl, rfl, rfl⟩
  · rintro e ds w' ⟨k, acc, hk, ha0, ha1, h6, h5, h0, h1, rfl, rfl, hd⟩
    simp -dsimp -implicitDefEqProofs only [h6, h5, h0, h1, bw_size, m62, sF62, Nat.reduceEqDiff, ↓reduceIte, Nat.reduceAdd, Nat.reduceMul, Value.cells, Value.oneCell', eq_self, ne_eq, Int.reduceToNat, Int.reduceEq, Int.reduceLT, Int.reduceLE, Int.reduceNeg, if_true, if_false, reduceCtorEq, Nat.reduceSub, storeV_ptr, slcV_slice, ↓mwD, mwU]
    refine iteW_dec (fun hlt => ?_) (fun hge => ?_)
    · have hlt' : k < s.length := by omega
      have hg := bw_get hlt'
      rw [digS_drop hlt'] at hd
      have hb1 : (0 : Int) ≤ k := by omega
      have hw := w64_succ hlt' (show s.length ≤ maxLen by unfold maxLen; omega)
      have hlb := s[k].toNat_lt
      have none' : ((s[k].toNat : Int) < 48 ∨ 57 < (s[k].toNat : Int) ∨ (1000000000 - ((s[k].toNat : Int) - 48)).tdiv 10 < acc) → digR s = -1 := fun h => by
        unfold digR; rw [hd, if_pos h]
      by_cases t1 : (s[k].toNat : Int) < 48
      · simp -dsimp -implicitDefEqProofs only [h6, h5, h0, h1, hb1, hg, Int.toNat_natCast, t1, m62, sF62, Nat.reduceEqDiff, ↓reduceIte, Nat.reduceAdd, Nat.reduceMul, Value.cells, Value.oneCell', eq_self, ne_eq, Int.reduceToNat, Int.reduceEq, Int.reduceLT, Int.reduceLE, Int.reduceNeg, if_true, if_false, reduceCtorEq, Nat.reduceSub, storeV_ptr, slcV_slice, ↓mwD, mwU]
        exact ⟨by rw [none' (.inl t1)], Ext.refl _⟩
      by_cases t2 : 57 < (s[k].toNat : Int)
      · simp -dsimp -implicitDefEqProofs only [h6, h5, h0, h1, hb1, hg, Int.toNat_natCast, t1, t2, m62, sF62, Nat.reduceEqDiff, ↓reduceIte, Nat.reduceAdd, Nat.reduceMul, Value.cells, Value.oneCell', eq_self, ne_eq, Int.reduceToNat, Int.reduceEq, Int.reduceLT, Int.reduceLE, Int.reduceNeg, if_true, if_false, reduceCtorEq, Nat.reduceSub, storeV_ptr, slcV_slice, ↓mwD, mwU]
        exact ⟨by rw [none' (.inr (.inl t2))], Ext.refl _⟩
      have w1 : IntKind.u8.wrap ((s[k].toNat : Int) - 48) = (s[k].toNat : Int) - 48 := by rw [IntKind.wrap_u8]; omega
      have w2 : IntKind.i64.wrap (1000000000 - ((s[k].toNat : Int) - 48)) = 1000000000 - ((s[k].toNat : Int) - 48) := w64 (by omega) (by omega)
      have w3 : IntKind.i64.wrap ((s[k].toNat : Int) - 48) = (s[k].toNat : Int) - 48 := w64 (by omega) (by omega)
      have w4 : IntKind.i64.wrap ((1000000000 - ((s[k].toNat : Int) - 48)).tdiv 10) = (1000000000 - ((s[k].toNat : Int) - 48)).tdiv 10 := by
        have e := Int.tdiv_eq_ediv_of_nonneg (a := 1000000000 - ((s[k].toNat : Int) - 48)) (b := 10) (by omega)
        exact w64 (by omega) (by omega)
      by_cases t3 : (1000000000 - ((s[k].toNat : Int) - 48)).tdiv 10 < acc
      · simp -dsimp -implicitDefEqProofs only [h6, h5, h0, h1, hb1, hg, Int.toNat_natCast, t1, t2, cv_53, w1, w3, w2, w4, t3, m62, sF62, Nat.reduceEqDiff, ↓reduceIte, Nat.reduceAdd, Nat.reduceMul, Value.cells, Value.oneCell', eq_self, ne_eq, Int.reduceToNat, Int.reduceEq, Int.reduceLT, Int.reduceLE, Int.reduceNeg, if_true, if_false, reduceCtorEq, Nat.reduceSub, storeV_ptr, slcV_slice, ↓mwD, mwU]
        exact ⟨by rw [none' (.inr (.inr t3))], Ext.refl _⟩
      · have w5 : IntKind.i64.wrap (10 * acc) = 10 * acc := w64 (by omega) (by omega)
        have w6 : IntKind.i64.wrap (10 * acc + ((s[k].toNat : Int) - 48)) = 10 * acc + ((s[k].toNat : Int) - 48) := w64 (by omega) (by omega)
        have e3 := Int.tdiv_eq_ediv_of_nonneg (a := 1000000000 - ((s[k].toNat : Int) - 48)) (b := 10) (by omega)
        rw [if_neg (by omega)] at hd
        simp -dsimp -implicitDefEqProofs only [h6, h5, h0, h1, hb1, hg, Int.toNat_natCast, t1, t2, cv_53, w1, w3, w2, w4, t3, w5, w6, hw, m62, sF62, Nat.reduceEqDiff, ↓reduceIte, Nat.reduceAdd, Nat.reduceMul, Value.cells, Value.oneCell', eq_self, ne_eq, Int.reduceToNat, Int.reduceEq, Int.reduceLT, Int.reduceLE, Int.reduceNeg, if_true, if_false, reduceCtorEq, Nat.reduceSub, storeV_ptr, slcV_slice, ↓mwD, mwU]
        exact ⟨⟨k + 1, _, by omega, by omega, by omega, rfl, rfl, hd⟩, by simp only [intOf]; omega⟩
    · have hkl : k = s.length := by omega
      rw [hkl, List.drop_length] at hd
      have hd : digS 0 s = some acc := hd
      by_cases z1 : s = []
      · have z1' : decide (bw s = ⟨#[]⟩) = true := by simp only [decide_eq_true_eq]; rw [z1]; rfl
        simp -dsimp -implicitDefEqProofs only [h6, h5, h0, h1, bw_size, hge, binV_eqS, z1', m62, sF62, Nat.reduceEqDiff, ↓reduceIte, Nat.reduceAdd, Nat.reduceMul, Value.cells, Value.oneCell', eq_self, ne_eq, Int.reduceToNat, Int.reduceEq, Int.reduceLT, Int.reduceLE, Int.reduceNeg, if_true, if_false, reduceCtorEq, Nat.reduceSub, storeV_ptr, slcV_slice, ↓mwD, mwU]
        refine ⟨?_, Ext.refl _⟩
        unfold digR
        rw [hd]
        simp [z1]
      have z1' : decide (bw s = ⟨#[]⟩) = false := by
        simp only [decide_eq_false_iff_not]
        exact fun h => z1 (by have := congrArg (fun b : ByteArray => b.data.toList) h; exact this)
      have hpos : 0 < s.length := List.length_pos_iff.2 z1
      have hg := bw_get hpos
      have hh : (s.headD 0 = 48) ↔ (s[0].toNat : Int) = 48 := by
        obtain ⟨x, r, rfl⟩ := List.exists_cons_of_ne_nil z1
        simp only [List.headD_cons, List.getElem_cons_zero]
        constructor
        · rintro rfl; rfl
        · intro h; exact UInt8.toNat_inj.1 (by have h48 : (48 : UInt8).toNat = 48 := rfl; rw [h48]; omega)
      have hne : digR s = if (s[0].toNat : Int) = 48 ∧ 1 < s.length then -1 else acc := by
        unfold digR
        rw [hd]
        simp only [z1, false_or, hh]
      by_cases z2 : (s[0].toNat : Int) = 48
      · have z2' : decide ((s[0].toNat : Int) = 48) = true := by simp [z2]
        by_cases z3 : (1 : Int) < s.length
        · simp -dsimp -implicitDefEqProofs only [h6, h5, h0, h1, bw_size, hge, binV_eqS, z1', hg, z2', z3, m62, sF62, Nat.reduceEqDiff, ↓reduceIte, Nat.reduceAdd, Nat.reduceMul, Value.cells, Value.oneCell', eq_self, ne_eq, Int.reduceToNat, Int.reduceEq, Int.reduceLT, Int.reduceLE, Int.reduceNeg, if_true, if_false, reduceCtorEq, Nat.reduceSub, storeV_ptr, slcV_slice, ↓mwD, mwU]
          exact ⟨by rw [hne, if_pos ⟨z2, by omega⟩], Ext.refl _⟩
        · simp -dsimp -implicitDefEqProofs only [h6, h5, h0, h1, bw_size, hge, binV_eqS, z1', hg, z2', z3, m62, sF62, Nat.reduceEqDiff, ↓reduceIte, Nat.reduceAdd, Nat.reduceMul, Value.cells, Value.oneCell', eq_self, ne_eq, Int.reduceToNat, Int.reduceEq, Int.reduceLT, Int.reduceLE, Int.reduceNeg, if_true, if_false, reduceCtorEq, Nat.reduceSub, storeV_ptr, slcV_slice, ↓mwD, mwU]
          exact ⟨by rw [hne, if_neg (by omega)], Ext.refl _⟩
      · have z2' : decide ((s[0].toNat : Int) = 48) = false := by simp [z2]
        simp -dsimp -implicitDefEqProofs only [h6, h5, h0, h1, bw_size, hge, binV_eqS, z1', hg, z2', m62, sF62, Nat.reduceEqDiff, ↓reduceIte, Nat.reduceAdd, Nat.reduceMul, Value.cells, Value.oneCell', eq_self, ne_eq, Int.reduceToNat, Int.reduceEq, Int.reduceLT, Int.reduceLE, Int.reduceNeg, if_true, if_false, reduceCtorEq, Nat.reduceSub, storeV_ptr, slcV_slice, ↓mwD, mwU]
        exact ⟨by rw [hne, if_neg (fun h => z2 h.1)], Ext.refl _⟩
end Go.Proofs.YthcdnjbhhaonhaaGreatDoor
/- Layer 02: a text cut on one byte, by the reference. -/

namespace Go.Proofs.YthcdnjbhhaonhaaGreatDoor
open Go.RowKit
set_option linter.unusedSimpArgs false

theorem bw_ext (s : By) (a b : Nat) : (bw s).extract a b = bw ((s.drop a).take (b - a)) := by
  apply ByteArray.ext
  rw [ByteArray.data_extract]
  apply Array.ext'
  simp [bw, List.take_drop]
theorem bs_str (x : ByteArray) : buildS Go.Proofs.Tryz.prog 73 1 [(0, .string x)] = some (9, #[.string x]) := by kernel_rfl
theorem strs_app (a b : List By) : strs (a ++ b) = strs a ++ strs b := List.map_append
/-- One more text, onto a slice of the call's own. -/
theorem append_st {w : World} {base : Nat} {v : Value} {xs : List By} (hown : w.ownsRow base 9 1 v xs.length (strs xs)) (x : By) (hn : xs.length ≤ 1000000) (hb : base ≤ w.heap.size) :
    ∃ v' w', (Builtin.append_ #[73, 73] 73 #[v, .slice (some ⟨w.heap.size, 0, none⟩) 1 1]).run Go.Proofs.Tryz.prog (w.alloc (.cells #[.string (bw x)] 9)) = .ok v' w' ∧ w'.ownsRow base 9 1 v' (xs ++ [x]).length (strs (xs ++ [x])) ∧ ∀ {w0 : World}, Ext w0 w → w0.heap.size ≤ base → Ext w0 w' := by
  obtain ⟨v', w', ha, hown', hg⟩ := append_own (P := Go.Proofs.Tryz.prog) (w := w.alloc (.cells #[.string (bw x)] 9)) (t := 73) (ty := 73) (z := .string ⟨#[]⟩) (ats := [73, 73]) rfl telem_73 tok_9 tzero_9 (by rw [tsz_9]; rfl) (by rw [tsz_9]; omega)
    (by rw [tsz_9]; exact Own.ext hown (Ext.alloc _ _)) (a := ⟨w.heap.size, 0, none⟩) (m := 1) (c := 1) (news := [.string (bw x)]) (by rw [tsz_9]; rfl)
    (fun j u hj => by rw [Addr.add_lit, World.cell?_alloc_new]; simpa using hj) (fun u hu => by simp at hu; rw [hu]; rfl) (by unfold maxLen; omega) (by rw [tby_9]; omega) (by simp; omega)
  refine ⟨v', w', ha, ?_, fun h0 hb0 => (h0.trans (Ext.alloc _ _)).grown hg (fun k hk => Nat.le_trans hb0 (World.ownsRow.lt hown k hk).1)⟩
  rw [tsz_9] at hown'
  rw [strs_app, List.length_append]
  exact hown'
theorem refCut_c (s : By) (c : UInt8) (n : Int) (hc : n = c.toNat) (hs : s.length ≤ 1000000) (w : World) : Rets Go.Proofs.Tryz.prog 59 #[.string (bw s), .int .u8 n] w fun r w' => Ext w w' ∧ w'.ownsRow w.heap.size 9 1 r (splitC c s).length (strs (splitC c s)) := by
  refine en59 ?_
  simp -dsimp -implicitDefEqProofs only [m59, sF59, Nat.reduceEqDiff, ↓reduceIte, Nat.reduceAdd, Nat.reduceMul, Value.cells, Value.oneCell', eq_self, ne_eq, Int.reduceToNat, Int.reduceEq, Int.reduceLT, Int.reduceLE, Int.reduceNeg, if_true, if_false, reduceCtorEq, Nat.reduceSub, storeV_ptr, slcV_slice, ↓mwD, mwU]
  refine mwpB_loop (fun e ds w' => ∃ (k m : Nat) (xs : List By) (v : Value), k ≤ s.length ∧ m ≤ k ∧ xs.length ≤ m ∧ e 7 = .int .i64 k ∧ e 6 = .int .i64 m ∧ e 5 = v ∧ e 0 = .string (bw s) ∧ e 1 = .int .u8 n ∧ ds = [] ∧ Ext w w' ∧ w'.ownsRow w.heap.size 9 1 v xs.length (strs xs) ∧ splitC c s = xs ++ splitC c (s.drop m) ∧ c ∉ (s.drop m).take (k - m))
    (fun e _ => s.length - (intOf (e 7)).toNat) ?_ ?_
  · simp -dsimp -implicitDefEqProofs only [m59, sF59, Nat.reduceEqDiff, ↓reduceIte, Nat.reduceAdd, Nat.reduceMul, Value.cells, Value.oneCell', eq_self, ne_eq, Int.reduceToNat, Int.reduceEq, Int.reduceLT, Int.reduceLE, Int.reduceNeg, if_true, if_false, reduceCtorEq, Nat.reduceSub, storeV_ptr, slcV_slice, ↓mwD, mwU]
    exact ⟨0, 0, [], _, by omega, by omega, by simp, rfl, rfl, rfl, Ext.refl _, World.ownsRow_nil _ _ _ _, rfl, by simp⟩
  · rintro e ds w' ⟨k, m, xs, v, hk, hm, hxl, h7, h6, h5, h0, h1, rfl, hx, hown, hsp, hno⟩
    by_cases hlt : (k : Int) < s.length
    · have hlt' : k < s.length := by omega
      have hg := bw_get hlt'
      have hb1 : (0 : Int) ≤ k := by omega
      have hw := w64_succ hlt' (show s.length ≤ maxLen by unfold maxLen; omega)
      have hdk : s.drop m = (s.drop m).take (k - m) ++ s[k] :: s.drop (k + 1) := by
        conv => lhs; rw [← List.take_append_drop (k - m) (s.drop m)]
        rw [List.drop_drop, show m + (k - m) = k by omega, ← List.drop_eq_getElem_cons hlt']
      by_cases he : (s[k].toNat : Int) = n
      · have hce : s[k] = c := UInt8.toNat_inj.1 (by omega)
        have de : decide ((s[k].toNat : Int) = n) = true := by simp [he]
        have hb2 : (0 : Int) ≤ m ∧ (m : Int) ≤ k ∧ (k : Int) ≤ s.length := by omega
        obtain ⟨v', w5, happ, hown5, hext5⟩ := append_st hown ((s.drop m).take (k - m)) (by omega) hx.size
        simp -dsimp -implicitDefEqProofs only [h7, h6, h5, h0, h1, bw_size, hlt, hb1, hg, Int.toNat_natCast, de, hb2, and_self, bw_ext, bs_str, m59, sF59, Nat.reduceEqDiff, ↓reduceIte, Nat.reduceAdd, Nat.reduceMul, Value.cells, Value.oneCell', eq_self, ne_eq, Int.reduceToNat, Int.reduceEq, Int.reduceLT, Int.reduceLE, Int.reduceNeg, if_true, if_false, reduceCtorEq, Nat.reduceSub, storeV_ptr, slcV_slice, ↓mwD, mwU]
        refine appB.mk happ ?_
        simp -dsimp -implicitDefEqProofs only [h7, h6, h5, h0, h1, hw, m59, sF59, Nat.reduceEqDiff, ↓reduceIte, Nat.reduceAdd, Nat.reduceMul, Value.cells, Value.oneCell', eq_self, ne_eq, Int.reduceToNat, Int.reduceEq, Int.reduceLT, Int.reduceLE, Int.reduceNeg, if_true, if_false, reduceCtorEq, Nat.reduceSub, storeV_ptr, slcV_slice, ↓mwD, mwU]
        refine ⟨⟨k + 1, k + 1, xs ++ [(s.drop m).take (k - m)], _, by omega, by omega, by simp; omega, rfl, rfl, rfl, hext5 hx (Nat.le_refl _), hown5, ?_, by simp⟩, by simp only [intOf]; omega⟩
        have hq : splitC c (s.drop m) = (s.drop m).take (k - m) :: splitC c (s.drop (k + 1)) := by
          conv => lhs; rw [hdk, hce, splitC_app _ hno]
        rw [hsp, hq, List.append_assoc]; rfl
      · have hce : s[k] ≠ c := fun h => he (by rw [h]; exact hc.symm)
        have de : decide ((s[k].toNat : Int) = n) = false := by simp [he]
        simp -dsimp -implicitDefEqProofs only [h7, h6, h5, h0, h1, bw_size, hlt, hb1, hg, Int.toNat_natCast, de, hw, m59, sF59, Nat.reduceEqDiff, ↓reduceIte, Nat.reduceAdd, Nat.reduceMul, Value.cells, Value.oneCell', eq_self, ne_eq, Int.reduceToNat, Int.reduceEq, Int.reduceLT, Int.reduceLE, Int.reduceNeg, if_true, if_false, reduceCtorEq, Nat.reduceSub, storeV_ptr, slcV_slice, ↓mwD, mwU]
        refine ⟨⟨k + 1, m, xs, v, by omega, by omega, by omega, rfl, rfl, rfl, hx, hown, hsp, ?_⟩, by simp only [intOf]; omega⟩
        rw [show k + 1 - m = (k - m) + 1 by omega, List.take_succ_eq_append_getElem (by rw [List.length_drop]; omega)]
        intro hm'
        rcases List.mem_append.1 hm' with hm' | hm'
        · exact hno hm'
        · rw [List.mem_singleton, List.getElem_drop] at hm'
          have : s[m + (k - m)] = s[k] := by congr 1; omega
          exact hce (by rw [← this]; exact hm'.symm)
    · have hkl : k = s.length := by omega
      have hb2 : (0 : Int) ≤ m ∧ (m : Int) ≤ s.length := by omega
      have hb3 : (s.length : Int) ≤ s.length := by omega
      have htl : (s.drop m).take (s.length - m) = s.drop m := List.take_of_length_le (by rw [List.length_drop]; omega)
      obtain ⟨v', w5, happ, hown5, hext5⟩ := append_st hown (s.drop m) (by omega) hx.size
      rw [hkl, htl] at hno
      simp -dsimp -implicitDefEqProofs only [h7, h6, h5, h0, h1, bw_size, hlt, hb2, hb3, and_self, Int.toNat_natCast, bw_ext, htl, bs_str, m59, sF59, Nat.reduceEqDiff, ↓reduceIte, Nat.reduceAdd, Nat.reduceMul, Value.cells, Value.oneCell', eq_self, ne_eq, Int.reduceToNat, Int.reduceEq, Int.reduceLT, Int.reduceLE, Int.reduceNeg, if_true, if_false, reduceCtorEq, Nat.reduceSub, storeV_ptr, slcV_slice, ↓mwD, mwU]
      refine appB.mk happ ?_
      simp -dsimp -implicitDefEqProofs only [m59, sF59, Nat.reduceEqDiff, ↓reduceIte, Nat.reduceAdd, Nat.reduceMul, Value.cells, Value.oneCell', eq_self, ne_eq, Int.reduceToNat, Int.reduceEq, Int.reduceLT, Int.reduceLE, Int.reduceNeg, if_true, if_false, reduceCtorEq, Nat.reduceSub, storeV_ptr, slcV_slice, ↓mwD, mwU]
      refine ⟨hext5 hx (Nat.le_refl _), ?_⟩
      rw [hsp, splitC_no hno]
      exact hown5
end Go.Proofs.YthcdnjbhhaonhaaGreatDoor
/- Layer 02: what stands behind "of", heard by the reference. -/

namespace Go.Proofs.YthcdnjbhhaonhaaGreatDoor
open Go.RowKit
set_option linter.unusedSimpArgs false

theorem bs_int (x : Int) : buildS Go.Proofs.Tryz.prog 33 1 [(0, .int .i64 x)] = some (3, #[.int .i64 x]) := by kernel_rfl
theorem bs_int2 (x y : Int) : buildS Go.Proofs.Tryz.prog 33 2 [(0, .int .i64 x), (1, .int .i64 y)] = some (3, #[.int .i64 x, .int .i64 y]) := by kernel_rfl
theorem ints_app (a b : List Int) : ints (a ++ b) = ints a ++ ints b := List.map_append
/-- One more number, onto a slice of the call's own. -/
theorem append_it {w : World} {base : Nat} {v : Value} {xs : List Int} (hown : w.ownsRow base 3 1 v xs.length (ints xs)) (x : Int) (hn : xs.length ≤ 1000000) (hb : base ≤ w.heap.size) :
    ∃ v' w', (Builtin.append_ #[33, 33] 33 #[v, .slice (some ⟨w.heap.size, 0, none⟩) 1 1]).run Go.Proofs.Tryz.prog (w.alloc (.cells #[.int .i64 x] 3)) = .ok v' w' ∧ w'.ownsRow base 3 1 v' (xs ++ [x]).length (ints (xs ++ [x])) ∧ (∀ {w0 : World}, Ext w0 w → w0.heap.size ≤ base → Ext w0 w') ∧
      ∀ {b : Nat} {cs : List Value} {t : TypeId}, Bk w b cs t → t ≠ 3 → Bk w' b cs t := by
  obtain ⟨v', w', ha, hown', hg⟩ := append_own (P := Go.Proofs.Tryz.prog) (w := w.alloc (.cells #[.int .i64 x] 3)) (t := 33) (ty := 33) (z := .int .i64 0) (ats := [33, 33]) rfl telem_33 tok_3 tzero_3 (by rw [tsz_3]; rfl) (by rw [tsz_3]; omega)
    (by rw [tsz_3]; exact Own.ext hown (Ext.alloc _ _)) (a := ⟨w.heap.size, 0, none⟩) (m := 1) (c := 1) (news := [.int .i64 x]) (by rw [tsz_3]; rfl)
    (fun j u hj => by rw [Addr.add_lit, World.cell?_alloc_new]; simpa using hj) (fun u hu => by simp at hu; rw [hu]; rfl) (by unfold maxLen; omega) (by rw [tby_3]; omega) (by simp; omega)
  refine ⟨v', w', ha, ?_, fun h0 hb0 => (h0.trans (Ext.alloc _ _)).grown hg (fun k hk => Nat.le_trans hb0 (World.ownsRow.lt hown k hk).1), fun {b cs t} hk ht => ?_⟩
  · rw [tsz_3] at hown'
    rw [ints_app, List.length_append]
    exact hown'
  · have hl := hk.lt
    have hne : v.ownBlock ≠ some b := fun e => by
      rcases hown.2 with ⟨hv, _⟩ | ⟨g, cap, cur, hv, _, hh, _⟩
      · rw [hv] at e; cases e
      · rw [hv] at e
        simp only [Value.ownBlock, Option.some.injEq] at e
        subst e
        unfold Bk at hk
        rw [hk] at hh
        simp only [Option.some.injEq, Obj.cells.injEq] at hh
        exact ht hh.2.1
    unfold Bk
    rw [hg.block b (by rw [World.size_alloc]; omega) (fun e => hne e.symm), Below.heap_alloc _ _ _ hl]
    exact hk
theorem idxD_drop {s : By} {k : Nat} (h : k + 1 < s.length) : idxF (s.drop k) [46, 46] = if s[k] = 46 ∧ s[k + 1] = 46 then some 0 else (idxF (s.drop (k + 1)) [46, 46]).map (· + 1) := by
  rw [List.drop_eq_getElem_cons (show k < s.length by omega), idxF, List.drop_eq_getElem_cons h]
  have e : ([46, 46] : By).isPrefixOf (s[k] :: s[k + 1] :: s.drop (k + 1 + 1)) = true ↔ s[k] = 46 ∧ s[k + 1] = 46 := by
    simp only [List.isPrefixOf, Bool.and_true, Bool.and_eq_true, beq_iff_eq]
    exact ⟨fun h => ⟨h.1.symm, h.2.symm⟩, fun h => ⟨h.1.symm, h.2.symm⟩⟩
  by_cases hc : s[k] = 46 ∧ s[k + 1] = 46
  · rw [if_pos hc, if_pos (e.2 hc)]
  · rw [if_neg hc, if_neg (fun h => hc (e.1 h))]
theorem idxD_end {s : By} {k : Nat} (h : s.length ≤ k + 1) : idxF (s.drop k) [46, 46] = none := by
  have hl : (s.drop k).length ≤ 1 := by rw [List.length_drop]; omega
  match hd : s.drop k, hl with
  | [], _ => rfl
  | [b], _ => simp [idxF, List.isPrefixOf]
theorem splitC_len (c : UInt8) : ∀ s : By, 1 ≤ (splitC c s).length ∧ (splitC c s).length ≤ s.length + 1
  | [] => by simp [splitC]
  | b :: l => by
    have ih := splitC_len c l
    unfold splitC
    split
    · simp only [List.length_cons]; omega
    · split
      · rename_i h; rw [h] at ih; simp at ih
      · rename_i h; rw [h] at ih; simp only [List.length_cons] at ih ⊢; omega
theorem splitC_sub (c : UInt8) : ∀ s : By, ∀ y ∈ splitC c s, y.length ≤ s.length
  | [], y, h => by simp [splitC] at h; simp [h]
  | b :: l, y, h => by
    have ih := splitC_sub c l
    unfold splitC at h
    split at h
    · rcases List.mem_cons.1 h with rfl | h
      · simp
      · have := ih y h; simp only [List.length_cons]; omega
    · split at h
      · simp at h; rw [h]; simp
      · rename_i x r hs
        rcases List.mem_cons.1 h with rfl | h
        · have := ih x (by rw [hs]; simp)
          simp only [List.length_cons]; omega
        · have := ih y (by rw [hs]; simp [h])
          simp only [List.length_cons]; omega
/-- Two rows of the call's own lie side by side while one of them grows. -/
theorem heard_c (s : By) (hs : s.length ≤ 100000) (w : World) : Rets Go.Proofs.Tryz.prog 63 #[.string (bw s)] w fun r w' => Ext w w' ∧ ∃ v, r = .tuple #[.int .i64 (heaR s).1, v] ∧ w'.ownsRow w.heap.size 3 1 v (heaR s).2.length (ints (heaR s).2) := by
  refine en63 ?_
  simp -dsimp -implicitDefEqProofs only [m63, sF63, Nat.reduceEqDiff, ↓reduceIte, Nat.reduceAdd, Nat.reduceMul, Value.cells, Value.oneCell', eq_self, ne_eq, Int.reduceToNat, Int.reduceEq, Int.reduceLT, Int.reduceLE, Int.reduceNeg, if_true, if_false, reduceCtorEq, Nat.reduceSub, storeV_ptr, slcV_slice, ↓mwD, mwU]
  refine mwpB_loop (fun e ds w' => ∃ k : Nat, k ≤ s.length ∧ e 4 = .int .i64 k ∧ e 0 = .string (bw s) ∧ ds = [] ∧ w' = w ∧ idxF s [46, 46] = (idxF (s.drop k) [46, 46]).map (· + k))
    (fun e _ => s.length - (intOf (e 4)).toNat) ?_ ?_
  · simp -dsimp -implicitDefEqProofs only [m63, sF63, Nat.reduceEqDiff, ↓reduceIte, Nat.reduceAdd, Nat.reduceMul, Value.cells, Value.oneCell', eq_self, ne_eq, Int.reduceToNat, Int.reduceEq, Int.reduceLT, Int.reduceLE, Int.reduceNeg, if_true, if_false, reduceCtorEq, Nat.reduceSub, storeV_ptr, slcV_slice, ↓mwD, mwU]
    exact ⟨0, by omega, rfl, by simp⟩
  · rintro e ds w' ⟨k, hk, h4, h0, rfl, rfl, hi⟩
    have hw : IntKind.i64.wrap ((k : Int) + 1) = ((k + 1 : Nat) : Int) := by rw [w64 (by omega) (by omega)]; omega
    by_cases hlt : ((k + 1 : Nat) : Int) < s.length
    · have hlt' : k + 1 < s.length := by omega
      have hg := bw_get (show k < s.length by omega)
      have hg1 := bw_get hlt'
      have hb1 : (0 : Int) ≤ k := by omega
      have hb2 : (0 : Int) ≤ ((k + 1 : Nat) : Int) := by omega
      rw [idxD_drop hlt'] at hi
      by_cases t1 : (s[k].toNat : Int) = 46
      · by_cases t2 : (s[k + 1].toNat : Int) = 46
        · have d1 : decide ((s[k].toNat : Int) = 46) = true := by simp [t1]
          have d2 : decide ((s[k + 1].toNat : Int) = 46) = true := by simp [t2]
          rw [if_pos ⟨UInt8.toNat_inj.1 (show s[k].toNat = (46 : UInt8).toNat by have : (46 : UInt8).toNat = 46 := rfl; omega), UInt8.toNat_inj.1 (show s[k + 1].toNat = (46 : UInt8).toNat by have : (46 : UInt8).toNat = 46 := rfl; omega)⟩] at hi
          have hi : idxF s [46, 46] = some k := by rw [hi]; simp
          have hw2 : IntKind.i64.wrap ((k : Int) + 2) = ((k + 2 : Nat) : Int) := by rw [w64 (by omega) (by omega)]; omega
          have hb3 : (0 : Int) ≤ ((k + 2 : Nat) : Int) ∧ ((k + 2 : Nat) : Int) ≤ s.length ∧ (s.length : Int) ≤ s.length := by omega
          have htl : (s.drop (k + 2)).take (s.length - (k + 2)) = s.drop (k + 2) := List.take_of_length_le (by rw [List.length_drop]; omega)
          simp -dsimp -implicitDefEqProofs only [h4, h0, bw_size, hw, hlt, hb1, hb2, hg, hg1, Int.toNat_natCast, d1, d2, hw2, hb3, and_self, bw_ext, htl, m63, sF63, Nat.reduceEqDiff, ↓reduceIte, Nat.reduceAdd, Nat.reduceMul, Value.cells, Value.oneCell', eq_self, ne_eq, Int.reduceToNat, Int.reduceEq, Int.reduceLT, Int.reduceLE, Int.reduceNeg, if_true, if_false, reduceCtorEq, Nat.reduceSub, storeV_ptr, slcV_slice, ↓mwD, mwU]
          refine (refCut_c (s.drop (k + 2)) 47 47 rfl (by rw [List.length_drop]; omega) w').use ?_
          rintro r w1 ⟨h1, hown1⟩
          have hsl : SlS w1 r (splitC 47 (s.drop (k + 2))) := Own.sl hown1
          obtain ⟨pe, ce, rfl, _, _⟩ := hsl.shape
          obtain ⟨l1, l2⟩ := splitC_len 47 (s.drop (k + 2))
          have hsub := splitC_sub 47 (s.drop (k + 2))
          rw [List.length_drop] at l2 hsub
          have hea : heaR s = if (splitC 47 (s.drop (k + 2))).length = 2 then (4, [digR (s.take k), digR ((splitC 47 (s.drop (k + 2))).getD 0 []), digR ((splitC 47 (s.drop (k + 2))).getD 1 [])]) else (3, [digR (s.take k), digR ((splitC 47 (s.drop (k + 2))).getD 0 [])]) := by
            unfold heaR; rw [hi]
          generalize splitC 47 (s.drop (k + 2)) = E at *
          obtain ⟨be, oe, rfl, g0⟩ := hsl.get (k := 0) (by omega)
          have hb4 : (0 : Int) ≤ 0 ∧ (0 : Int) ≤ k ∧ (k : Int) ≤ s.length := by omega
          have hb5 : (0 : Int) < E.length := by omega
          rw [Nat.add_zero] at g0
          simp -dsimp -implicitDefEqProofs only [h4, h0, m63, sF63, Nat.reduceEqDiff, ↓reduceIte, Nat.reduceAdd, Nat.reduceMul, Value.cells, Value.oneCell', eq_self, ne_eq, Int.reduceToNat, Int.reduceEq, Int.reduceLT, Int.reduceLE, Int.reduceNeg, if_true, if_false, reduceCtorEq, Nat.reduceSub, storeV_ptr, slcV_slice, ↓mwD, mwU]
          refine mwpB_drawE ?_
          simp -dsimp -implicitDefEqProofs only [h4, h0, bw_size, hb4, and_self, Int.toNat_natCast, bw_ext, List.drop_zero, Nat.sub_zero, hb5, g0, m63, sF63, Nat.reduceEqDiff, ↓reduceIte, Nat.reduceAdd, Nat.reduceMul, Value.cells, Value.oneCell', eq_self, ne_eq, Int.reduceToNat, Int.reduceEq, Int.reduceLT, Int.reduceLE, Int.reduceNeg, if_true, if_false, reduceCtorEq, Nat.reduceSub, storeV_ptr, slcV_slice, ↓mwD, mwU]
          refine (Digits_c (s.take k) (by rw [List.length_take]; omega) w1.drew).use ?_
          rintro r w2 ⟨rfl, h2⟩
          simp -dsimp -implicitDefEqProofs only [h2, m63, sF63, Nat.reduceEqDiff, ↓reduceIte, Nat.reduceAdd, Nat.reduceMul, Value.cells, Value.oneCell', eq_self, ne_eq, Int.reduceToNat, Int.reduceEq, Int.reduceLT, Int.reduceLE, Int.reduceNeg, if_true, if_false, reduceCtorEq, Nat.reduceSub, storeV_ptr, slcV_slice, ↓mwD, mwU]
          refine (Digits_c E[0] (by have := hsub E[0] (List.getElem_mem _); omega) w2).use ?_
          rintro r w3 ⟨rfl, h3⟩
          have h23 := h2.trans h3
          have x3 : Ext w1 (w3.alloc (.cells #[.int .i64 (digR (s.take k)), .int .i64 (digR E[0])] 3)) := (Ext.drew w1).trans (h23.trans (Ext.alloc _ _))
          have E3 : Ext w1.drew (w3.alloc (.cells #[.int .i64 (digR (s.take k)), .int .i64 (digR E[0])] 3)) := h23.trans (Ext.alloc _ _)
          have hown3 := own_new w3 (ints [digR (s.take k), digR E[0]]) 3 w'.heap.size 2 1 rfl (h1.trans ((Ext.drew w1).trans h23)).size (by unfold maxLen; omega)
          have ge0 : E.getD 0 [] = E[0] := by rw [List.getD_eq_getElem?_getD, List.getElem?_eq_getElem (by omega)]; rfl
          simp -dsimp -implicitDefEqProofs only [h23, bs_int2, E3, m63, sF63, Nat.reduceEqDiff, ↓reduceIte, Nat.reduceAdd, Nat.reduceMul, Value.cells, Value.oneCell', eq_self, ne_eq, Int.reduceToNat, Int.reduceEq, Int.reduceLT, Int.reduceLE, Int.reduceNeg, if_true, if_false, reduceCtorEq, Nat.reduceSub, storeV_ptr, slcV_slice, ↓mwD, mwU]
          generalize hW3 : w3.alloc (.cells #[.int .i64 (digR (s.take k)), .int .i64 (digR E[0])] 3) = W3 at *
          replace hown3 : W3.ownsRow w'.heap.size 3 1 (.slice (some ⟨w3.heap.size, 0, none⟩) 2 2) [digR (s.take k), digR E[0]].length (ints [digR (s.take k), digR E[0]]) := by rw [← hW3]; exact hown3
          refine iteW_dec (fun h2e => ?_) (fun h2n => ?_)
          · have h2e' : E.length = 2 := by omega
            obtain ⟨b1, o1, e1, g1⟩ := (hsl.ext x3).get (k := 1) (by omega)
            cases e1
            have hb6 : (0 : Int) ≤ 1 ∧ (1 : Int) < E.length := by omega
            have ge1 : E.getD 1 [] = E[1] := by rw [List.getD_eq_getElem?_getD, List.getElem?_eq_getElem (by omega)]; rfl
            simp -dsimp -implicitDefEqProofs only [hb6, and_self, g1, m63, sF63, Nat.reduceEqDiff, ↓reduceIte, Nat.reduceAdd, Nat.reduceMul, Value.cells, Value.oneCell', eq_self, ne_eq, Int.reduceToNat, Int.reduceEq, Int.reduceLT, Int.reduceLE, Int.reduceNeg, if_true, if_false, reduceCtorEq, Nat.reduceSub, storeV_ptr, slcV_slice, ↓mwD, mwU]
            refine (Digits_c E[1] (by have := hsub E[1] (List.getElem_mem _); omega) W3).use ?_
            rintro r w4 ⟨rfl, h4'⟩
            obtain ⟨v', w5, happ, hown5, hext5, _⟩ := append_it (Own.ext hown3 h4') (digR E[1]) (by simp) ((h1.trans x3).trans h4').size
            simp -dsimp -implicitDefEqProofs only [bs_int, m63, sF63, Nat.reduceEqDiff, ↓reduceIte, Nat.reduceAdd, Nat.reduceMul, Value.cells, Value.oneCell', eq_self, ne_eq, Int.reduceToNat, Int.reduceEq, Int.reduceLT, Int.reduceLE, Int.reduceNeg, if_true, if_false, reduceCtorEq, Nat.reduceSub, storeV_ptr, slcV_slice, ↓mwD, mwU]
            refine appB.mk happ ?_
            simp -dsimp -implicitDefEqProofs only [m63, sF63, Nat.reduceEqDiff, ↓reduceIte, Nat.reduceAdd, Nat.reduceMul, Value.cells, Value.oneCell', eq_self, ne_eq, Int.reduceToNat, Int.reduceEq, Int.reduceLT, Int.reduceLE, Int.reduceNeg, if_true, if_false, reduceCtorEq, Nat.reduceSub, storeV_ptr, slcV_slice, ↓mwD, mwU]
            rw [hea, if_pos h2e', ge0, ge1]
            exact ⟨hext5 ((h1.trans x3).trans h4') (Nat.le_refl _), _, rfl, hown5⟩
          · simp -dsimp -implicitDefEqProofs only [m63, sF63, Nat.reduceEqDiff, ↓reduceIte, Nat.reduceAdd, Nat.reduceMul, Value.cells, Value.oneCell', eq_self, ne_eq, Int.reduceToNat, Int.reduceEq, Int.reduceLT, Int.reduceLE, Int.reduceNeg, if_true, if_false, reduceCtorEq, Nat.reduceSub, storeV_ptr, slcV_slice, ↓mwD, mwU]
            rw [hea, if_neg (by omega), ge0]
            exact ⟨h1.trans x3, _, rfl, hown3⟩
        · have d1 : decide ((s[k].toNat : Int) = 46) = true := by simp [t1]
          have d2 : decide ((s[k + 1].toNat : Int) = 46) = false := by simp [t2]
          rw [if_neg (fun h => t2 (by rw [h.2]; rfl))] at hi
          simp -dsimp -implicitDefEqProofs only [h4, h0, bw_size, hw, hlt, hb1, hb2, hg, hg1, Int.toNat_natCast, d1, d2, m63, sF63, Nat.reduceEqDiff, ↓reduceIte, Nat.reduceAdd, Nat.reduceMul, Value.cells, Value.oneCell', eq_self, ne_eq, Int.reduceToNat, Int.reduceEq, Int.reduceLT, Int.reduceLE, Int.reduceNeg, if_true, if_false, reduceCtorEq, Nat.reduceSub, storeV_ptr, slcV_slice, ↓mwD, mwU]
          exact ⟨⟨k + 1, by omega, rfl, by rw [hi]; cases idxF (s.drop (k + 1)) [46, 46] <;> simp; omega⟩, by simp only [intOf]; omega⟩
      · have d1 : decide ((s[k].toNat : Int) = 46) = false := by simp [t1]
        rw [if_neg (fun h => t1 (by rw [h.1]; rfl))] at hi
        simp -dsimp -implicitDefEqProofs only [h4, h0, bw_size, hw, hlt, hb1, hb2, hg, hg1, Int.toNat_natCast, d1, m63, sF63, Nat.reduceEqDiff, ↓reduceIte, Nat.reduceAdd, Nat.reduceMul, Value.cells, Value.oneCell', eq_self, ne_eq, Int.reduceToNat, Int.reduceEq, Int.reduceLT, Int.reduceLE, Int.reduceNeg, if_true, if_false, reduceCtorEq, Nat.reduceSub, storeV_ptr, slcV_slice, ↓mwD, mwU]
        exact ⟨⟨k + 1, by omega, rfl, by rw [hi]; cases idxF (s.drop (k + 1)) [46, 46] <;> simp; omega⟩, by simp only [intOf]; omega⟩
    · rw [idxD_end (by omega)] at hi
      have hi : idxF s [46, 46] = none := hi
      have hea : heaR s = (2, (splitC 44 s).map digR) := by unfold heaR; rw [hi]
      simp -dsimp -implicitDefEqProofs only [h4, h0, bw_size, hw, hlt, m63, sF63, Nat.reduceEqDiff, ↓reduceIte, Nat.reduceAdd, Nat.reduceMul, Value.cells, Value.oneCell', eq_self, ne_eq, Int.reduceToNat, Int.reduceEq, Int.reduceLT, Int.reduceLE, Int.reduceNeg, if_true, if_false, reduceCtorEq, Nat.reduceSub, storeV_ptr, slcV_slice, ↓mwD, mwU]
      refine (refCut_c s 44 44 rfl (by omega) w').use ?_
      rintro r w1 ⟨h1, hown1⟩
      have hsl : SlS w1 r (splitC 44 s) := Own.sl hown1
      obtain ⟨pe, ce, rfl, hc1, hc2⟩ := hsl.shape
      obtain ⟨l1, l2⟩ := splitC_len 44 s
      have hsub := splitC_sub 44 s
      rw [hea]
      generalize splitC 44 s = E at *
      simp -dsimp -implicitDefEqProofs only [h4, h0, m63, sF63, Nat.reduceEqDiff, ↓reduceIte, Nat.reduceAdd, Nat.reduceMul, Value.cells, Value.oneCell', eq_self, ne_eq, Int.reduceToNat, Int.reduceEq, Int.reduceLT, Int.reduceLE, Int.reduceNeg, if_true, if_false, reduceCtorEq, Nat.reduceSub, storeV_ptr, slcV_slice, ↓mwD, mwU]
      refine mwpB_loop (fun e ds u => ∃ (k : Nat) (v : Value), k ≤ E.length ∧ e 9 = .int .i64 k ∧ e 8 = .slice pe E.length ce ∧ e 7 = v ∧ ds = [] ∧ Ext w1 u ∧ u.ownsRow w1.heap.size 3 1 v ((E.take k).map digR).length (ints ((E.take k).map digR)))
        (fun e _ => E.length - (intOf (e 9)).toNat) ?_ ?_
      · simp -dsimp -implicitDefEqProofs only [h4, h0, m63, sF63, Nat.reduceEqDiff, ↓reduceIte, Nat.reduceAdd, Nat.reduceMul, Value.cells, Value.oneCell', eq_self, ne_eq, Int.reduceToNat, Int.reduceEq, Int.reduceLT, Int.reduceLE, Int.reduceNeg, if_true, if_false, reduceCtorEq, Nat.reduceSub, storeV_ptr, slcV_slice, ↓mwD, mwU]
        exact ⟨0, _, by omega, rfl, rfl, Ext.refl _, World.ownsRow_nil _ _ _ _⟩
      · rintro e ds u ⟨k, v, hk, h9, h8, h7, rfl, hu, hown⟩
        simp -dsimp -implicitDefEqProofs only [h9, h8, h7, m63, sF63, Nat.reduceEqDiff, ↓reduceIte, Nat.reduceAdd, Nat.reduceMul, Value.cells, Value.oneCell', eq_self, ne_eq, Int.reduceToNat, Int.reduceEq, Int.reduceLT, Int.reduceLE, Int.reduceNeg, if_true, if_false, reduceCtorEq, Nat.reduceSub, storeV_ptr, slcV_slice, ↓mwD, mwU]
        refine iteW_dec (fun hlt => ?_) (fun hge => ?_)
        · have hlt' : k < E.length := by omega
          obtain ⟨be, oe, rfl, g0⟩ := (hsl.ext hu).get hlt'
          have hb1 : (0 : Int) ≤ k ∧ (k : Int) < E.length := by omega
          have hw := w64_succ hlt' (Nat.le_trans hc1 hc2)
          simp -dsimp -implicitDefEqProofs only [h9, h8, h7, hb1, and_self, g0, m63, sF63, Nat.reduceEqDiff, ↓reduceIte, Nat.reduceAdd, Nat.reduceMul, Value.cells, Value.oneCell', eq_self, ne_eq, Int.reduceToNat, Int.reduceEq, Int.reduceLT, Int.reduceLE, Int.reduceNeg, if_true, if_false, reduceCtorEq, Nat.reduceSub, storeV_ptr, slcV_slice, ↓mwD, mwU]
          refine (Digits_c E[k] (by have := hsub E[k] (List.getElem_mem _); omega) u).use ?_
          rintro r w4 ⟨rfl, h4'⟩
          obtain ⟨v', w5, happ, hown5, hext5, _⟩ := append_it (Own.ext hown h4') (digR E[k]) (by simp; omega) (hu.trans h4').size
          simp -dsimp -implicitDefEqProofs only [h9, h8, h7, bs_int, m63, sF63, Nat.reduceEqDiff, ↓reduceIte, Nat.reduceAdd, Nat.reduceMul, Value.cells, Value.oneCell', eq_self, ne_eq, Int.reduceToNat, Int.reduceEq, Int.reduceLT, Int.reduceLE, Int.reduceNeg, if_true, if_false, reduceCtorEq, Nat.reduceSub, storeV_ptr, slcV_slice, ↓mwD, mwU]
          refine appB.mk happ ?_
          simp -dsimp -implicitDefEqProofs only [h9, h8, h7, hw, m63, sF63, Nat.reduceEqDiff, ↓reduceIte, Nat.reduceAdd, Nat.reduceMul, Value.cells, Value.oneCell', eq_self, ne_eq, Int.reduceToNat, Int.reduceEq, Int.reduceLT, Int.reduceLE, Int.reduceNeg, if_true, if_false, reduceCtorEq, Nat.reduceSub, storeV_ptr, slcV_slice, ↓mwD, mwU]
          refine ⟨⟨k + 1, _, by omega, rfl, rfl, hext5 (hu.trans h4') (Nat.le_refl _), ?_⟩, by simp only [intOf]; omega⟩
          rw [List.take_succ_eq_append_getElem hlt', List.map_append]
          exact hown5
        · have hkl : k = E.length := by omega
          rw [hkl, List.take_length] at hown
          simp -dsimp -implicitDefEqProofs only [h9, h8, h7, m63, sF63, Nat.reduceEqDiff, ↓reduceIte, Nat.reduceAdd, Nat.reduceMul, Value.cells, Value.oneCell', eq_self, ne_eq, Int.reduceToNat, Int.reduceEq, Int.reduceLT, Int.reduceLE, Int.reduceNeg, if_true, if_false, reduceCtorEq, Nat.reduceSub, storeV_ptr, slcV_slice, ↓mwD, mwU]
          exact ⟨h1.trans hu, _, rfl, Own.mono hown h1.size⟩
end Go.Proofs.YthcdnjbhhaonhaaGreatDoor
/- Layer 02: a choice's text, and a format's, by the reference. -/

namespace Go.Proofs.YthcdnjbhhaonhaaGreatDoor
open Go.RowKit
set_option linter.unusedSimpArgs false

def spOf : By := [32, 111, 102, 32]
def shownB (c : Ch) : By := Lib.itoa c.d ++ if c.k = 1 then [] else spOf ++ restW c
def fldT (x : Fl) : By := 32 :: (keyW x.key ++ 61 :: shownB x.c)
theorem wordsF_text (x : Fl) : (wordsF x).flatMap ((32 : UInt8) :: ·) = fldT x := by
  unfold wordsF fldT shownB spOf ofB
  by_cases h : x.c.k = 1
  · rw [if_pos h, if_pos h]; simp
  · rw [if_neg h, if_neg h]; simp
theorem txF_eq (f : Fm) : txF f = mediaW f.m ++ f.F.flatMap fldT := by
  unfold txF
  rw [List.flatMap_assoc]
  congr 1
  congr 1
  funext x
  exact wordsF_text x
theorem itoa_len {n : Int} (h : inT n = true) : (Lib.itoa n).length ≤ 20 := by
  obtain ⟨h0, h1⟩ := inT_mem.1 h
  rw [itoa_dec h0]; exact dec_len _ (by omega)
theorem itoaC_snoc (l : List Int) (x : Int) : itoaC (l ++ [x]) = itoaC l ++ (if l = [] then [] else [44]) ++ Lib.itoa x := by
  cases l with
  | nil => rw [List.nil_append, itoaC_cons]; simp [itoaC, Lib.join_nil]
  | cons y r => rw [List.cons_append, itoaC_cons, itoaC_cons, if_neg (by simp)]; simp
theorem itoaC_len : ∀ (l : List Int), (∀ n ∈ l, inT n = true) → (itoaC l).length ≤ 21 * l.length := by
  intro l
  cases l with
  | nil => intro _; simp [itoaC, Lib.join_nil]
  | cons x r =>
    intro h
    rw [itoaC_cons]
    have h1 := itoa_len (h x (by simp))
    have h2 : ∀ (r : List Int), (∀ n ∈ r, inT n = true) → ((r.map Lib.itoa).flatMap ((44 : UInt8) :: ·)).length ≤ 21 * r.length := by
      intro r
      induction r with
      | nil => intro _; simp
      | cons y r ih =>
        intro h
        have e1 := itoa_len (h y (by simp))
        have e2 := ih (fun n hn => h n (by simp [hn]))
        simp only [List.map_cons, List.flatMap_cons, List.length_append, List.length_cons] at e2 ⊢
        omega
    have h3 := h2 r (fun n hn => h n (by simp [hn]))
    simp only [List.length_append, List.length_cons]
    omega
theorem shown_len {c : Ch} (h : c.valid = true) : (shownB c).length ≤ 600 := by
  have hd := itoa_len (valid_d h)
  have hL := valid_L h
  have hl : c.L.length ≤ 20 := by
    cases hl : c.lsd
    · rcases (valid_rg h hl).2 with ⟨_, h2⟩ | ⟨_, h2⟩ <;> omega
    · exact (valid_list h hl).2.1
  unfold shownB restW spOf
  rcases valid_kinds h with ⟨k, e⟩ | ⟨k, x, r, e⟩ | ⟨k, e⟩ | ⟨k, e⟩
  · rw [if_pos k]; simp; omega
  · rw [if_neg (by omega), if_pos k]
    have := itoaC_len c.L hL
    simp only [List.length_append, List.length_cons, List.length_nil]; omega
  · rw [e] at hL
    have h1 := itoa_len (hL c.lo (by simp))
    have h2 := itoa_len (hL c.hi (by simp))
    rw [if_neg (by omega), if_neg (by omega), if_neg (by omega)]
    simp only [List.length_append, List.length_cons, List.length_nil]; omega
  · rw [e] at hL
    have h1 := itoa_len (hL c.lo (by simp))
    have h2 := itoa_len (hL c.hi (by simp))
    have h3 := itoa_len (hL (c.L.getD 2 0) (by simp))
    rw [if_neg (by omega), if_neg (by omega), if_pos k]
    simp only [List.length_append, List.length_cons, List.length_nil]; omega
theorem keyW_len {k : Int} (h1 : 0 < k) (h2 : k ≤ 6) : (keyW k).length ≤ 20 := by
  rcases key_cases h1 h2 with rfl | rfl | rfl | rfl | rfl | rfl <;> decide
theorem fields_len : ∀ {F : List Fl} {k : Int}, 0 ≤ k → fieldsB k F = true → (F.flatMap fldT).length ≤ 700 * F.length
  | [], _, _, _ => by simp
  | x :: F, k, hk, h => by
    obtain ⟨h1, h2, h3, h4⟩ := fieldsB_cons.1 h
    have ih := fields_len (k := x.key) (by omega) h4
    have e1 := shown_len h3
    have e2 := keyW_len (k := x.key) (by omega) h2
    simp only [List.flatMap_cons, List.length_append, fldT, List.length_cons]
    omega
theorem mediaW_len {m : Int} (h1 : 1 ≤ m) (h2 : m ≤ 3) : (mediaW m).length ≤ 20 := by
  have : m = 1 ∨ m = 2 ∨ m = 3 := by omega
  rcases this with rfl | rfl | rfl <;> decide
theorem txB_len (f : Fm) : (txB f).length ≤ 5000 := by
  unfold txB
  split
  · rename_i h
    rw [txF_eq]
    unfold Fm.valid at h
    simp only [Bool.and_eq_true, decide_eq_true_eq] at h
    have h1 := fields_len (Int.le_refl 0) h.1
    have h2 := mediaW_len h.2.1 h.2.2
    have h3 : f.F.length ≤ 6 := by
      rcases fieldsB_len h.1 with h | h
      · rw [h]; simp
      · omega
    simp only [List.length_append]
    omega
  · simp

theorem Dec_c {n : Int} (h : inT n = true) (w : World) : Rets Go.Proofs.Tryz.prog 95 #[.int .i64 n] w fun r w' => r = .string (bw (Lib.itoa n)) ∧ Ext w w' := by
  obtain ⟨h0, h1⟩ := inT_mem.1 h
  have := Decimal_c n.toNat (by omega) w
  rw [show ((n.toNat : Nat) : Int) = n by omega] at this
  rw [itoa_dec h0]
  exact this
theorem new_bk' (w : World) (cs : List Value) (t : TypeId) : ∃ W, W = w.alloc (.cells cs.toArray t) ∧ Bk W w.heap.size cs t ∧ Ext w W := ⟨_, rfl, Bk.new _ _ _, Ext.alloc _ _⟩
section
variable {P : Program} {t : TypeId}
theorem add_of {a : By} (h : a.length ≤ 100000) : binV P t .add (.string (bw a)) (.string ⟨#[32, 111, 102, 32]⟩) = some (.string (bw (a ++ spOf))) := binV_addB (b := spOf) (by simp [spOf]; omega)
theorem of_add {a : By} (h : a.length ≤ 100000) : binV P t .add (.string ⟨#[32, 111, 102, 32]⟩) (.string (bw a)) = some (.string (bw (spOf ++ a))) := binV_addB (a := spOf) (by simp [spOf]; omega)
theorem add_comma {a : By} (h : a.length ≤ 100000) : binV P t .add (.string (bw a)) (.string ⟨#[44]⟩) = some (.string (bw (a ++ [44]))) := binV_addB (b := [44]) (by simp; omega)
theorem add_dots {a : By} (h : a.length ≤ 100000) : binV P t .add (.string (bw a)) (.string ⟨#[46, 46]⟩) = some (.string (bw (a ++ [46, 46]))) := binV_addB (b := [46, 46]) (by simp; omega)
theorem slash_add {a : By} (h : a.length ≤ 100000) : binV P t .add (.string ⟨#[47]⟩) (.string (bw a)) = some (.string (bw (47 :: a))) := binV_addB (a := [47]) (by simp; omega)
theorem sp_add {a : By} (h : a.length ≤ 100000) : binV P t .add (.string ⟨#[32]⟩) (.string (bw a)) = some (.string (bw (32 :: a))) := binV_addB (a := [32]) (by simp; omega)
theorem add_eq {a : By} (h : a.length ≤ 100000) : binV P t .add (.string (bw a)) (.string ⟨#[61]⟩) = some (.string (bw (a ++ [61]))) := binV_addB (b := [61]) (by simp; omega)
theorem add_two {a b : By} (h : a.length ≤ 100000) (h' : b.length ≤ 100000) : binV P t .add (.string (bw a)) (.string (bw b)) = some (.string (bw (a ++ b))) := binV_addB (by omega)
end
theorem SlI.cell {w : World} {p : Option Addr} {n cap k : Nat} {xs : List Int} (h : SlI w (.slice p n cap) xs) (hk : k < xs.length) : ∃ b o, p = some ⟨b, o, none⟩ ∧ w.cell? ⟨b, o + k, none⟩ = some (.int .i64 xs[k]) := by
  obtain ⟨b, o, cap', h1, _, _, h4⟩ := h.at (by intro h0; rw [h0] at hk; simp at hk)
  cases h1
  exact ⟨b, o, rfl, h4 k hk⟩
/-- The ends of a range, as they lie. -/
theorem SlI.ends {w : World} {p : Option Addr} {n cap : Nat} {c : Ch} (h : SlI w (.slice p n cap) c.L) (hl : 2 ≤ c.L.length) : ∃ b o, p = some ⟨b, o, none⟩ ∧ w.cell? ⟨b, o, none⟩ = some (.int .i64 c.lo) ∧ w.cell? ⟨b, o + 1, none⟩ = some (.int .i64 c.hi) ∧ (2 < c.L.length → w.cell? ⟨b, o + 2, none⟩ = some (.int .i64 (c.L.getD 2 0))) := by
  obtain ⟨b, o, rfl, h0⟩ := h.cell (k := 0) (by omega)
  obtain ⟨b', o', e, h1⟩ := h.cell (k := 1) (by omega)
  cases e
  have g : ∀ k (hk : k < c.L.length), c.L[k] = c.L.getD k 0 := fun k hk => by rw [List.getD_eq_getElem?_getD, List.getElem?_eq_getElem hk]; rfl
  refine ⟨b, o, rfl, ?_, ?_, fun h2 => ?_⟩
  · rw [g] at h0; exact h0
  · rw [g] at h1; exact h1
  · obtain ⟨b', o', e, h2'⟩ := h.cell (k := 2) h2
    cases e
    rw [g] at h2'; exact h2'

set_option maxHeartbeats 1000000 in
theorem said_c (c : Ch) (s : Value) (w : World) (hs : SlI w s c.L) (hv : c.valid = true) : Rets Go.Proofs.Tryz.prog 65 #[chV c s] w fun r w' => r = .string (bw (shownB c)) ∧ Ext w w' := by
  obtain ⟨p, cap, rfl, hc1, hc2⟩ := hs.shape
  obtain ⟨W, hW, A, x0⟩ := new_bk' w [.int .i64 c.k, .int .i64 c.d, .slice p c.L.length cap] 35
  have A0 := A.get (o := 0) rfl
  have A1 := A.get (o := 1) rfl
  have A2 := A.get (o := 2) rfl
  have hd := itoa_len (valid_d hv)
  have hL := valid_L hv
  refine en65 ?_
  simp -dsimp -implicitDefEqProofs only [chV, ← hW, A0, A1, A2, m65, sF65, Nat.reduceEqDiff, ↓reduceIte, Nat.reduceAdd, Nat.reduceMul, Value.cells, Value.oneCell', eq_self, ne_eq, Int.reduceToNat, Int.reduceEq, Int.reduceLT, Int.reduceLE, Int.reduceNeg, if_true, if_false, reduceCtorEq, Nat.reduceSub, storeV_ptr, slcV_slice, ↓mwD, mwU]
  clear hW
  refine (Dec_c (valid_d hv) W).use ?_
  rintro r w1 ⟨rfl, h1⟩
  have A0 := (A.ext h1).get (o := 0) rfl
  have A1 := (A.ext h1).get (o := 1) rfl
  have A2 := (A.ext h1).get (o := 2) rfl
  rcases valid_kinds hv with ⟨k, e⟩ | ⟨k, x, r, e⟩ | ⟨k, e⟩ | ⟨k, e⟩
  · rw [k] at A0
    simp -dsimp -implicitDefEqProofs only [A0, A1, A2, m65, sF65, Nat.reduceEqDiff, ↓reduceIte, Nat.reduceAdd, Nat.reduceMul, Value.cells, Value.oneCell', eq_self, ne_eq, Int.reduceToNat, Int.reduceEq, Int.reduceLT, Int.reduceLE, Int.reduceNeg, if_true, if_false, reduceCtorEq, Nat.reduceSub, storeV_ptr, slcV_slice, ↓mwD, mwU]
    exact ⟨by unfold shownB; rw [if_pos k, List.append_nil], x0.trans h1⟩
  · rw [k] at A0
    have a1 : ∀ t, binV Go.Proofs.Tryz.prog t .add (.string (bw (Lib.itoa c.d))) (.string ⟨#[32, 111, 102, 32]⟩) = _ := fun t => add_of (by omega)
    have hl20 := (valid_list hv (by unfold Ch.lsd; simp [k])).2.1
    simp -dsimp -implicitDefEqProofs only [A0, A1, A2, a1, m65, sF65, Nat.reduceEqDiff, ↓reduceIte, Nat.reduceAdd, Nat.reduceMul, Value.cells, Value.oneCell', eq_self, ne_eq, Int.reduceToNat, Int.reduceEq, Int.reduceLT, Int.reduceLE, Int.reduceNeg, if_true, if_false, reduceCtorEq, Nat.reduceSub, storeV_ptr, slcV_slice, ↓mwD, mwU]
    refine mwpB_loop (fun e ds u => ∃ m : Nat, m ≤ c.L.length ∧ e 4 = .int .i64 m ∧ e 3 = .string (bw (Lib.itoa c.d ++ spOf ++ itoaC (c.L.take m))) ∧ e 1 = .pointer (some ⟨w.heap.size, 0, none⟩) ∧ ds = [] ∧ Ext W u)
      (fun e _ => c.L.length - (intOf (e 4)).toNat) ?_ ?_
    · simp -dsimp -implicitDefEqProofs only [m65, sF65, Nat.reduceEqDiff, ↓reduceIte, Nat.reduceAdd, Nat.reduceMul, Value.cells, Value.oneCell', eq_self, ne_eq, Int.reduceToNat, Int.reduceEq, Int.reduceLT, Int.reduceLE, Int.reduceNeg, if_true, if_false, reduceCtorEq, Nat.reduceSub, storeV_ptr, slcV_slice, ↓mwD, mwU]
      exact ⟨0, by omega, rfl, by simp [itoaC, Lib.join_nil], h1⟩
    · rintro e ds u ⟨m, hm, h4, h3, h1', rfl, hu⟩
      have A2 := (A.ext hu).get (o := 2) rfl
      by_cases hlt : (m : Int) < c.L.length
      · have hlt' : m < c.L.length := by omega
        have hb1 : (0 : Int) ≤ m ∧ (m : Int) < c.L.length := by omega
        have hw := w64_succ hlt' (Nat.le_trans hc1 hc2)
        obtain ⟨b, o, rfl, q0⟩ := (hs.ext (x0.trans hu)).cell hlt'
        have hal := itoaC_len (c.L.take m) (fun n hn => hL n (List.mem_of_mem_take hn))
        rw [List.length_take] at hal
        have hacc : (Lib.itoa c.d ++ spOf ++ itoaC (c.L.take m)).length ≤ 1000 := by simp only [List.length_append, spOf, List.length_cons, List.length_nil]; omega
        have hin := hL c.L[m] (List.getElem_mem _)
        have hil := itoa_len hin
        have hst : itoaC (c.L.take (m + 1)) = itoaC (c.L.take m) ++ (if c.L.take m = [] then [] else [44]) ++ Lib.itoa c.L[m] := by rw [List.take_succ_eq_append_getElem hlt', itoaC_snoc]
        by_cases z : (0 : Int) < m
        · have a2 : ∀ t, binV Go.Proofs.Tryz.prog t .add (.string (bw (Lib.itoa c.d ++ spOf ++ itoaC (c.L.take m)))) (.string ⟨#[44]⟩) = _ := fun t => add_comma (by omega)
          have a3 : ∀ t, binV Go.Proofs.Tryz.prog t .add (.string (bw (Lib.itoa c.d ++ spOf ++ itoaC (c.L.take m) ++ [44]))) (.string (bw (Lib.itoa c.L[m]))) = _ := fun t => add_two (by rw [List.length_append, List.length_singleton]; omega) (by omega)
          simp -dsimp -implicitDefEqProofs only [h4, h3, h1', A2, hlt, z, a2, hb1, and_self, q0, m65, sF65, Nat.reduceEqDiff, ↓reduceIte, Nat.reduceAdd, Nat.reduceMul, Value.cells, Value.oneCell', eq_self, ne_eq, Int.reduceToNat, Int.reduceEq, Int.reduceLT, Int.reduceLE, Int.reduceNeg, if_true, if_false, reduceCtorEq, Nat.reduceSub, storeV_ptr, slcV_slice, ↓mwD, mwU]
          refine (Dec_c hin u).use ?_
          rintro r w2 ⟨rfl, h2⟩
          simp -dsimp -implicitDefEqProofs only [h4, h3, h1', a3, hw, m65, sF65, Nat.reduceEqDiff, ↓reduceIte, Nat.reduceAdd, Nat.reduceMul, Value.cells, Value.oneCell', eq_self, ne_eq, Int.reduceToNat, Int.reduceEq, Int.reduceLT, Int.reduceLE, Int.reduceNeg, if_true, if_false, reduceCtorEq, Nat.reduceSub, storeV_ptr, slcV_slice, ↓mwD, mwU]
          refine ⟨⟨m + 1, by omega, rfl, ?_, hu.trans h2⟩, by simp only [intOf]; omega⟩
          rw [hst, if_neg (fun h0 => by have := congrArg List.length h0; rw [List.length_take, List.length_nil] at this; omega)]
          simp only [List.append_assoc]
        · have a3 : ∀ t, binV Go.Proofs.Tryz.prog t .add (.string (bw (Lib.itoa c.d ++ spOf ++ itoaC (c.L.take m)))) (.string (bw (Lib.itoa c.L[m]))) = _ := fun t => add_two (by omega) (by omega)
          simp -dsimp -implicitDefEqProofs only [h4, h3, h1', A2, hlt, z, hb1, and_self, q0, m65, sF65, Nat.reduceEqDiff, ↓reduceIte, Nat.reduceAdd, Nat.reduceMul, Value.cells, Value.oneCell', eq_self, ne_eq, Int.reduceToNat, Int.reduceEq, Int.reduceLT, Int.reduceLE, Int.reduceNeg, if_true, if_false, reduceCtorEq, Nat.reduceSub, storeV_ptr, slcV_slice, ↓mwD, mwU]
          refine (Dec_c hin u).use ?_
          rintro r w2 ⟨rfl, h2⟩
          simp -dsimp -implicitDefEqProofs only [h4, h3, h1', a3, hw, m65, sF65, Nat.reduceEqDiff, ↓reduceIte, Nat.reduceAdd, Nat.reduceMul, Value.cells, Value.oneCell', eq_self, ne_eq, Int.reduceToNat, Int.reduceEq, Int.reduceLT, Int.reduceLE, Int.reduceNeg, if_true, if_false, reduceCtorEq, Nat.reduceSub, storeV_ptr, slcV_slice, ↓mwD, mwU]
          refine ⟨⟨m + 1, by omega, rfl, ?_, hu.trans h2⟩, by simp only [intOf]; omega⟩
          rw [hst, if_pos (List.eq_nil_of_length_eq_zero (by rw [List.length_take]; omega))]
          simp only [List.append_assoc, List.nil_append]
      · have hml : m = c.L.length := by omega
        rw [hml, List.take_length] at h3
        simp -dsimp -implicitDefEqProofs only [h4, h3, h1', A2, hlt, m65, sF65, Nat.reduceEqDiff, ↓reduceIte, Nat.reduceAdd, Nat.reduceMul, Value.cells, Value.oneCell', eq_self, ne_eq, Int.reduceToNat, Int.reduceEq, Int.reduceLT, Int.reduceLE, Int.reduceNeg, if_true, if_false, reduceCtorEq, Nat.reduceSub, storeV_ptr, slcV_slice, ↓mwD, mwU]
        refine ⟨?_, x0.trans hu⟩
        unfold shownB restW
        rw [if_neg (by omega), if_pos k, List.append_assoc]
  · rw [k] at A0
    rw [e] at hL
    have i1 := itoa_len (hL c.lo (by simp))
    have i2 := itoa_len (hL c.hi (by simp))
    have hcl : c.L.length = 2 := by rw [e]; rfl
    obtain ⟨b, o, rfl, q0, q1, _⟩ := (hs.ext (x0.trans h1)).ends (by omega)
    have hb1 : (0 : Int) < c.L.length := by omega
    have hb2 : (1 : Int) < c.L.length := by omega
    have a1 : ∀ t, binV Go.Proofs.Tryz.prog t .add (.string ⟨#[32, 111, 102, 32]⟩) (.string (bw (Lib.itoa c.lo))) = _ := fun t => of_add (by omega)
    have a2 : ∀ t, binV Go.Proofs.Tryz.prog t .add (.string (bw (spOf ++ Lib.itoa c.lo))) (.string ⟨#[46, 46]⟩) = _ := fun t => add_dots (by simp [spOf]; omega)
    have a3 : ∀ t, binV Go.Proofs.Tryz.prog t .add (.string (bw (spOf ++ Lib.itoa c.lo ++ [46, 46]))) (.string (bw (Lib.itoa c.hi))) = _ := fun t => add_two (by simp [spOf]; omega) (by omega)
    have a4 : ∀ t, binV Go.Proofs.Tryz.prog t .add (.string (bw (Lib.itoa c.d))) (.string (bw (spOf ++ Lib.itoa c.lo ++ [46, 46] ++ Lib.itoa c.hi))) = _ := fun t => add_two (by omega) (by simp [spOf]; omega)
    simp -dsimp -implicitDefEqProofs only [A0, A1, A2, m65, sF65, Nat.reduceEqDiff, ↓reduceIte, Nat.reduceAdd, Nat.reduceMul, Value.cells, Value.oneCell', eq_self, ne_eq, Int.reduceToNat, Int.reduceEq, Int.reduceLT, Int.reduceLE, Int.reduceNeg, if_true, if_false, reduceCtorEq, Nat.reduceSub, storeV_ptr, slcV_slice, ↓mwD, mwU]
    refine mwpB_drawE ?_
    simp -dsimp -implicitDefEqProofs only [A0, A1, A2, hb1, hb2, q0, q1, planEB_two, m65, sF65, Nat.reduceEqDiff, ↓reduceIte, Nat.reduceAdd, Nat.reduceMul, Value.cells, Value.oneCell', eq_self, ne_eq, Int.reduceToNat, Int.reduceEq, Int.reduceLT, Int.reduceLE, Int.reduceNeg, if_true, if_false, reduceCtorEq, Nat.reduceSub, storeV_ptr, slcV_slice, ↓mwD, mwU]
    refine (Dec_c (hL c.lo (by simp)) w1.drew).use ?_
    rintro r w2 ⟨rfl, h2⟩
    have A2' := (A.ext (h1.trans ((Ext.drew w1).trans h2))).get (o := 2) rfl
    simp -dsimp -implicitDefEqProofs only [h2, a1, a2, A2', planEB_two, m65, sF65, Nat.reduceEqDiff, ↓reduceIte, Nat.reduceAdd, Nat.reduceMul, Value.cells, Value.oneCell', eq_self, ne_eq, Int.reduceToNat, Int.reduceEq, Int.reduceLT, Int.reduceLE, Int.reduceNeg, if_true, if_false, reduceCtorEq, Nat.reduceSub, storeV_ptr, slcV_slice, ↓mwD, mwU]
    refine (Dec_c (hL c.hi (by simp)) w2).use ?_
    rintro r w3 ⟨rfl, h3⟩
    have E3 := h2.trans h3
    have hx3 := h1.trans ((Ext.drew w1).trans E3)
    have A0' := (A.ext hx3).get (o := 0) rfl
    rw [k] at A0'
    simp -dsimp -implicitDefEqProofs only [E3, a3, a4, A0', m65, sF65, Nat.reduceEqDiff, ↓reduceIte, Nat.reduceAdd, Nat.reduceMul, Value.cells, Value.oneCell', eq_self, ne_eq, Int.reduceToNat, Int.reduceEq, Int.reduceLT, Int.reduceLE, Int.reduceNeg, if_true, if_false, reduceCtorEq, Nat.reduceSub, storeV_ptr, slcV_slice, ↓mwD, mwU]
    refine ⟨?_, x0.trans hx3⟩
    unfold shownB restW
    rw [if_neg (by omega), if_neg (by omega), if_neg (by omega)]
    simp only [List.append_assoc, List.cons_append, List.nil_append, List.append_nil]
  · rw [k] at A0
    rw [e] at hL
    have i1 := itoa_len (hL c.lo (by simp))
    have i2 := itoa_len (hL c.hi (by simp))
    have hcl : c.L.length = 3 := by rw [e]; rfl
    have i3 := itoa_len (hL (c.L.getD 2 0) (by simp))
    obtain ⟨b, o, rfl, q0, q1, q2⟩ := (hs.ext (x0.trans h1)).ends (by omega)
    have hb1 : (0 : Int) < c.L.length := by omega
    have hb2 : (1 : Int) < c.L.length := by omega
    have a1 : ∀ t, binV Go.Proofs.Tryz.prog t .add (.string ⟨#[32, 111, 102, 32]⟩) (.string (bw (Lib.itoa c.lo))) = _ := fun t => of_add (by omega)
    have a2 : ∀ t, binV Go.Proofs.Tryz.prog t .add (.string (bw (spOf ++ Lib.itoa c.lo))) (.string ⟨#[46, 46]⟩) = _ := fun t => add_dots (by simp [spOf]; omega)
    have a3 : ∀ t, binV Go.Proofs.Tryz.prog t .add (.string (bw (spOf ++ Lib.itoa c.lo ++ [46, 46]))) (.string (bw (Lib.itoa c.hi))) = _ := fun t => add_two (by simp [spOf]; omega) (by omega)
    have a4 : ∀ t, binV Go.Proofs.Tryz.prog t .add (.string (bw (Lib.itoa c.d))) (.string (bw (spOf ++ Lib.itoa c.lo ++ [46, 46] ++ Lib.itoa c.hi))) = _ := fun t => add_two (by omega) (by simp [spOf]; omega)
    have a5 : ∀ t, binV Go.Proofs.Tryz.prog t .add (.string ⟨#[47]⟩) (.string (bw (Lib.itoa (c.L.getD 2 0)))) = _ := fun t => slash_add (by omega)
    have a6 : ∀ t, binV Go.Proofs.Tryz.prog t .add (.string (bw (Lib.itoa c.d ++ (spOf ++ Lib.itoa c.lo ++ [46, 46] ++ Lib.itoa c.hi)))) (.string (bw (47 :: Lib.itoa (c.L.getD 2 0)))) = _ := fun t => add_two (by simp [spOf]; omega) (by rw [List.length_cons]; omega)
    simp -dsimp -implicitDefEqProofs only [A0, A1, A2, m65, sF65, Nat.reduceEqDiff, ↓reduceIte, Nat.reduceAdd, Nat.reduceMul, Value.cells, Value.oneCell', eq_self, ne_eq, Int.reduceToNat, Int.reduceEq, Int.reduceLT, Int.reduceLE, Int.reduceNeg, if_true, if_false, reduceCtorEq, Nat.reduceSub, storeV_ptr, slcV_slice, ↓mwD, mwU]
    refine mwpB_drawE ?_
    simp -dsimp -implicitDefEqProofs only [A0, A1, A2, hb1, hb2, q0, q1, planEB_two, m65, sF65, Nat.reduceEqDiff, ↓reduceIte, Nat.reduceAdd, Nat.reduceMul, Value.cells, Value.oneCell', eq_self, ne_eq, Int.reduceToNat, Int.reduceEq, Int.reduceLT, Int.reduceLE, Int.reduceNeg, if_true, if_false, reduceCtorEq, Nat.reduceSub, storeV_ptr, slcV_slice, ↓mwD, mwU]
    refine (Dec_c (hL c.lo (by simp)) w1.drew).use ?_
    rintro r w2 ⟨rfl, h2⟩
    have A2' := (A.ext (h1.trans ((Ext.drew w1).trans h2))).get (o := 2) rfl
    simp -dsimp -implicitDefEqProofs only [h2, a1, a2, A2', planEB_two, m65, sF65, Nat.reduceEqDiff, ↓reduceIte, Nat.reduceAdd, Nat.reduceMul, Value.cells, Value.oneCell', eq_self, ne_eq, Int.reduceToNat, Int.reduceEq, Int.reduceLT, Int.reduceLE, Int.reduceNeg, if_true, if_false, reduceCtorEq, Nat.reduceSub, storeV_ptr, slcV_slice, ↓mwD, mwU]
    refine (Dec_c (hL c.hi (by simp)) w2).use ?_
    rintro r w3 ⟨rfl, h3⟩
    have E3 := h2.trans h3
    have hx3 := h1.trans ((Ext.drew w1).trans E3)
    have A0' := (A.ext hx3).get (o := 0) rfl
    rw [k] at A0'
    have A2'' := (A.ext hx3).get (o := 2) rfl
    have q2' := ((Ext.drew w1).trans E3).cell (q2 (by omega))
    have hb3 : (2 : Int) < c.L.length := by omega
    simp -dsimp -implicitDefEqProofs only [E3, a3, a4, A0', A2'', hb3, q2', m65, sF65, Nat.reduceEqDiff, ↓reduceIte, Nat.reduceAdd, Nat.reduceMul, Value.cells, Value.oneCell', eq_self, ne_eq, Int.reduceToNat, Int.reduceEq, Int.reduceLT, Int.reduceLE, Int.reduceNeg, if_true, if_false, reduceCtorEq, Nat.reduceSub, storeV_ptr, slcV_slice, ↓mwD, mwU]
    refine (Dec_c (hL (c.L.getD 2 0) (by simp)) w3).use ?_
    rintro r w4 ⟨rfl, h4⟩
    simp -dsimp -implicitDefEqProofs only [a5, a6, m65, sF65, Nat.reduceEqDiff, ↓reduceIte, Nat.reduceAdd, Nat.reduceMul, Value.cells, Value.oneCell', eq_self, ne_eq, Int.reduceToNat, Int.reduceEq, Int.reduceLT, Int.reduceLE, Int.reduceNeg, if_true, if_false, reduceCtorEq, Nat.reduceSub, storeV_ptr, slcV_slice, ↓mwD, mwU]
    refine ⟨?_, x0.trans (hx3.trans h4)⟩
    unfold shownB restW
    rw [if_neg (by omega), if_neg (by omega), if_pos k]
    simp only [List.append_assoc, List.cons_append, List.nil_append, List.append_nil]
end Go.Proofs.YthcdnjbhhaonhaaGreatDoor
/- Layer 02: a format's text, by the reference. -/

namespace Go.Proofs.YthcdnjbhhaonhaaGreatDoor
open Go.RowKit
set_option linter.unusedSimpArgs false

theorem keyT_get {n : Nat} (h : n < keyT.length) : keyT[n] = keyW (n : Int) := by
  unfold keyW
  rw [Int.toNat_natCast, List.getD_eq_getElem?_getD, List.getElem?_eq_getElem h]; rfl
theorem mediaT_get {n : Nat} (h : n < mediaT.length) : mediaT[n] = mediaW (n : Int) := by
  unfold mediaW
  rw [Int.toNat_natCast, List.getD_eq_getElem?_getD, List.getElem?_eq_getElem h]; rfl
theorem take_txt {F : List Fl} {k : Nat} (h : k < F.length) : (F.take (k + 1)).flatMap fldT = (F.take k).flatMap fldT ++ fldT F[k] := by
  rw [List.take_succ_eq_append_getElem h, List.flatMap_append]; simp
theorem acc_len {F : List Fl} (k : Nat) (m : Int) (h : fieldsB 0 F = true) (h1 : 1 ≤ m) (h2 : m ≤ 3) : (mediaW m ++ (F.take k).flatMap fldT).length ≤ 5000 := by
  have e1 := mediaW_len h1 h2
  have e3 : F.length ≤ 6 := by
    rcases fieldsB_len h with h | h
    · rw [h]; simp
    · omega
  have e2 : ((F.take k).flatMap fldT).length ≤ (F.flatMap fldT).length := by
    conv => rhs; rw [← List.take_append_drop k F, List.flatMap_append, List.length_append]
    omega
  have e4 := fields_len (Int.le_refl 0) h
  rw [List.length_append]; omega
set_option maxHeartbeats 1000000 in
theorem refText_c (f : Fm) (s : Value) (w : World) (hs : SlF w s f.F) : Rets Go.Proofs.Tryz.prog 14 #[fmV f s] w fun r w' => r = .string (bw (txB f)) ∧ Ext w w' := by
  obtain ⟨p, cap, rfl, hc1, hc2⟩ := hs.shape
  obtain ⟨W, hW, A, x0⟩ := new_bk' w [.int .i64 f.m, .slice p f.F.length cap] 24
  have A0 := A.get (o := 0) rfl
  have A1 := A.get (o := 1) rfl
  refine en14 ?_
  simp -dsimp -implicitDefEqProofs only [fmV, ← hW, A0, A1, m14, sF14, Nat.reduceEqDiff, ↓reduceIte, Nat.reduceAdd, Nat.reduceMul, Value.cells, Value.oneCell', eq_self, ne_eq, Int.reduceToNat, Int.reduceEq, Int.reduceLT, Int.reduceLE, Int.reduceNeg, if_true, if_false, reduceCtorEq, Nat.reduceSub, storeV_ptr, slcV_slice, ↓mwD, mwU]
  clear hW
  refine (refFValid_c f _ W (hs.ext x0)).use ?_
  rintro r w1 ⟨rfl, h1⟩
  cases hv : f.valid
  · simp -dsimp -implicitDefEqProofs only [m14, sF14, Nat.reduceEqDiff, ↓reduceIte, Nat.reduceAdd, Nat.reduceMul, Value.cells, Value.oneCell', eq_self, ne_eq, Int.reduceToNat, Int.reduceEq, Int.reduceLT, Int.reduceLE, Int.reduceNeg, if_true, if_false, reduceCtorEq, Nat.reduceSub, storeV_ptr, slcV_slice, ↓mwD, mwU]
    exact ⟨by unfold txB; rw [hv]; rfl, x0.trans h1⟩
  have hv' := hv
  unfold Fm.valid at hv'
  simp only [Bool.and_eq_true, decide_eq_true_eq] at hv'
  obtain ⟨hF, hm1, hm2⟩ := hv'
  have htx : txB f = mediaW f.m ++ f.F.flatMap fldT := by unfold txB; rw [hv, if_pos rfl, txF_eq]
  rw [htx]
  obtain ⟨mn, hmn⟩ : ∃ n : Nat, f.m = n := ⟨f.m.toNat, by omega⟩
  have A0 := (A.ext h1).get (o := 0) rfl
  rw [hmn] at A0
  simp -dsimp -implicitDefEqProofs only [m14, sF14, Nat.reduceEqDiff, ↓reduceIte, Nat.reduceAdd, Nat.reduceMul, Value.cells, Value.oneCell', eq_self, ne_eq, Int.reduceToNat, Int.reduceEq, Int.reduceLT, Int.reduceLE, Int.reduceNeg, if_true, if_false, reduceCtorEq, Nat.reduceSub, storeV_ptr, slcV_slice, ↓mwD, mwU]
  refine mwpB_drawE ?_
  simp -dsimp -implicitDefEqProofs only [A0, planEB_two, m14, sF14, Nat.reduceEqDiff, ↓reduceIte, Nat.reduceAdd, Nat.reduceMul, Value.cells, Value.oneCell', eq_self, ne_eq, Int.reduceToNat, Int.reduceEq, Int.reduceLT, Int.reduceLE, Int.reduceNeg, if_true, if_false, reduceCtorEq, Nat.reduceSub, storeV_ptr, slcV_slice, ↓mwD, mwU]
  refine (refMedia_c w1.drew).use ?_
  rintro r w2 ⟨h2, b2, rfl, ht⟩
  have hmt : mn < mediaT.length := by show mn < 4; omega
  have g2 := ht mn hmt
  rw [mediaT_get hmt, ← hmn] at g2
  have hb1 : (0 : Int) ≤ mn ∧ (mn : Int) < mediaT.length := by omega
  have A0' := (A.ext (h1.trans ((Ext.drew w1).trans h2))).get (o := 0) rfl
  rw [hmn] at A0'
  simp -dsimp -implicitDefEqProofs only [h2, A0', hb1, and_self, g2, planEB_two, Int.toNat_natCast, m14, sF14, Nat.reduceEqDiff, ↓reduceIte, Nat.reduceAdd, Nat.reduceMul, Value.cells, Value.oneCell', eq_self, ne_eq, Int.reduceToNat, Int.reduceEq, Int.reduceLT, Int.reduceLE, Int.reduceNeg, if_true, if_false, reduceCtorEq, Nat.reduceSub, storeV_ptr, slcV_slice, ↓mwD, mwU]
  refine mwpB_loop (fun e ds u => ∃ k : Nat, k ≤ f.F.length ∧ e 4 = .int .i64 k ∧ e 3 = .string (bw (mediaW f.m ++ (f.F.take k).flatMap fldT)) ∧ e 1 = .pointer (some ⟨w.heap.size, 0, none⟩) ∧ ds = [] ∧ Ext W u)
    (fun e _ => f.F.length - (intOf (e 4)).toNat) ?_ ?_
  · simp -dsimp -implicitDefEqProofs only [m14, sF14, Nat.reduceEqDiff, ↓reduceIte, Nat.reduceAdd, Nat.reduceMul, Value.cells, Value.oneCell', eq_self, ne_eq, Int.reduceToNat, Int.reduceEq, Int.reduceLT, Int.reduceLE, Int.reduceNeg, if_true, if_false, reduceCtorEq, Nat.reduceSub, storeV_ptr, slcV_slice, ↓mwD, mwU]
    exact ⟨0, by omega, rfl, by simp, h1.trans ((Ext.drew w1).trans h2)⟩
  · rintro e ds u ⟨k, hk, h4, h3, h1', rfl, hu⟩
    have A1 := (A.ext hu).get (o := 1) rfl
    simp -dsimp -implicitDefEqProofs only [h4, h3, h1', A1, m14, sF14, Nat.reduceEqDiff, ↓reduceIte, Nat.reduceAdd, Nat.reduceMul, Value.cells, Value.oneCell', eq_self, ne_eq, Int.reduceToNat, Int.reduceEq, Int.reduceLT, Int.reduceLE, Int.reduceNeg, if_true, if_false, reduceCtorEq, Nat.reduceSub, storeV_ptr, slcV_slice, ↓mwD, mwU]
    refine iteW_dec (fun hlt => ?_) (fun hge => ?_)
    · have hlt' : k < f.F.length := by omega
      have hud := hu.trans (Ext.drew u)
      obtain ⟨b, o, rfl, hfs⟩ := (hs.ext (x0.trans hud)).at (by intro h0; rw [h0] at hlt'; simp at hlt')
      obtain ⟨sk, q0, q1, q2, q3, hsk⟩ := hfs.get hlt'
      obtain ⟨ps, cs, rfl, _, _⟩ := hsk.shape
      have hb2 : (0 : Int) ≤ k ∧ (k : Int) < f.F.length := by omega
      have hw := w64_succ hlt' (Nat.le_trans hc1 hc2)
      obtain ⟨hk0, hk6, hvk⟩ := fieldsB_mem hF _ (List.getElem_mem hlt')
      obtain ⟨kn, hkn⟩ : ∃ n : Nat, f.F[k].key = n := ⟨f.F[k].key.toNat, by omega⟩
      have q0' := q0
      rw [hkn] at q0'
      have A1 := (A.ext hud).get (o := 1) rfl
      have hal := acc_len k f.m hF hm1 hm2
      have hkl := keyW_len hk0 hk6
      have hsl := shown_len hvk
      have a1 : ∀ t, binV Go.Proofs.Tryz.prog t .add (.string ⟨#[32]⟩) (.string (bw (keyW f.F[k].key))) = _ := fun t => sp_add (by omega)
      have a2 : ∀ t, binV Go.Proofs.Tryz.prog t .add (.string (bw (32 :: keyW f.F[k].key))) (.string ⟨#[61]⟩) = some (.string (bw (32 :: (keyW f.F[k].key ++ [61])))) := fun t => add_eq (by rw [List.length_cons]; omega)
      have a3 : ∀ t, binV Go.Proofs.Tryz.prog t .add (.string (bw (32 :: (keyW f.F[k].key ++ [61])))) (.string (bw (shownB f.F[k].c))) = some (.string (bw (32 :: (keyW f.F[k].key ++ [61] ++ shownB f.F[k].c)))) := fun t => add_two (by simp; omega) (by omega)
      have a4 : ∀ t, binV Go.Proofs.Tryz.prog t .add (.string (bw (mediaW f.m ++ (f.F.take k).flatMap fldT))) (.string (bw (32 :: (keyW f.F[k].key ++ [61] ++ shownB f.F[k].c)))) = some (.string (bw (mediaW f.m ++ (f.F.take k).flatMap fldT ++ 32 :: (keyW f.F[k].key ++ [61] ++ shownB f.F[k].c)))) := fun t => add_two (by omega) (by simp; omega)
      simp -dsimp -implicitDefEqProofs only [h4, h3, h1', m14, sF14, Nat.reduceEqDiff, ↓reduceIte, Nat.reduceAdd, Nat.reduceMul, Value.cells, Value.oneCell', eq_self, ne_eq, Int.reduceToNat, Int.reduceEq, Int.reduceLT, Int.reduceLE, Int.reduceNeg, if_true, if_false, reduceCtorEq, Nat.reduceSub, storeV_ptr, slcV_slice, ↓mwD, mwU]
      have H4 := h4
      refine mwpB_drawE ?_
      simp -dsimp -implicitDefEqProofs only [h4, h3, h1', A1, hb2, and_self, q0', q1, q2, q3, Nat.mul_comm k 4, m14, sF14, Nat.reduceEqDiff, ↓reduceIte, Nat.reduceAdd, Nat.reduceMul, Value.cells, Value.oneCell', eq_self, ne_eq, Int.reduceToNat, Int.reduceEq, Int.reduceLT, Int.reduceLE, Int.reduceNeg, if_true, if_false, reduceCtorEq, Nat.reduceSub, storeV_ptr, slcV_slice, ↓mwD, mwU]
      refine (words_c u.drew).use ?_
      rintro r w3 ⟨h3', b3, rfl, ht3⟩
      have hkt : kn < keyT.length := by show kn < 7; omega
      have g3 := ht3 kn hkt
      rw [keyT_get hkt, ← hkn] at g3
      have hb3 : (0 : Int) ≤ kn ∧ (kn : Int) < keyT.length := by omega
      have fin : mediaW f.m ++ (f.F.take k).flatMap fldT ++ 32 :: (keyW f.F[k].key ++ [61] ++ shownB f.F[k].c) = mediaW f.m ++ (f.F.take (k + 1)).flatMap fldT := by
        rw [take_txt hlt', fldT]
        simp only [List.append_assoc, List.cons_append, List.nil_append]
      simp -dsimp -implicitDefEqProofs only [h3', hb3, and_self, g3, Int.toNat_natCast, a1, a2, planEB_two, m14, sF14, Nat.reduceEqDiff, ↓reduceIte, Nat.reduceAdd, Nat.reduceMul, Value.cells, Value.oneCell', eq_self, ne_eq, Int.reduceToNat, Int.reduceEq, Int.reduceLT, Int.reduceLE, Int.reduceNeg, if_true, if_false, reduceCtorEq, Nat.reduceSub, storeV_ptr, slcV_slice, ↓mwD, mwU]
      refine ⟨?_, ?_⟩
      · refine (said_c f.F[k].c _ w3 (hsk.ext h3') hvk).use ?_
        rintro r w4 ⟨rfl, h4'⟩
        have E4 := h3'.trans h4'
        simp -dsimp -implicitDefEqProofs only [E4, a3, a4, h4, h3, h1', hw, m14, sF14, Nat.reduceEqDiff, ↓reduceIte, Nat.reduceAdd, Nat.reduceMul, Value.cells, Value.oneCell', eq_self, ne_eq, Int.reduceToNat, Int.reduceEq, Int.reduceLT, Int.reduceLE, Int.reduceNeg, if_true, if_false, reduceCtorEq, Nat.reduceSub, storeV_ptr, slcV_slice, ↓mwD, mwU]
        exact ⟨⟨k + 1, by omega, rfl, by rw [fin], hud.trans E4⟩, by simp only [intOf, H4]; omega⟩
      · refine (said_c f.F[k].c _ w3 (hsk.ext h3') hvk).use ?_
        rintro r w4 ⟨rfl, h4'⟩
        have E4 := h3'.trans h4'
        have g4 := h4'.cell g3
        simp -dsimp -implicitDefEqProofs only [E4, g4, a1, a2, a3, a4, h4, h3, h1', hw, m14, sF14, Nat.reduceEqDiff, ↓reduceIte, Nat.reduceAdd, Nat.reduceMul, Value.cells, Value.oneCell', eq_self, ne_eq, Int.reduceToNat, Int.reduceEq, Int.reduceLT, Int.reduceLE, Int.reduceNeg, if_true, if_false, reduceCtorEq, Nat.reduceSub, storeV_ptr, slcV_slice, ↓mwD, mwU]
        exact ⟨⟨k + 1, by omega, rfl, by rw [fin], hud.trans E4⟩, by simp only [intOf, H4]; omega⟩
    · have hkl : k = f.F.length := by omega
      rw [hkl, List.take_length] at h3
      simp -dsimp -implicitDefEqProofs only [h4, h3, h1', m14, sF14, Nat.reduceEqDiff, ↓reduceIte, Nat.reduceAdd, Nat.reduceMul, Value.cells, Value.oneCell', eq_self, ne_eq, Int.reduceToNat, Int.reduceEq, Int.reduceLT, Int.reduceLE, Int.reduceNeg, if_true, if_false, reduceCtorEq, Nat.reduceSub, storeV_ptr, slcV_slice, ↓mwD, mwU]
      exact x0.trans hu
end Go.Proofs.YthcdnjbhhaonhaaGreatDoor

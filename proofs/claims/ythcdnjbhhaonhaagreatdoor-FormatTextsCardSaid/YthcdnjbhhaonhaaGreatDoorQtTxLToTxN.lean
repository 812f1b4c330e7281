/- Layer 02: a choice read from words, by the program. -/
import Derived.Test.YthcdnjbhhaonhaaGreatDoorQtTxIToTxK

namespace Go.Proofs.YthcdnjbhhaonhaaGreatDoor
open Go.RowKit
set_option linter.unusedSimpArgs false

theorem Cut_c (s sep : By) (w : World) (hs : s.length ≤ 1000000000) (hE : EnvS w) : Rets Go.Proofs.Tryz.prog 57 #[.string (bw s), .string (bw sep)] w fun r w' => r = .tuple #[.string (bw (cutF s sep).1), .string (bw (cutF s sep).2.1), .bool (cutF s sep).2.2] ∧ Ext w w' :=
  Rets.of (Cut_a (s := bw s) (sep := bw sep) hs hE) fun e w' ⟨he, hx⟩ => ⟨_, he, rfl, hx⟩
theorem Split_c (s : By) (c : UInt8) (w : World) (hs : s.length ≤ 1000000000) (hE : EnvS w) : Rets Go.Proofs.Tryz.prog 55 #[.string (bw s), .string (bw [c])] w fun r w' => Ext w w' ∧ r = .slice (some ⟨w.heap.size, 0, none⟩) (splitC c s).length (splitC c s).length ∧ w' = w.alloc (.cells (strs (splitC c s)).toArray 9) :=
  Rets.of (Split_a (s := bw s) (sep := bw [c]) hs (by show 1 ≤ ([c] : By).length; simp) hE) fun e w' ⟨he, hw⟩ => by
    have e1 : splitF (bw s).data.toList (bw [c]).data.toList = splitC c s := splitF_one c s
    rw [e1] at he hw
    exact ⟨_, he, hw ▸ Ext.alloc _ _, rfl, hw⟩
theorem bv_ch3 (k d : Int) (q : Option Addr) (n cp : Nat) : buildV Go.Proofs.Tryz.prog 35 [(0, .int .i64 k), (1, .int .i64 d), (2, .slice q n cp)] = some (.agg #[.int .i64 k, .int .i64 d, .slice q n cp]) := by kernel_rfl
theorem set3_row {w : World} {base b : Nat} {v x0 x1 x2 a0 a1 a2 : Value} {n : Nat} {cs : List Value} (h : w.ownsRow base 3 1 v n cs) (hk : Bk w b [x0, x1, x2] 35) :
    (((w.setCell ⟨b, 0, none⟩ a0).setCell ⟨b, 1, none⟩ a1).setCell ⟨b, 2, none⟩ a2).ownsRow base 3 1 v n cs :=
  set_row (set_row (set_row h hk (by decide)) (hk.set 0 a0) (by decide)) ((hk.set 0 a0).set 1 a1) (by decide)
theorem cutF_len (s sep : By) : (cutF s sep).1.length ≤ s.length ∧ (cutF s sep).2.1.length ≤ s.length := by
  unfold cutF
  cases idxF s sep with
  | none => simp
  | some i => simp only [List.length_take, List.length_drop]; omega
/-- What choice makes. -/
def ChoW (c : Ch) (w : World) (r : Value) (w' : World) : Prop := Ext w w' ∧ ∃ v, r = chV c v ∧ w'.ownsRow w.heap.size 3 1 v c.L.length (ints c.L)
set_option maxHeartbeats 2000000 in
theorem choice_c (d r : By) (more : Bool) (w : World) (hd : d.length ≤ 100000) (hr : r.length ≤ 100000) (hE : EnvS w) : Rets Go.Proofs.Tryz.prog 58 #[.string (bw d), .string (bw r), .bool more] w (ChoW (choP d (if more then some r else none)) w) := by
  obtain ⟨W, hW, A, x0⟩ := new_bk' w [.int .i64 0, .int .i64 0, .slice none 0 0] 35
  have hbW : W.heap.size = w.heap.size + 1 := by rw [hW, World.size_alloc]
  refine en58 ?_
  simp -dsimp -implicitDefEqProofs only [← hW, m58, sF58, Nat.reduceEqDiff, ↓reduceIte, Nat.reduceAdd, Nat.reduceMul, Value.cells, Value.oneCell', eq_self, ne_eq, Int.reduceToNat, Int.reduceEq, Int.reduceLT, Int.reduceLE, Int.reduceNeg, if_true, if_false, reduceCtorEq, Nat.reduceSub, storeV_ptr, slcV_slice, ↓mwD, mwU]
  clear hW
  refine (number_c d W (by omega) (hE.ext x0)).use ?_
  rintro q1 w1 ⟨rfl, h1⟩
  simp -dsimp -implicitDefEqProofs only [m58, sF58, Nat.reduceEqDiff, ↓reduceIte, Nat.reduceAdd, Nat.reduceMul, Value.cells, Value.oneCell', eq_self, ne_eq, Int.reduceToNat, Int.reduceEq, Int.reduceLT, Int.reduceLE, Int.reduceNeg, if_true, if_false, reduceCtorEq, Nat.reduceSub, storeV_ptr, slcV_slice, ↓mwD, mwU]
  refine (number_c d w1 (by omega) (hE.ext (x0.trans h1))).use ?_
  rintro q2 w2 ⟨rfl, h2⟩
  obtain ⟨w3, hw3, D3, x3⟩ := new_bk' w2 [.int .i64 (numP d)] 3
  have R3 : w3.ownsRow w.heap.size 3 1 (.slice (some ⟨w2.heap.size, 0, none⟩) 1 1) 1 (ints [numP d]) := by
    rw [hw3]; exact own_new w2 (ints [numP d]) 3 w.heap.size 1 1 rfl (x0.trans (h1.trans h2)).size (by unfold maxLen; omega)
  have y3 : Ext W w3 := h1.trans (h2.trans x3)
  have C4 := Bk.new w3 [.int .i64 1, .int .i64 (numP d), .slice (some ⟨w2.heap.size, 0, none⟩) 1 1] 35
  have x4 : Ext w3 (w3.alloc (.cells #[.int .i64 1, .int .i64 (numP d), .slice (some ⟨w2.heap.size, 0, none⟩) 1 1] 35)) := Ext.alloc _ _
  have z0 := C4.get (o := 0) rfl
  have z1 := C4.get (o := 1) rfl
  have z2 := C4.get (o := 2) rfl
  have A4 := A.ext (y3.trans x4)
  have P := put3 A4 (.int .i64 1) (.int .i64 (numP d)) (.slice (some ⟨w2.heap.size, 0, none⟩) 1 1)
  obtain ⟨_, p0⟩ := P.c0
  obtain ⟨_, p1⟩ := P.c1
  obtain ⟨_, p2⟩ := P.c2
  have f0 := P.z0
  have f1 := P.z1
  have f2 := P.z2
  have r0 := P.bk.get (o := 0) rfl
  have r1 := P.bk.get (o := 1) rfl
  have r2 := P.bk.get (o := 2) rfl
  cases more
  · simp -dsimp -implicitDefEqProofs only [bs_int, ← hw3, bv_ch3, setCell_new, z0, z1, z2, p0, p1, p2, f0, f1, f2, r0, r1, r2, m58, sF58, Nat.reduceEqDiff, ↓reduceIte, Nat.reduceAdd, Nat.reduceMul, Value.cells, Value.oneCell', eq_self, ne_eq, Int.reduceToNat, Int.reduceEq, Int.reduceLT, Int.reduceLE, Int.reduceNeg, if_true, if_false, reduceCtorEq, Nat.reduceSub, storeV_ptr, slcV_slice, ↓mwD, mwU]
    exact ⟨(x0.trans (y3.trans x4)).set3 (Nat.le_refl _) _ _ _, _, rfl, set3_row (Own.ext R3 x4) A4⟩
  rw [if_pos rfl]
  clear P p0 p1 p2 f0 f1 f2 r0 r1 r2
  simp -dsimp -implicitDefEqProofs only [bs_int, ← hw3, bv_ch3, setCell_new, m58, sF58, Nat.reduceEqDiff, ↓reduceIte, Nat.reduceAdd, Nat.reduceMul, Value.cells, Value.oneCell', eq_self, ne_eq, Int.reduceToNat, Int.reduceEq, Int.reduceLT, Int.reduceLE, Int.reduceNeg, if_true, if_false, reduceCtorEq, Nat.reduceSub, storeV_ptr, slcV_slice, ↓mwD, mwU]
  rw [← hw3]
  replace C4 : Bk (w3.alloc (.cells #[.int .i64 1, .int .i64 (numP d), .slice (some ⟨w2.heap.size, 0, none⟩) 1 1] 35)) w3.heap.size [.int .i64 1, .int .i64 (numP d), .slice (some ⟨w2.heap.size, 0, none⟩) 1 1] 35 := C4
  clear z0 z1 z2
  have R4 := Own.ext R3 x4
  have y4 := y3.trans x4
  clear hw3
  generalize w3.alloc (.cells #[.int .i64 1, .int .i64 (numP d), .slice (some ⟨w2.heap.size, 0, none⟩) 1 1] 35) = w4 at *
  have hb7 : W.heap.size ≤ w3.heap.size := y3.size
  generalize w3.heap.size = b7 at *
  refine (Cut_c r [46, 46] w4 (by omega) (hE.ext (x0.trans y4))).use ?_
  rintro q3 w5 ⟨rfl, h5⟩
  have hcl := cutF_len r [46, 46]
  cases hix : idxF r [46, 46] with
  | none =>
    have hcut : cutF r [46, 46] = (r, [], false) := by unfold cutF; rw [hix]
    rw [hcut]
    have hch : choP d (some r) = ⟨2, numP d, (splitC 44 r).map numP⟩ := by unfold choP; simp only [hix]
    rw [hch]
    have C5 := C4.ext h5
    have C5a := C5.set 0 (.int .i64 2)
    have C5b := C5a.set 2 (.slice none 0 0)
    have g0 := C5.get (o := 0) rfl
    have g2 := C5a.get (o := 2) rfl
    have k0 := C5.frozen 0
    have k2 := C5a.frozen 2
    have y5 : Ext W ((w5.setCell ⟨b7, 0, none⟩ (.int .i64 2)).setCell ⟨b7, 2, none⟩ (.slice none 0 0)) := Ext.setCell (Ext.setCell (y4.trans h5) hb7 _) hb7 _
    simp -dsimp -implicitDefEqProofs only [g0, g2, k0, k2, m58, sF58, Nat.reduceEqDiff, ↓reduceIte, Nat.reduceAdd, Nat.reduceMul, Value.cells, Value.oneCell', eq_self, ne_eq, Int.reduceToNat, Int.reduceEq, Int.reduceLT, Int.reduceLE, Int.reduceNeg, if_true, if_false, reduceCtorEq, Nat.reduceSub, storeV_ptr, slcV_slice, ↓mwD, mwU]
    replace C5b : Bk ((w5.setCell ⟨b7, 0, none⟩ (.int .i64 2)).setCell ⟨b7, 2, none⟩ (.slice none 0 0)) b7 [.int .i64 2, .int .i64 (numP d), .slice none 0 0] 35 := C5b
    clear g2 k2 C5a
    generalize (w5.setCell ⟨b7, 0, none⟩ (.int .i64 2)).setCell ⟨b7, 2, none⟩ (.slice none 0 0) = w6 at *
    refine (Split_c r 44 w6 (by omega) (hE.ext (x0.trans y5))).use ?_
    rintro q4 w7 ⟨h7, rfl, hw7⟩
    have hts : Bk w7 w6.heap.size (strs (splitC 44 r)) 9 := by rw [hw7]; exact Bk.new _ _ _
    clear hw7
    have hb76 : b7 < w6.heap.size := C5b.lt
    have hsub := splitC_sub 44 r
    have hlen := (splitC_len 44 r).2
    generalize splitC 44 r = E at *
    have y7 := y5.trans h7
    have C7 := C5b.ext h7
    simp -dsimp -implicitDefEqProofs only [m58, sF58, Nat.reduceEqDiff, ↓reduceIte, Nat.reduceAdd, Nat.reduceMul, Value.cells, Value.oneCell', eq_self, ne_eq, Int.reduceToNat, Int.reduceEq, Int.reduceLT, Int.reduceLE, Int.reduceNeg, if_true, if_false, reduceCtorEq, Nat.reduceSub, storeV_ptr, slcV_slice, ↓mwD, mwU]
    refine mwpB_loop (fun e ds u => ∃ (k : Nat) (v : Value), k ≤ E.length ∧ e 60 = .int .i64 k ∧ e 59 = .int .i64 E.length ∧ e 58 = .slice (some ⟨w6.heap.size, 0, none⟩) E.length E.length ∧ e 7 = .pointer (some ⟨b7, 0, none⟩) ∧ e 6 = .pointer (some ⟨w.heap.size, 0, none⟩) ∧ ds = [] ∧ Ext W u ∧ Bk u w6.heap.size (strs E) 9 ∧ Bk u b7 [.int .i64 2, .int .i64 (numP d), v] 35 ∧ u.ownsRow W.heap.size 3 1 v ((E.take k).map numP).length (ints ((E.take k).map numP)))
      (fun e _ => E.length - (intOf (e 60)).toNat) ?_ ?_
    · simp -dsimp -implicitDefEqProofs only [m58, sF58, Nat.reduceEqDiff, ↓reduceIte, Nat.reduceAdd, Nat.reduceMul, Value.cells, Value.oneCell', eq_self, ne_eq, Int.reduceToNat, Int.reduceEq, Int.reduceLT, Int.reduceLE, Int.reduceNeg, if_true, if_false, reduceCtorEq, Nat.reduceSub, storeV_ptr, slcV_slice, ↓mwD, mwU]
      exact ⟨0, _, by omega, rfl, y7, hts, C7, World.ownsRow_nil _ _ _ _⟩
    · rintro e ds u ⟨k, v, hk, h60, h59, h58, h7', h6', rfl, hu, hsl, hC, hown⟩
      obtain ⟨qv, nv, cv, rfl⟩ := own_slice hown
      by_cases hlt : (k : Int) < E.length
      · have hlt' : k < E.length := by omega
        have g1 := hsl.get (strs_get hlt')
        have hb1 : (0 : Int) ≤ k ∧ (k : Int) < E.length := by omega
        have hw := w64_succ hlt' (show E.length ≤ maxLen by unfold maxLen; omega)
        have T2 := hC.get (o := 2) rfl
        simp -dsimp -implicitDefEqProofs only [h60, h59, h58, h7', h6', hlt, hb1, and_self, g1, m58, sF58, Nat.reduceEqDiff, ↓reduceIte, Nat.reduceAdd, Nat.reduceMul, Value.cells, Value.oneCell', eq_self, ne_eq, Int.reduceToNat, Int.reduceEq, Int.reduceLT, Int.reduceLE, Int.reduceNeg, if_true, if_false, reduceCtorEq, Nat.reduceSub, storeV_ptr, slcV_slice, ↓mwD, mwU]
        refine mwpB_draw (fun w' => w'.cell? ⟨b7, 2, none⟩ = some (.slice qv nv cv)) T2 ?_
        simp -dsimp -implicitDefEqProofs only [h60, h59, h58, h7', h6', m58, sF58, Nat.reduceEqDiff, ↓reduceIte, Nat.reduceAdd, Nat.reduceMul, Value.cells, Value.oneCell', eq_self, ne_eq, Int.reduceToNat, Int.reduceEq, Int.reduceLT, Int.reduceLE, Int.reduceNeg, if_true, if_false, reduceCtorEq, Nat.reduceSub, storeV_ptr, slcV_slice, ↓mwD, mwU]
        refine softB_load (v := .slice qv nv cv) (fun w'' hw => ?_) ?_
        · simp -dsimp -implicitDefEqProofs only [hw, m58, sF58, Nat.reduceEqDiff, ↓reduceIte, Nat.reduceAdd, Nat.reduceMul, Value.cells, Value.oneCell', eq_self, ne_eq, Int.reduceToNat, Int.reduceEq, Int.reduceLT, Int.reduceLE, Int.reduceNeg, if_true, if_false, reduceCtorEq, Nat.reduceSub, storeV_ptr, slcV_slice, ↓mwD, mwU]
        simp -dsimp -implicitDefEqProofs only [h60, h59, h58, h7', h6', m58, sF58, Nat.reduceEqDiff, ↓reduceIte, Nat.reduceAdd, Nat.reduceMul, Value.cells, Value.oneCell', eq_self, ne_eq, Int.reduceToNat, Int.reduceEq, Int.reduceLT, Int.reduceLE, Int.reduceNeg, if_true, if_false, reduceCtorEq, Nat.reduceSub, storeV_ptr, slcV_slice, ↓mwD, mwU]
        refine (number_c E[k] u.drew (by have := hsub E[k] (List.getElem_mem _); omega) (hE.ext (x0.trans (hu.trans (Ext.drew u))))).use ?_
        rintro q5 u1 ⟨rfl, h1'⟩
        have X1 : Ext u u1 := (Ext.drew u).trans h1'
        refine ⟨X1.cell T2, ?_⟩
        simp -dsimp -implicitDefEqProofs only [h60, h59, h58, h7', h6', bs_int, m58, sF58, Nat.reduceEqDiff, ↓reduceIte, Nat.reduceAdd, Nat.reduceMul, Value.cells, Value.oneCell', eq_self, ne_eq, Int.reduceToNat, Int.reduceEq, Int.reduceLT, Int.reduceLE, Int.reduceNeg, if_true, if_false, reduceCtorEq, Nat.reduceSub, storeV_ptr, slcV_slice, ↓mwD, mwU]
        refine ⟨cell_old (X1.cell T2) _, ?_⟩
        obtain ⟨v', u2, happ, hown2, hext2, hbk2⟩ := append_it (Own.ext hown X1) (numP E[k]) (by simp; omega) (hu.trans X1).size
        refine appB.mk happ ?_
        have hC2 := hbk2 (hC.ext X1) (by decide)
        obtain ⟨q2, n2, cp2, rfl⟩ := own_slice hown2
        have t2 := hC2.get (o := 2) rfl
        have t2f := hC2.frozen 2
        have hC3 := hC2.set 2 (.slice q2 n2 cp2)
        refine ⟨t2, ?_⟩
        simp -dsimp -implicitDefEqProofs only [h60, h59, h58, h7', h6', t2, t2f, hw, m58, sF58, Nat.reduceEqDiff, ↓reduceIte, Nat.reduceAdd, Nat.reduceMul, Value.cells, Value.oneCell', eq_self, ne_eq, Int.reduceToNat, Int.reduceEq, Int.reduceLT, Int.reduceLE, Int.reduceNeg, if_true, if_false, reduceCtorEq, Nat.reduceSub, storeV_ptr, slcV_slice, ↓mwD, mwU]
        refine ⟨⟨k + 1, _, by omega, rfl, Ext.setCell (hext2 (hu.trans X1) (Nat.le_refl _)) hb7 _, ?_, hC3, ?_⟩, by simp only [intOf, h60]; omega⟩
        · exact (hbk2 (hsl.ext X1) (by decide)).ne (by omega) 2 _
        · rw [List.take_succ_eq_append_getElem hlt', List.map_append]
          exact set_row hown2 hC2 (by decide)
      · have hkl : k = E.length := by omega
        rw [hkl, List.take_length] at hown
        have z0 := hC.get (o := 0) rfl
        have z1 := hC.get (o := 1) rfl
        have z2 := hC.get (o := 2) rfl
        have P := put3 (A.ext hu) (.int .i64 2) (.int .i64 (numP d)) (.slice qv nv cv)
        obtain ⟨_, p0⟩ := P.c0
        obtain ⟨_, p1⟩ := P.c1
        obtain ⟨_, p2⟩ := P.c2
        have f0 := P.z0
        have f1 := P.z1
        have f2 := P.z2
        have r0 := P.bk.get (o := 0) rfl
        have r1 := P.bk.get (o := 1) rfl
        have r2 := P.bk.get (o := 2) rfl
        simp -dsimp -implicitDefEqProofs only [h60, h59, h58, h7', h6', hlt, z0, z1, z2, p0, p1, p2, f0, f1, f2, r0, r1, r2, m58, sF58, Nat.reduceEqDiff, ↓reduceIte, Nat.reduceAdd, Nat.reduceMul, Value.cells, Value.oneCell', eq_self, ne_eq, Int.reduceToNat, Int.reduceEq, Int.reduceLT, Int.reduceLE, Int.reduceNeg, if_true, if_false, reduceCtorEq, Nat.reduceSub, storeV_ptr, slcV_slice, ↓mwD, mwU]
        exact ⟨(x0.trans hu).set3 (Nat.le_refl _) _ _ _, _, rfl, Own.mono (set3_row hown (A.ext hu)) (by omega)⟩
  | some i =>
    have hcut : cutF r [46, 46] = (r.take i, r.drop (i + 2), true) := by unfold cutF; rw [hix]; rfl
    rw [hcut]
    have y5 := y4.trans h5
    simp -dsimp -implicitDefEqProofs only [m58, sF58, Nat.reduceEqDiff, ↓reduceIte, Nat.reduceAdd, Nat.reduceMul, Value.cells, Value.oneCell', eq_self, ne_eq, Int.reduceToNat, Int.reduceEq, Int.reduceLT, Int.reduceLE, Int.reduceNeg, if_true, if_false, reduceCtorEq, Nat.reduceSub, storeV_ptr, slcV_slice, ↓mwD, mwU]
    refine (Cut_c (r.drop (i + 2)) [47] w5 (by rw [List.length_drop]; omega) (hE.ext (x0.trans y5))).use ?_
    rintro q4 w6 ⟨rfl, h6⟩
    have hc2 := cutF_len (r.drop (i + 2)) [47]
    have y6 := y5.trans h6
    have hl1 : (r.take i).length ≤ 1000000000 := by rw [List.length_take]; omega
    have hl2 : (cutF (r.drop (i + 2)) [47]).1.length ≤ 1000000000 := by rw [List.length_drop] at hc2; omega
    simp -dsimp -implicitDefEqProofs only [m58, sF58, Nat.reduceEqDiff, ↓reduceIte, Nat.reduceAdd, Nat.reduceMul, Value.cells, Value.oneCell', eq_self, ne_eq, Int.reduceToNat, Int.reduceEq, Int.reduceLT, Int.reduceLE, Int.reduceNeg, if_true, if_false, reduceCtorEq, Nat.reduceSub, storeV_ptr, slcV_slice, ↓mwD, mwU]
    refine (number_c (r.take i) w6 hl1 (hE.ext (x0.trans y6))).use ?_
    rintro q5 w7 ⟨rfl, h7⟩
    simp -dsimp -implicitDefEqProofs only [m58, sF58, Nat.reduceEqDiff, ↓reduceIte, Nat.reduceAdd, Nat.reduceMul, Value.cells, Value.oneCell', eq_self, ne_eq, Int.reduceToNat, Int.reduceEq, Int.reduceLT, Int.reduceLE, Int.reduceNeg, if_true, if_false, reduceCtorEq, Nat.reduceSub, storeV_ptr, slcV_slice, ↓mwD, mwU]
    refine (number_c _ w7 hl2 (hE.ext (x0.trans (y6.trans h7)))).use ?_
    rintro q6 w8 ⟨rfl, h8⟩
    have h58 := h5.trans (h6.trans (h7.trans h8))
    have y8 := y4.trans h58
    obtain ⟨w9, hw9, D9, x9⟩ := new_bk' w8 [.int .i64 (numP (r.take i)), .int .i64 (numP (cutF (r.drop (i + 2)) [47]).1)] 3
    have R9 : w9.ownsRow W.heap.size 3 1 (.slice (some ⟨w8.heap.size, 0, none⟩) 2 2) [numP (r.take i), numP (cutF (r.drop (i + 2)) [47]).1].length (ints [numP (r.take i), numP (cutF (r.drop (i + 2)) [47]).1]) := by
      rw [hw9]; exact own_new w8 (ints [numP (r.take i), numP (cutF (r.drop (i + 2)) [47]).1]) 3 W.heap.size 2 1 rfl y8.size (by unfold maxLen; omega)
    have C9 := C4.ext (h58.trans x9)
    have C9a := C9.set 0 (.int .i64 3)
    have C9b := C9a.set 2 (.slice (some ⟨w8.heap.size, 0, none⟩) 2 2)
    have g0 := C9.get (o := 0) rfl
    have g2 := C9a.get (o := 2) rfl
    have k0 := C9.frozen 0
    have k2 := C9a.frozen 2
    have y9 : Ext W ((w9.setCell ⟨b7, 0, none⟩ (.int .i64 3)).setCell ⟨b7, 2, none⟩ (.slice (some ⟨w8.heap.size, 0, none⟩) 2 2)) := Ext.setCell (Ext.setCell (y8.trans x9) hb7 _) hb7 _
    have R10 := set_row (o := 2) (x := .slice (some ⟨w8.heap.size, 0, none⟩) 2 2) (set_row (o := 0) (x := .int .i64 3) R9 C9 (by decide)) C9a (by decide)
    have hch : choP d (some r) = (match idxF (r.drop (i + 2)) [47] with
      | some j => (⟨4, numP d, [numP (r.take i), numP ((r.drop (i + 2)).take j), numP ((r.drop (i + 2)).drop (j + 1))]⟩ : Ch)
      | none => ⟨3, numP d, [numP (r.take i), numP (r.drop (i + 2))]⟩) := by
      unfold choP; simp only [hix]
      cases idxF (r.drop (i + 2)) [47] <;> rfl
    rw [hch]
    simp -dsimp -implicitDefEqProofs only [bs_int2, ← hw9, g0, g2, k0, k2, m58, sF58, Nat.reduceEqDiff, ↓reduceIte, Nat.reduceAdd, Nat.reduceMul, Value.cells, Value.oneCell', eq_self, ne_eq, Int.reduceToNat, Int.reduceEq, Int.reduceLT, Int.reduceLE, Int.reduceNeg, if_true, if_false, reduceCtorEq, Nat.reduceSub, storeV_ptr, slcV_slice, ↓mwD, mwU]
    replace C9b : Bk ((w9.setCell ⟨b7, 0, none⟩ (.int .i64 3)).setCell ⟨b7, 2, none⟩ (.slice (some ⟨w8.heap.size, 0, none⟩) 2 2)) b7 [.int .i64 3, .int .i64 (numP d), .slice (some ⟨w8.heap.size, 0, none⟩) 2 2] 35 := C9b
    clear g2 k2 C9a
    generalize (w9.setCell ⟨b7, 0, none⟩ (.int .i64 3)).setCell ⟨b7, 2, none⟩ (.slice (some ⟨w8.heap.size, 0, none⟩) 2 2) = u at *
    cases hjx : idxF (r.drop (i + 2)) [47] with
    | none =>
      have hcut2 : cutF (r.drop (i + 2)) [47] = (r.drop (i + 2), [], false) := by unfold cutF; rw [hjx]
      rw [hcut2] at R10 ⊢
      have z0 := C9b.get (o := 0) rfl
      have z1 := C9b.get (o := 1) rfl
      have z2 := C9b.get (o := 2) rfl
      have P := put3 (A.ext y9) (.int .i64 3) (.int .i64 (numP d)) (.slice (some ⟨w8.heap.size, 0, none⟩) 2 2)
      obtain ⟨_, p0⟩ := P.c0
      obtain ⟨_, p1⟩ := P.c1
      obtain ⟨_, p2⟩ := P.c2
      have f0 := P.z0
      have f1 := P.z1
      have f2 := P.z2
      have r0 := P.bk.get (o := 0) rfl
      have r1 := P.bk.get (o := 1) rfl
      have r2 := P.bk.get (o := 2) rfl
      simp -dsimp -implicitDefEqProofs only [z0, z1, z2, p0, p1, p2, f0, f1, f2, r0, r1, r2, m58, sF58, Nat.reduceEqDiff, ↓reduceIte, Nat.reduceAdd, Nat.reduceMul, Value.cells, Value.oneCell', eq_self, ne_eq, Int.reduceToNat, Int.reduceEq, Int.reduceLT, Int.reduceLE, Int.reduceNeg, if_true, if_false, reduceCtorEq, Nat.reduceSub, storeV_ptr, slcV_slice, ↓mwD, mwU]
      exact ⟨(x0.trans y9).set3 (Nat.le_refl _) _ _ _, _, rfl, Own.mono (set3_row R10 (A.ext y9)) (by omega)⟩
    | some j =>
      have hcut2 : cutF (r.drop (i + 2)) [47] = ((r.drop (i + 2)).take j, (r.drop (i + 2)).drop (j + 1), true) := by unfold cutF; rw [hjx]; rfl
      rw [hcut2] at R10 ⊢
      have T2 := C9b.get (o := 2) rfl
      have hl3 : ((r.drop (i + 2)).drop (j + 1)).length ≤ 1000000000 := by rw [List.length_drop, List.length_drop]; omega
      simp -dsimp -implicitDefEqProofs only [m58, sF58, Nat.reduceEqDiff, ↓reduceIte, Nat.reduceAdd, Nat.reduceMul, Value.cells, Value.oneCell', eq_self, ne_eq, Int.reduceToNat, Int.reduceEq, Int.reduceLT, Int.reduceLE, Int.reduceNeg, if_true, if_false, reduceCtorEq, Nat.reduceSub, storeV_ptr, slcV_slice, ↓mwD, mwU]
      refine mwpB_draw (fun w' => w'.cell? ⟨b7, 2, none⟩ = some (.slice (some ⟨w8.heap.size, 0, none⟩) 2 2)) T2 ?_
      simp -dsimp -implicitDefEqProofs only [m58, sF58, Nat.reduceEqDiff, ↓reduceIte, Nat.reduceAdd, Nat.reduceMul, Value.cells, Value.oneCell', eq_self, ne_eq, Int.reduceToNat, Int.reduceEq, Int.reduceLT, Int.reduceLE, Int.reduceNeg, if_true, if_false, reduceCtorEq, Nat.reduceSub, storeV_ptr, slcV_slice, ↓mwD, mwU]
      refine softB_load (v := .slice (some ⟨w8.heap.size, 0, none⟩) 2 2) (fun w'' hw => ?_) ?_
      · simp -dsimp -implicitDefEqProofs only [hw, m58, sF58, Nat.reduceEqDiff, ↓reduceIte, Nat.reduceAdd, Nat.reduceMul, Value.cells, Value.oneCell', eq_self, ne_eq, Int.reduceToNat, Int.reduceEq, Int.reduceLT, Int.reduceLE, Int.reduceNeg, if_true, if_false, reduceCtorEq, Nat.reduceSub, storeV_ptr, slcV_slice, ↓mwD, mwU]
      simp -dsimp -implicitDefEqProofs only [m58, sF58, Nat.reduceEqDiff, ↓reduceIte, Nat.reduceAdd, Nat.reduceMul, Value.cells, Value.oneCell', eq_self, ne_eq, Int.reduceToNat, Int.reduceEq, Int.reduceLT, Int.reduceLE, Int.reduceNeg, if_true, if_false, reduceCtorEq, Nat.reduceSub, storeV_ptr, slcV_slice, ↓mwD, mwU]
      refine (number_c _ u.drew hl3 (hE.ext (x0.trans (y9.trans (Ext.drew u))))).use ?_
      rintro q5 u1 ⟨rfl, h1'⟩
      have X1 : Ext u u1 := (Ext.drew u).trans h1'
      refine ⟨X1.cell T2, ?_⟩
      simp -dsimp -implicitDefEqProofs only [bs_int, m58, sF58, Nat.reduceEqDiff, ↓reduceIte, Nat.reduceAdd, Nat.reduceMul, Value.cells, Value.oneCell', eq_self, ne_eq, Int.reduceToNat, Int.reduceEq, Int.reduceLT, Int.reduceLE, Int.reduceNeg, if_true, if_false, reduceCtorEq, Nat.reduceSub, storeV_ptr, slcV_slice, ↓mwD, mwU]
      refine ⟨cell_old (X1.cell T2) _, ?_⟩
      obtain ⟨v', u2, happ, hown2, hext2, hbk2⟩ := append_it (Own.ext R10 X1) (numP ((r.drop (i + 2)).drop (j + 1))) (by simp) (y9.trans X1).size
      refine appB.mk happ ?_
      have hC2 := hbk2 (C9b.ext X1) (by decide)
      obtain ⟨q2, n2, cp2, rfl⟩ := own_slice hown2
      have t2 := hC2.get (o := 2) rfl
      have t0 := hC2.get (o := 0) rfl
      have t0f := hC2.frozen 0
      have hC2a := hC2.set 0 (.int .i64 4)
      have t2' := hC2a.get (o := 2) rfl
      have t2f := hC2a.frozen 2
      have hC3 := hC2a.set 2 (.slice q2 n2 cp2)
      have y11 : Ext W ((u2.setCell ⟨b7, 0, none⟩ (.int .i64 4)).setCell ⟨b7, 2, none⟩ (.slice q2 n2 cp2)) := Ext.setCell (Ext.setCell (hext2 (y9.trans X1) (Nat.le_refl _)) hb7 _) hb7 _
      have R11 := set_row (o := 2) (x := .slice q2 n2 cp2) (set_row (o := 0) (x := .int .i64 4) hown2 hC2 (by decide)) hC2a (by decide)
      refine ⟨t2, ?_⟩
      have z0 := hC3.get (o := 0) rfl
      have z1 := hC3.get (o := 1) rfl
      have z2 := hC3.get (o := 2) rfl
      have P := put3 (A.ext y11) (.int .i64 4) (.int .i64 (numP d)) (.slice q2 n2 cp2)
      obtain ⟨_, p0⟩ := P.c0
      obtain ⟨_, p1⟩ := P.c1
      obtain ⟨_, p2⟩ := P.c2
      have f0 := P.z0
      have f1 := P.z1
      have f2 := P.z2
      have r0 := P.bk.get (o := 0) rfl
      have r1 := P.bk.get (o := 1) rfl
      have r2 := P.bk.get (o := 2) rfl
      simp -dsimp -implicitDefEqProofs only [t0, t0f, t2', t2f, z0, z1, z2, p0, p1, p2, f0, f1, f2, r0, r1, r2, m58, sF58, Nat.reduceEqDiff, ↓reduceIte, Nat.reduceAdd, Nat.reduceMul, Value.cells, Value.oneCell', eq_self, ne_eq, Int.reduceToNat, Int.reduceEq, Int.reduceLT, Int.reduceLE, Int.reduceNeg, if_true, if_false, reduceCtorEq, Nat.reduceSub, storeV_ptr, slcV_slice, ↓mwD, mwU]
      exact ⟨(x0.trans y11).set3 (Nat.le_refl _) _ _ _, _, rfl, Own.mono (set3_row R11 (A.ext y11)) (by omega)⟩
end Go.Proofs.YthcdnjbhhaonhaaGreatDoor
/- Layer 02: a text read as a format, by the program. -/

namespace Go.Proofs.YthcdnjbhhaonhaaGreatDoor
open Go.RowKit
set_option linter.unusedSimpArgs false

theorem pF_of {W : List By} {i : Nat} (h : i + 2 < W.length) (hof : W[i + 1] = ofB) : pF (W.drop i) = fldP W[i] (some W[i + 2]) :: pF (W.drop (i + 3)) := by
  rw [List.drop_eq_getElem_cons (show i < W.length by omega), List.drop_eq_getElem_cons (show i + 1 < W.length by omega), List.drop_eq_getElem_cons h, pF]
  simp only [hof, if_true]
theorem pF_no {W : List By} {i : Nat} (h : i < W.length) (hof : ∀ h2 : i + 2 < W.length, W[i + 1] ≠ ofB) : pF (W.drop i) = fldP W[i] none :: pF (W.drop (i + 1)) := by
  rw [List.drop_eq_getElem_cons h]
  by_cases h1 : i + 1 < W.length
  · rw [List.drop_eq_getElem_cons h1]
    by_cases h2 : i + 2 < W.length
    · rw [List.drop_eq_getElem_cons h2, pF]
      simp only [hof h2, if_false]
    · rw [List.drop_of_length_le (show W.length ≤ i + 1 + 1 by omega)]
      simp only [pF]
  · rw [List.drop_of_length_le (show W.length ≤ i + 1 by omega)]
    simp only [pF]
theorem valid_len6 {f : Fm} (h : f.valid = true) : f.F.length ≤ 6 := by
  unfold Fm.valid at h
  simp only [Bool.and_eq_true] at h
  rcases fieldsB_len h.1 with h | h
  · rw [h]; simp
  · omega
theorem fldP_cut (x : By) (r : Option By) : fldP x r = ⟨idxL keyT (cutF x [61]).1 0, choP (cutF x [61]).2.1 r⟩ := by
  unfold fldP cutF
  cases idxF x [61] <;> rfl

def lenOf : Value → Nat
  | .slice _ n _ => n
  | _ => 0
/-- The rest of a list of words. -/
theorem slc_words (b j l x : Nat) (q : Option Addr) (hq : 0 < l → q = some ⟨b, j, none⟩) (h : x ≤ l) (h0 : 0 < l) : ∃ q', slcV Go.Proofs.Tryz.prog 73 (.slice q l l) (some (.int .i64 (x : Nat))) none = some (.slice q' (l - x) (l - x)) ∧ (0 < l - x → q' = some ⟨b, j + x, none⟩) := by
  have e := hq h0
  subst e
  rw [slcV_slice, telem_73]
  simp only [Option.bind_some, boundV_some, boundV_none, tok_9, tsz_9, if_true]
  rw [if_pos (by omega)]
  have e1 : ((l : Int) - (x : Int)).toNat = l - x := by omega
  rw [e1]
  refine ⟨_, rfl, fun h1 => ?_⟩
  rw [if_neg (by omega)]
  simp [Addr.add]
set_option maxHeartbeats 4000000 in
theorem Parse_c (s : By) (w : World) (hE : EnvS w) : Rets Go.Proofs.Tryz.prog 12 #[.string (bw s)] w (ParW s w) := by
  obtain ⟨W0, hW, A, x0⟩ := new_bk' w [.int .i64 0, .slice none 0 0] 24
  refine en12 ?_
  have zeros : ∀ {u : World}, Ext W0 u → Ext w ((u.setCell ⟨w.heap.size, 0, none⟩ (.int .i64 0)).setCell ⟨w.heap.size, 1, none⟩ (.slice none 0 0)) := fun h =>
    (((x0.trans h).setCell (Nat.le_refl _) _).setCell (Nat.le_refl _) _)
  by_cases hl : (65536 : Int) < s.length
  · have k0 := A.set 0 (.int .i64 0)
    have k1 := k0.set 1 (.slice none 0 0)
    have b0 := A.get (o := 0) rfl
    have b1 := k0.get (o := 1) rfl
    have f0 := A.frozen 0
    have f1 := k0.frozen 1
    have r0 := k1.get (o := 0) rfl
    have r1 := k1.get (o := 1) rfl
    simp -dsimp -implicitDefEqProofs only [← hW, bw_size, hl, bv_fm0, b0, b1, f0, f1, r0, r1, m12, sF12, Nat.reduceEqDiff, ↓reduceIte, Nat.reduceAdd, Nat.reduceMul, Value.cells, Value.oneCell', eq_self, ne_eq, Int.reduceToNat, Int.reduceEq, Int.reduceLT, Int.reduceLE, Int.reduceNeg, if_true, if_false, reduceCtorEq, Nat.reduceSub, storeV_ptr, slcV_slice, ↓mwD, mwU]
    exact ⟨zeros (Ext.refl _), ⟨0, []⟩, none, 0, 3, rfl, SlF.nil _, by unfold ParR; rw [if_pos (by omega)]; exact ⟨rfl, rfl⟩⟩
  have hl' : ¬ 65536 < s.length := by omega
  simp -dsimp -implicitDefEqProofs only [← hW, bw_size, hl, m12, sF12, Nat.reduceEqDiff, ↓reduceIte, Nat.reduceAdd, Nat.reduceMul, Value.cells, Value.oneCell', eq_self, ne_eq, Int.reduceToNat, Int.reduceEq, Int.reduceLT, Int.reduceLE, Int.reduceNeg, if_true, if_false, reduceCtorEq, Nat.reduceSub, storeV_ptr, slcV_slice, ↓mwD, mwU]
  clear hW
  refine (Split_c s 32 W0 (by omega) (hE.ext x0)).use ?_
  rintro r wc ⟨hc, rfl, hwc⟩
  have S0 : Bk wc W0.heap.size (strs (splitC 32 s)) 9 := by rw [hwc]; exact Bk.new _ _ _
  clear hwc
  have hEc := hE.ext (x0.trans hc)
  have hbase : w.heap.size + 1 ≤ wc.heap.size := by have := hc.size; have := x0.size; have := A.lt; omega
  have hb0w : W0.heap.size < wc.heap.size := S0.lt
  obtain ⟨l1, l2⟩ := splitC_len 32 s
  have hsub := splitC_sub 32 s
  have hpar : parP s = ⟨idxL mediaT ((splitC 32 s).headD []) 0, pF (splitC 32 s).tail⟩ := rfl
  have hback : ∀ f : Fm, f.valid = true → txF f = s → some (parP s) = some f := fun f hv hf => by rw [← hf]; exact congrArg some (text_back hv).1
  generalize splitC 32 s = W at *
  have g0 := S0.get (strs_get (k := 0) (by omega))
  have hh : W.headD [] = W[0] := by cases W with
    | nil => simp at l1
    | cons a l => rfl
  have hb0 : (0 : Int) < W.length := by omega
  simp -dsimp -implicitDefEqProofs only [m12, sF12, Nat.reduceEqDiff, ↓reduceIte, Nat.reduceAdd, Nat.reduceMul, Value.cells, Value.oneCell', eq_self, ne_eq, Int.reduceToNat, Int.reduceEq, Int.reduceLT, Int.reduceLE, Int.reduceNeg, if_true, if_false, reduceCtorEq, Nat.reduceSub, storeV_ptr, slcV_slice, ↓mwD, mwU]
  refine mwpB_mid (fun e' ds u => e' 4 = .slice (some ⟨W0.heap.size, 0, none⟩) W.length W.length ∧ e' 0 = .string (bw s) ∧ e' 2 = .pointer (some ⟨w.heap.size, 0, none⟩) ∧ ds = [] ∧ Ext wc u ∧ ∃ b5, wc.heap.size ≤ b5 ∧ e' 5 = .pointer (some ⟨b5, 0, none⟩) ∧ Bk u b5 [.int .i64 (idxL mediaT W[0] 0), .slice none 0 0] 24) ?_ ?_
  · refine mwpB_drawE ?_
    have B := Bk.new wc.drew [.int .i64 0, .slice none 0 0] 24
    have EA : Ext wc.drew (wc.drew.alloc (.cells #[.int .i64 0, .slice none 0 0] 24)) := Ext.alloc _ _
    simp -dsimp -implicitDefEqProofs only [hb0, g0, planEB_two, EA, m12, sF12, Nat.reduceEqDiff, ↓reduceIte, Nat.reduceAdd, Nat.reduceMul, Value.cells, Value.oneCell', eq_self, ne_eq, Int.reduceToNat, Int.reduceEq, Int.reduceLT, Int.reduceLE, Int.reduceNeg, if_true, if_false, reduceCtorEq, Nat.reduceSub, storeV_ptr, slcV_slice, ↓mwD, mwU]
    refine ⟨?_, ?_⟩
    · refine (media_c wc.drew).use ?_
      rintro r u1 ⟨h1, b1, rfl, ht⟩
      have hts : SlS u1 (.slice (some ⟨b1, 0, none⟩) mediaT.length mediaT.length) mediaT := TabQ.sl ⟨h1, b1, rfl, ht⟩ (by decide)
      have EB : Ext wc.drew (u1.alloc (.cells #[.int .i64 0, .slice none 0 0] 24)) := h1.trans (Ext.alloc _ _)
      simp -dsimp -implicitDefEqProofs only [h1, planEB_two, EB, m12, sF12, Nat.reduceEqDiff, ↓reduceIte, Nat.reduceAdd, Nat.reduceMul, Value.cells, Value.oneCell', eq_self, ne_eq, Int.reduceToNat, Int.reduceEq, Int.reduceLT, Int.reduceLE, Int.reduceNeg, if_true, if_false, reduceCtorEq, Nat.reduceSub, storeV_ptr, slcV_slice, ↓mwD, mwU]
      refine ⟨?_, ?_⟩
      · refine (IndexS_c mediaT _ W[0] u1 hts).use ?_
        rintro r u2 ⟨rfl, h2⟩
        have h12 := h1.trans h2
        have EC : Ext wc.drew (u2.alloc (.cells #[.int .i64 0, .slice none 0 0] 24)) := h12.trans (Ext.alloc _ _)
        simp -dsimp -implicitDefEqProofs only [h12, bv_fmM, EC, m12, sF12, Nat.reduceEqDiff, ↓reduceIte, Nat.reduceAdd, Nat.reduceMul, Value.cells, Value.oneCell', eq_self, ne_eq, Int.reduceToNat, Int.reduceEq, Int.reduceLT, Int.reduceLE, Int.reduceNeg, if_true, if_false, reduceCtorEq, Nat.reduceSub, storeV_ptr, slcV_slice, ↓mwD, mwU]
        exact ⟨(Ext.drew wc).trans (h12.trans (Ext.alloc _ _)), _, h12.size, rfl, Bk.new _ _ _⟩
      · refine (IndexS_c mediaT _ W[0] _ (hts.ext (Ext.alloc _ _))).use ?_
        rintro r u2 ⟨rfl, h2⟩
        have h12 := EB.trans h2
        have P := fput' ((Bk.new u1 [.int .i64 0, .slice none 0 0] 24).ext h2) (.int .i64 (idxL mediaT W[0] 0)) (.slice none 0 0)
        obtain ⟨⟨z0', c0⟩, z0, ⟨z1', c1⟩, z1, hk, hx⟩ := P
        simp -dsimp -implicitDefEqProofs only [h12, bv_fmM, c0, c1, z0, z1, m12, sF12, Nat.reduceEqDiff, ↓reduceIte, Nat.reduceAdd, Nat.reduceMul, Value.cells, Value.oneCell', eq_self, ne_eq, Int.reduceToNat, Int.reduceEq, Int.reduceLT, Int.reduceLE, Int.reduceNeg, if_true, if_false, reduceCtorEq, Nat.reduceSub, storeV_ptr, slcV_slice, ↓mwD, mwU]
        exact ⟨hx ((Ext.drew wc).trans h12) h1.size, _, h1.size, rfl, hk⟩
    · refine (media_c _).use ?_
      rintro r u1 ⟨h1, b1, rfl, ht⟩
      have hts : SlS u1 (.slice (some ⟨b1, 0, none⟩) mediaT.length mediaT.length) mediaT := TabQ.sl ⟨h1, b1, rfl, ht⟩ (by decide)
      have h01 := EA.trans h1
      simp -dsimp -implicitDefEqProofs only [h01, planEB_two, m12, sF12, Nat.reduceEqDiff, ↓reduceIte, Nat.reduceAdd, Nat.reduceMul, Value.cells, Value.oneCell', eq_self, ne_eq, Int.reduceToNat, Int.reduceEq, Int.reduceLT, Int.reduceLE, Int.reduceNeg, if_true, if_false, reduceCtorEq, Nat.reduceSub, storeV_ptr, slcV_slice, ↓mwD, mwU]
      refine (IndexS_c mediaT _ W[0] u1 hts).use ?_
      rintro r u2 ⟨rfl, h2⟩
      have h12 := h01.trans h2
      have P := fput' (B.ext (h1.trans h2)) (.int .i64 (idxL mediaT W[0] 0)) (.slice none 0 0)
      obtain ⟨⟨z0', c0⟩, z0, ⟨z1', c1⟩, z1, hk, hx⟩ := P
      simp -dsimp -implicitDefEqProofs only [h12, bv_fmM, c0, c1, z0, z1, m12, sF12, Nat.reduceEqDiff, ↓reduceIte, Nat.reduceAdd, Nat.reduceMul, Value.cells, Value.oneCell', eq_self, ne_eq, Int.reduceToNat, Int.reduceEq, Int.reduceLT, Int.reduceLE, Int.reduceNeg, if_true, if_false, reduceCtorEq, Nat.reduceSub, storeV_ptr, slcV_slice, ↓mwD, mwU]
      exact ⟨hx ((Ext.drew wc).trans h12) (Nat.le_refl _), _, Nat.le_refl _, rfl, hk⟩
  rintro e0 ds u0 ⟨k4, k0, k2, rfl, hu0, b5, hb5, k5, K5⟩
  rw [hh] at hpar
  generalize idxL mediaT W[0] 0 = m at *
  obtain ⟨q1, hs1, hq1⟩ := slc_words W0.heap.size 0 W.length 1 (some ⟨W0.heap.size, 0, none⟩) (fun _ => rfl) (by omega) (by omega)
  rw [Nat.zero_add] at hq1
  have hs1' : slcV Go.Proofs.Tryz.prog 73 (.slice (some ⟨W0.heap.size, 0, none⟩) W.length W.length) (some (.int .i64 1)) none = some (.slice q1 (W.length - 1) (W.length - 1)) := hs1
  simp -dsimp -implicitDefEqProofs only [k4, k0, k2, k5, hs1', m12, sF12, Nat.reduceEqDiff, ↓reduceIte, Nat.reduceAdd, Nat.reduceMul, Value.cells, Value.oneCell', eq_self, ne_eq, Int.reduceToNat, Int.reduceEq, Int.reduceLT, Int.reduceLE, Int.reduceNeg, if_true, if_false, reduceCtorEq, Nat.reduceSub, storeV_ptr, ↓mwD, mwU]
  refine mwpB_loop (fun e ds u => ∃ (i l : Nat) (q : Option Addr) (acc : List (Fl × Value)) (v : Value), i + l = W.length ∧ 1 ≤ i ∧ (0 < l → q = some ⟨W0.heap.size, i, none⟩) ∧ e 4 = .slice q l l ∧ e 0 = .string (bw s) ∧ e 2 = .pointer (some ⟨w.heap.size, 0, none⟩) ∧ e 5 = .pointer (some ⟨b5, 0, none⟩) ∧ ds = [] ∧ Ext wc u ∧ Bk u b5 [.int .i64 m, v] 24 ∧
      OwnF u wc.heap.size v acc ∧ acc.length ≤ i ∧ pF W.tail = acc.map (·.1) ++ pF (W.drop i))
    (fun e _ => lenOf (e 4)) ?_ ?_
  · simp -dsimp -implicitDefEqProofs only [k4, k0, k2, k5, m12, sF12, Nat.reduceEqDiff, ↓reduceIte, Nat.reduceAdd, Nat.reduceMul, Value.cells, Value.oneCell', eq_self, ne_eq, Int.reduceToNat, Int.reduceEq, Int.reduceLT, Int.reduceLE, Int.reduceNeg, if_true, if_false, reduceCtorEq, Nat.reduceSub, storeV_ptr, slcV_slice, ↓mwD, mwU]
    exact ⟨1, W.length - 1, q1, [], _, by omega, by omega, hq1, rfl, hu0, K5, ⟨World.ownsRow_nil _ _ _ _, fun p hp => by cases hp⟩, by simp, by rw [List.drop_one]; rfl⟩
  · rintro e ds u ⟨i, l, q, acc, v, hil, hi1, hq, h4, h0, h2, h5, rfl, hu, kB, hF, hal, hr⟩
    obtain ⟨qv, nv, cv, rfl⟩ := own_slice hF.1
    have xu := hc.trans hu
    by_cases hlt : (0 : Int) < l
    · have hl0 : 0 < l := by omega
      have hlt' : i < W.length := by omega
      obtain rfl := hq hl0
      have g1 := (S0.ext hu).get (strs_get hlt')
      have hwl : W[i].length ≤ 65536 := by have := hsub W[i] (List.getElem_mem _); omega
      simp -dsimp -implicitDefEqProofs only [h4, h0, h2, h5, hlt, g1, m12, sF12, Nat.reduceEqDiff, ↓reduceIte, Nat.reduceAdd, Nat.reduceMul, Value.cells, Value.oneCell', eq_self, ne_eq, Int.reduceToNat, Int.reduceEq, Int.reduceLT, Int.reduceLE, Int.reduceNeg, if_true, if_false, reduceCtorEq, Nat.reduceSub, storeV_ptr, slcV_slice, ↓mwD, mwU]
      refine (Cut_c W[i] [61] u (by omega) (hEc.ext hu)).use ?_
      rintro r u1 ⟨rfl, hu1⟩
      have hcl := cutF_len W[i] [61]
      obtain ⟨q1, hs1, hq1⟩ := slc_words W0.heap.size i l 1 (some ⟨W0.heap.size, i, none⟩) (fun _ => rfl) (by omega) hl0
      have hs1' : slcV Go.Proofs.Tryz.prog 73 (.slice (some ⟨W0.heap.size, i, none⟩) l l) (some (.int .i64 1)) none = some (.slice q1 (l - 1) (l - 1)) := hs1
      have H4 := h4
      by_cases hof : ∃ h3 : i + 2 < W.length, W[i + 1] = ofB
      obtain ⟨h3, hof⟩ := hof
      have t1 : (3 : Int) ≤ l := by omega
      have t1' : (1 : Int) < l := by omega
      have hq1' := hq1 (by omega)
      subst hq1'
      have g2 := (S0.ext (hu.trans hu1)).get (strs_get (k := i + 1) (by omega))
      have d3 : decide (bw W[i + 1] = ⟨#[111, 102]⟩) = true := by simp only [decide_eq_true_eq]; rw [hof]; rfl
      have g3 := (S0.ext (hu.trans (hu1.trans (Ext.drew u1)))).get (strs_get (k := i + 1 + 1) (by omega))
      have t2 : (1 : Int) < ((l - 1 : Nat) : Int) := by omega
      obtain ⟨q3, hs3, hq3⟩ := slc_words W0.heap.size (i + 1) (l - 1) 2 (some ⟨W0.heap.size, i + 1, none⟩) (fun _ => rfl) (by omega) (by omega)
      have hs3' : slcV Go.Proofs.Tryz.prog 73 (.slice (some ⟨W0.heap.size, i + 1, none⟩) (l - 1) (l - 1)) (some (.int .i64 2)) none = some (.slice q3 (l - 1 - 2) (l - 1 - 2)) := hs3
      simp -dsimp -implicitDefEqProofs only [h4, h0, h2, h5, m12, sF12, Nat.reduceEqDiff, ↓reduceIte, Nat.reduceAdd, Nat.reduceMul, Value.cells, Value.oneCell', eq_self, ne_eq, Int.reduceToNat, Int.reduceEq, Int.reduceLT, Int.reduceLE, Int.reduceNeg, if_true, if_false, reduceCtorEq, Nat.reduceSub, storeV_ptr, ↓mwD, mwU]
      refine mwpB_drawE ?_
      simp -dsimp -implicitDefEqProofs only [h4, h0, h2, h5, t1, t1', g2, binV_eqS, d3, hs1', t2, g3, hs3', m12, sF12, Nat.reduceEqDiff, ↓reduceIte, Nat.reduceAdd, Nat.reduceMul, Value.cells, Value.oneCell', eq_self, ne_eq, Int.reduceToNat, Int.reduceEq, Int.reduceLT, Int.reduceLE, Int.reduceNeg, if_true, if_false, reduceCtorEq, Nat.reduceSub, storeV_ptr, ↓mwD, mwU]
      have X2 : Ext u u1.drew := hu1.trans (Ext.drew u1)
      obtain ⟨c, hceq⟩ : ∃ c : Ch, choP (cutF W[i] [61]).2.1 (some W[i + 2]) = c := ⟨_, rfl⟩
      have hcho : ∀ u', Ext u u' → Rets Go.Proofs.Tryz.prog 58 #[.string (bw (cutF W[i] [61]).2.1), .string (bw W[i + 1 + 1]), .bool true] u' (ChoW c u') := fun u' hx => by
        have hwl2 : W[i + 2].length ≤ 65536 := by have := hsub W[i + 2] (List.getElem_mem _); omega
        have := choice_c (cutF W[i] [61]).2.1 W[i + 2] true u' (by omega) (by omega) (hEc.ext (hu.trans hx))
        rw [if_pos rfl, hceq] at this
        exact this
      have hr2 : pF (W.drop i) = (⟨idxL keyT (cutF W[i] [61]).1 0, c⟩ : Fl) :: pF (W.drop (i + 1 + 2)) := by rw [pF_of h3 hof, fldP_cut, hceq]
      have hil' : i + 1 + 2 + (l - 1 - 2) = W.length := by omega
      have hq' := hq3
      rotate_left
      have hr2 : ∃ c : Ch, choP (cutF W[i] [61]).2.1 none = c := ⟨_, rfl⟩
      obtain ⟨c, hceq⟩ := hr2
      have hr2 : pF (W.drop i) = (⟨idxL keyT (cutF W[i] [61]).1 0, c⟩ : Fl) :: pF (W.drop (i + 1)) := by rw [pF_no hlt' (fun h3 h4 => hof ⟨h3, h4⟩), fldP_cut, hceq]
      have X2 : Ext u u1.drew := hu1.trans (Ext.drew u1)
      have hcho : ∀ u', Ext u u' → Rets Go.Proofs.Tryz.prog 58 #[.string (bw (cutF W[i] [61]).2.1), .string ⟨#[]⟩, .bool false] u' (ChoW c u') := fun u' hx => by
        have := choice_c (cutF W[i] [61]).2.1 [] false u' (by omega) (by simp) (hEc.ext (hu.trans hx))
        rw [if_neg (by decide), hceq] at this
        exact this
      have hil' : i + 1 + (l - 1) = W.length := by omega
      have hq' := hq1
      by_cases h3 : i + 2 < W.length
      have t1 : (3 : Int) ≤ l := by omega
      have t1' : (1 : Int) < l := by omega
      have g2 := (S0.ext (hu.trans hu1)).get (strs_get (k := i + 1) (by omega))
      have d3 : decide (bw W[i + 1] = ⟨#[111, 102]⟩) = false := by
        simp only [decide_eq_false_iff_not]
        exact fun h => hof ⟨h3, by have := congrArg (fun b : ByteArray => b.data.toList) h; exact this⟩
      simp -dsimp -implicitDefEqProofs only [h4, h0, h2, h5, m12, sF12, Nat.reduceEqDiff, ↓reduceIte, Nat.reduceAdd, Nat.reduceMul, Value.cells, Value.oneCell', eq_self, ne_eq, Int.reduceToNat, Int.reduceEq, Int.reduceLT, Int.reduceLE, Int.reduceNeg, if_true, if_false, reduceCtorEq, Nat.reduceSub, storeV_ptr, ↓mwD, mwU]
      refine mwpB_drawE ?_
      simp -dsimp -implicitDefEqProofs only [h4, h0, h2, h5, t1, t1', g2, binV_eqS, d3, hs1', m12, sF12, Nat.reduceEqDiff, ↓reduceIte, Nat.reduceAdd, Nat.reduceMul, Value.cells, Value.oneCell', eq_self, ne_eq, Int.reduceToNat, Int.reduceEq, Int.reduceLT, Int.reduceLE, Int.reduceNeg, if_true, if_false, reduceCtorEq, Nat.reduceSub, storeV_ptr, ↓mwD, mwU]
      rotate_left
      have t1 : ¬ (3 : Int) ≤ l := by omega
      simp -dsimp -implicitDefEqProofs only [h4, h0, h2, h5, m12, sF12, Nat.reduceEqDiff, ↓reduceIte, Nat.reduceAdd, Nat.reduceMul, Value.cells, Value.oneCell', eq_self, ne_eq, Int.reduceToNat, Int.reduceEq, Int.reduceLT, Int.reduceLE, Int.reduceNeg, if_true, if_false, reduceCtorEq, Nat.reduceSub, storeV_ptr, ↓mwD, mwU]
      refine mwpB_drawE ?_
      simp -dsimp -implicitDefEqProofs only [h4, h0, h2, h5, t1, hs1', m12, sF12, Nat.reduceEqDiff, ↓reduceIte, Nat.reduceAdd, Nat.reduceMul, Value.cells, Value.oneCell', eq_self, ne_eq, Int.reduceToNat, Int.reduceEq, Int.reduceLT, Int.reduceLE, Int.reduceNeg, if_true, if_false, reduceCtorEq, Nat.reduceSub, storeV_ptr, ↓mwD, mwU]
      all_goals
        have T1 := (kB.ext X2).get (o := 1) rfl
        refine mwpB_draw (fun w' => w'.cell? ⟨b5, 1, none⟩ = some (.slice qv nv cv)) ((Ext.drew _).cell T1) ?_
        simp -dsimp -implicitDefEqProofs only [h5, m12, sF12, Nat.reduceEqDiff, ↓reduceIte, Nat.reduceAdd, Nat.reduceMul, Value.cells, Value.oneCell', eq_self, ne_eq, Int.reduceToNat, Int.reduceEq, Int.reduceLT, Int.reduceLE, Int.reduceNeg, if_true, if_false, reduceCtorEq, Nat.reduceSub, storeV_ptr, slcV_slice, ↓mwD, mwU]
        refine softB_load (v := .slice qv nv cv) (fun w'' hw => ?_) ?_
        · simp -dsimp -implicitDefEqProofs only [hw, m12, sF12, Nat.reduceEqDiff, ↓reduceIte, Nat.reduceAdd, Nat.reduceMul, Value.cells, Value.oneCell', eq_self, ne_eq, Int.reduceToNat, Int.reduceEq, Int.reduceLT, Int.reduceLE, Int.reduceNeg, if_true, if_false, reduceCtorEq, Nat.reduceSub, storeV_ptr, slcV_slice, ↓mwD, mwU]
        simp -dsimp -implicitDefEqProofs only [h5, m12, sF12, Nat.reduceEqDiff, ↓reduceIte, Nat.reduceAdd, Nat.reduceMul, Value.cells, Value.oneCell', eq_self, ne_eq, Int.reduceToNat, Int.reduceEq, Int.reduceLT, Int.reduceLE, Int.reduceNeg, if_true, if_false, reduceCtorEq, Nat.reduceSub, storeV_ptr, slcV_slice, ↓mwD, mwU]
        refine (keys_c _).use ?_
        rintro r u8 ⟨h78, b8, rfl, ht8⟩
        have hts : SlS u8 (.slice (some ⟨b8, 0, none⟩) keyT.length keyT.length) keyT := TabQ.sl ⟨h78, b8, rfl, ht8⟩ (by decide)
        have X8 : Ext u u8 := X2.trans ((Ext.drew _).trans h78)
        have T8 := (kB.ext X8).get (o := 1) rfl
        refine ⟨T8, ?_⟩
        simp -dsimp -implicitDefEqProofs only [h5, m12, sF12, Nat.reduceEqDiff, ↓reduceIte, Nat.reduceAdd, Nat.reduceMul, Value.cells, Value.oneCell', eq_self, ne_eq, Int.reduceToNat, Int.reduceEq, Int.reduceLT, Int.reduceLE, Int.reduceNeg, if_true, if_false, reduceCtorEq, Nat.reduceSub, storeV_ptr, slcV_slice, ↓mwD, mwU]
        refine (IndexS_c keyT _ (cutF W[i] [61]).1 u8 hts).use ?_
        rintro r u9 ⟨rfl, h89⟩
        have X9 := X8.trans h89
        have T9 := (kB.ext X9).get (o := 1) rfl
        refine ⟨T9, ?_⟩
        simp -dsimp -implicitDefEqProofs only [h5, m12, sF12, Nat.reduceEqDiff, ↓reduceIte, Nat.reduceAdd, Nat.reduceMul, Value.cells, Value.oneCell', eq_self, ne_eq, Int.reduceToNat, Int.reduceEq, Int.reduceLT, Int.reduceLE, Int.reduceNeg, if_true, if_false, reduceCtorEq, Nat.reduceSub, storeV_ptr, slcV_slice, ↓mwD, mwU]
        refine (hcho u9 X9).use ?_
        rintro r u11 ⟨h9, v11, rfl, R11⟩
        obtain ⟨qc, nc, cc, rfl⟩ := own_slice R11
        have X11 := X9.trans h9
        have T11 := (kB.ext X11).get (o := 1) rfl
        refine ⟨T11, ?_⟩
        have bsl := bs_fl ⟨idxL keyT (cutF W[i] [61]).1 0, c⟩ (.slice qc nc cc)
        simp only at bsl
        simp -dsimp -implicitDefEqProofs only [h5, chV, bv_fl, bsl, m12, sF12, Nat.reduceEqDiff, ↓reduceIte, Nat.reduceAdd, Nat.reduceMul, Value.cells, Value.oneCell', eq_self, ne_eq, Int.reduceToNat, Int.reduceEq, Int.reduceLT, Int.reduceLE, Int.reduceNeg, if_true, if_false, reduceCtorEq, Nat.reduceSub, storeV_ptr, slcV_slice, ↓mwD, mwU]
        refine ⟨cell_old T11 _, ?_⟩
        obtain ⟨v2, u10, happ, hown2, hg2⟩ := append_fl (hF.ext X11).1 ⟨idxL keyT (cutF W[i] [61]).1 0, c⟩ (.slice qc nc cc) rfl (by omega) (hu.trans X11).size
        refine appB.mk happ ?_
        obtain ⟨p1, p2, p3, p4, p5, p6⟩ := OwnF.push (f := ⟨idxL keyT (cutF W[i] [61]).1 0, c⟩) hu kB hF X11 hb5 (Own.mono R11 (hu.trans X9).size) hown2 hg2
        have rr1 := p2.get (o := 1) rfl
        have fz := p2.frozen 1
        obtain ⟨q2, n2, cp2, rfl⟩ := own_slice hown2
        refine ⟨rr1, ?_⟩
        simp -dsimp -implicitDefEqProofs only [h4, h0, h2, h5, rr1, fz, m12, sF12, Nat.reduceEqDiff, ↓reduceIte, Nat.reduceAdd, Nat.reduceMul, Value.cells, Value.oneCell', eq_self, ne_eq, Int.reduceToNat, Int.reduceEq, Int.reduceLT, Int.reduceLE, Int.reduceNeg, if_true, if_false, reduceCtorEq, Nat.reduceSub, storeV_ptr, slcV_slice, ↓mwD, mwU]
        refine ⟨⟨_, _, _, acc ++ [(⟨idxL keyT (cutF W[i] [61]).1 0, c⟩, .slice qc nc cc)], _, hil', by omega, hq', rfl, p5, p3, p4, by simp; omega, ?_⟩, by simp only [lenOf, H4]; omega⟩
        rw [hr, hr2, List.map_append, List.append_assoc]
        rfl
    · have hl0 : l = 0 := by omega
      subst hl0
      have hin : i = W.length := by omega
      rw [hin, List.drop_length] at hr
      have hpr : parP s = ⟨m, acc.map (·.1)⟩ := by rw [hpar, hr]; simp [pF]
      have hsl2 := hF.slF
      have hnv : nv = (acc.map (·.1)).length := by obtain ⟨_, _, e, _, _⟩ := hsl2.shape; cases e; rfl
      subst hnv
      have T0 := kB.get (o := 0) rfl
      have T1 := kB.get (o := 1) rfl
      have endBad : ∀ {u1 : World}, Ext W0 u1 → ParR s ⟨0, []⟩ 2 → ParW s w (.tuple #[.agg #[.int .i64 0, .slice none 0 0], .int .i64 2]) ((u1.setCell ⟨w.heap.size, 0, none⟩ (.int .i64 0)).setCell ⟨w.heap.size, 1, none⟩ (.slice none 0 0)) := fun x h => ⟨zeros x, ⟨0, []⟩, none, 0, 2, rfl, SlF.nil _, h⟩
      simp -dsimp -implicitDefEqProofs only [h4, h0, h2, h5, m12, sF12, Nat.reduceEqDiff, ↓reduceIte, Nat.reduceAdd, Nat.reduceMul, Value.cells, Value.oneCell', eq_self, ne_eq, Int.reduceToNat, Int.reduceEq, Int.reduceLT, Int.reduceLE, Int.reduceNeg, if_true, if_false, reduceCtorEq, Nat.reduceSub, storeV_ptr, slcV_slice, ↓mwD, mwU]
      refine mwpB_drawE ?_
      simp -dsimp -implicitDefEqProofs only [h4, h0, h2, h5, T0, T1, m12, sF12, Nat.reduceEqDiff, ↓reduceIte, Nat.reduceAdd, Nat.reduceMul, Value.cells, Value.oneCell', eq_self, ne_eq, Int.reduceToNat, Int.reduceEq, Int.reduceLT, Int.reduceLE, Int.reduceNeg, if_true, if_false, reduceCtorEq, Nat.reduceSub, storeV_ptr, slcV_slice, ↓mwD, mwU]
      refine (keys_c u.drew).use ?_
      rintro r u8 ⟨h8, b8, rfl, _⟩
      have x8 := (Ext.drew u).trans h8
      by_cases hbig : (keyT.length : Int) < ((acc.map (·.1)).length : Int)
      · have hbad : ParR s ⟨0, []⟩ 2 := parR_bad hl' hback (fun g hg hg2 => by
          cases hg
          by_cases hs0 : s = []
          · exact hs0
          · exfalso
            obtain ⟨v1, _⟩ := txB_some hg2 hs0
            rw [hpr] at v1
            have := valid_len6 v1
            have h7 : keyT.length = 7 := rfl
            simp only at this
            omega)
        obtain ⟨⟨z0', c0⟩, z0, ⟨z1', c1'⟩, z1, hk, hx⟩ := fput' (A.ext (xu.trans x8)) (.int .i64 0) (.slice none 0 0)
        have r0 := hk.get (o := 0) rfl
        have r1 := hk.get (o := 1) rfl
        simp -dsimp -implicitDefEqProofs only [h8, hbig, bv_fm0, h2, c0, c1', z0, z1, r0, r1, m12, sF12, Nat.reduceEqDiff, ↓reduceIte, Nat.reduceAdd, Nat.reduceMul, Value.cells, Value.oneCell', eq_self, ne_eq, Int.reduceToNat, Int.reduceEq, Int.reduceLT, Int.reduceLE, Int.reduceNeg, if_true, if_false, reduceCtorEq, Nat.reduceSub, storeV_ptr, slcV_slice, ↓mwD, mwU]
        exact endBad (xu.trans x8) hbad
      have htc := Text_c ⟨m, acc.map (·.1)⟩ (.slice qv (acc.map (·.1)).length cv) u8 (hEc.ext (hu.trans x8)) (hsl2.ext x8)
      simp only [fmV] at htc
      simp -dsimp -implicitDefEqProofs only [h8, hbig, h4, h0, h2, h5, T0, T1, m12, sF12, Nat.reduceEqDiff, ↓reduceIte, Nat.reduceAdd, Nat.reduceMul, Value.cells, Value.oneCell', eq_self, ne_eq, Int.reduceToNat, Int.reduceEq, Int.reduceLT, Int.reduceLE, Int.reduceNeg, if_true, if_false, reduceCtorEq, Nat.reduceSub, storeV_ptr, slcV_slice, ↓mwD, mwU]
      refine htc.use ?_
      rintro r u1 ⟨rfl, hu1⟩
      have x1 := xu.trans (x8.trans hu1)
      have h81 := h8.trans hu1
      by_cases ht : txB ⟨m, acc.map (·.1)⟩ = s
      · have d1 : decide (bw (txB ⟨m, acc.map (·.1)⟩) ≠ bw s) = false := by rw [ht]; simp
        by_cases hs0 : s = []
        · have d2 : decide (bw s = ⟨#[]⟩) = true := by simp only [decide_eq_true_eq]; rw [hs0]; rfl
          have hbad : ParR s ⟨0, []⟩ 2 := parR_bad hl' hback (fun g hg _ => hs0)
          obtain ⟨⟨z0', c0⟩, z0, ⟨z1', c1'⟩, z1, hk, hx⟩ := fput' (A.ext x1) (.int .i64 0) (.slice none 0 0)
          have r0 := hk.get (o := 0) rfl
          have r1 := hk.get (o := 1) rfl
          simp -dsimp -implicitDefEqProofs only [h81, h4, h0, h2, h5, binV_neS, binV_eqS, d1, d2, bv_fm0, c0, c1', z0, z1, r0, r1, m12, sF12, Nat.reduceEqDiff, ↓reduceIte, Nat.reduceAdd, Nat.reduceMul, Value.cells, Value.oneCell', eq_self, ne_eq, Int.reduceToNat, Int.reduceEq, Int.reduceLT, Int.reduceLE, Int.reduceNeg, if_true, if_false, reduceCtorEq, Nat.reduceSub, storeV_ptr, slcV_slice, ↓mwD, mwU]
          exact endBad x1 hbad
        · have d2 : decide (bw s = ⟨#[]⟩) = false := by
            simp only [decide_eq_false_iff_not]
            exact fun h => hs0 (by have := congrArg (fun b : ByteArray => b.data.toList) h; exact this)
          have T0 := (kB.ext (x8.trans hu1)).get (o := 0) rfl
          have T1 := (kB.ext (x8.trans hu1)).get (o := 1) rfl
          obtain ⟨⟨z0', c0⟩, z0, ⟨z1', c1'⟩, z1, hk, hx⟩ := fput' (A.ext x1) (.int .i64 m) (.slice qv (acc.map (·.1)).length cv)
          have r0 := hk.get (o := 0) rfl
          have r1 := hk.get (o := 1) rfl
          simp -dsimp -implicitDefEqProofs only [h81, h4, h0, h2, h5, binV_neS, binV_eqS, d1, d2, T0, T1, c0, c1', z0, z1, r0, r1, m12, sF12, Nat.reduceEqDiff, ↓reduceIte, Nat.reduceAdd, Nat.reduceMul, Value.cells, Value.oneCell', eq_self, ne_eq, Int.reduceToNat, Int.reduceEq, Int.reduceLT, Int.reduceLE, Int.reduceNeg, if_true, if_false, reduceCtorEq, Nat.reduceSub, storeV_ptr, slcV_slice, ↓mwD, mwU]
          have hgood := parR_good hl' ht hs0
          have hch : ChP (fun k => k = w.heap.size) u1 ((u1.setCell ⟨w.heap.size, 0, none⟩ (.int .i64 m)).setCell ⟨w.heap.size, 1, none⟩ (.slice qv (acc.map (·.1)).length cv)) := ChP.setCell (G := fun k => k = w.heap.size) (ChP.setCell (G := fun k => k = w.heap.size) (ChP.refl _ u1) (fun _ => rfl) _) (fun _ => rfl) _
          exact ⟨hx (x0.trans x1) (Nat.le_refl _), ⟨m, acc.map (·.1)⟩, qv, cv, 0, rfl, ((hF.ext (x8.trans hu1)).ch hch (fun j hj => by subst hj; exact (A.ext x1).odd (by decide) (by decide))).slF, hgood⟩
      · have hbad : ParR s ⟨0, []⟩ 2 := parR_bad hl' hback (fun g hg hg2 => by
          rw [hpr] at hg
          cases hg
          exact absurd hg2 ht)
        have d1 : decide (bw (txB ⟨m, acc.map (·.1)⟩) ≠ bw s) = true := by simp only [decide_eq_true_eq, ne_eq, bw_eq]; exact ht
        obtain ⟨⟨z0', c0⟩, z0, ⟨z1', c1'⟩, z1, hk, hx⟩ := fput' (A.ext x1) (.int .i64 0) (.slice none 0 0)
        have r0 := hk.get (o := 0) rfl
        have r1 := hk.get (o := 1) rfl
        simp -dsimp -implicitDefEqProofs only [h81, h4, h0, h2, h5, binV_neS, binV_eqS, d1, bv_fm0, c0, c1', z0, z1, r0, r1, m12, sF12, Nat.reduceEqDiff, ↓reduceIte, Nat.reduceAdd, Nat.reduceMul, Value.cells, Value.oneCell', eq_self, ne_eq, Int.reduceToNat, Int.reduceEq, Int.reduceLT, Int.reduceLE, Int.reduceNeg, if_true, if_false, reduceCtorEq, Nat.reduceSub, storeV_ptr, slcV_slice, ↓mwD, mwU]
        exact endBad x1 hbad
end Go.Proofs.YthcdnjbhhaonhaaGreatDoor
/- Layer 02: the law FormatTexts. -/

namespace Go.Proofs.YthcdnjbhhaonhaaGreatDoor
open Go.RowKit
set_option linter.unusedSimpArgs false

set_option maxHeartbeats 4000000 in
theorem lawT_c (f : Fm) (t : By) (s : Value) (w : World) (hE : EnvS w) (hf : SlF w s f.F) (haw : ∀ w', Ext w w' → Rets Go.Proofs.Tryz.prog 10 #[] w' fun r w2 => r = .bool true ∧ Ext w' w2) :
    Rets Go.Proofs.Tryz.prog 3 #[fmV f s, .string (bw t)] w fun r w' => r = .bool true ∧ Ext w w' := by
  obtain ⟨p, cp, rfl, _, _⟩ := hf.shape
  obtain ⟨W, hW, A, x0⟩ := new_bk' w [.int .i64 f.m, .slice p f.F.length cp] 24
  refine en3 ?_
  refine mwpB_cut 1 (fun e ds w' => e 1 = .string (bw t) ∧ e 2 = .pointer (some ⟨w.heap.size, 0, none⟩) ∧ ds = [] ∧ w' = W) ?_ ?_
  · simp -dsimp -implicitDefEqProofs only [fmV, headM_zero, headM_seq, hW, m3, sF3, Nat.reduceEqDiff, ↓reduceIte, Nat.reduceAdd, Nat.reduceMul, Value.cells, Value.oneCell', eq_self, ne_eq, Int.reduceToNat, Int.reduceEq, Int.reduceLT, Int.reduceLE, Int.reduceNeg, if_true, if_false, reduceCtorEq, Nat.reduceSub, storeV_ptr, slcV_slice, ↓mwD, mwU]
  clear hW
  rintro e ds w0 ⟨k1, k2, rfl, rfl⟩
  have cells : ∀ {w' : World}, Ext w0 w' → w'.cell? ⟨w.heap.size, 0, none⟩ = some (.int .i64 f.m) ∧ w'.cell? ⟨w.heap.size, 1, none⟩ = some (.slice p f.F.length cp) := fun h => ⟨(A.ext h).get (o := 0) rfl, (A.ext h).get (o := 1) rfl⟩
  have end1 : ∀ {w'}, Ext w0 w' → Rets Go.Proofs.Tryz.prog 10 #[] w' fun r w2 => r = .bool true ∧ Ext w w2 := fun h => (haw _ (x0.trans h)).mono fun r w2 hr => ⟨hr.1, (x0.trans h).trans hr.2⟩
  obtain ⟨A0, A1⟩ := cells (Ext.refl w0)
  simp -dsimp -implicitDefEqProofs only [tailM_zero, tailM_seq, k1, k2, A0, A1, m3, sF3, Nat.reduceEqDiff, ↓reduceIte, Nat.reduceAdd, Nat.reduceMul, Value.cells, Value.oneCell', eq_self, ne_eq, Int.reduceToNat, Int.reduceEq, Int.reduceLT, Int.reduceLE, Int.reduceNeg, if_true, if_false, reduceCtorEq, Nat.reduceSub, storeV_ptr, slcV_slice, ↓mwD, mwU]
  refine (Light_c f _ w0 (hf.ext x0)).use ?_
  rintro r w1 ⟨rfl, h1⟩
  cases lf : lightB f
  · simp -dsimp -implicitDefEqProofs only [m3, sF3, Nat.reduceEqDiff, ↓reduceIte, Nat.reduceAdd, Nat.reduceMul, Value.cells, Value.oneCell', eq_self, ne_eq, Int.reduceToNat, Int.reduceEq, Int.reduceLT, Int.reduceLE, Int.reduceNeg, if_true, if_false, reduceCtorEq, Nat.reduceSub, storeV_ptr, slcV_slice, ↓mwD, mwU]
    refine (end1 h1).use ?_
    rintro r w2 ⟨rfl, h2⟩
    simp -dsimp -implicitDefEqProofs only [m3, sF3, Nat.reduceEqDiff, ↓reduceIte, Nat.reduceAdd, Nat.reduceMul, Value.cells, Value.oneCell', eq_self, ne_eq, Int.reduceToNat, Int.reduceEq, Int.reduceLT, Int.reduceLE, Int.reduceNeg, if_true, if_false, reduceCtorEq, Nat.reduceSub, storeV_ptr, slcV_slice, ↓mwD, mwU]
    exact h2
  by_cases hl : (65546 : Int) < t.length
  · simp -dsimp -implicitDefEqProofs only [k1, bw_size, hl, m3, sF3, Nat.reduceEqDiff, ↓reduceIte, Nat.reduceAdd, Nat.reduceMul, Value.cells, Value.oneCell', eq_self, ne_eq, Int.reduceToNat, Int.reduceEq, Int.reduceLT, Int.reduceLE, Int.reduceNeg, if_true, if_false, reduceCtorEq, Nat.reduceSub, storeV_ptr, slcV_slice, ↓mwD, mwU]
    refine (end1 h1).use ?_
    rintro r w2 ⟨rfl, h2⟩
    simp -dsimp -implicitDefEqProofs only [m3, sF3, Nat.reduceEqDiff, ↓reduceIte, Nat.reduceAdd, Nat.reduceMul, Value.cells, Value.oneCell', eq_self, ne_eq, Int.reduceToNat, Int.reduceEq, Int.reduceLT, Int.reduceLE, Int.reduceNeg, if_true, if_false, reduceCtorEq, Nat.reduceSub, storeV_ptr, slcV_slice, ↓mwD, mwU]
    exact h2
  obtain ⟨A0, A1⟩ := cells h1
  simp -dsimp -implicitDefEqProofs only [k1, k2, bw_size, hl, A0, A1, m3, sF3, Nat.reduceEqDiff, ↓reduceIte, Nat.reduceAdd, Nat.reduceMul, Value.cells, Value.oneCell', eq_self, ne_eq, Int.reduceToNat, Int.reduceEq, Int.reduceLT, Int.reduceLE, Int.reduceNeg, if_true, if_false, reduceCtorEq, Nat.reduceSub, storeV_ptr, slcV_slice, ↓mwD, mwU]
  refine (Text_c f _ w1 (hE.ext (x0.trans h1)) (hf.ext (x0.trans h1))).use ?_
  rintro r w2 ⟨rfl, h2⟩
  have hx2 := h1.trans h2
  simp -dsimp -implicitDefEqProofs only [k1, k2, m3, sF3, Nat.reduceEqDiff, ↓reduceIte, Nat.reduceAdd, Nat.reduceMul, Value.cells, Value.oneCell', eq_self, ne_eq, Int.reduceToNat, Int.reduceEq, Int.reduceLT, Int.reduceLE, Int.reduceNeg, if_true, if_false, reduceCtorEq, Nat.reduceSub, storeV_ptr, slcV_slice, ↓mwD, mwU]
  refine (Parse_c t w2 (hE.ext (x0.trans hx2))).use ?_
  rintro r w3 ⟨h3, g, q3, n3, c3, rfl, hs3, ht3⟩
  obtain ⟨v3, hv3, K3, y3⟩ := new_bk' w3 [.int .i64 g.m, .slice q3 g.F.length n3] 24
  have hx3 := hx2.trans (h3.trans y3)
  simp -dsimp -implicitDefEqProofs only [k1, k2, ← hv3, m3, sF3, Nat.reduceEqDiff, ↓reduceIte, Nat.reduceAdd, Nat.reduceMul, Value.cells, Value.oneCell', eq_self, ne_eq, Int.reduceToNat, Int.reduceEq, Int.reduceLT, Int.reduceLE, Int.reduceNeg, if_true, if_false, reduceCtorEq, Nat.reduceSub, storeV_ptr, slcV_slice, ↓mwD, mwU]
  clear hv3
  refine (refParse_c t v3).use ?_
  rintro r w4 ⟨h4, g', q4, n4, c4, rfl, hs4, ht4⟩
  obtain ⟨rfl, rfl⟩ := ht3.eq ht4
  obtain ⟨v4, hv4, K4, y4⟩ := new_bk' w4 [.int .i64 g.m, .slice q4 g.F.length n4] 24
  have hx4 := hx3.trans (h4.trans y4)
  obtain ⟨A0, A1⟩ := cells hx4
  simp -dsimp -implicitDefEqProofs only [k1, k2, ← hv4, A0, A1, m3, sF3, Nat.reduceEqDiff, ↓reduceIte, Nat.reduceAdd, Nat.reduceMul, Value.cells, Value.oneCell', eq_self, ne_eq, Int.reduceToNat, Int.reduceEq, Int.reduceLT, Int.reduceLE, Int.reduceNeg, if_true, if_false, reduceCtorEq, Nat.reduceSub, storeV_ptr, slcV_slice, ↓mwD, mwU]
  clear hv4
  refine (refText_c f _ v4 (hf.ext (x0.trans hx4))).use ?_
  rintro r w5 ⟨rfl, h5⟩
  have hx5 := hx4.trans h5
  have L0 := (K3.ext (h4.trans (y4.trans h5))).get (o := 0) rfl
  have L1 := (K3.ext (h4.trans (y4.trans h5))).get (o := 1) rfl
  have M0 := (K4.ext h5).get (o := 0) rfl
  have M1 := (K4.ext h5).get (o := 1) rfl
  have hs3' := hs3.ext (y3.trans (h4.trans (y4.trans h5)))
  have dn : ∀ t, binV Go.Proofs.Tryz.prog t .neq (.string (bw (txB f))) (.string (bw (txB f))) = some (.bool false) := fun t => by rw [binV_neS]; simp
  simp -dsimp -implicitDefEqProofs only [k1, k2, dn, L0, L1, M0, M1, m3, sF3, Nat.reduceEqDiff, ↓reduceIte, Nat.reduceAdd, Nat.reduceMul, Value.cells, Value.oneCell', eq_self, ne_eq, Int.reduceToNat, Int.reduceEq, Int.reduceLT, Int.reduceLE, Int.reduceNeg, if_true, if_false, reduceCtorEq, Nat.reduceSub, storeV_ptr, slcV_slice, ↓mwD, mwU]
  refine (refSame_c g g _ _ w5 hs3' (hs4.ext (y4.trans h5))).use ?_
  rintro r w6 ⟨rfl, h6⟩
  have e6 := eqFm_refl g
  have hx6 := hx5.trans h6
  by_cases ht : txB f = []
  · have d2 : decide (bw (txB f) = ⟨#[]⟩) = true := by simp only [decide_eq_true_eq]; rw [ht]; rfl
    simp -dsimp -implicitDefEqProofs only [k1, k2, e6, binV_eqS, d2, m3, sF3, Nat.reduceEqDiff, ↓reduceIte, Nat.reduceAdd, Nat.reduceMul, Value.cells, Value.oneCell', eq_self, ne_eq, Int.reduceToNat, Int.reduceEq, Int.reduceLT, Int.reduceLE, Int.reduceNeg, if_true, if_false, reduceCtorEq, Nat.reduceSub, storeV_ptr, slcV_slice, ↓mwD, mwU]
    refine (end1 hx6).use ?_
    rintro r w7 ⟨rfl, h7⟩
    simp -dsimp -implicitDefEqProofs only [m3, sF3, Nat.reduceEqDiff, ↓reduceIte, Nat.reduceAdd, Nat.reduceMul, Value.cells, Value.oneCell', eq_self, ne_eq, Int.reduceToNat, Int.reduceEq, Int.reduceLT, Int.reduceLE, Int.reduceNeg, if_true, if_false, reduceCtorEq, Nat.reduceSub, storeV_ptr, slcV_slice, ↓mwD, mwU]
    exact h7
  have d2 : decide (bw (txB f) = ⟨#[]⟩) = false := by
    simp only [decide_eq_false_iff_not]
    exact fun h => ht (by have := congrArg (fun b : ByteArray => b.data.toList) h; exact this)
  simp -dsimp -implicitDefEqProofs only [k1, k2, e6, binV_eqS, d2, m3, sF3, Nat.reduceEqDiff, ↓reduceIte, Nat.reduceAdd, Nat.reduceMul, Value.cells, Value.oneCell', eq_self, ne_eq, Int.reduceToNat, Int.reduceEq, Int.reduceLT, Int.reduceLE, Int.reduceNeg, if_true, if_false, reduceCtorEq, Nat.reduceSub, storeV_ptr, slcV_slice, ↓mwD, mwU]
  refine (Parse_c (txB f) w6 (hE.ext (x0.trans hx6))).use ?_
  rintro r w7 ⟨h7, g7, q7, n7, c7, rfl, hs7, ht7⟩
  have hgood : ParR (txB f) f 0 := parR_good (by have := txB_len f; omega) rfl ht
  obtain ⟨rfl, rfl⟩ := ht7.eq hgood
  obtain ⟨v7, hv7, K7, y7⟩ := new_bk' w7 [.int .i64 g7.m, .slice q7 g7.F.length n7] 24
  have hx7 := hx6.trans (h7.trans y7)
  obtain ⟨A0, A1⟩ := cells hx7
  have N0 := K7.get (o := 0) rfl
  have N1 := K7.get (o := 1) rfl
  simp -dsimp -implicitDefEqProofs only [k1, k2, ← hv7, A0, A1, N0, N1, m3, sF3, Nat.reduceEqDiff, ↓reduceIte, Nat.reduceAdd, Nat.reduceMul, Value.cells, Value.oneCell', eq_self, ne_eq, Int.reduceToNat, Int.reduceEq, Int.reduceLT, Int.reduceLE, Int.reduceNeg, if_true, if_false, reduceCtorEq, Nat.reduceSub, storeV_ptr, slcV_slice, ↓mwD, mwU]
  clear hv7
  refine (refSame_c g7 g7 _ _ v7 (hs7.ext y7) (hf.ext (x0.trans hx7))).use ?_
  rintro r w8 ⟨rfl, h8⟩
  have e8 := eqFm_refl g7
  simp -dsimp -implicitDefEqProofs only [e8, m3, sF3, Nat.reduceEqDiff, ↓reduceIte, Nat.reduceAdd, Nat.reduceMul, Value.cells, Value.oneCell', eq_self, ne_eq, Int.reduceToNat, Int.reduceEq, Int.reduceLT, Int.reduceLE, Int.reduceNeg, if_true, if_false, reduceCtorEq, Nat.reduceSub, storeV_ptr, slcV_slice, ↓mwD, mwU]
  refine (end1 (hx7.trans h8)).use ?_
  rintro r w9 ⟨rfl, h9⟩
  simp -dsimp -implicitDefEqProofs only [m3, sF3, Nat.reduceEqDiff, ↓reduceIte, Nat.reduceAdd, Nat.reduceMul, Value.cells, Value.oneCell', eq_self, ne_eq, Int.reduceToNat, Int.reduceEq, Int.reduceLT, Int.reduceLE, Int.reduceNeg, if_true, if_false, reduceCtorEq, Nat.reduceSub, storeV_ptr, slcV_slice, ↓mwD, mwU]
  exact h9
end Go.Proofs.YthcdnjbhhaonhaaGreatDoor

/- Histories as lists: all, fill. -/
import Derived.Test.YtefcfnmmpnjjjaaGreatDoorQbEffO
import Derived.Laws.CopyRow
namespace Go.Proofs.YtefcfnmmpnjjjaaGreatDoor
open Go.RowKit
set_option linter.unusedSimpArgs false

theorem Bk.setRow {w : World} {b : Nat} {cs cs' : List Value} {t : TypeId} (h : Bk w b cs t) : Bk (w.setRow b cs'.toArray) b cs' t := by
  have hl := h.lt
  unfold Bk at h ⊢
  simp [World.setRow, Array.getElem?_modify, h]
theorem Bk.setRow_ne {w : World} {b b' : Nat} {cs : List Value} {t : TypeId} (h : Bk w b cs t) (hne : b' ≠ b) (c : Array Value) : Bk (w.setRow b' c) b cs t := by
  unfold Bk at h ⊢
  simp [World.setRow, Array.getElem?_modify, hne, h]
theorem Fr.setRow {F : List Nat} {a w : World} (h : Fr F a w) {b : Nat} (hb : b ∈ F) (c : Array Value) : Fr F a (w.setRow b c) :=
  h.trans ⟨rfl, rfl, rfl, by simp [World.setRow], fun k hk => by
    have : b ≠ k := fun e => hk (e ▸ hb)
    simp [World.setRow, Array.getElem?_modify, this]⟩

theorem all_c (b o r : Nat) (h : List Int) (cs : List Value) (t : TypeId) (w : World) (hh : Hist w b o r h cs t) :
    Rets Go.Proofs.Tryz.prog 65 #[.pointer (some ⟨b, o, none⟩)] w fun v w' => w'.ownsRow w.heap.size 3 1 v h.length (ints h) ∧ Ext w w' := by
  obtain ⟨p, hs⟩ := hh.slice
  have hb := hh.bk
  have hlen := hh.len
  have c0 := hb.get hs
  refine en65 ?_
  simp -dsimp -implicitDefEqProofs only [c0, m65, sF65, Nat.reduceEqDiff, ↓reduceIte, Nat.reduceAdd, Nat.reduceMul, Value.cells, Value.oneCell', eq_self, ne_eq, Int.reduceToNat, Int.reduceEq, Int.reduceLT, Int.reduceLE, Int.reduceNeg, if_true, if_false, reduceCtorEq, Nat.reduceSub, storeV_ptr, slcV_slice, ↓mwD, mwU]
  refine mwpB_loop (fun e ds wl => ∃ n : Nat, n ≤ h.length ∧ e 10 = .int .i64 n ∧ e 9 = .int .i64 h.length ∧ e 0 = .pointer (some ⟨b, o, none⟩) ∧ ds = [] ∧ wl.ownsRow w.heap.size 3 1 (e 3) n (ints (h.take n)) ∧ Ext w wl) (fun e _ => h.length - (intOf (e 10)).toNat) ?_ ?_
  · simp -dsimp -implicitDefEqProofs only [m65, sF65, Nat.reduceEqDiff, ↓reduceIte, Nat.reduceAdd, Nat.reduceMul, Value.cells, Value.oneCell', eq_self, ne_eq, Int.reduceToNat, Int.reduceEq, Int.reduceLT, Int.reduceLE, Int.reduceNeg, if_true, if_false, reduceCtorEq, Nat.reduceSub, storeV_ptr, slcV_slice, ↓mwD, mwU]
    exact ⟨0, by omega, rfl, World.ownsRow_nil _ _ _ _, Ext.refl _⟩
  · rintro e ds wl ⟨n, hn, h10, h9, he0, rfl, hown, he⟩
    simp -dsimp -implicitDefEqProofs only [h10, h9, he0, m65, sF65, Nat.reduceEqDiff, ↓reduceIte, Nat.reduceAdd, Nat.reduceMul, Value.cells, Value.oneCell', eq_self, ne_eq, Int.reduceToNat, Int.reduceEq, Int.reduceLT, Int.reduceLE, Int.reduceNeg, if_true, if_false, reduceCtorEq, Nat.reduceSub, storeV_ptr, slcV_slice, ↓mwD, mwU]
    refine iteW_dec (fun hlt => ?_) (fun hge => ?_)
    · have hnl : n < h.length := by omega
      have hw1 : IntKind.i64.wrap ((n : Int) + 1) = ((n + 1 : Nat) : Int) := by rw [w64 (by omega) (by omega)]; omega
      simp -dsimp -implicitDefEqProofs only [h10, h9, he0, hw1, m65, sF65, Nat.reduceEqDiff, ↓reduceIte, Nat.reduceAdd, Nat.reduceMul, Value.cells, Value.oneCell', eq_self, ne_eq, Int.reduceToNat, Int.reduceEq, Int.reduceLT, Int.reduceLE, Int.reduceNeg, if_true, if_false, reduceCtorEq, Nat.reduceSub, storeV_ptr, slcV_slice, ↓mwD, mwU]
      refine (ago_c b o r h cs t _ wl (hh.ext he) (by omega) (by omega)).use ?_
      rintro u w1 ⟨rfl, hf⟩
      have e1 : (((n + 1 : Nat) : Int) - 1).toNat = n := by omega
      rw [e1]
      have hown1 := Own.same (w' := w1) hown fun q _ _ => hf.block q (by simp)
      have he1 : Ext w w1 := hf.ext he (by simp)
      simp -dsimp -implicitDefEqProofs only [h10, h9, he0, bs_one, m65, sF65, Nat.reduceEqDiff, ↓reduceIte, Nat.reduceAdd, Nat.reduceMul, Value.cells, Value.oneCell', eq_self, ne_eq, Int.reduceToNat, Int.reduceEq, Int.reduceLT, Int.reduceLE, Int.reduceNeg, if_true, if_false, reduceCtorEq, Nat.reduceSub, storeV_ptr, slcV_slice, ↓mwD, mwU]
      obtain ⟨v2, w2, ha2, hown2, hg2⟩ := append_int hown1 (h.getD n 0) (by omega) he1.le
      refine appB.mk ha2 ?_
      simp -dsimp -implicitDefEqProofs only [h10, h9, he0, hw1, m65, sF65, Nat.reduceEqDiff, ↓reduceIte, Nat.reduceAdd, Nat.reduceMul, Value.cells, Value.oneCell', eq_self, ne_eq, Int.reduceToNat, Int.reduceEq, Int.reduceLT, Int.reduceLE, Int.reduceNeg, if_true, if_false, reduceCtorEq, Nat.reduceSub, storeV_ptr, slcV_slice, ↓mwD, mwU]
      refine ⟨⟨n + 1, by omega, rfl, ?_, (he1.alloc' _).grown hg2 (Own.ge hown1)⟩, by simp only [intOf]; omega⟩
      rw [List.take_add_one, List.getElem?_eq_getElem hnl]
      rw [List.getD_eq_getElem?_getD, List.getElem?_eq_getElem hnl] at hown2
      exact hown2
    · have hnl : n = h.length := by omega
      subst hnl
      rw [List.take_length] at hown
      simp -dsimp -implicitDefEqProofs only [h10, h9, he0, m65, sF65, Nat.reduceEqDiff, ↓reduceIte, Nat.reduceAdd, Nat.reduceMul, Value.cells, Value.oneCell', eq_self, ne_eq, Int.reduceToNat, Int.reduceEq, Int.reduceLT, Int.reduceLE, Int.reduceNeg, if_true, if_false, reduceCtorEq, Nat.reduceSub, storeV_ptr, slcV_slice, ↓mwD, mwU]
      exact ⟨hown, he⟩

theorem mid_zero (arr : List Int) (n : Nat) (hn : n < arr.length) : (List.replicate n 0 ++ arr.drop n)[n]? = some arr[n] ∧ (List.replicate n 0 ++ arr.drop n).set n 0 = List.replicate (n + 1) 0 ++ arr.drop (n + 1) := by
  have h := midset (List.replicate n 0) (arr.drop (n + 1)) arr[n] 0 n (by simp)
  rw [← List.drop_eq_getElem_cons hn] at h
  exact ⟨h.1, by rw [h.2, List.replicate_succ']⟩
theorem ints_set (l : List Int) (n : Nat) (x : Int) : (ints l).set n (.int .i64 x) = ints (l.set n x) := by simp [ints, List.map_set]

/-- What a history holds behind fill. -/
def fillL (n : Nat) (xs : List Int) : List Int := xs.take n ++ List.replicate (n - xs.length) 0
theorem fillL_length (n : Nat) (xs : List Int) : (fillL n xs).length = n := by simp [fillL]; omega
theorem ring_id (h : List Int) : Ring h h 0 := by
  refine ⟨rfl, fun hh => hh, fun i hi => ?_⟩
  rw [show ringIx h.length 0 i = i by unfold ringIx; split <;> omega]

theorem fill_c (b o r : Nat) (h : List Int) (cs : List Value) (t : TypeId) (v : Value) (xs : List Int) (w : World) (hh : Hist w b o r h cs t) (hx : SlI w v xs) (hd : xs ≠ [] → ∀ q, v.ownBlock = some q → q ≠ b ∧ q ≠ r) :
    Rets Go.Proofs.Tryz.prog 63 #[.pointer (some ⟨b, o, none⟩), v] w fun _ w' => Fr [b, r] w w' ∧ Hist w' b o r (fillL h.length xs) (cs.set (o + 1) (.int .i64 0)) t := by
  obtain ⟨p, hs⟩ := hh.slice
  obtain ⟨px, cx, rfl, hcx, hmx⟩ := hx.shape
  obtain ⟨a, arr, hb, ha, hcap, hor⟩ := id hh
  have c0 := hb.get hs
  have c1 := hb.get ha
  have ho : o + 1 < cs.length := (List.getElem?_eq_some_iff.1 ha).1
  refine en63 ?_
  simp -dsimp -implicitDefEqProofs only [c0, m63, sF63, Nat.reduceEqDiff, ↓reduceIte, Nat.reduceAdd, Nat.reduceMul, Value.cells, Value.oneCell', eq_self, ne_eq, Int.reduceToNat, Int.reduceEq, Int.reduceLT, Int.reduceLE, Int.reduceNeg, if_true, if_false, reduceCtorEq, Nat.reduceSub, storeV_ptr, slcV_slice, ↓mwD, mwU]
  refine mwpB_loop (fun e ds wl => ∃ n : Nat, n ≤ h.length ∧ e 10 = .int .i64 n ∧ e 9 = .int .i64 h.length ∧ e 0 = .pointer (some ⟨b, o, none⟩) ∧ e 1 = .slice px xs.length cx ∧ ds = [] ∧ Fr [b, r] w wl ∧ Bk wl b cs t ∧ (b ≠ r → Bk wl r (ints (List.replicate n 0 ++ arr.drop n)) 3)) (fun e _ => h.length - (intOf (e 10)).toNat) ?_ ?_
  · simp -dsimp -implicitDefEqProofs only [m63, sF63, Nat.reduceEqDiff, ↓reduceIte, Nat.reduceAdd, Nat.reduceMul, Value.cells, Value.oneCell', eq_self, ne_eq, Int.reduceToNat, Int.reduceEq, Int.reduceLT, Int.reduceLE, Int.reduceNeg, if_true, if_false, reduceCtorEq, Nat.reduceSub, storeV_ptr, slcV_slice, ↓mwD, mwU]
    refine ⟨0, by omega, rfl, Fr.refl _ _, hb, fun hne => ?_⟩
    rcases hor with ⟨_, h5, _⟩ | ⟨_, _, h6, _⟩
    · exact absurd h5.symm hne
    · simpa using h6
  · rintro e ds wl ⟨n, hn, h10, h9, he0, he1, rfl, hf, hbl, hrl⟩
    simp -dsimp -implicitDefEqProofs only [h10, h9, he0, he1, m63, sF63, Nat.reduceEqDiff, ↓reduceIte, Nat.reduceAdd, Nat.reduceMul, Value.cells, Value.oneCell', eq_self, ne_eq, Int.reduceToNat, Int.reduceEq, Int.reduceLT, Int.reduceLE, Int.reduceNeg, if_true, if_false, reduceCtorEq, Nat.reduceSub, storeV_ptr, slcV_slice, ↓mwD, mwU]
    refine iteW_dec (fun hlt => ?_) (fun hge => ?_)
    · have hnl : n < h.length := by omega
      rcases hor with ⟨rfl, _⟩ | ⟨hne, hs', hr, hri⟩
      · simp at hnl
      rw [hs, Option.some.injEq, Value.slice.injEq] at hs'
      obtain ⟨rfl, _⟩ := hs'
      have hw1 : IntKind.i64.wrap ((n : Int) + 1) = ((n + 1 : Nat) : Int) := by rw [w64 (by omega) (by omega)]; omega
      have hal : arr.length = h.length := hri.1
      have hrk := hrl hne
      have q0 := hbl.get hs
      have qn := hrk.get (o := n) (v := .int .i64 (arr[n]'(by omega))) (by rw [ints, List.getElem?_map, (mid_zero arr n (by omega)).1]; rfl)
      have hb1 : (0 : Int) ≤ n ∧ (n : Int) < h.length := by omega
      simp -dsimp -implicitDefEqProofs only [h10, h9, he0, he1, q0, qn, hb1, and_self, hrk.frozen, hw1, m63, sF63, Nat.reduceEqDiff, ↓reduceIte, Nat.reduceAdd, Nat.reduceMul, Value.cells, Value.oneCell', eq_self, ne_eq, Int.reduceToNat, Int.reduceEq, Int.reduceLT, Int.reduceLE, Int.reduceNeg, if_true, if_false, reduceCtorEq, Nat.reduceSub, storeV_ptr, slcV_slice, ↓mwD, mwU]
      refine ⟨⟨n + 1, by omega, rfl, hf.setCell (by simp) _, hbl.ne (Ne.symm hne) _ _, fun _ => ?_⟩, by simp only [intOf]; omega⟩
      have := hrk.set n (.int .i64 0)
      rw [ints_set, (mid_zero arr n (by omega)).2] at this
      exact this
    · have hnl : n = h.length := by omega
      subst hnl
      have q0 := hbl.get hs
      have q1 := hbl.get ha
      have hb2 := hbl.set (o + 1) (.int .i64 0)
      have d0 := hb2.get (o := o) (by rw [List.getElem?_set_ne (by omega)]; exact hs)
      simp -dsimp -implicitDefEqProofs only [h10, h9, he0, he1, q0, q1, hbl.frozen, and_self, d0, m63, sF63, Nat.reduceEqDiff, ↓reduceIte, Nat.reduceAdd, Nat.reduceMul, Value.cells, Value.oneCell', eq_self, ne_eq, Int.reduceToNat, Int.reduceEq, Int.reduceLT, Int.reduceLE, Int.reduceNeg, if_true, if_false, reduceCtorEq, Nat.reduceSub, storeV_ptr, slcV_slice, ↓mwD, mwU]
      have hf2 : Fr [b, r] w (wl.setCell ⟨b, o + 1, none⟩ (.int .i64 0)) := hf.setCell (by simp) _
      have hu : (Go.Proofs.Tryz.prog).underlying 22 = some (.slice 3) := Tryz.underlying22
      have hsz : ((Go.Proofs.Tryz.prog).info? 3).map (·.size) = some 1 := by kernel_rfl
      by_cases hmin : Nat.min xs.length h.length = 0
      · refine copB.mk (run_copy_none (P := Go.Proofs.Tryz.prog) _ 22 22 3 3 p px h.length h.length xs.length cx hu hsz hmin) ?_
        simp -dsimp -implicitDefEqProofs only [m63, sF63, Nat.reduceEqDiff, ↓reduceIte, Nat.reduceAdd, Nat.reduceMul, Value.cells, Value.oneCell', eq_self, ne_eq, Int.reduceToNat, Int.reduceEq, Int.reduceLT, Int.reduceLE, Int.reduceNeg, if_true, if_false, reduceCtorEq, Nat.reduceSub, storeV_ptr, slcV_slice, ↓mwD, mwU]
        refine ⟨hf2, 0, List.replicate h.length 0, hb2, by simp [ho], by rw [fillL_length]; exact hcap, ?_⟩
        rcases hor with ⟨rfl, h5, h6⟩ | ⟨hne, h5, h6, h7⟩
        · exact .inl ⟨by simp [fillL], h5, by rw [List.getElem?_set_ne (by omega)]; exact h6⟩
        · have hfl : fillL h.length xs = List.replicate h.length 0 := by
            rw [fillL]
            rcases Nat.min_eq_zero_iff.1 hmin with h0 | h0
            · have : xs = [] := List.eq_nil_of_length_eq_zero h0
              simp [this]
            · simp [h0]
          have hd0 := (hrl hne).ne hne (o + 1) (.int .i64 0)
          rw [List.drop_eq_nil_of_le (by rw [h7.1]; exact Nat.le_refl _), List.append_nil] at hd0
          refine .inr ⟨hne, by rw [List.getElem?_set_ne (by omega), fillL_length]; exact h5, hd0, ?_⟩
          rw [hfl]; exact ring_id _
      · have hm : 0 < xs.length ∧ 0 < h.length := by
          constructor
          · apply Nat.pos_of_ne_zero; intro h0; apply hmin; rw [h0]; simp
          · apply Nat.pos_of_ne_zero; intro h0; apply hmin; rw [h0]; simp
        rcases hor with ⟨rfl, _⟩ | ⟨hne, h5, h6, h7⟩
        · exact absurd hm.2 (by simp)
        rw [hs, Option.some.injEq, Value.slice.injEq] at h5
        obtain ⟨rfl, _⟩ := h5
        have hne' : xs ≠ [] := List.length_pos_iff.1 hm.1
        obtain ⟨bx, ox, cx', hv, _, _, hrow⟩ := Sl.at hx (by simpa [ints] using hne')
        simp only [Value.slice.injEq] at hv
        obtain ⟨rfl, _⟩ := hv
        have hdq := hd hne' bx rfl
        have hd0 := (hrl hne).ne hne (o + 1) (.int .i64 0)
        rw [List.drop_eq_nil_of_le (by rw [h7.1]; exact Nat.le_refl _), List.append_nil] at hd0
        have hcl : (ints (xs.take h.length)).length = Nat.min xs.length h.length := by rw [ints_length, List.length_take, Nat.min_comm]
        have hcp := run_copy_row Go.Proofs.Tryz.prog (wl.setCell ⟨b, o + 1, none⟩ (.int .i64 0)) 22 22 3 3 r 0 h.length h.length ⟨bx, ox, none⟩ xs.length cx (ints (List.replicate h.length 0)).toArray 3 (ints (xs.take h.length)) hu hsz hd0 hcl
          (fun j u hj => by
            rw [Addr.add_lit]
            have hj' : (ints xs)[j]? = some u := by
              simp only [ints, List.getElem?_map, Option.map_eq_some_iff] at hj ⊢
              obtain ⟨y, hy, hyu⟩ := hj
              refine ⟨y, ?_, hyu⟩
              rw [List.getElem?_take] at hy
              split at hy
              · exact hy
              · cases hy
            have := hrow j u hj'
            rw [hf2.cell (by simp [hdq.1, hdq.2])]; exact this)
          (by rw [hcl]; simp [ints]; exact Nat.min_le_right _ _) (fun u hu' => by simp only [ints, List.mem_map] at hu'; obtain ⟨n, _, rfl⟩ := hu'; rfl)
        refine copB.mk hcp ?_
        simp -dsimp -implicitDefEqProofs only [m63, sF63, Nat.reduceEqDiff, ↓reduceIte, Nat.reduceAdd, Nat.reduceMul, Value.cells, Value.oneCell', eq_self, ne_eq, Int.reduceToNat, Int.reduceEq, Int.reduceLT, Int.reduceLE, Int.reduceNeg, if_true, if_false, reduceCtorEq, Nat.reduceSub, storeV_ptr, slcV_slice, ↓mwD, mwU]
        have hrow2 : Bk ((wl.setCell ⟨b, o + 1, none⟩ (.int .i64 0)).setRow r ((ints (List.replicate h.length 0)).toArray.toList.take 0 ++ ints (xs.take h.length) ++ (ints (List.replicate h.length 0)).toArray.toList.drop (0 + (ints (xs.take h.length)).length)).toArray) r (ints (fillL h.length xs)) 3 := by
          have e : (ints (List.replicate h.length 0)).toArray.toList.take 0 ++ ints (xs.take h.length) ++ (ints (List.replicate h.length 0)).toArray.toList.drop (0 + (ints (xs.take h.length)).length) = ints (fillL h.length xs) := by
            simp [ints, fillL]; omega
          rw [e]; exact hd0.setRow
        refine ⟨hf2.setRow (by simp) _, 0, fillL h.length xs, hb2.setRow_ne (Ne.symm hne) _, by simp [ho], by rw [fillL_length]; exact hcap, .inr ⟨hne, by rw [List.getElem?_set_ne (by omega), fillL_length]; exact hs, by simpa only [List.toList_toArray, List.take_zero, List.nil_append, Nat.zero_add] using hrow2, ring_id _⟩⟩

end Go.Proofs.YtefcfnmmpnjjjaaGreatDoor

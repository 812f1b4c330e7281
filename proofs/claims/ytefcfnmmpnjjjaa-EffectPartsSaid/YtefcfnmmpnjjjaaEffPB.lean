/- A filter's parts, told one by one. -/
import Derived.Test.YtefcfnmmpnjjjaaEffPA
namespace Go.Proofs.Ytefcfnmmpnjjjaa
open Go.RowKit
set_option linter.unusedSimpArgs false

theorem parts_c (p : Value) (w : World) : Rets Go.Proofs.Try.prog 43 #[p] w fun v w' => v = .func (.func 60) #[] #[.pointer (some ⟨w.heap.size, 0, none⟩)] ∧ w' = w.alloc (.cells p.cells 34) := by
  refine en43 ?_
  simp -dsimp -implicitDefEqProofs only [m43, Nat.reduceEqDiff, ↓reduceIte, Nat.reduceAdd, Nat.reduceMul, Value.cells, Value.oneCell', eq_self, ne_eq, Int.reduceToNat, Int.reduceEq, Int.reduceLT, Int.reduceLE, Int.reduceNeg, if_true, if_false, reduceCtorEq, Nat.reduceSub, storeV_ptr, slcV_slice, ↓mwD, mwU]

/-- Whatever is not in block r stays. -/
def Kp (r : Nat) (W W' : World) : Prop := ∀ a v, a.block ≠ r → W.cell? a = some v → W'.cell? a = some v
theorem Kp.trans {r : Nat} {A B C : World} (h : Kp r A B) (k : Kp r B C) : Kp r A C := fun a v hr hc => k a v hr (h a v hr hc)
theorem Kp.put {r : Nat} (W : World) (l : Nat) (o o' : Obj) (hl : W.heap[l]? = some o) (ho : o.isCells = false) : Kp r W (W.putObj l o') := fun a v _ hc => by
  obtain ⟨ob, h1, h2⟩ := cells_of_cell hc
  have : a.block ≠ l := fun e => by rw [e, hl] at h1; cases h1; rw [ho] at h2; cases h2
  rw [World.cell?_of_block (w := W) (World.putObj_heap_other this)]
  exact hc

/-- How often place j stands in the parts. -/
def cntP (ln : Nat) {n : Nat} (xs : List (Fin n)) (j : Nat) : Nat := (xs.filter fun i => decide (i.val ≤ j ∧ j < i.val + ln)).length
theorem cntP_snoc (ln : Nat) {n : Nat} (xs : List (Fin n)) (i : Fin n) (j : Nat) : cntP ln (xs ++ [i]) j = cntP ln xs j + (if i.val ≤ j ∧ j < i.val + ln then 1 else 0) := by
  unfold cntP
  rw [List.filter_append, List.length_append]
  congr 1
  by_cases h : i.val ≤ j ∧ j < i.val + ln <;> simp [h]
theorem cntP_le (ln : Nat) {n : Nat} (xs : List (Fin n)) (j : Nat) : cntP ln xs j ≤ xs.length := List.length_filter_le _ _

def encP (tb to cap ln n : Nat) (i : Fin n) : Array Value := #[.int .i64 i.val, .slice (some ⟨tb, to + i.val, none⟩) (min (i.val + ln) n - i.val) (cap - i.val)]

theorem parts1_seq {w : World} {b q tb to cap ln r : Nat} {T : List Int} (h1 : 1 ≤ ln) (h2 : ln ≤ 512) (hn : T.length ≤ 512) (hc1 : T.length ≤ cap) (hbr : b ≠ r) (hqr : q ≠ r)
    (cq : w.cell? ⟨q, 0, none⟩ = some (.pointer (some ⟨b, 0, none⟩))) (c0 : w.cell? ⟨b, 0, none⟩ = some (.slice (some ⟨tb, to, none⟩) T.length cap)) (c1 : w.cell? ⟨b, 1, none⟩ = some (.int .i64 ln)) :
    SeqStopsK Fence.wide 2 Go.Proofs.Try.prog 60 #[.pointer (some ⟨q, 0, none⟩)] (encP tb to cap ln T.length) (Kp r) (fun xs => ∀ j, j < T.length → cntP ln xs j = 1) (fun _ => True) T.length w := by
  intro l J Jx W hW hJ hJx hY h0
  refine callsIn_wide.2 ?_
  have hx : Ext w W := hW
  have main : Rets Go.Proofs.Try.prog 60 #[.func (.yield l) #[] #[], .pointer (some ⟨q, 0, none⟩)] W (fun _ W' => (∃ xs : List (Fin T.length), (∀ j, j < T.length → cntP ln xs j = 1) ∧ J xs W') ∨ ∃ pre, True ∧ Jx pre W') := by
    refine en60 ?_
    simp -dsimp -implicitDefEqProofs only [m60, sF60, Nat.reduceEqDiff, ↓reduceIte, Nat.reduceAdd, Nat.reduceMul, Value.cells, Value.oneCell', eq_self, ne_eq, Int.reduceToNat, Int.reduceEq, Int.reduceLT, Int.reduceLE, Int.reduceNeg, if_true, if_false, reduceCtorEq, Nat.reduceSub, storeV_ptr, slcV_slice, ↓mwD, mwU]
    refine mwpB_loop (fun e ds wl => ∃ (i : Nat) (xs : List (Fin T.length)), xs.length ≤ i ∧ i ≤ T.length + ln ∧ e 3 = .int .i64 i ∧ e 0 = .func (.yield l) #[] #[] ∧ e 1 = .pointer (some ⟨q, 0, none⟩) ∧ ds = [] ∧ J xs wl ∧ (∀ j, j < T.length → cntP ln xs j = if j < i then 1 else 0) ∧
      wl.cell? ⟨q, 0, none⟩ = some (.pointer (some ⟨b, 0, none⟩)) ∧ wl.cell? ⟨b, 0, none⟩ = some (.slice (some ⟨tb, to, none⟩) T.length cap) ∧ wl.cell? ⟨b, 1, none⟩ = some (.int .i64 ln)) (fun e _ => T.length + 1 - (intOf (e 3)).toNat) ?_ ?_
    · simp -dsimp -implicitDefEqProofs only [m60, sF60, Nat.reduceEqDiff, ↓reduceIte, Nat.reduceAdd, Nat.reduceMul, Value.cells, Value.oneCell', eq_self, ne_eq, Int.reduceToNat, Int.reduceEq, Int.reduceLT, Int.reduceLE, Int.reduceNeg, if_true, if_false, reduceCtorEq, Nat.reduceSub, storeV_ptr, slcV_slice, ↓mwD, mwU]
      exact ⟨0, [], by simp, by omega, rfl, h0, fun j _ => by simp [cntP], hx.cell cq, hx.cell c0, hx.cell c1⟩
    · rintro e ds wl ⟨i, xs, hxi, hi, k3, k0, k1, rfl, hj, hcn, d0, d1, d2⟩
      simp -dsimp -implicitDefEqProofs only [k3, k0, k1, d0, d1, d2, m60, sF60, Nat.reduceEqDiff, ↓reduceIte, Nat.reduceAdd, Nat.reduceMul, Value.cells, Value.oneCell', eq_self, ne_eq, Int.reduceToNat, Int.reduceEq, Int.reduceLT, Int.reduceLE, Int.reduceNeg, if_true, if_false, reduceCtorEq, Nat.reduceSub, storeV_ptr, slcV_slice, ↓mwD, mwU]
      refine iteW_dec (fun hlt => ?_) (fun hge => ?_)
      · have hil : i < T.length := by omega
        have ha : IntKind.i64.wrap ((i : Int) + ln) = ((i + ln : Nat) : Int) := by rw [w64 (by omega) (by omega)]; omega
        simp -dsimp -implicitDefEqProofs only [k3, k0, k1, d0, d1, d2, m60, sF60, Nat.reduceEqDiff, ↓reduceIte, Nat.reduceAdd, Nat.reduceMul, Value.cells, Value.oneCell', eq_self, ne_eq, Int.reduceToNat, Int.reduceEq, Int.reduceLT, Int.reduceLE, Int.reduceNeg, if_true, if_false, reduceCtorEq, Nat.reduceSub, storeV_ptr, slcV_slice, ↓mwD, mwU]
        refine mwpB_draw (fun w' => w'.cell? ⟨q, 0, none⟩ = some (.pointer (some ⟨b, 0, none⟩)) ∧ w'.cell? ⟨b, 0, none⟩ = some (.slice (some ⟨tb, to, none⟩) T.length cap) ∧ w'.cell? ⟨b, 1, none⟩ = some (.int .i64 ln)) ⟨d0, d1, d2⟩ ?_
        have hmin : (if (T.length : Int) < ((i + ln : Nat) : Int) then (T.length : Int) else ((i + ln : Nat) : Int)) = ((min (i + ln) T.length : Nat) : Int) := by split <;> omega
        have hci : ((cap : Int) = (i : Int)) = False := eq_false (by omega)
        have ht1 : (((min (i + ln) T.length : Nat) : Int) - (i : Int)).toNat = min (i + ln) T.length - i := by omega
        have ht2 : ((cap : Int) - (i : Int)).toNat = cap - i := by omega
        have hsl : (0 : Int) ≤ i ∧ (i : Int) ≤ ((min (i + ln) T.length : Nat) : Int) ∧ ((min (i + ln) T.length : Nat) : Int) ≤ cap := by omega
        simp -dsimp -implicitDefEqProofs only [k3, k0, k1, ha, m60, sF60, Nat.reduceEqDiff, ↓reduceIte, Nat.reduceAdd, Nat.reduceMul, Value.cells, Value.oneCell', eq_self, ne_eq, Int.reduceToNat, Int.reduceEq, Int.reduceLT, Int.reduceLE, Int.reduceNeg, if_true, if_false, reduceCtorEq, Nat.reduceSub, storeV_ptr, slcV_slice, ↓mwD, mwU]
        refine softB_load (v := .pointer (some ⟨b, 0, none⟩)) (fun w' hw => ?_) ?_
        · simp -dsimp -implicitDefEqProofs only [k1, hw.1, m60, sF60, Nat.reduceEqDiff, ↓reduceIte, Nat.reduceAdd, Nat.reduceMul, Value.cells, Value.oneCell', eq_self, ne_eq, Int.reduceToNat, Int.reduceEq, Int.reduceLT, Int.reduceLE, Int.reduceNeg, if_true, if_false, reduceCtorEq, Nat.reduceSub, storeV_ptr, slcV_slice, ↓mwD, mwU]
        simp -dsimp -implicitDefEqProofs only [k3, k0, k1, ha, hmin, hsl, hci, ht1, ht2, and_self, m60, sF60, Nat.reduceEqDiff, ↓reduceIte, Nat.reduceAdd, Nat.reduceMul, Value.cells, Value.oneCell', eq_self, ne_eq, Int.reduceToNat, Int.reduceEq, Int.reduceLT, Int.reduceLE, Int.reduceNeg, if_true, if_false, reduceCtorEq, Nat.reduceSub, storeV_ptr, slcV_slice, ↓mwD, mwU]
        refine softB_load (v := .slice (some ⟨tb, to, none⟩) T.length cap) (fun w' hw => ?_) ?_
        · simp -dsimp -implicitDefEqProofs only [k1, hw.2.1, m60, sF60, Nat.reduceEqDiff, ↓reduceIte, Nat.reduceAdd, Nat.reduceMul, Value.cells, Value.oneCell', eq_self, ne_eq, Int.reduceToNat, Int.reduceEq, Int.reduceLT, Int.reduceLE, Int.reduceNeg, if_true, if_false, reduceCtorEq, Nat.reduceSub, storeV_ptr, slcV_slice, ↓mwD, mwU]
        simp -dsimp -implicitDefEqProofs only [k3, k0, k1, ha, hmin, hsl, hci, ht1, ht2, and_self, m60, sF60, Nat.reduceEqDiff, ↓reduceIte, Nat.reduceAdd, Nat.reduceMul, Value.cells, Value.oneCell', eq_self, ne_eq, Int.reduceToNat, Int.reduceEq, Int.reduceLT, Int.reduceLE, Int.reduceNeg, if_true, if_false, reduceCtorEq, Nat.reduceSub, storeV_ptr, slcV_slice, ↓mwD, mwU]
        refine softB_load (v := .pointer (some ⟨b, 0, none⟩)) (fun w' hw => ?_) ?_
        · simp -dsimp -implicitDefEqProofs only [k1, hw.1, m60, sF60, Nat.reduceEqDiff, ↓reduceIte, Nat.reduceAdd, Nat.reduceMul, Value.cells, Value.oneCell', eq_self, ne_eq, Int.reduceToNat, Int.reduceEq, Int.reduceLT, Int.reduceLE, Int.reduceNeg, if_true, if_false, reduceCtorEq, Nat.reduceSub, storeV_ptr, slcV_slice, ↓mwD, mwU]
        simp -dsimp -implicitDefEqProofs only [k3, k0, k1, ha, hmin, hsl, hci, ht1, ht2, and_self, m60, sF60, Nat.reduceEqDiff, ↓reduceIte, Nat.reduceAdd, Nat.reduceMul, Value.cells, Value.oneCell', eq_self, ne_eq, Int.reduceToNat, Int.reduceEq, Int.reduceLT, Int.reduceLE, Int.reduceNeg, if_true, if_false, reduceCtorEq, Nat.reduceSub, storeV_ptr, slcV_slice, ↓mwD, mwU]
        refine softB_load (v := .int .i64 ln) (fun w' hw => ?_) ?_
        · simp -dsimp -implicitDefEqProofs only [k1, hw.2.2, m60, sF60, Nat.reduceEqDiff, ↓reduceIte, Nat.reduceAdd, Nat.reduceMul, Value.cells, Value.oneCell', eq_self, ne_eq, Int.reduceToNat, Int.reduceEq, Int.reduceLT, Int.reduceLE, Int.reduceNeg, if_true, if_false, reduceCtorEq, Nat.reduceSub, storeV_ptr, slcV_slice, ↓mwD, mwU]
        simp -dsimp -implicitDefEqProofs only [k3, k0, k1, ha, hmin, hsl, hci, ht1, ht2, and_self, m60, sF60, Nat.reduceEqDiff, ↓reduceIte, Nat.reduceAdd, Nat.reduceMul, Value.cells, Value.oneCell', eq_self, ne_eq, Int.reduceToNat, Int.reduceEq, Int.reduceLT, Int.reduceLE, Int.reduceNeg, if_true, if_false, reduceCtorEq, Nat.reduceSub, storeV_ptr, slcV_slice, ↓mwD, mwU]
        refine softB_load (v := .pointer (some ⟨b, 0, none⟩)) (fun w' hw => ?_) ?_
        · simp -dsimp -implicitDefEqProofs only [k1, hw.1, m60, sF60, Nat.reduceEqDiff, ↓reduceIte, Nat.reduceAdd, Nat.reduceMul, Value.cells, Value.oneCell', eq_self, ne_eq, Int.reduceToNat, Int.reduceEq, Int.reduceLT, Int.reduceLE, Int.reduceNeg, if_true, if_false, reduceCtorEq, Nat.reduceSub, storeV_ptr, slcV_slice, ↓mwD, mwU]
        simp -dsimp -implicitDefEqProofs only [k3, k0, k1, ha, hmin, hsl, hci, ht1, ht2, and_self, m60, sF60, Nat.reduceEqDiff, ↓reduceIte, Nat.reduceAdd, Nat.reduceMul, Value.cells, Value.oneCell', eq_self, ne_eq, Int.reduceToNat, Int.reduceEq, Int.reduceLT, Int.reduceLE, Int.reduceNeg, if_true, if_false, reduceCtorEq, Nat.reduceSub, storeV_ptr, slcV_slice, ↓mwD, mwU]
        refine softB_load (v := .slice (some ⟨tb, to, none⟩) T.length cap) (fun w' hw => ?_) ?_
        · simp -dsimp -implicitDefEqProofs only [k1, hw.2.1, m60, sF60, Nat.reduceEqDiff, ↓reduceIte, Nat.reduceAdd, Nat.reduceMul, Value.cells, Value.oneCell', eq_self, ne_eq, Int.reduceToNat, Int.reduceEq, Int.reduceLT, Int.reduceLE, Int.reduceNeg, if_true, if_false, reduceCtorEq, Nat.reduceSub, storeV_ptr, slcV_slice, ↓mwD, mwU]
        simp -dsimp -implicitDefEqProofs only [k3, k0, k1, ha, hmin, hsl, hci, ht1, ht2, and_self, m60, sF60, Nat.reduceEqDiff, ↓reduceIte, Nat.reduceAdd, Nat.reduceMul, Value.cells, Value.oneCell', eq_self, ne_eq, Int.reduceToNat, Int.reduceEq, Int.reduceLT, Int.reduceLE, Int.reduceNeg, if_true, if_false, reduceCtorEq, Nat.reduceSub, storeV_ptr, slcV_slice, ↓mwD, mwU]
        refine cvB_yield ?_
        have hj' : J xs wl.drew := hJ xs wl wl.drew none hj ⟨rfl, rfl, rfl, Nat.le_refl _, fun _ _ _ => rfl⟩ (fun r e => by cases e)
        obtain ⟨fn, tmps, asg, body, hy, hR⟩ := hY xs ⟨i, hil⟩ wl.drew hj' (by omega)
        refine ⟨fn, tmps, asg, body, hy, RoundIn.mono hR ?_⟩
        rintro e' W' (⟨rfl, hJ', hk⟩ | ⟨rfl, hJ'⟩)
        · have g0 := hk ⟨q, 0, none⟩ _ hqr d0
          have g1 := hk ⟨b, 0, none⟩ _ hbr d1
          have g2 := hk ⟨b, 1, none⟩ _ hbr d2
          simp only [yR]
          simp -dsimp -implicitDefEqProofs only [k3, k0, k1, g0, g1, g2, ha, m60, sF60, Nat.reduceEqDiff, ↓reduceIte, Nat.reduceAdd, Nat.reduceMul, Value.cells, Value.oneCell', eq_self, ne_eq, Int.reduceToNat, Int.reduceEq, Int.reduceLT, Int.reduceLE, Int.reduceNeg, if_true, if_false, reduceCtorEq, Nat.reduceSub, storeV_ptr, slcV_slice, ↓mwD, mwU]
          refine ⟨⟨i + ln, xs ++ [⟨i, hil⟩], by simp; omega, by omega, rfl, hJ', fun j hjn => ?_⟩, by simp only [intOf]; omega⟩
          rw [cntP_snoc, hcn j hjn]
          simp only
          split <;> split <;> split <;> omega
        · simp only [yR]
          simp -dsimp -implicitDefEqProofs only [k3, k0, k1, m60, sF60, Nat.reduceEqDiff, ↓reduceIte, Nat.reduceAdd, Nat.reduceMul, Value.cells, Value.oneCell', eq_self, ne_eq, Int.reduceToNat, Int.reduceEq, Int.reduceLT, Int.reduceLE, Int.reduceNeg, if_true, if_false, reduceCtorEq, Nat.reduceSub, storeV_ptr, slcV_slice, ↓mwD, mwU]
          exact .inr ⟨_, hJ'⟩
      · simp -dsimp -implicitDefEqProofs only [k3, k0, k1, m60, sF60, Nat.reduceEqDiff, ↓reduceIte, Nat.reduceAdd, Nat.reduceMul, Value.cells, Value.oneCell', eq_self, ne_eq, Int.reduceToNat, Int.reduceEq, Int.reduceLT, Int.reduceLE, Int.reduceNeg, if_true, if_false, reduceCtorEq, Nat.reduceSub, storeV_ptr, slcV_slice, ↓mwD, mwU]
        refine .inl ⟨xs, fun j hjn => ?_, hj⟩
        rw [hcn j hjn, if_pos (by omega)]
  have ea : (#[.func (.yield l) #[] #[]] ++ #[.pointer (some ⟨q, 0, none⟩)] : Array Value) = #[.func (.yield l) #[] #[], .pointer (some ⟨q, 0, none⟩)] := rfl
  rw [ea]
  unfold Rets at main
  exact Calls.mono main fun e w' ⟨v, he, hq⟩ => ⟨⟨v, he⟩, hq⟩
end Go.Proofs.Ytefcfnmmpnjjjaa

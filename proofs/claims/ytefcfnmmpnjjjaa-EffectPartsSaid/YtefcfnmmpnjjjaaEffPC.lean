/- A filter's parts run. -/
import Derived.Test.YtefcfnmmpnjjjaaEffPB
namespace Go.Proofs.Ytefcfnmmpnjjjaa
open Go.RowKit
set_option linter.unusedSimpArgs false

def mkD (D : Nat) : Deferred := { target := .collected D, args := #[] }

theorem endW_nil {P : Program} {rs : List ResultVar} {e : Env} {w : World} {Q : Value → World → Prop} : endW P rs [] e w Q = resW P rs e w fun v => Q v w := by with_unfolding_all rfl
theorem endW_cons {P : Program} {rs : List ResultVar} {d : Deferred} {ds : List Deferred} {e : Env} {w : World} {Q : Value → World → Prop} : endW P rs (d :: ds) e w Q = ∃ r w', d.target = .collected r ∧ (Instr.takeDeferred r).run P w = .ok [] w' ∧ endW P rs ds e w' Q := by with_unfolding_all rfl

theorem endW_marks {rs : List ResultVar} {e : Env} {Q : Value → World → Prop} : ∀ (Ds : List Nat) (w : World), (∀ D ∈ Ds, w.heap[D]? = some (.deferred (some []))) → Ds.Nodup → (∀ w', Fr Ds w w' → resW Go.Proofs.Try.prog rs e w' fun v => Q v w') → endW Go.Proofs.Try.prog rs (Ds.map mkD) e w Q
  | [], w, _, _, h => by
    rw [List.map_nil, endW_nil]
    exact h w (Fr.refl _ _)
  | D :: Ds, w, hD, hn, h => by
    rw [List.map_cons, endW_cons]
    have h0 := hD D (by simp)
    rw [List.nodup_cons] at hn
    refine ⟨D, _, rfl, run_takeDeferred h0, endW_marks Ds _ (fun D' hD' => ?_) hn.2 fun w' hw' => h w' ?_⟩
    · rw [World.putObj_heap_other (fun e => hn.1 (by rw [← e]; exact hD'))]
      exact hD D' (by simp [hD'])
    · refine Fr.trans (b := w.putObj D (.deferred none)) ⟨rfl, rfl, rfl, by simp, fun k hk => World.putObj_heap_other (fun e => hk (by simp [e]))⟩ (hw'.mono fun b hb => by simp [hb])

theorem setPs_two (e : Env) (p q : Nat) (v u : Value) : setPs e [p, q] [v, u] = upd (upd e p v) q u := rfl

theorem PAt.ext {w w' : World} {b tb to cap r a : Nat} {T : List Int} {len : Int} {f : Nat → Int} (h : PAt w b tb to cap r T len a f) (he : Ext w w') : PAt w' b tb to cap r T len a f := by
  obtain ⟨h1, h2, ⟨pend, h3, h4⟩, h5, h6, h7⟩ := h
  exact ⟨h1.ext he, SlI.ext h2 he, ⟨pend, h3.ext he, h4⟩, h5, h6, h7⟩

/-- What stands in the places while one sample goes through the parts. -/
def mixF (T h : List Int) (x : Int) {n : Nat} (ln : Nat) (pre : List (Fin n)) (j : Nat) : Int := dotI (T.drop (j + 1)) h + x * T.getD j 0 * cntP ln pre j

theorem PRun_c {w : World} {b tb to cap r ln a : Nat} {T h L : List Int} {lv : Value} (hp : PAt w b tb to cap r T ln a (fun j => dotI (T.drop (j + 1)) h)) (hL : SlI w lv L) (h1 : 1 ≤ ln) (h2 : ln ≤ 512) (hn0 : 1 ≤ T.length) (hn : T.length ≤ 512) (hTb : ∀ t ∈ T, -65536 ≤ t ∧ t ≤ 65536)
    (hs : Smps h) (hd : L ≠ [] → ∀ q, lv.ownBlock = some q → q ≠ b ∧ q ≠ r) :
    Rets Go.Proofs.Try.prog 21 #[.pointer (some ⟨b, 0, none⟩), lv] w fun v w' => if samplesB L = true then ∃ o a', v = .tuple #[o, .int .i64 0] ∧ SlI w' o (filtL T h L) ∧ PAt w' b tb to cap r T ln a' (fun j => dotI (T.drop (j + 1)) (L.reverse ++ h)) ∧
      ChP (fun q => q = b ∨ q = r) w w' ∧ (∀ q, o.ownBlock = some q → w.heap.size ≤ q) else v = .tuple #[.slice none 0 0, .int .i64 1] ∧ Ext w w' := by
  obtain ⟨p, cl, rfl, hl1, hl2⟩ := hL.shape
  refine enM21 ?_
  simp -dsimp -implicitDefEqProofs only [m21, sF21, Nat.reduceEqDiff, ↓reduceIte, Nat.reduceAdd, Nat.reduceMul, Value.cells, Value.oneCell', eq_self, ne_eq, Int.reduceToNat, Int.reduceEq, Int.reduceLT, Int.reduceLE, Int.reduceNeg, if_true, if_false, reduceCtorEq, Nat.reduceSub, storeV_ptr, slcV_slice, ↓mwD, mwU]
  generalize hW0 : World.alloc w _ = W0
  have x0 : Ext w W0 := by rw [← hW0]; exact Ext.alloc _ _
  have e0 : Bk W0 w.heap.size [.pointer (some ⟨b, 0, none⟩)] 34 := by rw [← hW0]; exact Bk.new _ _ _
  have z0 : W0.heap.size = w.heap.size + 1 := by rw [← hW0]; simp
  refine (samples_c _ L W0 (SlI.ext hL x0)).use ?_
  rintro rr w' ⟨rfl, hww⟩
  obtain rfl := hww.symm
  cases hsm : samplesB L
  · simp -dsimp -implicitDefEqProofs only [m21, sF21, Nat.reduceEqDiff, ↓reduceIte, Nat.reduceAdd, Nat.reduceMul, Value.cells, Value.oneCell', eq_self, ne_eq, Int.reduceToNat, Int.reduceEq, Int.reduceLT, Int.reduceLE, Int.reduceNeg, if_true, if_false, reduceCtorEq, Nat.reduceSub, storeV_ptr, slcV_slice, ↓mwD, mwU]
    rw [show ([] : List Deferred) = ([] : List Nat).map mkD from rfl]
    refine endW_marks _ _ (fun _ h => by cases h) List.nodup_nil fun w' hf => ?_
    simp -dsimp -implicitDefEqProofs only [m21, sF21, Nat.reduceEqDiff, ↓reduceIte, Nat.reduceAdd, Nat.reduceMul, Value.cells, Value.oneCell', eq_self, ne_eq, Int.reduceToNat, Int.reduceEq, Int.reduceLT, Int.reduceLE, Int.reduceNeg, if_true, if_false, reduceCtorEq, Nat.reduceSub, storeV_ptr, slcV_slice, ↓mwD, mwU]
    exact x0.trans (hf.ext (Ext.refl _) (fun _ h => by cases h))
  obtain ⟨hlen, hsmp⟩ := samples_smps hsm
  have c0 := e0.get (o := 0) rfl
  have d2 := (hp.bk.ext x0).get (o := 2) rfl
  simp -dsimp -implicitDefEqProofs only [c0, d2, m21, sF21, Nat.reduceEqDiff, ↓reduceIte, Nat.reduceAdd, Nat.reduceMul, Value.cells, Value.oneCell', eq_self, ne_eq, Int.reduceToNat, Int.reduceEq, Int.reduceLT, Int.reduceLE, Int.reduceNeg, if_true, if_false, reduceCtorEq, Nat.reduceSub, storeV_ptr, slcV_slice, ↓mwD, mwU]
  generalize hW1 : World.alloc W0 _ = W1
  have x1 : Ext W0 W1 := by rw [← hW1]; exact Ext.alloc _ _
  have e1 : Bk W1 W0.heap.size [.int .i64 T.length] 3 := by rw [← hW1]; exact Bk.new _ _ _
  have z1 : W1.heap.size = W0.heap.size + 1 := by rw [← hW1]; simp
  have x01 := x0.trans x1
  have bl := hp.bk.lt
  have rl : r < w.heap.size := by obtain ⟨pend, h3, _⟩ := hp.pend; exact h3.lt
  have e0' := e0.ext x1
  refine mwpB_loop (fun e ds wl => ∃ (n a' : Nat) (Ds : List Nat), n ≤ L.length ∧ e 28 = .int .i64 n ∧ e 27 = .int .i64 L.length ∧ e 26 = .slice p L.length cl ∧ e 2 = .pointer (some ⟨w.heap.size, 0, none⟩) ∧ e 7 = .pointer (some ⟨W0.heap.size, 0, none⟩) ∧ ds = Ds.map mkD ∧ Ds.Nodup ∧
    (∀ D ∈ Ds, W1.heap.size ≤ D ∧ wl.heap[D]? = some (.deferred (some []))) ∧ ChP (fun q => q = b ∨ q = r) W1 wl ∧ PAt wl b tb to cap r T ln a' (fun j => dotI (T.drop (j + 1)) ((L.take n).reverse ++ h)) ∧ wl.ownsRow W1.heap.size 3 1 (e 6) n (ints (filtL T h (L.take n)))) (fun e _ => L.length - (intOf (e 28)).toNat) ?_ ?_
  · simp -dsimp -implicitDefEqProofs only [m21, sF21, Nat.reduceEqDiff, ↓reduceIte, Nat.reduceAdd, Nat.reduceMul, Value.cells, Value.oneCell', eq_self, ne_eq, Int.reduceToNat, Int.reduceEq, Int.reduceLT, Int.reduceLE, Int.reduceNeg, if_true, if_false, reduceCtorEq, Nat.reduceSub, storeV_ptr, slcV_slice, ↓mwD, mwU]
    exact ⟨0, a, [], by omega, rfl, rfl, List.nodup_nil, (fun D hD => by cases hD), ChP.refl _ _, by simpa using hp.ext x01, World.ownsRow_nil _ _ _ _⟩
  · rintro e ds wl ⟨n, a', Ds, hnl', k28, k27, k26, k2, k7, rfl, hnd, hDs, hch, hpa, hown⟩
    simp -dsimp -implicitDefEqProofs only [k28, k27, k26, k2, k7, m21, sF21, Nat.reduceEqDiff, ↓reduceIte, Nat.reduceAdd, Nat.reduceMul, Value.cells, Value.oneCell', eq_self, ne_eq, Int.reduceToNat, Int.reduceEq, Int.reduceLT, Int.reduceLE, Int.reduceNeg, if_true, if_false, reduceCtorEq, Nat.reduceSub, storeV_ptr, slcV_slice, ↓mwD, mwU]
    refine iteW_dec (fun hlt => ?_) (fun hge => ?_)
    · have hnl : n < L.length := by omega
      obtain ⟨bl', ol, cl', hv, hcl⟩ := hL.some (by omega)
      cases hv
      have hdl := hd (by rintro rfl; simp at hnl) bl' rfl
      have bll : bl' < w.heap.size := World.block_lt_of_cell? w _ (hcl n L[n] (by simp [hnl]))
      have cn : wl.cell? ⟨bl', ol + n, none⟩ = some (.int .i64 L[n]) := hch.cell (fun h => h.elim hdl.1 hdl.2) (x01.cell (hcl n _ (by simp [hnl])))
      have hb1 : (0 : Int) ≤ n ∧ (n : Int) < L.length := by omega
      have hw1 : IntKind.i64.wrap ((n : Int) + 1) = ((n + 1 : Nat) : Int) := by rw [w64 (by omega) (by omega)]; omega
      have f0 : Bk wl w.heap.size [.pointer (some ⟨b, 0, none⟩)] 34 := hch.bk (by rintro (h | h) <;> omega) e0'
      have f1 : Bk wl W0.heap.size [.int .i64 T.length] 3 := hch.bk (by rintro (h | h) <;> omega) e1
      have g0 := f0.get (o := 0) rfl
      have hx : Smp L[n] := hsmp L[n] (by simp)
      have hsh : Smps ((L.take n).reverse ++ h) := fun y hy => by
        rcases List.mem_append.1 hy with h' | h'
        · exact hsmp y (List.mem_of_mem_take (List.mem_reverse.1 h'))
        · exact hs y h'
      have ztl : W1.heap.size ≤ wl.heap.size := hch.size
      simp -dsimp -implicitDefEqProofs only [k28, k27, k26, k2, k7, hb1, and_self, cn, g0, m21, sF21, Nat.reduceEqDiff, ↓reduceIte, Nat.reduceAdd, Nat.reduceMul, Value.cells, Value.oneCell', eq_self, ne_eq, Int.reduceToNat, Int.reduceEq, Int.reduceLT, Int.reduceLE, Int.reduceNeg, if_true, if_false, reduceCtorEq, Nat.reduceSub, storeV_ptr, slcV_slice, ↓mwD, mwU]
      generalize hA : World.alloc wl _ = wA
      have xA : Ext wl wA := by rw [← hA]; exact Ext.alloc _ _
      have eA : Bk wA wl.heap.size [.int .i64 L[n]] 3 := by rw [← hA]; exact Bk.new _ _ _
      have zA : wA.heap.size = wl.heap.size + 1 := by rw [← hA]; simp
      have g0A := xA.cell g0
      simp -dsimp -implicitDefEqProofs only [g0A, m21, sF21, Nat.reduceEqDiff, ↓reduceIte, Nat.reduceAdd, Nat.reduceMul, Value.cells, Value.oneCell', eq_self, ne_eq, Int.reduceToNat, Int.reduceEq, Int.reduceLT, Int.reduceLE, Int.reduceNeg, if_true, if_false, reduceCtorEq, Nat.reduceSub, storeV_ptr, slcV_slice, ↓mwD, mwU]
      refine (parts_c _ wA).use ?_
      rintro rv wB' ⟨rfl, hww⟩
      subst hww
      generalize hB : World.alloc wA _ = wB
      have xB : Ext wA wB := by rw [← hB]; exact Ext.alloc _ _
      have eB : Bk wB wA.heap.size [.pointer (some ⟨b, 0, none⟩)] 34 := by rw [← hB]; exact Bk.new _ _ _
      have zB : wB.heap.size = wA.heap.size + 1 := by rw [← hB]; simp
      have xAB := xA.trans xB
      have hpB := hpa.ext xAB
      simp -dsimp -implicitDefEqProofs only [m21, sF21, Nat.reduceEqDiff, ↓reduceIte, Nat.reduceAdd, Nat.reduceMul, Value.cells, Value.oneCell', eq_self, ne_eq, Int.reduceToNat, Int.reduceEq, Int.reduceLT, Int.reduceLE, Int.reduceNeg, if_true, if_false, reduceCtorEq, Nat.reduceSub, storeV_ptr, slcV_slice, ↓mwD, mwU]
      generalize hE : updO _ (some 33) _ = E0
      have q33 : E0 33 = .func (.func 60) #[] #[.pointer (some ⟨wA.heap.size, 0, none⟩)] := by rw [← hE]; rfl
      have q2 : E0 2 = .pointer (some ⟨w.heap.size, 0, none⟩) := by rw [← hE]; exact k2
      have q7 : E0 7 = .pointer (some ⟨W0.heap.size, 0, none⟩) := by rw [← hE]; exact k7
      have q9 : E0 9 = .pointer (some ⟨wl.heap.size, 0, none⟩) := by rw [← hE]; rfl
      have q28 : E0 28 = .int .i64 n := by rw [← hE]; exact k28
      have q27 : E0 27 = .int .i64 L.length := by rw [← hE]; exact k27
      have q26 : E0 26 = .slice (some ⟨bl', ol, none⟩) L.length cl := by rw [← hE]; exact k26
      have q6 : E0 6 = e 6 := by rw [← hE]; rfl
      clear hE
      have hbB := hpB.bk
      obtain ⟨pend0, hr0, hrp0⟩ := hpB.pend
      have han := hrp0.2.1
      have hblt := hbB.lt
      have hcap : T.length ≤ cap := by obtain ⟨p', c', he', h1', _⟩ := hpB.taps.shape; cases he'; exact h1'
      obtain ⟨bt', ot', ct', hvt, hct⟩ := hpB.taps.some (by omega)
      simp only [Value.slice.injEq, Option.some.injEq, Addr.mk.injEq, and_true, true_and] at hvt
      obtain ⟨⟨rfl, rfl⟩, rfl⟩ := hvt
      refine mwpB_rf follows_mo rfE21_0 okra21_0 okrb21_0 stra21_0 strb21_0 (by rw [ev_tmp]; exact q33) okF_60
        (parts1_seq (r := r) h1 h2 hn hcap hpB.br (by omega) (eB.get (o := 0) rfl) (hbB.get (o := 0) rfl) (hbB.get (o := 1) rfl)) Kp.trans (fun W l o o' _ h1 h2 => Kp.put W l o o' h1 h2) (fun _ => rfl)
        (fun pre W => ChP (fun q => q = r) wB W ∧ ∃ pend, Bk W r (ints pend) 3 ∧ RP pend a' T.length (mixF T ((L.take n).reverse ++ h) L[n] ln pre)) ?_ ?_
        (fun i => upd (upd (upd (upd E0 34 (.int .i64 i.val)) 35 (.slice (some ⟨tb, to + i.val, none⟩) (min (i.val + ln) T.length - i.val) (cap - i.val))) 10 (.int .i64 i.val)) 11 (.slice (some ⟨tb, to + i.val, none⟩) (min (i.val + ln) T.length - i.val) (cap - i.val))) ?_ ?_ ?_
      · rintro s W W' row ⟨hc, pend, hb, hrp⟩ hg hr
        refine ⟨hc.grown hg (fun k hk => (hr k hk).1), pend, ?_, hrp⟩
        unfold Bk at hb ⊢
        rw [hg.block r (Bk.lt hb) (fun e => by have := (hr r e.symm).1; omega)]
        exact hb
      · exact ⟨ChP.refl _ _, pend0, hr0, hrp0.congr fun j _ => by simp [mixF, cntP]⟩
      · intro i W
        show mwpB _ _ (setPs E0 [34, 35] [_, _]) _ _ _ _ _ _ _
        rw [setPs_two]
        simp -dsimp -implicitDefEqProofs only [mra21_0, m21, sF21, Nat.reduceEqDiff, ↓reduceIte, Nat.reduceAdd, Nat.reduceMul, Value.cells, Value.oneCell', eq_self, ne_eq, Int.reduceToNat, Int.reduceEq, Int.reduceLT, Int.reduceLE, Int.reduceNeg, if_true, if_false, reduceCtorEq, Nat.reduceSub, storeV_ptr, slcV_slice, ↓mwD, mwU]
        rfl
      · rintro pre i W ⟨hc, pend, hb, hrp⟩ hlen
        have hil := i.isLt
        generalize hpl : min (i.val + ln) T.length - i.val = pl
        have hpl1 : i.val + pl ≤ T.length := by omega
        have hW2 : W.cell? ⟨w.heap.size, 0, none⟩ = some (.pointer (some ⟨b, 0, none⟩)) := hc.cell (show ¬ w.heap.size = r by omega) (xAB.cell g0)
        have hW7 : W.cell? ⟨W0.heap.size, 0, none⟩ = some (.int .i64 T.length) := hc.cell (show ¬ W0.heap.size = r by omega) (xAB.cell (f1.get (o := 0) rfl))
        have hW9 : W.cell? ⟨wl.heap.size, 0, none⟩ = some (.int .i64 L[n]) := hc.cell (show ¬ wl.heap.size = r by omega) (xB.cell (eA.get (o := 0) rfl))
        have hWb2 : W.cell? ⟨b, 2, none⟩ = some (.slice (some ⟨r, 0, none⟩) T.length T.length) := hc.cell hpB.br (hbB.get (o := 2) rfl)
        have hWb3 : W.cell? ⟨b, 3, none⟩ = some (.int .i64 a') := hc.cell hpB.br (hbB.get (o := 3) rfl)
        have hTl : (T.length : Int) ≠ 0 := by omega
        simp -dsimp -implicitDefEqProofs only [mrb21_0, m21, sF21, Nat.reduceEqDiff, ↓reduceIte, Nat.reduceAdd, Nat.reduceMul, Value.cells, Value.oneCell', eq_self, ne_eq, Int.reduceToNat, Int.reduceEq, Int.reduceLT, Int.reduceLE, Int.reduceNeg, if_true, if_false, reduceCtorEq, Nat.reduceSub, storeV_ptr, slcV_slice, ↓mwD, mwU]
        refine mwpB_loop (fun e' df wk => ∃ k : Nat, k ≤ pl ∧ e' 38 = .int .i64 k ∧ e' 37 = .int .i64 pl ∧ e' 36 = .slice (some ⟨tb, to + i.val, none⟩) pl (cap - i.val) ∧ e' 10 = .int .i64 i.val ∧ e' 2 = .pointer (some ⟨w.heap.size, 0, none⟩) ∧ e' 7 = .pointer (some ⟨W0.heap.size, 0, none⟩) ∧
          e' 9 = .pointer (some ⟨wl.heap.size, 0, none⟩) ∧ df = [] ∧ Fr [r] W wk ∧ ∃ pend, Bk wk r (ints pend) 3 ∧ RP pend a' T.length (fun j => mixF T ((L.take n).reverse ++ h) L[n] ln pre j + if i.val ≤ j ∧ j < i.val + k then L[n] * T.getD j 0 else 0)) (fun e _ => pl - (intOf (e 38)).toNat) ?_ ?_
        · simp -dsimp -implicitDefEqProofs only [q2, q7, q9, m21, sF21, Nat.reduceEqDiff, ↓reduceIte, Nat.reduceAdd, Nat.reduceMul, Value.cells, Value.oneCell', eq_self, ne_eq, Int.reduceToNat, Int.reduceEq, Int.reduceLT, Int.reduceLE, Int.reduceNeg, if_true, if_false, reduceCtorEq, Nat.reduceSub, storeV_ptr, slcV_slice, ↓mwD, mwU]
          exact ⟨0, by omega, rfl, Fr.refl _ _, pend, hb, hrp.congr fun j _ => by rw [if_neg (by omega), Int.add_zero]⟩
        · rintro e' df wk ⟨k, hk, m38, m37, m36, m10, m2, m7, m9, rfl, hfr, pend', hb', hrp'⟩
          simp -dsimp -implicitDefEqProofs only [m38, m37, m36, m10, m2, m7, m9, m21, sF21, Nat.reduceEqDiff, ↓reduceIte, Nat.reduceAdd, Nat.reduceMul, Value.cells, Value.oneCell', eq_self, ne_eq, Int.reduceToNat, Int.reduceEq, Int.reduceLT, Int.reduceLE, Int.reduceNeg, if_true, if_false, reduceCtorEq, Nat.reduceSub, storeV_ptr, slcV_slice, ↓mwD, mwU]
          refine iteW_dec (fun hklt => ?_) (fun hkge => ?_)
          · have hkl : k < pl := by omega
            have hjT : i.val + k < T.length := by omega
            have kp : ∀ (bb o : Nat) (v : Value), bb ≠ r → W.cell? ⟨bb, o, none⟩ = some v → wk.cell? ⟨bb, o, none⟩ = some v := fun bb o v hne hv => by rw [hfr.cell (by simpa using hne)]; exact hv
            have y2 := kp _ _ _ (by omega) hW2
            have y7 := kp _ _ _ (by omega) hW7
            have y9 := kp _ _ _ (by omega) hW9
            have yb2 := kp _ _ _ hpB.br hWb2
            have yb3 := kp _ _ _ hpB.br hWb3
            have yt : wk.cell? ⟨tb, to + i.val + k, none⟩ = some (.int .i64 T[i.val + k]) := kp _ _ _ hpB.tbr (hc.cell hpB.tbr (by rw [Nat.add_assoc]; exact hct (i.val + k) T[i.val + k] (by simp [hjT])))
            have hix := ringIx_lt han hjT
            have hrj := hrp'.2.2 (i.val + k) hjT
            dsimp only at hrj
            rw [if_neg (by omega), Int.add_zero] at hrj
            have yr := hb'.get (o := ringIx T.length a' (i.val + k)) (v := .int .i64 (mixF T ((L.take n).reverse ++ h) L[n] ln pre (i.val + k))) (by simp [ints, hrj])
            have b1 : (0 : Int) ≤ k ∧ (k : Int) < pl := by omega
            have w1 : IntKind.i64.wrap ((a' : Int) + i.val) = ((a' + i.val : Nat) : Int) := by rw [w64 (by omega) (by omega)]; omega
            have w2 : IntKind.i64.wrap (((a' + i.val : Nat) : Int) + k) = ((a' + (i.val + k) : Nat) : Int) := by rw [w64 (by omega) (by omega)]; omega
            have hrem : Int.tmod ((a' + (i.val + k) : Nat) : Int) T.length = (ringIx T.length a' (i.val + k) : Nat) := by rw [Int.natCast_add]; exact tmod_ring han hjT
            have b2 : (0 : Int) ≤ (ringIx T.length a' (i.val + k) : Nat) ∧ ((ringIx T.length a' (i.val + k) : Nat) : Int) < T.length := by omega
            have hTj := hTb T[i.val + k] (by simp)
            have hmb := tx_bd hTj hx
            have w3 : IntKind.i64.wrap (T[i.val + k] * L[n]) = T[i.val + k] * L[n] := w64 (by omega) (by omega)
            have hgD : T.getD (i.val + k) 0 = T[i.val + k] := by rw [List.getD_eq_getElem?_getD, List.getElem?_eq_getElem hjT]; rfl
            have hmx : -563499641800000 ≤ mixF T ((L.take n).reverse ++ h) L[n] ln pre (i.val + k) ∧ mixF T ((L.take n).reverse ++ h) L[n] ln pre (i.val + k) ≤ 563499641800000 := by
              have d1 := dotI_bd (T.drop (i.val + k + 1)) ((L.take n).reverse ++ h) 512 (fun t ht => hTb t (List.mem_of_mem_drop ht)) hsh (by simp; omega)
              have d2 := mul_bd (D := 549755748352) (K := 512) (d := L[n] * T[i.val + k]) (k := (cntP ln pre (i.val + k) : Nat)) (by rw [Int.mul_comm]; omega) (by rw [Int.mul_comm]; omega) (by omega) (by have := cntP_le ln pre (i.val + k); omega) (by omega)
              unfold mixF
              rw [hgD]
              omega
            have w4 : IntKind.i64.wrap (mixF T ((L.take n).reverse ++ h) L[n] ln pre (i.val + k) + T[i.val + k] * L[n]) = mixF T ((L.take n).reverse ++ h) L[n] ln pre (i.val + k) + T[i.val + k] * L[n] := w64 (by omega) (by omega)
            have w5 : IntKind.i64.wrap ((k : Int) + 1) = ((k + 1 : Nat) : Int) := by rw [w64 (by omega) (by omega)]; omega
            simp -dsimp -implicitDefEqProofs only [m38, m37, m36, m10, m2, m7, m9, b1, and_self, yt, m21, sF21, Nat.reduceEqDiff, ↓reduceIte, Nat.reduceAdd, Nat.reduceMul, Value.cells, Value.oneCell', eq_self, ne_eq, Int.reduceToNat, Int.reduceEq, Int.reduceLT, Int.reduceLE, Int.reduceNeg, if_true, if_false, reduceCtorEq, Nat.reduceSub, storeV_ptr, slcV_slice, ↓mwD, mwU]
            refine mwpB_drawE ?_
            simp -dsimp -implicitDefEqProofs only [m38, m37, m36, m10, m2, m7, m9, y2, y7, y9, yb2, yb3, w1, w2, hrem, hTl, b2, and_self, yr, w3, w4, hb'.drew.frozen, w5, m21, sF21, Nat.reduceEqDiff, ↓reduceIte, Nat.reduceAdd, Nat.reduceMul, Value.cells, Value.oneCell', eq_self, ne_eq, Int.reduceToNat, Int.reduceEq, Int.reduceLT, Int.reduceLE, Int.reduceNeg, if_true, if_false, reduceCtorEq, Nat.reduceSub, storeV_ptr, slcV_slice, ↓mwD, mwU]
            refine ⟨⟨k + 1, by omega, rfl, hfr.drew.setCell (by simp) _, pend'.set (ringIx T.length a' (i.val + k)) _, by rw [← ints_set]; exact hb'.drew.set _ _, (hrp'.set hjT _).congr fun j _ => ?_⟩, by simp only [intOf]; omega⟩
            by_cases hjk : j = i.val + k
            · subst hjk
              rw [if_pos rfl, if_pos (by omega), hgD, Int.mul_comm]
            · rw [if_neg hjk]
              by_cases hin : i.val ≤ j ∧ j < i.val + k
              · rw [if_pos hin, if_pos (by omega)]
              · rw [if_neg hin, if_neg (by omega)]
          · have hkp : k = pl := by omega
            subst hkp
            simp -dsimp -implicitDefEqProofs only [m38, m37, m36, m10, m2, m7, m9, m21, sF21, Nat.reduceEqDiff, ↓reduceIte, Nat.reduceAdd, Nat.reduceMul, Value.cells, Value.oneCell', eq_self, ne_eq, Int.reduceToNat, Int.reduceEq, Int.reduceLT, Int.reduceLE, Int.reduceNeg, if_true, if_false, reduceCtorEq, Nat.reduceSub, storeV_ptr, slcV_slice, ↓mwD, mwU]
            refine ⟨⟨Nat.le_of_eq hfr.size.symm, fun kk o hko hoc => ?_⟩, fun ad v hne hv => by rw [hfr.cell (by simpa using hne)]; exact hv, hc.trans (Fr.frp hfr (fun q hq => by simpa using hq)).chp, pend', hb', hrp'.congr fun j hj => ?_⟩
            · by_cases hkr : kk = r
              · subst hkr
                unfold Bk at hb
                rw [hb] at hko
                cases hko
                simp [Obj.isCells] at hoc
              · rw [hfr.block kk (by simpa using hkr)]; exact hko
            · unfold mixF
              rw [cntP_snoc]
              by_cases hin : i.val ≤ j ∧ j < i.val + ln
              · rw [if_pos (by omega), if_pos hin, Int.natCast_add, Int.mul_add]; simp; omega
              · rw [if_neg (by omega), if_neg hin]; simp
      · rintro D xs W hD hS ⟨hc, pend, hb, hrp⟩ hDk
        have hDW : D < W.heap.size := (Array.getElem?_eq_some_iff.1 hDk).1
        have hf : ∀ j, j < T.length → mixF T ((L.take n).reverse ++ h) L[n] ln xs j = dotI (T.drop j) (L[n] :: ((L.take n).reverse ++ h)) := fun j hj => by
          rw [dotI_cons T j T[j] L[n] _ (by simp [hj]), mixF, hS j hj, List.getD_eq_getElem?_getD, List.getElem?_eq_getElem hj]
          simp [Int.mul_comm]
        have hrp1 := hrp.congr hf
        have keepW : ∀ kk, kk < wl.heap.size → kk ≠ r → W.heap[kk]? = wl.heap[kk]? := fun kk h1 h2 => by rw [hc.block kk (by omega) h2, xAB.block kk h1]
        have hW2 : W.cell? ⟨w.heap.size, 0, none⟩ = some (.pointer (some ⟨b, 0, none⟩)) := hc.cell (show ¬ w.heap.size = r by omega) (xAB.cell g0)
        have fW7 : Bk W W0.heap.size [.int .i64 T.length] 3 := hc.bk (by omega) (f1.ext xAB)
        have hbW : Bk W b [.slice (some ⟨tb, to, none⟩) T.length cap, .int .i64 ln, .slice (some ⟨r, 0, none⟩) T.length T.length, .int .i64 a'] 64 := hc.bk hpB.br hbB
        have hWb2 := hbW.get (o := 2) rfl
        have hWb3 := hbW.get (o := 3) rfl
        have hr00 := hrp1.2.2 0 (by omega)
        dsimp only at hr00
        rw [ringIx_zero han, List.drop_zero] at hr00
        generalize hX : dotI T (L[n] :: ((L.take n).reverse ++ h)) = X at *
        have hWr := hb.get (o := a') (v := .int .i64 X) (by simp [ints, hr00, hX])
        have hXb : -281474943156224 ≤ X ∧ X ≤ 281474943156224 := by
          rw [← hX]
          exact dotI_bd T _ 512 hTb (fun y hy => by rcases List.mem_cons.1 hy with rfl | hy <;> first | exact hx | exact hsh y hy) (by omega)
        have ba : (0 : Int) ≤ a' ∧ (a' : Int) < T.length := by omega
        have hown1 : W.ownsRow W1.heap.size 3 1 (e 6) n (ints (filtL T h (L.take n))) := Own.same' hown fun kk hk => by
          have := World.ownsRow.lt hown kk hk
          exact keepW kk this.2 (by omega)
        have hl6 := World.ownsRow.lt hown1
        simp -dsimp -implicitDefEqProofs only [q2, m21, sF21, Nat.reduceEqDiff, ↓reduceIte, Nat.reduceAdd, Nat.reduceMul, Value.cells, Value.oneCell', eq_self, ne_eq, Int.reduceToNat, Int.reduceEq, Int.reduceLT, Int.reduceLE, Int.reduceNeg, if_true, if_false, reduceCtorEq, Nat.reduceSub, storeV_ptr, slcV_slice, ↓mwD, mwU]
        refine mwpB_draw (fun w' => w'.cell? ⟨w.heap.size, 0, none⟩ = some (.pointer (some ⟨b, 0, none⟩)) ∧ w'.cell? ⟨b, 2, none⟩ = some (.slice (some ⟨r, 0, none⟩) T.length T.length) ∧ w'.cell? ⟨b, 3, none⟩ = some (.int .i64 a') ∧ w'.cell? ⟨r, a', none⟩ = some (.int .i64 X)) ⟨hW2, hWb2, hWb3, hWr⟩ ?_
        simp -dsimp -implicitDefEqProofs only [q2, q6, q7, q9, m21, sF21, Nat.reduceEqDiff, ↓reduceIte, Nat.reduceAdd, Nat.reduceMul, Value.cells, Value.oneCell', eq_self, ne_eq, Int.reduceToNat, Int.reduceEq, Int.reduceLT, Int.reduceLE, Int.reduceNeg, if_true, if_false, reduceCtorEq, Nat.reduceSub, storeV_ptr, slcV_slice, ↓mwD, mwU]
        refine softB_load (v := .pointer (some ⟨b, 0, none⟩)) (fun w' hw => ?_) ?_
        · simp -dsimp -implicitDefEqProofs only [q2, hw.1, m21, sF21, Nat.reduceEqDiff, ↓reduceIte, Nat.reduceAdd, Nat.reduceMul, Value.cells, Value.oneCell', eq_self, ne_eq, Int.reduceToNat, Int.reduceEq, Int.reduceLT, Int.reduceLE, Int.reduceNeg, if_true, if_false, reduceCtorEq, Nat.reduceSub, storeV_ptr, slcV_slice, ↓mwD, mwU]
        simp -dsimp -implicitDefEqProofs only [q2, q6, q7, q9, ba, and_self, m21, sF21, Nat.reduceEqDiff, ↓reduceIte, Nat.reduceAdd, Nat.reduceMul, Value.cells, Value.oneCell', eq_self, ne_eq, Int.reduceToNat, Int.reduceEq, Int.reduceLT, Int.reduceLE, Int.reduceNeg, if_true, if_false, reduceCtorEq, Nat.reduceSub, storeV_ptr, slcV_slice, ↓mwD, mwU]
        refine softB_load (v := .slice (some ⟨r, 0, none⟩) T.length T.length) (fun w' hw => ?_) ?_
        · simp -dsimp -implicitDefEqProofs only [q2, hw.2.1, m21, sF21, Nat.reduceEqDiff, ↓reduceIte, Nat.reduceAdd, Nat.reduceMul, Value.cells, Value.oneCell', eq_self, ne_eq, Int.reduceToNat, Int.reduceEq, Int.reduceLT, Int.reduceLE, Int.reduceNeg, if_true, if_false, reduceCtorEq, Nat.reduceSub, storeV_ptr, slcV_slice, ↓mwD, mwU]
        simp -dsimp -implicitDefEqProofs only [q2, q6, q7, q9, ba, and_self, m21, sF21, Nat.reduceEqDiff, ↓reduceIte, Nat.reduceAdd, Nat.reduceMul, Value.cells, Value.oneCell', eq_self, ne_eq, Int.reduceToNat, Int.reduceEq, Int.reduceLT, Int.reduceLE, Int.reduceNeg, if_true, if_false, reduceCtorEq, Nat.reduceSub, storeV_ptr, slcV_slice, ↓mwD, mwU]
        refine softB_load (v := .pointer (some ⟨b, 0, none⟩)) (fun w' hw => ?_) ?_
        · simp -dsimp -implicitDefEqProofs only [q2, hw.1, m21, sF21, Nat.reduceEqDiff, ↓reduceIte, Nat.reduceAdd, Nat.reduceMul, Value.cells, Value.oneCell', eq_self, ne_eq, Int.reduceToNat, Int.reduceEq, Int.reduceLT, Int.reduceLE, Int.reduceNeg, if_true, if_false, reduceCtorEq, Nat.reduceSub, storeV_ptr, slcV_slice, ↓mwD, mwU]
        simp -dsimp -implicitDefEqProofs only [q2, q6, q7, q9, ba, and_self, m21, sF21, Nat.reduceEqDiff, ↓reduceIte, Nat.reduceAdd, Nat.reduceMul, Value.cells, Value.oneCell', eq_self, ne_eq, Int.reduceToNat, Int.reduceEq, Int.reduceLT, Int.reduceLE, Int.reduceNeg, if_true, if_false, reduceCtorEq, Nat.reduceSub, storeV_ptr, slcV_slice, ↓mwD, mwU]
        refine softB_load (v := .int .i64 a') (fun w' hw => ?_) ?_
        · simp -dsimp -implicitDefEqProofs only [q2, hw.2.2.1, m21, sF21, Nat.reduceEqDiff, ↓reduceIte, Nat.reduceAdd, Nat.reduceMul, Value.cells, Value.oneCell', eq_self, ne_eq, Int.reduceToNat, Int.reduceEq, Int.reduceLT, Int.reduceLE, Int.reduceNeg, if_true, if_false, reduceCtorEq, Nat.reduceSub, storeV_ptr, slcV_slice, ↓mwD, mwU]
        simp -dsimp -implicitDefEqProofs only [q2, q6, q7, q9, ba, and_self, m21, sF21, Nat.reduceEqDiff, ↓reduceIte, Nat.reduceAdd, Nat.reduceMul, Value.cells, Value.oneCell', eq_self, ne_eq, Int.reduceToNat, Int.reduceEq, Int.reduceLT, Int.reduceLE, Int.reduceNeg, if_true, if_false, reduceCtorEq, Nat.reduceSub, storeV_ptr, slcV_slice, ↓mwD, mwU]
        refine softB_load (v := .int .i64 X) (fun w' hw => ?_) ?_
        · simp -dsimp -implicitDefEqProofs only [q2, hw.2.2.2, m21, sF21, Nat.reduceEqDiff, ↓reduceIte, Nat.reduceAdd, Nat.reduceMul, Value.cells, Value.oneCell', eq_self, ne_eq, Int.reduceToNat, Int.reduceEq, Int.reduceLT, Int.reduceLE, Int.reduceNeg, if_true, if_false, reduceCtorEq, Nat.reduceSub, storeV_ptr, slcV_slice, ↓mwD, mwU]
        simp -dsimp -implicitDefEqProofs only [q2, q6, q7, q9, ba, and_self, m21, sF21, Nat.reduceEqDiff, ↓reduceIte, Nat.reduceAdd, Nat.reduceMul, Value.cells, Value.oneCell', eq_self, ne_eq, Int.reduceToNat, Int.reduceEq, Int.reduceLT, Int.reduceLE, Int.reduceNeg, if_true, if_false, reduceCtorEq, Nat.reduceSub, storeV_ptr, slcV_slice, ↓mwD, mwU]
        refine (rounded_c X (by omega) (by omega) W.drew).use ?_
        rintro rv wv ⟨rfl, hww⟩
        subst hww
        refine ⟨⟨hW2, hWb2, hWb3, hWr⟩, ?_⟩
        simp -dsimp -implicitDefEqProofs only [m21, sF21, Nat.reduceEqDiff, ↓reduceIte, Nat.reduceAdd, Nat.reduceMul, Value.cells, Value.oneCell', eq_self, ne_eq, Int.reduceToNat, Int.reduceEq, Int.reduceLT, Int.reduceLE, Int.reduceNeg, if_true, if_false, reduceCtorEq, Nat.reduceSub, storeV_ptr, slcV_slice, ↓mwD, mwU]
        refine (bound_c (rnd X) W.drew).use ?_
        rintro rv wv ⟨rfl, hww⟩
        subst hww
        refine ⟨⟨hW2, hWb2, hWb3, hWr⟩, ?_⟩
        simp -dsimp -implicitDefEqProofs only [bs_one, m21, sF21, Nat.reduceEqDiff, ↓reduceIte, Nat.reduceAdd, Nat.reduceMul, Value.cells, Value.oneCell', eq_self, ne_eq, Int.reduceToNat, Int.reduceEq, Int.reduceLT, Int.reduceLE, Int.reduceNeg, if_true, if_false, reduceCtorEq, Nat.reduceSub, storeV_ptr, slcV_slice, ↓mwD, mwU]
        refine ⟨⟨cell_old hW2 _, cell_old hWb2 _, cell_old hWb3 _, cell_old hWr _⟩, ?_⟩
        have hownd : W.drew.ownsRow W1.heap.size 3 1 (e 6) n (ints (filtL T h (L.take n))) := Own.ext hown1 ((Ext.refl W).drew')
        have hszd : W1.heap.size ≤ W.drew.heap.size := by show W1.heap.size ≤ W.heap.size; have := hc.size; omega
        obtain ⟨v', w7, ha, hown7, hg7⟩ := append_int hownd (bnd (rnd X)) (by omega) hszd
        refine appB.mk ha ?_
        have k7 : ∀ kk, kk < W.heap.size → (∀ q, (e 6).ownBlock = some q → q ≠ kk) → w7.heap[kk]? = W.heap[kk]? := fun kk hk hq =>
          (hg7.block kk (by simp; omega) (fun e => hq kk e.symm rfl)).trans (Below.heap_alloc W.drew _ kk hk)
        have hrW := hb.lt
        have hbWl := hbW.lt
        have kbw := k7 w.heap.size (by omega) (fun q hq => by have := (hl6 q hq).1; omega)
        have kb := k7 b hbWl (fun q hq => by have := (hl6 q hq).1; omega)
        have kr := k7 r hrW (fun q hq => by have := (hl6 q hq).1; omega)
        have k07 := k7 W0.heap.size (by omega) (fun q hq => by have := (hl6 q hq).1; omega)
        have fb7 : Bk w7 b [.slice (some ⟨tb, to, none⟩) T.length cap, .int .i64 ln, .slice (some ⟨r, 0, none⟩) T.length T.length, .int .i64 a'] 64 := show w7.heap[b]? = _ from kb.trans hbW
        have fr7 : Bk w7 r (ints pend) 3 := show w7.heap[r]? = _ from kr.trans hb
        have fz7 : Bk w7 W0.heap.size [.int .i64 T.length] 3 := show w7.heap[_]? = _ from k07.trans fW7
        have u2 : w7.cell? ⟨w.heap.size, 0, none⟩ = _ := (World.cell?_of_block (w := W) kbw).trans hW2
        have ub2 := fb7.get (o := 2) rfl
        have ub3 := fb7.get (o := 3) rfl
        have u7 := fz7.get (o := 0) rfl
        have ur := fr7.get (o := a') (v := .int .i64 X) (by simp [ints, hr00])
        refine ⟨⟨u2, ub2, ub3, ur⟩, ?_⟩
        simp -dsimp -implicitDefEqProofs only [q2, q7, m21, sF21, Nat.reduceEqDiff, ↓reduceIte, Nat.reduceAdd, Nat.reduceMul, Value.cells, Value.oneCell', eq_self, ne_eq, Int.reduceToNat, Int.reduceEq, Int.reduceLT, Int.reduceLE, Int.reduceNeg, if_true, if_false, reduceCtorEq, Nat.reduceSub, storeV_ptr, slcV_slice, ↓mwD, mwU]
        refine mwpB_drawE ?_
        have fW2 : Bk W w.heap.size [.pointer (some ⟨b, 0, none⟩)] 34 := hc.bk (by omega) (f0.ext xAB)
        have fq7 : Bk w7 w.heap.size [.pointer (some ⟨b, 0, none⟩)] 34 := show w7.heap[_]? = _ from kbw.trans fW2
        simp -dsimp -implicitDefEqProofs only [q2, q7, u2, ub2, ub3, ur, Option.isSome_some, ba, and_self, fr7.drew.frozen, m21, sF21, Nat.reduceEqDiff, ↓reduceIte, Nat.reduceAdd, Nat.reduceMul, Value.cells, Value.oneCell', eq_self, ne_eq, Int.reduceToNat, Int.reduceEq, Int.reduceLT, Int.reduceLE, Int.reduceNeg, if_true, if_false, reduceCtorEq, Nat.reduceSub, storeV_ptr, slcV_slice, ↓mwD, mwU]
        generalize hw8 : World.setCell _ _ _ = w8
        have nbw : r ≠ w.heap.size := by omega
        have fq8 : Bk w8 w.heap.size [.pointer (some ⟨b, 0, none⟩)] 34 := by rw [← hw8]; exact fq7.drew.ne nbw _ _
        have fb8 : Bk w8 b [.slice (some ⟨tb, to, none⟩) T.length cap, .int .i64 ln, .slice (some ⟨r, 0, none⟩) T.length T.length, .int .i64 a'] 64 := by rw [← hw8]; exact fb7.drew.ne (Ne.symm hpB.br) _ _
        have fz8 : Bk w8 W0.heap.size [.int .i64 T.length] 3 := by rw [← hw8]; exact fz7.drew.ne (by omega) _ _
        have fr8 : Bk w8 r ((ints pend).set a' (.int .i64 0)) 3 := by rw [← hw8]; exact fr7.drew.set a' (.int .i64 0)
        have h8 : Fr [r] w7 w8 := by rw [← hw8]; exact (Fr.refl _ w7).drew.setCell (by simp) _
        have v2 := fq8.get (o := 0) rfl
        have vb3 := fb8.get (o := 3) rfl
        have v7 := fz8.get (o := 0) rfl
        have w6 : IntKind.i64.wrap ((a' : Int) + 1) = ((a' + 1 : Nat) : Int) := by rw [w64 (by omega) (by omega)]; omega
        have hrem2 : Int.tmod ((a' + 1 : Nat) : Int) T.length = (((a' + 1) % T.length : Nat) : Int) := rfl
        have hTl : (T.length : Int) ≠ 0 := by omega
        refine mwpB_drawE ?_
        simp -dsimp -implicitDefEqProofs only [q2, q7, v2, vb3, v7, w6, hrem2, hTl, fb8.drew.frozen, Option.isSome_some, and_self, m21, sF21, Nat.reduceEqDiff, ↓reduceIte, Nat.reduceAdd, Nat.reduceMul, Value.cells, Value.oneCell', eq_self, ne_eq, Int.reduceToNat, Int.reduceEq, Int.reduceLT, Int.reduceLE, Int.reduceNeg, if_true, if_false, reduceCtorEq, Nat.reduceSub, storeV_ptr, slcV_slice, ↓mwD, mwU]
        simp -dsimp -implicitDefEqProofs only [q28, hw1, m21, sF21, Nat.reduceEqDiff, ↓reduceIte, Nat.reduceAdd, Nat.reduceMul, Value.cells, Value.oneCell', eq_self, ne_eq, Int.reduceToNat, Int.reduceEq, Int.reduceLT, Int.reduceLE, Int.reduceNeg, if_true, if_false, reduceCtorEq, Nat.reduceSub, storeV_ptr, slcV_slice, ↓mwD, mwU]
        generalize hw9 : World.setCell _ _ _ = w9
        have h9 : Fr [b] w8 w9 := by rw [← hw9]; exact (Fr.refl _ w8).drew.setCell (by simp) _
        have fb9 : Bk w9 b [.slice (some ⟨tb, to, none⟩) T.length cap, .int .i64 ln, .slice (some ⟨r, 0, none⟩) T.length T.length, .int .i64 ((a' + 1) % T.length : Nat)] 64 := by rw [← hw9]; exact fb8.drew.set 3 _
        have fr9 : Bk w9 r ((ints pend).set a' (.int .i64 0)) 3 := h9.bk (by simp; exact fun h => hpB.br h.symm) fr8
        have keep9 : ∀ kk, kk < W.heap.size → kk ≠ b → kk ≠ r → (∀ q, (e 6).ownBlock = some q → q ≠ kk) → w9.heap[kk]? = W.heap[kk]? := fun kk h1 h2 h3 h4 => by
          rw [h9.block kk (by simpa using h2), h8.block kk (by simpa using h3), k7 kk h1 h4]
        have ch7 : ChP (fun q => q = b ∨ q = r) W1 w7 := ChP.grown (((hch.trans (Ext.chp xAB)).trans (hc.mono fun q hq => .inr hq)).trans (Ext.chp (((Ext.refl W).drew').alloc' _))) hg7 (fun kk hk => (hl6 kk hk).1)
        have ch9 : ChP (fun q => q = b ∨ q = r) W1 w9 := (ch7.trans (h8.frp (fun q hq => by simp at hq; exact .inr hq)).chp).trans (h9.frp (fun q hq => by simp at hq; exact .inl hq)).chp
        have hl0 := World.ownsRow.lt hown
        have hlv := World.ownsRow.lt hown7
        have tkx : (L.take (n + 1)).reverse ++ h = L[n] :: ((L.take n).reverse ++ h) := by
          rw [List.take_add_one, List.getElem?_eq_getElem hnl, List.reverse_append]; rfl
        have hout : filtL T h (L.take (n + 1)) = filtL T h (L.take n) ++ [bnd (rnd X)] := by
          have e1 : L.take (n + 1) = L.take n ++ [L[n]] := by rw [List.take_add_one, List.getElem?_eq_getElem hnl]; rfl
          rw [e1, filtL_snoc, hX]
        have hcells : ∀ q, (e 6).ownBlock = some q → ∃ o : Obj, wl.heap[q]? = some o ∧ o.isCells = true := fun q hq => by
          rcases hown.2 with ⟨hv, _⟩ | ⟨g, cap, cur, hv, hg, hh, _⟩
          · rw [hv] at hq; simp [Value.ownBlock] at hq
          · rw [hv] at hq; simp only [Value.ownBlock, Option.some.injEq] at hq; subst hq; exact ⟨_, hh, rfl⟩
        refine ⟨⟨n + 1, (a' + 1) % T.length, D :: Ds, by omega, rfl, q27, q26, q2, q7, rfl, ?_, ?_, ch9, ⟨fb9, ?_, ⟨pend.set a' 0, by rw [← ints_set]; exact fr9, ?_⟩, hpB.br, hpB.tbb, hpB.tbr⟩, ?_⟩, by simp only [intOf, k28]; omega⟩
        · rw [List.nodup_cons]
          refine ⟨fun hm => ?_, hnd⟩
          have := (Array.getElem?_eq_some_iff.1 (hDs D hm).2).1
          omega
        · intro D' hD'
          rcases List.mem_cons.1 hD' with rfl | hD'
          · refine ⟨by omega, ?_⟩
            rw [keep9 D' hDW (by omega) (by omega) (fun q hq => by have := (hl0 q hq).2; omega)]
            exact hDk
          · have h1 := hDs D' hD'
            have h2 := (Array.getElem?_eq_some_iff.1 h1.2).1
            refine ⟨h1.1, ?_⟩
            rw [keep9 D' (by have := hc.size; omega) (by omega) (by omega) (fun q hq e => ?_), keepW D' h2 (by omega)]
            · exact h1.2
            · subst e
              obtain ⟨o, ho, hoc⟩ := hcells q hq
              rw [h1.2] at ho
              cases ho
              cases hoc
        · refine Sl.chp (cs := ints T) (SlI.ext hp.taps x01) ch9 fun _ q hq => ?_
          simp only [Value.ownBlock, Option.some.injEq] at hq
          subst hq
          rintro (h | h)
          · exact hpB.tbb h
          · exact hpB.tbr h
        · rw [tkx]
          refine (RP.next hrp1).congr fun j hj => ?_
          split
          · rfl
          · rw [List.drop_eq_nil_of_le (by omega)]; rfl
        · rw [hout]
          refine Own.same' hown7 fun kk hk => ?_
          have := (hlv kk hk).1
          rw [h9.block kk (by simp; omega), h8.block kk (by simp; omega)]
    · have hnl : n = L.length := by omega
      subst hnl
      rw [List.take_length] at hpa hown
      simp -dsimp -implicitDefEqProofs only [k28, k27, k26, k2, k7, m21, sF21, Nat.reduceEqDiff, ↓reduceIte, Nat.reduceAdd, Nat.reduceMul, Value.cells, Value.oneCell', eq_self, ne_eq, Int.reduceToNat, Int.reduceEq, Int.reduceLT, Int.reduceLE, Int.reduceNeg, if_true, if_false, reduceCtorEq, Nat.reduceSub, storeV_ptr, slcV_slice, ↓mwD, mwU]
      refine endW_marks Ds wl (fun D hD => (hDs D hD).2) hnd fun w' hf => ?_
      simp -dsimp -implicitDefEqProofs only [m21, sF21, Nat.reduceEqDiff, ↓reduceIte, Nat.reduceAdd, Nat.reduceMul, Value.cells, Value.oneCell', eq_self, ne_eq, Int.reduceToNat, Int.reduceEq, Int.reduceLT, Int.reduceLE, Int.reduceNeg, if_true, if_false, reduceCtorEq, Nat.reduceSub, storeV_ptr, slcV_slice, ↓mwD, mwU]
      have hcells : ∀ q, (e 6).ownBlock = some q → q ∉ Ds := fun q hq hm => by
        rcases hown.2 with ⟨hv, _⟩ | ⟨g, cap', cur, hv, hg, hh, _⟩
        · rw [hv] at hq; simp [Value.ownBlock] at hq
        · rw [hv] at hq; simp only [Value.ownBlock, Option.some.injEq] at hq; subst hq
          have := (hDs _ hm).2
          rw [hh] at this
          cases this
      have hlow : ∀ k, k < W1.heap.size → k ∉ Ds := fun k hk hm => by have := (hDs k hm).1; omega
      obtain ⟨p1, p2, ⟨pend, p3, p4⟩, p5, p6, p7⟩ := hpa
      have htl : tb < w.heap.size := Sl.block (cs := ints T) hp.taps (by simp [ints]; rintro rfl; simp at hn0) tb rfl
      refine ⟨_, a', rfl, Sl.same (G := fun q => q ∉ Ds) (ow_sl hown) (fun q hq => hf.block q hq) (fun _ q hq => hcells q hq), ⟨hf.bk (hlow b (by omega)) p1, ?_, ⟨pend, hf.bk (hlow r (by omega)) p3, p4⟩, p5, p6, p7⟩, ⟨?_, ?_, ?_, ?_, fun k hk hG => ?_⟩, fun q hq => ?_⟩
      · exact Sl.same (G := fun q => q ∉ Ds) (cs := ints T) p2 (fun q hq => hf.block q hq) (fun _ q hq => by simp only [Value.ownBlock, Option.some.injEq] at hq; subst hq; exact hlow tb (by omega))
      · exact hf.os.trans (hch.os.trans x01.os)
      · exact hf.tape.trans (hch.tape.trans x01.tape)
      · exact hf.output.trans (hch.output.trans x01.output)
      · have := hf.size; have := hch.size; omega
      · rw [hf.block k (hlow k (by omega)), hch.block k (by omega) hG, x01.block k hk]
      · have := (World.ownsRow.lt hown q hq).1; omega
end Go.Proofs.Ytefcfnmmpnjjjaa

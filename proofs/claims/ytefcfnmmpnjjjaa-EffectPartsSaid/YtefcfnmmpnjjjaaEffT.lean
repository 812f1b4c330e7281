/- NewHost. -/
import Derived.Test.YtefcfnmmpnjjjaaEffS
namespace Go.Proofs.Ytefcfnmmpnjjjaa
open Go.RowKit
set_option linter.unusedSimpArgs false

theorem NewHost_c {w : World} {v : Value} {xss : List (List EX)} {eq : Bool} (h : SlEE w v xss) : Rets Go.Proofs.Try.prog 24 #[v, .bool eq] w fun r w' => Ext w w' ∧
    if (xss.any fun xs => xs.any fun x => !exValid x) = true then r = .tuple #[.pointer none, .int .i64 1]
    else if (!wtn xss.length 1 8 || xss.any fun xs => decide (8 < xs.length)) = true then r = .tuple #[.pointer none, .int .i64 11]
    else ∃ hv G, r = .tuple #[hv, .int .i64 0] ∧ HostIn w' hv G (if eq = true then (xss.map newL).map (eqL (latF 0 (xss.map newL))) else xss.map newL) eq ∧ ∀ q, G q → w.heap.size ≤ q ∧ q < w'.heap.size := by
  obtain ⟨vs, hsl, hvl, hvx⟩ := id h
  obtain ⟨p, cap, rfl, hc1, hc2⟩ := hsl.shape
  rw [hvl] at h hsl hc1 ⊢
  refine en24 ?_
  simp -dsimp -implicitDefEqProofs only [m24, sF24, Nat.reduceEqDiff, ↓reduceIte, Nat.reduceAdd, Nat.reduceMul, Value.cells, Value.oneCell', eq_self, ne_eq, Int.reduceToNat, Int.reduceEq, Int.reduceLT, Int.reduceLE, Int.reduceNeg, if_true, if_false, reduceCtorEq, Nat.reduceSub, storeV_ptr, slcV_slice, ↓mwD, mwU]
  refine (ContainsFuncEE_c _ okF_48 (fun xs => xs.any fun x => !exValid x) (fun w' u xs hu => NewHost1_c hu) h).use ?_
  rintro r w1 ⟨rfl, he1⟩
  cases hbad : xss.any fun xs => xs.any fun x => !exValid x
  · simp -dsimp -implicitDefEqProofs only [m24, sF24, Nat.reduceEqDiff, ↓reduceIte, Nat.reduceAdd, Nat.reduceMul, Value.cells, Value.oneCell', eq_self, ne_eq, Int.reduceToNat, Int.reduceEq, Int.reduceLT, Int.reduceLE, Int.reduceNeg, if_true, if_false, reduceCtorEq, Nat.reduceSub, storeV_ptr, slcV_slice, ↓mwD, mwU]
    refine (within_c _ _ _ _).use ?_
    rintro r w2 ⟨rfl, rfl⟩
    cases hwt : wtn xss.length 1 8
    · simp -dsimp -implicitDefEqProofs only [m24, sF24, Nat.reduceEqDiff, ↓reduceIte, Nat.reduceAdd, Nat.reduceMul, Value.cells, Value.oneCell', eq_self, ne_eq, Int.reduceToNat, Int.reduceEq, Int.reduceLT, Int.reduceLE, Int.reduceNeg, if_true, if_false, reduceCtorEq, Nat.reduceSub, storeV_ptr, slcV_slice, ↓mwD, mwU]
      exact ⟨he1, by simp⟩
    · simp -dsimp -implicitDefEqProofs only [m24, sF24, Nat.reduceEqDiff, ↓reduceIte, Nat.reduceAdd, Nat.reduceMul, Value.cells, Value.oneCell', eq_self, ne_eq, Int.reduceToNat, Int.reduceEq, Int.reduceLT, Int.reduceLE, Int.reduceNeg, if_true, if_false, reduceCtorEq, Nat.reduceSub, storeV_ptr, slcV_slice, ↓mwD, mwU]
      refine (ContainsFuncEE_c _ okF_51 (fun xs => decide (8 < xs.length)) (fun w' u xs hu => NewHost2_c hu) (h.ext he1)).use ?_
      rintro r w3 ⟨rfl, he3⟩
      cases hbig : xss.any fun xs => decide (8 < xs.length)
      · simp -dsimp -implicitDefEqProofs only [bv_host, m24, sF24, Nat.reduceEqDiff, ↓reduceIte, Nat.reduceAdd, Nat.reduceMul, Value.cells, Value.oneCell', eq_self, ne_eq, Int.reduceToNat, Int.reduceEq, Int.reduceLT, Int.reduceLE, Int.reduceNeg, if_true, if_false, reduceCtorEq, Nat.reduceSub, storeV_ptr, slcV_slice, ↓mwD, mwU]
        have hval : ∀ xs ∈ xss, ∀ x ∈ xs, exValid x = true := fun xs hxs x hx => by
          rw [List.any_eq_false] at hbad
          have := hbad xs hxs
          rw [Bool.not_eq_true, List.any_eq_false] at this
          have := this x hx
          simpa using this
        have hlen8 : ∀ xs ∈ xss, xs.length ≤ 8 := fun xs hxs => by
          rw [List.any_eq_false] at hbig
          have := hbig xs hxs
          simp at this
          exact this
        have hn8 := wtn_iff.1 hwt
        have he13 := he1.trans he3
        refine mwpB_loop (fun e ds wl => ∃ n : Nat, n ≤ xss.length ∧ e 27 = .int .i64 n ∧ e 26 = .int .i64 xss.length ∧ e 25 = .slice p xss.length cap ∧ e 6 = .pointer (some ⟨w3.heap.size, 0, none⟩) ∧ ds = [] ∧ Ext w3 wl ∧ ∃ lp ps Gf, Bk wl w3.heap.size [lp, .bool eq] 73 ∧
          wl.ownsRow (w3.heap.size + 1) 74 1 lp n ps ∧ Objs LaneIn wl ps Gf ((xss.take n).map newL) ∧ (∀ i, i < ps.length → ∀ q, Gf i q → w3.heap.size < q ∧ q < wl.heap.size) ∧ (∀ q, lp.ownBlock = some q → ∀ i, i < ps.length → ¬ Gf i q)) (fun e _ => xss.length - (intOf (e 27)).toNat) ?_ ?_
        · simp -dsimp -implicitDefEqProofs only [m24, sF24, Nat.reduceEqDiff, ↓reduceIte, Nat.reduceAdd, Nat.reduceMul, Value.cells, Value.oneCell', eq_self, ne_eq, Int.reduceToNat, Int.reduceEq, Int.reduceLT, Int.reduceLE, Int.reduceNeg, if_true, if_false, reduceCtorEq, Nat.reduceSub, storeV_ptr, slcV_slice, ↓mwD, mwU]
          exact ⟨0, by omega, rfl, Ext.alloc _ _, _, [], fun _ _ => False, Bk.new _ _ _, World.ownsRow_nil _ _ _ _, Objs.nil _ _, fun i hi => by simp at hi, fun q _ i hi => by simp at hi⟩
        · rintro e ds wl ⟨n, hn, h27, h26, h25, h6, rfl, hex, lp, ps, Gf, hbk, hown, hob, hGf, hlp⟩
          simp -dsimp -implicitDefEqProofs only [h27, h26, h25, h6, m24, sF24, Nat.reduceEqDiff, ↓reduceIte, Nat.reduceAdd, Nat.reduceMul, Value.cells, Value.oneCell', eq_self, ne_eq, Int.reduceToNat, Int.reduceEq, Int.reduceLT, Int.reduceLE, Int.reduceNeg, if_true, if_false, reduceCtorEq, Nat.reduceSub, storeV_ptr, slcV_slice, ↓mwD, mwU]
          refine iteW_dec (fun hlt => ?_) (fun hge => ?_)
          · have hnl : n < xss.length := by omega
            have hnv : n < vs.length := by omega
            obtain ⟨bv, ov, cv, hpe, hcv⟩ := Sl.get hsl (i := n) (u := vs[n]) (by simp [hnv])
            simp only [Value.slice.injEq] at hpe
            obtain ⟨rfl, _, rfl⟩ := hpe
            have hE := (hvx n vs[n] xss[n] (by simp [hnv]) (by simp [hnl])).ext (he13.trans hex)
            obtain ⟨pe, ce, hve, hec, hem, hex2⟩ := hE
            rw [hve] at hcv
            have hcv' := (he13.trans hex).cell hcv
            have hb1 : (0 : Int) ≤ n ∧ (n : Int) < xss.length := by omega
            have hw1 : IntKind.i64.wrap ((n : Int) + 1) = ((n + 1 : Nat) : Int) := by rw [w64 (by omega) (by omega)]; omega
            have hx8 := hlen8 xss[n] (by simp)
            have hxv := hval xss[n] (by simp)
            simp -dsimp -implicitDefEqProofs only [h27, h26, h25, h6, hb1, and_self, hcv', bv_lane, m24, sF24, Nat.reduceEqDiff, ↓reduceIte, Nat.reduceAdd, Nat.reduceMul, Value.cells, Value.oneCell', eq_self, ne_eq, Int.reduceToNat, Int.reduceEq, Int.reduceLT, Int.reduceLE, Int.reduceNeg, if_true, if_false, reduceCtorEq, Nat.reduceSub, storeV_ptr, slcV_slice, ↓mwD, mwU]
            refine mwpB_loop (fun e' ds wm => ∃ m : Nat, m ≤ xss[n].length ∧ e' 35 = .int .i64 m ∧ e' 34 = .int .i64 xss[n].length ∧ e' 33 = .slice pe xss[n].length ce ∧ e' 9 = .pointer (some ⟨wl.heap.size, 0, none⟩) ∧ e' 27 = .int .i64 n ∧ e' 26 = .int .i64 xss.length ∧ e' 25 = .slice (some ⟨bv, ov, none⟩) xss.length cap ∧
              e' 6 = .pointer (some ⟨w3.heap.size, 0, none⟩) ∧ ds = [] ∧ Ext wl wm ∧ ∃ up us Gu, Bk wm wl.heap.size [.slice none 0 0, .int .i64 0, up] 79 ∧ wm.ownsRow (wl.heap.size + 1) 51 1 up m us ∧ Objs UnitIn wm us Gu ((xss[n].take m).map newU) ∧
              (∀ i, i < us.length → ∀ q, Gu i q → wl.heap.size < q ∧ q < wm.heap.size) ∧ (∀ q, up.ownBlock = some q → ∀ i, i < us.length → ¬ Gu i q)) (fun e _ => xss[n].length - (intOf (e 35)).toNat) ?_ ?_
            · simp -dsimp -implicitDefEqProofs only [h27, h26, h25, h6, m24, sF24, Nat.reduceEqDiff, ↓reduceIte, Nat.reduceAdd, Nat.reduceMul, Value.cells, Value.oneCell', eq_self, ne_eq, Int.reduceToNat, Int.reduceEq, Int.reduceLT, Int.reduceLE, Int.reduceNeg, if_true, if_false, reduceCtorEq, Nat.reduceSub, storeV_ptr, slcV_slice, ↓mwD, mwU]
              exact ⟨0, by omega, rfl, Ext.alloc _ _, _, [], fun _ _ => False, Bk.new _ _ _, World.ownsRow_nil _ _ _ _, Objs.nil _ _, fun i hi => by simp at hi, fun q _ i hi => by simp at hi⟩
            · rintro e1 ds wm ⟨m, hm, m35, m34, m33, m9, m27, m26, m25, m6, rfl, hem1, up, us, Gu, hbm, hom, hou, hGu, hup⟩
              simp -dsimp -implicitDefEqProofs only [m35, m34, m33, m9, m24, sF24, Nat.reduceEqDiff, ↓reduceIte, Nat.reduceAdd, Nat.reduceMul, Value.cells, Value.oneCell', eq_self, ne_eq, Int.reduceToNat, Int.reduceEq, Int.reduceLT, Int.reduceLE, Int.reduceNeg, if_true, if_false, reduceCtorEq, Nat.reduceSub, storeV_ptr, slcV_slice, ↓mwD, mwU]
              refine iteW_dec (fun hmlt => ?_) (fun hmge => ?_)
              · have hml : m < xss[n].length := by omega
                obtain ⟨bq, oq, a, t, rfl, k0, k1, k2, hA, hT⟩ := hex2 m xss[n][m].1 xss[n][m].2.1 xss[n][m].2.2 (by simp [hml])
                have q0 := hem1.cell k0
                have q1 := hem1.cell k1
                have q2 := hem1.cell k2
                obtain ⟨pa, ca, rfl, _, _⟩ := hA.shape
                obtain ⟨pt, ct, rfl, _, _⟩ := hT.shape
                have hbm1 : (0 : Int) ≤ m ∧ (m : Int) < xss[n].length := by omega
                have hw2 : IntKind.i64.wrap ((m : Int) + 1) = ((m + 1 : Nat) : Int) := by rw [w64 (by omega) (by omega)]; omega
                simp -dsimp -implicitDefEqProofs only [m35, m34, m33, m9, hbm1, and_self, q0, q1, q2, m24, sF24, Nat.reduceEqDiff, ↓reduceIte, Nat.reduceAdd, Nat.reduceMul, Value.cells, Value.oneCell', eq_self, ne_eq, Int.reduceToNat, Int.reduceEq, Int.reduceLT, Int.reduceLE, Int.reduceNeg, if_true, if_false, reduceCtorEq, Nat.reduceSub, storeV_ptr, slcV_slice, ↓mwD, mwU]
                generalize hW1 : World.alloc wm _ = W1
                have hx1 : Ext wm W1 := by rw [← hW1]; exact Ext.alloc _ _
                have b0 : W1.cell? ⟨wm.heap.size, 0, none⟩ = some (.int .i64 xss[n][m].1) := by rw [← hW1, World.cell?_alloc_new]; rfl
                have b1 : W1.cell? ⟨wm.heap.size, 1, none⟩ = some (.slice pa xss[n][m].2.1.length ca) := by rw [← hW1, World.cell?_alloc_new]; rfl
                have b2 : W1.cell? ⟨wm.heap.size, 2, none⟩ = some (.slice pt xss[n][m].2.2.length ct) := by rw [← hW1, World.cell?_alloc_new]; rfl
                have hbm2 := hbm.ext hx1
                refine mwpB_draw (fun w' => w'.cell? ⟨wl.heap.size, 2, none⟩ = some up ∧ w'.cell? ⟨wm.heap.size, 0, none⟩ = some (.int .i64 xss[n][m].1) ∧ w'.cell? ⟨wm.heap.size, 1, none⟩ = some (.slice pa xss[n][m].2.1.length ca) ∧ w'.cell? ⟨wm.heap.size, 2, none⟩ = some (.slice pt xss[n][m].2.2.length ct)) ⟨hbm2.get rfl, b0, b1, b2⟩ ?_
                simp -dsimp -implicitDefEqProofs only [m9, m24, sF24, Nat.reduceEqDiff, ↓reduceIte, Nat.reduceAdd, Nat.reduceMul, Value.cells, Value.oneCell', eq_self, ne_eq, Int.reduceToNat, Int.reduceEq, Int.reduceLT, Int.reduceLE, Int.reduceNeg, if_true, if_false, reduceCtorEq, Nat.reduceSub, storeV_ptr, slcV_slice, ↓mwD, mwU]
                refine softB_load (v := up) (fun w' hw => ?_) ?_
                · simp -dsimp -implicitDefEqProofs only [hw.1, m24, sF24, Nat.reduceEqDiff, ↓reduceIte, Nat.reduceAdd, Nat.reduceMul, Value.cells, Value.oneCell', eq_self, ne_eq, Int.reduceToNat, Int.reduceEq, Int.reduceLT, Int.reduceLE, Int.reduceNeg, if_true, if_false, reduceCtorEq, Nat.reduceSub, storeV_ptr, slcV_slice, ↓mwD, mwU]
                simp -dsimp -implicitDefEqProofs only [m24, sF24, Nat.reduceEqDiff, ↓reduceIte, Nat.reduceAdd, Nat.reduceMul, Value.cells, Value.oneCell', eq_self, ne_eq, Int.reduceToNat, Int.reduceEq, Int.reduceLT, Int.reduceLE, Int.reduceNeg, if_true, if_false, reduceCtorEq, Nat.reduceSub, storeV_ptr, slcV_slice, ↓mwD, mwU]
                refine softB_load (v := .agg #[.int .i64 xss[n][m].1, .slice pa xss[n][m].2.1.length ca, .slice pt xss[n][m].2.2.length ct]) (fun w' hw => ?_) ?_
                · simp -dsimp -implicitDefEqProofs only [hw.2.1, hw.2.2.1, hw.2.2.2, m24, sF24, Nat.reduceEqDiff, ↓reduceIte, Nat.reduceAdd, Nat.reduceMul, Value.cells, Value.oneCell', eq_self, ne_eq, Int.reduceToNat, Int.reduceEq, Int.reduceLT, Int.reduceLE, Int.reduceNeg, if_true, if_false, reduceCtorEq, Nat.reduceSub, storeV_ptr, slcV_slice, ↓mwD, mwU]
                have hxW : Ext wl W1.drew := (hem1.trans hx1).drew'
                have hsh : VShape xss[n][m].1 xss[n][m].2.1 xss[n][m].2.2 := valid_shape (hxv xss[n][m] (by simp))
                simp -dsimp -implicitDefEqProofs only [m24, sF24, Nat.reduceEqDiff, ↓reduceIte, Nat.reduceAdd, Nat.reduceMul, Value.cells, Value.oneCell', eq_self, ne_eq, Int.reduceToNat, Int.reduceEq, Int.reduceLT, Int.reduceLE, Int.reduceNeg, if_true, if_false, reduceCtorEq, Nat.reduceSub, storeV_ptr, slcV_slice, ↓mwD, mwU]
                refine (unitN_c _ _ _ _ _ W1.drew hsh (hA.ext hxW) (hT.ext hxW)).use ?_
                rintro r5 w5 ⟨hun, he5⟩
                have g0 := he5.cell (a := ⟨wl.heap.size, 2, none⟩) (hbm2.get rfl)
                have g1 := he5.cell (a := ⟨wm.heap.size, 0, none⟩) b0
                have g2 := he5.cell (a := ⟨wm.heap.size, 1, none⟩) b1
                have g3 := he5.cell (a := ⟨wm.heap.size, 2, none⟩) b2
                obtain ⟨ub, hub⟩ : ∃ ub, r5 = .pointer (some ⟨ub, 0, none⟩) := by obtain ⟨F, ub, _, _, _, _, h, _⟩ := hun; exact ⟨ub, h⟩
                subst hub
                have hbs : buildS Go.Proofs.Try.prog 77 1 [(0, .pointer (some ⟨ub, 0, none⟩))] = some (51, #[.pointer (some ⟨ub, 0, none⟩)]) := by kernel_rfl
                refine ⟨⟨g0, g1, g2, g3⟩, ?_⟩
                simp -dsimp -implicitDefEqProofs only [hbs, m24, sF24, Nat.reduceEqDiff, ↓reduceIte, Nat.reduceAdd, Nat.reduceMul, Value.cells, Value.oneCell', eq_self, ne_eq, Int.reduceToNat, Int.reduceEq, Int.reduceLT, Int.reduceLE, Int.reduceNeg, if_true, if_false, reduceCtorEq, Nat.reduceSub, storeV_ptr, slcV_slice, ↓mwD, mwU]
                refine ⟨⟨cell_old g0 _, cell_old g1 _, cell_old g2 _, cell_old g3 _⟩, ?_⟩
                have hx5 : Ext wm w5 := (hx1.drew').trans he5
                have s1 := hem1.le
                have s2 := hx5.le
                have s3 := hbm.lt
                have hlm := World.ownsRow.lt hom
                have hWs : W1.drew.heap.size = wm.heap.size + 1 := by rw [← hW1]; simp
                obtain ⟨g, cg, w7, ha7, hown7, hg7, hlies, hglt⟩ := append_one (ty := 77) telem_77 tok_51 tzero_51 rfl tsz_51 tby_51 (Own.ext hom hx5) (y := .pointer (some ⟨ub, 0, none⟩)) rfl (by omega) (by omega)
                refine appB.mk ha7 ?_
                have hkeep : ∀ k, k < w5.heap.size → (∀ q, up.ownBlock = some q → q ≠ k) → w7.heap[k]? = w5.heap[k]? := fun k hk hq =>
                  (hg7.block k (by simp; omega) (fun e => hq k e.symm rfl)).trans (Below.heap_alloc _ _ _ hk)
                have kb := hkeep wl.heap.size (by omega) (fun q hq => by have := (hlm q hq).1; omega)
                have kx := hkeep wm.heap.size (by have := he5.le; omega) (fun q hq => by have := (hlm q hq).2; omega)
                refine ⟨⟨(World.cell?_of_block (w := w5) kb).trans g0, (World.cell?_of_block (w := w5) kx).trans g1, (World.cell?_of_block (w := w5) kx).trans g2, (World.cell?_of_block (w := w5) kx).trans g3⟩, ?_⟩
                have hb7 : Bk w7 wl.heap.size [.slice none 0 0, .int .i64 0, up] 79 := by have := hbm.ext hx5; unfold Bk at this ⊢; rw [kb]; exact this
                have hc7 := hb7.get (o := 2) rfl
                simp -dsimp -implicitDefEqProofs only [hc7, hb7.frozen, and_self, m35, m34, m33, m9, m27, m26, m25, m6, hw2, m24, sF24, Nat.reduceEqDiff, ↓reduceIte, Nat.reduceAdd, Nat.reduceMul, Value.cells, Value.oneCell', eq_self, ne_eq, Int.reduceToNat, Int.reduceEq, Int.reduceLT, Int.reduceLE, Int.reduceNeg, if_true, if_false, reduceCtorEq, Nat.reduceSub, storeV_ptr, slcV_slice, ↓mwD, mwU]
                have s7 := hg7.size
                have s7' : w5.heap.size + 1 ≤ w7.heap.size := by simpa using s7
                have hW5 := he5.le
                have hs8 : (w7.setCell ⟨wl.heap.size, 2, none⟩ (.slice (some ⟨g, 0, none⟩) (m + 1) cg)).heap.size = w7.heap.size := by simp [World.setCell]
                have hkeep8 : ∀ k, k < w5.heap.size → k ≠ wl.heap.size → (∀ q, up.ownBlock = some q → q ≠ k) → (w7.setCell ⟨wl.heap.size, 2, none⟩ (.slice (some ⟨g, 0, none⟩) (m + 1) cg)).heap[k]? = w5.heap[k]? := fun k hk hne hq => (Below.heap_setCell _ _ _ _ hne).trans (hkeep k hk hq)
                have hul : us.length = m := by have := hom.1; simpa using this
                have hsame : ∀ i, i < us.length → Same (Gu i) wm (w7.setCell ⟨wl.heap.size, 2, none⟩ (.slice (some ⟨g, 0, none⟩) (m + 1) cg)) := fun i hi q hq => by
                  have h1 := hGu i hi q hq
                  rw [hkeep8 q (by omega) (by omega) (fun q' hq' e => hup q' hq' i hi (e ▸ hq))]
                  exact hx5.block q h1.2
                have hnew : UnitIn (w7.setCell ⟨wl.heap.size, 2, none⟩ (.slice (some ⟨g, 0, none⟩) (m + 1) cg)) (.pointer (some ⟨ub, 0, none⟩)) (fun q => W1.drew.heap.size ≤ q ∧ q < w5.heap.size) (newU xss[n][m]) :=
                  UnitIn.local_ _ _ _ _ _ hun fun q hq => hkeep8 q hq.2 (by have := hq.1; omega) (fun q' hq' e => by have := (hlm q' hq').2; have := hq.1; omega)
                have hsn := (hou.same UnitIn.local_ hsame).snoc hnew (fun i q hi hq hq' => by have := (hGu i hi q hq).2; have := hq'.1; omega)
                have htk : (xss[n].take (m + 1)).map newU = (xss[n].take m).map newU ++ [newU xss[n][m]] := by
                  rw [List.take_add_one, List.getElem?_eq_getElem hml, List.map_append]; rfl
                have hxf : Ext wl (w7.setCell ⟨wl.heap.size, 2, none⟩ (.slice (some ⟨g, 0, none⟩) (m + 1) cg)) :=
                  (((hem1.trans hx5).alloc' _).grown hg7 (fun k hk => by have := (hlm k hk).1; omega)).setCell (Nat.le_refl _) _
                refine ⟨⟨m + 1, by omega, rfl, hxf, .slice (some ⟨g, 0, none⟩) (m + 1) cg, us ++ [.pointer (some ⟨ub, 0, none⟩)], _, hb7.set 2 _, Own.same hown7 (fun k hk _ => Below.heap_setCell _ _ _ _ (show k ≠ wl.heap.size by omega)), by rw [htk]; exact hsn, ?_, ?_⟩, by simp only [intOf]; omega⟩
                · intro i hi q hq
                  simp at hi
                  by_cases hin : i = us.length
                  · simp only [hin, if_true] at hq
                    rw [hs8]; have := hq.1; have := hq.2; omega
                  · simp only [hin, if_false] at hq
                    have := hGu i (by omega) q hq
                    rw [hs8]; omega
                · intro q hq i hi
                  simp only [Value.ownBlock, Option.some.injEq] at hq
                  subst hq
                  simp at hi
                  by_cases hin : i = us.length
                  · simp only [hin, if_true]
                    rintro ⟨h1, h2⟩
                    rcases hlies with h | h
                    · have := (hlm g h).2; omega
                    · omega
                  · simp only [hin, if_false]
                    intro hgi
                    rcases hlies with h | h
                    · exact hup g h i (by omega) hgi
                    · have := (hGu i (by omega) g hgi).2; omega
              · have hml : m = xss[n].length := by omega
                subst hml
                rw [List.take_length] at hou
                have hlm := World.ownsRow.lt hom
                have hln := World.ownsRow.lt hown
                have hbH := hbk.ext hem1
                have c0 := hbH.get (o := 0) rfl
                have s1 := hem1.le
                have s2 := hbk.lt
                have s3 := hbm.lt
                have hlane : LaneIn wm (.pointer (some ⟨wl.heap.size, 0, none⟩)) (fun q => wl.heap.size ≤ q ∧ q < wm.heap.size) (newL xss[n]) :=
                  ⟨wl.heap.size, wl.heap.size, _, up, us, Gu, rfl, ⟨0, [], hbm, rfl, by simp [newL], .inl ⟨rfl, rfl, rfl⟩⟩, rfl, Own.sl hom, hou, fun i hi => ⟨fun hq => by have := (hGu i hi _ hq).1; omega, fun hq => by have := (hGu i hi _ hq).1; omega⟩,
                    fun _ q hq => ⟨by have := (hlm q hq).1; omega, by have := (hlm q hq).1; omega, ⟨by have := (hlm q hq).1; omega, (hlm q hq).2⟩, hup q hq⟩, ⟨Nat.le_refl _, s3⟩, ⟨Nat.le_refl _, s3⟩, fun i hi q hq => ⟨by have := (hGu i hi q hq).1; omega, (hGu i hi q hq).2⟩⟩
                have hbs : buildS Go.Proofs.Try.prog 71 1 [(0, .pointer (some ⟨wl.heap.size, 0, none⟩))] = some (74, #[.pointer (some ⟨wl.heap.size, 0, none⟩)]) := by kernel_rfl
                simp -dsimp -implicitDefEqProofs only [m35, m34, m33, m9, m27, m26, m25, m6, c0, hbs, m24, sF24, Nat.reduceEqDiff, ↓reduceIte, Nat.reduceAdd, Nat.reduceMul, Value.cells, Value.oneCell', eq_self, ne_eq, Int.reduceToNat, Int.reduceEq, Int.reduceLT, Int.reduceLE, Int.reduceNeg, if_true, if_false, reduceCtorEq, Nat.reduceSub, storeV_ptr, slcV_slice, ↓mwD, mwU]
                obtain ⟨g, cg, w7, ha7, hown7, hg7, hlies, hglt⟩ := append_one (ty := 71) telem_71 tok_74 tzero_74 rfl tsz_74 tby_74 (Own.ext hown hem1) (y := .pointer (some ⟨wl.heap.size, 0, none⟩)) rfl (by omega) (by omega)
                refine appB.mk ha7 ?_
                have hkeep : ∀ k, k < wm.heap.size → (∀ q, lp.ownBlock = some q → q ≠ k) → w7.heap[k]? = wm.heap[k]? := fun k hk hq =>
                  (hg7.block k (by simp; omega) (fun e => hq k e.symm rfl)).trans (Below.heap_alloc _ _ _ hk)
                have kb := hkeep w3.heap.size (by omega) (fun q hq => by have := (hln q hq).1; omega)
                have hb7 : Bk w7 w3.heap.size [lp, .bool eq] 73 := by have := hbH; unfold Bk at this ⊢; rw [kb]; exact this
                have hc7 := hb7.get (o := 0) rfl
                have s7 := hg7.size
                have s7' : wm.heap.size + 1 ≤ w7.heap.size := by simpa using s7
                simp -dsimp -implicitDefEqProofs only [hc7, hb7.frozen, and_self, m27, m26, m25, m6, hw1, m24, sF24, Nat.reduceEqDiff, ↓reduceIte, Nat.reduceAdd, Nat.reduceMul, Value.cells, Value.oneCell', eq_self, ne_eq, Int.reduceToNat, Int.reduceEq, Int.reduceLT, Int.reduceLE, Int.reduceNeg, if_true, if_false, reduceCtorEq, Nat.reduceSub, storeV_ptr, slcV_slice, ↓mwD, mwU]
                have hs8 : (w7.setCell ⟨w3.heap.size, 0, none⟩ (.slice (some ⟨g, 0, none⟩) (n + 1) cg)).heap.size = w7.heap.size := by simp [World.setCell]
                have hkeep8 : ∀ k, k < wm.heap.size → k ≠ w3.heap.size → (∀ q, lp.ownBlock = some q → q ≠ k) → (w7.setCell ⟨w3.heap.size, 0, none⟩ (.slice (some ⟨g, 0, none⟩) (n + 1) cg)).heap[k]? = wm.heap[k]? := fun k hk hne hq => (Below.heap_setCell _ _ _ _ hne).trans (hkeep k hk hq)
                have hpl : ps.length = n := by have := hown.1; simpa using this
                have hsame : ∀ i, i < ps.length → Same (Gf i) wl (w7.setCell ⟨w3.heap.size, 0, none⟩ (.slice (some ⟨g, 0, none⟩) (n + 1) cg)) := fun i hi q hq => by
                  have h1 := hGf i hi q hq
                  rw [hkeep8 q (by omega) (by omega) (fun q' hq' e => hlp q' hq' i hi (e ▸ hq))]
                  exact hem1.block q h1.2
                have hnew : LaneIn (w7.setCell ⟨w3.heap.size, 0, none⟩ (.slice (some ⟨g, 0, none⟩) (n + 1) cg)) (.pointer (some ⟨wl.heap.size, 0, none⟩)) (fun q => wl.heap.size ≤ q ∧ q < wm.heap.size) (newL xss[n]) :=
                  LaneIn.local_ _ _ _ _ _ hlane fun q hq => hkeep8 q hq.2 (by have := hq.1; omega) (fun q' hq' e => by have := (hln q' hq').2; have := hq.1; omega)
                have hsn := (hob.same LaneIn.local_ hsame).snoc hnew (fun i q hi hq hq' => by have := (hGf i hi q hq).2; have := hq'.1; omega)
                have htk : (xss.take (n + 1)).map newL = (xss.take n).map newL ++ [newL xss[n]] := by
                  rw [List.take_add_one, List.getElem?_eq_getElem hnl, List.map_append]; rfl
                have hxf : Ext w3 (w7.setCell ⟨w3.heap.size, 0, none⟩ (.slice (some ⟨g, 0, none⟩) (n + 1) cg)) :=
                  (((hex.trans hem1).alloc' _).grown hg7 (fun k hk => by have := (hln k hk).1; omega)).setCell (Nat.le_refl _) _
                refine ⟨⟨n + 1, by omega, rfl, hxf, .slice (some ⟨g, 0, none⟩) (n + 1) cg, ps ++ [.pointer (some ⟨wl.heap.size, 0, none⟩)], _, hb7.set 0 _, Own.same hown7 (fun k hk _ => Below.heap_setCell _ _ _ _ (show k ≠ w3.heap.size by omega)), by rw [htk]; exact hsn, ?_, ?_⟩, by simp only [intOf, h27]; omega⟩
                · intro i hi q hq
                  simp at hi
                  by_cases hin : i = ps.length
                  · simp only [hin, if_true] at hq
                    rw [hs8]; have := hq.1; have := hq.2; omega
                  · simp only [hin, if_false] at hq
                    have := hGf i (by omega) q hq
                    rw [hs8]; omega
                · intro q hq i hi
                  simp only [Value.ownBlock, Option.some.injEq] at hq
                  subst hq
                  simp at hi
                  by_cases hin : i = ps.length
                  · simp only [hin, if_true]
                    rintro ⟨h1, h2⟩
                    rcases hlies with h | h
                    · have := (hln g h).2; omega
                    · omega
                  · simp only [hin, if_false]
                    intro hgi
                    rcases hlies with h | h
                    · exact hlp g h i (by omega) hgi
                    · have := (hGf i (by omega) g hgi).2; omega
          · have hnl : n = xss.length := by omega
            subst hnl
            rw [List.take_length] at hob
            have hlt := World.ownsRow.lt hown
            have hlb := hbk.lt
            have hhost : HostIn wl (.pointer (some ⟨w3.heap.size, 0, none⟩)) (fun q => w3.heap.size ≤ q ∧ q < wl.heap.size) (xss.map newL) eq :=
              ⟨w3.heap.size, lp, ps, Gf, rfl, hbk, Own.sl hown, hob, fun i hi hq => by have := (hGf i hi _ hq).1; omega, fun _ q hq => ⟨by have := (hlt q hq).1; omega, ⟨by have := (hlt q hq).1; omega, (hlt q hq).2⟩, hlp q hq⟩, ⟨Nat.le_refl _, hlb⟩, fun i hi q hq => ⟨by have := (hGf i hi q hq).1; omega, (hGf i hi q hq).2⟩⟩
            simp -dsimp -implicitDefEqProofs only [h27, h26, h25, h6, m24, sF24, Nat.reduceEqDiff, ↓reduceIte, Nat.reduceAdd, Nat.reduceMul, Value.cells, Value.oneCell', eq_self, ne_eq, Int.reduceToNat, Int.reduceEq, Int.reduceLT, Int.reduceLE, Int.reduceNeg, if_true, if_false, reduceCtorEq, Nat.reduceSub, storeV_ptr, slcV_slice, ↓mwD, mwU]
            refine (equalize_c hhost (fun q hq => hq.2) (fun x hx => ?_) (fun x hx => ?_) (by simp; omega)).use ?_
            · obtain ⟨xs, hxs, rfl⟩ := List.mem_map.1 hx
              exact (newL_ok (hval xs hxs)).2
            · obtain ⟨xs, hxs, rfl⟩ := List.mem_map.1 hx
              have := hlen8 xs hxs
              simpa [newL] using this
            rintro r w4 ⟨G', hh4, hch4, hG4⟩
            have hE : Ext w w4 := hch4.ext (he13.trans hex) (fun q hq => by have := he13.le; omega)
            simp -dsimp -implicitDefEqProofs only [h6, m24, sF24, Nat.reduceEqDiff, ↓reduceIte, Nat.reduceAdd, Nat.reduceMul, Value.cells, Value.oneCell', eq_self, ne_eq, Int.reduceToNat, Int.reduceEq, Int.reduceLT, Int.reduceLE, Int.reduceNeg, if_true, if_false, reduceCtorEq, Nat.reduceSub, storeV_ptr, slcV_slice, ↓mwD, mwU]
            refine ⟨hE, _, G', rfl, hh4, fun q hq => ⟨?_, (hG4 q hq).2⟩⟩
            have := he13.le
            have := hex.le
            rcases (hG4 q hq).1 with h | h <;> omega
      · simp -dsimp -implicitDefEqProofs only [m24, sF24, Nat.reduceEqDiff, ↓reduceIte, Nat.reduceAdd, Nat.reduceMul, Value.cells, Value.oneCell', eq_self, ne_eq, Int.reduceToNat, Int.reduceEq, Int.reduceLT, Int.reduceLE, Int.reduceNeg, if_true, if_false, reduceCtorEq, Nat.reduceSub, storeV_ptr, slcV_slice, ↓mwD, mwU]
        exact ⟨he1.trans he3, by simp⟩
  · simp -dsimp -implicitDefEqProofs only [m24, sF24, Nat.reduceEqDiff, ↓reduceIte, Nat.reduceAdd, Nat.reduceMul, Value.cells, Value.oneCell', eq_self, ne_eq, Int.reduceToNat, Int.reduceEq, Int.reduceLT, Int.reduceLE, Int.reduceNeg, if_true, if_false, reduceCtorEq, Nat.reduceSub, storeV_ptr, slcV_slice, ↓mwD, mwU]
    exact he1

end Go.Proofs.Ytefcfnmmpnjjjaa

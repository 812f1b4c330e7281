/- A host runs. -/
import Derived.Test.YtefcfnmmpnjjjaaEffM
namespace Go.Proofs.Ytefcfnmmpnjjjaa
open Go.RowKit
set_option linter.unusedSimpArgs false

theorem midset {α : Type} (P D : List α) (x x' : α) (m : Nat) (h : P.length = m) : (P ++ x :: D)[m]? = some x ∧ (P ++ x :: D).set m x' = (P ++ [x']) ++ D := by
  subst h
  constructor
  · simp
  · simp

/-- A slice of pointers: what lies at an index. -/
theorem Sl.get {w : World} {v : Value} {cs : List Value} (h : Sl w v cs) {i : Nat} {u : Value} (hi : cs[i]? = some u) : ∃ b o cap, v = .slice (some ⟨b, o, none⟩) cs.length cap ∧ w.cell? ⟨b, o + i, none⟩ = some u := by
  obtain ⟨b, o, cap, rfl, _, _, hr⟩ := h.at (by rintro rfl; simp at hi)
  exact ⟨b, o, cap, rfl, hr i u hi⟩

theorem HRun_c {w : World} {v : Value} {G : Nat → Prop} {ls : List LX} {eq : Bool} {l : Value} {L : List Int} (hh : HostIn w v G ls eq) (hs : ∀ x ∈ ls, x.ok) (h8 : ls.length ≤ 8) (hl : SlI w l L) (hd : L ≠ [] → ∀ q, l.ownBlock = some q → ¬ G q) (hG : ∀ b, G b → b < w.heap.size) :
    Rets Go.Proofs.Try.prog 26 #[v, l] w fun r w' => if samplesB L = true then ∃ o, r = .tuple #[o, .int .i64 0] ∧ SlI w' o (runH ls L).2 ∧ HostIn w' v G (runH ls L).1 eq ∧ ChP G w w' ∧ (∀ q, o.ownBlock = some q → w.heap.size ≤ q)
      else r = .tuple #[.slice none 0 0, .int .i64 1] ∧ w' = w := by
  have hv : ∃ b, v = .pointer (some ⟨b, 0, none⟩) := by obtain ⟨b, _, _, _, h, _⟩ := hh; exact ⟨b, h⟩
  obtain ⟨bh, rfl⟩ := hv
  obtain ⟨p, cap, rfl, hc1, hc2⟩ := hl.shape
  refine en26 ?_
  simp -dsimp -implicitDefEqProofs only [m26, sF26, Nat.reduceEqDiff, ↓reduceIte, Nat.reduceAdd, Nat.reduceMul, Value.cells, Value.oneCell', eq_self, ne_eq, Int.reduceToNat, Int.reduceEq, Int.reduceLT, Int.reduceLE, Int.reduceNeg, if_true, if_false, reduceCtorEq, Nat.reduceSub, storeV_ptr, slcV_slice, ↓mwD, mwU]
  refine (samples_c _ L w hl).use ?_
  rintro r w' ⟨rfl, rfl⟩
  cases hsm : samplesB L
  · simp -dsimp -implicitDefEqProofs only [m26, sF26, Nat.reduceEqDiff, ↓reduceIte, Nat.reduceAdd, Nat.reduceMul, Value.cells, Value.oneCell', eq_self, ne_eq, Int.reduceToNat, Int.reduceEq, Int.reduceLT, Int.reduceLE, Int.reduceNeg, if_true, if_false, reduceCtorEq, Nat.reduceSub, storeV_ptr, slcV_slice, ↓mwD, mwU]
  · obtain ⟨hlen, hsmp⟩ := samples_smps hsm
    simp -dsimp -implicitDefEqProofs only [m26, sF26, Nat.reduceEqDiff, ↓reduceIte, Nat.reduceAdd, Nat.reduceMul, Value.cells, Value.oneCell', eq_self, ne_eq, Int.reduceToNat, Int.reduceEq, Int.reduceLT, Int.reduceLE, Int.reduceNeg, if_true, if_false, reduceCtorEq, Nat.reduceSub, storeV_ptr, slcV_slice, ↓mwD, mwU]
    refine mwpB_loop (fun e ds wl => ∃ n : Nat, n ≤ L.length ∧ e 24 = .int .i64 n ∧ e 23 = .int .i64 L.length ∧ e 22 = .slice p L.length cap ∧ e 0 = .pointer (some ⟨bh, 0, none⟩) ∧ ds = [] ∧
      wl.ownsRow w'.heap.size 3 1 (e 6) n (ints (runH ls (L.take n)).2) ∧ ChP G w' wl ∧ HostIn wl (.pointer (some ⟨bh, 0, none⟩)) G (runH ls (L.take n)).1 eq) (fun e _ => L.length - (intOf (e 24)).toNat) ?_ ?_
    · simp -dsimp -implicitDefEqProofs only [m26, sF26, Nat.reduceEqDiff, ↓reduceIte, Nat.reduceAdd, Nat.reduceMul, Value.cells, Value.oneCell', eq_self, ne_eq, Int.reduceToNat, Int.reduceEq, Int.reduceLT, Int.reduceLE, Int.reduceNeg, if_true, if_false, reduceCtorEq, Nat.reduceSub, storeV_ptr, slcV_slice, ↓mwD, mwU]
      exact ⟨0, by omega, rfl, World.ownsRow_nil _ _ _ _, ChP.refl _ _, hh⟩
    · rintro e ds wl ⟨n, hn, h24, h23, h22, he0, rfl, hown, hch, hwl⟩
      simp -dsimp -implicitDefEqProofs only [h24, h23, h22, he0, m26, sF26, Nat.reduceEqDiff, ↓reduceIte, Nat.reduceAdd, Nat.reduceMul, Value.cells, Value.oneCell', eq_self, ne_eq, Int.reduceToNat, Int.reduceEq, Int.reduceLT, Int.reduceLE, Int.reduceNeg, if_true, if_false, reduceCtorEq, Nat.reduceSub, storeV_ptr, slcV_slice, ↓mwD, mwU]
      refine iteW_dec (fun hlt' => ?_) (fun hge => ?_)
      · have hnl : n < L.length := by omega
        obtain ⟨bl, ol, cl, hv, hcl⟩ := hl.some (by omega)
        cases hv
        have cn : wl.cell? ⟨bl, ol + n, none⟩ = some (.int .i64 L[n]) := hch.cell (hd (by rintro rfl; simp at hnl) bl rfl) (hcl n _ (by simp [hnl]))
        have hb1 : (0 : Int) ≤ n ∧ (n : Int) < L.length := by omega
        have hw1 : IntKind.i64.wrap ((n : Int) + 1) = ((n + 1 : Nat) : Int) := by rw [w64 (by omega) (by omega)]; omega
        have hok := runH_ok (L.take n) ls hs (fun x hx => hsmp x (List.mem_of_mem_take hx))
        have hll : (runH ls (L.take n)).1.length = ls.length := (runH_length _ _).2
        have hrun : runH ls (L.take (n + 1)) = ((sumL (runH ls (L.take n)).1 L[n]).1, (runH ls (L.take n)).2 ++ [bnd (sumL (runH ls (L.take n)).1 L[n]).2]) := by
          rw [List.take_add_one, List.getElem?_eq_getElem hnl]; exact runH_snoc _ _ _
        have hy : Smp L[n] := hsmp L[n] (by simp)
        generalize (runH ls (L.take n)).1 = M at *
        generalize (runH ls (L.take n)).2 = O at *
        generalize L[n] = y at *
        obtain ⟨b', lp, vs, Gf, hbeq, hbk, hlp, hob, d1, d2, gb, gG⟩ := hwl
        simp only [Value.pointer.injEq, Option.some.injEq, Addr.mk.injEq, and_true] at hbeq
        subst hbeq
        have hvl : vs.length = M.length := hob.1
        have c0 := hbk.get (o := 0) rfl
        obtain ⟨pp, cp, rfl, hp1, hp2⟩ := hlp.shape
        simp -dsimp -implicitDefEqProofs only [h24, h23, h22, he0, hb1, and_self, cn, c0, m26, sF26, Nat.reduceEqDiff, ↓reduceIte, Nat.reduceAdd, Nat.reduceMul, Value.cells, Value.oneCell', eq_self, ne_eq, Int.reduceToNat, Int.reduceEq, Int.reduceLT, Int.reduceLE, Int.reduceNeg, if_true, if_false, reduceCtorEq, Nat.reduceSub, storeV_ptr, slcV_slice, ↓mwD, mwU]
        refine mwpB_loop (fun e' ds wm => ∃ m : Nat, m ≤ M.length ∧ e' 33 = .int .i64 m ∧ e' 32 = .int .i64 vs.length ∧ e' 31 = .slice pp vs.length cp ∧ e' 0 = .pointer (some ⟨bh, 0, none⟩) ∧ e' 8 = .int .i64 y ∧ e' 9 = .int .i64 (sumL (M.take m) y).2 ∧
          e' 24 = .int .i64 n ∧ e' 23 = .int .i64 L.length ∧ e' 22 = .slice (some ⟨bl, ol, none⟩) L.length cap ∧ e' 6 = e 6 ∧ ds = [] ∧ FrP G wl wm ∧ Bk wm bh [.slice pp vs.length cp, .bool eq] 73 ∧ Sl wm (.slice pp vs.length cp) vs ∧ Objs LaneIn wm vs Gf ((sumL (M.take m) y).1 ++ M.drop m))
          (fun e _ => M.length - (intOf (e 33)).toNat) ?_ ?_
        · simp -dsimp -implicitDefEqProofs only [h24, h23, h22, he0, m26, sF26, Nat.reduceEqDiff, ↓reduceIte, Nat.reduceAdd, Nat.reduceMul, Value.cells, Value.oneCell', eq_self, ne_eq, Int.reduceToNat, Int.reduceEq, Int.reduceLT, Int.reduceLE, Int.reduceNeg, if_true, if_false, reduceCtorEq, Nat.reduceSub, storeV_ptr, slcV_slice, ↓mwD, mwU]
          exact ⟨0, by omega, rfl, by simp [sumL], FrP.refl _ _, hbk, hlp, by simpa [sumL] using hob⟩
        · rintro e1 ds wm ⟨m, hm, m33, m32, m31, m0, m8, m9, m24, m23, m22, m6, rfl, hfr, hbm, hlm, hom⟩
          simp -dsimp -implicitDefEqProofs only [m33, m32, m31, m0, m26, sF26, Nat.reduceEqDiff, ↓reduceIte, Nat.reduceAdd, Nat.reduceMul, Value.cells, Value.oneCell', eq_self, ne_eq, Int.reduceToNat, Int.reduceEq, Int.reduceLT, Int.reduceLE, Int.reduceNeg, if_true, if_false, reduceCtorEq, Nat.reduceSub, storeV_ptr, slcV_slice, ↓mwD, mwU]
          refine iteW_dec (fun hmlt => ?_) (fun hmge => ?_)
          · have hml : m < M.length := by omega
            have hmv : m < vs.length := by omega
            have hsl : (sumL (M.take m) y).1.length = m := by rw [sumL_length, List.length_take]; omega
            have hdrop : M.drop m = M[m] :: M.drop (m + 1) := List.drop_eq_getElem_cons hml
            rw [hdrop] at hom
            have hlane : LaneIn wm vs[m] (Gf m) M[m] := hom.2.1 m vs[m] M[m] (by simp [hmv]) (midset _ _ M[m] M[m] m hsl).1
            obtain ⟨bv, ov, cv, hpe, hcv⟩ := Sl.get hlm (i := m) (u := vs[m]) (by simp [hmv])
            simp only [Value.slice.injEq, true_and] at hpe
            obtain ⟨rfl, rfl⟩ := hpe
            have hMok : M[m].ok := hok.1 M[m] (by simp)
            obtain ⟨b1, r1, cs1, up, us, Gu, hve, hh1, hu2, hup, hou, e1d, e2d, g1, g2, g3⟩ := hlane
            rw [hve] at hcv
            have hbd : (0 : Int) ≤ m ∧ (m : Int) < vs.length := by omega
            have hw2 : IntKind.i64.wrap ((m : Int) + 1) = ((m + 1 : Nat) : Int) := by rw [w64 (by omega) (by omega)]; omega
            simp -dsimp -implicitDefEqProofs only [m33, m32, m31, m0, m8, hbd, and_self, hcv, m26, sF26, Nat.reduceEqDiff, ↓reduceIte, Nat.reduceAdd, Nat.reduceMul, Value.cells, Value.oneCell', eq_self, ne_eq, Int.reduceToNat, Int.reduceEq, Int.reduceLT, Int.reduceLE, Int.reduceNeg, if_true, if_false, reduceCtorEq, Nat.reduceSub, storeV_ptr, slcV_slice, ↓mwD, mwU]
            refine (kept_c b1 0 r1 M[m].h cs1 _ y wm hh1).use ?_
            rintro r2 w2 ⟨rfl, hf2, u2, hh2⟩
            have ho0 : cs1.length > 2 := (List.getElem?_eq_some_iff.1 hu2).1
            have hu2' : (cs1.set (0 + 1) u2)[2]? = some up := by rw [List.getElem?_set_ne (by omega)]; exact hu2
            have hb2 := hh2.bk
            have cu := hb2.get hu2'
            have hfp2 : FrP (fun b => b = b1 ∨ b = r1) wm w2 := hf2.frp (by simp)
            have hup2 : Sl w2 up us := hfp2.sl (fun hne q hq => by have := e2d hne q hq; simp [this.1, this.2.1]) hup
            have hou2 : Objs UnitIn w2 us Gu M[m].us := hou.same UnitIn.local_ fun i hi q hq => hfp2.block q (by
              rintro (rfl | rfl)
              · exact (e1d i hi).1 hq
              · exact (e1d i hi).2 hq)
            obtain ⟨pu, cu', rfl, hpu1, hpu2⟩ := hup2.shape
            have hul : us.length = M[m].us.length := hou2.1
            have hz : Smp (keptI M[m].h y) := hMok.1.kept hy
            simp -dsimp -implicitDefEqProofs only [cu, m26, sF26, Nat.reduceEqDiff, ↓reduceIte, Nat.reduceAdd, Nat.reduceMul, Value.cells, Value.oneCell', eq_self, ne_eq, Int.reduceToNat, Int.reduceEq, Int.reduceLT, Int.reduceLE, Int.reduceNeg, if_true, if_false, reduceCtorEq, Nat.reduceSub, storeV_ptr, slcV_slice, ↓mwD, mwU]
            generalize hzz : keptI M[m].h y = z at *
            refine mwpB_loop (fun e' ds wi => ∃ j : Nat, j ≤ us.length ∧ e' 47 = .int .i64 j ∧ e' 46 = .int .i64 us.length ∧ e' 45 = .slice pu us.length cu' ∧ e' 12 = .int .i64 (runUs (M[m].us.take j) z).2 ∧
              e' 33 = .int .i64 m ∧ e' 32 = .int .i64 vs.length ∧ e' 31 = .slice (some ⟨bv, ov, none⟩) vs.length cp ∧ e' 0 = .pointer (some ⟨bh, 0, none⟩) ∧ e' 8 = .int .i64 y ∧ e' 9 = .int .i64 (sumL (M.take m) y).2 ∧
              e' 24 = .int .i64 n ∧ e' 23 = .int .i64 L.length ∧ e' 22 = .slice (some ⟨bl, ol, none⟩) L.length cap ∧ e' 6 = e 6 ∧ ds = [] ∧
              FrP (fun b => ∃ i, i < us.length ∧ Gu i b) w2 wi ∧ Objs UnitIn wi us Gu ((runUs (M[m].us.take j) z).1 ++ M[m].us.drop j)) (fun e _ => us.length - (intOf (e 47)).toNat) ?_ ?_
            · simp -dsimp -implicitDefEqProofs only [m33, m32, m31, m0, m8, m9, m24, m23, m22, m6, m26, sF26, Nat.reduceEqDiff, ↓reduceIte, Nat.reduceAdd, Nat.reduceMul, Value.cells, Value.oneCell', eq_self, ne_eq, Int.reduceToNat, Int.reduceEq, Int.reduceLT, Int.reduceLE, Int.reduceNeg, if_true, if_false, reduceCtorEq, Nat.reduceSub, storeV_ptr, slcV_slice, ↓mwD, mwU]
              exact ⟨0, by omega, rfl, by simp [runUs], FrP.refl _ _, by simpa [runUs] using hou2⟩
            · rintro e2 ds wi ⟨j, hj, j47, j46, j45, j12, j33, j32, j31, j0, j8, j9, j24, j23, j22, j6, rfl, hfi, hoi⟩
              have hokj := runUs_ok (M[m].us.take j) z (fun x hx => hMok.2 x (List.mem_of_mem_take hx)) hz
              simp -dsimp -implicitDefEqProofs only [j47, j46, j45, m26, sF26, Nat.reduceEqDiff, ↓reduceIte, Nat.reduceAdd, Nat.reduceMul, Value.cells, Value.oneCell', eq_self, ne_eq, Int.reduceToNat, Int.reduceEq, Int.reduceLT, Int.reduceLE, Int.reduceNeg, if_true, if_false, reduceCtorEq, Nat.reduceSub, storeV_ptr, slcV_slice, ↓mwD, mwU]
              refine iteW_dec (fun hjlt => ?_) (fun hjge => ?_)
              · have hjl : j < us.length := by omega
                have hjl' : j < M[m].us.length := by omega
                have hsl2 : (runUs (M[m].us.take j) z).1.length = j := by rw [runUs_length, List.length_take]; omega
                have hdrop2 : M[m].us.drop j = M[m].us[j] :: M[m].us.drop (j + 1) := List.drop_eq_getElem_cons hjl'
                rw [hdrop2] at hoi
                have hunit : UnitIn wi us[j] (Gu j) M[m].us[j] := hoi.2.1 j us[j] M[m].us[j] (by simp [hjl]) (midset _ _ M[m].us[j] M[m].us[j] j hsl2).1
                have hslu : Sl wi (.slice pu us.length cu') us := hfi.sl (fun hne q hq => by rintro ⟨i, hi, hgi⟩; exact (e2d hne q hq).2.2.2 i hi hgi) hup2
                obtain ⟨bu, ou, cu2, hpe2, hcu2⟩ := Sl.get hslu (i := j) (u := us[j]) (by simp [hjl])
                simp only [Value.slice.injEq, true_and] at hpe2
                obtain ⟨rfl, rfl⟩ := hpe2
                obtain ⟨b5, ti, p5, f5, hv5, hc5, hme5, hof5, hst5⟩ := unitIn_step hunit (hMok.2 _ (by simp)) hokj.2
                rw [hv5] at hcu2
                have hbj : (0 : Int) ≤ j ∧ (j : Int) < us.length := by omega
                have hwj := w64_succ hjl (Nat.le_trans hpu1 hpu2)
                simp -dsimp -implicitDefEqProofs only [j47, j46, j45, j12, hbj, and_self, hcu2, hc5, hme5, hof5, m26, sF26, Nat.reduceEqDiff, ↓reduceIte, Nat.reduceAdd, Nat.reduceMul, Value.cells, Value.oneCell', eq_self, ne_eq, Int.reduceToNat, Int.reduceEq, Int.reduceLT, Int.reduceLE, Int.reduceNeg, if_true, if_false, reduceCtorEq, Nat.reduceSub, storeV_ptr, slcV_slice, ↓mwD, mwU]
                refine hst5.use ?_
                rintro r5 w5 ⟨rfl, hun5, hfr5⟩
                have hsn : runUs (M[m].us.take (j + 1)) z = ((runUs (M[m].us.take j) z).1 ++ [M[m].us[j].step (runUs (M[m].us.take j) z).2], (stepU M[m].us[j].s (runUs (M[m].us.take j) z).2).2) := by
                  rw [List.take_add_one, List.getElem?_eq_getElem hjl']; exact runUs_snoc _ _ _
                simp -dsimp -implicitDefEqProofs only [j47, j46, j45, hwj, j33, j32, j31, j0, j8, j9, j24, j23, j22, j6, m26, sF26, Nat.reduceEqDiff, ↓reduceIte, Nat.reduceAdd, Nat.reduceMul, Value.cells, Value.oneCell', eq_self, ne_eq, Int.reduceToNat, Int.reduceEq, Int.reduceLT, Int.reduceLE, Int.reduceNeg, if_true, if_false, reduceCtorEq, Nat.reduceSub, storeV_ptr, slcV_slice, ↓mwD, mwU]
                refine ⟨⟨j + 1, by omega, rfl, by rw [hsn], hfi.trans (hfr5.mono fun b hb => ⟨j, hjl, hb⟩), ?_⟩, by simp only [intOf]; omega⟩
                rw [hsn]
                have := hoi.update UnitIn.local_ (i := j) (v := us[j]) (s' := M[m].us[j].step (runUs (M[m].us.take j) z).2) (by simp [hjl]) hfr5 hun5
                rw [(midset _ _ M[m].us[j] _ j hsl2).2] at this
                exact this
              · have hjl : j = us.length := by omega
                subst hjl
                rw [hul, List.take_length] at j12
                rw [hul, List.take_length, List.drop_length, List.append_nil] at hoi
                have hsum := sumL_ok (M.take m) y (fun x hx => hok.1 x (List.mem_of_mem_take hx)) hy
                rw [List.length_take, Nat.min_eq_left hm] at hsum
                have hout := (runUs_ok M[m].us z hMok.2 hz).2
                have hsn : sumL (M.take (m + 1)) y = ((sumL (M.take m) y).1 ++ [(runL M[m] y).1], (sumL (M.take m) y).2 + (runL M[m] y).2) := by
                  rw [List.take_add_one, List.getElem?_eq_getElem hml]; exact sumL_snoc _ _ _
                have hrl : runL M[m] y = ({ h := pushL M[m].h y, us := (runUs M[m].us z).1 }, (runUs M[m].us z).2) := by rw [runL, hzz]
                have hws : IntKind.i64.wrap ((sumL (M.take m) y).2 + (runUs M[m].us z).2) = (sumL (M.take (m + 1)) y).2 := by
                  rw [hsn, hrl]
                  have := hout.1
                  have := hout.2
                  exact w64 (by omega) (by omega)
                have hfw : FrP (Gf m) wm wi := (hf2.frp (by simp [g1, g2])).trans (hfi.mono fun b ⟨i, hi, hb⟩ => g3 i hi b hb)
                simp -dsimp -implicitDefEqProofs only [j12, j9, hws, j33, hw2, j32, j31, j0, j8, j24, j23, j22, j6, m26, sF26, Nat.reduceEqDiff, ↓reduceIte, Nat.reduceAdd, Nat.reduceMul, Value.cells, Value.oneCell', eq_self, ne_eq, Int.reduceToNat, Int.reduceEq, Int.reduceLT, Int.reduceLE, Int.reduceNeg, if_true, if_false, reduceCtorEq, Nat.reduceSub, storeV_ptr, slcV_slice, ↓mwD, mwU]
                refine ⟨⟨m + 1, by omega, rfl, rfl, hfr.trans (hfw.mono fun b hb => gG m hmv b hb), hfw.bk (d1 m hmv) hbm, hfw.sl (fun hne q hq => (d2 hne q hq).2.2 m hmv) hlm, ?_⟩, by simp only [intOf, m33]; omega⟩
                rw [hsn]
                have hln : LaneIn wi vs[m] (Gf m) (runL M[m] y).1 := by
                  rw [hrl, hve]
                  exact ⟨b1, r1, _, _, us, Gu, rfl, hfi.hist (by rintro ⟨i, hi, hb⟩; exact (e1d i hi).1 hb) (by rintro ⟨i, hi, hb⟩; exact (e1d i hi).2 hb) hh2, hu2', hfi.sl (fun hne q hq => by rintro ⟨i, hi, hgi⟩; exact (e2d hne q hq).2.2.2 i hi hgi) hup2, hoi, e1d, e2d, g1, g2, g3⟩
                have := hom.update LaneIn.local_ (i := m) (v := vs[m]) (by simp [hmv]) hfw hln
                rw [(midset _ _ M[m] _ m hsl).2] at this
                exact this
          · have hml : m = M.length := by omega
            subst hml
            rw [List.take_length] at m9 hom
            rw [List.drop_length, List.append_nil] at hom
            have hcw : ChP G w' wm := hch.trans hfr.chp
            have hown1 : wm.ownsRow w'.heap.size 3 1 (e 6) n (ints O) := Own.same hown fun q hq _ => hfr.block q (fun hm => by have := hG q hm; omega)
            simp -dsimp -implicitDefEqProofs only [m9, m6, m26, sF26, Nat.reduceEqDiff, ↓reduceIte, Nat.reduceAdd, Nat.reduceMul, Value.cells, Value.oneCell', eq_self, ne_eq, Int.reduceToNat, Int.reduceEq, Int.reduceLT, Int.reduceLE, Int.reduceNeg, if_true, if_false, reduceCtorEq, Nat.reduceSub, storeV_ptr, slcV_slice, ↓mwD, mwU]
            refine (bound_c _ _).use ?_
            rintro r6 w6 ⟨rfl, rfl⟩
            simp -dsimp -implicitDefEqProofs only [bs_one, m6, m26, sF26, Nat.reduceEqDiff, ↓reduceIte, Nat.reduceAdd, Nat.reduceMul, Value.cells, Value.oneCell', eq_self, ne_eq, Int.reduceToNat, Int.reduceEq, Int.reduceLT, Int.reduceLE, Int.reduceNeg, if_true, if_false, reduceCtorEq, Nat.reduceSub, storeV_ptr, slcV_slice, ↓mwD, mwU]
            obtain ⟨v7, w7, ha7, hown7, hg7⟩ := append_int hown1 (bnd (sumL M y).2) (by omega) hcw.size
            refine appB.mk ha7 ?_
            have hge := Own.ge hown1
            have hsm7 : Same G w6 w7 := fun b hb => by
              have hb' := hG b hb
              have := hcw.size
              exact (hg7.block b (by simp; omega) (fun he => by have := hge b he.symm; omega)).trans (Below.heap_alloc _ _ _ (by omega))
            simp -dsimp -implicitDefEqProofs only [m24, m23, m22, m0, hw1, m26, sF26, Nat.reduceEqDiff, ↓reduceIte, Nat.reduceAdd, Nat.reduceMul, Value.cells, Value.oneCell', eq_self, ne_eq, Int.reduceToNat, Int.reduceEq, Int.reduceLT, Int.reduceLE, Int.reduceNeg, if_true, if_false, reduceCtorEq, Nat.reduceSub, storeV_ptr, slcV_slice, ↓mwD, mwU]
            refine ⟨⟨n + 1, by omega, rfl, by rw [hrun]; exact hown7, (hcw.trans (Ext.chp (Ext.alloc _ _))).grown hg7 hge, ?_⟩, by simp only [intOf, h24]; omega⟩
            rw [hrun]
            exact ⟨bh, _, vs, Gf, rfl, hbm.same hsm7 gb, Sl.same hlm hsm7 (fun hne q hq => (d2 hne q hq).2.1), hom.same LaneIn.local_ (fun i hi q hq => hsm7 q (gG i hi q hq)), d1, d2, gb, gG⟩
      · have hnl : n = L.length := by omega
        subst hnl
        rw [List.take_length] at hown hwl
        simp -dsimp -implicitDefEqProofs only [h24, h23, h22, he0, m26, sF26, Nat.reduceEqDiff, ↓reduceIte, Nat.reduceAdd, Nat.reduceMul, Value.cells, Value.oneCell', eq_self, ne_eq, Int.reduceToNat, Int.reduceEq, Int.reduceLT, Int.reduceLE, Int.reduceNeg, if_true, if_false, reduceCtorEq, Nat.reduceSub, storeV_ptr, slcV_slice, ↓mwD, mwU]
        exact ⟨_, rfl, Own.sl hown, hwl, hch, Own.ge hown⟩

end Go.Proofs.Ytefcfnmmpnjjjaa

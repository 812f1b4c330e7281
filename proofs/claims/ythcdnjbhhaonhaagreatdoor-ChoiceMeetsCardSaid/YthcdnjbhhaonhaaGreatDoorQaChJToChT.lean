/- Layer 02: package format's meet. -/
import Derived.Test.YthcdnjbhhaonhaaGreatDoorQaChGToChI

namespace Go.Proofs.YthcdnjbhhaonhaaGreatDoor
open Go.RowKit
set_option linter.unusedSimpArgs false

theorem fit_kL {k d d' : Int} {L : List Int} (h : Fit ⟨k, d, L⟩) : Fit ⟨k, d', L⟩ := by
  rcases h with h | ⟨⟨h1, h2, h3, h4, h5, h6⟩, hk⟩
  · exact .inl h
  · exact .inr ⟨⟨h1, h2, h3, h4, h5, h6⟩, hk⟩
theorem valid_ne {c : Ch} (h : c.valid = true) : 1 ≤ c.L.length := by
  cases hl : c.lsd
  · have := (valid_rg h hl).2; omega
  · exact (valid_list h hl).1
theorem own_ne {w : World} {base b : Nat} {e t : TypeId} {size n : Nat} {v : Value} {cs ds : List Value} (h : w.ownsRow base e size v n cs) (hb : Bk w b ds t) (hne : e ≠ t) : v.ownBlock ≠ some b := fun he => by
  rcases h.2 with ⟨hv, _⟩ | ⟨g, cap, cur, hv, hg, hh, _⟩
  · rw [hv] at he; cases he
  · rw [hv] at he
    simp only [Value.ownBlock, Option.some.injEq] at he
    subst he
    unfold Bk at hb
    rw [hb] at hh
    simp only [Option.some.injEq, Obj.cells.injEq] at hh
    exact hne hh.2.1.symm
/-- While the defaults are tried: what the blocks hold. -/
structure MeetS (a b : Ch) (w w' : World) (blk sl : Nat) (K : Int) (L : List Int) (q : Option Addr) (c : Nat) (d : Int) : Prop where
  ext : Ext w w'
  gt : w.heap.size + 3 ≤ blk
  lt : blk < sl
  C : Bk w' (w.heap.size + 2) [.int .i64 0, .int .i64 0, .slice none 0 0] 35
  bk : Bk w' blk [.int .i64 K, .int .i64 d, .slice q L.length c] 35
  sl : Bk w' sl [.int .i64 b.d, .int .i64 a.d] 3
  own : w'.ownsRow w.heap.size 3 1 (.slice q L.length c) L.length (ints L)
  off : (Value.slice q L.length c).ownBlock ≠ some blk
theorem MeetS.next {a b : Ch} {w w' w2 : World} {blk sl : Nat} {K : Int} {L : List Int} {q : Option Addr} {c : Nat} {d : Int} (h : MeetS a b w w' blk sl K L q c d) (hx : Ext w' w2) : MeetS a b w w2 blk sl K L q c d :=
  ⟨h.ext.trans hx, h.gt, h.lt, h.C.ext hx, h.bk.ext hx, h.sl.ext hx, Own.ext h.own hx, h.off⟩
theorem MeetS.set {a b : Ch} {w w' : World} {blk sl : Nat} {K : Int} {L : List Int} {q : Option Addr} {c : Nat} {d : Int} (h : MeetS a b w w' blk sl K L q c d) (d' : Int) : MeetS a b w (w'.setCell ⟨blk, 1, none⟩ (.int .i64 d')) blk sl K L q c d' :=
  ⟨h.ext.setCell (by have := h.gt; simp only; omega) _, h.gt, h.lt, h.C.ne (by have := h.gt; omega) _ _, h.bk.set 1 _, h.sl.ne (by have := h.lt; omega) _ _, Own.off h.own h.off, h.off⟩

theorem meet_c (a b : Ch) (sa sb : Value) (w : World) (va : a.valid = true) (vb : b.valid = true) (ha : SlI w sa a.L) (hb : SlI w sb b.L) :
    Rets Go.Proofs.Tryz.prog 68 #[chV a sa, chV b sb] w fun r w' => Ext w w' ∧ ∃ o, Met a b o ∧ match o with
      | none => r = .tuple #[.agg #[.int .i64 0, .int .i64 0, .slice none 0 0], .bool false]
      | some c => ∃ v, r = .tuple #[chV c v, .bool true] ∧ w'.ownsRow w.heap.size 3 1 v c.L.length (ints c.L) := by
  have fa := valid_fit va
  have fb := valid_fit vb
  have na := valid_len va
  have nb := valid_len vb
  obtain ⟨W, hW, h⟩ : ∃ W, W = ((w.alloc (.cells #[.int .i64 a.k, .int .i64 a.d, sa] 35)).alloc (.cells #[.int .i64 b.k, .int .i64 b.d, sb] 35)).alloc (.cells #[.int .i64 0, .int .i64 0, .slice none 0 0] 35) ∧ Own3 a b sa sb w W := by
    refine ⟨_, rfl, ((Ext.alloc _ _).trans (Ext.alloc _ _)).trans (Ext.alloc _ _), by simp only [World.size_alloc]; omega, ?_, ?_, ?_⟩
    · exact ((Bk.new w (cellsOf a sa) _).ext (Ext.alloc _ _)).ext (Ext.alloc _ _)
    · have := (Bk.new (w.alloc (.cells #[.int .i64 a.k, .int .i64 a.d, sa] 35)) (cellsOf b sb) 35).ext (Ext.alloc _ (.cells #[.int .i64 0, .int .i64 0, .slice none 0 0] 35))
      rw [World.size_alloc] at this
      exact this
    · have := Bk.new ((w.alloc (.cells #[.int .i64 a.k, .int .i64 a.d, sa] 35)).alloc (.cells #[.int .i64 b.k, .int .i64 b.d, sb] 35)) [.int .i64 0, .int .i64 0, .slice none 0 0] 35
      rw [World.size_alloc, World.size_alloc] at this
      exact this
  obtain ⟨pa, ca, rfl, _, _⟩ := ha.shape
  obtain ⟨pb, cb, rfl, _, _⟩ := hb.shape
  have A0 := h.A.get (o := 0) rfl
  have A1 := h.A.get (o := 1) rfl
  have A2 := h.A.get (o := 2) rfl
  have B0 := h.B.get (o := 0) rfl
  have B1 := h.B.get (o := 1) rfl
  have B2 := h.B.get (o := 2) rfl
  obtain ⟨ui, hix1, hix2⟩ := meet_ix a b
  have okf := (meetF_c a b _ _ w fa fb ha hb (by omega) (by omega)).1
  replace na : a.L.length ≤ 1000000 := by omega
  replace nb : b.L.length ≤ 1000000 := by omega
  refine en68 ?_
  refine mwpB_cut 2 (fun e ds w' => e 2 = .pointer (some ⟨w.heap.size, 0, none⟩) ∧ e 3 = .pointer (some ⟨w.heap.size + 1, 0, none⟩) ∧ e 4 = .pointer (some ⟨w.heap.size + 2, 0, none⟩) ∧ ds = [] ∧ MidM a b (.slice pa a.L.length ca) (.slice pb b.L.length cb) w w' (e 6) (e 7)) ?_ ?_
  · simp -dsimp -implicitDefEqProofs only [chV, headM_zero, headM_seq, m68, sF68, Nat.reduceEqDiff, ↓reduceIte, Nat.reduceAdd, Nat.reduceMul, Value.cells, Value.oneCell', eq_self, ne_eq, Int.reduceToNat, Int.reduceEq, Int.reduceLT, Int.reduceLE, Int.reduceNeg, if_true, if_false, reduceCtorEq, Nat.reduceSub, storeV_ptr, slcV_slice, ↓mwD, mwU]
    simp only [World.size_alloc, Nat.add_assoc, Nat.reduceAdd]
    rw [← hW]
    clear hW
    refine mwpB_drawE ?_
    -- BEGIN orders
    have E0 : Ext W.drew (W.drew.alloc (.cells #[.int .i64 0, .int .i64 0, .slice none 0 0] 35)) := Ext.alloc _ _
    have D0 : Ext W.drew W.drew := Ext.refl _
    simp -dsimp -implicitDefEqProofs only [E0, D0, planEB_two, A0, A1, A2, B0, B1, B2, hix1, hix2, fnv, okf, m68, sF68, Nat.reduceEqDiff, ↓reduceIte, Nat.reduceAdd, Nat.reduceMul, Value.cells, Value.oneCell', eq_self, ne_eq, Int.reduceToNat, Int.reduceEq, Int.reduceLT, Int.reduceLE, Int.reduceNeg, if_true, if_false, reduceCtorEq, Nat.reduceSub, storeV_ptr, slcV_slice, ↓mwD, mwU]
    refine ⟨?_, ?_⟩
    · refine (meetings_c _).use ?_
      rintro r u1 ⟨rfl, t1⟩
      have D1 : Ext W.drew u1 := (D0).trans t1
      have E1 : Ext W.drew (u1.alloc (.cells #[.int .i64 0, .int .i64 0, .slice none 0 0] 35)) := D1.trans (Ext.alloc _ _)
      simp -dsimp -implicitDefEqProofs only [D1, E1, planEB_two, A0, A1, A2, B0, B1, B2, hix1, hix2, fnv, okf, m68, sF68, Nat.reduceEqDiff, ↓reduceIte, Nat.reduceAdd, Nat.reduceMul, Value.cells, Value.oneCell', eq_self, ne_eq, Int.reduceToNat, Int.reduceEq, Int.reduceLT, Int.reduceLE, Int.reduceNeg, if_true, if_false, reduceCtorEq, Nat.reduceSub, storeV_ptr, slcV_slice, ↓mwD, mwU]
      refine ⟨?_, ?_⟩
      · refine (form_c a _ _).use ?_
        rintro r u2 ⟨rfl, t2⟩
        have D2 : Ext W.drew u2 := (D1).trans t2
        have E2 : Ext W.drew (u2.alloc (.cells #[.int .i64 0, .int .i64 0, .slice none 0 0] 35)) := D2.trans (Ext.alloc _ _)
        simp -dsimp -implicitDefEqProofs only [D2, E2, planEB_two, A0, A1, A2, B0, B1, B2, hix1, hix2, fnv, okf, m68, sF68, Nat.reduceEqDiff, ↓reduceIte, Nat.reduceAdd, Nat.reduceMul, Value.cells, Value.oneCell', eq_self, ne_eq, Int.reduceToNat, Int.reduceEq, Int.reduceLT, Int.reduceLE, Int.reduceNeg, if_true, if_false, reduceCtorEq, Nat.reduceSub, storeV_ptr, slcV_slice, ↓mwD, mwU]
        refine ⟨?_, ?_⟩
        · refine (form_c b _ _).use ?_
          rintro r u3 ⟨rfl, t3⟩
          have D3 : Ext W.drew u3 := (D2).trans t3
          have E3 : Ext W.drew (u3.alloc (.cells #[.int .i64 0, .int .i64 0, .slice none 0 0] 35)) := D3.trans (Ext.alloc _ _)
          simp -dsimp -implicitDefEqProofs only [D3, E3, planEB_two, A0, A1, A2, B0, B1, B2, hix1, hix2, fnv, okf, m68, sF68, Nat.reduceEqDiff, ↓reduceIte, Nat.reduceAdd, Nat.reduceMul, Value.cells, Value.oneCell', eq_self, ne_eq, Int.reduceToNat, Int.reduceEq, Int.reduceLT, Int.reduceLE, Int.reduceNeg, if_true, if_false, reduceCtorEq, Nat.reduceSub, storeV_ptr, slcV_slice, ↓mwD, mwU]
          refine ⟨?_, ?_⟩
          · refine (numbers_c a _ _ (ha.ext (h.ext.trans ((Ext.drew W).trans D3)))).use ?_
            rintro r u4 ⟨rfl, t4⟩
            have D4 : Ext W.drew u4 := (D3).trans t4
            have E4 : Ext W.drew (u4.alloc (.cells #[.int .i64 0, .int .i64 0, .slice none 0 0] 35)) := D4.trans (Ext.alloc _ _)
            simp -dsimp -implicitDefEqProofs only [D4, E4, planEB_two, A0, A1, A2, B0, B1, B2, hix1, hix2, fnv, okf, m68, sF68, Nat.reduceEqDiff, ↓reduceIte, Nat.reduceAdd, Nat.reduceMul, Value.cells, Value.oneCell', eq_self, ne_eq, Int.reduceToNat, Int.reduceEq, Int.reduceLT, Int.reduceLE, Int.reduceNeg, if_true, if_false, reduceCtorEq, Nat.reduceSub, storeV_ptr, slcV_slice, ↓mwD, mwU]
            refine ⟨?_, ?_⟩
            · refine (numbers_c b _ _ (hb.ext (h.ext.trans ((Ext.drew W).trans D4)))).use ?_
              rintro r u5 ⟨rfl, t5⟩
              have D5 : Ext W.drew u5 := (D4).trans t5
              have E5 : Ext W.drew (u5.alloc (.cells #[.int .i64 0, .int .i64 0, .slice none 0 0] 35)) := D5.trans (Ext.alloc _ _)
              simp -dsimp -implicitDefEqProofs only [D5, E5, planEB_two, A0, A1, A2, B0, B1, B2, hix1, hix2, fnv, okf, m68, sF68, Nat.reduceEqDiff, ↓reduceIte, Nat.reduceAdd, Nat.reduceMul, Value.cells, Value.oneCell', eq_self, ne_eq, Int.reduceToNat, Int.reduceEq, Int.reduceLT, Int.reduceLE, Int.reduceNeg, if_true, if_false, reduceCtorEq, Nat.reduceSub, storeV_ptr, slcV_slice, ↓mwD, mwU]
              refine ⟨?_, ?_⟩
              · refine (meetF_c a b _ _ _ fa fb (ha.ext (h.ext.trans ((Ext.drew W).trans D5))) (hb.ext (h.ext.trans ((Ext.drew W).trans D5))) na nb).2.use ?_
                rintro r v6 hr
                obtain ⟨x, y, z, ok, rfl, hz, t6, hmid⟩ := mid_after h ((Ext.drew W).trans D5) hr
                have D6 : Ext W.drew v6 := (D5).trans t6
                have E6 : Ext W.drew (v6.alloc (.cells #[.int .i64 0, .int .i64 0, .slice none 0 0] 35)) := D6.trans (Ext.alloc _ _)
                simp -dsimp -implicitDefEqProofs only [D6, E6, hz, setCell_new, m68, sF68, Nat.reduceEqDiff, ↓reduceIte, Nat.reduceAdd, Nat.reduceMul, Value.cells, Value.oneCell', eq_self, ne_eq, Int.reduceToNat, Int.reduceEq, Int.reduceLT, Int.reduceLE, Int.reduceNeg, if_true, if_false, reduceCtorEq, Nat.reduceSub, storeV_ptr, slcV_slice, ↓mwD, mwU]
                exact ⟨hz, hmid⟩
              · refine (meetF_c a b _ _ _ fa fb (ha.ext (h.ext.trans ((Ext.drew W).trans E5))) (hb.ext (h.ext.trans ((Ext.drew W).trans E5))) na nb).2.use ?_
                rintro r v7 hr
                obtain ⟨x, y, z, ok, rfl, hz, t6, hP, hmid⟩ := mid_before (blk := u5.heap.size) h ((Ext.drew W).trans E5) ((Ext.drew W).trans D5).le ((Bk.new u5 [.int .i64 0, .int .i64 0, .slice none 0 0] 35).ext (Ext.refl (u5.alloc (.cells #[.int .i64 0, .int .i64 0, .slice none 0 0] 35)))) hr
                obtain ⟨y0, c0⟩ := hP.c0
                obtain ⟨y1, c1⟩ := hP.c1
                obtain ⟨y2, c2⟩ := hP.c2
                have z0 := hP.z0
                have z1 := hP.z1
                have z2 := hP.z2
                have D6 : Ext W.drew v7 := (E5).trans t6
                simp -dsimp -implicitDefEqProofs only [D6, hz, c0, c1, c2, z0, z1, z2, m68, sF68, Nat.reduceEqDiff, ↓reduceIte, Nat.reduceAdd, Nat.reduceMul, Value.cells, Value.oneCell', eq_self, ne_eq, Int.reduceToNat, Int.reduceEq, Int.reduceLT, Int.reduceLE, Int.reduceNeg, if_true, if_false, reduceCtorEq, Nat.reduceSub, storeV_ptr, slcV_slice, ↓mwD, mwU]
                exact ⟨hz, hmid⟩
            · refine (numbers_c b _ _ (hb.ext (h.ext.trans ((Ext.drew W).trans E4)))).use ?_
              rintro r u8 ⟨rfl, t8⟩
              have D8 : Ext W.drew u8 := (E4).trans t8
              have T8 := ((Ext.refl (u4.alloc (.cells #[.int .i64 0, .int .i64 0, .slice none 0 0] 35)))).trans t8
              simp -dsimp -implicitDefEqProofs only [D8, A0, A1, A2, B0, B1, B2, hix1, hix2, fnv, okf, m68, sF68, Nat.reduceEqDiff, ↓reduceIte, Nat.reduceAdd, Nat.reduceMul, Value.cells, Value.oneCell', eq_self, ne_eq, Int.reduceToNat, Int.reduceEq, Int.reduceLT, Int.reduceLE, Int.reduceNeg, if_true, if_false, reduceCtorEq, Nat.reduceSub, storeV_ptr, slcV_slice, ↓mwD, mwU]
              refine (meetF_c a b _ _ _ fa fb (ha.ext (h.ext.trans ((Ext.drew W).trans D8))) (hb.ext (h.ext.trans ((Ext.drew W).trans D8))) na nb).2.use ?_
              rintro r v9 hr
              obtain ⟨x, y, z, ok, rfl, hz, t6, hP, hmid⟩ := mid_before (blk := u4.heap.size) h ((Ext.drew W).trans D8) ((Ext.drew W).trans D4).le ((Bk.new u4 [.int .i64 0, .int .i64 0, .slice none 0 0] 35).ext T8) hr
              obtain ⟨y0, c0⟩ := hP.c0
              obtain ⟨y1, c1⟩ := hP.c1
              obtain ⟨y2, c2⟩ := hP.c2
              have z0 := hP.z0
              have z1 := hP.z1
              have z2 := hP.z2
              have D6 : Ext W.drew v9 := (D8).trans t6
              simp -dsimp -implicitDefEqProofs only [D6, hz, c0, c1, c2, z0, z1, z2, m68, sF68, Nat.reduceEqDiff, ↓reduceIte, Nat.reduceAdd, Nat.reduceMul, Value.cells, Value.oneCell', eq_self, ne_eq, Int.reduceToNat, Int.reduceEq, Int.reduceLT, Int.reduceLE, Int.reduceNeg, if_true, if_false, reduceCtorEq, Nat.reduceSub, storeV_ptr, slcV_slice, ↓mwD, mwU]
              exact ⟨hz, hmid⟩
          · refine (numbers_c a _ _ (ha.ext (h.ext.trans ((Ext.drew W).trans E3)))).use ?_
            rintro r u10 ⟨rfl, t10⟩
            have D10 : Ext W.drew u10 := (E3).trans t10
            have T10 := ((Ext.refl (u3.alloc (.cells #[.int .i64 0, .int .i64 0, .slice none 0 0] 35)))).trans t10
            simp -dsimp -implicitDefEqProofs only [D10, A0, A1, A2, B0, B1, B2, hix1, hix2, fnv, okf, m68, sF68, Nat.reduceEqDiff, ↓reduceIte, Nat.reduceAdd, Nat.reduceMul, Value.cells, Value.oneCell', eq_self, ne_eq, Int.reduceToNat, Int.reduceEq, Int.reduceLT, Int.reduceLE, Int.reduceNeg, if_true, if_false, reduceCtorEq, Nat.reduceSub, storeV_ptr, slcV_slice, ↓mwD, mwU]
            refine (numbers_c b _ _ (hb.ext (h.ext.trans ((Ext.drew W).trans D10)))).use ?_
            rintro r u11 ⟨rfl, t11⟩
            have D11 : Ext W.drew u11 := (D10).trans t11
            have T11 := (T10).trans t11
            simp -dsimp -implicitDefEqProofs only [D11, A0, A1, A2, B0, B1, B2, hix1, hix2, fnv, okf, m68, sF68, Nat.reduceEqDiff, ↓reduceIte, Nat.reduceAdd, Nat.reduceMul, Value.cells, Value.oneCell', eq_self, ne_eq, Int.reduceToNat, Int.reduceEq, Int.reduceLT, Int.reduceLE, Int.reduceNeg, if_true, if_false, reduceCtorEq, Nat.reduceSub, storeV_ptr, slcV_slice, ↓mwD, mwU]
            refine (meetF_c a b _ _ _ fa fb (ha.ext (h.ext.trans ((Ext.drew W).trans D11))) (hb.ext (h.ext.trans ((Ext.drew W).trans D11))) na nb).2.use ?_
            rintro r v12 hr
            obtain ⟨x, y, z, ok, rfl, hz, t6, hP, hmid⟩ := mid_before (blk := u3.heap.size) h ((Ext.drew W).trans D11) ((Ext.drew W).trans D3).le ((Bk.new u3 [.int .i64 0, .int .i64 0, .slice none 0 0] 35).ext T11) hr
            obtain ⟨y0, c0⟩ := hP.c0
            obtain ⟨y1, c1⟩ := hP.c1
            obtain ⟨y2, c2⟩ := hP.c2
            have z0 := hP.z0
            have z1 := hP.z1
            have z2 := hP.z2
            have D6 : Ext W.drew v12 := (D11).trans t6
            simp -dsimp -implicitDefEqProofs only [D6, hz, c0, c1, c2, z0, z1, z2, m68, sF68, Nat.reduceEqDiff, ↓reduceIte, Nat.reduceAdd, Nat.reduceMul, Value.cells, Value.oneCell', eq_self, ne_eq, Int.reduceToNat, Int.reduceEq, Int.reduceLT, Int.reduceLE, Int.reduceNeg, if_true, if_false, reduceCtorEq, Nat.reduceSub, storeV_ptr, slcV_slice, ↓mwD, mwU]
            exact ⟨hz, hmid⟩
        · refine (form_c b _ _).use ?_
          rintro r u13 ⟨rfl, t13⟩
          have D13 : Ext W.drew u13 := (E2).trans t13
          have T13 := ((Ext.refl (u2.alloc (.cells #[.int .i64 0, .int .i64 0, .slice none 0 0] 35)))).trans t13
          simp -dsimp -implicitDefEqProofs only [D13, A0, A1, A2, B0, B1, B2, hix1, hix2, fnv, okf, m68, sF68, Nat.reduceEqDiff, ↓reduceIte, Nat.reduceAdd, Nat.reduceMul, Value.cells, Value.oneCell', eq_self, ne_eq, Int.reduceToNat, Int.reduceEq, Int.reduceLT, Int.reduceLE, Int.reduceNeg, if_true, if_false, reduceCtorEq, Nat.reduceSub, storeV_ptr, slcV_slice, ↓mwD, mwU]
          refine (numbers_c a _ _ (ha.ext (h.ext.trans ((Ext.drew W).trans D13)))).use ?_
          rintro r u14 ⟨rfl, t14⟩
          have D14 : Ext W.drew u14 := (D13).trans t14
          have T14 := (T13).trans t14
          simp -dsimp -implicitDefEqProofs only [D14, A0, A1, A2, B0, B1, B2, hix1, hix2, fnv, okf, m68, sF68, Nat.reduceEqDiff, ↓reduceIte, Nat.reduceAdd, Nat.reduceMul, Value.cells, Value.oneCell', eq_self, ne_eq, Int.reduceToNat, Int.reduceEq, Int.reduceLT, Int.reduceLE, Int.reduceNeg, if_true, if_false, reduceCtorEq, Nat.reduceSub, storeV_ptr, slcV_slice, ↓mwD, mwU]
          refine (numbers_c b _ _ (hb.ext (h.ext.trans ((Ext.drew W).trans D14)))).use ?_
          rintro r u15 ⟨rfl, t15⟩
          have D15 : Ext W.drew u15 := (D14).trans t15
          have T15 := (T14).trans t15
          simp -dsimp -implicitDefEqProofs only [D15, A0, A1, A2, B0, B1, B2, hix1, hix2, fnv, okf, m68, sF68, Nat.reduceEqDiff, ↓reduceIte, Nat.reduceAdd, Nat.reduceMul, Value.cells, Value.oneCell', eq_self, ne_eq, Int.reduceToNat, Int.reduceEq, Int.reduceLT, Int.reduceLE, Int.reduceNeg, if_true, if_false, reduceCtorEq, Nat.reduceSub, storeV_ptr, slcV_slice, ↓mwD, mwU]
          refine (meetF_c a b _ _ _ fa fb (ha.ext (h.ext.trans ((Ext.drew W).trans D15))) (hb.ext (h.ext.trans ((Ext.drew W).trans D15))) na nb).2.use ?_
          rintro r v16 hr
          obtain ⟨x, y, z, ok, rfl, hz, t6, hP, hmid⟩ := mid_before (blk := u2.heap.size) h ((Ext.drew W).trans D15) ((Ext.drew W).trans D2).le ((Bk.new u2 [.int .i64 0, .int .i64 0, .slice none 0 0] 35).ext T15) hr
          obtain ⟨y0, c0⟩ := hP.c0
          obtain ⟨y1, c1⟩ := hP.c1
          obtain ⟨y2, c2⟩ := hP.c2
          have z0 := hP.z0
          have z1 := hP.z1
          have z2 := hP.z2
          have D6 : Ext W.drew v16 := (D15).trans t6
          simp -dsimp -implicitDefEqProofs only [D6, hz, c0, c1, c2, z0, z1, z2, m68, sF68, Nat.reduceEqDiff, ↓reduceIte, Nat.reduceAdd, Nat.reduceMul, Value.cells, Value.oneCell', eq_self, ne_eq, Int.reduceToNat, Int.reduceEq, Int.reduceLT, Int.reduceLE, Int.reduceNeg, if_true, if_false, reduceCtorEq, Nat.reduceSub, storeV_ptr, slcV_slice, ↓mwD, mwU]
          exact ⟨hz, hmid⟩
      · refine (form_c a _ _).use ?_
        rintro r u17 ⟨rfl, t17⟩
        have D17 : Ext W.drew u17 := (E1).trans t17
        have T17 := ((Ext.refl (u1.alloc (.cells #[.int .i64 0, .int .i64 0, .slice none 0 0] 35)))).trans t17
        simp -dsimp -implicitDefEqProofs only [D17, A0, A1, A2, B0, B1, B2, hix1, hix2, fnv, okf, m68, sF68, Nat.reduceEqDiff, ↓reduceIte, Nat.reduceAdd, Nat.reduceMul, Value.cells, Value.oneCell', eq_self, ne_eq, Int.reduceToNat, Int.reduceEq, Int.reduceLT, Int.reduceLE, Int.reduceNeg, if_true, if_false, reduceCtorEq, Nat.reduceSub, storeV_ptr, slcV_slice, ↓mwD, mwU]
        refine (form_c b _ _).use ?_
        rintro r u18 ⟨rfl, t18⟩
        have D18 : Ext W.drew u18 := (D17).trans t18
        have T18 := (T17).trans t18
        simp -dsimp -implicitDefEqProofs only [D18, A0, A1, A2, B0, B1, B2, hix1, hix2, fnv, okf, m68, sF68, Nat.reduceEqDiff, ↓reduceIte, Nat.reduceAdd, Nat.reduceMul, Value.cells, Value.oneCell', eq_self, ne_eq, Int.reduceToNat, Int.reduceEq, Int.reduceLT, Int.reduceLE, Int.reduceNeg, if_true, if_false, reduceCtorEq, Nat.reduceSub, storeV_ptr, slcV_slice, ↓mwD, mwU]
        refine (numbers_c a _ _ (ha.ext (h.ext.trans ((Ext.drew W).trans D18)))).use ?_
        rintro r u19 ⟨rfl, t19⟩
        have D19 : Ext W.drew u19 := (D18).trans t19
        have T19 := (T18).trans t19
        simp -dsimp -implicitDefEqProofs only [D19, A0, A1, A2, B0, B1, B2, hix1, hix2, fnv, okf, m68, sF68, Nat.reduceEqDiff, ↓reduceIte, Nat.reduceAdd, Nat.reduceMul, Value.cells, Value.oneCell', eq_self, ne_eq, Int.reduceToNat, Int.reduceEq, Int.reduceLT, Int.reduceLE, Int.reduceNeg, if_true, if_false, reduceCtorEq, Nat.reduceSub, storeV_ptr, slcV_slice, ↓mwD, mwU]
        refine (numbers_c b _ _ (hb.ext (h.ext.trans ((Ext.drew W).trans D19)))).use ?_
        rintro r u20 ⟨rfl, t20⟩
        have D20 : Ext W.drew u20 := (D19).trans t20
        have T20 := (T19).trans t20
        simp -dsimp -implicitDefEqProofs only [D20, A0, A1, A2, B0, B1, B2, hix1, hix2, fnv, okf, m68, sF68, Nat.reduceEqDiff, ↓reduceIte, Nat.reduceAdd, Nat.reduceMul, Value.cells, Value.oneCell', eq_self, ne_eq, Int.reduceToNat, Int.reduceEq, Int.reduceLT, Int.reduceLE, Int.reduceNeg, if_true, if_false, reduceCtorEq, Nat.reduceSub, storeV_ptr, slcV_slice, ↓mwD, mwU]
        refine (meetF_c a b _ _ _ fa fb (ha.ext (h.ext.trans ((Ext.drew W).trans D20))) (hb.ext (h.ext.trans ((Ext.drew W).trans D20))) na nb).2.use ?_
        rintro r v21 hr
        obtain ⟨x, y, z, ok, rfl, hz, t6, hP, hmid⟩ := mid_before (blk := u1.heap.size) h ((Ext.drew W).trans D20) ((Ext.drew W).trans D1).le ((Bk.new u1 [.int .i64 0, .int .i64 0, .slice none 0 0] 35).ext T20) hr
        obtain ⟨y0, c0⟩ := hP.c0
        obtain ⟨y1, c1⟩ := hP.c1
        obtain ⟨y2, c2⟩ := hP.c2
        have z0 := hP.z0
        have z1 := hP.z1
        have z2 := hP.z2
        have D6 : Ext W.drew v21 := (D20).trans t6
        simp -dsimp -implicitDefEqProofs only [D6, hz, c0, c1, c2, z0, z1, z2, m68, sF68, Nat.reduceEqDiff, ↓reduceIte, Nat.reduceAdd, Nat.reduceMul, Value.cells, Value.oneCell', eq_self, ne_eq, Int.reduceToNat, Int.reduceEq, Int.reduceLT, Int.reduceLE, Int.reduceNeg, if_true, if_false, reduceCtorEq, Nat.reduceSub, storeV_ptr, slcV_slice, ↓mwD, mwU]
        exact ⟨hz, hmid⟩
    · refine (meetings_c _).use ?_
      rintro r u22 ⟨rfl, t22⟩
      have D22 : Ext W.drew u22 := (E0).trans t22
      have T22 := ((Ext.refl (W.drew.alloc (.cells #[.int .i64 0, .int .i64 0, .slice none 0 0] 35)))).trans t22
      simp -dsimp -implicitDefEqProofs only [D22, A0, A1, A2, B0, B1, B2, hix1, hix2, fnv, okf, m68, sF68, Nat.reduceEqDiff, ↓reduceIte, Nat.reduceAdd, Nat.reduceMul, Value.cells, Value.oneCell', eq_self, ne_eq, Int.reduceToNat, Int.reduceEq, Int.reduceLT, Int.reduceLE, Int.reduceNeg, if_true, if_false, reduceCtorEq, Nat.reduceSub, storeV_ptr, slcV_slice, ↓mwD, mwU]
      refine (form_c a _ _).use ?_
      rintro r u23 ⟨rfl, t23⟩
      have D23 : Ext W.drew u23 := (D22).trans t23
      have T23 := (T22).trans t23
      simp -dsimp -implicitDefEqProofs only [D23, A0, A1, A2, B0, B1, B2, hix1, hix2, fnv, okf, m68, sF68, Nat.reduceEqDiff, ↓reduceIte, Nat.reduceAdd, Nat.reduceMul, Value.cells, Value.oneCell', eq_self, ne_eq, Int.reduceToNat, Int.reduceEq, Int.reduceLT, Int.reduceLE, Int.reduceNeg, if_true, if_false, reduceCtorEq, Nat.reduceSub, storeV_ptr, slcV_slice, ↓mwD, mwU]
      refine (form_c b _ _).use ?_
      rintro r u24 ⟨rfl, t24⟩
      have D24 : Ext W.drew u24 := (D23).trans t24
      have T24 := (T23).trans t24
      simp -dsimp -implicitDefEqProofs only [D24, A0, A1, A2, B0, B1, B2, hix1, hix2, fnv, okf, m68, sF68, Nat.reduceEqDiff, ↓reduceIte, Nat.reduceAdd, Nat.reduceMul, Value.cells, Value.oneCell', eq_self, ne_eq, Int.reduceToNat, Int.reduceEq, Int.reduceLT, Int.reduceLE, Int.reduceNeg, if_true, if_false, reduceCtorEq, Nat.reduceSub, storeV_ptr, slcV_slice, ↓mwD, mwU]
      refine (numbers_c a _ _ (ha.ext (h.ext.trans ((Ext.drew W).trans D24)))).use ?_
      rintro r u25 ⟨rfl, t25⟩
      have D25 : Ext W.drew u25 := (D24).trans t25
      have T25 := (T24).trans t25
      simp -dsimp -implicitDefEqProofs only [D25, A0, A1, A2, B0, B1, B2, hix1, hix2, fnv, okf, m68, sF68, Nat.reduceEqDiff, ↓reduceIte, Nat.reduceAdd, Nat.reduceMul, Value.cells, Value.oneCell', eq_self, ne_eq, Int.reduceToNat, Int.reduceEq, Int.reduceLT, Int.reduceLE, Int.reduceNeg, if_true, if_false, reduceCtorEq, Nat.reduceSub, storeV_ptr, slcV_slice, ↓mwD, mwU]
      refine (numbers_c b _ _ (hb.ext (h.ext.trans ((Ext.drew W).trans D25)))).use ?_
      rintro r u26 ⟨rfl, t26⟩
      have D26 : Ext W.drew u26 := (D25).trans t26
      have T26 := (T25).trans t26
      simp -dsimp -implicitDefEqProofs only [D26, A0, A1, A2, B0, B1, B2, hix1, hix2, fnv, okf, m68, sF68, Nat.reduceEqDiff, ↓reduceIte, Nat.reduceAdd, Nat.reduceMul, Value.cells, Value.oneCell', eq_self, ne_eq, Int.reduceToNat, Int.reduceEq, Int.reduceLT, Int.reduceLE, Int.reduceNeg, if_true, if_false, reduceCtorEq, Nat.reduceSub, storeV_ptr, slcV_slice, ↓mwD, mwU]
      refine (meetF_c a b _ _ _ fa fb (ha.ext (h.ext.trans ((Ext.drew W).trans D26))) (hb.ext (h.ext.trans ((Ext.drew W).trans D26))) na nb).2.use ?_
      rintro r v27 hr
      obtain ⟨x, y, z, ok, rfl, hz, t6, hP, hmid⟩ := mid_before (blk := W.drew.heap.size) h ((Ext.drew W).trans D26) (Ext.drew W).le ((Bk.new W.drew [.int .i64 0, .int .i64 0, .slice none 0 0] 35).ext T26) hr
      obtain ⟨y0, c0⟩ := hP.c0
      obtain ⟨y1, c1⟩ := hP.c1
      obtain ⟨y2, c2⟩ := hP.c2
      have z0 := hP.z0
      have z1 := hP.z1
      have z2 := hP.z2
      have D6 : Ext W.drew v27 := (D26).trans t6
      simp -dsimp -implicitDefEqProofs only [D6, hz, c0, c1, c2, z0, z1, z2, m68, sF68, Nat.reduceEqDiff, ↓reduceIte, Nat.reduceAdd, Nat.reduceMul, Value.cells, Value.oneCell', eq_self, ne_eq, Int.reduceToNat, Int.reduceEq, Int.reduceLT, Int.reduceLE, Int.reduceNeg, if_true, if_false, reduceCtorEq, Nat.reduceSub, storeV_ptr, slcV_slice, ↓mwD, mwU]
      exact ⟨hz, hmid⟩
    -- END orders
  · rintro e ds w1 ⟨h2, h3, h4, rfl, blk, o, ok, h6, h7, hx, hgt, KA, KB, KC, hout, hm⟩
    have hmet := hout.met
    cases o with
    | none =>
      simp only at hm
      subst hm
      have hP := put3 KC (.int .i64 0) (.int .i64 0) (.slice none 0 0)
      obtain ⟨y0, c0⟩ := hP.c0
      obtain ⟨y1, c1⟩ := hP.c1
      obtain ⟨y2, c2⟩ := hP.c2
      have z0 := hP.z0
      have z1 := hP.z1
      have z2 := hP.z2
      have k0 := hP.bk.get (o := 0) rfl
      have k1 := hP.bk.get (o := 1) rfl
      have k2 := hP.bk.get (o := 2) rfl
      simp -dsimp -implicitDefEqProofs only [h2, h3, h4, h6, h7, tailM_zero, tailM_seq, bv_ch0, c0, c1, c2, z0, z1, z2, k0, k1, k2, m68, sF68, Nat.reduceEqDiff, ↓reduceIte, Nat.reduceAdd, Nat.reduceMul, Value.cells, Value.oneCell', eq_self, ne_eq, Int.reduceToNat, Int.reduceEq, Int.reduceLT, Int.reduceLE, Int.reduceNeg, if_true, if_false, reduceCtorEq, Nat.reduceSub, storeV_ptr, slcV_slice, ↓mwD, mwU]
      exact ⟨hx.set3 (by omega) _ _ _, none, hmet, trivial⟩
    | some p =>
      obtain ⟨K, L⟩ := p
      obtain ⟨rfl, q, cc, hbk, hown, hoff⟩ := hm
      simp only at hbk hown hoff
      have hval := (met_ok va vb hmet).1
      have hfit : ∀ d, Fit ⟨K, d, L⟩ := fun d => by
        have h1 := valid_fit hval
        have e1 := wish_k K L a.d b.d
        have e2 := wish_L K L a.d b.d
        simp only [Option.map_some] at h1
        generalize wish K L a.d b.d = u at *
        obtain ⟨uk, ud, uL⟩ := u
        simp only at e1 e2
        subst e1 e2
        exact fit_kL h1
      have hne : 1 ≤ L.length := by
        have := valid_ne hval
        simp only [Option.map_some, wish_L] at this
        exact this
      obtain ⟨g, og, cg, hv, _, _, hcell⟩ := SlI.at (Own.sl hown : SlI w1 (.slice q L.length cc) L) (by intro e0; rw [e0] at hne; simp at hne)
      simp only [Value.slice.injEq] at hv
      obtain ⟨rfl, _, rfl⟩ := hv
      have l0 := hcell 0 (by omega)
      simp only [Nat.add_zero] at l0
      have f2 := hbk.get (o := 2) rfl
      have f1 := hbk.get (o := 1) rfl
      have fz := hbk.frozen 1
      have hb0 : (0 : Int) < (L.length : Int) := by omega
      have S1 : Ext w (w1.setCell ⟨blk, 1, none⟩ (.int .i64 L[0])) := hx.setCell (by simp only; omega) _
      have KA1 := (KA.ne (b' := blk) (by omega) 1 (.int .i64 L[0])).get (o := 1) rfl
      have KB1 := (KB.ne (b' := blk) (by omega) 1 (.int .i64 L[0])).get (o := 1) rfl
      simp -dsimp -implicitDefEqProofs only [h2, h3, h4, h6, h7, tailM_zero, tailM_seq, f2, f1, fz, hb0, l0, KA1, KB1, bs_two, m68, sF68, Nat.reduceEqDiff, ↓reduceIte, Nat.reduceAdd, Nat.reduceMul, Value.cells, Value.oneCell', eq_self, ne_eq, Int.reduceToNat, Int.reduceEq, Int.reduceLT, Int.reduceLE, Int.reduceNeg, if_true, if_false, reduceCtorEq, Nat.reduceSub, storeV_ptr, slcV_slice, ↓mwD, mwU]
      have hst : MeetS a b w ((w1.setCell ⟨blk, 1, none⟩ (.int .i64 L[0])).alloc (.cells #[.int .i64 b.d, .int .i64 a.d] 3)) blk (w1.setCell ⟨blk, 1, none⟩ (.int .i64 L[0])).heap.size K L (some ⟨g, og, none⟩) cc L[0] := by
        have hlt : blk < (w1.setCell ⟨blk, 1, none⟩ (.int .i64 L[0])).heap.size := by simp only [World.setCell, Array.size_modify]; exact hbk.lt
        exact ⟨S1.trans (Ext.alloc _ _), hgt, hlt, (KC.ne (by omega) _ _).ext (Ext.alloc _ _), (hbk.set 1 _).ext (Ext.alloc _ _), Bk.new _ [.int .i64 b.d, .int .i64 a.d] _, Own.ext (Own.off hown hoff) (Ext.alloc _ _), hoff⟩
      generalize (w1.setCell ⟨blk, 1, none⟩ (.int .i64 L[0])).heap.size = sl at *
      generalize (w1.setCell ⟨blk, 1, none⟩ (.int .i64 L[0])).alloc (.cells #[.int .i64 b.d, .int .i64 a.d] 3) = w2 at *
      let D : Nat → Int := fun k => if k = 0 then L[0] else if k = 1 then (if (Ch.mk K 0 L).has b.d then b.d else L[0]) else (if (Ch.mk K 0 L).has a.d then a.d else (if (Ch.mk K 0 L).has b.d then b.d else L[0]))
      refine mwpB_loop (fun e ds w' => ∃ k : Nat, k ≤ 2 ∧ e 39 = .int .i64 k ∧ e 38 = .int .i64 2 ∧ e 37 = .slice (some ⟨sl, 0, none⟩) 2 2 ∧ e 4 = .pointer (some ⟨w.heap.size + 2, 0, none⟩) ∧ e 6 = .pointer (some ⟨blk, 0, none⟩) ∧ ds = [] ∧ MeetS a b w w' blk sl K L (some ⟨g, og, none⟩) cc (D k)) (fun e _ => (2 - intOf (e 39)).toNat) ?_ ?_
      · simp -dsimp -implicitDefEqProofs only [h4, h6, m68, sF68, Nat.reduceEqDiff, ↓reduceIte, Nat.reduceAdd, Nat.reduceMul, Value.cells, Value.oneCell', eq_self, ne_eq, Int.reduceToNat, Int.reduceEq, Int.reduceLT, Int.reduceLE, Int.reduceNeg, if_true, if_false, reduceCtorEq, Nat.reduceSub, storeV_ptr, slcV_slice, ↓mwD, mwU]
        exact ⟨0, by omega, rfl, hst⟩
      · rintro e' ds w3 ⟨k, hk, g39, g38, g37, g4, g6, rfl, hs⟩
        simp -dsimp -implicitDefEqProofs only [g39, g38, g37, g4, g6, m68, sF68, Nat.reduceEqDiff, ↓reduceIte, Nat.reduceAdd, Nat.reduceMul, Value.cells, Value.oneCell', eq_self, ne_eq, Int.reduceToNat, Int.reduceEq, Int.reduceLT, Int.reduceLE, Int.reduceNeg, if_true, if_false, reduceCtorEq, Nat.reduceSub, storeV_ptr, slcV_slice, ↓mwD, mwU]
        refine iteW_dec (fun hlt => ?_) (fun hge => ?_)
        · have hk2 : k < 2 := by omega
          have hb1 : (0 : Int) ≤ k ∧ (k : Int) < 2 := by omega
          have hw : IntKind.i64.wrap ((k : Int) + 1) = ((k + 1 : Nat) : Int) := by rw [w64 (by omega) (by omega)]; omega
          have hck : w3.cell? ⟨sl, k, none⟩ = some (.int .i64 (if k = 0 then b.d else a.d)) := by
            rw [hs.sl.cell]
            match k, hk2 with
            | 0, _ => rfl
            | 1, _ => rfl
          have m0 := hs.bk.get (o := 0) rfl
          have m1 := hs.bk.get (o := 1) rfl
          have m2 := hs.bk.get (o := 2) rfl
          generalize hn : (if k = 0 then b.d else a.d) = n at *
          simp -dsimp -implicitDefEqProofs only [g39, g38, g37, g4, g6, hb1, and_self, hck, m0, m1, m2, m68, sF68, Nat.reduceEqDiff, ↓reduceIte, Nat.reduceAdd, Nat.reduceMul, Value.cells, Value.oneCell', eq_self, ne_eq, Int.reduceToNat, Int.reduceEq, Int.reduceLT, Int.reduceLE, Int.reduceNeg, if_true, if_false, reduceCtorEq, Nat.reduceSub, storeV_ptr, slcV_slice, ↓mwD, mwU]
          refine (numbers_c ⟨K, D k, L⟩ (.slice (some ⟨g, og, none⟩) L.length cc) w3 (Own.sl hs.own)).use ?_
          rintro r w4 ⟨rfl, hx4⟩
          obtain ⟨f, u, j1, j2, j3⟩ := setHas_c (w := w4) (hfit (D k)) (Own.sl (hs.next hx4).own) n
          simp -dsimp -implicitDefEqProofs only [g39, g38, g37, g4, g6, j1, j2, m68, sF68, Nat.reduceEqDiff, ↓reduceIte, Nat.reduceAdd, Nat.reduceMul, Value.cells, Value.oneCell', eq_self, ne_eq, Int.reduceToNat, Int.reduceEq, Int.reduceLT, Int.reduceLE, Int.reduceNeg, if_true, if_false, reduceCtorEq, Nat.reduceSub, storeV_ptr, slcV_slice, ↓mwD, mwU]
          refine j3.use ?_
          rintro r w5 ⟨rfl, hx5⟩
          have hs5 := (hs.next hx4).next hx5
          have hhas : (Ch.mk K (D k) L).has n = (Ch.mk K 0 L).has n := has_kL rfl rfl n
          rw [hhas]
          have n1 := hs5.bk.get (o := 1) rfl
          have nz := hs5.bk.frozen 1
          have hD : D (k + 1) = if (Ch.mk K 0 L).has n then n else D k := by
            subst hn
            match k, hk2 with
            | 0, _ => simp [D]
            | 1, _ => simp [D]
          cases hh : (Ch.mk K 0 L).has n
          · rw [hh, if_neg (by simp)] at hD
            simp -dsimp -implicitDefEqProofs only [g39, g38, g37, g4, g6, hw, m68, sF68, Nat.reduceEqDiff, ↓reduceIte, Nat.reduceAdd, Nat.reduceMul, Value.cells, Value.oneCell', eq_self, ne_eq, Int.reduceToNat, Int.reduceEq, Int.reduceLT, Int.reduceLE, Int.reduceNeg, if_true, if_false, reduceCtorEq, Nat.reduceSub, storeV_ptr, slcV_slice, ↓mwD, mwU]
            exact ⟨⟨k + 1, by omega, rfl, by rw [hD]; exact hs5⟩, by simp only [intOf]; omega⟩
          · rw [hh, if_pos rfl] at hD
            simp -dsimp -implicitDefEqProofs only [g39, g38, g37, g4, g6, hw, n1, nz, m68, sF68, Nat.reduceEqDiff, ↓reduceIte, Nat.reduceAdd, Nat.reduceMul, Value.cells, Value.oneCell', eq_self, ne_eq, Int.reduceToNat, Int.reduceEq, Int.reduceLT, Int.reduceLE, Int.reduceNeg, if_true, if_false, reduceCtorEq, Nat.reduceSub, storeV_ptr, slcV_slice, ↓mwD, mwU]
            exact ⟨⟨k + 1, by omega, rfl, by rw [hD]; exact hs5.set n⟩, by simp only [intOf]; omega⟩
        · obtain rfl : k = 2 := by omega
          have hP := put3 hs.C (.int .i64 K) (.int .i64 (D 2)) (.slice (some ⟨g, og, none⟩) L.length cc)
          obtain ⟨y0, c0⟩ := hP.c0
          obtain ⟨y1, c1⟩ := hP.c1
          obtain ⟨y2, c2⟩ := hP.c2
          have z0 := hP.z0
          have z1 := hP.z1
          have z2 := hP.z2
          have k0 := hP.bk.get (o := 0) rfl
          have k1 := hP.bk.get (o := 1) rfl
          have k2 := hP.bk.get (o := 2) rfl
          have m0 := hs.bk.get (o := 0) rfl
          have m1 := hs.bk.get (o := 1) rfl
          have m2 := hs.bk.get (o := 2) rfl
          simp -dsimp -implicitDefEqProofs only [g39, g38, g37, g4, g6, m0, m1, m2, c0, c1, c2, z0, z1, z2, k0, k1, k2, m68, sF68, Nat.reduceEqDiff, ↓reduceIte, Nat.reduceAdd, Nat.reduceMul, Value.cells, Value.oneCell', eq_self, ne_eq, Int.reduceToNat, Int.reduceEq, Int.reduceLT, Int.reduceLE, Int.reduceNeg, if_true, if_false, reduceCtorEq, Nat.reduceSub, storeV_ptr, slcV_slice, ↓mwD, mwU]
          have hwish : wish K L a.d b.d = ⟨K, D 2, L⟩ := by
            have e0 : L.getD 0 0 = L[0] := by rw [List.getD_eq_getElem?_getD, List.getElem?_eq_getElem (by omega)]; rfl
            unfold wish
            rw [e0]
            simp only [D]
            split
            · rename_i h; simp [h]
            · rename_i h
              split
              · rename_i h'; simp [h, h']
              · rename_i h'; simp [h, h']
          simp only [Option.map_some, hwish] at hmet
          have hne2 := own_ne hs.own hs.C (by decide)
          exact ⟨hs.ext.set3 (by omega) _ _ _, _, hmet, _, rfl, Own.off (Own.off (Own.off hs.own hne2) hne2) hne2⟩
end Go.Proofs.YthcdnjbhhaonhaaGreatDoor
/- Layer 02: the reference's step, listed, Has1, ValidChoice, Has. -/

namespace Go.Proofs.YthcdnjbhhaonhaaGreatDoor
open Go.RowKit
set_option linter.unusedSimpArgs false

theorem refListed_c (c : Ch) (s : Value) (w : World) : Rets Go.Proofs.Tryz.prog 98 #[chV c s] w fun r w' => r = .bool c.lsd ∧ Ext w w' := by
  refine en98 ?_
  by_cases k1 : c.k = 1
  · simp -dsimp -implicitDefEqProofs only [chV, k1, m98, sF98, Nat.reduceEqDiff, ↓reduceIte, Nat.reduceAdd, Nat.reduceMul, Value.cells, Value.oneCell', eq_self, ne_eq, Int.reduceToNat, Int.reduceEq, Int.reduceLT, Int.reduceLE, Int.reduceNeg, if_true, if_false, reduceCtorEq, Nat.reduceSub, storeV_ptr, slcV_slice, ↓mwD, mwU]
    exact ⟨by simp [Ch.lsd, k1], Ext.alloc _ _⟩
  · simp -dsimp -implicitDefEqProofs only [chV, k1, m98, sF98, Nat.reduceEqDiff, ↓reduceIte, Nat.reduceAdd, Nat.reduceMul, Value.cells, Value.oneCell', eq_self, ne_eq, Int.reduceToNat, Int.reduceEq, Int.reduceLT, Int.reduceLE, Int.reduceNeg, if_true, if_false, reduceCtorEq, Nat.reduceSub, storeV_ptr, slcV_slice, ↓mwD, mwU]
    exact ⟨by simp [Ch.lsd, k1], Ext.alloc _ _⟩
theorem step_c (c : Ch) (s : Value) (w : World) (hs : SlI w s c.L) (hl : c.k = 4 → 3 ≤ c.L.length) : Rets Go.Proofs.Tryz.prog 70 #[chV c s] w fun r w' => r = .int .i64 c.stp ∧ Ext w w' := by
  obtain ⟨k, d, L⟩ := c
  simp only at hs hl
  obtain ⟨p, cap, rfl, _, _⟩ := hs.shape
  have hx : Ext w (w.alloc (.cells #[.int .i64 k, .int .i64 d, .slice p L.length cap] 35)) := Ext.alloc _ _
  refine en70 ?_
  by_cases k4 : k = 4
  · subst k4
    have h3 := hl rfl
    obtain ⟨b, o, cap', hv, _, _, hcell⟩ := hs.at (by intro e; rw [e] at h3; simp at h3)
    cases hv
    have q2 := hx.cell (hcell 2 (by omega))
    have hb : (2 : Int) < (L.length : Int) := by omega
    simp -dsimp -implicitDefEqProofs only [chV, q2, hb, m70, sF70, Nat.reduceEqDiff, ↓reduceIte, Nat.reduceAdd, Nat.reduceMul, Value.cells, Value.oneCell', eq_self, ne_eq, Int.reduceToNat, Int.reduceEq, Int.reduceLT, Int.reduceLE, Int.reduceNeg, if_true, if_false, reduceCtorEq, Nat.reduceSub, storeV_ptr, slcV_slice, ↓mwD, mwU]
    refine ⟨?_, hx⟩
    simp only [Ch.stp, if_true]
    rw [List.getD_eq_getElem?_getD, List.getElem?_eq_getElem (by omega)]
    rfl
  · simp -dsimp -implicitDefEqProofs only [chV, k4, m70, sF70, Nat.reduceEqDiff, ↓reduceIte, Nat.reduceAdd, Nat.reduceMul, Value.cells, Value.oneCell', eq_self, ne_eq, Int.reduceToNat, Int.reduceEq, Int.reduceLT, Int.reduceLE, Int.reduceNeg, if_true, if_false, reduceCtorEq, Nat.reduceSub, storeV_ptr, slcV_slice, ↓mwD, mwU]
    exact ⟨by simp [Ch.stp, k4], hx⟩
theorem getD_get {L : List Int} {i : Nat} (h : i < L.length) : L.getD i 0 = L[i] := by rw [List.getD_eq_getElem?_getD, List.getElem?_eq_getElem h]; rfl
theorem Has1_c (c : Ch) (s : Value) (n : Int) (w : World) (hs : SlI w s c.L) (hf : Fit c) : Rets Go.Proofs.Tryz.prog 26 #[chV c s, .int .i64 n] w fun r w' => r = .bool (c.has n) ∧ Ext w w' := by
  obtain ⟨p, cap, rfl, hc1, hc2⟩ := hs.shape
  have hx : Ext w (w.alloc (.cells #[.int .i64 c.k, .int .i64 c.d, .slice p c.L.length cap] 35)) := Ext.alloc _ _
  have hB : Bk (w.alloc (.cells #[.int .i64 c.k, .int .i64 c.d, .slice p c.L.length cap] 35)) w.heap.size [.int .i64 c.k, .int .i64 c.d, .slice p c.L.length cap] 35 := Bk.new _ _ _
  have B0 := hB.get (o := 0) rfl
  have B1 := hB.get (o := 1) rfl
  have B2 := hB.get (o := 2) rfl
  refine en26 ?_
  cases hl : c.lsd
  · obtain ⟨hr, hk⟩ := fit_range hf hl
    have l0 := hr.l0
    have l1 := hr.l1
    have l2 := hr.l2
    have s0 := hr.s0
    have s1 := hr.s1
    have hlen : 2 ≤ c.L.length := by omega
    have h3 : c.k = 4 → 3 ≤ c.L.length := by omega
    have hk1 : ¬ c.k = 1 := by omega
    have hk2 : ¬ c.k = 2 := by omega
    obtain ⟨b, o, cap', hv, _, _, hcell⟩ := hs.at (by intro e; rw [e] at hlen; simp at hlen)
    cases hv
    have e0 : c.lo = c.L[0] := getD_get (by omega)
    have e1 : c.hi = c.L[1] := getD_get (by omega)
    have q0 := hx.cell (hcell 0 (by omega))
    have q1 := hx.cell (hcell 1 (by omega))
    simp only [Nat.add_zero] at q0
    rw [← e0] at q0
    rw [← e1] at q1
    have b0 : (0 : Int) < (c.L.length : Int) := by omega
    have b1 : (1 : Int) < (c.L.length : Int) := by omega
    have hst := fun w' (hh : Ext w w') => step_c c (.slice (some ⟨b, o, none⟩) c.L.length cap) w' (hs.ext hh) h3
    simp -dsimp -implicitDefEqProofs only [chV, hk1, hk2, m26, sF26, Nat.reduceEqDiff, ↓reduceIte, Nat.reduceAdd, Nat.reduceMul, Value.cells, Value.oneCell', eq_self, ne_eq, Int.reduceToNat, Int.reduceEq, Int.reduceLT, Int.reduceLE, Int.reduceNeg, if_true, if_false, reduceCtorEq, Nat.reduceSub, storeV_ptr, slcV_slice, ↓mwD, mwU]
    generalize w.alloc (.cells #[.int .i64 c.k, .int .i64 c.d, .slice (some ⟨b, o, none⟩) c.L.length cap] 35) = W at *
    have hh : c.has n = (decide (c.lo ≤ n) && (decide (n ≤ c.hi) && decide ((n - c.lo) % c.stp = 0))) := by unfold Ch.has; rw [hl]; rfl
    rw [hh]
    refine mwpB_drawE ?_
    by_cases h1 : c.lo ≤ n
    · by_cases h2 : n ≤ c.hi
      · have hw : IntKind.i64.wrap (n - c.lo) = n - c.lo := w64 (by omega) (by omega)
        have ht : (n - c.lo).tmod c.stp = (n - c.lo) % c.stp := Int.tmod_eq_emod_of_nonneg (by omega)
        have hs0 : ¬ c.stp = 0 := by omega
        simp -dsimp -implicitDefEqProofs only [h1, h2, B0, B1, B2, q0, q1, b0, b1, m26, sF26, Nat.reduceEqDiff, ↓reduceIte, Nat.reduceAdd, Nat.reduceMul, Value.cells, Value.oneCell', eq_self, ne_eq, Int.reduceToNat, Int.reduceEq, Int.reduceLT, Int.reduceLE, Int.reduceNeg, if_true, if_false, reduceCtorEq, Nat.reduceSub, storeV_ptr, slcV_slice, ↓mwD, mwU]
        refine (hst W.drew (hx.trans (Ext.drew _))).use ?_
        rintro r w2 ⟨rfl, hx2⟩
        simp -dsimp -implicitDefEqProofs only [hx2, hs0, hw, ht, not_false_eq_true, m26, sF26, Nat.reduceEqDiff, ↓reduceIte, Nat.reduceAdd, Nat.reduceMul, Value.cells, Value.oneCell', eq_self, ne_eq, Int.reduceToNat, Int.reduceEq, Int.reduceLT, Int.reduceLE, Int.reduceNeg, if_true, if_false, reduceCtorEq, Nat.reduceSub, storeV_ptr, slcV_slice, ↓mwD, mwU]
        exact ⟨by simp [h1, h2], hx.trans ((Ext.drew _).trans hx2)⟩
      · simp -dsimp -implicitDefEqProofs only [h1, h2, B0, B1, B2, q0, q1, b0, b1, Ext.refl, m26, sF26, Nat.reduceEqDiff, ↓reduceIte, Nat.reduceAdd, Nat.reduceMul, Value.cells, Value.oneCell', eq_self, ne_eq, Int.reduceToNat, Int.reduceEq, Int.reduceLT, Int.reduceLE, Int.reduceNeg, if_true, if_false, reduceCtorEq, Nat.reduceSub, storeV_ptr, slcV_slice, ↓mwD, mwU]
        exact ⟨by simp [h2], hx.trans (Ext.drew _)⟩
    · simp -dsimp -implicitDefEqProofs only [h1, B0, B1, B2, q0, q1, b0, b1, Ext.refl, m26, sF26, Nat.reduceEqDiff, ↓reduceIte, Nat.reduceAdd, Nat.reduceMul, Value.cells, Value.oneCell', eq_self, ne_eq, Int.reduceToNat, Int.reduceEq, Int.reduceLT, Int.reduceLE, Int.reduceNeg, if_true, if_false, reduceCtorEq, Nat.reduceSub, storeV_ptr, slcV_slice, ↓mwD, mwU]
      exact ⟨by simp [h1], hx.trans (Ext.drew _)⟩
  · have hk := fit_list hf hl
    have hkk : c.k = 1 ∨ c.k = 2 := by omega
    rw [has_list hl]
    rcases hkk with hk1 | hk1
    all_goals
      rw [hk1] at B2 hx
      simp -dsimp -implicitDefEqProofs only [chV, hk1, m26, sF26, Nat.reduceEqDiff, ↓reduceIte, Nat.reduceAdd, Nat.reduceMul, Value.cells, Value.oneCell', eq_self, ne_eq, Int.reduceToNat, Int.reduceEq, Int.reduceLT, Int.reduceLE, Int.reduceNeg, if_true, if_false, reduceCtorEq, Nat.reduceSub, storeV_ptr, slcV_slice, ↓mwD, mwU]
      refine mwpB_loop (fun e ds w' => ∃ i : Nat, i ≤ c.L.length ∧ e 5 = .int .i64 i ∧ e 1 = .int .i64 n ∧ e 2 = .pointer (some ⟨w.heap.size, 0, none⟩) ∧ ds = [] ∧ Ext w w' ∧ w'.cell? ⟨w.heap.size, 2, none⟩ = some (.slice p c.L.length cap) ∧ (c.L.take i).contains n = false)
        (fun e _ => c.L.length - (intOf (e 5)).toNat) ?_ ?_
      · simp -dsimp -implicitDefEqProofs only [m26, sF26, Nat.reduceEqDiff, ↓reduceIte, Nat.reduceAdd, Nat.reduceMul, Value.cells, Value.oneCell', eq_self, ne_eq, Int.reduceToNat, Int.reduceEq, Int.reduceLT, Int.reduceLE, Int.reduceNeg, if_true, if_false, reduceCtorEq, Nat.reduceSub, storeV_ptr, slcV_slice, ↓mwD, mwU]
        exact ⟨0, by omega, rfl, hx, rfl⟩
      · rintro e ds w' ⟨i, hi, h5, h1, h2, rfl, hxw, q2, hp⟩
        simp -dsimp -implicitDefEqProofs only [h5, h1, h2, q2, m26, sF26, Nat.reduceEqDiff, ↓reduceIte, Nat.reduceAdd, Nat.reduceMul, Value.cells, Value.oneCell', eq_self, ne_eq, Int.reduceToNat, Int.reduceEq, Int.reduceLT, Int.reduceLE, Int.reduceNeg, if_true, if_false, reduceCtorEq, Nat.reduceSub, storeV_ptr, slcV_slice, ↓mwD, mwU]
        refine iteW_dec (fun hlt => ?_) (fun hge => ?_)
        · have hlt' : i < c.L.length := by omega
          obtain ⟨b, o, cap', hv, _, _, hcell⟩ := hs.at (by intro h0; rw [h0] at hlt'; simp at hlt')
          cases hv
          have hck := hxw.cell (hcell i hlt')
          have hb1 : (0 : Int) ≤ i ∧ (i : Int) < c.L.length := by omega
          have hw := w64_succ hlt' (Nat.le_trans hc1 hc2)
          have hsu := contains_take_succ hlt' n
          simp -dsimp -implicitDefEqProofs only [h5, h1, h2, q2, hb1, and_self, hck, m26, sF26, Nat.reduceEqDiff, ↓reduceIte, Nat.reduceAdd, Nat.reduceMul, Value.cells, Value.oneCell', eq_self, ne_eq, Int.reduceToNat, Int.reduceEq, Int.reduceLT, Int.reduceLE, Int.reduceNeg, if_true, if_false, reduceCtorEq, Nat.reduceSub, storeV_ptr, slcV_slice, ↓mwD, mwU]
          refine iteW_dec (fun he => ?_) (fun he => ?_)
          · simp -dsimp -implicitDefEqProofs only [h5, h1, h2, m26, sF26, Nat.reduceEqDiff, ↓reduceIte, Nat.reduceAdd, Nat.reduceMul, Value.cells, Value.oneCell', eq_self, ne_eq, Int.reduceToNat, Int.reduceEq, Int.reduceLT, Int.reduceLE, Int.reduceNeg, if_true, if_false, reduceCtorEq, Nat.reduceSub, storeV_ptr, slcV_slice, ↓mwD, mwU]
            refine ⟨?_, hxw⟩
            have : c.L.contains n = true := by rw [List.contains_eq_mem, decide_eq_true_eq, ← he]; exact List.getElem_mem hlt'
            rw [this]
          · simp -dsimp -implicitDefEqProofs only [h5, h1, h2, hw, m26, sF26, Nat.reduceEqDiff, ↓reduceIte, Nat.reduceAdd, Nat.reduceMul, Value.cells, Value.oneCell', eq_self, ne_eq, Int.reduceToNat, Int.reduceEq, Int.reduceLT, Int.reduceLE, Int.reduceNeg, if_true, if_false, reduceCtorEq, Nat.reduceSub, storeV_ptr, slcV_slice, ↓mwD, mwU]
            refine ⟨⟨i + 1, by omega, rfl, hxw, q2, ?_⟩, ?_⟩
            · rw [hsu, hp]; simp [show ¬ n = c.L[i] from fun e => he e.symm]
            · simp only [intOf]; omega
        · have hil : i = c.L.length := by omega
          subst hil
          rw [List.take_length] at hp
          simp -dsimp -implicitDefEqProofs only [h5, h1, h2, m26, sF26, Nat.reduceEqDiff, ↓reduceIte, Nat.reduceAdd, Nat.reduceMul, Value.cells, Value.oneCell', eq_self, ne_eq, Int.reduceToNat, Int.reduceEq, Int.reduceLT, Int.reduceLE, Int.reduceNeg, if_true, if_false, reduceCtorEq, Nat.reduceSub, storeV_ptr, slcV_slice, ↓mwD, mwU]
          exact ⟨by rw [hp], hxw⟩
end Go.Proofs.YthcdnjbhhaonhaaGreatDoor
/- Layer 02: the reference's ValidChoice, Has. -/

namespace Go.Proofs.YthcdnjbhhaonhaaGreatDoor
open Go.RowKit
set_option linter.unusedSimpArgs false

theorem form_fit {c : Ch} (ha : c.L.all inT = true) (hf : c.form = true) : Fit c := by
  have mem : ∀ i, i < c.L.length → 0 ≤ c.L.getD i 0 ∧ c.L.getD i 0 ≤ 1000000000 := fun i hi => by
    have := List.all_eq_true.1 ha c.L[i] (List.getElem_mem hi)
    simp only [inT, Bool.and_eq_true, decide_eq_true_eq] at this
    rw [getD_get hi]
    exact this
  unfold Ch.form at hf
  split at hf
  · rename_i hk; exact .inl (.inl ⟨hk, by simpa using hf⟩)
  · split at hf
    · rename_i hk; exact .inl (.inr hk)
    · split at hf
      · rename_i h1 h2 hk
        simp only [Bool.and_eq_true, decide_eq_true_eq] at hf
        have hs : c.stp = 1 := by unfold Ch.stp; rw [if_neg (by omega)]
        have m0 := mem 0 (by omega)
        have m1 := mem 1 (by omega)
        exact .inr ⟨⟨by unfold Ch.lsd; simp [h1, h2], m0.1, hf.2, m1.2, by omega, by omega⟩, .inl ⟨hk, hf.1⟩⟩
      · split at hf
        · rename_i h1 h2 _ hk
          simp only [Bool.and_eq_true, decide_eq_true_eq] at hf
          have m0 := mem 0 (by omega)
          have m1 := mem 1 (by omega)
          exact .inr ⟨⟨by unfold Ch.lsd; simp [h1, h2], m0.1, hf.1.2, m1.2, hf.2.1, hf.2.2⟩, .inr ⟨hk, hf.1.1⟩⟩
        · cases hf
theorem dis_pre : ∀ (l m : List Int), dis (l ++ m) = true → dis l = true := fun l => by
  induction l with
  | nil => intro m _; rfl
  | cons a l ih =>
    intro m hl
    simp only [List.cons_append, dis, Bool.and_eq_true, Bool.not_eq_true'] at hl ⊢
    refine ⟨?_, ih m hl.2⟩
    have := hl.1
    simp only [List.contains_eq_mem, decide_eq_false_iff_not, List.mem_append, not_or] at this ⊢
    exact this.1
theorem contains_take_mem {xs : List Int} {i j : Nat} (hi : i < j) (hj : j ≤ xs.length) : (xs.take j).contains xs[i] = true := by
  rw [List.contains_eq_mem, decide_eq_true_eq]
  exact List.mem_take_iff_getElem.2 ⟨i, by omega, rfl⟩
theorem refValid_c (c : Ch) (s : Value) (w : World) (hs : SlI w s c.L) : Rets Go.Proofs.Tryz.prog 21 #[chV c s] w fun r w' => r = .bool c.valid ∧ Ext w w' := by
  obtain ⟨p, cap, rfl, hc1, hc2⟩ := hs.shape
  have hx0 : Ext w (w.alloc (.cells #[.int .i64 c.k, .int .i64 c.d, .slice p c.L.length cap] 35)) := Ext.alloc _ _
  have hB : Bk (w.alloc (.cells #[.int .i64 c.k, .int .i64 c.d, .slice p c.L.length cap] 35)) w.heap.size [.int .i64 c.k, .int .i64 c.d, .slice p c.L.length cap] 35 := Bk.new _ _ _
  refine en21 ?_
  simp -dsimp -implicitDefEqProofs only [chV, m21, sF21, Nat.reduceEqDiff, ↓reduceIte, Nat.reduceAdd, Nat.reduceMul, Value.cells, Value.oneCell', eq_self, ne_eq, Int.reduceToNat, Int.reduceEq, Int.reduceLT, Int.reduceLE, Int.reduceNeg, if_true, if_false, reduceCtorEq, Nat.reduceSub, storeV_ptr, slcV_slice, ↓mwD, mwU]
  generalize w.alloc (.cells #[.int .i64 c.k, .int .i64 c.d, .slice p c.L.length cap] 35) = W at *
  refine mwpB_loop (fun e ds w' => ∃ i : Nat, i ≤ c.L.length ∧ e 3 = .int .i64 i ∧ e 1 = .pointer (some ⟨w.heap.size, 0, none⟩) ∧ ds = [] ∧ Ext W w' ∧ (c.L.take i).all inT = true ∧ (c.k = 2 → dis (c.L.take i) = true)) (fun e _ => c.L.length - (intOf (e 3)).toNat) ?_ ?_
  · simp -dsimp -implicitDefEqProofs only [m21, sF21, Nat.reduceEqDiff, ↓reduceIte, Nat.reduceAdd, Nat.reduceMul, Value.cells, Value.oneCell', eq_self, ne_eq, Int.reduceToNat, Int.reduceEq, Int.reduceLT, Int.reduceLE, Int.reduceNeg, if_true, if_false, reduceCtorEq, Nat.reduceSub, storeV_ptr, slcV_slice, ↓mwD, mwU]
    exact ⟨0, by omega, rfl, Ext.refl _, rfl, fun _ => rfl⟩
  · rintro e ds w1 ⟨i, hi, h3, h1, rfl, hx1, hall, hdis⟩
    have b2 := (hB.ext hx1).get (o := 2) rfl
    simp -dsimp -implicitDefEqProofs only [h3, h1, b2, m21, sF21, Nat.reduceEqDiff, ↓reduceIte, Nat.reduceAdd, Nat.reduceMul, Value.cells, Value.oneCell', eq_self, ne_eq, Int.reduceToNat, Int.reduceEq, Int.reduceLT, Int.reduceLE, Int.reduceNeg, if_true, if_false, reduceCtorEq, Nat.reduceSub, storeV_ptr, slcV_slice, ↓mwD, mwU]
    refine iteW_dec (fun hlt => ?_) (fun hge => ?_)
    · have hlt' : i < c.L.length := by omega
      obtain ⟨b, o, cap', hv, _, _, hcell⟩ := hs.at (by intro h0; rw [h0] at hlt'; simp at hlt')
      cases hv
      have hxw : ∀ {w2}, Ext W w2 → Ext w w2 := fun hh => hx0.trans hh
      have hck := (hxw hx1).cell (hcell i hlt')
      have hb1 : (0 : Int) ≤ i ∧ (i : Int) < c.L.length := by omega
      have hw := w64_succ hlt' (Nat.le_trans hc1 hc2)
      have htk := List.take_succ_eq_append_getElem hlt'
      have hnoT : inT c.L[i] = false → c.valid = false := fun hh => by
        have : c.L.all inT = false := by
          cases ha : c.L.all inT with
          | false => rfl
          | true => have := List.all_eq_true.1 ha c.L[i] (List.getElem_mem hlt'); rw [this] at hh; cases hh
        unfold Ch.valid; rw [this]; rfl
      by_cases n1 : c.L[i] < 0
      · simp -dsimp -implicitDefEqProofs only [h3, h1, b2, hb1, and_self, hck, n1, m21, sF21, Nat.reduceEqDiff, ↓reduceIte, Nat.reduceAdd, Nat.reduceMul, Value.cells, Value.oneCell', eq_self, ne_eq, Int.reduceToNat, Int.reduceEq, Int.reduceLT, Int.reduceLE, Int.reduceNeg, if_true, if_false, reduceCtorEq, Nat.reduceSub, storeV_ptr, slcV_slice, ↓mwD, mwU]
        exact ⟨by rw [hnoT (by simp [inT]; omega)], hxw hx1⟩
      · by_cases n2 : 1000000000 < c.L[i]
        · simp -dsimp -implicitDefEqProofs only [h3, h1, b2, hb1, and_self, hck, n1, n2, m21, sF21, Nat.reduceEqDiff, ↓reduceIte, Nat.reduceAdd, Nat.reduceMul, Value.cells, Value.oneCell', eq_self, ne_eq, Int.reduceToNat, Int.reduceEq, Int.reduceLT, Int.reduceLE, Int.reduceNeg, if_true, if_false, reduceCtorEq, Nat.reduceSub, storeV_ptr, slcV_slice, ↓mwD, mwU]
          exact ⟨by rw [hnoT (by simp [inT]; omega)], hxw hx1⟩
        · have hin : inT c.L[i] = true := by simp [inT]; omega
          simp -dsimp -implicitDefEqProofs only [h3, h1, b2, hb1, and_self, hck, n1, n2, m21, sF21, Nat.reduceEqDiff, ↓reduceIte, Nat.reduceAdd, Nat.reduceMul, Value.cells, Value.oneCell', eq_self, ne_eq, Int.reduceToNat, Int.reduceEq, Int.reduceLT, Int.reduceLE, Int.reduceNeg, if_true, if_false, reduceCtorEq, Nat.reduceSub, storeV_ptr, slcV_slice, ↓mwD, mwU]
          refine mwpB_loop (fun e ds w' => ∃ k : Nat, k ≤ i ∧ e 4 = .int .i64 k ∧ e 3 = .int .i64 i ∧ e 1 = .pointer (some ⟨w.heap.size, 0, none⟩) ∧ ds = [] ∧ Ext W w' ∧ (c.k = 2 → ∀ j (hj2 : j < c.L.length), j < k → c.L[j] ≠ c.L[i])) (fun e _ => i - (intOf (e 4)).toNat) ?_ ?_
          · simp -dsimp -implicitDefEqProofs only [h3, h1, m21, sF21, Nat.reduceEqDiff, ↓reduceIte, Nat.reduceAdd, Nat.reduceMul, Value.cells, Value.oneCell', eq_self, ne_eq, Int.reduceToNat, Int.reduceEq, Int.reduceLT, Int.reduceLE, Int.reduceNeg, if_true, if_false, reduceCtorEq, Nat.reduceSub, storeV_ptr, slcV_slice, ↓mwD, mwU]
            exact ⟨0, by omega, rfl, hx1, fun _ j hj2 hj => by omega⟩
          · rintro e' ds w2 ⟨k, hk, g4, g3, g1, rfl, hx2, hne⟩
            have c0 := (hB.ext hx2).get (o := 0) rfl
            have c2 := (hB.ext hx2).get (o := 2) rfl
            have done2 : (c.k = 2 → (c.L.take i).contains c.L[i] = false) → (c.k = 2 → dis (c.L.take (i + 1)) = true) := fun h2 hk2 => by
              rw [htk, dis_app, hdis hk2, h2 hk2]; rfl
            have hall2 : (c.L.take (i + 1)).all inT = true := by rw [htk, List.all_append, hall]; simp [hin]
            by_cases hki : (k : Int) < (i : Int)
            · by_cases hk2 : c.k = 2
              · have hki' : k < i := by omega
                have hcj := (hxw hx2).cell (hcell k (by omega))
                have hci := (hxw hx2).cell (hcell i hlt')
                have hbk : (0 : Int) ≤ k ∧ (k : Int) < c.L.length := by omega
                have hwk := w64_succ (k := k) (n := c.L.length) (by omega) (Nat.le_trans hc1 hc2)
                simp -dsimp -implicitDefEqProofs only [g4, g3, g1, c0, c2, hki, hk2, m21, sF21, Nat.reduceEqDiff, ↓reduceIte, Nat.reduceAdd, Nat.reduceMul, Value.cells, Value.oneCell', eq_self, ne_eq, Int.reduceToNat, Int.reduceEq, Int.reduceLT, Int.reduceLE, Int.reduceNeg, if_true, if_false, reduceCtorEq, Nat.reduceSub, storeV_ptr, slcV_slice, ↓mwD, mwU]
                refine mwpB_drawE ?_
                simp -dsimp -implicitDefEqProofs only [g4, g3, g1, c0, c2, hbk, hb1, and_self, hcj, hci, m21, sF21, Nat.reduceEqDiff, ↓reduceIte, Nat.reduceAdd, Nat.reduceMul, Value.cells, Value.oneCell', eq_self, ne_eq, Int.reduceToNat, Int.reduceEq, Int.reduceLT, Int.reduceLE, Int.reduceNeg, if_true, if_false, reduceCtorEq, Nat.reduceSub, storeV_ptr, slcV_slice, ↓mwD, mwU]
                refine iteW_dec (fun he => ?_) (fun he => ?_)
                · simp -dsimp -implicitDefEqProofs only [g4, g3, g1, m21, sF21, Nat.reduceEqDiff, ↓reduceIte, Nat.reduceAdd, Nat.reduceMul, Value.cells, Value.oneCell', eq_self, ne_eq, Int.reduceToNat, Int.reduceEq, Int.reduceLT, Int.reduceLE, Int.reduceNeg, if_true, if_false, reduceCtorEq, Nat.reduceSub, storeV_ptr, slcV_slice, ↓mwD, mwU]
                  refine ⟨?_, (hxw hx2).trans (Ext.drew _)⟩
                  have h1' : dis (c.L.take (i + 1)) = false := by rw [htk, dis_app, ← he, contains_take_mem hki' (by omega)]; simp
                  have h2' : dis c.L = false := by
                    cases hd : dis c.L with
                    | false => rfl
                    | true =>
                      have := dis_pre (c.L.take (i + 1)) (c.L.drop (i + 1)) (by rw [List.take_append_drop]; exact hd)
                      rw [h1'] at this; cases this
                  have : c.form = false := by unfold Ch.form; rw [if_neg (by omega), if_pos hk2, h2']; simp
                  unfold Ch.valid; rw [this]; simp
                · simp -dsimp -implicitDefEqProofs only [g4, g3, g1, hwk, m21, sF21, Nat.reduceEqDiff, ↓reduceIte, Nat.reduceAdd, Nat.reduceMul, Value.cells, Value.oneCell', eq_self, ne_eq, Int.reduceToNat, Int.reduceEq, Int.reduceLT, Int.reduceLE, Int.reduceNeg, if_true, if_false, reduceCtorEq, Nat.reduceSub, storeV_ptr, slcV_slice, ↓mwD, mwU]
                  refine ⟨⟨k + 1, by omega, rfl, hx2.trans (Ext.drew _), fun hk2' j hj2 hj => ?_⟩, ?_⟩
                  · by_cases hjk : j = k
                    · subst hjk; exact he
                    · exact hne hk2' j hj2 (by omega)
                  · simp only [intOf]; omega
              · simp -dsimp -implicitDefEqProofs only [g4, g3, g1, c0, c2, hki, hk2, hw, m21, sF21, Nat.reduceEqDiff, ↓reduceIte, Nat.reduceAdd, Nat.reduceMul, Value.cells, Value.oneCell', eq_self, ne_eq, Int.reduceToNat, Int.reduceEq, Int.reduceLT, Int.reduceLE, Int.reduceNeg, if_true, if_false, reduceCtorEq, Nat.reduceSub, storeV_ptr, slcV_slice, ↓mwD, mwU]
                refine ⟨⟨i + 1, by omega, rfl, hx2, hall2, fun h => h.elim⟩, ?_⟩
                simp only [intOf, h3]; omega
            · have hke : k = i := by omega
              subst hke
              simp -dsimp -implicitDefEqProofs only [g4, g3, g1, c0, c2, hki, hw, m21, sF21, Nat.reduceEqDiff, ↓reduceIte, Nat.reduceAdd, Nat.reduceMul, Value.cells, Value.oneCell', eq_self, ne_eq, Int.reduceToNat, Int.reduceEq, Int.reduceLT, Int.reduceLE, Int.reduceNeg, if_true, if_false, reduceCtorEq, Nat.reduceSub, storeV_ptr, slcV_slice, ↓mwD, mwU]
              refine ⟨⟨k + 1, by omega, rfl, hx2, hall2, done2 (fun h2 => ?_)⟩, ?_⟩
              · rw [List.contains_eq_mem, decide_eq_false_iff_not]
                intro hm
                obtain ⟨j, hj, he⟩ := List.mem_take_iff_getElem.1 hm
                exact hne h2 j (by omega) (by omega) he
              · simp only [intOf, h3]; omega
    · have hil : i = c.L.length := by omega
      subst hil
      rw [List.take_length] at hall hdis
      have c0 := (hB.ext hx1).get (o := 0) rfl
      have c1 := (hB.ext hx1).get (o := 1) rfl
      have c2 := (hB.ext hx1).get (o := 2) rfl
      have hv : c.valid = (c.form && c.has c.d) := by unfold Ch.valid; rw [hall]; rfl
      have hxw : Ext w w1 := hx0.trans hx1
      -- the form is wrong
      have bad : c.form = false → c.valid = false := fun h => by rw [hv, h]; rfl
      -- the form is right
      have good : ∀ (w2 : World), c.form = true → Ext w w2 → Rets Go.Proofs.Tryz.prog 26 #[chV c (.slice p c.L.length cap), .int .i64 c.d] w2 fun r w' => r = .bool c.valid ∧ Ext w w' := fun w2 hf hx2 =>
        (Has1_c c _ c.d w2 (hs.ext hx2) (form_fit hall hf)).mono fun r w' ⟨hr, hx3⟩ => ⟨by rw [hr, hv, hf]; rfl, hx2.trans hx3⟩
      simp only [chV] at good
      by_cases k1 : c.k = 1
      · by_cases l1 : c.L.length = 1
        · have l1' : (c.L.length : Int) = 1 := by omega
          have hf : c.form = true := by unfold Ch.form; rw [if_pos k1]; simp [l1]
          have gg := good w1 hf hxw
          rw [k1] at gg
          simp -dsimp -implicitDefEqProofs only [h3, h1, c0, c1, c2, k1, l1', m21, sF21, Nat.reduceEqDiff, ↓reduceIte, Nat.reduceAdd, Nat.reduceMul, Value.cells, Value.oneCell', eq_self, ne_eq, Int.reduceToNat, Int.reduceEq, Int.reduceLT, Int.reduceLE, Int.reduceNeg, if_true, if_false, reduceCtorEq, Nat.reduceSub, storeV_ptr, slcV_slice, ↓mwD, mwU]
          refine gg.use ?_
          rintro r w2 ⟨rfl, hx2⟩
          simp -dsimp -implicitDefEqProofs only [m21, sF21, Nat.reduceEqDiff, ↓reduceIte, Nat.reduceAdd, Nat.reduceMul, Value.cells, Value.oneCell', eq_self, ne_eq, Int.reduceToNat, Int.reduceEq, Int.reduceLT, Int.reduceLE, Int.reduceNeg, if_true, if_false, reduceCtorEq, Nat.reduceSub, storeV_ptr, slcV_slice, ↓mwD, mwU]
          exact hx2
        · have l1' : ¬ (c.L.length : Int) = 1 := by omega
          have hf : c.form = false := by unfold Ch.form; rw [if_pos k1]; simp [l1]
          simp -dsimp -implicitDefEqProofs only [h3, h1, c0, c1, c2, k1, l1', m21, sF21, Nat.reduceEqDiff, ↓reduceIte, Nat.reduceAdd, Nat.reduceMul, Value.cells, Value.oneCell', eq_self, ne_eq, Int.reduceToNat, Int.reduceEq, Int.reduceLT, Int.reduceLE, Int.reduceNeg, if_true, if_false, reduceCtorEq, Nat.reduceSub, storeV_ptr, slcV_slice, ↓mwD, mwU]
          exact ⟨by rw [bad hf], hxw⟩
      · by_cases k2 : c.k = 2
        · have hd := hdis k2
          by_cases l1 : 1 ≤ c.L.length
          · have l1' : (1 : Int) ≤ (c.L.length : Int) := by omega
            by_cases l2 : c.L.length ≤ 20
            · have l2' : (c.L.length : Int) ≤ 20 := by omega
              have hf : c.form = true := by unfold Ch.form; rw [if_neg k1, if_pos k2, hd]; simp [l1, l2]
              have gg := good w1 hf hxw
              rw [k2] at gg
              simp -dsimp -implicitDefEqProofs only [h3, h1, c0, c1, c2, k2, l1', l2', m21, sF21, Nat.reduceEqDiff, ↓reduceIte, Nat.reduceAdd, Nat.reduceMul, Value.cells, Value.oneCell', eq_self, ne_eq, Int.reduceToNat, Int.reduceEq, Int.reduceLT, Int.reduceLE, Int.reduceNeg, if_true, if_false, reduceCtorEq, Nat.reduceSub, storeV_ptr, slcV_slice, ↓mwD, mwU]
              refine gg.use ?_
              rintro r w2 ⟨rfl, hx2⟩
              simp -dsimp -implicitDefEqProofs only [m21, sF21, Nat.reduceEqDiff, ↓reduceIte, Nat.reduceAdd, Nat.reduceMul, Value.cells, Value.oneCell', eq_self, ne_eq, Int.reduceToNat, Int.reduceEq, Int.reduceLT, Int.reduceLE, Int.reduceNeg, if_true, if_false, reduceCtorEq, Nat.reduceSub, storeV_ptr, slcV_slice, ↓mwD, mwU]
              exact hx2
            · have l2' : ¬ (c.L.length : Int) ≤ 20 := by omega
              have hf : c.form = false := by unfold Ch.form; rw [if_neg k1, if_pos k2]; simp [l2]
              simp -dsimp -implicitDefEqProofs only [h3, h1, c0, c1, c2, k2, l1', l2', m21, sF21, Nat.reduceEqDiff, ↓reduceIte, Nat.reduceAdd, Nat.reduceMul, Value.cells, Value.oneCell', eq_self, ne_eq, Int.reduceToNat, Int.reduceEq, Int.reduceLT, Int.reduceLE, Int.reduceNeg, if_true, if_false, reduceCtorEq, Nat.reduceSub, storeV_ptr, slcV_slice, ↓mwD, mwU]
              exact ⟨by rw [bad hf], hxw⟩
          · have l1' : ¬ (1 : Int) ≤ (c.L.length : Int) := by omega
            have hf : c.form = false := by unfold Ch.form; rw [if_neg k1, if_pos k2]; simp [l1]
            simp -dsimp -implicitDefEqProofs only [h3, h1, c0, c1, c2, k2, l1', m21, sF21, Nat.reduceEqDiff, ↓reduceIte, Nat.reduceAdd, Nat.reduceMul, Value.cells, Value.oneCell', eq_self, ne_eq, Int.reduceToNat, Int.reduceEq, Int.reduceLT, Int.reduceLE, Int.reduceNeg, if_true, if_false, reduceCtorEq, Nat.reduceSub, storeV_ptr, slcV_slice, ↓mwD, mwU]
            exact ⟨by rw [bad hf], hxw⟩
        · by_cases k3 : c.k = 3
          · by_cases l2 : c.L.length = 2
            · have l2' : (c.L.length : Int) = 2 := by omega
              obtain ⟨b, o, cap', hv', _, _, hcell⟩ := hs.at (by intro e; rw [e] at l2; simp at l2)
              cases hv'
              have q0 := hxw.cell (hcell 0 (by omega))
              have q1 := hxw.cell (hcell 1 (by omega))
              simp only [Nat.add_zero] at q0
              have e0 : c.lo = c.L[0] := getD_get (by omega)
              have e1 : c.hi = c.L[1] := getD_get (by omega)
              rw [← e0] at q0
              rw [← e1] at q1
              have b0 : (0 : Int) < (c.L.length : Int) := by omega
              have b1 : (1 : Int) < (c.L.length : Int) := by omega
              simp -dsimp -implicitDefEqProofs only [h3, h1, c0, c1, c2, k3, m21, sF21, Nat.reduceEqDiff, ↓reduceIte, Nat.reduceAdd, Nat.reduceMul, Value.cells, Value.oneCell', eq_self, ne_eq, Int.reduceToNat, Int.reduceEq, Int.reduceLT, Int.reduceLE, Int.reduceNeg, if_true, if_false, reduceCtorEq, Nat.reduceSub, storeV_ptr, slcV_slice, ↓mwD, mwU]
              refine mwpB_drawE ?_
              by_cases hle : c.lo ≤ c.hi
              · have hf : c.form = true := by unfold Ch.form; rw [if_neg k1, if_neg k2, if_pos k3]; simp [l2, hle]
                have gg := good w1.drew hf (hxw.trans (Ext.drew _))
                rw [k3] at gg
                simp -dsimp -implicitDefEqProofs only [h3, h1, c0, c1, c2, k3, q0, q1, b0, b1, hle, l2', m21, sF21, Nat.reduceEqDiff, ↓reduceIte, Nat.reduceAdd, Nat.reduceMul, Value.cells, Value.oneCell', eq_self, ne_eq, Int.reduceToNat, Int.reduceEq, Int.reduceLT, Int.reduceLE, Int.reduceNeg, if_true, if_false, reduceCtorEq, Nat.reduceSub, storeV_ptr, slcV_slice, ↓mwD, mwU]
                refine gg.use ?_
                rintro r w2 ⟨rfl, hx2⟩
                simp -dsimp -implicitDefEqProofs only [m21, sF21, Nat.reduceEqDiff, ↓reduceIte, Nat.reduceAdd, Nat.reduceMul, Value.cells, Value.oneCell', eq_self, ne_eq, Int.reduceToNat, Int.reduceEq, Int.reduceLT, Int.reduceLE, Int.reduceNeg, if_true, if_false, reduceCtorEq, Nat.reduceSub, storeV_ptr, slcV_slice, ↓mwD, mwU]
                exact hx2
              · have hf : c.form = false := by unfold Ch.form; rw [if_neg k1, if_neg k2, if_pos k3]; simp [hle]
                simp -dsimp -implicitDefEqProofs only [h3, h1, c0, c1, c2, k3, q0, q1, b0, b1, hle, l2', m21, sF21, Nat.reduceEqDiff, ↓reduceIte, Nat.reduceAdd, Nat.reduceMul, Value.cells, Value.oneCell', eq_self, ne_eq, Int.reduceToNat, Int.reduceEq, Int.reduceLT, Int.reduceLE, Int.reduceNeg, if_true, if_false, reduceCtorEq, Nat.reduceSub, storeV_ptr, slcV_slice, ↓mwD, mwU]
                exact ⟨by rw [bad hf], hxw.trans (Ext.drew _)⟩
            · have l2' : ¬ (c.L.length : Int) = 2 := by omega
              have hf : c.form = false := by unfold Ch.form; rw [if_neg k1, if_neg k2, if_pos k3]; simp [l2]
              simp -dsimp -implicitDefEqProofs only [h3, h1, c0, c1, c2, k3, m21, sF21, Nat.reduceEqDiff, ↓reduceIte, Nat.reduceAdd, Nat.reduceMul, Value.cells, Value.oneCell', eq_self, ne_eq, Int.reduceToNat, Int.reduceEq, Int.reduceLT, Int.reduceLE, Int.reduceNeg, if_true, if_false, reduceCtorEq, Nat.reduceSub, storeV_ptr, slcV_slice, ↓mwD, mwU]
              refine mwpB_drawE ?_
              simp -dsimp -implicitDefEqProofs only [h3, h1, c0, c1, c2, k3, l2', m21, sF21, Nat.reduceEqDiff, ↓reduceIte, Nat.reduceAdd, Nat.reduceMul, Value.cells, Value.oneCell', eq_self, ne_eq, Int.reduceToNat, Int.reduceEq, Int.reduceLT, Int.reduceLE, Int.reduceNeg, if_true, if_false, reduceCtorEq, Nat.reduceSub, storeV_ptr, slcV_slice, ↓mwD, mwU]
              exact ⟨by rw [bad hf], hxw.trans (Ext.drew _)⟩
          · by_cases k4 : c.k = 4
            · by_cases l3 : c.L.length = 3
              · have l3' : (c.L.length : Int) = 3 := by omega
                obtain ⟨b, o, cap', hv', _, _, hcell⟩ := hs.at (by intro e; rw [e] at l3; simp at l3)
                cases hv'
                have q0 := hxw.cell (hcell 0 (by omega))
                have q1 := hxw.cell (hcell 1 (by omega))
                have q2 := hxw.cell (hcell 2 (by omega))
                simp only [Nat.add_zero] at q0
                have e0 : c.lo = c.L[0] := getD_get (by omega)
                have e1 : c.hi = c.L[1] := getD_get (by omega)
                have e2 : c.stp = c.L[2] := by unfold Ch.stp; rw [if_pos k4]; exact getD_get (by omega)
                rw [← e0] at q0
                rw [← e1] at q1
                rw [← e2] at q2
                have b0 : (0 : Int) < (c.L.length : Int) := by omega
                have b1 : (1 : Int) < (c.L.length : Int) := by omega
                have b2' : (2 : Int) < (c.L.length : Int) := by omega
                simp -dsimp -implicitDefEqProofs only [h3, h1, c0, c1, c2, k4, m21, sF21, Nat.reduceEqDiff, ↓reduceIte, Nat.reduceAdd, Nat.reduceMul, Value.cells, Value.oneCell', eq_self, ne_eq, Int.reduceToNat, Int.reduceEq, Int.reduceLT, Int.reduceLE, Int.reduceNeg, if_true, if_false, reduceCtorEq, Nat.reduceSub, storeV_ptr, slcV_slice, ↓mwD, mwU]
                refine mwpB_drawE ?_
                by_cases hle : c.lo ≤ c.hi
                · by_cases hs0 : 1 ≤ c.stp
                  · by_cases hs1 : c.stp ≤ 1000
                    · have hf : c.form = true := by unfold Ch.form; rw [if_neg k1, if_neg k2, if_neg k3, if_pos k4]; simp [l3, hle, hs0, hs1]
                      have gg := good w1.drew hf (hxw.trans (Ext.drew _))
                      rw [k4] at gg
                      simp -dsimp -implicitDefEqProofs only [h3, h1, c0, c1, c2, k4, q0, q1, q2, b0, b1, b2', hle, l3', hs0, hs1, m21, sF21, Nat.reduceEqDiff, ↓reduceIte, Nat.reduceAdd, Nat.reduceMul, Value.cells, Value.oneCell', eq_self, ne_eq, Int.reduceToNat, Int.reduceEq, Int.reduceLT, Int.reduceLE, Int.reduceNeg, if_true, if_false, reduceCtorEq, Nat.reduceSub, storeV_ptr, slcV_slice, ↓mwD, mwU]
                      refine gg.use ?_
                      rintro r w2 ⟨rfl, hx2⟩
                      simp -dsimp -implicitDefEqProofs only [m21, sF21, Nat.reduceEqDiff, ↓reduceIte, Nat.reduceAdd, Nat.reduceMul, Value.cells, Value.oneCell', eq_self, ne_eq, Int.reduceToNat, Int.reduceEq, Int.reduceLT, Int.reduceLE, Int.reduceNeg, if_true, if_false, reduceCtorEq, Nat.reduceSub, storeV_ptr, slcV_slice, ↓mwD, mwU]
                      exact hx2
                    · have hf : c.form = false := by unfold Ch.form; rw [if_neg k1, if_neg k2, if_neg k3, if_pos k4]; simp [hs1]
                      simp -dsimp -implicitDefEqProofs only [h3, h1, c0, c1, c2, k4, q0, q1, q2, b0, b1, b2', hle, l3', hs0, hs1, m21, sF21, Nat.reduceEqDiff, ↓reduceIte, Nat.reduceAdd, Nat.reduceMul, Value.cells, Value.oneCell', eq_self, ne_eq, Int.reduceToNat, Int.reduceEq, Int.reduceLT, Int.reduceLE, Int.reduceNeg, if_true, if_false, reduceCtorEq, Nat.reduceSub, storeV_ptr, slcV_slice, ↓mwD, mwU]
                      exact ⟨by rw [bad hf], hxw.trans (Ext.drew _)⟩
                  · have hf : c.form = false := by unfold Ch.form; rw [if_neg k1, if_neg k2, if_neg k3, if_pos k4]; simp [hs0]
                    simp -dsimp -implicitDefEqProofs only [h3, h1, c0, c1, c2, k4, q0, q1, q2, b0, b1, b2', hle, l3', hs0, m21, sF21, Nat.reduceEqDiff, ↓reduceIte, Nat.reduceAdd, Nat.reduceMul, Value.cells, Value.oneCell', eq_self, ne_eq, Int.reduceToNat, Int.reduceEq, Int.reduceLT, Int.reduceLE, Int.reduceNeg, if_true, if_false, reduceCtorEq, Nat.reduceSub, storeV_ptr, slcV_slice, ↓mwD, mwU]
                    exact ⟨by rw [bad hf], hxw.trans (Ext.drew _)⟩
                · have hf : c.form = false := by unfold Ch.form; rw [if_neg k1, if_neg k2, if_neg k3, if_pos k4]; simp [hle]
                  simp -dsimp -implicitDefEqProofs only [h3, h1, c0, c1, c2, k4, q0, q1, q2, b0, b1, b2', hle, l3', m21, sF21, Nat.reduceEqDiff, ↓reduceIte, Nat.reduceAdd, Nat.reduceMul, Value.cells, Value.oneCell', eq_self, ne_eq, Int.reduceToNat, Int.reduceEq, Int.reduceLT, Int.reduceLE, Int.reduceNeg, if_true, if_false, reduceCtorEq, Nat.reduceSub, storeV_ptr, slcV_slice, ↓mwD, mwU]
                  exact ⟨by rw [bad hf], hxw.trans (Ext.drew _)⟩
              · have l3' : ¬ (c.L.length : Int) = 3 := by omega
                have hf : c.form = false := by unfold Ch.form; rw [if_neg k1, if_neg k2, if_neg k3, if_pos k4]; simp [l3]
                simp -dsimp -implicitDefEqProofs only [h3, h1, c0, c1, c2, k4, m21, sF21, Nat.reduceEqDiff, ↓reduceIte, Nat.reduceAdd, Nat.reduceMul, Value.cells, Value.oneCell', eq_self, ne_eq, Int.reduceToNat, Int.reduceEq, Int.reduceLT, Int.reduceLE, Int.reduceNeg, if_true, if_false, reduceCtorEq, Nat.reduceSub, storeV_ptr, slcV_slice, ↓mwD, mwU]
                refine mwpB_drawE ?_
                simp -dsimp -implicitDefEqProofs only [h3, h1, c0, c1, c2, k4, l3', m21, sF21, Nat.reduceEqDiff, ↓reduceIte, Nat.reduceAdd, Nat.reduceMul, Value.cells, Value.oneCell', eq_self, ne_eq, Int.reduceToNat, Int.reduceEq, Int.reduceLT, Int.reduceLE, Int.reduceNeg, if_true, if_false, reduceCtorEq, Nat.reduceSub, storeV_ptr, slcV_slice, ↓mwD, mwU]
                exact ⟨by rw [bad hf], hxw.trans (Ext.drew _)⟩
            · have hf : c.form = false := by unfold Ch.form; rw [if_neg k1, if_neg k2, if_neg k3, if_neg k4]
              simp -dsimp -implicitDefEqProofs only [h3, h1, c0, c1, c2, k1, k2, k3, k4, m21, sF21, Nat.reduceEqDiff, ↓reduceIte, Nat.reduceAdd, Nat.reduceMul, Value.cells, Value.oneCell', eq_self, ne_eq, Int.reduceToNat, Int.reduceEq, Int.reduceLT, Int.reduceLE, Int.reduceNeg, if_true, if_false, reduceCtorEq, Nat.reduceSub, storeV_ptr, slcV_slice, ↓mwD, mwU]
              exact ⟨by rw [bad hf], hxw⟩
theorem refHas_c (c : Ch) (s : Value) (n : Int) (w : World) (hs : SlI w s c.L) : Rets Go.Proofs.Tryz.prog 17 #[chV c s, .int .i64 n] w fun r w' => r = (if c.valid then .tuple #[.bool (c.has n), .int .i64 0] else .tuple #[.bool false, .int .i64 1]) ∧ Ext w w' := by
  have hx : Ext w (w.alloc (.cells #[.int .i64 c.k, .int .i64 c.d, s] 35)) := Ext.alloc _ _
  refine en17 ?_
  obtain ⟨p, cap, rfl, _, _⟩ := hs.shape
  simp -dsimp -implicitDefEqProofs only [chV, m17, sF17, Nat.reduceEqDiff, ↓reduceIte, Nat.reduceAdd, Nat.reduceMul, Value.cells, Value.oneCell', eq_self, ne_eq, Int.reduceToNat, Int.reduceEq, Int.reduceLT, Int.reduceLE, Int.reduceNeg, if_true, if_false, reduceCtorEq, Nat.reduceSub, storeV_ptr, slcV_slice, ↓mwD, mwU]
  refine (refValid_c c _ _ (hs.ext hx)).use ?_
  rintro r w1 ⟨rfl, h1⟩
  cases hv : c.valid
  · simp -dsimp -implicitDefEqProofs only [m17, sF17, Nat.reduceEqDiff, ↓reduceIte, Nat.reduceAdd, Nat.reduceMul, Value.cells, Value.oneCell', eq_self, ne_eq, Int.reduceToNat, Int.reduceEq, Int.reduceLT, Int.reduceLE, Int.reduceNeg, if_true, if_false, reduceCtorEq, Nat.reduceSub, storeV_ptr, slcV_slice, ↓mwD, mwU]
    exact hx.trans h1
  · have b0 := box_cell (v := .int .i64 c.k) h1 (j := 0) rfl
    have b1 := box_cell (v := .int .i64 c.d) h1 (j := 1) rfl
    have b2 := box_cell (v := .slice p c.L.length cap) h1 (j := 2) rfl
    simp -dsimp -implicitDefEqProofs only [b0, b1, b2, m17, sF17, Nat.reduceEqDiff, ↓reduceIte, Nat.reduceAdd, Nat.reduceMul, Value.cells, Value.oneCell', eq_self, ne_eq, Int.reduceToNat, Int.reduceEq, Int.reduceLT, Int.reduceLE, Int.reduceNeg, if_true, if_false, reduceCtorEq, Nat.reduceSub, storeV_ptr, slcV_slice, ↓mwD, mwU]
    refine (Has1_c c _ n _ (hs.ext (hx.trans h1)) (valid_fit hv)).use ?_
    rintro r w3 ⟨rfl, h3⟩
    simp -dsimp -implicitDefEqProofs only [m17, sF17, Nat.reduceEqDiff, ↓reduceIte, Nat.reduceAdd, Nat.reduceMul, Value.cells, Value.oneCell', eq_self, ne_eq, Int.reduceToNat, Int.reduceEq, Int.reduceLT, Int.reduceLE, Int.reduceNeg, if_true, if_false, reduceCtorEq, Nat.reduceSub, storeV_ptr, slcV_slice, ↓mwD, mwU]
    exact (hx.trans h1).trans h3
end Go.Proofs.YthcdnjbhhaonhaaGreatDoor
/- Layer 02: the reference's First, Numbers, list, lcm, greatest. -/

namespace Go.Proofs.YthcdnjbhhaonhaaGreatDoor
open Go.RowKit
set_option linter.unusedSimpArgs false

theorem First_c (c : Ch) (s : Value) (m : Nat) (w : World) (hs : SlI w s c.L) (hv : c.valid = true) (hm : m ≤ 1000) :
    Rets Go.Proofs.Tryz.prog 67 #[chV c s, .int .i64 m] w fun r w' => Ext w w' ∧ w'.ownsRow w.heap.size 3 1 r (c.first m).length (ints (c.first m)) := by
  have hf := valid_fit hv
  have hvl := valid_len hv
  obtain ⟨p, cap, rfl, hc1, hc2⟩ := hs.shape
  have hx0 : Ext w (w.alloc (.cells #[.int .i64 c.k, .int .i64 c.d, .slice p c.L.length cap] 35)) := Ext.alloc _ _
  have hsz : (w.alloc (.cells #[.int .i64 c.k, .int .i64 c.d, .slice p c.L.length cap] 35)).heap.size = w.heap.size + 1 := World.size_alloc _ _
  have hB : Bk (w.alloc (.cells #[.int .i64 c.k, .int .i64 c.d, .slice p c.L.length cap] 35)) w.heap.size [.int .i64 c.k, .int .i64 c.d, .slice p c.L.length cap] 35 := Bk.new _ _ _
  have B0 := hB.get (o := 0) rfl
  have B2 := hB.get (o := 2) rfl
  refine en67 ?_
  cases hl : c.lsd
  · obtain ⟨hr, hk⟩ := fit_range hf hl
    have l0 := hr.l0
    have l1 := hr.l1
    have l2 := hr.l2
    have s0 := hr.s0
    have s1 := hr.s1
    rw [first_range hl]
    have hlen : 2 ≤ c.L.length := by omega
    have h3 : c.k = 4 → 3 ≤ c.L.length := by omega
    have hk1 : ¬ c.k = 1 := by omega
    have hk2 : ¬ c.k = 2 := by omega
    obtain ⟨b, o, cap', hv', _, _, hcell⟩ := hs.at (by intro e; rw [e] at hlen; simp at hlen)
    cases hv'
    have e0 : c.lo = c.L[0] := getD_get (by omega)
    have e1 : c.hi = c.L[1] := getD_get (by omega)
    have q0 := hx0.cell (hcell 0 (by omega))
    simp only [Nat.add_zero] at q0
    rw [← e0] at q0
    have b0 : (0 : Int) < (c.L.length : Int) := by omega
    have b1 : (1 : Int) < (c.L.length : Int) := by omega
    simp -dsimp -implicitDefEqProofs only [chV, hk1, hk2, q0, b0, m67, sF67, Nat.reduceEqDiff, ↓reduceIte, Nat.reduceAdd, Nat.reduceMul, Value.cells, Value.oneCell', eq_self, ne_eq, Int.reduceToNat, Int.reduceEq, Int.reduceLT, Int.reduceLE, Int.reduceNeg, if_true, if_false, reduceCtorEq, Nat.reduceSub, storeV_ptr, slcV_slice, ↓mwD, mwU]
    generalize w.alloc (.cells #[.int .i64 c.k, .int .i64 c.d, .slice (some ⟨b, o, none⟩) c.L.length cap] 35) = W at *
    have fin : ∀ {w' : World} {v : Value} {xs : List Int}, rng c.hi c.stp m c.lo = xs → Ext W w' → w'.ownsRow W.heap.size 3 1 v xs.length (ints xs) → Ext w w' ∧ w'.ownsRow w.heap.size 3 1 v (rng c.hi c.stp m c.lo).length (ints (rng c.hi c.stp m c.lo)) := fun he hx hown => by
      rw [he]
      exact ⟨hx0.trans hx, Own.mono hown (by omega)⟩
    refine mwpB_loop (fun e ds w' => ∃ (n : Int) (xs : List Int), e 7 = .int .i64 n ∧ e 1 = .int .i64 m ∧ e 2 = .pointer (some ⟨w.heap.size, 0, none⟩) ∧ ds = [] ∧ c.lo ≤ n ∧ n ≤ 1000000000 + 1000000 ∧ xs.length ≤ m ∧ rng c.hi c.stp m c.lo = xs ++ rng c.hi c.stp (m - xs.length) n ∧
      Ext W w' ∧ w'.ownsRow W.heap.size 3 1 (e 5) xs.length (ints xs)) (fun e _ => (c.hi + 1 - intOf (e 7)).toNat) ?_ ?_
    · simp -dsimp -implicitDefEqProofs only [m67, sF67, Nat.reduceEqDiff, ↓reduceIte, Nat.reduceAdd, Nat.reduceMul, Value.cells, Value.oneCell', eq_self, ne_eq, Int.reduceToNat, Int.reduceEq, Int.reduceLT, Int.reduceLE, Int.reduceNeg, if_true, if_false, reduceCtorEq, Nat.reduceSub, storeV_ptr, slcV_slice, ↓mwD, mwU]
      exact ⟨c.lo, [], rfl, Int.le_refl _, by omega, by simp, by simp, Ext.refl _, World.ownsRow_nil _ _ _ _⟩
    · rintro e ds w' ⟨n, xs, h7, h1, h2, rfl, hn, hn2, hlen2, hr2, hx, hown⟩
      have c2 := (hB.ext hx).get (o := 2) rfl
      have q1 := (hx0.trans hx).cell (hcell 1 (by omega))
      rw [← e1] at q1
      obtain ⟨_, q, cp, h5⟩ := own_shape hown
      rw [h5] at hown
      by_cases hnb : n ≤ c.hi
      · by_cases hl2 : xs.length < m
        · have hl' : (xs.length : Int) < (m : Int) := by omega
          have hw : IntKind.i64.wrap (n + c.stp) = n + c.stp := w64 (by omega) (by omega)
          simp -dsimp -implicitDefEqProofs only [h7, h1, h2, h5, c2, q1, b1, hnb, hl', bs_one, m67, sF67, Nat.reduceEqDiff, ↓reduceIte, Nat.reduceAdd, Nat.reduceMul, Value.cells, Value.oneCell', eq_self, ne_eq, Int.reduceToNat, Int.reduceEq, Int.reduceLT, Int.reduceLE, Int.reduceNeg, if_true, if_false, reduceCtorEq, Nat.reduceSub, storeV_ptr, slcV_slice, ↓mwD, mwU]
          obtain ⟨v2, w2, ha2, hown2, hg2⟩ := append_int hown n (by omega) hx.size
          refine appB.mk ha2 ?_
          have hx2 := append_ext hx hown hg2
          have d0 := (hB.ext hx2).get (o := 0) rfl
          have d1 := (hB.ext hx2).get (o := 1) rfl
          have d2 := (hB.ext hx2).get (o := 2) rfl
          simp -dsimp -implicitDefEqProofs only [h7, h1, h2, d0, d1, d2, m67, sF67, Nat.reduceEqDiff, ↓reduceIte, Nat.reduceAdd, Nat.reduceMul, Value.cells, Value.oneCell', eq_self, ne_eq, Int.reduceToNat, Int.reduceEq, Int.reduceLT, Int.reduceLE, Int.reduceNeg, if_true, if_false, reduceCtorEq, Nat.reduceSub, storeV_ptr, slcV_slice, ↓mwD, mwU]
          refine (step_c c _ w2 (hs.ext (hx0.trans hx2)) h3).use ?_
          rintro r w3 ⟨rfl, hx3⟩
          simp -dsimp -implicitDefEqProofs only [h7, h1, h2, hw, m67, sF67, Nat.reduceEqDiff, ↓reduceIte, Nat.reduceAdd, Nat.reduceMul, Value.cells, Value.oneCell', eq_self, ne_eq, Int.reduceToNat, Int.reduceEq, Int.reduceLT, Int.reduceLE, Int.reduceNeg, if_true, if_false, reduceCtorEq, Nat.reduceSub, storeV_ptr, slcV_slice, ↓mwD, mwU]
          refine ⟨⟨n + c.stp, xs ++ [n], rfl, by omega, by omega, by simp; omega, ?_, hx2.trans hx3, by simpa using Own.ext hown2 hx3⟩, ?_⟩
          · have e1 : m - xs.length = (m - (xs ++ [n]).length) + 1 := by simp; omega
            rw [hr2, e1, rng, if_pos hnb, List.append_assoc, List.singleton_append]
          · simp only [intOf]; omega
        · have hl' : ¬ (xs.length : Int) < (m : Int) := by omega
          simp -dsimp -implicitDefEqProofs only [h7, h1, h2, h5, c2, q1, b1, hnb, hl', m67, sF67, Nat.reduceEqDiff, ↓reduceIte, Nat.reduceAdd, Nat.reduceMul, Value.cells, Value.oneCell', eq_self, ne_eq, Int.reduceToNat, Int.reduceEq, Int.reduceLT, Int.reduceLE, Int.reduceNeg, if_true, if_false, reduceCtorEq, Nat.reduceSub, storeV_ptr, slcV_slice, ↓mwD, mwU]
          exact fin (by rw [hr2, show m - xs.length = 0 by omega]; simp [rng]) hx hown
      · simp -dsimp -implicitDefEqProofs only [h7, h1, h2, h5, c2, q1, b1, hnb, m67, sF67, Nat.reduceEqDiff, ↓reduceIte, Nat.reduceAdd, Nat.reduceMul, Value.cells, Value.oneCell', eq_self, ne_eq, Int.reduceToNat, Int.reduceEq, Int.reduceLT, Int.reduceLE, Int.reduceNeg, if_true, if_false, reduceCtorEq, Nat.reduceSub, storeV_ptr, slcV_slice, ↓mwD, mwU]
        refine fin ?_ hx hown
        rw [hr2]
        cases m - xs.length with
        | zero => simp [rng]
        | succ k => rw [rng, if_neg hnb]; simp
  · rw [first_list hl]
    have hk := fit_list hf hl
    have hkk : c.k = 1 ∨ c.k = 2 := by omega
    rcases hkk with hk1 | hk1
    all_goals
      rw [hk1] at hB hx0 hsz
      simp -dsimp -implicitDefEqProofs only [chV, hk1, m67, sF67, Nat.reduceEqDiff, ↓reduceIte, Nat.reduceAdd, Nat.reduceMul, Value.cells, Value.oneCell', eq_self, ne_eq, Int.reduceToNat, Int.reduceEq, Int.reduceLT, Int.reduceLE, Int.reduceNeg, if_true, if_false, reduceCtorEq, Nat.reduceSub, storeV_ptr, slcV_slice, ↓mwD, mwU]
      have hcell2 : ∀ {w'}, Ext (w.alloc (.cells #[.int .i64 _, .int .i64 c.d, .slice p c.L.length cap] 35)) w' → w'.cell? ⟨w.heap.size, 2, none⟩ = some (.slice p c.L.length cap) := fun hh => (hB.ext hh).get (o := 2) rfl
      generalize World.alloc w _ = W at hx0 hsz hcell2 ⊢
      refine mwpB_loop (fun e ds w' => ∃ i : Nat, i ≤ c.L.length ∧ i ≤ m ∧ e 6 = .int .i64 i ∧ e 1 = .int .i64 m ∧ e 2 = .pointer (some ⟨w.heap.size, 0, none⟩) ∧ ds = [] ∧ Ext W w' ∧ w'.ownsRow W.heap.size 3 1 (e 5) i (ints (c.L.take i)))
        (fun e _ => c.L.length - (intOf (e 6)).toNat) ?_ ?_
      · simp -dsimp -implicitDefEqProofs only [m67, sF67, Nat.reduceEqDiff, ↓reduceIte, Nat.reduceAdd, Nat.reduceMul, Value.cells, Value.oneCell', eq_self, ne_eq, Int.reduceToNat, Int.reduceEq, Int.reduceLT, Int.reduceLE, Int.reduceNeg, if_true, if_false, reduceCtorEq, Nat.reduceSub, storeV_ptr, slcV_slice, ↓mwD, mwU]
        exact ⟨0, by omega, by omega, rfl, Ext.refl _, World.ownsRow_nil _ _ _ _⟩
      · rintro e ds w' ⟨i, hi, him, h6, h1, h2, rfl, hx, hown⟩
        have c2 := hcell2 hx
        by_cases hil : i < c.L.length
        · have hil' : (i : Int) < (c.L.length : Int) := by omega
          by_cases him2 : i < m
          · have him' : (i : Int) < (m : Int) := by omega
            obtain ⟨b, o, cap', hv', _, _, hcell⟩ := hs.at (by intro h0; rw [h0] at hil; simp at hil)
            cases hv'
            have hck := (hx0.trans hx).cell (hcell i hil)
            have hb1 : (0 : Int) ≤ i ∧ (i : Int) < c.L.length := by omega
            have hw := w64_succ hil (Nat.le_trans hc1 hc2)
            have htk := List.take_succ_eq_append_getElem hil
            simp -dsimp -implicitDefEqProofs only [h6, h1, h2, c2, hil', him', hb1, and_self, hck, bs_one, m67, sF67, Nat.reduceEqDiff, ↓reduceIte, Nat.reduceAdd, Nat.reduceMul, Value.cells, Value.oneCell', eq_self, ne_eq, Int.reduceToNat, Int.reduceEq, Int.reduceLT, Int.reduceLE, Int.reduceNeg, if_true, if_false, reduceCtorEq, Nat.reduceSub, storeV_ptr, slcV_slice, ↓mwD, mwU]
            obtain ⟨v2, w2, ha2, hown2, hg2⟩ := append_int hown c.L[i] (by omega) hx.size
            refine appB.mk ha2 ?_
            simp -dsimp -implicitDefEqProofs only [h6, h1, h2, hw, m67, sF67, Nat.reduceEqDiff, ↓reduceIte, Nat.reduceAdd, Nat.reduceMul, Value.cells, Value.oneCell', eq_self, ne_eq, Int.reduceToNat, Int.reduceEq, Int.reduceLT, Int.reduceLE, Int.reduceNeg, if_true, if_false, reduceCtorEq, Nat.reduceSub, storeV_ptr, slcV_slice, ↓mwD, mwU]
            refine ⟨⟨i + 1, by omega, by omega, rfl, append_ext hx hown hg2, by rw [htk]; exact hown2⟩, ?_⟩
            simp only [intOf]; omega
          · have him' : ¬ (i : Int) < (m : Int) := by omega
            obtain rfl : i = m := by omega
            have hlen : (c.L.take i).length = i := by rw [List.length_take]; omega
            simp -dsimp -implicitDefEqProofs only [h6, h1, h2, c2, hil', him', m67, sF67, Nat.reduceEqDiff, ↓reduceIte, Nat.reduceAdd, Nat.reduceMul, Value.cells, Value.oneCell', eq_self, ne_eq, Int.reduceToNat, Int.reduceEq, Int.reduceLT, Int.reduceLE, Int.reduceNeg, if_true, if_false, reduceCtorEq, Nat.reduceSub, storeV_ptr, slcV_slice, ↓mwD, mwU]
            exact ⟨hx0.trans hx, by rw [hlen]; exact Own.mono hown (by omega)⟩
        · have hil' : ¬ (i : Int) < (c.L.length : Int) := by omega
          have e1 : c.L.take i = c.L.take m := by rw [List.take_eq_take_iff]; omega
          have hlen : (c.L.take m).length = i := by rw [← e1, List.length_take]; omega
          rw [e1] at hown
          simp -dsimp -implicitDefEqProofs only [h6, h1, h2, c2, hil', m67, sF67, Nat.reduceEqDiff, ↓reduceIte, Nat.reduceAdd, Nat.reduceMul, Value.cells, Value.oneCell', eq_self, ne_eq, Int.reduceToNat, Int.reduceEq, Int.reduceLT, Int.reduceLE, Int.reduceNeg, if_true, if_false, reduceCtorEq, Nat.reduceSub, storeV_ptr, slcV_slice, ↓mwD, mwU]
          exact ⟨hx0.trans hx, by rw [hlen]; exact Own.mono hown (by omega)⟩
end Go.Proofs.YthcdnjbhhaonhaaGreatDoor

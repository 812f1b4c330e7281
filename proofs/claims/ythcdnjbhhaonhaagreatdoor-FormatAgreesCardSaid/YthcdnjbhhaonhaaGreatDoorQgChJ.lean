/- Layer 02: package format's meet. -/
import Derived.Test.YthcdnjbhhaonhaaGreatDoorQgChGToChI

namespace Go.Proofs.YthcdnjbhhaonhaaGreatDoor
open Go.RowKit
open Nat renaming reduceEqDiff → ZA, reduceAdd → ZB, reduceMul → ZC, reduceSub → ZD
open Int renaming reduceToNat → ZE, reduceEq → ZF, reduceLT → ZG, reduceLE → ZH, reduceNeg → ZI
open Go.Value renaming oneCell' → ZK, cells → ZJ
set_option linter.unusedSimpArgs false
theorem fit_kL {k d d' : Int} {L : List Int} (h : Fit ⟨k, d, L⟩) : Fit ⟨k, d', L⟩ := by
 rcases h with h | ⟨⟨h1, h2, h3, h4, h5, h6⟩, hk⟩
 · exact .inl h
 · exact .inr ⟨⟨h1, h2, h3, h4, h5, h6⟩, hk⟩
theorem valid_ne {c : Ch} (h : c.valid = true) : 1 ≤ c.L.length := by
 cases hl : c.lsd
 · have := (valid_rg h hl).2; omega
 · exact (valid_list h hl).1
theorem own_ne {w : World} {base b : Nat} {e t : TypeId} {size n : Nat} {v : Value} {cs ds : List Value} (h : w.ownsRow base e size v n cs) (hb : Bk w b ds t) (hne : e ≠ t) : v.ownBlock ≠ some b := fun he => by
 rcases h.2 with ⟨hv, _⟩ | ⟨g, cap, cur, hv, hg, hh, _⟩
 · rw [hv] at he; cases he
 · rw [hv] at he
   simp only [Value.ownBlock,Option.some.injEq] at he
   subst he
   unfold Bk at hb
   rw [hb] at hh
   simp only [Option.some.injEq,Obj.cells.injEq] at hh
   exact hne hh.2.1.symm
structure MeetS (a b : Ch) (w w' : World) (blk sl : Nat) (K : Int) (L : List Int) (q : Option Addr) (c : Nat) (d : Int) : Prop where
 ext : Ext w w'
 gt : w.heap.size + 3 ≤ blk
 lt : blk < sl
 C : Bk w' (w.heap.size + 2) [.int .i64 0, .int .i64 0, .slice none 0 0] 35
 bk : Bk w' blk [.int .i64 K, .int .i64 d, .slice q L.length c] 35
 sl : Bk w' sl [.int .i64 b.d, .int .i64 a.d] 3
 own : w'.ownsRow w.heap.size 3 1 (.slice q L.length c) L.length (ints L)
 off : (Value.slice q L.length c).ownBlock ≠ some blk
theorem MeetS.next {a b : Ch} {w w' w2 : World} {blk sl : Nat} {K : Int} {L : List Int} {q : Option Addr} {c : Nat} {d : Int} (h : MeetS a b w w' blk sl K L q c d) (hx : Ext w' w2) : MeetS a b w w2 blk sl K L q c d :=
 ⟨h.ext.trans hx, h.gt, h.lt, h.C.ext hx, h.bk.ext hx, h.sl.ext hx, Own.ext h.own hx, h.off⟩
theorem MeetS.set {a b : Ch} {w w' : World} {blk sl : Nat} {K : Int} {L : List Int} {q : Option Addr} {c : Nat} {d : Int} (h : MeetS a b w w' blk sl K L q c d) (d' : Int) : MeetS a b w (w'.setCell ⟨blk, 1, none⟩ (.int .i64 d')) blk sl K L q c d' :=
 ⟨h.ext.setCell (by have := h.gt; simp only; omega) _, h.gt, h.lt, h.C.ne (by have := h.gt; omega) _ _, h.bk.set 1 _, h.sl.ne (by have := h.lt; omega) _ _, Own.off h.own h.off, h.off⟩
theorem meet_c (a b : Ch) (sa sb : Value) (w : World) (va : a.valid = true) (vb : b.valid = true) (ha : SlI w sa a.L) (hb : SlI w sb b.L) :
 Rets Go.Proofs.Tryz.prog 68 #[chV a sa, chV b sb] w fun r w' => Ext w w' ∧ ∃ o, Met a b o ∧ match o with
  | none => r = .tuple #[.agg #[.int .i64 0, .int .i64 0, .slice none 0 0], .bool false]
  | some c => ∃ v, r = .tuple #[chV c v, .bool true] ∧ w'.ownsRow w.heap.size 3 1 v c.L.length (ints c.L) := by
 have fa := valid_fit va
 have fb := valid_fit vb
 have na := valid_len va
 have nb := valid_len vb
 obtain ⟨W, hW, h⟩ : ∃ W, W = ((w.alloc (.cells #[.int .i64 a.k, .int .i64 a.d, sa] 35)).alloc (.cells #[.int .i64 b.k, .int .i64 b.d, sb] 35)).alloc (.cells #[.int .i64 0, .int .i64 0, .slice none 0 0] 35) ∧ Own3 a b sa sb w W := by
  refine ⟨_, rfl, ((Ext.alloc _ _).trans (Ext.alloc _ _)).trans (Ext.alloc _ _), by simp only [World.size_alloc]; omega, ?_, ?_, ?_⟩
  · exact ((Bk.new w (cellsOf a sa) _).ext (Ext.alloc _ _)).ext (Ext.alloc _ _)
  · have := (Bk.new (w.alloc (.cells #[.int .i64 a.k, .int .i64 a.d, sa] 35)) (cellsOf b sb) 35).ext (Ext.alloc _ (.cells #[.int .i64 0, .int .i64 0, .slice none 0 0] 35))
    rw [World.size_alloc] at this
    exact this
  · have := Bk.new ((w.alloc (.cells #[.int .i64 a.k, .int .i64 a.d, sa] 35)).alloc (.cells #[.int .i64 b.k, .int .i64 b.d, sb] 35)) [.int .i64 0, .int .i64 0, .slice none 0 0] 35
    rw [World.size_alloc, World.size_alloc] at this
    exact this
 obtain ⟨pa, ca, rfl, _, _⟩ := ha.shape
 obtain ⟨pb, cb, rfl, _, _⟩ := hb.shape
 have A0 := h.A.get (o := 0) rfl
 have A1 := h.A.get (o := 1) rfl
 have A2 := h.A.get (o := 2) rfl
 have B0 := h.B.get (o := 0) rfl
 have B1 := h.B.get (o := 1) rfl
 have B2 := h.B.get (o := 2) rfl
 obtain ⟨ui, hix1, hix2⟩ := meet_ix a b
 have okf := (meetF_c a b _ _ w fa fb ha hb (by omega) (by omega)).1
 replace na : a.L.length ≤ 1000000 := by omega
 replace nb : b.L.length ≤ 1000000 := by omega
 refine en68 ?_
 refine mwpB_cut 2 (fun e ds w' => e 2 = .pointer (some ⟨w.heap.size, 0, none⟩) ∧ e 3 = .pointer (some ⟨w.heap.size + 1, 0, none⟩) ∧ e 4 = .pointer (some ⟨w.heap.size + 2, 0, none⟩) ∧ ds = [] ∧ MidM a b (.slice pa a.L.length ca) (.slice pb b.L.length cb) w w' (e 6) (e 7)) ?_ ?_
 · simp -dsimp -implicitDefEqProofs only [chV,headM_zero,headM_seq,m68,sF68,ZA,↓reduceIte,ZB,ZC,ZJ,ZK,ZE,ZF,ZG,ZH,ZI,reduceCtorEq,ZD,mwV,↓mwD,mwU]
   simp only [World.size_alloc,Nat.add_assoc,ZB]
   rw [← hW]
   clear hW
   refine mwpB_drawE ?_
   -- BEGIN orders
   have E0 : Ext W.drew (W.drew.alloc (.cells #[.int .i64 0, .int .i64 0, .slice none 0 0] 35)) := Ext.alloc _ _
   have D0 : Ext W.drew W.drew := Ext.refl _
   simp -dsimp -implicitDefEqProofs only [E0,D0,planEB_two,A0,A1,A2,B0,B1,B2,hix1,hix2,fnv,okf,m68,sF68,ZA,↓reduceIte,ZB,ZC,ZJ,ZK,ZE,ZF,ZG,ZH,ZI,reduceCtorEq,ZD,mwV,↓mwD,mwU]
   refine ⟨?_, ?_⟩
   · refine (meetings_c _).use ?_
     rintro r u1 ⟨rfl, t1⟩
     have D1 : Ext W.drew u1 := (D0).trans t1
     have E1 : Ext W.drew (u1.alloc (.cells #[.int .i64 0, .int .i64 0, .slice none 0 0] 35)) := D1.trans (Ext.alloc _ _)
     simp -dsimp -implicitDefEqProofs only [D1,E1,planEB_two,A0,A1,A2,B0,B1,B2,hix1,hix2,fnv,okf,m68,sF68,ZA,↓reduceIte,ZB,ZC,ZJ,ZK,ZE,ZF,ZG,ZH,ZI,reduceCtorEq,ZD,mwV,↓mwD,mwU]
     refine ⟨?_, ?_⟩
     · refine (form_c a _ _).use ?_
       rintro r u2 ⟨rfl, t2⟩
       have D2 : Ext W.drew u2 := (D1).trans t2
       have E2 : Ext W.drew (u2.alloc (.cells #[.int .i64 0, .int .i64 0, .slice none 0 0] 35)) := D2.trans (Ext.alloc _ _)
       simp -dsimp -implicitDefEqProofs only [D2,E2,planEB_two,A0,A1,A2,B0,B1,B2,hix1,hix2,fnv,okf,m68,sF68,ZA,↓reduceIte,ZB,ZC,ZJ,ZK,ZE,ZF,ZG,ZH,ZI,reduceCtorEq,ZD,mwV,↓mwD,mwU]
       refine ⟨?_, ?_⟩
       · refine (form_c b _ _).use ?_
         rintro r u3 ⟨rfl, t3⟩
         have D3 : Ext W.drew u3 := (D2).trans t3
         have E3 : Ext W.drew (u3.alloc (.cells #[.int .i64 0, .int .i64 0, .slice none 0 0] 35)) := D3.trans (Ext.alloc _ _)
         simp -dsimp -implicitDefEqProofs only [D3,E3,planEB_two,A0,A1,A2,B0,B1,B2,hix1,hix2,fnv,okf,m68,sF68,ZA,↓reduceIte,ZB,ZC,ZJ,ZK,ZE,ZF,ZG,ZH,ZI,reduceCtorEq,ZD,mwV,↓mwD,mwU]
         refine ⟨?_, ?_⟩
         · refine (numbers_c a _ _ (ha.ext (h.ext.trans ((Ext.drew W).trans D3)))).use ?_
           rintro r u4 ⟨rfl, t4⟩
           have D4 : Ext W.drew u4 := (D3).trans t4
           have E4 : Ext W.drew (u4.alloc (.cells #[.int .i64 0, .int .i64 0, .slice none 0 0] 35)) := D4.trans (Ext.alloc _ _)
           simp -dsimp -implicitDefEqProofs only [D4,E4,planEB_two,A0,A1,A2,B0,B1,B2,hix1,hix2,fnv,okf,m68,sF68,ZA,↓reduceIte,ZB,ZC,ZJ,ZK,ZE,ZF,ZG,ZH,ZI,reduceCtorEq,ZD,mwV,↓mwD,mwU]
           refine ⟨?_, ?_⟩
           · refine (numbers_c b _ _ (hb.ext (h.ext.trans ((Ext.drew W).trans D4)))).use ?_
             rintro r u5 ⟨rfl, t5⟩
             have D5 : Ext W.drew u5 := (D4).trans t5
             have E5 : Ext W.drew (u5.alloc (.cells #[.int .i64 0, .int .i64 0, .slice none 0 0] 35)) := D5.trans (Ext.alloc _ _)
             simp -dsimp -implicitDefEqProofs only [D5,E5,planEB_two,A0,A1,A2,B0,B1,B2,hix1,hix2,fnv,okf,m68,sF68,ZA,↓reduceIte,ZB,ZC,ZJ,ZK,ZE,ZF,ZG,ZH,ZI,reduceCtorEq,ZD,mwV,↓mwD,mwU]
             refine ⟨?_, ?_⟩
             · refine (meetF_c a b _ _ _ fa fb (ha.ext (h.ext.trans ((Ext.drew W).trans D5))) (hb.ext (h.ext.trans ((Ext.drew W).trans D5))) na nb).2.use ?_
               rintro r v6 hr
               obtain ⟨x, y, z, ok, rfl, hz, t6, hmid⟩ := mid_after h ((Ext.drew W).trans D5) hr
               have D6 : Ext W.drew v6 := (D5).trans t6
               have E6 : Ext W.drew (v6.alloc (.cells #[.int .i64 0, .int .i64 0, .slice none 0 0] 35)) := D6.trans (Ext.alloc _ _)
               simp -dsimp -implicitDefEqProofs only [D6,E6,hz,setCell_new,m68,sF68,ZA,↓reduceIte,ZB,ZC,ZJ,ZK,ZE,ZF,ZG,ZH,ZI,reduceCtorEq,ZD,mwV,↓mwD,mwU]
               exact ⟨hz, hmid⟩
             · refine (meetF_c a b _ _ _ fa fb (ha.ext (h.ext.trans ((Ext.drew W).trans E5))) (hb.ext (h.ext.trans ((Ext.drew W).trans E5))) na nb).2.use ?_
               rintro r v7 hr
               obtain ⟨x, y, z, ok, rfl, hz, t6, hP, hmid⟩ := mid_before (blk := u5.heap.size) h ((Ext.drew W).trans E5) ((Ext.drew W).trans D5).le ((Bk.new u5 [.int .i64 0, .int .i64 0, .slice none 0 0] 35).ext (Ext.refl (u5.alloc (.cells #[.int .i64 0, .int .i64 0, .slice none 0 0] 35)))) hr
               obtain ⟨y0, c0⟩ := hP.c0
               obtain ⟨y1, c1⟩ := hP.c1
               obtain ⟨y2, c2⟩ := hP.c2
               have z0 := hP.z0
               have z1 := hP.z1
               have z2 := hP.z2
               have D6 : Ext W.drew v7 := (E5).trans t6
               simp -dsimp -implicitDefEqProofs only [D6,hz,c0,c1,c2,z0,z1,z2,m68,sF68,ZA,↓reduceIte,ZB,ZC,ZJ,ZK,ZE,ZF,ZG,ZH,ZI,reduceCtorEq,ZD,mwV,↓mwD,mwU]
               exact ⟨hz, hmid⟩
           · refine (numbers_c b _ _ (hb.ext (h.ext.trans ((Ext.drew W).trans E4)))).use ?_
             rintro r u8 ⟨rfl, t8⟩
             have D8 : Ext W.drew u8 := (E4).trans t8
             have T8 := ((Ext.refl (u4.alloc (.cells #[.int .i64 0, .int .i64 0, .slice none 0 0] 35)))).trans t8
             simp -dsimp -implicitDefEqProofs only [D8,A0,A1,A2,B0,B1,B2,hix1,hix2,fnv,okf,m68,sF68,ZA,↓reduceIte,ZB,ZC,ZJ,ZK,ZE,ZF,ZG,ZH,ZI,reduceCtorEq,ZD,mwV,↓mwD,mwU]
             refine (meetF_c a b _ _ _ fa fb (ha.ext (h.ext.trans ((Ext.drew W).trans D8))) (hb.ext (h.ext.trans ((Ext.drew W).trans D8))) na nb).2.use ?_
             rintro r v9 hr
             obtain ⟨x, y, z, ok, rfl, hz, t6, hP, hmid⟩ := mid_before (blk := u4.heap.size) h ((Ext.drew W).trans D8) ((Ext.drew W).trans D4).le ((Bk.new u4 [.int .i64 0, .int .i64 0, .slice none 0 0] 35).ext T8) hr
             obtain ⟨y0, c0⟩ := hP.c0
             obtain ⟨y1, c1⟩ := hP.c1
             obtain ⟨y2, c2⟩ := hP.c2
             have z0 := hP.z0
             have z1 := hP.z1
             have z2 := hP.z2
             have D6 : Ext W.drew v9 := (D8).trans t6
             simp -dsimp -implicitDefEqProofs only [D6,hz,c0,c1,c2,z0,z1,z2,m68,sF68,ZA,↓reduceIte,ZB,ZC,ZJ,ZK,ZE,ZF,ZG,ZH,ZI,reduceCtorEq,ZD,mwV,↓mwD,mwU]
             exact ⟨hz, hmid⟩
         · refine (numbers_c a _ _ (ha.ext (h.ext.trans ((Ext.drew W).trans E3)))).use ?_
           rintro r u10 ⟨rfl, t10⟩
           have D10 : Ext W.drew u10 := (E3).trans t10
           have T10 := ((Ext.refl (u3.alloc (.cells #[.int .i64 0, .int .i64 0, .slice none 0 0] 35)))).trans t10
           simp -dsimp -implicitDefEqProofs only [D10,A0,A1,A2,B0,B1,B2,hix1,hix2,fnv,okf,m68,sF68,ZA,↓reduceIte,ZB,ZC,ZJ,ZK,ZE,ZF,ZG,ZH,ZI,reduceCtorEq,ZD,mwV,↓mwD,mwU]
           refine (numbers_c b _ _ (hb.ext (h.ext.trans ((Ext.drew W).trans D10)))).use ?_
           rintro r u11 ⟨rfl, t11⟩
           have D11 : Ext W.drew u11 := (D10).trans t11
           have T11 := (T10).trans t11
           simp -dsimp -implicitDefEqProofs only [D11,A0,A1,A2,B0,B1,B2,hix1,hix2,fnv,okf,m68,sF68,ZA,↓reduceIte,ZB,ZC,ZJ,ZK,ZE,ZF,ZG,ZH,ZI,reduceCtorEq,ZD,mwV,↓mwD,mwU]
           refine (meetF_c a b _ _ _ fa fb (ha.ext (h.ext.trans ((Ext.drew W).trans D11))) (hb.ext (h.ext.trans ((Ext.drew W).trans D11))) na nb).2.use ?_
           rintro r v12 hr
           obtain ⟨x, y, z, ok, rfl, hz, t6, hP, hmid⟩ := mid_before (blk := u3.heap.size) h ((Ext.drew W).trans D11) ((Ext.drew W).trans D3).le ((Bk.new u3 [.int .i64 0, .int .i64 0, .slice none 0 0] 35).ext T11) hr
           obtain ⟨y0, c0⟩ := hP.c0
           obtain ⟨y1, c1⟩ := hP.c1
           obtain ⟨y2, c2⟩ := hP.c2
           have z0 := hP.z0
           have z1 := hP.z1
           have z2 := hP.z2
           have D6 : Ext W.drew v12 := (D11).trans t6
           simp -dsimp -implicitDefEqProofs only [D6,hz,c0,c1,c2,z0,z1,z2,m68,sF68,ZA,↓reduceIte,ZB,ZC,ZJ,ZK,ZE,ZF,ZG,ZH,ZI,reduceCtorEq,ZD,mwV,↓mwD,mwU]
           exact ⟨hz, hmid⟩
       · refine (form_c b _ _).use ?_
         rintro r u13 ⟨rfl, t13⟩
         have D13 : Ext W.drew u13 := (E2).trans t13
         have T13 := ((Ext.refl (u2.alloc (.cells #[.int .i64 0, .int .i64 0, .slice none 0 0] 35)))).trans t13
         simp -dsimp -implicitDefEqProofs only [D13,A0,A1,A2,B0,B1,B2,hix1,hix2,fnv,okf,m68,sF68,ZA,↓reduceIte,ZB,ZC,ZJ,ZK,ZE,ZF,ZG,ZH,ZI,reduceCtorEq,ZD,mwV,↓mwD,mwU]
         refine (numbers_c a _ _ (ha.ext (h.ext.trans ((Ext.drew W).trans D13)))).use ?_
         rintro r u14 ⟨rfl, t14⟩
         have D14 : Ext W.drew u14 := (D13).trans t14
         have T14 := (T13).trans t14
         simp -dsimp -implicitDefEqProofs only [D14,A0,A1,A2,B0,B1,B2,hix1,hix2,fnv,okf,m68,sF68,ZA,↓reduceIte,ZB,ZC,ZJ,ZK,ZE,ZF,ZG,ZH,ZI,reduceCtorEq,ZD,mwV,↓mwD,mwU]
         refine (numbers_c b _ _ (hb.ext (h.ext.trans ((Ext.drew W).trans D14)))).use ?_
         rintro r u15 ⟨rfl, t15⟩
         have D15 : Ext W.drew u15 := (D14).trans t15
         have T15 := (T14).trans t15
         simp -dsimp -implicitDefEqProofs only [D15,A0,A1,A2,B0,B1,B2,hix1,hix2,fnv,okf,m68,sF68,ZA,↓reduceIte,ZB,ZC,ZJ,ZK,ZE,ZF,ZG,ZH,ZI,reduceCtorEq,ZD,mwV,↓mwD,mwU]
         refine (meetF_c a b _ _ _ fa fb (ha.ext (h.ext.trans ((Ext.drew W).trans D15))) (hb.ext (h.ext.trans ((Ext.drew W).trans D15))) na nb).2.use ?_
         rintro r v16 hr
         obtain ⟨x, y, z, ok, rfl, hz, t6, hP, hmid⟩ := mid_before (blk := u2.heap.size) h ((Ext.drew W).trans D15) ((Ext.drew W).trans D2).le ((Bk.new u2 [.int .i64 0, .int .i64 0, .slice none 0 0] 35).ext T15) hr
         obtain ⟨y0, c0⟩ := hP.c0
         obtain ⟨y1, c1⟩ := hP.c1
         obtain ⟨y2, c2⟩ := hP.c2
         have z0 := hP.z0
         have z1 := hP.z1
         have z2 := hP.z2
         have D6 : Ext W.drew v16 := (D15).trans t6
         simp -dsimp -implicitDefEqProofs only [D6,hz,c0,c1,c2,z0,z1,z2,m68,sF68,ZA,↓reduceIte,ZB,ZC,ZJ,ZK,ZE,ZF,ZG,ZH,ZI,reduceCtorEq,ZD,mwV,↓mwD,mwU]
         exact ⟨hz, hmid⟩
     · refine (form_c a _ _).use ?_
       rintro r u17 ⟨rfl, t17⟩
       have D17 : Ext W.drew u17 := (E1).trans t17
       have T17 := ((Ext.refl (u1.alloc (.cells #[.int .i64 0, .int .i64 0, .slice none 0 0] 35)))).trans t17
       simp -dsimp -implicitDefEqProofs only [D17,A0,A1,A2,B0,B1,B2,hix1,hix2,fnv,okf,m68,sF68,ZA,↓reduceIte,ZB,ZC,ZJ,ZK,ZE,ZF,ZG,ZH,ZI,reduceCtorEq,ZD,mwV,↓mwD,mwU]
       refine (form_c b _ _).use ?_
       rintro r u18 ⟨rfl, t18⟩
       have D18 : Ext W.drew u18 := (D17).trans t18
       have T18 := (T17).trans t18
       simp -dsimp -implicitDefEqProofs only [D18,A0,A1,A2,B0,B1,B2,hix1,hix2,fnv,okf,m68,sF68,ZA,↓reduceIte,ZB,ZC,ZJ,ZK,ZE,ZF,ZG,ZH,ZI,reduceCtorEq,ZD,mwV,↓mwD,mwU]
       refine (numbers_c a _ _ (ha.ext (h.ext.trans ((Ext.drew W).trans D18)))).use ?_
       rintro r u19 ⟨rfl, t19⟩
       have D19 : Ext W.drew u19 := (D18).trans t19
       have T19 := (T18).trans t19
       simp -dsimp -implicitDefEqProofs only [D19,A0,A1,A2,B0,B1,B2,hix1,hix2,fnv,okf,m68,sF68,ZA,↓reduceIte,ZB,ZC,ZJ,ZK,ZE,ZF,ZG,ZH,ZI,reduceCtorEq,ZD,mwV,↓mwD,mwU]
       refine (numbers_c b _ _ (hb.ext (h.ext.trans ((Ext.drew W).trans D19)))).use ?_
       rintro r u20 ⟨rfl, t20⟩
       have D20 : Ext W.drew u20 := (D19).trans t20
       have T20 := (T19).trans t20
       simp -dsimp -implicitDefEqProofs only [D20,A0,A1,A2,B0,B1,B2,hix1,hix2,fnv,okf,m68,sF68,ZA,↓reduceIte,ZB,ZC,ZJ,ZK,ZE,ZF,ZG,ZH,ZI,reduceCtorEq,ZD,mwV,↓mwD,mwU]
       refine (meetF_c a b _ _ _ fa fb (ha.ext (h.ext.trans ((Ext.drew W).trans D20))) (hb.ext (h.ext.trans ((Ext.drew W).trans D20))) na nb).2.use ?_
       rintro r v21 hr
       obtain ⟨x, y, z, ok, rfl, hz, t6, hP, hmid⟩ := mid_before (blk := u1.heap.size) h ((Ext.drew W).trans D20) ((Ext.drew W).trans D1).le ((Bk.new u1 [.int .i64 0, .int .i64 0, .slice none 0 0] 35).ext T20) hr
       obtain ⟨y0, c0⟩ := hP.c0
       obtain ⟨y1, c1⟩ := hP.c1
       obtain ⟨y2, c2⟩ := hP.c2
       have z0 := hP.z0
       have z1 := hP.z1
       have z2 := hP.z2
       have D6 : Ext W.drew v21 := (D20).trans t6
       simp -dsimp -implicitDefEqProofs only [D6,hz,c0,c1,c2,z0,z1,z2,m68,sF68,ZA,↓reduceIte,ZB,ZC,ZJ,ZK,ZE,ZF,ZG,ZH,ZI,reduceCtorEq,ZD,mwV,↓mwD,mwU]
       exact ⟨hz, hmid⟩
   · refine (meetings_c _).use ?_
     rintro r u22 ⟨rfl, t22⟩
     have D22 : Ext W.drew u22 := (E0).trans t22
     have T22 := ((Ext.refl (W.drew.alloc (.cells #[.int .i64 0, .int .i64 0, .slice none 0 0] 35)))).trans t22
     simp -dsimp -implicitDefEqProofs only [D22,A0,A1,A2,B0,B1,B2,hix1,hix2,fnv,okf,m68,sF68,ZA,↓reduceIte,ZB,ZC,ZJ,ZK,ZE,ZF,ZG,ZH,ZI,reduceCtorEq,ZD,mwV,↓mwD,mwU]
     refine (form_c a _ _).use ?_
     rintro r u23 ⟨rfl, t23⟩
     have D23 : Ext W.drew u23 := (D22).trans t23
     have T23 := (T22).trans t23
     simp -dsimp -implicitDefEqProofs only [D23,A0,A1,A2,B0,B1,B2,hix1,hix2,fnv,okf,m68,sF68,ZA,↓reduceIte,ZB,ZC,ZJ,ZK,ZE,ZF,ZG,ZH,ZI,reduceCtorEq,ZD,mwV,↓mwD,mwU]
     refine (form_c b _ _).use ?_
     rintro r u24 ⟨rfl, t24⟩
     have D24 : Ext W.drew u24 := (D23).trans t24
     have T24 := (T23).trans t24
     simp -dsimp -implicitDefEqProofs only [D24,A0,A1,A2,B0,B1,B2,hix1,hix2,fnv,okf,m68,sF68,ZA,↓reduceIte,ZB,ZC,ZJ,ZK,ZE,ZF,ZG,ZH,ZI,reduceCtorEq,ZD,mwV,↓mwD,mwU]
     refine (numbers_c a _ _ (ha.ext (h.ext.trans ((Ext.drew W).trans D24)))).use ?_
     rintro r u25 ⟨rfl, t25⟩
     have D25 : Ext W.drew u25 := (D24).trans t25
     have T25 := (T24).trans t25
     simp -dsimp -implicitDefEqProofs only [D25,A0,A1,A2,B0,B1,B2,hix1,hix2,fnv,okf,m68,sF68,ZA,↓reduceIte,ZB,ZC,ZJ,ZK,ZE,ZF,ZG,ZH,ZI,reduceCtorEq,ZD,mwV,↓mwD,mwU]
     refine (numbers_c b _ _ (hb.ext (h.ext.trans ((Ext.drew W).trans D25)))).use ?_
     rintro r u26 ⟨rfl, t26⟩
     have D26 : Ext W.drew u26 := (D25).trans t26
     have T26 := (T25).trans t26
     simp -dsimp -implicitDefEqProofs only [D26,A0,A1,A2,B0,B1,B2,hix1,hix2,fnv,okf,m68,sF68,ZA,↓reduceIte,ZB,ZC,ZJ,ZK,ZE,ZF,ZG,ZH,ZI,reduceCtorEq,ZD,mwV,↓mwD,mwU]
     refine (meetF_c a b _ _ _ fa fb (ha.ext (h.ext.trans ((Ext.drew W).trans D26))) (hb.ext (h.ext.trans ((Ext.drew W).trans D26))) na nb).2.use ?_
     rintro r v27 hr
     obtain ⟨x, y, z, ok, rfl, hz, t6, hP, hmid⟩ := mid_before (blk := W.drew.heap.size) h ((Ext.drew W).trans D26) (Ext.drew W).le ((Bk.new W.drew [.int .i64 0, .int .i64 0, .slice none 0 0] 35).ext T26) hr
     obtain ⟨y0, c0⟩ := hP.c0
     obtain ⟨y1, c1⟩ := hP.c1
     obtain ⟨y2, c2⟩ := hP.c2
     have z0 := hP.z0
     have z1 := hP.z1
     have z2 := hP.z2
     have D6 : Ext W.drew v27 := (D26).trans t6
     simp -dsimp -implicitDefEqProofs only [D6,hz,c0,c1,c2,z0,z1,z2,m68,sF68,ZA,↓reduceIte,ZB,ZC,ZJ,ZK,ZE,ZF,ZG,ZH,ZI,reduceCtorEq,ZD,mwV,↓mwD,mwU]
     exact ⟨hz, hmid⟩
   -- END orders
 · rintro e ds w1 ⟨h2, h3, h4, rfl, blk, o, ok, h6, h7, hx, hgt, KA, KB, KC, hout, hm⟩
   have hmet := hout.met
   cases o with
   | none =>
    simp only at hm
    subst hm
    have hP := put3 KC (.int .i64 0) (.int .i64 0) (.slice none 0 0)
    obtain ⟨y0, c0⟩ := hP.c0
    obtain ⟨y1, c1⟩ := hP.c1
    obtain ⟨y2, c2⟩ := hP.c2
    have z0 := hP.z0
    have z1 := hP.z1
    have z2 := hP.z2
    have k0 := hP.bk.get (o := 0) rfl
    have k1 := hP.bk.get (o := 1) rfl
    have k2 := hP.bk.get (o := 2) rfl
    simp -dsimp -implicitDefEqProofs only [h2,h3,h4,h6,h7,tailM_zero,tailM_seq,bv_ch0,c0,c1,c2,z0,z1,z2,k0,k1,k2,m68,sF68,ZA,↓reduceIte,ZB,ZC,ZJ,ZK,ZE,ZF,ZG,ZH,ZI,reduceCtorEq,ZD,mwV,↓mwD,mwU]
    exact ⟨hx.set3 (by omega) _ _ _, none, hmet, trivial⟩
   | some p =>
    obtain ⟨K, L⟩ := p
    obtain ⟨rfl, q, cc, hbk, hown, hoff⟩ := hm
    simp only at hbk hown hoff
    have hval := (met_ok va vb hmet).1
    have hfit : ∀ d, Fit ⟨K, d, L⟩ := fun d => by
     have h1 := valid_fit hval
     have e1 := wish_k K L a.d b.d
     have e2 := wish_L K L a.d b.d
     simp only [Option.map_some] at h1
     generalize wish K L a.d b.d = u at *
     obtain ⟨uk, ud, uL⟩ := u
     simp only at e1 e2
     subst e1 e2
     exact fit_kL h1
    have hne : 1 ≤ L.length := by
     have := valid_ne hval
     simp only [Option.map_some,wish_L] at this
     exact this
    obtain ⟨g, og, cg, hv, _, _, hcell⟩ := SlI.at (Own.sl hown : SlI w1 (.slice q L.length cc) L) (by intro e0; rw [e0] at hne; simp at hne)
    simp only [Value.slice.injEq] at hv
    obtain ⟨rfl, _, rfl⟩ := hv
    have l0 := hcell 0 (by omega)
    simp only [Nat.add_zero] at l0
    have f2 := hbk.get (o := 2) rfl
    have f1 := hbk.get (o := 1) rfl
    have fz := hbk.frozen 1
    have hb0 : (0 : Int) < (L.length : Int) := by omega
    have S1 : Ext w (w1.setCell ⟨blk, 1, none⟩ (.int .i64 L[0])) := hx.setCell (by simp only; omega) _
    have KA1 := (KA.ne (b' := blk) (by omega) 1 (.int .i64 L[0])).get (o := 1) rfl
    have KB1 := (KB.ne (b' := blk) (by omega) 1 (.int .i64 L[0])).get (o := 1) rfl
    simp -dsimp -implicitDefEqProofs only [h2,h3,h4,h6,h7,tailM_zero,tailM_seq,f2,f1,fz,hb0,l0,KA1,KB1,bs_two,m68,sF68,ZA,↓reduceIte,ZB,ZC,ZJ,ZK,ZE,ZF,ZG,ZH,ZI,reduceCtorEq,ZD,mwV,↓mwD,mwU]
    have hst : MeetS a b w ((w1.setCell ⟨blk, 1, none⟩ (.int .i64 L[0])).alloc (.cells #[.int .i64 b.d, .int .i64 a.d] 3)) blk (w1.setCell ⟨blk, 1, none⟩ (.int .i64 L[0])).heap.size K L (some ⟨g, og, none⟩) cc L[0] := by
     have hlt : blk < (w1.setCell ⟨blk, 1, none⟩ (.int .i64 L[0])).heap.size := by simp only [World.setCell,Array.size_modify]; exact hbk.lt
     exact ⟨S1.trans (Ext.alloc _ _), hgt, hlt, (KC.ne (by omega) _ _).ext (Ext.alloc _ _), (hbk.set 1 _).ext (Ext.alloc _ _), Bk.new _ [.int .i64 b.d, .int .i64 a.d] _, Own.ext (Own.off hown hoff) (Ext.alloc _ _), hoff⟩
    generalize (w1.setCell ⟨blk, 1, none⟩ (.int .i64 L[0])).heap.size = sl at *
    generalize (w1.setCell ⟨blk, 1, none⟩ (.int .i64 L[0])).alloc (.cells #[.int .i64 b.d, .int .i64 a.d] 3) = w2 at *
    let D : Nat → Int := fun k => if k = 0 then L[0] else if k = 1 then (if (Ch.mk K 0 L).has b.d then b.d else L[0]) else (if (Ch.mk K 0 L).has a.d then a.d else (if (Ch.mk K 0 L).has b.d then b.d else L[0]))
    refine mwpB_loop (fun e ds w' => ∃ k : Nat, k ≤ 2 ∧ e 39 = .int .i64 k ∧ e 38 = .int .i64 2 ∧ e 37 = .slice (some ⟨sl, 0, none⟩) 2 2 ∧ e 4 = .pointer (some ⟨w.heap.size + 2, 0, none⟩) ∧ e 6 = .pointer (some ⟨blk, 0, none⟩) ∧ ds = [] ∧ MeetS a b w w' blk sl K L (some ⟨g, og, none⟩) cc (D k)) (fun e _ => (2 - intOf (e 39)).toNat) ?_ ?_
    · simp -dsimp -implicitDefEqProofs only [h4,h6,m68,sF68,ZA,↓reduceIte,ZB,ZC,ZJ,ZK,ZE,ZF,ZG,ZH,ZI,reduceCtorEq,ZD,mwV,↓mwD,mwU]
      exact ⟨0, by omega, rfl, hst⟩
    · rintro e' ds w3 ⟨k, hk, g39, g38, g37, g4, g6, rfl, hs⟩
      simp -dsimp -implicitDefEqProofs only [g39,g38,g37,g4,g6,m68,sF68,ZA,↓reduceIte,ZB,ZC,ZJ,ZK,ZE,ZF,ZG,ZH,ZI,reduceCtorEq,ZD,mwV,↓mwD,mwU]
      refine iteW_dec (fun hlt => ?_) (fun hge => ?_)
      · have hk2 : k < 2 := by omega
        have hb1 : (0 : Int) ≤ k ∧ (k : Int) < 2 := by omega
        have hw : IntKind.i64.wrap ((k : Int) + 1) = ((k + 1 : Nat) : Int) := by rw [w64 (by omega) (by omega)]; omega
        have hck : w3.cell? ⟨sl, k, none⟩ = some (.int .i64 (if k = 0 then b.d else a.d)) := by
         rw [hs.sl.cell]
         match k, hk2 with
         | 0, _ => rfl
         | 1, _ => rfl
        have m0 := hs.bk.get (o := 0) rfl
        have m1 := hs.bk.get (o := 1) rfl
        have m2 := hs.bk.get (o := 2) rfl
        generalize hn : (if k = 0 then b.d else a.d) = n at *
        simp -dsimp -implicitDefEqProofs only [g39,g38,g37,g4,g6,hb1,and_self,hck,m0,m1,m2,m68,sF68,ZA,↓reduceIte,ZB,ZC,ZJ,ZK,ZE,ZF,ZG,ZH,ZI,reduceCtorEq,ZD,mwV,↓mwD,mwU]
        refine (numbers_c ⟨K, D k, L⟩ (.slice (some ⟨g, og, none⟩) L.length cc) w3 (Own.sl hs.own)).use ?_
        rintro r w4 ⟨rfl, hx4⟩
        obtain ⟨f, u, j1, j2, j3⟩ := setHas_c (w := w4) (hfit (D k)) (Own.sl (hs.next hx4).own) n
        simp -dsimp -implicitDefEqProofs only [g39,g38,g37,g4,g6,j1,j2,m68,sF68,ZA,↓reduceIte,ZB,ZC,ZJ,ZK,ZE,ZF,ZG,ZH,ZI,reduceCtorEq,ZD,mwV,↓mwD,mwU]
        refine j3.use ?_
        rintro r w5 ⟨rfl, hx5⟩
        have hs5 := (hs.next hx4).next hx5
        have hhas : (Ch.mk K (D k) L).has n = (Ch.mk K 0 L).has n := has_kL rfl rfl n
        rw [hhas]
        have n1 := hs5.bk.get (o := 1) rfl
        have nz := hs5.bk.frozen 1
        have hD : D (k + 1) = if (Ch.mk K 0 L).has n then n else D k := by
         subst hn
         match k, hk2 with
         | 0, _ => simp [D]
         | 1, _ => simp [D]
        cases hh : (Ch.mk K 0 L).has n
        · rw [hh, if_neg (by simp)] at hD
          simp -dsimp -implicitDefEqProofs only [g39,g38,g37,g4,g6,hw,m68,sF68,ZA,↓reduceIte,ZB,ZC,ZJ,ZK,ZE,ZF,ZG,ZH,ZI,reduceCtorEq,ZD,mwV,↓mwD,mwU]
          exact ⟨⟨k + 1, by omega, rfl, by rw [hD]; exact hs5⟩, by simp only [intOf]; omega⟩
        · rw [hh, if_pos rfl] at hD
          simp -dsimp -implicitDefEqProofs only [g39,g38,g37,g4,g6,hw,n1,nz,m68,sF68,ZA,↓reduceIte,ZB,ZC,ZJ,ZK,ZE,ZF,ZG,ZH,ZI,reduceCtorEq,ZD,mwV,↓mwD,mwU]
          exact ⟨⟨k + 1, by omega, rfl, by rw [hD]; exact hs5.set n⟩, by simp only [intOf]; omega⟩
      · obtain rfl : k = 2 := by omega
        have hP := put3 hs.C (.int .i64 K) (.int .i64 (D 2)) (.slice (some ⟨g, og, none⟩) L.length cc)
        obtain ⟨y0, c0⟩ := hP.c0
        obtain ⟨y1, c1⟩ := hP.c1
        obtain ⟨y2, c2⟩ := hP.c2
        have z0 := hP.z0
        have z1 := hP.z1
        have z2 := hP.z2
        have k0 := hP.bk.get (o := 0) rfl
        have k1 := hP.bk.get (o := 1) rfl
        have k2 := hP.bk.get (o := 2) rfl
        have m0 := hs.bk.get (o := 0) rfl
        have m1 := hs.bk.get (o := 1) rfl
        have m2 := hs.bk.get (o := 2) rfl
        simp -dsimp -implicitDefEqProofs only [g39,g38,g37,g4,g6,m0,m1,m2,c0,c1,c2,z0,z1,z2,k0,k1,k2,m68,sF68,ZA,↓reduceIte,ZB,ZC,ZJ,ZK,ZE,ZF,ZG,ZH,ZI,reduceCtorEq,ZD,mwV,↓mwD,mwU]
        have hwish : wish K L a.d b.d = ⟨K, D 2, L⟩ := by
         have e0 : L.getD 0 0 = L[0] := by rw [List.getD_eq_getElem?_getD, List.getElem?_eq_getElem (by omega)]; rfl
         unfold wish
         rw [e0]
         simp only [D]
         split
         · rename_i h; simp [h]
         · rename_i h
           split
           · rename_i h'; simp [h, h']
           · rename_i h'; simp [h, h']
        simp only [Option.map_some,hwish] at hmet
        have hne2 := own_ne hs.own hs.C (by decide)
        exact ⟨hs.ext.set3 (by omega) _ _ _, _, hmet, _, rfl, Own.off (Own.off (Own.off hs.own hne2) hne2) hne2⟩
end Go.Proofs.YthcdnjbhhaonhaaGreatDoor

/- Layer 02: the reference's Met, for lists. -/
import Derived.Test.YthcdnjbhhaonhaaGreatDoorQgChTToChX

namespace Go.Proofs.YthcdnjbhhaonhaaGreatDoor
open Go.RowKit
open Nat renaming reduceEqDiff → ZA, reduceAdd → ZB, reduceMul → ZC, reduceSub → ZD
open Int renaming reduceToNat → ZE, reduceEq → ZF, reduceLT → ZG, reduceLE → ZH, reduceNeg → ZI
open Go.Value renaming oneCell' → ZK, cells → ZJ
set_option linter.unusedSimpArgs false
set_option maxHeartbeats 4000000 in
theorem MetL_c (a b : Ch) (sa sb : Value) (w : World) (hl : (a.lsd || b.lsd) = true) (va : a.valid = true) (vb : b.valid = true) (ha : SlI w sa a.L) (hb : SlI w sb b.L) :
 Rets Go.Proofs.Tryz.prog 69 #[chV a sa, chV b sb] w fun r w' => Ext w w' ∧ ∃ o, Met a b o ∧ match o with
  | none => r = .tuple #[.agg #[.int .i64 0, .int .i64 0, .slice none 0 0], .bool false]
  | some c => ∃ v, r = .tuple #[chV c v, .bool true] ∧ w'.ownsRow w.heap.size 3 1 v c.L.length (ints c.L) := by
 have fa := valid_fit va
 have fb := valid_fit vb
 have na := valid_len va
 have nb := valid_len vb
 obtain ⟨W, hW, h⟩ : ∃ W, W = ((w.alloc (.cells #[.int .i64 a.k, .int .i64 a.d, sa] 35)).alloc (.cells #[.int .i64 b.k, .int .i64 b.d, sb] 35)).alloc (.cells #[.int .i64 0, .int .i64 0, .slice none 0 0] 35) ∧ Own3 a b sa sb w W := by
  refine ⟨_, rfl, ((Ext.alloc _ _).trans (Ext.alloc _ _)).trans (Ext.alloc _ _), by simp only [World.size_alloc]; omega, ?_, ?_, ?_⟩
  · exact ((Bk.new w (cellsOf a sa) _).ext (Ext.alloc _ _)).ext (Ext.alloc _ _)
  · have := (Bk.new (w.alloc (.cells #[.int .i64 a.k, .int .i64 a.d, sa] 35)) (cellsOf b sb) 35).ext (Ext.alloc _ (.cells #[.int .i64 0, .int .i64 0, .slice none 0 0] 35))
    rw [World.size_alloc] at this
    exact this
  · have := Bk.new ((w.alloc (.cells #[.int .i64 a.k, .int .i64 a.d, sa] 35)).alloc (.cells #[.int .i64 b.k, .int .i64 b.d, sb] 35)) [.int .i64 0, .int .i64 0, .slice none 0 0] 35
    rw [World.size_alloc, World.size_alloc] at this
    exact this
 obtain ⟨pa, ca, rfl, _, _⟩ := ha.shape
 obtain ⟨pb, cb, rfl, _, _⟩ := hb.shape
 have A0 := h.A.get (o := 0) rfl
 have A1 := h.A.get (o := 1) rfl
 have A2 := h.A.get (o := 2) rfl
 refine en69 ?_
 -- the first statements: the boxes, and whether one of both is a list
 refine mwpB_cut 1 (fun e ds w' => e 2 = .pointer (some ⟨w.heap.size, 0, none⟩) ∧ e 3 = .pointer (some ⟨w.heap.size + 1, 0, none⟩) ∧ e 4 = .pointer (some ⟨w.heap.size + 2, 0, none⟩) ∧ ds = [] ∧ w' = W) ?_ ?_
 · simp -dsimp -implicitDefEqProofs only [chV,headM_zero,headM_seq,World.size_alloc,Nat.add_assoc,← hW,m69,sF69,ZA,↓reduceIte,ZB,ZC,ZJ,ZK,ZE,ZF,ZG,ZH,ZI,reduceCtorEq,ZD,mwV,↓mwD,mwU]
 · clear hW
   rintro e ds w0 ⟨h2, h3, h4, rfl, rfl⟩
   simp only [m69,tailM_seq,tailM_zero,mwpB_seq]
   refine mwpB_mid (fun e' ds w' => e' 2 = e 2 ∧ e' 3 = e 3 ∧ e' 4 = e 4 ∧ e' 23 = .bool (a.lsd || b.lsd) ∧ ds = [] ∧ Own3 a b (.slice pa a.L.length ca) (.slice pb b.L.length cb) w w') ?_ ?_
   · simp -dsimp -implicitDefEqProofs only [h2,h3,h4,A0,A1,A2,m69,sF69,ZA,↓reduceIte,ZB,ZC,ZJ,ZK,ZE,ZF,ZG,ZH,ZI,reduceCtorEq,ZD,mwV,↓mwD,mwU]
     refine (refListed_c a _ w0).use ?_
     rintro r w1 ⟨rfl, hx1⟩
     have h1 := h.next hx1
     have B0 := h1.B.get (o := 0) rfl
     have B1 := h1.B.get (o := 1) rfl
     have B2 := h1.B.get (o := 2) rfl
     cases la : a.lsd
     · simp -dsimp -implicitDefEqProofs only [h2,h3,h4,B0,B1,B2,m69,sF69,ZA,↓reduceIte,ZB,ZC,ZJ,ZK,ZE,ZF,ZG,ZH,ZI,reduceCtorEq,ZD,mwV,↓mwD,mwU]
       refine (refListed_c b _ w1).use ?_
       rintro r w2 ⟨rfl, hx2⟩
       simp -dsimp -implicitDefEqProofs only [h2,h3,h4,m69,sF69,ZA,↓reduceIte,ZB,ZC,ZJ,ZK,ZE,ZF,ZG,ZH,ZI,reduceCtorEq,ZD,mwV,↓mwD,mwU]
       exact ⟨rfl, h1.next hx2⟩
     · simp -dsimp -implicitDefEqProofs only [h2,h3,h4,m69,sF69,ZA,↓reduceIte,ZB,ZC,ZJ,ZK,ZE,ZF,ZG,ZH,ZI,reduceCtorEq,ZD,mwV,↓mwD,mwU]
       exact ⟨rfl, h1⟩
   rintro e1 ds w1 ⟨q2, q3, q4, h23, rfl, hown⟩
   rw [h2] at q2
   rw [h3] at q3
   rw [h4] at q4
   clear h2 h3 h4 h A0 A1 A2
   have h2 := q2
   have h3 := q3
   have h4 := q4
   clear q2 q3 q4
   have A0 := hown.A.get (o := 0) rfl
   have A1 := hown.A.get (o := 1) rfl
   have A2 := hown.A.get (o := 2) rfl
   have B0 := hown.B.get (o := 0) rfl
   have B1 := hown.B.get (o := 1) rfl
   have B2 := hown.B.get (o := 2) rfl
   · rw [hl] at h23
     simp -dsimp -implicitDefEqProofs only [h2,h3,h4,h23,m69,sF69,ZA,↓reduceIte,ZB,ZC,ZJ,ZK,ZE,ZF,ZG,ZH,ZI,reduceCtorEq,ZD,mwV,↓mwD,mwU]
     refine mwpB_mid (fun e' ds w2 => e' 2 = e1 2 ∧ e' 3 = e1 3 ∧ e' 4 = e1 4 ∧ ds = [] ∧ ∃ bf, e' 6 = .pointer (some ⟨bf, 0, none⟩) ∧ ∃ bi, e' 7 = .pointer (some ⟨bi, 0, none⟩) ∧ bf ≠ bi ∧ w.heap.size + 3 ≤ bf ∧ w.heap.size + 3 ≤ bi ∧ Own3 a b (.slice pa a.L.length ca) (.slice pb b.L.length cb) w w2 ∧
      Bk w2 bf [.int .i64 a.k, .int .i64 a.d, .slice pa a.L.length ca] 35 ∧ Bk w2 bi [.int .i64 b.k, .int .i64 b.d, .slice pb b.L.length cb] 35) ?_ ?_
     · refine mwpB_drawE ?_
       have D1 : Ext w1.drew (w1.drew.alloc (.cells #[.int .i64 0, .int .i64 0, .slice none 0 0] 35)) := Ext.alloc _ _
       have D2 := D1.trans (Ext.alloc _ (.cells #[.int .i64 0, .int .i64 0, .slice none 0 0] 35))
       have hdz : w1.drew.heap.size = w1.heap.size := rfl
       have K0 : Bk ((w1.drew.alloc (.cells #[.int .i64 0, .int .i64 0, .slice none 0 0] 35)).alloc (.cells #[.int .i64 0, .int .i64 0, .slice none 0 0] 35)) w1.drew.heap.size [.int .i64 0, .int .i64 0, .slice none 0 0] 35 := (Bk.new _ _ _).ext (Ext.alloc _ _)
       have K1 : Bk ((w1.drew.alloc (.cells #[.int .i64 0, .int .i64 0, .slice none 0 0] 35)).alloc (.cells #[.int .i64 0, .int .i64 0, .slice none 0 0] 35)) (w1.drew.heap.size + 1) [.int .i64 0, .int .i64 0, .slice none 0 0] 35 := by
        have := Bk.new (w1.drew.alloc (.cells #[.int .i64 0, .int .i64 0, .slice none 0 0] 35)) [.int .i64 0, .int .i64 0, .slice none 0 0] 35
        rw [World.size_alloc] at this
        exact this
       simp -dsimp -implicitDefEqProofs only [h2,h3,h4,D1,D2,A0,A1,A2,B0,B1,B2,planEB_two,World.size_alloc,m69,sF69,ZA,↓reduceIte,ZB,ZC,ZJ,ZK,ZE,ZF,ZG,ZH,ZI,reduceCtorEq,ZD,mwV,↓mwD,mwU]
       refine ⟨?_, ?_⟩
       · have P6 := put3 K0 (.int .i64 a.k) (.int .i64 a.d) (.slice pa a.L.length ca)
         have K7 := ((K1.ne (b' := w1.drew.heap.size) (by omega) 0 (.int .i64 a.k)).ne (b' := w1.drew.heap.size) (by omega) 1 (.int .i64 a.d)).ne (b' := w1.drew.heap.size) (by omega) 2 (.slice pa a.L.length ca)
         have P7 := put3 K7 (.int .i64 b.k) (.int .i64 b.d) (.slice pb b.L.length cb)
         obtain ⟨py0, pc0⟩ := P6.c0
         obtain ⟨py1, pc1⟩ := P6.c1
         obtain ⟨py2, pc2⟩ := P6.c2
         have pz0 := P6.z0
         have pz1 := P6.z1
         have pz2 := P6.z2
         obtain ⟨qy0, qc0⟩ := P7.c0
         obtain ⟨qy1, qc1⟩ := P7.c1
         obtain ⟨qy2, qc2⟩ := P7.c2
         have qz0 := P7.z0
         have qz1 := P7.z1
         have qz2 := P7.z2
         have D3 := D2.set3 (b := w1.drew.heap.size) (by omega) (.int .i64 a.k) (.int .i64 a.d) (.slice pa a.L.length ca)
         have D4 := D3.set3 (b := (w1.drew.heap.size + 1)) (by omega) (.int .i64 b.k) (.int .i64 b.d) (.slice pb b.L.length cb)
         simp -dsimp -implicitDefEqProofs only [h2,h3,h4,World.size_alloc,D1,D2,D3,A0,A1,A2,B0,B1,B2,pc0,pc1,pc2,pz0,pz1,pz2,qc0,qc1,qc2,qz0,qz1,qz2,m69,sF69,ZA,↓reduceIte,ZB,ZC,ZJ,ZK,ZE,ZF,ZG,ZH,ZI,reduceCtorEq,ZD,mwV,↓mwD,mwU]
         exact ⟨w1.drew.heap.size, rfl, (w1.drew.heap.size + 1), rfl, by omega, by have := hown.size; omega, by have := hown.size; omega, hown.next ((Ext.drew w1).trans D4), ((P6.bk.ne (b' := (w1.drew.heap.size + 1)) (by omega) 0 _).ne (b' := (w1.drew.heap.size + 1)) (by omega) 1 _).ne (b' := (w1.drew.heap.size + 1)) (by omega) 2 _, P7.bk⟩
       · have P6 := put3 K1 (.int .i64 a.k) (.int .i64 a.d) (.slice pa a.L.length ca)
         have K7 := ((K0.ne (b' := (w1.drew.heap.size + 1)) (by omega) 0 (.int .i64 a.k)).ne (b' := (w1.drew.heap.size + 1)) (by omega) 1 (.int .i64 a.d)).ne (b' := (w1.drew.heap.size + 1)) (by omega) 2 (.slice pa a.L.length ca)
         have P7 := put3 K7 (.int .i64 b.k) (.int .i64 b.d) (.slice pb b.L.length cb)
         obtain ⟨py0, pc0⟩ := P6.c0
         obtain ⟨py1, pc1⟩ := P6.c1
         obtain ⟨py2, pc2⟩ := P6.c2
         have pz0 := P6.z0
         have pz1 := P6.z1
         have pz2 := P6.z2
         obtain ⟨qy0, qc0⟩ := P7.c0
         obtain ⟨qy1, qc1⟩ := P7.c1
         obtain ⟨qy2, qc2⟩ := P7.c2
         have qz0 := P7.z0
         have qz1 := P7.z1
         have qz2 := P7.z2
         have D3 := D2.set3 (b := (w1.drew.heap.size + 1)) (by omega) (.int .i64 a.k) (.int .i64 a.d) (.slice pa a.L.length ca)
         have D4 := D3.set3 (b := w1.drew.heap.size) (by omega) (.int .i64 b.k) (.int .i64 b.d) (.slice pb b.L.length cb)
         simp -dsimp -implicitDefEqProofs only [h2,h3,h4,World.size_alloc,D1,D2,D3,A0,A1,A2,B0,B1,B2,pc0,pc1,pc2,pz0,pz1,pz2,qc0,qc1,qc2,qz0,qz1,qz2,m69,sF69,ZA,↓reduceIte,ZB,ZC,ZJ,ZK,ZE,ZF,ZG,ZH,ZI,reduceCtorEq,ZD,mwV,↓mwD,mwU]
         exact ⟨(w1.drew.heap.size + 1), rfl, w1.drew.heap.size, rfl, by omega, by have := hown.size; omega, by have := hown.size; omega, hown.next ((Ext.drew w1).trans D4), ((P6.bk.ne (b' := w1.drew.heap.size) (by omega) 0 _).ne (b' := w1.drew.heap.size) (by omega) 1 _).ne (b' := w1.drew.heap.size) (by omega) 2 _, P7.bk⟩
     · rintro e2 ds w2 ⟨g2, g3, g4, rfl, bf, g6, bi, g7, hne, hbf, hbi, hown2, KF, KI⟩
       rw [h2] at g2
       rw [h3] at g3
       rw [h4] at g4
       have A0 := hown2.A.get (o := 0) rfl
       have A1 := hown2.A.get (o := 1) rfl
       have A2 := hown2.A.get (o := 2) rfl
       have B0 := hown2.B.get (o := 0) rfl
       have B1 := hown2.B.get (o := 1) rfl
       have B2 := hown2.B.get (o := 2) rfl
       simp -dsimp -implicitDefEqProofs only [g2,g3,g4,g6,g7,A0,A1,A2,m69,sF69,ZA,↓reduceIte,ZB,ZC,ZJ,ZK,ZE,ZF,ZG,ZH,ZI,reduceCtorEq,ZD,mwV,↓mwD,mwU]
       refine (refListed_c a _ w2).use ?_
       rintro r w4 ⟨rfl, hx4⟩
       have hown4 := hown2.next hx4
       have KF4 := KF.ext hx4
       have KI4 := KI.ext hx4
       cases la : a.lsd
       · simp -dsimp -implicitDefEqProofs only [g2,g3,g4,g6,g7,m69,sF69,ZA,↓reduceIte,ZB,ZC,ZJ,ZK,ZE,ZF,ZG,ZH,ZI,reduceCtorEq,ZD,mwV,↓mwD,mwU]
         have lb : b.lsd = true := by rw [la] at hl; simpa using hl
         have A0 := hown4.A.get (o := 0) rfl
         have A1 := hown4.A.get (o := 1) rfl
         have A2 := hown4.A.get (o := 2) rfl
         have B0 := hown4.B.get (o := 0) rfl
         have B1 := hown4.B.get (o := 1) rfl
         have B2 := hown4.B.get (o := 2) rfl
         have P6 := put3 (w := w4.drew) KF4 (.int .i64 b.k) (.int .i64 b.d) (.slice pb b.L.length cb)
         have K7 : Bk _ bi [.int .i64 b.k, .int .i64 b.d, .slice pb b.L.length cb] 35 := ((Bk.ne (w := w4.drew) KI4 (b' := bf) hne 0 (.int .i64 b.k)).ne (b' := bf) hne 1 (.int .i64 b.d)).ne (b' := bf) hne 2 (.slice pb b.L.length cb)
         have P7 := put3 K7 (.int .i64 a.k) (.int .i64 a.d) (.slice pa a.L.length ca)
         obtain ⟨py0, pc0⟩ := P6.c0
         obtain ⟨py1, pc1⟩ := P6.c1
         obtain ⟨py2, pc2⟩ := P6.c2
         have pz0 := P6.z0
         have pz1 := P6.z1
         have pz2 := P6.z2
         obtain ⟨qy0, qc0⟩ := P7.c0
         obtain ⟨qy1, qc1⟩ := P7.c1
         obtain ⟨qy2, qc2⟩ := P7.c2
         have qz0 := P7.z0
         have qz1 := P7.z1
         have qz2 := P7.z2
         have hown5 : Own3 a b (.slice pa a.L.length ca) (.slice pb b.L.length cb) w w4.drew := hown4.next (Ext.drew _)
         have hown6 := (hown5.set3 hbf (.int .i64 b.k) (.int .i64 b.d) (.slice pb b.L.length cb))
         have hown7 := (hown6.set3 hbi (.int .i64 a.k) (.int .i64 a.d) (.slice pa a.L.length ca))
         refine mwpB_draw (fun w' => Bk w' w.heap.size [.int .i64 a.k, .int .i64 a.d, .slice pa a.L.length ca] 35 ∧ Bk w' (w.heap.size + 1) [.int .i64 b.k, .int .i64 b.d, .slice pb b.L.length cb] 35) ⟨hown4.A, hown4.B⟩ ?_
         have hS6 := And.intro hown6.A hown6.B
         have hS7 := And.intro hown7.A hown7.B
         simp -dsimp -implicitDefEqProofs only [g2,g3,g4,g6,g7,m69,sF69,ZA,↓reduceIte,ZB,ZC,ZJ,ZK,ZE,ZF,ZG,ZH,ZI,reduceCtorEq,ZD,mwV,↓mwD,mwU]
         refine softB_load (v := .agg #[.int .i64 b.k, .int .i64 b.d, .slice pb b.L.length cb]) (fun w' hw => ?_) ?_
         · have b0 := hw.2.get (o := 0) rfl
           have b1 := hw.2.get (o := 1) rfl
           have b2 := hw.2.get (o := 2) rfl
           simp -dsimp -implicitDefEqProofs only [g2,g3,b0,b1,b2,m69,sF69,ZA,↓reduceIte,ZB,ZC,ZJ,ZK,ZE,ZF,ZG,ZH,ZI,reduceCtorEq,ZD,mwV,↓mwD,mwU]
         simp -dsimp -implicitDefEqProofs only [g2,g3,g4,g6,g7,m69,sF69,ZA,↓reduceIte,ZB,ZC,ZJ,ZK,ZE,ZF,ZG,ZH,ZI,reduceCtorEq,ZD,mwV,↓mwD,mwU]
         refine softB_load (v := .agg #[.int .i64 a.k, .int .i64 a.d, .slice pa a.L.length ca]) (fun w' hw => ?_) ?_
         · have b0 := hw.1.get (o := 0) rfl
           have b1 := hw.1.get (o := 1) rfl
           have b2 := hw.1.get (o := 2) rfl
           simp -dsimp -implicitDefEqProofs only [g2,g3,b0,b1,b2,m69,sF69,ZA,↓reduceIte,ZB,ZC,ZJ,ZK,ZE,ZF,ZG,ZH,ZI,reduceCtorEq,ZD,mwV,↓mwD,mwU]
         simp -dsimp -implicitDefEqProofs only [g2,g3,g4,g6,g7,pc0,pc1,pc2,pz0,pz1,pz2,qc0,qc1,qc2,qz0,qz1,qz2,m69,sF69,ZA,↓reduceIte,ZB,ZC,ZJ,ZK,ZE,ZF,ZG,ZH,ZI,reduceCtorEq,ZD,mwV,↓mwD,mwU]
         refine ⟨hS6, ?_⟩
         replace hown4 := hown7
         have KF5 := ((P6.bk.ne (b' := bi) (fun e => hne e.symm) 0 (.int .i64 a.k)).ne (b' := bi) (fun e => hne e.symm) 1 (.int .i64 a.d)).ne (b' := bi) (fun e => hne e.symm) 2 (.slice pa a.L.length ca)
         have KI5 := P7.bk
         clear KF4 KI4 P6 P7 K7 hS6 hS7 hown5 hown6 pc0 pc1 pc2 pz0 pz1 pz2 qc0 qc1 qc2 qz0 qz1 qz2
         have KF4 := KF5
         have KI4 := KI5
         clear KF5 KI5
         generalize World.setCell (World.setCell (World.setCell (World.setCell (World.setCell (World.setCell w4.drew _ _) _ _) _ _) _ _) _ _) _ _ = w4 at *
         obtain ⟨hfu, hfl⟩ : Fit a ∧ b.L.length ≤ 20 := ⟨fa, nb⟩
         have hK : keptL a b = b.L.filter a.has := by unfold keptL; rw [la]; rfl
         refine mwpB_loop (fun e' ds w' => ∃ k : Nat, k ≤ b.L.length ∧ e' 9 = .int .i64 k ∧ e' 2 = .pointer (some ⟨w.heap.size, 0, none⟩) ∧ e' 3 = .pointer (some ⟨w.heap.size + 1, 0, none⟩) ∧ e' 4 = .pointer (some ⟨w.heap.size + 2, 0, none⟩) ∧ e' 6 = .pointer (some ⟨bf, 0, none⟩) ∧ e' 7 = .pointer (some ⟨bi, 0, none⟩) ∧ ds = [] ∧ Ext w4 w' ∧
          w'.ownsRow w4.heap.size 3 1 (e' 8) ((b.L.take k).filter a.has).length (ints ((b.L.take k).filter a.has))) (fun e' _ => b.L.length - (intOf (e' 9)).toNat) ?_ ?_
         · simp -dsimp -implicitDefEqProofs only [g2,g3,g4,g6,g7,m69,sF69,ZA,↓reduceIte,ZB,ZC,ZJ,ZK,ZE,ZF,ZG,ZH,ZI,reduceCtorEq,ZD,mwV,↓mwD,mwU]
           exact ⟨0, by omega, rfl, Ext.refl _, World.ownsRow_nil _ _ _ _⟩
         · rintro e5 ds w5 ⟨k, hk, m9, m2, m3, m4, m6, m7, rfl, hx5, hrow⟩
           obtain ⟨_, q8, cap8, m8⟩ := own_shape hrow
           have F2 := (KF4.ext hx5).get (o := 2) rfl
           have I0 := (KI4.ext hx5).get (o := 0) rfl
           have I1 := (KI4.ext hx5).get (o := 1) rfl
           have I2 := (KI4.ext hx5).get (o := 2) rfl
           simp -dsimp -implicitDefEqProofs only [m9,m2,m3,m4,m6,m7,F2,m69,sF69,ZA,↓reduceIte,ZB,ZC,ZJ,ZK,ZE,ZF,ZG,ZH,ZI,reduceCtorEq,ZD,mwV,↓mwD,mwU]
           refine iteW_dec (fun hlt => ?_) (fun hge => ?_)
           · have hlt' : k < b.L.length := by omega
             obtain ⟨bb, o, cap', hv, hcc, hcm, hcell⟩ := hb.at (by intro h0; rw [h0] at hlt'; simp at hlt')
             simp only [Value.slice.injEq] at hv
             obtain ⟨rfl, _, rfl⟩ := hv
             have hck := (hown4.ext.trans hx5).cell (hcell k hlt')
             have hb1 : (0 : Int) ≤ k ∧ (k : Int) < b.L.length := by omega
             have hw := w64_succ hlt' (Nat.le_trans hcc hcm)
             have hfs := filter_take_succ hlt' a.has
             simp -dsimp -implicitDefEqProofs only [m9,m2,m3,m4,m6,m7,F2,m69,sF69,ZA,↓reduceIte,ZB,ZC,ZJ,ZK,ZE,ZF,ZG,ZH,ZI,reduceCtorEq,ZD,mwV,↓mwD,mwU]
             refine mwpB_drawE ?_
             simp -dsimp -implicitDefEqProofs only [m9,m2,m3,m4,m6,m7,F2,I0,I1,I2,hb1,and_self,hck,m69,sF69,ZA,↓reduceIte,ZB,ZC,ZJ,ZK,ZE,ZF,ZG,ZH,ZI,reduceCtorEq,ZD,mwV,↓mwD,mwU]
             refine (Has1_c a (.slice pa a.L.length ca) b.L[k] w5.drew (ha.ext ((hown4.ext.trans hx5).trans (Ext.drew _))) hfu).use ?_
             rintro r w6 ⟨rfl, hx6⟩
             have hx56 : Ext w5 w6 := (Ext.drew _).trans hx6
             cases hh : a.has b.L[k]
             · rw [hh] at hfs
               simp -dsimp -implicitDefEqProofs only [hx6,m9,m2,m3,m4,m6,m7,hw,m69,sF69,ZA,↓reduceIte,ZB,ZC,ZJ,ZK,ZE,ZF,ZG,ZH,ZI,reduceCtorEq,ZD,mwV,↓mwD,mwU]
               refine ⟨⟨k + 1, by omega, rfl, hx5.trans hx56, ?_⟩, ?_⟩
               · rw [hfs]; simpa using Own.ext hrow hx56
               · simp only [intOf]; omega
             · rw [hh, if_pos rfl] at hfs
               have hlen : ((b.L.take k).filter a.has).length ≤ 1000000 := Nat.le_trans (List.length_filter_le _ _) (by rw [List.length_take]; omega)
               have F2' := (KF4.ext (hx5.trans hx56)).get (o := 2) rfl
               have hck' := (hown4.ext.trans (hx5.trans hx56)).cell (hcell k hlt')
               simp -dsimp -implicitDefEqProofs only [hx6,m9,m2,m3,m4,m6,m7,F2',hb1,and_self,hck',bs_one,m69,sF69,ZA,↓reduceIte,ZB,ZC,ZJ,ZK,ZE,ZF,ZG,ZH,ZI,reduceCtorEq,ZD,mwV,↓mwD,mwU]
               obtain ⟨v7, w7, ha7, hown7, hg7⟩ := append_int (Own.ext hrow hx56) b.L[k] (by omega) (hx5.trans hx56).size
               refine appB.mk ha7 ?_
               simp -dsimp -implicitDefEqProofs only [m9,m2,m3,m4,m6,m7,hw,m69,sF69,ZA,↓reduceIte,ZB,ZC,ZJ,ZK,ZE,ZF,ZG,ZH,ZI,reduceCtorEq,ZD,mwV,↓mwD,mwU]
               refine ⟨⟨k + 1, by omega, rfl, append_ext (hx5.trans hx56) (Own.ext hrow hx56) hg7, ?_⟩, ?_⟩
               · rw [hfs]; simpa using hown7
               · simp only [intOf]; omega
           · have hkl : k = b.L.length := by omega
             subst hkl
             rw [List.take_length, ← hK] at hrow m8
             have hmet : Met a b (if keptL a b = [] then none else some (wish (lstK (keptL a b)) (keptL a b) a.d b.d)) := by unfold Met; rw [if_pos hl]
             generalize keptL a b = F at *
             rw [m8] at hrow
             have hown5 := hown4.next hx5
             by_cases hF : F = []
             · have hz : (F.length : Int) = 0 := by rw [hF]; rfl
               rw [if_pos hF] at hmet
               have hP := put3 hown5.C (.int .i64 0) (.int .i64 0) (.slice none 0 0)
               obtain ⟨y0, c0⟩ := hP.c0
               obtain ⟨y1, c1⟩ := hP.c1
               obtain ⟨y2, c2⟩ := hP.c2
               have z0 := hP.z0
               have z1 := hP.z1
               have z2 := hP.z2
               have k0 := hP.bk.get (o := 0) rfl
               have k1 := hP.bk.get (o := 1) rfl
               have k2 := hP.bk.get (o := 2) rfl
               simp -dsimp -implicitDefEqProofs only [m9,m2,m3,m4,m6,m7,m8,hz,bv_ch0,c0,c1,c2,z0,z1,z2,k0,k1,k2,m69,sF69,ZA,↓reduceIte,ZB,ZC,ZJ,ZK,ZE,ZF,ZG,ZH,ZI,reduceCtorEq,ZD,mwV,↓mwD,mwU]
               exact ⟨hown5.ext.set3 (by omega) _ _ _, none, hmet, trivial⟩
             · have hp : 1 ≤ F.length := List.length_pos_iff.2 hF
               have hz : ¬ (F.length : Int) = 0 := by omega
               rw [if_neg hF] at hmet
               have J0 := hown5.A.get (o := 0) rfl
               have J1 := hown5.A.get (o := 1) rfl
               have J2 := hown5.A.get (o := 2) rfl
               have L0 := hown5.B.get (o := 0) rfl
               have L1 := hown5.B.get (o := 1) rfl
               have L2 := hown5.B.get (o := 2) rfl
               simp -dsimp -implicitDefEqProofs only [m9,m2,m3,m4,m6,m7,m8,hz,m69,sF69,ZA,↓reduceIte,ZB,ZC,ZJ,ZK,ZE,ZF,ZG,ZH,ZI,reduceCtorEq,ZD,mwV,↓mwD,mwU]
               refine mwpB_drawE ?_
               simp -dsimp -implicitDefEqProofs only [m9,m2,m3,m4,m6,m7,m8,J0,J1,J2,L0,L1,L2,m69,sF69,ZA,↓reduceIte,ZB,ZC,ZJ,ZK,ZE,ZF,ZG,ZH,ZI,reduceCtorEq,ZD,mwV,↓mwD,mwU]
               refine (list_c _ F w5.drew (Own.sl (Own.ext hrow (Ext.drew _)))).use ?_
               rintro r w6 ⟨rfl, hx6⟩
               have hx56 : Ext w5 w6 := (Ext.drew _).trans hx6
               have hfitF : Fit ⟨lstK F, 0, F⟩ := by
                refine .inl ?_
                unfold lstK
                by_cases h1 : F.length = 1
                · exact .inl ⟨if_pos h1, h1⟩
                · exact .inr (if_neg h1)
               simp -dsimp -implicitDefEqProofs only [hx6,m69,sF69,ZA,↓reduceIte,ZB,ZC,ZJ,ZK,ZE,ZF,ZG,ZH,ZI,reduceCtorEq,ZD,mwV,↓mwD,mwU]
               refine (wished_c (lstK F) 0 F a b _ _ _ w6 (Own.sl (Own.ext hrow hx56)) hfitF hp pa pb _ ca _ cb rfl rfl).use ?_
               rintro r w7 ⟨rfl, hx7⟩
               have hx67 := hx6.trans hx7
               have hx57 := hx56.trans hx7
               have hP := put3 (hown5.C.ext hx57) (.int .i64 (wish (lstK F) F a.d b.d).k) (.int .i64 (wish (lstK F) F a.d b.d).d) (.slice q8 F.length cap8)
               obtain ⟨y0, c0⟩ := hP.c0
               obtain ⟨y1, c1⟩ := hP.c1
               obtain ⟨y2, c2⟩ := hP.c2
               have z0 := hP.z0
               have z1 := hP.z1
               have z2 := hP.z2
               have k0 := hP.bk.get (o := 0) rfl
               have k1 := hP.bk.get (o := 1) rfl
               have k2 := hP.bk.get (o := 2) rfl
               simp -dsimp -implicitDefEqProofs only [hx67,m4,chV,c0,c1,c2,z0,z1,z2,k0,k1,k2,m69,sF69,ZA,↓reduceIte,ZB,ZC,ZJ,ZK,ZE,ZF,ZG,ZH,ZI,reduceCtorEq,ZD,mwV,↓mwD,mwU]
               refine ⟨(hown5.ext.trans hx57).set3 (by omega) _ _ _, _, hmet, _, rfl, ?_⟩
               rw [wish_L]
               exact Own.mono (Own.set3 (Own.ext hrow hx57) (by have := hown4.size; omega) _ _ _) (by have := hown4.size; omega)
       · simp -dsimp -implicitDefEqProofs only [g2,g3,g4,g6,g7,m69,sF69,ZA,↓reduceIte,ZB,ZC,ZJ,ZK,ZE,ZF,ZG,ZH,ZI,reduceCtorEq,ZD,mwV,↓mwD,mwU]
         obtain ⟨hfu, hfl⟩ : Fit b ∧ a.L.length ≤ 20 := ⟨fb, na⟩
         have hK : keptL a b = a.L.filter b.has := by unfold keptL; rw [la]; rfl
         refine mwpB_loop (fun e' ds w' => ∃ k : Nat, k ≤ a.L.length ∧ e' 9 = .int .i64 k ∧ e' 2 = .pointer (some ⟨w.heap.size, 0, none⟩) ∧ e' 3 = .pointer (some ⟨w.heap.size + 1, 0, none⟩) ∧ e' 4 = .pointer (some ⟨w.heap.size + 2, 0, none⟩) ∧ e' 6 = .pointer (some ⟨bf, 0, none⟩) ∧ e' 7 = .pointer (some ⟨bi, 0, none⟩) ∧ ds = [] ∧ Ext w4 w' ∧
          w'.ownsRow w4.heap.size 3 1 (e' 8) ((a.L.take k).filter b.has).length (ints ((a.L.take k).filter b.has))) (fun e' _ => a.L.length - (intOf (e' 9)).toNat) ?_ ?_
         · simp -dsimp -implicitDefEqProofs only [g2,g3,g4,g6,g7,m69,sF69,ZA,↓reduceIte,ZB,ZC,ZJ,ZK,ZE,ZF,ZG,ZH,ZI,reduceCtorEq,ZD,mwV,↓mwD,mwU]
           exact ⟨0, by omega, rfl, Ext.refl _, World.ownsRow_nil _ _ _ _⟩
         · rintro e5 ds w5 ⟨k, hk, m9, m2, m3, m4, m6, m7, rfl, hx5, hrow⟩
           obtain ⟨_, q8, cap8, m8⟩ := own_shape hrow
           have F2 := (KF4.ext hx5).get (o := 2) rfl
           have I0 := (KI4.ext hx5).get (o := 0) rfl
           have I1 := (KI4.ext hx5).get (o := 1) rfl
           have I2 := (KI4.ext hx5).get (o := 2) rfl
           simp -dsimp -implicitDefEqProofs only [m9,m2,m3,m4,m6,m7,F2,m69,sF69,ZA,↓reduceIte,ZB,ZC,ZJ,ZK,ZE,ZF,ZG,ZH,ZI,reduceCtorEq,ZD,mwV,↓mwD,mwU]
           refine iteW_dec (fun hlt => ?_) (fun hge => ?_)
           · have hlt' : k < a.L.length := by omega
             obtain ⟨bb, o, cap', hv, hcc, hcm, hcell⟩ := ha.at (by intro h0; rw [h0] at hlt'; simp at hlt')
             simp only [Value.slice.injEq] at hv
             obtain ⟨rfl, _, rfl⟩ := hv
             have hck := (hown4.ext.trans hx5).cell (hcell k hlt')
             have hb1 : (0 : Int) ≤ k ∧ (k : Int) < a.L.length := by omega
             have hw := w64_succ hlt' (Nat.le_trans hcc hcm)
             have hfs := filter_take_succ hlt' b.has
             simp -dsimp -implicitDefEqProofs only [m9,m2,m3,m4,m6,m7,F2,m69,sF69,ZA,↓reduceIte,ZB,ZC,ZJ,ZK,ZE,ZF,ZG,ZH,ZI,reduceCtorEq,ZD,mwV,↓mwD,mwU]
             refine mwpB_drawE ?_
             simp -dsimp -implicitDefEqProofs only [m9,m2,m3,m4,m6,m7,F2,I0,I1,I2,hb1,and_self,hck,m69,sF69,ZA,↓reduceIte,ZB,ZC,ZJ,ZK,ZE,ZF,ZG,ZH,ZI,reduceCtorEq,ZD,mwV,↓mwD,mwU]
             refine (Has1_c b (.slice pb b.L.length cb) a.L[k] w5.drew (hb.ext ((hown4.ext.trans hx5).trans (Ext.drew _))) hfu).use ?_
             rintro r w6 ⟨rfl, hx6⟩
             have hx56 : Ext w5 w6 := (Ext.drew _).trans hx6
             cases hh : b.has a.L[k]
             · rw [hh] at hfs
               simp -dsimp -implicitDefEqProofs only [hx6,m9,m2,m3,m4,m6,m7,hw,m69,sF69,ZA,↓reduceIte,ZB,ZC,ZJ,ZK,ZE,ZF,ZG,ZH,ZI,reduceCtorEq,ZD,mwV,↓mwD,mwU]
               refine ⟨⟨k + 1, by omega, rfl, hx5.trans hx56, ?_⟩, ?_⟩
               · rw [hfs]; simpa using Own.ext hrow hx56
               · simp only [intOf]; omega
             · rw [hh, if_pos rfl] at hfs
               have hlen : ((a.L.take k).filter b.has).length ≤ 1000000 := Nat.le_trans (List.length_filter_le _ _) (by rw [List.length_take]; omega)
               have F2' := (KF4.ext (hx5.trans hx56)).get (o := 2) rfl
               have hck' := (hown4.ext.trans (hx5.trans hx56)).cell (hcell k hlt')
               simp -dsimp -implicitDefEqProofs only [hx6,m9,m2,m3,m4,m6,m7,F2',hb1,and_self,hck',bs_one,m69,sF69,ZA,↓reduceIte,ZB,ZC,ZJ,ZK,ZE,ZF,ZG,ZH,ZI,reduceCtorEq,ZD,mwV,↓mwD,mwU]
               obtain ⟨v7, w7, ha7, hown7, hg7⟩ := append_int (Own.ext hrow hx56) a.L[k] (by omega) (hx5.trans hx56).size
               refine appB.mk ha7 ?_
               simp -dsimp -implicitDefEqProofs only [m9,m2,m3,m4,m6,m7,hw,m69,sF69,ZA,↓reduceIte,ZB,ZC,ZJ,ZK,ZE,ZF,ZG,ZH,ZI,reduceCtorEq,ZD,mwV,↓mwD,mwU]
               refine ⟨⟨k + 1, by omega, rfl, append_ext (hx5.trans hx56) (Own.ext hrow hx56) hg7, ?_⟩, ?_⟩
               · rw [hfs]; simpa using hown7
               · simp only [intOf]; omega
           · have hkl : k = a.L.length := by omega
             subst hkl
             rw [List.take_length, ← hK] at hrow m8
             have hmet : Met a b (if keptL a b = [] then none else some (wish (lstK (keptL a b)) (keptL a b) a.d b.d)) := by unfold Met; rw [if_pos hl]
             generalize keptL a b = F at *
             rw [m8] at hrow
             have hown5 := hown4.next hx5
             by_cases hF : F = []
             · have hz : (F.length : Int) = 0 := by rw [hF]; rfl
               rw [if_pos hF] at hmet
               have hP := put3 hown5.C (.int .i64 0) (.int .i64 0) (.slice none 0 0)
               obtain ⟨y0, c0⟩ := hP.c0
               obtain ⟨y1, c1⟩ := hP.c1
               obtain ⟨y2, c2⟩ := hP.c2
               have z0 := hP.z0
               have z1 := hP.z1
               have z2 := hP.z2
               have k0 := hP.bk.get (o := 0) rfl
               have k1 := hP.bk.get (o := 1) rfl
               have k2 := hP.bk.get (o := 2) rfl
               simp -dsimp -implicitDefEqProofs only [m9,m2,m3,m4,m6,m7,m8,hz,bv_ch0,c0,c1,c2,z0,z1,z2,k0,k1,k2,m69,sF69,ZA,↓reduceIte,ZB,ZC,ZJ,ZK,ZE,ZF,ZG,ZH,ZI,reduceCtorEq,ZD,mwV,↓mwD,mwU]
               exact ⟨hown5.ext.set3 (by omega) _ _ _, none, hmet, trivial⟩
             · have hp : 1 ≤ F.length := List.length_pos_iff.2 hF
               have hz : ¬ (F.length : Int) = 0 := by omega
               rw [if_neg hF] at hmet
               have J0 := hown5.A.get (o := 0) rfl
               have J1 := hown5.A.get (o := 1) rfl
               have J2 := hown5.A.get (o := 2) rfl
               have L0 := hown5.B.get (o := 0) rfl
               have L1 := hown5.B.get (o := 1) rfl
               have L2 := hown5.B.get (o := 2) rfl
               simp -dsimp -implicitDefEqProofs only [m9,m2,m3,m4,m6,m7,m8,hz,m69,sF69,ZA,↓reduceIte,ZB,ZC,ZJ,ZK,ZE,ZF,ZG,ZH,ZI,reduceCtorEq,ZD,mwV,↓mwD,mwU]
               refine mwpB_drawE ?_
               simp -dsimp -implicitDefEqProofs only [m9,m2,m3,m4,m6,m7,m8,J0,J1,J2,L0,L1,L2,m69,sF69,ZA,↓reduceIte,ZB,ZC,ZJ,ZK,ZE,ZF,ZG,ZH,ZI,reduceCtorEq,ZD,mwV,↓mwD,mwU]
               refine (list_c _ F w5.drew (Own.sl (Own.ext hrow (Ext.drew _)))).use ?_
               rintro r w6 ⟨rfl, hx6⟩
               have hx56 : Ext w5 w6 := (Ext.drew _).trans hx6
               have hfitF : Fit ⟨lstK F, 0, F⟩ := by
                refine .inl ?_
                unfold lstK
                by_cases h1 : F.length = 1
                · exact .inl ⟨if_pos h1, h1⟩
                · exact .inr (if_neg h1)
               simp -dsimp -implicitDefEqProofs only [hx6,m69,sF69,ZA,↓reduceIte,ZB,ZC,ZJ,ZK,ZE,ZF,ZG,ZH,ZI,reduceCtorEq,ZD,mwV,↓mwD,mwU]
               refine (wished_c (lstK F) 0 F a b _ _ _ w6 (Own.sl (Own.ext hrow hx56)) hfitF hp pa pb _ ca _ cb rfl rfl).use ?_
               rintro r w7 ⟨rfl, hx7⟩
               have hx67 := hx6.trans hx7
               have hx57 := hx56.trans hx7
               have hP := put3 (hown5.C.ext hx57) (.int .i64 (wish (lstK F) F a.d b.d).k) (.int .i64 (wish (lstK F) F a.d b.d).d) (.slice q8 F.length cap8)
               obtain ⟨y0, c0⟩ := hP.c0
               obtain ⟨y1, c1⟩ := hP.c1
               obtain ⟨y2, c2⟩ := hP.c2
               have z0 := hP.z0
               have z1 := hP.z1
               have z2 := hP.z2
               have k0 := hP.bk.get (o := 0) rfl
               have k1 := hP.bk.get (o := 1) rfl
               have k2 := hP.bk.get (o := 2) rfl
               simp -dsimp -implicitDefEqProofs only [hx67,m4,chV,c0,c1,c2,z0,z1,z2,k0,k1,k2,m69,sF69,ZA,↓reduceIte,ZB,ZC,ZJ,ZK,ZE,ZF,ZG,ZH,ZI,reduceCtorEq,ZD,mwV,↓mwD,mwU]
               refine ⟨(hown5.ext.trans hx57).set3 (by omega) _ _ _, _, hmet, _, rfl, ?_⟩
               rw [wish_L]
               exact Own.mono (Own.set3 (Own.ext hrow hx57) (by have := hown4.size; omega) _ _ _) (by have := hown4.size; omega)
end Go.Proofs.YthcdnjbhhaonhaaGreatDoor
/- Layer 02: Met, both Meets, SameChoice, rows. -/
namespace Go.Proofs.YthcdnjbhhaonhaaGreatDoor
open Go.RowKit
open Nat renaming reduceEqDiff → ZA, reduceAdd → ZB, reduceMul → ZC, reduceSub → ZD
open Int renaming reduceToNat → ZE, reduceEq → ZF, reduceLT → ZG, reduceLE → ZH, reduceNeg → ZI
open Go.Value renaming oneCell' → ZK, cells → ZJ
set_option linter.unusedSimpArgs false
theorem Met_c (a b : Ch) (sa sb : Value) (w : World) (va : a.valid = true) (vb : b.valid = true) (ha : SlI w sa a.L) (hb : SlI w sb b.L) :
 Rets Go.Proofs.Tryz.prog 69 #[chV a sa, chV b sb] w fun r w' => Ext w w' ∧ ∃ o, Met a b o ∧ match o with
  | none => r = .tuple #[.agg #[.int .i64 0, .int .i64 0, .slice none 0 0], .bool false]
  | some c => ∃ v, r = .tuple #[chV c v, .bool true] ∧ w'.ownsRow w.heap.size 3 1 v c.L.length (ints c.L) := by
 cases hl : (a.lsd || b.lsd)
 · exact MetR_c a b sa sb w hl va vb ha hb
 · exact MetL_c a b sa sb w hl va vb ha hb
def MeetQ (w : World) (a b : Ch) (r : Value) (w' : World) : Prop := Ext w w' ∧ if (a.valid && b.valid) = true then ∃ o, Met a b o ∧ (match o with
      | none => r = .tuple #[.agg #[.int .i64 0, .int .i64 0, .slice none 0 0], .bool false, .int .i64 0]
      | some c => ∃ v, r = .tuple #[chV c v, .bool true, .int .i64 0] ∧ SlI w' v c.L)
 else r = .tuple #[.agg #[.int .i64 0, .int .i64 0, .slice none 0 0], .bool false, .int .i64 1]
end Go.Proofs.YthcdnjbhhaonhaaGreatDoor

/- Layer 02: a format read from a value, by the reference. -/
import Derived.Test.YthcdnjbhhaonhaaGreatDoorQvVaNToVaQ

namespace Go.Proofs.YthcdnjbhhaonhaaGreatDoor
open Go.RowKit
open Nat renaming reduceEqDiff → ZA, reduceAdd → ZB, reduceMul → ZC, reduceSub → ZD
open Int renaming reduceToNat → ZE, reduceEq → ZF, reduceLT → ZG, reduceLE → ZH, reduceNeg → ZI
open Go.Value renaming oneCell' → ZK, cells → ZJ
open Go.Proofs.Tryz renaming prog → ZP
set_option linter.unusedSimpArgs false
set_option maxHeartbeats 8000000 in
theorem refFromValue_c (v : Vt) (s1 s2 : Value) (w : World) (hv : VAt w v s1 s2) (hm : massV v < 3000) : Rets ZP 50 #[vtV v s1 s2] w (FromQ v w) := by
  obtain ⟨q1, c1, rfl, hd1, hd2⟩ := hv.ks.shape
  obtain ⟨q2, c2, rfl, hc1, hc2⟩ := hv.vs.shape
  obtain ⟨W, hW, A, B, hx⟩ := box_two w v (.slice q1 v.keys.length c1) (.slice q2 v.kids.length c2) [.int .i64 0, .slice none 0 0] 24
  have hsz : W.heap.size = w.heap.size + 2 := by rw [hW]; simp only [World.size_alloc]
  refine en50 ?_
  refine mwpB_cut 1 (fun e ds w' => e 1 = .pointer (some ⟨w.heap.size, 0, none⟩) ∧ e 2 = .pointer (some ⟨w.heap.size + 1, 0, none⟩) ∧ ds = [] ∧ w' = W) ?_ ?_
  · simp -dsimp -implicitDefEqProofs only [vtV,headM_zero,headM_seq,World.size_alloc,hW,m50,sF50,ZA,↓reduceIte,ZB,ZC,ZJ,ZK,ZE,ZF,ZG,ZH,ZI,reduceCtorEq,ZD,mwV,↓mwD,mwU]
  clear hW
  rintro e ds w0 ⟨k1, k2, rfl, rfl⟩
  obtain ⟨a0, a1, a2, a3, a4⟩ := bk_vt A (Ext.refl w0)
  simp -dsimp -implicitDefEqProofs only [tailM_zero,tailM_seq,k1,a0,a1,a2,a3,a4,m50,sF50,ZA,↓reduceIte,ZB,ZC,ZJ,ZK,ZE,ZF,ZG,ZH,ZI,reduceCtorEq,ZD,mwV,↓mwD,mwU]
  refine (refValidV_c v _ _ w0 (hv.ext hx) hm).use ?_
  rintro r w1 ⟨hx1, b, rfl, hb⟩
  have hxw := hx.trans hx1
  obtain ⟨a0, a1, a2, a3, a4⟩ := bk_vt A hx1
  -- an error, from a world in which the answer's cells are as they were
  have err : ∀ (w' : World) (c : Int), Ext w w' → Bk w' (w.heap.size + 1) [.int .i64 0, .slice none 0 0] 24 → FromA v ⟨0, []⟩ c → FromQ v w (.tuple #[.agg #[.int .i64 0, .slice none 0 0], .int .i64 c]) w' := fun w' c h1 h2 h3 => ⟨h1, ⟨0, []⟩, none, 0, c, rfl, SlF.nil w', h3⟩
  have B1 := B.ext hx1
  have errc : ∀ (w' : World), Bk w' (w.heap.size + 1) [.int .i64 0, .slice none 0 0] 24 → (∃ x, w'.cell? ⟨w.heap.size + 1, 0, none⟩ = some x) ∧ w'.frozen? ⟨w.heap.size + 1, 0, none⟩ = false ∧ (∃ x, (w'.setCell ⟨w.heap.size + 1, 0, none⟩ (.int .i64 0)).cell? ⟨w.heap.size + 1, 1, none⟩ = some x) ∧ (w'.setCell ⟨w.heap.size + 1, 0, none⟩ (.int .i64 0)).frozen? ⟨w.heap.size + 1, 1, none⟩ = false ∧
      ((w'.setCell ⟨w.heap.size + 1, 0, none⟩ (.int .i64 0)).setCell ⟨w.heap.size + 1, 1, none⟩ (.slice none 0 0)).cell? ⟨w.heap.size + 1, 0, none⟩ = some (.int .i64 0) ∧ ((w'.setCell ⟨w.heap.size + 1, 0, none⟩ (.int .i64 0)).setCell ⟨w.heap.size + 1, 1, none⟩ (.slice none 0 0)).cell? ⟨w.heap.size + 1, 1, none⟩ = some (.slice none 0 0) := fun w' h => by
    obtain ⟨h1, h2, h3, h4, h5, _⟩ := fput' h (.int .i64 0) (.slice none 0 0)
    exact ⟨h1, h2, h3, h4, h5.get (o := 0) rfl, h5.get (o := 1) rfl⟩
  have errq : ∀ (w' : World) (c : Int), Ext w w' → Bk w' (w.heap.size + 1) [.int .i64 0, .slice none 0 0] 24 → FromA v ⟨0, []⟩ c → FromQ v w (.tuple #[.agg #[.int .i64 0, .slice none 0 0], .int .i64 c]) ((w'.setCell ⟨w.heap.size + 1, 0, none⟩ (.int .i64 0)).setCell ⟨w.heap.size + 1, 1, none⟩ (.slice none 0 0)) := fun w' c h1 h2 h3 => by
    obtain ⟨_, _, _, _, h5, h6⟩ := fput' h2 (.int .i64 0) (.slice none 0 0)
    exact err _ _ (h6 h1 (by omega)) h5 h3
  obtain ⟨⟨z0, y0⟩, y1, ⟨z2, y2⟩, y3, y4, y5⟩ := errc w1 B1
  cases b
  · simp -dsimp -implicitDefEqProofs only [k1,k2,bv_fm0,y0,y1,y2,y3,y4,y5,m50,sF50,ZA,↓reduceIte,ZB,ZC,ZJ,ZK,ZE,ZF,ZG,ZH,ZI,reduceCtorEq,ZD,mwV,↓mwD,mwU]
    exact errq w1 10 hxw B1 (.inl ⟨rfl, rfl, fun h => by have := hb.2 h.1; cases this⟩)
  have hval := hb.1 rfl
  by_cases p8 : v.k = 8
  rotate_left
  · have e8 := decide_eq_false p8
    simp -dsimp -implicitDefEqProofs only [k1,k2,a0,e8,bv_fm0,y0,y1,y2,y3,y4,y5,m50,sF50,ZA,↓reduceIte,ZB,ZC,ZJ,ZK,ZE,ZF,ZG,ZH,ZI,reduceCtorEq,ZD,mwV,↓mwD,mwU]
    exact errq w1 10 hxw B1 (.inl ⟨rfl, rfl, fun h => p8 h.2.1⟩)
  have e8 := decide_eq_true p8
  by_cases p1 : v.n < 1
  · have e1 := decide_eq_true p1
    simp -dsimp -implicitDefEqProofs only [k1,k2,a0,a1,e8,e1,bv_fm0,y0,y1,y2,y3,y4,y5,m50,sF50,ZA,↓reduceIte,ZB,ZC,ZJ,ZK,ZE,ZF,ZG,ZH,ZI,reduceCtorEq,ZD,mwV,↓mwD,mwU]
    exact errq w1 10 hxw B1 (.inl ⟨rfl, rfl, fun h => by have := h.2.2.1; omega⟩)
  have e1 := decide_eq_false p1
  by_cases p3 : 3 < v.n
  · have e3 := decide_eq_true p3
    simp -dsimp -implicitDefEqProofs only [k1,k2,a0,a1,e8,e1,e3,bv_fm0,y0,y1,y2,y3,y4,y5,m50,sF50,ZA,↓reduceIte,ZB,ZC,ZJ,ZK,ZE,ZF,ZG,ZH,ZI,reduceCtorEq,ZD,mwV,↓mwD,mwU]
    exact errq w1 10 hxw B1 (.inl ⟨rfl, rfl, fun h => by have := h.2.2.2.1; omega⟩)
  have e3 := decide_eq_false p3
  have hlen : v.keys.length = v.kids.length := keyed hval.1.form (.inl p8)
  have hbf : w.heap.size + 2 ≤ w1.heap.size := by have := hx1.size; omega
  have xA : Ext w1 (w1.alloc (.cells #[.int .i64 v.n, .slice none 0 0] 24)) := Ext.alloc _ _
  have C := Bk.new w1 [.int .i64 v.n, .slice none 0 0] 24
  obtain ⟨_, _, _, _, a4'⟩ := bk_vt A (hx1.trans xA)
  simp -dsimp -implicitDefEqProofs only [k1,k2,a0,a1,e8,e1,e3,bv_fmM,setCell_new,a4',m50,sF50,ZA,↓reduceIte,ZB,ZC,ZJ,ZK,ZE,ZF,ZG,ZH,ZI,reduceCtorEq,ZD,mwV,↓mwD,mwU]
  clear y0 y1 y2 y3 y4 y5 z0 z2
  replace C : Bk (w1.alloc (.cells #[.int .i64 v.n, .slice none 0 0] 24)) w1.heap.size [.int .i64 v.n, .slice none 0 0] 24 := C
  clear a4'
  generalize w1.alloc (.cells #[.int .i64 v.n, .slice none 0 0] 24) = wA at *
  generalize hbfe : w1.heap.size = bf at *
  refine mwpB_loop (fun e ds w' => ∃ (i : Nat) (acc : List (Fl × Value)) (vF : Value), i ≤ v.kids.length ∧ e 5 = .int .i64 i ∧ e 1 = .pointer (some ⟨w.heap.size, 0, none⟩) ∧ e 2 = .pointer (some ⟨w.heap.size + 1, 0, none⟩) ∧ e 4 = .pointer (some ⟨bf, 0, none⟩) ∧ ds = [] ∧
      Ext w w' ∧ Bk w' w.heap.size (vtCs v (.slice q1 v.keys.length c1) (.slice q2 v.kids.length c2)) 64 ∧ Bk w' (w.heap.size + 1) [.int .i64 0, .slice none 0 0] 24 ∧ Bk w' bf [.int .i64 v.n, vF] 24 ∧ OwnF w' w.heap.size vF acc ∧ acc.map (·.1) = (fldsOf v.keys v.kids).take i ∧ ∀ j, j < i → FieldIn v j)
    (fun e _ => v.kids.length - (intOf (e 5)).toNat) ?_ ?_
  · simp -dsimp -implicitDefEqProofs only [k1,k2,m50,sF50,ZA,↓reduceIte,ZB,ZC,ZJ,ZK,ZE,ZF,ZG,ZH,ZI,reduceCtorEq,ZD,mwV,↓mwD,mwU]
    exact ⟨0, [], _, by omega, rfl, hxw.trans xA, A.ext (hx1.trans xA), B1.ext xA, C, ⟨World.ownsRow_nil _ _ _ _, fun p hp => by cases hp⟩, rfl, fun j hj => by omega⟩
  clear k1 k2
  rintro e ds w' ⟨i, acc, vF, hi, h5, h1, h2, h4, rfl, hxw', kA, kB, kC, hown, hacc, hin⟩
  obtain ⟨qF, nF, cF, rfl⟩ := own_slice hown.1
  have hal : acc.length = i := by have := congrArg List.length hacc; simp [fldsOf, hlen] at this; omega
  have hfromOk : (∀ j, j < v.kids.length → FieldIn v j) → FromOk v := fun h => ⟨hval, p8, by omega, by omega, h⟩
  have a4w := (bk_vt kA (Ext.refl w')).vs
  simp -dsimp -implicitDefEqProofs only [h5,h1,h2,h4,a4w,m50,sF50,ZA,↓reduceIte,ZB,ZC,ZJ,ZK,ZE,ZF,ZG,ZH,ZI,reduceCtorEq,ZD,mwV,↓mwD,mwU]
  refine iteW_dec (fun hlt => ?_) (fun hge => ?_)
  · have hlt' : i < v.kids.length := by omega
    have hltk : i < v.keys.length := by omega
    obtain ⟨b, o, t1, m1, d1, t2, d2, rfl, g0, g1, g2, g3, g4, hkv, rfl⟩ := (hv.vs.ext hxw').get hlt'
    obtain ⟨bk, ok, capk, hvk, _, _, hcell⟩ := hv.ks.at (by intro h0; rw [h0] at hltk; simp at hltk)
    cases hvk
    have hck0 := hcell i hltk
    have hb1 : (0 : Int) ≤ i ∧ (i : Int) < v.kids.length := by omega
    have hb2 : (0 : Int) ≤ i ∧ (i : Int) < v.keys.length := by omega
    have hs1 := w64_succ hlt' (Nat.le_trans hc1 hc2)
    have hkk := kid_k hlt'
    have hgk := getD_get hltk
    have hallk := hval.1.kids _ (List.getElem_mem hlt')
    obtain ⟨W2, hW2, A2, x2⟩ := new_vt w' v.kids[i] (.slice t1 v.kids[i].keys.length d1) (.slice t2 v.kids[i].kids.length d2)
    have hszW2 : W2.heap.size = w'.heap.size + 1 := by rw [hW2]; exact World.size_alloc _ _
    obtain ⟨b0, b1, b2, b3, b4⟩ := bk_vt A2 (Ext.refl W2)
    obtain ⟨a0, a1, a2, a3, a4⟩ := bk_vt kA x2
    have hck := (hxw'.trans x2).cell hck0
    have kB2 := kB.ext x2
    obtain ⟨⟨z0, y0⟩, y1, ⟨z2, y2⟩, y3, y4, y5⟩ := errc W2 kB2
    have no : ∀ {p : Prop}, (p → ¬ FieldIn v i) → p → FromA v ⟨0, []⟩ 10 := fun h hp => .inl ⟨rfl, rfl, fun hf => h hp (hf.2.2.2.2 i hlt')⟩
    by_cases p4 : v.keys[i] < 1
    · have e4 := decide_eq_true p4
      simp -dsimp -implicitDefEqProofs only [h5,a4w,h1,h2,h4,hb1,hb2,and_self,Nat.mul_comm i 5,g0,g1,g2,g3,g4,← hW2,b0,a3,hck,e4,bv_fm0,y0,y1,y2,y3,y4,y5,m50,sF50,ZA,↓reduceIte,ZB,ZC,ZJ,ZK,ZE,ZF,ZG,ZH,ZI,reduceCtorEq,ZD,mwV,↓mwD,mwU]
      exact errq W2 10 (hxw'.trans x2) kB2 (no (fun h hf => by have := hf.1; omega) p4)
    have e4 := decide_eq_false p4
    by_cases p5 : 6 < v.keys[i]
    · have e5 := decide_eq_true p5
      simp -dsimp -implicitDefEqProofs only [h5,a4w,h1,h2,h4,hb1,hb2,and_self,Nat.mul_comm i 5,g0,g1,g2,g3,g4,← hW2,b0,a3,hck,e4,e5,bv_fm0,y0,y1,y2,y3,y4,y5,m50,sF50,ZA,↓reduceIte,ZB,ZC,ZJ,ZK,ZE,ZF,ZG,ZH,ZI,reduceCtorEq,ZD,mwV,↓mwD,mwU]
      exact errq W2 10 (hxw'.trans x2) kB2 (no (fun h hf => by have := hf.2.1; omega) p5)
    have e5 := decide_eq_false p5
    by_cases n9 : v.kids[i].k = 9
    rotate_left
    · have e9 := decide_eq_false n9
      simp -dsimp -implicitDefEqProofs only [h5,a4w,h1,h2,h4,hb1,hb2,and_self,Nat.mul_comm i 5,g0,g1,g2,g3,g4,← hW2,b0,a3,hck,e4,e5,e9,bv_fm0,y0,y1,y2,y3,y4,y5,m50,sF50,ZA,↓reduceIte,ZB,ZC,ZJ,ZK,ZE,ZF,ZG,ZH,ZI,reduceCtorEq,ZD,mwV,↓mwD,mwU]
      exact errq W2 10 (hxw'.trans x2) kB2 (no (fun h hf => h (by rw [← hkk]; exact hf.2.2)) n9)
    have e9 := decide_eq_true n9
    clear y0 y1 y2 y3 y4 y5 z0 z2
    have hfi : FieldIn v i := ⟨by omega, by omega, by rw [hkk, n9]⟩
    have hnum := choice_in hallk n9
    obtain ⟨d, L, hL, hone⟩ := nums_cons hnum
    obtain ⟨x, l, hkl⟩ : ∃ x l, v.kids[i].kids = x :: l := by
      cases hq : v.kids[i].kids with
      | nil => rw [hq] at hL; cases hL
      | cons x l => exact ⟨x, l, rfl⟩
    rw [hkl, List.map_cons, List.cons.injEq] at hL
    obtain ⟨hxd, hlL⟩ := hL
    have hLl : L.length = l.length := by rw [← hlL]; simp
    have hlen2 : v.kids[i].kids.length = l.length + 1 := by rw [hkl]; rfl
    have hch : chOf v.kids[i] = ⟨v.kids[i].n, d, if v.kids[i].n = 1 then [d] else L⟩ := by
      unfold chOf; rw [hkl, List.map_cons, hxd, hlL]; rfl
    have hkvs := hkv.vs
    obtain ⟨bb, oo, rfl, f0, f1⟩ := (show SlV w' (.slice t2 v.kids[i].kids.length d2) (x :: l) by rw [← hkl]; exact hkvs).first
    have hshp := hkvs.shape
    obtain ⟨_, _, hq0, hcd1, hcd2⟩ := hshp
    cases hq0
    rw [hxd] at f1
    replace f1 := x2.cell f1
    have hb3 : (0 : Int) ≤ 0 ∧ (0 : Int) < v.kids[i].kids.length := by omega
    have hml : v.kids[i].kids.length < 3000 := by
      have h1 := mass_kids v.kids[i]
      have h2 := mass_kid (List.getElem_mem hlt')
      omega
    simp -dsimp -implicitDefEqProofs only [h5,a4w,h1,h2,h4,hb1,hb2,and_self,Nat.mul_comm i 5,g0,g1,g2,g3,g4,← hW2,b0,a3,hck,e4,e5,e9,m50,sF50,ZA,↓reduceIte,ZB,ZC,ZJ,ZK,ZE,ZF,ZG,ZH,ZI,reduceCtorEq,ZD,mwV,↓mwD,mwU]
    clear hW2
    have C3 := Bk.new W2.drew [.int .i64 v.kids[i].n, .int .i64 d, .slice none 0 0] 35
    have x3 : Ext W2 (W2.drew.alloc (.cells #[.int .i64 v.kids[i].n, .int .i64 d, .slice none 0 0] 35)) := (Ext.drew W2).trans (Ext.alloc _ _)
    have ex0 : Ext W2.drew (W2.drew.alloc (.cells #[.int .i64 0, .int .i64 0, .slice none 0 0] 35)) := Ext.alloc _ _
    have A3 := A2.ext x3
    have b1x := A3.get (o := 1) rfl
    refine mwpB_drawE ?_
    simp -dsimp -implicitDefEqProofs only [b1,b4,hb3,and_self,f1,Nat.mul_zero,Nat.zero_mul,Nat.add_zero,Int.toNat_zero,bv_ch2,setCell_new,ex0,b1x,m50,sF50,ZA,↓reduceIte,ZB,ZC,ZJ,ZK,ZE,ZF,ZG,ZH,ZI,reduceCtorEq,ZD,mwV,↓mwD,mwU]
    clear b1x
    replace C3 : Bk (W2.drew.alloc (.cells #[.int .i64 v.kids[i].n, .int .i64 d, .slice none 0 0] 35)) W2.drew.heap.size [.int .i64 v.kids[i].n, .int .i64 d, .slice none 0 0] 35 := C3
    replace A3 : Bk (W2.drew.alloc (.cells #[.int .i64 v.kids[i].n, .int .i64 d, .slice none 0 0] 35)) w'.heap.size (vtCs v.kids[i] (.slice t1 v.kids[i].keys.length d1) (.slice (some ⟨bb, oo, none⟩) v.kids[i].kids.length d2)) 64 := A3
    generalize W2.drew.alloc (.cells #[.int .i64 v.kids[i].n, .int .i64 d, .slice none 0 0] 35) = W3 at *
    have hszd : W2.drew.heap.size = W2.heap.size := rfl
    generalize hbce : W2.drew.heap.size = bc at *
    have hxw3 := hxw'.trans (x2.trans x3)
    have hbc : w'.heap.size ≤ bc := by have := x2.size; omega
    have hkb : w'.heap.size ≠ bc := by omega
    have start : ∃ (U5 : World) (q5 : Option Addr) (n5 c5 : Nat), Ext w' U5 ∧ Bk U5 bc [.int .i64 v.kids[i].n, .int .i64 d, .slice q5 n5 c5] 35 ∧ U5.ownsRow w'.heap.size 3 1 (.slice q5 n5 c5) (if v.kids[i].n = 1 then [d] else []).length (ints (if v.kids[i].n = 1 then [d] else [])) ∧
        Bk U5 w'.heap.size (vtCs v.kids[i] (.slice t1 v.kids[i].keys.length d1) (.slice (some ⟨bb, oo, none⟩) v.kids[i].kids.length d2)) 64 ∧
        (v.kids[i].n = 1 → U5 = (W3.alloc (.cells #[.int .i64 d] 3)).setCell ⟨bc, 2, none⟩ (.slice (some ⟨W3.heap.size, 0, none⟩) 1 1)) ∧ (¬ v.kids[i].n = 1 → U5 = W3) := by
      by_cases m1 : v.kids[i].n = 1
      · have y3 : Ext W3 (W3.alloc (.cells #[.int .i64 d] 3)) := Ext.alloc _ _
        have R3 := one_int W3 w'.heap.size d (x2.trans x3).size
        have hC3 := C3.ext y3
        refine ⟨_, some ⟨W3.heap.size, 0, none⟩, 1, 1, Ext.setCell (p := ⟨bc, 2, none⟩) ((x2.trans x3).trans y3) hbc _, hC3.set 2 _, ?_, (A3.ext y3).ne (Ne.symm hkb) 2 _, fun _ => rfl, fun h => absurd m1 h⟩
        simp only [m1,if_true]
        exact set_row R3 hC3 (by decide)
      · refine ⟨W3, none, 0, 0, x2.trans x3, C3, ?_, A3, fun h => absurd h m1, fun _ => rfl⟩
        simp only [m1,if_false]
        exact World.ownsRow_nil _ _ _ _
    obtain ⟨U5, q5, n5, c5, hx5, hC5, R5, A5, hU1, hU2⟩ := start
    have hC3 := C3.ext (Ext.alloc W3 (.cells #[.int .i64 d] 3))
    have t32 := hC3.get (o := 2) rfl
    have f32 := hC3.frozen 2
    have hC31 := C3.get (o := 1) rfl
    have H5 := h5
    by_cases m1 : v.kids[i].n = 1
    have d1' := decide_eq_true m1
    simp -dsimp -implicitDefEqProofs only [d1',hC31,bs_int,t32,f32,← hU1 m1,m50,sF50,ZA,↓reduceIte,ZB,ZC,ZJ,ZK,ZE,ZF,ZG,ZH,ZI,reduceCtorEq,ZD,mwV,↓mwD,mwU]
    rotate_left
    have d1' := decide_eq_false m1
    simp -dsimp -implicitDefEqProofs only [d1',m50,sF50,ZA,↓reduceIte,ZB,ZC,ZJ,ZK,ZE,ZF,ZG,ZH,ZI,reduceCtorEq,ZD,mwV,↓mwD,mwU]
    rw [← hU2 m1]
    rotate_left
    all_goals
      refine mwpB_loop (fun e ds u => ∃ (j : Nat) (q5 : Option Addr) (n5 c5 : Nat), j ≤ l.length ∧ e 8 = .int .i64 ((j + 1 : Nat) : Int) ∧ e 7 = .pointer (some ⟨bc, 0, none⟩) ∧ e 6 = .pointer (some ⟨w'.heap.size, 0, none⟩) ∧ e 1 = .pointer (some ⟨w.heap.size, 0, none⟩) ∧ e 2 = .pointer (some ⟨w.heap.size + 1, 0, none⟩) ∧ e 4 = .pointer (some ⟨bf, 0, none⟩) ∧ e 5 = .int .i64 i ∧ ds = [] ∧
          Ext w' u ∧ Bk u bc [.int .i64 v.kids[i].n, .int .i64 d, .slice q5 n5 c5] 35 ∧ u.ownsRow w'.heap.size 3 1 (.slice q5 n5 c5) ((if v.kids[i].n = 1 then [d] else []) ++ L.take j).length (ints ((if v.kids[i].n = 1 then [d] else []) ++ L.take j)) ∧ Bk u w'.heap.size (vtCs v.kids[i] (.slice t1 v.kids[i].keys.length d1) (.slice (some ⟨bb, oo, none⟩) v.kids[i].kids.length d2)) 64)
        (fun e _ => v.kids[i].kids.length - (intOf (e 8)).toNat) ?_ ?_
      · simp -dsimp -implicitDefEqProofs only [h1,h2,h4,h5,m50,sF50,ZA,↓reduceIte,ZB,ZC,ZJ,ZK,ZE,ZF,ZG,ZH,ZI,reduceCtorEq,ZD,mwV,↓mwD,mwU]
        exact ⟨0, _, _, _, by omega, rfl, hx5, hC5, by simpa using R5, A5⟩
      clear h1 h2 h4 h5 hx5 hC5 R5 A5 hU1 hU2
      rintro e ds u ⟨j, qs, ns, cs, hj, h8, h7, h6, h1, h2, h4, h5, rfl, hu, hC, hrow, hK⟩
      have hK4 := (bk_vt hK (Ext.refl u)).vs
      simp -dsimp -implicitDefEqProofs only [h8,h7,h6,h1,h2,h4,h5,hK4,m50,sF50,ZA,↓reduceIte,ZB,ZC,ZJ,ZK,ZE,ZF,ZG,ZH,ZI,reduceCtorEq,ZD,mwV,↓mwD,mwU]
      refine iteW_dec (fun hlt2 => ?_) (fun hge2 => ?_)
      · have hlj : j < l.length := by omega
        have hlL' : j < L.length := by omega
        obtain ⟨bj, oj, hqj, jn0⟩ := hkvs.num (i := j + 1) (by omega)
        cases hqj
        rw [hkl, List.map_cons, List.getD_cons_succ, hlL, getD_get hlL'] at jn0
        have jn := hu.cell jn0
        have hb4 : (0 : Int) ≤ ((j + 1 : Nat) : Int) ∧ ((j + 1 : Nat) : Int) < v.kids[i].kids.length := by omega
        have hs4 : IntKind.i64.wrap (((j + 1 : Nat) : Int) + 1) = ((j + 1 + 1 : Nat) : Int) := by rw [w64 (by omega) (by omega)]; omega
        have cc2 := hC.get (o := 2) rfl
        have xdr := Ext.drew u
        have hpre : (if v.kids[i].n = 1 then [d] else ([] : List Int)).length ≤ 1 := by split <;> simp
        obtain ⟨v', u2, happ, hown2, hext2, hbk2⟩ := append_it (Own.ext hrow xdr) L[j] (by simp; omega) (hu.trans xdr).size
        have hC2 := hbk2 (hC.ext xdr) (by decide)
        have hK2 := hbk2 (hK.ext xdr) (by decide)
        have t2' := hC2.get (o := 2) rfl
        have t2f := hC2.frozen 2
        obtain ⟨q2', n2', c2', rfl⟩ := own_slice hown2
        have H8 := h8
        simp -dsimp -implicitDefEqProofs only [h8,h7,h6,m50,sF50,ZA,↓reduceIte,ZB,ZC,ZJ,ZK,ZE,ZF,ZG,ZH,ZI,reduceCtorEq,ZD,mwV,↓mwD,mwU]
        refine mwpB_draw (fun w'' => w''.cell? ⟨bc, 2, none⟩ = some (.slice qs ns cs) ∧ w''.cell? ⟨w'.heap.size, 4, none⟩ = some (.slice (some ⟨bb, oo, none⟩) v.kids[i].kids.length d2) ∧ w''.cell? ⟨bb, oo + 5 * (j + 1) + 1, none⟩ = some (.int .i64 L[j])) ⟨cc2, hK4, jn⟩ ?_
        simp -dsimp -implicitDefEqProofs only [h8,h7,h6,m50,sF50,ZA,↓reduceIte,ZB,ZC,ZJ,ZK,ZE,ZF,ZG,ZH,ZI,reduceCtorEq,ZD,mwV,↓mwD,mwU]
        refine softB_load (v := .slice qs ns cs) (fun w'' hw' => ?_) ?_
        · simp -dsimp -implicitDefEqProofs only [h7,hw'.1,m50,sF50,ZA,↓reduceIte,ZB,ZC,ZJ,ZK,ZE,ZF,ZG,ZH,ZI,reduceCtorEq,ZD,mwV,↓mwD,mwU]
        simp -dsimp -implicitDefEqProofs only [h8,h7,h6,m50,sF50,ZA,↓reduceIte,ZB,ZC,ZJ,ZK,ZE,ZF,ZG,ZH,ZI,reduceCtorEq,ZD,mwV,↓mwD,mwU]
        refine softB_load (v := .slice (some ⟨bb, oo, none⟩) v.kids[i].kids.length d2) (fun w'' hw' => ?_) ?_
        · simp -dsimp -implicitDefEqProofs only [h6,hw'.2.1,m50,sF50,ZA,↓reduceIte,ZB,ZC,ZJ,ZK,ZE,ZF,ZG,ZH,ZI,reduceCtorEq,ZD,mwV,↓mwD,mwU]
        simp -dsimp -implicitDefEqProofs only [h8,h7,h6,hb4,and_self,Nat.mul_comm (j + 1) 5,m50,sF50,ZA,↓reduceIte,ZB,ZC,ZJ,ZK,ZE,ZF,ZG,ZH,ZI,reduceCtorEq,ZD,mwV,↓mwD,mwU]
        refine softB_load (v := .int .i64 L[j]) (fun w'' hw' => ?_) ?_
        · simp -dsimp -implicitDefEqProofs only [hw'.2.2,m50,sF50,ZA,↓reduceIte,ZB,ZC,ZJ,ZK,ZE,ZF,ZG,ZH,ZI,reduceCtorEq,ZD,mwV,↓mwD,mwU]
        simp -dsimp -implicitDefEqProofs only [h8,h7,h6,bs_int,m50,sF50,ZA,↓reduceIte,ZB,ZC,ZJ,ZK,ZE,ZF,ZG,ZH,ZI,reduceCtorEq,ZD,mwV,↓mwD,mwU]
        have xq : Ext u (u.drew.alloc (.cells #[.int .i64 L[j]] 3)) := xdr.trans (Ext.alloc _ _)
        refine ⟨⟨xq.cell cc2, xq.cell hK4, xq.cell jn⟩, ?_⟩
        refine appB.mk happ ?_
        refine ⟨⟨t2', (bk_vt hK2 (Ext.refl _)).vs, (hext2 (hu.trans xdr) (Nat.le_refl _)).cell jn0⟩, ?_⟩
        simp -dsimp -implicitDefEqProofs only [h8,h7,h6,h1,h2,h4,h5,t2',t2f,hs4,m50,sF50,ZA,↓reduceIte,ZB,ZC,ZJ,ZK,ZE,ZF,ZG,ZH,ZI,reduceCtorEq,ZD,mwV,↓mwD,mwU]
        refine ⟨⟨j + 1, _, _, _, by omega, rfl, Ext.setCell (p := ⟨bc, 2, none⟩) (hext2 (hu.trans xdr) (Nat.le_refl _)) hbc _, hC2.set 2 _, ?_, hK2.ne (Ne.symm hkb) 2 _⟩, by simp only [intOf,H8]; omega⟩
        rw [List.take_succ_eq_append_getElem hlL', ← List.append_assoc]
        exact set_row hown2 hC2 (by decide)
      · have hjl : j = L.length := by omega
        rw [hjl, List.take_length] at hrow
        have hLc : (if v.kids[i].n = 1 then [d] else []) ++ L = (chOf v.kids[i]).L := by
          rw [hch]
          by_cases m : v.kids[i].n = 1
          · simp [m, hone m]
          · simp [m]
        rw [hLc] at hrow
        have hx5 := hu
        have hC5 := hC
        have R5 := hrow
        simp -dsimp -implicitDefEqProofs only [h8,h7,h6,h1,h2,h4,h5,m50,sF50,ZA,↓reduceIte,ZB,ZC,ZJ,ZK,ZE,ZF,ZG,ZH,ZI,reduceCtorEq,ZD,mwV,↓mwD,mwU]
        generalize hU5 : u = U5 at *
        generalize hq5 : qs = q5 at *
        generalize hn5 : ns = n5 at *
        generalize hc5 : cs = c5 at *
        have hmk3 := mass_kids v
        have hxd5 := hx5.trans (Ext.drew U5)
        have K4 := kC.ext hxd5
        have HO := hown.ext hxd5
        have R5d := Own.mono (Own.ext R5 (Ext.drew U5)) hxw'.size
        have C5d := hC5.ext (Ext.drew U5)
        obtain ⟨v2, u2, happ, hown2, hg2⟩ := append_fl HO.1 (Fl.mk v.keys[i] ⟨v.kids[i].n, d, (chOf v.kids[i]).L⟩) (.slice q5 n5 c5) rfl (by omega) (hxw'.trans hxd5).size
        obtain ⟨p1, p2, p3, p4, p5, p6⟩ := OwnF.push (hxw'.trans hxd5) K4 HO (Ext.refl _) (by omega) R5d hown2 hg2
        have r1 := p2.get (o := 1) rfl
        have fz := p2.frozen 1
        obtain ⟨qv, nv, cv, rfl⟩ := own_slice hown2
        have s1 := (kC.ext hx5).get (o := 1) rfl
        have s2 := (bk_vt kA hx5).ks
        have s3 := (hxw'.trans hx5).cell hck0
        have s4 := hC5.get (o := 0) rfl
        have s5 := hC5.get (o := 1) rfl
        have s6 := hC5.get (o := 2) rfl
        refine mwpB_draw (fun w'' => w''.cell? ⟨bf, 1, none⟩ = some (.slice qF nF cF) ∧ w''.cell? ⟨w.heap.size, 3, none⟩ = some (.slice (some ⟨bk, ok, none⟩) v.keys.length c1) ∧ w''.cell? ⟨bk, ok + i, none⟩ = some (.int .i64 v.keys[i]) ∧ w''.cell? ⟨bc, 0, none⟩ = some (.int .i64 v.kids[i].n) ∧ w''.cell? ⟨bc, 1, none⟩ = some (.int .i64 d) ∧ w''.cell? ⟨bc, 2, none⟩ = some (.slice q5 n5 c5)) ⟨s1, s2, s3, s4, s5, s6⟩ ?_
        simp -dsimp -implicitDefEqProofs only [h7,h1,h4,h5,m50,sF50,ZA,↓reduceIte,ZB,ZC,ZJ,ZK,ZE,ZF,ZG,ZH,ZI,reduceCtorEq,ZD,mwV,↓mwD,mwU]
        refine softB_load (v := .slice qF nF cF) (fun w'' hw' => ?_) ?_
        · simp -dsimp -implicitDefEqProofs only [h4,hw'.1,m50,sF50,ZA,↓reduceIte,ZB,ZC,ZJ,ZK,ZE,ZF,ZG,ZH,ZI,reduceCtorEq,ZD,mwV,↓mwD,mwU]
        simp -dsimp -implicitDefEqProofs only [h7,h1,h4,h5,m50,sF50,ZA,↓reduceIte,ZB,ZC,ZJ,ZK,ZE,ZF,ZG,ZH,ZI,reduceCtorEq,ZD,mwV,↓mwD,mwU]
        refine softB_load (v := .slice (some ⟨bk, ok, none⟩) v.keys.length c1) (fun w'' hw' => ?_) ?_
        · simp -dsimp -implicitDefEqProofs only [h1,hw'.2.1,m50,sF50,ZA,↓reduceIte,ZB,ZC,ZJ,ZK,ZE,ZF,ZG,ZH,ZI,reduceCtorEq,ZD,mwV,↓mwD,mwU]
        simp -dsimp -implicitDefEqProofs only [h7,h1,h4,h5,hb2,and_self,m50,sF50,ZA,↓reduceIte,ZB,ZC,ZJ,ZK,ZE,ZF,ZG,ZH,ZI,reduceCtorEq,ZD,mwV,↓mwD,mwU]
        refine softB_load (v := .int .i64 v.keys[i]) (fun w'' hw' => ?_) ?_
        · simp -dsimp -implicitDefEqProofs only [hw'.2.2.1,m50,sF50,ZA,↓reduceIte,ZB,ZC,ZJ,ZK,ZE,ZF,ZG,ZH,ZI,reduceCtorEq,ZD,mwV,↓mwD,mwU]
        simp -dsimp -implicitDefEqProofs only [h7,h1,h4,h5,m50,sF50,ZA,↓reduceIte,ZB,ZC,ZJ,ZK,ZE,ZF,ZG,ZH,ZI,reduceCtorEq,ZD,mwV,↓mwD,mwU]
        refine softB_load (v := .agg #[.int .i64 v.kids[i].n, .int .i64 d, .slice q5 n5 c5]) (fun w'' hw' => ?_) ?_
        · simp -dsimp -implicitDefEqProofs only [h7,hw'.2.2.2.1,hw'.2.2.2.2.1,hw'.2.2.2.2.2,m50,sF50,ZA,↓reduceIte,ZB,ZC,ZJ,ZK,ZE,ZF,ZG,ZH,ZI,reduceCtorEq,ZD,mwV,↓mwD,mwU]
        have bsf := bs_fl (Fl.mk v.keys[i] ⟨v.kids[i].n, d, (chOf v.kids[i]).L⟩) (.slice q5 n5 c5)
        simp only at bsf
        simp -dsimp -implicitDefEqProofs only [h7,h1,h4,h5,bv_fl4,bsf,m50,sF50,ZA,↓reduceIte,ZB,ZC,ZJ,ZK,ZE,ZF,ZG,ZH,ZI,reduceCtorEq,ZD,mwV,↓mwD,mwU]
        have xq : Ext U5 (U5.drew.alloc (.cells #[.int .i64 v.keys[i], .int .i64 v.kids[i].n, .int .i64 d, .slice q5 n5 c5] 72)) := (Ext.drew U5).trans (Ext.alloc _ _)
        refine ⟨⟨xq.cell s1, xq.cell s2, xq.cell s3, xq.cell s4, xq.cell s5, xq.cell s6⟩, ?_⟩
        refine appB.mk happ ?_
        have oddF : ∀ {j : Nat} {cs : List Value}, Bk U5.drew j cs 24 → Odd U5.drew j := fun h => h.odd (by decide) (by decide)
        have oddV : ∀ {j : Nat} {cs : List Value}, Bk U5.drew j cs 64 → Odd U5.drew j := fun h => h.odd (by decide) (by decide)
        have oddC : ∀ {j : Nat} {cs : List Value}, Bk U5.drew j cs 35 → Odd U5.drew j := fun h => h.odd (by decide) (by decide)
        have kAd := kA.ext hxd5
        have kBd := kB.ext hxd5
        have kA2 := p6 _ kAd.lt (by omega) (oddV kAd)
        have kC2 := p6 _ C5d.lt (by have := kC.lt; omega) (oddC C5d)
        have kA3 : Bk u2 w.heap.size (vtCs v (.slice (some ⟨bk, ok, none⟩) v.keys.length c1) (.slice (some ⟨b, o, none⟩) v.kids.length c2)) 64 := by
          unfold Bk
          rw [Below.heap_setCell _ _ _ _ (by show w.heap.size ≠ bf; omega)] at kA2
          exact kA2.trans kAd
        have kC3 : Bk u2 bc [.int .i64 v.kids[i].n, .int .i64 d, .slice q5 n5 c5] 35 := by
          unfold Bk
          rw [Below.heap_setCell _ _ _ _ (by have := kC.lt; show bc ≠ bf; omega)] at kC2
          exact kC2.trans C5d
        refine ⟨⟨r1, (bk_vt kA3 (Ext.refl _)).ks, p1.cell hck0, kC3.get (o := 0) rfl, kC3.get (o := 1) rfl, kC3.get (o := 2) rfl⟩, ?_⟩
        simp -dsimp -implicitDefEqProofs only [h7,h1,h2,h4,h5,r1,fz,hs1,m50,sF50,ZA,↓reduceIte,ZB,ZC,ZJ,ZK,ZE,ZF,ZG,ZH,ZI,reduceCtorEq,ZD,mwV,↓mwD,mwU]
        refine ⟨⟨i + 1, _, _, by omega, rfl, p5, ?_, ?_, p3, p4, ?_, Nat.forall_lt_succ_right.2 ⟨hin, hfi⟩⟩, by simp only [intOf,H5]; omega⟩
        · unfold Bk
          rw [Below.heap_setCell _ _ _ _ (by show w.heap.size ≠ bf; omega)]
          exact kA3
        · unfold Bk
          rw [p6 _ kBd.lt (by omega) (oddF kBd)]; exact kBd
        · rw [List.map_append, hacc, fldsOf_take hlen hlt', hch]; rfl
  · have hkl : i = v.kids.length := by omega
    have hfull : (fldsOf v.keys v.kids).take i = fldsOf v.keys v.kids := by rw [hkl]; exact List.take_of_length_le (by rw [fldsOf_len hlen]; omega)
    rw [hfull] at hacc
    have hok := hfromOk (by rw [← hkl]; exact hin)
    have c0 := kC.get (o := 0) rfl
    have c1' := kC.get (o := 1) rfl
    simp -dsimp -implicitDefEqProofs only [h5,a4w,h1,h2,h4,c0,c1',m50,sF50,ZA,↓reduceIte,ZB,ZC,ZJ,ZK,ZE,ZF,ZG,ZH,ZI,reduceCtorEq,ZD,mwV,↓mwD,mwU]
    have hSl := hown.slF
    rw [hacc] at hSl
    refine (refFValid_c (fmOf v) _ w' hSl).use ?_
    rintro r w2 ⟨rfl, hx2⟩
    have kB2 := kB.ext hx2
    have kC2 := kC.ext hx2
    cases hvf : (fmOf v).valid
    · obtain ⟨⟨z0, y0⟩, y1, ⟨z2, y2⟩, y3, y4, y5⟩ := errc w2 kB2
      simp -dsimp -implicitDefEqProofs only [h2,bv_fm0,y0,y1,y2,y3,y4,y5,m50,sF50,ZA,↓reduceIte,ZB,ZC,ZJ,ZK,ZE,ZF,ZG,ZH,ZI,reduceCtorEq,ZD,mwV,↓mwD,mwU]
      exact errq w2 1 (hxw'.trans hx2) kB2 (.inr (.inl ⟨rfl, rfl, hok, hvf⟩))
    · obtain ⟨⟨z0, y0⟩, y1, ⟨z2, y2⟩, y3, y4, y6⟩ := fput' kB2 (.int .i64 v.n) (.slice qF nF cF)
      have c0 := kC2.get (o := 0) rfl
      have c1' := kC2.get (o := 1) rfl
      have g0 := y4.get (o := 0) rfl
      have g1 := y4.get (o := 1) rfl
      simp -dsimp -implicitDefEqProofs only [h2,h4,c0,c1',y0,y1,y2,y3,g0,g1,m50,sF50,ZA,↓reduceIte,ZB,ZC,ZJ,ZK,ZE,ZF,ZG,ZH,ZI,reduceCtorEq,ZD,mwV,↓mwD,mwU]
      have hch : ChP (fun k => k = w.heap.size + 1) w2 ((w2.setCell ⟨w.heap.size + 1, 0, none⟩ (.int .i64 v.n)).setCell ⟨w.heap.size + 1, 1, none⟩ (.slice qF nF cF)) := ChP.setCell (G := fun k => k = w.heap.size + 1) (ChP.setCell (G := fun k => k = w.heap.size + 1) (ChP.refl _ w2) (fun _ => rfl) _) (fun _ => rfl) _
      have ho2 := ((hown.ext hx2).ch hch (fun b hb => by subst hb; exact kB2.odd (by decide) (by decide))).slF
      rw [hacc] at ho2
      obtain ⟨_, _, hq0, _, _⟩ := ho2.shape
      cases hq0
      exact ⟨y6 (hxw'.trans hx2) (by omega), fmOf v, _, _, 0, rfl, ho2, .inr (.inr ⟨rfl, rfl, hok, hvf⟩)⟩
end Go.Proofs.YthcdnjbhhaonhaaGreatDoor
/- Layer 02: a format's value while it is made. -/
namespace Go.Proofs.YthcdnjbhhaonhaaGreatDoor
open Go.RowKit
open Nat renaming reduceEqDiff → ZA, reduceAdd → ZB, reduceMul → ZC, reduceSub → ZD
open Int renaming reduceToNat → ZE, reduceEq → ZF, reduceLT → ZG, reduceLE → ZH, reduceNeg → ZI
open Go.Value renaming oneCell' → ZK, cells → ZJ
open Go.Proofs.Tryz renaming prog → ZP
set_option linter.unusedSimpArgs false
def nilS : Value := .slice none 0 0
def zeroVt : Vt := .mk 0 0 ⟨#[]⟩ [] []
def numAcc (L : List Int) : List (Vt × Value × Value) := L.map fun n => (numV n, nilS, nilS)
def numsC (c : Ch) : List Int := c.d :: (if c.k = 1 then [] else c.L)
theorem chVt_kids (c : Ch) : (chVt c).kids = (numsC c).map numV := by
  unfold chVt numsC
  by_cases h : c.k = 1 <;> simp [h, Vt.kids]
theorem numAcc_len (L : List Int) : (numAcc L).length = L.length := by simp [numAcc]
theorem numAcc_app (a b : List Int) : numAcc (a ++ b) = numAcc a ++ numAcc b := List.map_append
theorem numAcc_map (L : List Int) : (numAcc L).map (·.1) = L.map numV := by simp [numAcc]
theorem vat_num {w : World} {n : Int} (h : 0 ≤ n ∧ n ≤ 1000000000) : VAt w (numV n) nilS nilS := by
  refine vat_iff.2 ⟨⟨?_, ?_, ?_, ?_⟩, SlI.nil w, SlV.nil w⟩
  · show (0 : Nat) ≤ _; omega
  · show (0 : Nat) ≤ _; omega
  · show -9223372036854775808 ≤ n; omega
  · show n ≤ 9223372036854775807; omega
theorem valid_k {c : Ch} (h : c.valid = true) : 1 ≤ c.k ∧ c.k ≤ 4 := by
  unfold Ch.valid at h
  simp only [Bool.and_eq_true] at h
  have hf := h.1.2
  unfold Ch.form at hf
  split at hf
  · omega
  · split at hf
    · omega
    · split at hf
      · omega
      · split at hf
        · omega
        · cases hf
theorem numsC_bd {c : Ch} (h : c.valid = true) : ∀ n ∈ numsC c, 0 ≤ n ∧ n ≤ 1000000000 := by
  obtain ⟨h1, h2⟩ := valid_nums h
  intro n hn
  unfold numsC at hn
  rcases List.mem_cons.1 hn with rfl | hn
  · exact h1
  · split at hn
    · cases hn
    · exact h2 n hn
theorem vat_choice {w : World} {base : Nat} {c : Ch} {s : Value} (hc : c.valid = true) (h : w.ownsRow base 64 5 s (numAcc (numsC c)).length (rowsV (numAcc (numsC c)))) : VAt w (chVt c) nilS s := by
  have hk := valid_k hc
  have hb := numsC_bd hc
  have hs : SlV w s (chVt c).kids := by
    rw [chVt_kids, ← numAcc_map]
    refine Own.slV h fun p hp => ?_
    unfold numAcc at hp
    obtain ⟨n, hn, rfl⟩ := List.mem_map.1 hp
    exact vat_num (hb n hn)
  refine vat_iff.2 ⟨⟨?_, ?_, ?_, ?_⟩, SlI.nil w, hs⟩
  · show (0 : Nat) ≤ _; omega
  · show (0 : Nat) ≤ _; omega
  · show -9223372036854775808 ≤ c.k; omega
  · show c.k ≤ 9223372036854775807; omega
theorem own_lt {w : World} {base : Nat} {e : TypeId} {size n : Nat} {v : Value} {cs : List Value} (h : w.ownsRow base e size v n cs) {k : Nat} (hk : v.ownBlock = some k) : base ≤ k ∧ k < w.heap.size := World.ownsRow.lt h k hk
theorem own_bk {w w' : World} {base : Nat} {size n : Nat} {v : Value} {cs : List Value} (h : w.ownsRow base 64 size v n cs) (hb : ∀ {b : Nat} {cs : List Value} {t : TypeId}, Bk w b cs t → t ≠ 3 → Bk w' b cs t) : w'.ownsRow base 64 size v n cs := by
  refine ⟨h.1, ?_⟩
  rcases h.2 with h2 | ⟨g, cap, cur, hv, hg, hh, r⟩
  · exact .inl h2
  · have : Bk w g cur.toList 64 := by unfold Bk; rw [hh]
    have := hb this (by decide)
    unfold Bk at this
    exact .inr ⟨g, cap, cur, hv, hg, by rw [this], r⟩
structure ValS (w u : World) (B bv br : Nat) (m : Int) (kc vc ks vs : Value) (K : List Int) (acc : List (Vt × Value × Value)) : Prop where
  ext : Ext w u
  bk : Bk u bv [.int .i64 8, .int .i64 m, .string ⟨#[]⟩, kc, vc] 64
  rk : Bk u br [.int .i64 0, .int .i64 0, .string ⟨#[]⟩, .slice none 0 0, .slice none 0 0] 64
  keys : u.ownsRow B 3 1 ks K.length (ints K)
  top : u.ownsRow B 64 5 vs acc.length (rowsV acc)
  kids : ∀ p ∈ acc, p.2.1 = nilS ∧ (∃ c : Ch, p.1 = chVt c ∧ c.valid = true ∧ u.ownsRow B 64 5 p.2.2 (numAcc (numsC c)).length (rowsV (numAcc (numsC c)))) ∧ ∀ k, p.2.2.ownBlock = some k → vs.ownBlock ≠ some k
section
variable {w u u' : World} {B bv br : Nat} {m : Int} {kc vc ks vs : Value} {K : List Int} {acc : List (Vt × Value × Value)}
theorem ValS.next (h : ValS w u B bv br m kc vc ks vs K acc) (c : Ext u u') : ValS w u' B bv br m kc vc ks vs K acc :=
  ⟨h.ext.trans c, h.bk.ext c, h.rk.ext c, Own.ext h.keys c, Own.ext h.top c, fun p hp => by
    obtain ⟨h1, ⟨d, h2, h3, h4⟩, h5⟩ := h.kids p hp
    exact ⟨h1, ⟨d, h2, h3, Own.ext h4 c⟩, h5⟩⟩
theorem ValS.key {ks' : Value} {x : Int} (h : ValS w u B bv br m kc vc ks vs K acc) (hw : w.heap.size ≤ B) (hown : u'.ownsRow B 3 1 ks' (K ++ [x]).length (ints (K ++ [x]))) (hext : ∀ {w0 : World}, Ext w0 u → w0.heap.size ≤ B → Ext w0 u') (hbk : ∀ {b : Nat} {cs : List Value} {t : TypeId}, Bk u b cs t → t ≠ 3 → Bk u' b cs t) :
    ValS w u' B bv br m kc vc ks' vs (K ++ [x]) acc :=
  ⟨hext h.ext hw, hbk h.bk (by decide), hbk h.rk (by decide), hown, own_bk h.top hbk, fun p hp => by
    obtain ⟨h1, ⟨d, h2, h3, h4⟩, h5⟩ := h.kids p hp
    exact ⟨h1, ⟨d, h2, h3, own_bk h4 hbk⟩, h5⟩⟩
theorem ValS.kid {vs' s : Value} {c : Ch} (h : ValS w u B bv br m kc vc ks vs K acc) (hw : w.heap.size ≤ B) (hbv : bv < B) (hbr : br < B) (hc : c.valid = true) (hs : u.ownsRow B 64 5 s (numAcc (numsC c)).length (rowsV (numAcc (numsC c)))) (hne : ∀ k, s.ownBlock = some k → vs.ownBlock ≠ some k)
    (hown : u'.ownsRow B 64 5 vs' (acc ++ [(chVt c, nilS, s)]).length (rowsV (acc ++ [(chVt c, nilS, s)]))) (hkeep : ∀ k, k < u.heap.size → vs.ownBlock ≠ some k → u'.heap[k]? = u.heap[k]?) (hext : ∀ {w0 : World}, Ext w0 u → w0.heap.size ≤ B → Ext w0 u')
    (hnew : ∀ k, vs'.ownBlock = some k → vs.ownBlock = some k ∨ u.heap.size ≤ k) : ValS w u' B bv br m kc vc ks vs' K (acc ++ [(chVt c, nilS, s)]) := by
  have topne : ∀ b, b < B → vs.ownBlock ≠ some b := fun b hb e => by have := (own_lt h.top e).1; omega
  have row : ∀ {t : Value} {c : Ch}, u.ownsRow B 64 5 t (numAcc (numsC c)).length (rowsV (numAcc (numsC c))) → (∀ k, t.ownBlock = some k → vs.ownBlock ≠ some k) → u'.ownsRow B 64 5 t (numAcc (numsC c)).length (rowsV (numAcc (numsC c))) ∧ ∀ k, t.ownBlock = some k → vs'.ownBlock ≠ some k := fun {t c} ht hn =>
    ⟨Own.keep ht fun k hk => hkeep k (own_lt ht hk).2 (hn k hk), fun k hk e => by
      rcases hnew k e with e | e
      · exact hn k hk e
      · have := (own_lt ht hk).2; omega⟩
  refine ⟨hext h.ext hw, ?_, ?_, ?_, hown, fun p hp => ?_⟩
  · have := hkeep bv h.bk.lt (topne bv hbv)
    unfold Bk; rw [this]; exact h.bk
  · have := hkeep br h.rk.lt (topne br hbr)
    unfold Bk; rw [this]; exact h.rk
  · refine Own.ch h.keys fun k cur hk => hkeep k (Array.getElem?_eq_some_iff.1 hk).1 fun e => ?_
    rcases h.top.2 with ⟨hv, _⟩ | ⟨g, cap, cur', hv, _, hh, _⟩
    · rw [hv] at e; cases e
    · rw [hv] at e
      simp only [Value.ownBlock,Option.some.injEq] at e
      subst e
      rw [hh] at hk
      simp at hk
  · rcases List.mem_append.1 hp with hp | hp
    · obtain ⟨h1, ⟨d, h2, h3, h4⟩, h5⟩ := h.kids p hp
      obtain ⟨g1, g2⟩ := row h4 h5
      exact ⟨h1, ⟨d, h2, h3, g1⟩, g2⟩
    · rw [List.mem_singleton] at hp
      subst hp
      obtain ⟨g1, g2⟩ := row hs hne
      exact ⟨rfl, ⟨c, rfl, hc, g1⟩, g2⟩
theorem ValS.off {b o : Nat} {x : Value} (h : ValS w u B bv br m kc vc ks vs K acc) (hw : w.heap.size ≤ b) (hb : b < B) (hbv : b ≠ bv) (hbr : b ≠ br) : ValS w (u.setCell ⟨b, o, none⟩ x) B bv br m kc vc ks vs K acc :=
  have ne : ∀ {e : TypeId} {size n : Nat} {v : Value} {cs : List Value}, u.ownsRow B e size v n cs → v.ownBlock ≠ some b := fun h e => by have := (own_lt h e).1; omega
  ⟨Ext.setCell (p := ⟨b, o, none⟩) h.ext hw _, h.bk.ne hbv o x, h.rk.ne hbr o x, Own.off h.keys (ne h.keys), Own.off h.top (ne h.top), fun p hp => by
    obtain ⟨h1, ⟨d, h2, h3, h4⟩, h5⟩ := h.kids p hp
    exact ⟨h1, ⟨d, h2, h3, Own.off h4 (ne h4)⟩, h5⟩⟩
theorem ValS.set (h : ValS w u B bv br m kc vc ks vs K acc) (hw : w.heap.size ≤ bv) (hb : bv < B) (hbr : bv ≠ br) (o : Nat) (x : Value) {kc' vc' : Value} (he : ([.int .i64 8, .int .i64 m, .string ⟨#[]⟩, kc, vc] : List Value).set o x = [.int .i64 8, .int .i64 m, .string ⟨#[]⟩, kc', vc']) : ValS w (u.setCell ⟨bv, o, none⟩ x) B bv br m kc' vc' ks vs K acc :=
  have ne : ∀ {e : TypeId} {size n : Nat} {v : Value} {cs : List Value}, u.ownsRow B e size v n cs → v.ownBlock ≠ some bv := fun h e => by have := (own_lt h e).1; omega
  ⟨Ext.setCell (p := ⟨bv, o, none⟩) h.ext hw _, by have := h.bk.set o x; rw [he] at this; exact this, h.rk.ne hbr o x, Own.off h.keys (ne h.keys), Own.off h.top (ne h.top), fun p hp => by
    obtain ⟨h1, ⟨d, h2, h3, h4⟩, h5⟩ := h.kids p hp
    exact ⟨h1, ⟨d, h2, h3, Own.off h4 (ne h4)⟩, h5⟩⟩
theorem ValS.vatp (h : ValS w u B bv br m kc vc ks vs K acc) (hbr : br < B) (hk : ∀ k, k ≠ br → u'.heap[k]? = u.heap[k]?) (hm : 1 ≤ m ∧ m ≤ 3) (hK : K.length ≤ 1000000) : VAt u' (.mk 8 m ⟨#[]⟩ K (acc.map (·.1))) ks vs := by
  have keep : ∀ {e : TypeId} {size n : Nat} {v : Value} {cs : List Value}, u.ownsRow B e size v n cs → u'.ownsRow B e size v n cs := fun h => Own.keep h fun k hk' => hk k (by have := (own_lt h hk').1; omega)
  refine vat_iff.2 ⟨⟨?_, ?_, ?_, ?_⟩, Own.sl (keep h.keys), Own.slV (keep h.top) fun p hp => ?_⟩
  · show (0 : Nat) ≤ _; omega
  · show K.length ≤ _; omega
  · show -9223372036854775808 ≤ m; omega
  · show m ≤ 9223372036854775807; omega
  · obtain ⟨h1, ⟨d, h2, h3, h4⟩, h5⟩ := h.kids p hp
    rw [h1, h2]
    exact vat_choice h3 (keep h4)
end
def ValQ (f : Fm) (w : World) (r : Value) (w' : World) : Prop := Ext w w' ∧ ∃ (t : Vt) (p1 p2 : Option Addr) (c1 c2 : Nat) (c : Int), r = .tuple #[vtV t (.slice p1 t.keys.length c1) (.slice p2 t.kids.length c2), .int .i64 c] ∧ VAt w' t (.slice p1 t.keys.length c1) (.slice p2 t.kids.length c2) ∧ ((c = 1 ∧ t = zeroVt ∧ f.valid = false) ∨ (c = 0 ∧ t = fmVt f ∧ f.valid = true))
theorem vat_zero (w : World) : VAt w zeroVt nilS nilS := by
  refine vat_iff.2 ⟨⟨?_, ?_, ?_, ?_⟩, SlI.nil w, SlV.nil w⟩
  · show (0 : Nat) ≤ _; omega
  · show (0 : Nat) ≤ _; omega
  · show -9223372036854775808 ≤ (0 : Int); omega
  · show (0 : Int) ≤ 9223372036854775807; omega
end Go.Proofs.YthcdnjbhhaonhaaGreatDoor
/- Layer 02: a format as a value, by the program. -/
namespace Go.Proofs.YthcdnjbhhaonhaaGreatDoor
open Go.RowKit
open Nat renaming reduceEqDiff → ZA, reduceAdd → ZB, reduceMul → ZC, reduceSub → ZD
open Int renaming reduceToNat → ZE, reduceEq → ZF, reduceLT → ZG, reduceLE → ZH, reduceNeg → ZI
open Go.Value renaming oneCell' → ZK, cells → ZJ
open Go.Proofs.Tryz renaming prog → ZP
set_option linter.unusedSimpArgs false
theorem box_fv (w : World) (m s : Value) : ∃ W, W = (w.alloc (.cells #[m, s] 24)).alloc (.cells #[.int .i64 0, .int .i64 0, .string ⟨#[]⟩, .slice none 0 0, .slice none 0 0] 64) ∧ Bk W w.heap.size [m, s] 24 ∧ Bk W (w.heap.size + 1) [.int .i64 0, .int .i64 0, .string ⟨#[]⟩, .slice none 0 0, .slice none 0 0] 64 ∧ Ext w W := by
  refine ⟨_, rfl, (Bk.new w [m, s] _).ext (Ext.alloc _ _), ?_, (Ext.alloc _ _).trans (Ext.alloc _ _)⟩
  have := Bk.new (w.alloc (.cells #[m, s] 24)) [.int .i64 0, .int .i64 0, .string ⟨#[]⟩, .slice none 0 0, .slice none 0 0] 64
  rw [World.size_alloc] at this
  exact this
set_option maxHeartbeats 8000000 in
theorem FValue_c (f : Fm) (s : Value) (w : World) (hs : SlF w s f.F) (hlt0 : f.F.length ≤ 12) (hl60 : ∀ x ∈ f.F, x.c.L.length ≤ 60) : Rets ZP 47 #[fmV f s] w (ValQ f w) := by
  obtain ⟨p, cap, rfl, hc1, hc2⟩ := hs.shape
  obtain ⟨W, hW, A, B, hx⟩ := box_fv w (.int .i64 f.m) (.slice p f.F.length cap)
  have hsz : W.heap.size = w.heap.size + 2 := by rw [hW]; simp only [World.size_alloc]
  refine en47 ?_
  refine mwpB_cut 1 (fun e ds w' => e 1 = .pointer (some ⟨w.heap.size, 0, none⟩) ∧ e 2 = .pointer (some ⟨w.heap.size + 1, 0, none⟩) ∧ ds = [] ∧ w' = W) ?_ ?_
  · simp -dsimp -implicitDefEqProofs only [fmV,headM_zero,headM_seq,World.size_alloc,hW,m47,sF47,ZA,↓reduceIte,ZB,ZC,ZJ,ZK,ZE,ZF,ZG,ZH,ZI,reduceCtorEq,ZD,mwV,↓mwD,mwU]
  clear hW
  rintro e ds w0 ⟨k1, k2, rfl, rfl⟩
  have A0 := A.get (o := 0) rfl
  have A1 := A.get (o := 1) rfl
  simp -dsimp -implicitDefEqProofs only [tailM_zero,tailM_seq,k1,A0,A1,m47,sF47,ZA,↓reduceIte,ZB,ZC,ZJ,ZK,ZE,ZF,ZG,ZH,ZI,reduceCtorEq,ZD,mwV,↓mwD,mwU]
  refine (Valid_c f _ w0 (hs.ext hx)).use ?_
  rintro r w1 ⟨rfl, hx1⟩
  have hxw := hx.trans hx1
  cases hv : f.valid
  · obtain ⟨⟨u0, y0⟩, y1, ⟨u2, y2⟩, y3, ⟨u4, y4⟩, y5, ⟨u6, y6⟩, y7, ⟨u8, y8⟩, y9, y10, y11, _⟩ := put5 (B.ext hx1) (.int .i64 0) (.int .i64 0) (.string ⟨#[]⟩) (.slice none 0 0) (.slice none 0 0)
    have g0 := y10.get (o := 0) rfl
    have g1 := y10.get (o := 1) rfl
    have g2 := y10.get (o := 2) rfl
    have g3 := y10.get (o := 3) rfl
    have g4 := y10.get (o := 4) rfl
    simp -dsimp -implicitDefEqProofs only [k1,k2,bv_v0,y0,y1,y2,y3,y4,y5,y6,y7,y8,y9,g0,g1,g2,g3,g4,m47,sF47,ZA,↓reduceIte,ZB,ZC,ZJ,ZK,ZE,ZF,ZG,ZH,ZI,reduceCtorEq,ZD,mwV,↓mwD,mwU]
    exact ⟨y11 hxw (by omega), zeroVt, none, none, 0, 0, 1, rfl, vat_zero _, .inl ⟨rfl, rfl, hv⟩⟩
  have hv' := hv
  unfold Fm.valid at hv'
  simp only [Bool.and_eq_true,decide_eq_true_eq] at hv'
  obtain ⟨hF, hm1, hm2⟩ := hv'
  have A0 := (A.ext hx1).get (o := 0) rfl
  have xA : Ext w1 (w1.alloc (.cells #[.int .i64 8, .int .i64 f.m, .string ⟨#[]⟩, .slice none 0 0, .slice none 0 0] 64)) := Ext.alloc _ _
  have C := Bk.new w1 [.int .i64 8, .int .i64 f.m, .string ⟨#[]⟩, .slice none 0 0, .slice none 0 0] 64
  have A1' := (A.ext (hx1.trans xA)).get (o := 1) rfl
  simp -dsimp -implicitDefEqProofs only [k1,k2,A0,bv_v2,setCell_new,A1',m47,sF47,ZA,↓reduceIte,ZB,ZC,ZJ,ZK,ZE,ZF,ZG,ZH,ZI,reduceCtorEq,ZD,mwV,↓mwD,mwU]
  have hbv : w.heap.size + 2 ≤ w1.heap.size := by have := hx1.size; omega
  replace C : Bk (w1.alloc (.cells #[.int .i64 8, .int .i64 f.m, .string ⟨#[]⟩, .slice none 0 0, .slice none 0 0] 64)) w1.heap.size [.int .i64 8, .int .i64 f.m, .string ⟨#[]⟩, .slice none 0 0, .slice none 0 0] 64 := C
  have hszA : (w1.alloc (.cells #[.int .i64 8, .int .i64 f.m, .string ⟨#[]⟩, .slice none 0 0, .slice none 0 0] 64)).heap.size = w1.heap.size + 1 := World.size_alloc _ _
  clear A1'
  generalize w1.alloc (.cells #[.int .i64 8, .int .i64 f.m, .string ⟨#[]⟩, .slice none 0 0, .slice none 0 0] 64) = wA at *
  generalize hbve : w1.heap.size = bv at *
  refine mwpB_loop (fun e ds w' => ∃ (i : Nat) (acc : List (Vt × Value × Value)) (ks vs : Value), i ≤ f.F.length ∧ e 20 = .int .i64 i ∧ e 19 = .int .i64 f.F.length ∧ e 18 = .slice p f.F.length cap ∧ e 2 = .pointer (some ⟨w.heap.size + 1, 0, none⟩) ∧ e 4 = .pointer (some ⟨bv, 0, none⟩) ∧ ds = [] ∧
      bv + 1 ≤ w'.heap.size ∧ ValS w w' (bv + 1) bv (w.heap.size + 1) f.m ks vs ks vs ((f.F.take i).map (·.key)) acc ∧ acc.map (·.1) = (f.F.take i).map fun x => chVt x.c)
    (fun e _ => f.F.length - (intOf (e 20)).toNat) ?_ ?_
  · simp -dsimp -implicitDefEqProofs only [k2,m47,sF47,ZA,↓reduceIte,ZB,ZC,ZJ,ZK,ZE,ZF,ZG,ZH,ZI,reduceCtorEq,ZD,mwV,↓mwD,mwU]
    exact ⟨0, [], _, _, by omega, rfl, by omega, ⟨hxw.trans xA, C, (B.ext hx1).ext xA, World.ownsRow_nil _ _ _ _, World.ownsRow_nil _ _ _ _, fun p hp => by cases hp⟩, rfl⟩
  clear k1 k2
  rintro e ds w' ⟨i, acc, ks, vs, hi, h20, h19, h18, h2, h4, rfl, hbw, hV, hacc⟩
  have hal : acc.length = i := by have := congrArg List.length hacc; simp at this; omega
  obtain ⟨qk, nk, ck, rfl⟩ := own_slice hV.keys
  obtain ⟨qv, nv, cv, rfl⟩ := own_slice hV.top
  simp -dsimp -implicitDefEqProofs only [h20,h19,h18,h2,h4,m47,sF47,ZA,↓reduceIte,ZB,ZC,ZJ,ZK,ZE,ZF,ZG,ZH,ZI,reduceCtorEq,ZD,mwV,↓mwD,mwU]
  refine iteW_dec (fun hlt => ?_) (fun hge => ?_)
  · have hlt' : i < f.F.length := by omega
    obtain ⟨b, o, rfl, hfs⟩ := (hs.ext hV.ext).at (by intro h0; rw [h0] at hlt'; simp at hlt')
    obtain ⟨sk, q0, q1, q2, q3, hsk⟩ := hfs.get hlt'
    obtain ⟨ps, cs, rfl, hcs1, hcs2⟩ := hsk.shape
    have hb1 : (0 : Int) ≤ i ∧ (i : Int) < f.F.length := by omega
    have hw := w64_succ hlt' (Nat.le_trans hc1 hc2)
    obtain ⟨hk0, hk6, hvk⟩ := fieldsB_mem hF _ (List.getElem_mem hlt')
    have hl6 := hl60 _ (List.getElem_mem hlt')
    have H20 := h20
    -- the field's box, the row of the default, the choice's box
    obtain ⟨W2, hW2, D2, x2⟩ : ∃ W', W' = w'.alloc (.cells #[.int .i64 f.F[i].key, .int .i64 f.F[i].c.k, .int .i64 f.F[i].c.d, .slice ps f.F[i].c.L.length cs] 72) ∧ Bk W' w'.heap.size [.int .i64 f.F[i].key, .int .i64 f.F[i].c.k, .int .i64 f.F[i].c.d, .slice ps f.F[i].c.L.length cs] 72 ∧ Ext w' W' := ⟨_, rfl, Bk.new _ _ _, Ext.alloc _ _⟩
    have hszW2 : W2.heap.size = w'.heap.size + 1 := by rw [hW2]; exact World.size_alloc _ _
    have d0 := D2.get (o := 0) rfl
    have d1 := D2.get (o := 1) rfl
    have d2 := D2.get (o := 2) rfl
    have d3 := D2.get (o := 3) rfl
    have R3 : (W2.alloc (.cells #[.int .i64 3, .int .i64 f.F[i].c.d, .string ⟨#[]⟩, .slice none 0 0, .slice none 0 0] 64)).ownsRow (w'.heap.size + 1) 64 5 (.slice (some ⟨W2.heap.size, 0, none⟩) 1 1) (numAcc [f.F[i].c.d]).length (rowsV (numAcc [f.F[i].c.d])) := own_new W2 (rowsV (numAcc [f.F[i].c.d])) 64 (w'.heap.size + 1) 1 5 rfl (by omega) (by unfold maxLen; omega)
    have x3 : Ext W2 (W2.alloc (.cells #[.int .i64 3, .int .i64 f.F[i].c.d, .string ⟨#[]⟩, .slice none 0 0, .slice none 0 0] 64)) := Ext.alloc _ _
    have hszW3 : (W2.alloc (.cells #[.int .i64 3, .int .i64 f.F[i].c.d, .string ⟨#[]⟩, .slice none 0 0, .slice none 0 0] 64)).heap.size = W2.heap.size + 1 := World.size_alloc _ _
    have d1x := (D2.ext x3).get (o := 1) rfl
    simp -dsimp -implicitDefEqProofs only [h20,h19,h18,h2,h4,hb1,and_self,q0,q1,q2,q3,Nat.mul_comm i 4,← hW2,d1,d2,bv_v2,bs_v,d1x,m47,sF47,ZA,↓reduceIte,ZB,ZC,ZJ,ZK,ZE,ZF,ZG,ZH,ZI,reduceCtorEq,ZD,mwV,↓mwD,mwU]
    clear d1x
    generalize hW3 : W2.alloc (.cells #[.int .i64 3, .int .i64 f.F[i].c.d, .string ⟨#[]⟩, .slice none 0 0, .slice none 0 0] 64) = W3 at *
    have C4 := Bk.new W3 [.int .i64 9, .int .i64 f.F[i].c.k, .string ⟨#[]⟩, .slice none 0 0, .slice (some ⟨W2.heap.size, 0, none⟩) 1 1] 64
    have x4 : Ext W3 (W3.alloc (.cells #[.int .i64 9, .int .i64 f.F[i].c.k, .string ⟨#[]⟩, .slice none 0 0, .slice (some ⟨W2.heap.size, 0, none⟩) 1 1] 64)) := Ext.alloc _ _
    have d1x := (D2.ext (x3.trans x4)).get (o := 1) rfl
    have d3x := (D2.ext (x3.trans x4)).get (o := 3) rfl
    replace C4 : Bk (W3.alloc (.cells #[.int .i64 9, .int .i64 f.F[i].c.k, .string ⟨#[]⟩, .slice none 0 0, .slice (some ⟨W2.heap.size, 0, none⟩) 1 1] 64)) W3.heap.size [.int .i64 9, .int .i64 f.F[i].c.k, .string ⟨#[]⟩, .slice none 0 0, .slice (some ⟨W2.heap.size, 0, none⟩) 1 1] 64 := C4
    have R4 := Own.ext R3 x4
    have x14 := x2.trans (x3.trans x4)
    have D4 := D2.ext (x3.trans x4)
    have vtop : ∀ k, (Value.slice qv nv cv).ownBlock = some k → k < w'.heap.size := fun k hk => (own_lt hV.top hk).2
    simp -dsimp -implicitDefEqProofs only [bv_v3,setCell_new,d1x,m47,sF47,ZA,↓reduceIte,ZB,ZC,ZJ,ZK,ZE,ZF,ZG,ZH,ZI,reduceCtorEq,ZD,mwV,↓mwD,mwU]
    have hb4 : ∀ k, (Value.slice (some ⟨W2.heap.size, 0, none⟩) 1 1).ownBlock = some k → k ≠ W3.heap.size := fun k h => by
      simp only [Value.ownBlock,Option.some.injEq] at h
      omega
    have hbc : w'.heap.size < W3.heap.size := by omega
    clear d1x d3x
    generalize W3.alloc (.cells #[.int .i64 9, .int .i64 f.F[i].c.k, .string ⟨#[]⟩, .slice none 0 0, .slice (some ⟨W2.heap.size, 0, none⟩) 1 1] 64) = W4 at *
    generalize W3.heap.size = bc at *
    generalize (some (⟨W2.heap.size, 0, none⟩ : Addr)) = q4 at *
    have c0 := D4.get (o := 1) rfl
    have c3 := D4.get (o := 3) rfl
    clear hW3 hW2
    by_cases m1 : f.F[i].c.k = 1
    have e1 := decide_eq_true m1
    simp -dsimp -implicitDefEqProofs only [e1,m47,sF47,ZA,↓reduceIte,ZB,ZC,ZJ,ZK,ZE,ZF,ZG,ZH,ZI,reduceCtorEq,ZD,mwV,↓mwD,mwU]
    have hnum : numsC f.F[i].c = [f.F[i].c.d] := by unfold numsC; rw [if_pos m1]
    rw [← hnum] at R4
    have hfin : ∃ q5 n5 c5, Bk W4 bc [.int .i64 9, .int .i64 f.F[i].c.k, .string ⟨#[]⟩, .slice none 0 0, .slice q5 n5 c5] 64 ∧ W4.ownsRow (w'.heap.size + 1) 64 5 (.slice q5 n5 c5) (numAcc (numsC f.F[i].c)).length (rowsV (numAcc (numsC f.F[i].c))) ∧ ∀ k, (Value.slice q5 n5 c5).ownBlock = some k → k ≠ bc := ⟨_, _, _, C4, R4, hb4⟩
    have hx5 := x14
    have D5 := D4
    clear x4 x14 D4 C4 R4 hb4 c0 c3
    generalize hU : W4 = U5 at *
    clear hU
    rotate_left
    have e1 := decide_eq_false m1
    simp -dsimp -implicitDefEqProofs only [e1,c3,m47,sF47,ZA,↓reduceIte,ZB,ZC,ZJ,ZK,ZE,ZF,ZG,ZH,ZI,reduceCtorEq,ZD,mwV,↓mwD,mwU]
    have hnum : numsC f.F[i].c = f.F[i].c.d :: f.F[i].c.L := by unfold numsC; rw [if_neg m1]
    refine mwpB_loop (fun e ds u => ∃ (j : Nat) (q5 : Option Addr) (n5 c5 : Nat), j ≤ f.F[i].c.L.length ∧ e 41 = .int .i64 j ∧ e 40 = .int .i64 f.F[i].c.L.length ∧ e 39 = .slice ps f.F[i].c.L.length cs ∧ e 7 = .pointer (some ⟨bc, 0, none⟩) ∧ e 6 = .pointer (some ⟨w'.heap.size, 0, none⟩) ∧ e 20 = .int .i64 i ∧ e 19 = .int .i64 f.F.length ∧ e 18 = .slice (some ⟨b, o, none⟩) f.F.length cap ∧ e 2 = .pointer (some ⟨w.heap.size + 1, 0, none⟩) ∧ e 4 = .pointer (some ⟨bv, 0, none⟩) ∧ ds = [] ∧
        Ext w' u ∧ Bk u w'.heap.size [.int .i64 f.F[i].key, .int .i64 f.F[i].c.k, .int .i64 f.F[i].c.d, .slice ps f.F[i].c.L.length cs] 72 ∧ Bk u bc [.int .i64 9, .int .i64 f.F[i].c.k, .string ⟨#[]⟩, .slice none 0 0, .slice q5 n5 c5] 64 ∧ u.ownsRow (w'.heap.size + 1) 64 5 (.slice q5 n5 c5) (numAcc (f.F[i].c.d :: f.F[i].c.L.take j)).length (rowsV (numAcc (f.F[i].c.d :: f.F[i].c.L.take j))) ∧ ∀ k, (Value.slice q5 n5 c5).ownBlock = some k → k ≠ bc)
      (fun e _ => f.F[i].c.L.length - (intOf (e 41)).toNat) ?_ ?_
    · simp -dsimp -implicitDefEqProofs only [h20,h19,h18,h2,h4,m47,sF47,ZA,↓reduceIte,ZB,ZC,ZJ,ZK,ZE,ZF,ZG,ZH,ZI,reduceCtorEq,ZD,mwV,↓mwD,mwU]
      exact ⟨0, q4, 1, 1, by omega, rfl, x14, D4, C4, R4, hb4⟩
    clear h20 h19 h18 h2 h4 x4 x14 D4 C4 R4 hb4 c0 c3
    rintro e ds U5 ⟨j, qs, ns, cs', hj, h41, h40, h39, h7, h6, h20, h19, h18, h2, h4, rfl, hx5, D5, hC, hrow, hne⟩
    simp -dsimp -implicitDefEqProofs only [h41,h40,h39,h7,h6,h20,h19,h18,h2,h4,m47,sF47,ZA,↓reduceIte,ZB,ZC,ZJ,ZK,ZE,ZF,ZG,ZH,ZI,reduceCtorEq,ZD,mwV,↓mwD,mwU]
    refine iteW_dec (fun hlt2 => ?_) (fun hge2 => ?_)
    · have hlj : j < f.F[i].c.L.length := by omega
      obtain ⟨bl, ol, capl, hql, _, _, hcl⟩ := (hsk.ext hx5).at (by intro h0; rw [h0] at hlj; simp at hlj)
      cases hql
      have hcj := hcl j hlj
      have hb5 : (0 : Int) ≤ j ∧ (j : Int) < f.F[i].c.L.length := by omega
      have hs4 := w64_succ hlj (Nat.le_trans hcs1 hcs2)
      have z4 := hC.get (o := 4) rfl
      have hb6 : w'.heap.size + 1 ≤ U5.heap.size := by have := hC.lt; omega
      obtain ⟨v', u2, happ, hown2, hkeep, hext2, hnew, hsz2⟩ := append_vt hrow (numV f.F[i].c.L[j]) (.slice none 0 0) (.slice none 0 0) rfl rfl (by rw [numAcc_len]; simp; omega) hb6
      replace happ : (Builtin.append_ #[62, 62] 62 #[.slice qs ns cs', .slice (some ⟨U5.heap.size, 0, none⟩) 1 1]).run ZP (U5.alloc (.cells #[.int .i64 3, .int .i64 f.F[i].c.L[j], .string ⟨#[]⟩, .slice none 0 0, .slice none 0 0] 64)) = .ok v' u2 := happ
      have hC2 : Bk u2 bc [.int .i64 9, .int .i64 f.F[i].c.k, .string ⟨#[]⟩, .slice none 0 0, .slice qs ns cs'] 64 := by
        unfold Bk; rw [hkeep bc hC.lt (fun h => hne _ h rfl)]; exact hC
      have D6 : Bk u2 w'.heap.size [.int .i64 f.F[i].key, .int .i64 f.F[i].c.k, .int .i64 f.F[i].c.d, .slice (some ⟨bl, ol, none⟩) f.F[i].c.L.length cs] 72 := by
        unfold Bk; rw [hkeep _ D5.lt (fun h => by have := (own_lt hrow h).1; omega)]; exact D5
      have t4 := hC2.get (o := 4) rfl
      have t4f := hC2.frozen 4
      have hne' : ∀ k, v'.ownBlock = some k → k ≠ bc := fun k hk => by
        rcases hnew k hk with h | h
        · exact hne k h
        · have := hC.lt; omega
      obtain ⟨q2', n2', c2', rfl⟩ := own_slice hown2
      have H41 := h41
      simp -dsimp -implicitDefEqProofs only [h41,h40,h39,h7,h6,h20,h19,h18,h2,h4,hb5,and_self,hcj,z4,bv_v2,bs_v,m47,sF47,ZA,↓reduceIte,ZB,ZC,ZJ,ZK,ZE,ZF,ZG,ZH,ZI,reduceCtorEq,ZD,mwV,↓mwD,mwU]
      refine appB.mk happ ?_
      simp -dsimp -implicitDefEqProofs only [h41,h40,h39,h7,h6,h20,h19,h18,h2,h4,t4,t4f,hs4,m47,sF47,ZA,↓reduceIte,ZB,ZC,ZJ,ZK,ZE,ZF,ZG,ZH,ZI,reduceCtorEq,ZD,mwV,↓mwD,mwU]
      refine ⟨⟨j + 1, _, _, _, by omega, rfl, Ext.setCell (p := ⟨bc, 4, none⟩) (hext2 hx5 (by omega)) (by show w'.heap.size ≤ bc; omega) _, D6.ne (by omega) 4 _, hC2.set 4 _, ?_, hne'⟩, by simp only [intOf,H41]; omega⟩
      rw [List.take_succ_eq_append_getElem hlj, ← List.cons_append, numAcc_app]
      exact Own.off hown2 (fun h => hne' _ h rfl)
    have hjl : j = f.F[i].c.L.length := by omega
    rw [hjl, List.take_length, ← hnum] at hrow
    have hfin : ∃ q5 n5 c5, Bk U5 bc [.int .i64 9, .int .i64 f.F[i].c.k, .string ⟨#[]⟩, .slice none 0 0, .slice q5 n5 c5] 64 ∧ U5.ownsRow (w'.heap.size + 1) 64 5 (.slice q5 n5 c5) (numAcc (numsC f.F[i].c)).length (rowsV (numAcc (numsC f.F[i].c))) ∧ ∀ k, (Value.slice q5 n5 c5).ownBlock = some k → k ≠ bc := ⟨_, _, _, hC, hrow, hne⟩
    simp -dsimp -implicitDefEqProofs only [h41,h40,h39,h7,h6,h20,h19,h18,h2,h4,m47,sF47,ZA,↓reduceIte,ZB,ZC,ZJ,ZK,ZE,ZF,ZG,ZH,ZI,reduceCtorEq,ZD,mwV,↓mwD,mwU]
    rotate_left
    all_goals
      obtain ⟨q5, n5, c5, hC5, R5, hne5⟩ := hfin
      have hV5 := hV.next hx5
      have dk := D5.get (o := 0) rfl
      have b3 := hV5.bk.get (o := 3) rfl
      obtain ⟨ks', u6, happ1, hown1, hext1, hbk1⟩ := append_it hV5.keys f.F[i].key (by simp; omega) (Nat.le_trans hbw hx5.size)
      have hV6 := hV5.key (by omega) hown1 hext1 hbk1
      have g3 := hV6.bk.get (o := 3) rfl
      have g3f := hV6.bk.frozen 3
      have C6 := hbk1 hC5 (by decide)
      have R6 := own_bk R5 hbk1
      obtain ⟨qk', nk', ck', rfl⟩ := own_slice hown1
      have hV7 := hV6.set (kc' := .slice qk' nk' ck') (vc' := .slice qv nv cv) (by omega) (by omega) (by omega) 3 (.slice qk' nk' ck') rfl
      have hbcv : bv ≠ bc := by omega
      have C7 := C6.ne hbcv 3 (.slice qk' nk' ck')
      have R7 := Own.off (b := bv) (o := 3) (x := .slice qk' nk' ck') R6 (fun h => by have := (own_lt R6 h).1; omega)
      have z0 := C7.get (o := 0) rfl
      have z1 := C7.get (o := 1) rfl
      have z2 := C7.get (o := 2) rfl
      have z3 := C7.get (o := 3) rfl
      have z4 := C7.get (o := 4) rfl
      have b4 := hV7.bk.get (o := 4) rfl
      first
        | simp -dsimp -implicitDefEqProofs only [h20,h19,h18,h2,h4,h7,h6,b3,dk,bs_int,m47,sF47,ZA,↓reduceIte,ZB,ZC,ZJ,ZK,ZE,ZF,ZG,ZH,ZI,reduceCtorEq,ZD,mwV,↓mwD,mwU]
        | simp -dsimp -implicitDefEqProofs only [h20,h19,h18,h2,h4,b3,dk,bs_int,m47,sF47,ZA,↓reduceIte,ZB,ZC,ZJ,ZK,ZE,ZF,ZG,ZH,ZI,reduceCtorEq,ZD,mwV,↓mwD,mwU]
      refine appB.mk happ1 ?_
      first
        | simp -dsimp -implicitDefEqProofs only [h20,h19,h18,h2,h4,h7,h6,g3,g3f,b4,z0,z1,z2,z3,z4,bs_v,m47,sF47,ZA,↓reduceIte,ZB,ZC,ZJ,ZK,ZE,ZF,ZG,ZH,ZI,reduceCtorEq,ZD,mwV,↓mwD,mwU]
        | simp -dsimp -implicitDefEqProofs only [h20,h19,h18,h2,h4,g3,g3f,b4,z0,z1,z2,z3,z4,bs_v,m47,sF47,ZA,↓reduceIte,ZB,ZC,ZJ,ZK,ZE,ZF,ZG,ZH,ZI,reduceCtorEq,ZD,mwV,↓mwD,mwU]
      have hsz7 : w'.heap.size + 1 ≤ (u6.setCell ⟨bv, 3, none⟩ (.slice qk' nk' ck')).heap.size := by have := C7.lt; omega
      generalize u6.setCell ⟨bv, 3, none⟩ (.slice qk' nk' ck') = u7 at *
      have hne7 : ∀ k, (Value.slice q5 n5 c5).ownBlock = some k → (Value.slice qv nv cv).ownBlock ≠ some k := fun k hk h => by
        have := (own_lt R7 hk).1
        have := vtop k h
        omega
      obtain ⟨vs', u8, happ2, hown2, hkeep2, hext2, hnew2, hsz2⟩ := append_vt hV7.top (chVt f.F[i].c) (.slice none 0 0) (.slice q5 n5 c5) rfl rfl (by omega) (by omega)
      replace happ2 : (Builtin.append_ #[62, 62] 62 #[.slice qv nv cv, .slice (some ⟨u7.heap.size, 0, none⟩) 1 1]).run ZP (u7.alloc (.cells #[.int .i64 9, .int .i64 f.F[i].c.k, .string ⟨#[]⟩, .slice none 0 0, .slice q5 n5 c5] 64)) = .ok vs' u8 := happ2
      have R7' : u7.ownsRow (bv + 1) 64 5 (.slice q5 n5 c5) (numAcc (numsC f.F[i].c)).length (rowsV (numAcc (numsC f.F[i].c))) := Own.mono R7 (by omega)
      have hV8 := hV7.kid (by omega) (by omega) (by omega) hvk R7' hne7 hown2 hkeep2 hext2 (fun k hk => (hnew2 k hk).imp id Nat.le_of_lt)
      obtain ⟨qw, nw, cw, rfl⟩ := own_slice hown2
      have g4 := hV8.bk.get (o := 4) rfl
      have g4f := hV8.bk.frozen 4
      have hV9 := hV8.set (kc' := .slice qk' nk' ck') (vc' := .slice qw nw cw) (by omega) (by omega) (by omega) 4 (.slice qw nw cw) rfl
      refine appB.mk happ2 ?_
      simp -dsimp -implicitDefEqProofs only [h20,h19,h18,h2,h4,g4,g4f,hw,m47,sF47,ZA,↓reduceIte,ZB,ZC,ZJ,ZK,ZE,ZF,ZG,ZH,ZI,reduceCtorEq,ZD,mwV,↓mwD,mwU]
      refine ⟨⟨i + 1, acc ++ [(chVt f.F[i].c, nilS, .slice q5 n5 c5)], .slice qk' nk' ck', .slice qw nw cw, by omega, rfl, ?_, ?_, ?_⟩, by simp only [intOf,H20]; omega⟩
      · have := hV9.bk.lt; have := hV8.bk.lt
        show bv + 1 ≤ (World.setCell _ _ _).heap.size
        omega
      · rw [List.take_succ_eq_append_getElem hlt', List.map_append]
        exact hV9
      · rw [List.take_succ_eq_append_getElem hlt', List.map_append, List.map_append, hacc]; rfl
  · have hil : i = f.F.length := by omega
    rw [hil, List.take_length] at hacc hV
    have c0 := hV.bk.get (o := 0) rfl
    have c1' := hV.bk.get (o := 1) rfl
    have c2' := hV.bk.get (o := 2) rfl
    have c3' := hV.bk.get (o := 3) rfl
    have c4' := hV.bk.get (o := 4) rfl
    obtain ⟨⟨u0, y0⟩, y1, ⟨u2, y2⟩, y3, ⟨u4, y4⟩, y5, ⟨u6, y6⟩, y7, ⟨u8, y8⟩, y9, y10, y11, y12⟩ := put5 hV.rk (.int .i64 8) (.int .i64 f.m) (.string ⟨#[]⟩) (.slice qk nk ck) (.slice qv nv cv)
    have g0 := y10.get (o := 0) rfl
    have g1 := y10.get (o := 1) rfl
    have g2 := y10.get (o := 2) rfl
    have g3 := y10.get (o := 3) rfl
    have g4 := y10.get (o := 4) rfl
    simp -dsimp -implicitDefEqProofs only [h20,h19,h18,h2,h4,c0,c1',c2',c3',c4',y0,y1,y2,y3,y4,y5,y6,y7,y8,y9,g0,g1,g2,g3,g4,m47,sF47,ZA,↓reduceIte,ZB,ZC,ZJ,ZK,ZE,ZF,ZG,ZH,ZI,reduceCtorEq,ZD,mwV,↓mwD,mwU]
    have hVA := hV.vatp (by omega) y12 ⟨hm1, hm2⟩ (by simp; omega)
    rw [hacc] at hVA
    have hfm : (Vt.mk 8 f.m ⟨#[]⟩ (f.F.map (·.key)) (f.F.map fun x => chVt x.c)) = fmVt f := rfl
    rw [hfm] at hVA
    obtain ⟨_, _, e1, _, _⟩ := hVA.ks.shape
    obtain ⟨_, _, e2, _, _⟩ := hVA.vs.shape
    simp only [Value.slice.injEq] at e1 e2
    obtain ⟨_, e1, _⟩ := e1
    obtain ⟨_, e2, _⟩ := e2
    have hfin := y11 hV.ext (by omega)
    clear y0 y1 y2 y3 y4 y5 y6 y7 y8 y9 y10 y11 y12 g0 g1 g2 g3 g4 c0 c1' c2' c3' c4' hV
    subst e1
    subst e2
    exact ⟨hfin, fmVt f, qk, qv, ck, cv, 0, rfl, hVA, .inr ⟨rfl, rfl, hv⟩⟩
end Go.Proofs.YthcdnjbhhaonhaaGreatDoor
/- Layer 02: a format as a value, by the reference: steps. -/
namespace Go.Proofs.YthcdnjbhhaonhaaGreatDoor
open Go.RowKit
open Nat renaming reduceEqDiff → ZA, reduceAdd → ZB, reduceMul → ZC, reduceSub → ZD
open Int renaming reduceToNat → ZE, reduceEq → ZF, reduceLT → ZG, reduceLE → ZH, reduceNeg → ZI
open Go.Value renaming oneCell' → ZK, cells → ZJ
open Go.Proofs.Tryz renaming prog → ZP
set_option linter.unusedSimpArgs false
theorem planB_two {P : Program} {S : World → Prop} {e : Env} {ds : List Deferred} {w : World} {K : Env → List Deferred → World → Prop} {X : List PanicEntry → List Deferred → World → Prop} (d : Option Tmp) (op : Op) (ty : TypeId) (r m : MP) (t) :
    planB P S (.alt ⟨d, op, ty, none⟩ r m) e ds w K X t = (opB P ⟨d, op, ty, none⟩ e ds w (fun v ds w => S w ∧ planB P S r (updO e d v) ds w K X ⟨⟩) X ⟨⟩ ∧ planB P S m e ds w K X ⟨⟩) := by
  unfold planB opB
  simp [planW, wantedW]
theorem append_ig {w : World} {base : Nat} {v : Value} {xs : List Int} (hown : w.ownsRow base 3 1 v xs.length (ints xs)) (x : Int) {b : Nat} (hx : w.cell? ⟨b, 0, none⟩ = some (.int .i64 x)) (hn : xs.length ≤ 1000000) (hb : base ≤ w.heap.size) :
    ∃ v' w', (Builtin.append_ #[33, 33] 33 #[v, .slice (some ⟨b, 0, none⟩) 1 1]).run ZP w = .ok v' w' ∧ w'.ownsRow base 3 1 v' (xs ++ [x]).length (ints (xs ++ [x])) ∧ (∀ {w0 : World}, Ext w0 w → w0.heap.size ≤ base → Ext w0 w') ∧
      (∀ {b : Nat} {cs : List Value} {t : TypeId}, Bk w b cs t → t ≠ 3 → Bk w' b cs t) ∧ w.heap.size ≤ w'.heap.size := by
  obtain ⟨v', w', ha, hown', hg⟩ := append_own (P := ZP) (w := w) (t := 33) (ty := 33) (z := .int .i64 0) (ats := [33, 33]) rfl telem_33 tok_3 tzero_3 (by rw [tsz_3]; rfl) (by rw [tsz_3]; omega)
    (by rw [tsz_3]; exact hown) (a := ⟨b, 0, none⟩) (m := 1) (c := 1) (news := [.int .i64 x]) (by rw [tsz_3]; rfl)
    (fun j u hj => by
      cases j with
      | zero => cases hj; rw [Addr.add_lit]; exact hx
      | succ j => simp at hj) (fun u hu => by simp at hu; rw [hu]; rfl) (by unfold maxLen; omega) (by rw [tby_3]; omega) hb
  refine ⟨v', w', ha, ?_, fun h0 hb0 => h0.grown hg (fun k hk => Nat.le_trans hb0 (World.ownsRow.lt hown k hk).1), fun {b cs t} hk ht => ?_, hg.size⟩
  · rw [tsz_3] at hown'
    rw [ints_app, List.length_append]
    exact hown'
  · have hl := hk.lt
    have hne : v.ownBlock ≠ some b := fun e => by
      rcases hown.2 with ⟨hv, _⟩ | ⟨g, cap, cur, hv, _, hh, _⟩
      · rw [hv] at e; cases e
      · rw [hv] at e
        simp only [Value.ownBlock,Option.some.injEq] at e
        subst e
        unfold Bk at hk
        rw [hk] at hh
        simp only [Option.some.injEq,Obj.cells.injEq] at hh
        exact ht hh.2.1
    unfold Bk
    rw [hg.block b hl (fun e => hne e.symm)]
    exact hk
theorem append_vg {w : World} {base : Nat} {v : Value} {acc : List (Vt × Value × Value)} (hown : w.ownsRow base 64 5 v acc.length (rowsV acc)) (t : Vt) (s1 s2 : Value) (h1 : s1.oneCell' = true) (h2 : s2.oneCell' = true) {b : Nat} (hx : Bk w b (vtCs t s1 s2) 64) (hn : acc.length ≤ 1000000) (hb : base ≤ w.heap.size) :
    ∃ v' w', (Builtin.append_ #[62, 62] 62 #[v, .slice (some ⟨b, 0, none⟩) 1 1]).run ZP w = .ok v' w' ∧ w'.ownsRow base 64 5 v' (acc ++ [(t, s1, s2)]).length (rowsV (acc ++ [(t, s1, s2)])) ∧
      (∀ k, k < w.heap.size → v.ownBlock ≠ some k → w'.heap[k]? = w.heap[k]?) ∧ (∀ {w0 : World}, Ext w0 w → w0.heap.size ≤ base → Ext w0 w') ∧ (∀ k, v'.ownBlock = some k → v.ownBlock = some k ∨ w.heap.size ≤ k) ∧ w.heap.size ≤ w'.heap.size := by
  have hi : ∃ i, (ZP).info? 64 = some i := by
    have := tok_64
    unfold tok at this
    simp only [Bool.and_eq_true] at this
    exact Option.isSome_iff_exists.1 this.1
  obtain ⟨i, hi⟩ := hi
  have hz : i.zero = some (.agg #[.int .i64 0, .int .i64 0, .string ⟨#[]⟩, .slice none 0 0, .slice none 0 0]) := by
    have := tzero_64
    simpa [tzero, hi] using this
  have e5 : tsz ZP 64 = 5 := tsz_64
  have eb : tbytes ZP 64 = 80 := tby_64
  obtain ⟨v', w', g1, g2, g3, _, g5⟩ := run_append_own_at (P := ZP) w base 62 62 64 i _ 5 80 (telem_some telem_62) hi hz (by rw [← e5]; simp [tsz, hi]) (by rw [← eb]; simp [tbytes, hi]) rfl (by omega)
    v acc.length (rowsV acc) hown ⟨b, 0, none⟩ 1 1 (vtCs t s1 s2) rfl (fun j u hj => by rw [Addr.add_lit, Nat.zero_add]; exact hx.get hj)
    (fun u hu => by simp [vtCs] at hu; rcases hu with rfl | rfl | rfl | rfl | rfl <;> first | rfl | assumption) (by unfold maxLen; omega) (by omega) hb
  refine ⟨v', w', g1, ?_, fun k hk hne => g3.block k hk (fun e => hne e.symm), fun h0 hb0 => h0.grown g3 (fun k hk => Nat.le_trans hb0 (World.ownsRow.lt hown k hk).1), fun k hk => ?_, g3.size⟩
  · rw [rowsV_app, List.length_append]
    simpa [rowsV] using g2
  · rcases g5 with g5 | g5
    · exact .inl (by rw [← g5]; exact hk)
    · right
      rw [g5] at hk
      simp only [Option.some.injEq] at hk
      omega
structure RefS (w u : World) (B bv br ba bc : Nat) (m : Int) (fs kc vc ks vs : Value) (K : List Int) (acc : List (Vt × Value × Value)) (c : Ch) (s5 : Value) : Prop where
  val : ValS w u B bv br m kc vc ks vs K acc
  fm : Bk u ba [.int .i64 m, fs] 24
  bx : Bk u bc [.int .i64 9, .int .i64 c.k, .string ⟨#[]⟩, .slice none 0 0, s5] 64
  row : u.ownsRow B 64 5 s5 (numAcc (numsC c)).length (rowsV (numAcc (numsC c)))
  ne1 : ∀ k, s5.ownBlock = some k → vs.ownBlock ≠ some k
  ne2 : vs.ownBlock ≠ some bc
section
variable {w u u' : World} {B bv br ba bc : Nat} {m : Int} {fs kc vc ks vs s5 : Value} {K : List Int} {acc : List (Vt × Value × Value)} {c : Ch}
theorem RefS.next (h : RefS w u B bv br ba bc m fs kc vc ks vs K acc c s5) (x : Ext u u') : RefS w u' B bv br ba bc m fs kc vc ks vs K acc c s5 :=
  ⟨h.val.next x, h.fm.ext x, h.bx.ext x, Own.ext h.row x, h.ne1, h.ne2⟩
theorem RefS.key {ks' : Value} {x : Int} (h : RefS w u B bv br ba bc m fs kc vc ks vs K acc c s5) (hw : w.heap.size ≤ B) (hown : u'.ownsRow B 3 1 ks' (K ++ [x]).length (ints (K ++ [x]))) (hext : ∀ {w0 : World}, Ext w0 u → w0.heap.size ≤ B → Ext w0 u') (hbk : ∀ {b : Nat} {cs : List Value} {t : TypeId}, Bk u b cs t → t ≠ 3 → Bk u' b cs t) :
    RefS w u' B bv br ba bc m fs kc vc ks' vs (K ++ [x]) acc c s5 :=
  ⟨h.val.key hw hown hext hbk, hbk h.fm (by decide), hbk h.bx (by decide), own_bk h.row hbk, h.ne1, h.ne2⟩
end
end Go.Proofs.YthcdnjbhhaonhaaGreatDoor

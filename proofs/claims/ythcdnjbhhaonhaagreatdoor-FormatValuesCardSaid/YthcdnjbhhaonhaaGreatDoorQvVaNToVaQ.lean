/- Layer 02: a format read from a value, by the program. -/
import Derived.Test.YthcdnjbhhaonhaaGreatDoorQvVaLToVaM
import Derived.Test.YthcdnjbhhaonhaaGreatDoorQvTxCToTxL
import Derived.Maps.AppendAt

namespace Go.Proofs.YthcdnjbhhaonhaaGreatDoor
open Go.RowKit
open Nat renaming reduceEqDiff → ZA, reduceAdd → ZB, reduceMul → ZC, reduceSub → ZD
open Int renaming reduceToNat → ZE, reduceEq → ZF, reduceLT → ZG, reduceLE → ZH, reduceNeg → ZI
open Go.Value renaming oneCell' → ZK, cells → ZJ
open Go.Proofs.Tryz renaming prog → ZP
set_option linter.unusedSimpArgs false
def FromOk (v : Vt) : Prop := ValidV v ∧ v.k = 8 ∧ 1 ≤ v.n ∧ v.n ≤ 3 ∧ FieldsIn v
def FromA (v : Vt) (f : Fm) (c : Int) : Prop := (c = 10 ∧ f = ⟨0, []⟩ ∧ ¬ FromOk v) ∨ (c = 1 ∧ f = ⟨0, []⟩ ∧ FromOk v ∧ (fmOf v).valid = false) ∨ (c = 0 ∧ f = fmOf v ∧ FromOk v ∧ (fmOf v).valid = true)
theorem FromA.eq {v : Vt} {f g : Fm} {c d : Int} (h : FromA v f c) (h' : FromA v g d) : f = g ∧ c = d := by
  rcases h with ⟨rfl, rfl, h1⟩ | ⟨rfl, rfl, h1, h2⟩ | ⟨rfl, rfl, h1, h2⟩ <;> rcases h' with ⟨rfl, rfl, h3⟩ | ⟨rfl, rfl, h3, h4⟩ | ⟨rfl, rfl, h3, h4⟩
  all_goals first | exact ⟨rfl, rfl⟩ | exact absurd h1 h3 | exact absurd h3 h1 | (rw [h2] at h4; cases h4)
def FromQ (v : Vt) (w : World) (r : Value) (w' : World) : Prop := Ext w w' ∧ ∃ (f : Fm) (q : Option Addr) (n : Nat) (c : Int), r = .tuple #[.agg #[.int .i64 f.m, .slice q f.F.length n], .int .i64 c] ∧ SlF w' (.slice q f.F.length n) f.F ∧ FromA v f c
def FieldIn (v : Vt) (i : Nat) : Prop := 1 ≤ v.keys.getD i 0 ∧ v.keys.getD i 0 ≤ 6 ∧ (v.kids.map Vt.k).getD i 0 = 9
theorem fldsOf_len {v : Vt} (h : v.keys.length = v.kids.length) : (fldsOf v.keys v.kids).length = v.kids.length := by simp [fldsOf, h]
theorem fldsOf_take {v : Vt} {i : Nat} (h : v.keys.length = v.kids.length) (hi : i < v.kids.length) : (fldsOf v.keys v.kids).take (i + 1) = (fldsOf v.keys v.kids).take i ++ [⟨v.keys[i]'(by omega), chOf v.kids[i]⟩] := by
  rw [List.take_succ_eq_append_getElem (by rw [fldsOf_len h]; exact hi)]
  congr 1
  simp [fldsOf]
theorem kid_k {v : Vt} {i : Nat} (hi : i < v.kids.length) : (v.kids.map Vt.k).getD i 0 = v.kids[i].k := by
  rw [List.getD_eq_getElem?_getD, List.getElem?_map, List.getElem?_eq_getElem hi]; rfl
theorem choice_in {x : Vt} (h : AllV x) (hk : x.k = 9) : NumsOk x.n (x.kids.map Vt.n) := ((formed_9 hk).1 h.form).2.2
theorem nums_cons {how : Int} {L : List Int} (h : NumsOk how L) : ∃ d l, L = d :: l ∧ (how = 1 → l = []) := by
  cases L with
  | nil => exact h.elim
  | cons d l =>
    refine ⟨d, l, rfl, fun hh => ?_⟩
    rcases h with h | h | h | h
    · exact List.eq_nil_of_length_eq_zero h.2
    · exact absurd (hh.symm.trans h.1) (by decide)
    · exact absurd (hh.symm.trans h.1) (by decide)
    · exact absurd (hh.symm.trans h.1) (by decide)
theorem box_two (w : World) (v : Vt) (s1 s2 : Value) (ds : List Value) (t' : TypeId) : ∃ W, W = (w.alloc (.cells #[.int .i64 v.k, .int .i64 v.n, .string v.s, s1, s2] 64)).alloc (.cells ds.toArray t') ∧ Bk W w.heap.size (vtCs v s1 s2) 64 ∧ Bk W (w.heap.size + 1) ds t' ∧ Ext w W := by
  refine ⟨_, rfl, (Bk.new w (vtCs v s1 s2) _).ext (Ext.alloc _ _), ?_, (Ext.alloc _ _).trans (Ext.alloc _ _)⟩
  have := Bk.new (w.alloc (.cells #[.int .i64 v.k, .int .i64 v.n, .string v.s, s1, s2] 64)) ds t'
  rw [World.size_alloc] at this
  exact this
theorem bv_fl4 (k : Int) (a b : Int) (s : Value) : buildV ZP 72 [(0, .int .i64 k), (1, .agg #[.int .i64 a, .int .i64 b, s])] = some (.agg #[.int .i64 k, .int .i64 a, .int .i64 b, s]) := by kernel_rfl
set_option maxHeartbeats 8000000 in
theorem FromValue_c (v : Vt) (s1 s2 : Value) (w : World) (hv : VAt w v s1 s2) (hm : massV v < 3000) : Rets ZP 49 #[vtV v s1 s2] w (FromQ v w) := by
  obtain ⟨q1, c1, rfl, hd1, hd2⟩ := hv.ks.shape
  obtain ⟨q2, c2, rfl, hc1, hc2⟩ := hv.vs.shape
  obtain ⟨W, hW, A, B, hx⟩ := box_two w v (.slice q1 v.keys.length c1) (.slice q2 v.kids.length c2) [.int .i64 0, .slice none 0 0] 24
  have hsz : W.heap.size = w.heap.size + 2 := by rw [hW]; simp only [World.size_alloc]
  refine en49 ?_
  refine mwpB_cut 1 (fun e ds w' => e 1 = .pointer (some ⟨w.heap.size, 0, none⟩) ∧ e 2 = .pointer (some ⟨w.heap.size + 1, 0, none⟩) ∧ ds = [] ∧ w' = W) ?_ ?_
  · simp -dsimp -implicitDefEqProofs only [vtV,headM_zero,headM_seq,World.size_alloc,hW,m49,sF49,ZA,↓reduceIte,ZB,ZC,ZJ,ZK,ZE,ZF,ZG,ZH,ZI,reduceCtorEq,ZD,mwV,↓mwD,mwU]
  clear hW
  rintro e ds w0 ⟨k1, k2, rfl, rfl⟩
  obtain ⟨a0, a1, a2, a3, a4⟩ := bk_vt A (Ext.refl w0)
  simp -dsimp -implicitDefEqProofs only [tailM_zero,tailM_seq,k1,a0,a1,a2,a3,a4,m49,sF49,ZA,↓reduceIte,ZB,ZC,ZJ,ZK,ZE,ZF,ZG,ZH,ZI,reduceCtorEq,ZD,mwV,↓mwD,mwU]
  refine (ValidV_c v _ _ w0 (hv.ext hx) hm).use ?_
  rintro r w1 ⟨hx1, b, rfl, hb⟩
  have hxw := hx.trans hx1
  obtain ⟨a0, a1, a2, a3, a4⟩ := bk_vt A hx1
  -- an error, from a world in which the answer's cells are as they were
  have err : ∀ (w' : World) (c : Int), Ext w w' → Bk w' (w.heap.size + 1) [.int .i64 0, .slice none 0 0] 24 → FromA v ⟨0, []⟩ c → FromQ v w (.tuple #[.agg #[.int .i64 0, .slice none 0 0], .int .i64 c]) w' := fun w' c h1 h2 h3 => ⟨h1, ⟨0, []⟩, none, 0, c, rfl, SlF.nil w', h3⟩
  have B1 := B.ext hx1
  have errc : ∀ (w' : World), Bk w' (w.heap.size + 1) [.int .i64 0, .slice none 0 0] 24 → (∃ x, w'.cell? ⟨w.heap.size + 1, 0, none⟩ = some x) ∧ w'.frozen? ⟨w.heap.size + 1, 0, none⟩ = false ∧ (∃ x, (w'.setCell ⟨w.heap.size + 1, 0, none⟩ (.int .i64 0)).cell? ⟨w.heap.size + 1, 1, none⟩ = some x) ∧ (w'.setCell ⟨w.heap.size + 1, 0, none⟩ (.int .i64 0)).frozen? ⟨w.heap.size + 1, 1, none⟩ = false ∧
      ((w'.setCell ⟨w.heap.size + 1, 0, none⟩ (.int .i64 0)).setCell ⟨w.heap.size + 1, 1, none⟩ (.slice none 0 0)).cell? ⟨w.heap.size + 1, 0, none⟩ = some (.int .i64 0) ∧ ((w'.setCell ⟨w.heap.size + 1, 0, none⟩ (.int .i64 0)).setCell ⟨w.heap.size + 1, 1, none⟩ (.slice none 0 0)).cell? ⟨w.heap.size + 1, 1, none⟩ = some (.slice none 0 0) := fun w' h => by
    obtain ⟨h1, h2, h3, h4, h5, _⟩ := fput' h (.int .i64 0) (.slice none 0 0)
    exact ⟨h1, h2, h3, h4, h5.get (o := 0) rfl, h5.get (o := 1) rfl⟩
  have errq : ∀ (w' : World) (c : Int), Ext w w' → Bk w' (w.heap.size + 1) [.int .i64 0, .slice none 0 0] 24 → FromA v ⟨0, []⟩ c → FromQ v w (.tuple #[.agg #[.int .i64 0, .slice none 0 0], .int .i64 c]) ((w'.setCell ⟨w.heap.size + 1, 0, none⟩ (.int .i64 0)).setCell ⟨w.heap.size + 1, 1, none⟩ (.slice none 0 0)) := fun w' c h1 h2 h3 => by
    obtain ⟨_, _, _, _, h5, h6⟩ := fput' h2 (.int .i64 0) (.slice none 0 0)
    exact err _ _ (h6 h1 (by omega)) h5 h3
  obtain ⟨⟨z0, y0⟩, y1, ⟨z2, y2⟩, y3, y4, y5⟩ := errc w1 B1
  cases b
  · simp -dsimp -implicitDefEqProofs only [k1,k2,bv_fm0,y0,y1,y2,y3,y4,y5,m49,sF49,ZA,↓reduceIte,ZB,ZC,ZJ,ZK,ZE,ZF,ZG,ZH,ZI,reduceCtorEq,ZD,mwV,↓mwD,mwU]
    exact errq w1 10 hxw B1 (.inl ⟨rfl, rfl, fun h => by have := hb.2 h.1; cases this⟩)
  have hval := hb.1 rfl
  by_cases p8 : v.k = 8
  rotate_left
  · have e8 := decide_eq_false p8
    simp -dsimp -implicitDefEqProofs only [k1,k2,a0,e8,bv_fm0,y0,y1,y2,y3,y4,y5,m49,sF49,ZA,↓reduceIte,ZB,ZC,ZJ,ZK,ZE,ZF,ZG,ZH,ZI,reduceCtorEq,ZD,mwV,↓mwD,mwU]
    exact errq w1 10 hxw B1 (.inl ⟨rfl, rfl, fun h => p8 h.2.1⟩)
  have e8 := decide_eq_true p8
  by_cases p1 : v.n < 1
  · have e1 := decide_eq_true p1
    simp -dsimp -implicitDefEqProofs only [k1,k2,a0,a1,e8,e1,bv_fm0,y0,y1,y2,y3,y4,y5,m49,sF49,ZA,↓reduceIte,ZB,ZC,ZJ,ZK,ZE,ZF,ZG,ZH,ZI,reduceCtorEq,ZD,mwV,↓mwD,mwU]
    exact errq w1 10 hxw B1 (.inl ⟨rfl, rfl, fun h => by have := h.2.2.1; omega⟩)
  have e1 := decide_eq_false p1
  by_cases p3 : 3 < v.n
  · have e3 := decide_eq_true p3
    simp -dsimp -implicitDefEqProofs only [k1,k2,a0,a1,e8,e1,e3,bv_fm0,y0,y1,y2,y3,y4,y5,m49,sF49,ZA,↓reduceIte,ZB,ZC,ZJ,ZK,ZE,ZF,ZG,ZH,ZI,reduceCtorEq,ZD,mwV,↓mwD,mwU]
    exact errq w1 10 hxw B1 (.inl ⟨rfl, rfl, fun h => by have := h.2.2.2.1; omega⟩)
  have e3 := decide_eq_false p3
  have hlen : v.keys.length = v.kids.length := keyed hval.1.form (.inl p8)
  have hbf : w.heap.size + 2 ≤ w1.heap.size := by have := hx1.size; omega
  have xA : Ext w1 (w1.alloc (.cells #[.int .i64 v.n, .slice none 0 0] 24)) := Ext.alloc _ _
  have C := Bk.new w1 [.int .i64 v.n, .slice none 0 0] 24
  obtain ⟨_, _, _, _, a4'⟩ := bk_vt A (hx1.trans xA)
  simp -dsimp -implicitDefEqProofs only [k1,k2,a0,a1,e8,e1,e3,bv_fmM,setCell_new,a4',m49,sF49,ZA,↓reduceIte,ZB,ZC,ZJ,ZK,ZE,ZF,ZG,ZH,ZI,reduceCtorEq,ZD,mwV,↓mwD,mwU]
  clear y0 y1 y2 y3 y4 y5 z0 z2
  replace C : Bk (w1.alloc (.cells #[.int .i64 v.n, .slice none 0 0] 24)) w1.heap.size [.int .i64 v.n, .slice none 0 0] 24 := C
  clear a4'
  generalize w1.alloc (.cells #[.int .i64 v.n, .slice none 0 0] 24) = wA at *
  generalize hbfe : w1.heap.size = bf at *
  refine mwpB_loop (fun e ds w' => ∃ (i : Nat) (acc : List (Fl × Value)) (vF : Value), i ≤ v.kids.length ∧ e 35 = .int .i64 i ∧ e 34 = .int .i64 v.kids.length ∧ e 33 = .slice q2 v.kids.length c2 ∧ e 1 = .pointer (some ⟨w.heap.size, 0, none⟩) ∧ e 2 = .pointer (some ⟨w.heap.size + 1, 0, none⟩) ∧ e 4 = .pointer (some ⟨bf, 0, none⟩) ∧ ds = [] ∧
      Ext w w' ∧ Bk w' w.heap.size (vtCs v (.slice q1 v.keys.length c1) (.slice q2 v.kids.length c2)) 64 ∧ Bk w' (w.heap.size + 1) [.int .i64 0, .slice none 0 0] 24 ∧ Bk w' bf [.int .i64 v.n, vF] 24 ∧ OwnF w' w.heap.size vF acc ∧ acc.map (·.1) = (fldsOf v.keys v.kids).take i ∧ ∀ j, j < i → FieldIn v j)
    (fun e _ => v.kids.length - (intOf (e 35)).toNat) ?_ ?_
  · simp -dsimp -implicitDefEqProofs only [k1,k2,m49,sF49,ZA,↓reduceIte,ZB,ZC,ZJ,ZK,ZE,ZF,ZG,ZH,ZI,reduceCtorEq,ZD,mwV,↓mwD,mwU]
    exact ⟨0, [], _, by omega, rfl, hxw.trans xA, A.ext (hx1.trans xA), B1.ext xA, C, ⟨World.ownsRow_nil _ _ _ _, fun p hp => by cases hp⟩, rfl, fun j hj => by omega⟩
  clear k1 k2
  rintro e ds w' ⟨i, acc, vF, hi, h35, h34, h33, h1, h2, h4, rfl, hxw', kA, kB, kC, hown, hacc, hin⟩
  obtain ⟨qF, nF, cF, rfl⟩ := own_slice hown.1
  have hal : acc.length = i := by have := congrArg List.length hacc; simp [fldsOf, hlen] at this; omega
  have hfromOk : (∀ j, j < v.kids.length → FieldIn v j) → FromOk v := fun h => ⟨hval, p8, by omega, by omega, h⟩
  simp -dsimp -implicitDefEqProofs only [h35,h34,h33,h1,h2,h4,m49,sF49,ZA,↓reduceIte,ZB,ZC,ZJ,ZK,ZE,ZF,ZG,ZH,ZI,reduceCtorEq,ZD,mwV,↓mwD,mwU]
  refine iteW_dec (fun hlt => ?_) (fun hge => ?_)
  · have hlt' : i < v.kids.length := by omega
    have hltk : i < v.keys.length := by omega
    obtain ⟨b, o, t1, m1, d1, t2, d2, rfl, g0, g1, g2, g3, g4, hkv, rfl⟩ := (hv.vs.ext hxw').get hlt'
    obtain ⟨bk, ok, capk, hvk, _, _, hcell⟩ := hv.ks.at (by intro h0; rw [h0] at hltk; simp at hltk)
    cases hvk
    have hck0 := hcell i hltk
    have hb1 : (0 : Int) ≤ i ∧ (i : Int) < v.kids.length := by omega
    have hb2 : (0 : Int) ≤ i ∧ (i : Int) < v.keys.length := by omega
    have hs1 := w64_succ hlt' (Nat.le_trans hc1 hc2)
    have hkk := kid_k hlt'
    have hgk := getD_get hltk
    have hallk := hval.1.kids _ (List.getElem_mem hlt')
    obtain ⟨W2, hW2, A2, x2⟩ := new_vt w' v.kids[i] (.slice t1 v.kids[i].keys.length d1) (.slice t2 v.kids[i].kids.length d2)
    have hszW2 : W2.heap.size = w'.heap.size + 1 := by rw [hW2]; exact World.size_alloc _ _
    obtain ⟨b0, b1, b2, b3, b4⟩ := bk_vt A2 (Ext.refl W2)
    obtain ⟨a0, a1, a2, a3, a4⟩ := bk_vt kA x2
    have hck := (hxw'.trans x2).cell hck0
    have kB2 := kB.ext x2
    obtain ⟨⟨z0, y0⟩, y1, ⟨z2, y2⟩, y3, y4, y5⟩ := errc W2 kB2
    have no : ∀ {p : Prop}, (p → ¬ FieldIn v i) → p → FromA v ⟨0, []⟩ 10 := fun h hp => .inl ⟨rfl, rfl, fun hf => h hp (hf.2.2.2.2 i hlt')⟩
    by_cases n9 : v.kids[i].k = 9
    rotate_left
    · have e9 := decide_eq_false n9
      simp -dsimp -implicitDefEqProofs only [h35,h34,h33,h1,h2,h4,hb1,and_self,Nat.mul_comm i 5,g0,g1,g2,g3,g4,← hW2,b0,e9,bv_fm0,y0,y1,y2,y3,y4,y5,m49,sF49,ZA,↓reduceIte,ZB,ZC,ZJ,ZK,ZE,ZF,ZG,ZH,ZI,reduceCtorEq,ZD,mwV,↓mwD,mwU]
      exact errq W2 10 (hxw'.trans x2) kB2 (no (fun h hf => h (by rw [← hkk]; exact hf.2.2)) n9)
    have e9 := decide_eq_true n9
    by_cases p4 : v.keys[i] < 1
    · have e4 := decide_eq_true p4
      simp -dsimp -implicitDefEqProofs only [h35,h34,h33,h1,h2,h4,hb1,hb2,and_self,Nat.mul_comm i 5,g0,g1,g2,g3,g4,← hW2,b0,a3,hck,e9,e4,bv_fm0,y0,y1,y2,y3,y4,y5,m49,sF49,ZA,↓reduceIte,ZB,ZC,ZJ,ZK,ZE,ZF,ZG,ZH,ZI,reduceCtorEq,ZD,mwV,↓mwD,mwU]
      exact errq W2 10 (hxw'.trans x2) kB2 (no (fun h hf => by have := hf.1; omega) p4)
    have e4 := decide_eq_false p4
    by_cases p5 : 6 < v.keys[i]
    · have e5 := decide_eq_true p5
      simp -dsimp -implicitDefEqProofs only [h35,h34,h33,h1,h2,h4,hb1,hb2,and_self,Nat.mul_comm i 5,g0,g1,g2,g3,g4,← hW2,b0,a3,hck,e9,e4,e5,bv_fm0,y0,y1,y2,y3,y4,y5,m49,sF49,ZA,↓reduceIte,ZB,ZC,ZJ,ZK,ZE,ZF,ZG,ZH,ZI,reduceCtorEq,ZD,mwV,↓mwD,mwU]
      exact errq W2 10 (hxw'.trans x2) kB2 (no (fun h hf => by have := hf.2.1; omega) p5)
    have e5 := decide_eq_false p5
    clear y0 y1 y2 y3 y4 y5 z0 z2
    have hfi : FieldIn v i := ⟨by omega, by omega, by rw [hkk, n9]⟩
    have hnum := choice_in hallk n9
    obtain ⟨d, L, hL, hone⟩ := nums_cons hnum
    obtain ⟨x, l, hkl⟩ : ∃ x l, v.kids[i].kids = x :: l := by
      cases hq : v.kids[i].kids with
      | nil => rw [hq] at hL; cases hL
      | cons x l => exact ⟨x, l, rfl⟩
    rw [hkl, List.map_cons, List.cons.injEq] at hL
    obtain ⟨hxd, hlL⟩ := hL
    have hLl : L.length = l.length := by rw [← hlL]; simp
    have hlen2 : v.kids[i].kids.length = l.length + 1 := by rw [hkl]; rfl
    have hch : chOf v.kids[i] = ⟨v.kids[i].n, d, if v.kids[i].n = 1 then [d] else L⟩ := by
      unfold chOf; rw [hkl, List.map_cons, hxd, hlL]; rfl
    have hkvs := hkv.vs
    obtain ⟨bb, oo, rfl, f0, f1⟩ := (show SlV w' (.slice t2 v.kids[i].kids.length d2) (x :: l) by rw [← hkl]; exact hkvs).first
    have hshp := hkvs.shape
    obtain ⟨_, _, hq0, hcd1, hcd2⟩ := hshp
    cases hq0
    rw [hxd] at f1
    replace f1 := x2.cell f1
    have hb3 : (0 : Int) ≤ 0 ∧ (0 : Int) < v.kids[i].kids.length := by omega
    have hsl : (0 : Int) ≤ 1 ∧ (1 : Int) ≤ (v.kids[i].kids.length : Int) ∧ (v.kids[i].kids.length : Int) ≤ (d2 : Int) := by omega
    have ht1 : ((v.kids[i].kids.length : Int) - 1).toNat = l.length := by omega
    have ht2 : ((d2 : Int) - 1).toNat = d2 - 1 := by omega
    have hlv : SlV w' (.slice (if (d2 : Int) = 1 then some ⟨bb, oo, none⟩ else some ⟨bb, oo + 5, none⟩) l.length (d2 - 1)) l := by
      have := (show SlV w' (.slice (some ⟨bb, oo, none⟩) v.kids[i].kids.length d2) (x :: l) by rw [← hkl]; exact hkvs).tail (if (d2 : Int) = 1 then some ⟨bb, oo, none⟩ else some ⟨bb, oo + 5, none⟩) (fun hne => by rw [if_neg]; have := List.length_pos_iff.2 hne; omega)
      rw [show v.kids[i].kids.length - 1 = l.length by omega] at this
      exact this
    have hld : l.length ≤ d2 - 1 := by omega
    generalize hq : (if (d2 : Int) = 1 then some (⟨bb, oo, none⟩ : Addr) else some ⟨bb, oo + 5, none⟩) = q at *
    have hml : l.length < 3000 := by
      have h1 := mass_kids v.kids[i]
      have h2 := mass_kid (List.getElem_mem hlt')
      omega
    simp -dsimp -implicitDefEqProofs only [h35,h34,h33,h1,h2,h4,hb1,hb2,and_self,Nat.mul_comm i 5,g0,g1,g2,g3,g4,← hW2,b0,a3,hck,e9,e4,e5,m49,sF49,ZA,↓reduceIte,ZB,ZC,ZJ,ZK,ZE,ZF,ZG,ZH,ZI,reduceCtorEq,ZD,mwV,↓mwD,mwU]
    clear hW2
    have C3 := Bk.new W2.drew [.int .i64 v.kids[i].n, .int .i64 d, .slice none 0 0] 35
    have x3 : Ext W2 (W2.drew.alloc (.cells #[.int .i64 v.kids[i].n, .int .i64 d, .slice none 0 0] 35)) := (Ext.drew W2).trans (Ext.alloc _ _)
    have ex0 : Ext W2.drew (W2.drew.alloc (.cells #[.int .i64 0, .int .i64 0, .slice none 0 0] 35)) := Ext.alloc _ _
    obtain ⟨_, _, _, _, b4x⟩ := bk_vt A2 x3
    refine mwpB_drawE ?_
    simp -dsimp -implicitDefEqProofs only [b1,b4,hb3,and_self,f1,Nat.mul_zero,Nat.zero_mul,Nat.add_zero,Int.toNat_zero,bv_ch2,setCell_new,ex0,b4x,hsl,ht1,ht2,hq,m49,sF49,ZA,↓reduceIte,ZB,ZC,ZJ,ZK,ZE,ZF,ZG,ZH,ZI,reduceCtorEq,ZD,mwV,↓mwD,mwU]
    clear b4x
    replace C3 : Bk (W2.drew.alloc (.cells #[.int .i64 v.kids[i].n, .int .i64 d, .slice none 0 0] 35)) W2.drew.heap.size [.int .i64 v.kids[i].n, .int .i64 d, .slice none 0 0] 35 := C3
    generalize W2.drew.alloc (.cells #[.int .i64 v.kids[i].n, .int .i64 d, .slice none 0 0] 35) = W3 at *
    have hszd : W2.drew.heap.size = W2.heap.size := rfl
    generalize hbce : W2.drew.heap.size = bc at *
    have hxw3 := hxw'.trans (x2.trans x3)
    have hbc : w'.heap.size ≤ bc := by have := x2.size; omega
    refine mwpB_loop (fun e ds u => ∃ (j : Nat) (s : Value), j ≤ l.length ∧ e 72 = .int .i64 j ∧ e 71 = .int .i64 l.length ∧ e 70 = .slice q l.length (d2 - 1) ∧ e 7 = .pointer (some ⟨bc, 0, none⟩) ∧ e 35 = .int .i64 i ∧ e 34 = .int .i64 v.kids.length ∧ e 33 = .slice (some ⟨b, o, none⟩) v.kids.length c2 ∧ e 1 = .pointer (some ⟨w.heap.size, 0, none⟩) ∧ e 2 = .pointer (some ⟨w.heap.size + 1, 0, none⟩) ∧ e 4 = .pointer (some ⟨bf, 0, none⟩) ∧ e 5 = .int .i64 i ∧ ds = [] ∧
        Ext w' u ∧ Bk u bc [.int .i64 v.kids[i].n, .int .i64 d, s] 35 ∧ u.ownsRow w'.heap.size 3 1 s (L.take j).length (ints (L.take j)))
      (fun e _ => l.length - (intOf (e 72)).toNat) ?_ ?_
    · simp -dsimp -implicitDefEqProofs only [h35,h34,h33,h1,h2,h4,m49,sF49,ZA,↓reduceIte,ZB,ZC,ZJ,ZK,ZE,ZF,ZG,ZH,ZI,reduceCtorEq,ZD,mwV,↓mwD,mwU]
      exact ⟨0, _, by omega, rfl, x2.trans x3, C3, World.ownsRow_nil _ _ _ _⟩
    have H35 := h35
    clear h35 h34 h33 h1 h2 h4
    rintro e ds u ⟨j, s, hj, h72, h71, h70, h7, h35, h34, h33, h1, h2, h4, h5, rfl, hu, hC, hrow⟩
    obtain ⟨qs, ns, cs, rfl⟩ := own_slice hrow
    simp -dsimp -implicitDefEqProofs only [h72,h71,h70,h7,h35,h34,h33,h1,h2,h4,h5,m49,sF49,ZA,↓reduceIte,ZB,ZC,ZJ,ZK,ZE,ZF,ZG,ZH,ZI,reduceCtorEq,ZD,mwV,↓mwD,mwU]
    refine iteW_dec (fun hlt2 => ?_) (fun hge2 => ?_)
    · have hlj : j < l.length := by omega
      have hlL' : j < L.length := by omega
      obtain ⟨bj, oj, r1, m1, y1, r2, y2, rfl, j0, j1, j2, j3, j4, hjv, rfl⟩ := (hlv.ext hu).get hlj
      have hb4 : (0 : Int) ≤ j ∧ (j : Int) < l.length := by omega
      have hs4 := w64_succ hlj (Nat.le_trans (Nat.le_of_lt hml) (by unfold maxLen; omega))
      obtain ⟨U2, hU2, A9, x9⟩ := new_vt u l[j] (.slice r1 l[j].keys.length y1) (.slice r2 l[j].kids.length y2)
      obtain ⟨e0, e1', e2', e3', e4'⟩ := bk_vt A9 (Ext.refl U2)
      have hC9 := hC.ext x9
      have cc2 := hC9.get (o := 2) rfl
      have hgL : L[j] = l[j].n := by subst hlL; simp
      obtain ⟨v', u2, happ, hown2, hext2, hbk2⟩ := append_it (Own.ext hrow x9) L[j] (by simp; omega) (hu.trans x9).size
      rw [hgL] at happ
      have hC2 := hbk2 hC9 (by decide)
      have t2' := hC2.get (o := 2) rfl
      have t2f := hC2.frozen 2
      obtain ⟨q2', n2', c2', rfl⟩ := own_slice hown2
      have H72 := h72
      simp -dsimp -implicitDefEqProofs only [h72,h71,h70,h7,h35,h34,h33,h1,h2,h4,h5,hb4,and_self,Nat.mul_comm j 5,j0,j1,j2,j3,j4,← hU2,cc2,e1',bs_int,m49,sF49,ZA,↓reduceIte,ZB,ZC,ZJ,ZK,ZE,ZF,ZG,ZH,ZI,reduceCtorEq,ZD,mwV,↓mwD,mwU]
      refine appB.mk happ ?_
      simp -dsimp -implicitDefEqProofs only [h72,h71,h70,h7,h35,h34,h33,h1,h2,h4,h5,t2',t2f,hs4,m49,sF49,ZA,↓reduceIte,ZB,ZC,ZJ,ZK,ZE,ZF,ZG,ZH,ZI,reduceCtorEq,ZD,mwV,↓mwD,mwU]
      refine ⟨⟨j + 1, _, by omega, rfl, Ext.setCell (p := ⟨bc, 2, none⟩) (hext2 (hu.trans x9) (Nat.le_refl _)) hbc _, hC2.set 2 _, ?_⟩, by simp only [intOf,H72]; omega⟩
      rw [List.take_succ_eq_append_getElem hlL']
      exact set_row hown2 hC2 (by decide)
    · have hjl : j = L.length := by omega
      rw [hjl, List.take_length] at hrow
      have z0 := hC.get (o := 0) rfl
      have z1 := hC.get (o := 1) rfl
      have z2 := hC.get (o := 2) rfl
      -- the choice is whole
      have whole : ∃ (U5 : World) (q5 : Option Addr) (n5 c5 : Nat), Ext w' U5 ∧ Bk U5 bc [.int .i64 v.kids[i].n, .int .i64 d, .slice q5 n5 c5] 35 ∧ U5.ownsRow w'.heap.size 3 1 (.slice q5 n5 c5) (chOf v.kids[i]).L.length (ints (chOf v.kids[i]).L) ∧
          (v.kids[i].n = 1 → U5 = (u.alloc (.cells #[.int .i64 d] 3)).setCell ⟨bc, 2, none⟩ (.slice (some ⟨u.heap.size, 0, none⟩) 1 1)) ∧ (¬ v.kids[i].n = 1 → U5 = u) := by
        by_cases m1 : v.kids[i].n = 1
        · have y3 : Ext u (u.alloc (.cells #[.int .i64 d] 3)) := Ext.alloc _ _
          have R3 := one_int u w'.heap.size d hu.size
          have hC3 := hC.ext y3
          refine ⟨_, some ⟨u.heap.size, 0, none⟩, 1, 1, Ext.setCell (p := ⟨bc, 2, none⟩) (hu.trans y3) hbc _, hC3.set 2 _, ?_, fun _ => rfl, fun h => absurd m1 h⟩
          rw [hch]
          simp only [m1,if_true]
          exact set_row R3 hC3 (by decide)
        · refine ⟨u, qs, ns, cs, hu, hC, ?_, fun h => absurd h m1, fun _ => rfl⟩
          rw [hch]
          simp only [m1,if_false]
          exact hrow
      obtain ⟨U5, q5, n5, c5, hx5, hC5, R5, hU1, hU2⟩ := whole
      have hC3 := hC.ext (Ext.alloc u (.cells #[.int .i64 d] 3))
      have t32 := hC3.get (o := 2) rfl
      have f32 := hC3.frozen 2
      by_cases m1 : v.kids[i].n = 1
      have d1 := decide_eq_true m1
      simp -dsimp -implicitDefEqProofs only [h72,h71,h70,h7,h35,h34,h33,h1,h2,h4,h5,z0,z1,d1,bs_int,t32,f32,← hU1 m1,m49,sF49,ZA,↓reduceIte,ZB,ZC,ZJ,ZK,ZE,ZF,ZG,ZH,ZI,reduceCtorEq,ZD,mwV,↓mwD,mwU]
      rotate_left
      have d1 := decide_eq_false m1
      simp -dsimp -implicitDefEqProofs only [h72,h71,h70,h7,h35,h34,h33,h1,h2,h4,h5,z0,z1,d1,m49,sF49,ZA,↓reduceIte,ZB,ZC,ZJ,ZK,ZE,ZF,ZG,ZH,ZI,reduceCtorEq,ZD,mwV,↓mwD,mwU]
      rw [← hU2 m1]
      rotate_left
      all_goals
        have hmk3 := mass_kids v
        have hxd5 := hx5.trans (Ext.drew U5)
        have K4 := kC.ext hxd5
        have HO := hown.ext hxd5
        have R5d := Own.mono (Own.ext R5 (Ext.drew U5)) hxw'.size
        have C5d := hC5.ext (Ext.drew U5)
        obtain ⟨v2, u2, happ, hown2, hg2⟩ := append_fl HO.1 (Fl.mk v.keys[i] ⟨v.kids[i].n, d, (chOf v.kids[i]).L⟩) (.slice q5 n5 c5) rfl (by omega) (hxw'.trans hxd5).size
        obtain ⟨p1, p2, p3, p4, p5, p6⟩ := OwnF.push (hxw'.trans hxd5) K4 HO (Ext.refl _) (by omega) R5d hown2 hg2
        have r1 := p2.get (o := 1) rfl
        have fz := p2.frozen 1
        obtain ⟨qv, nv, cv, rfl⟩ := own_slice hown2
        have s1 := (kC.ext hx5).get (o := 1) rfl
        have s2 := (bk_vt kA hx5).ks
        have s3 := (hxw'.trans hx5).cell hck0
        have s4 := hC5.get (o := 0) rfl
        have s5 := hC5.get (o := 1) rfl
        have s6 := hC5.get (o := 2) rfl
        refine mwpB_draw (fun w'' => w''.cell? ⟨bf, 1, none⟩ = some (.slice qF nF cF) ∧ w''.cell? ⟨w.heap.size, 3, none⟩ = some (.slice (some ⟨bk, ok, none⟩) v.keys.length c1) ∧ w''.cell? ⟨bk, ok + i, none⟩ = some (.int .i64 v.keys[i]) ∧ w''.cell? ⟨bc, 0, none⟩ = some (.int .i64 v.kids[i].n) ∧ w''.cell? ⟨bc, 1, none⟩ = some (.int .i64 d) ∧ w''.cell? ⟨bc, 2, none⟩ = some (.slice q5 n5 c5)) ⟨s1, s2, s3, s4, s5, s6⟩ ?_
        simp -dsimp -implicitDefEqProofs only [h7,h1,h4,h5,m49,sF49,ZA,↓reduceIte,ZB,ZC,ZJ,ZK,ZE,ZF,ZG,ZH,ZI,reduceCtorEq,ZD,mwV,↓mwD,mwU]
        refine softB_load (v := .slice qF nF cF) (fun w'' hw' => ?_) ?_
        · simp -dsimp -implicitDefEqProofs only [h4,hw'.1,m49,sF49,ZA,↓reduceIte,ZB,ZC,ZJ,ZK,ZE,ZF,ZG,ZH,ZI,reduceCtorEq,ZD,mwV,↓mwD,mwU]
        simp -dsimp -implicitDefEqProofs only [h7,h1,h4,h5,m49,sF49,ZA,↓reduceIte,ZB,ZC,ZJ,ZK,ZE,ZF,ZG,ZH,ZI,reduceCtorEq,ZD,mwV,↓mwD,mwU]
        refine softB_load (v := .slice (some ⟨bk, ok, none⟩) v.keys.length c1) (fun w'' hw' => ?_) ?_
        · simp -dsimp -implicitDefEqProofs only [h1,hw'.2.1,m49,sF49,ZA,↓reduceIte,ZB,ZC,ZJ,ZK,ZE,ZF,ZG,ZH,ZI,reduceCtorEq,ZD,mwV,↓mwD,mwU]
        simp -dsimp -implicitDefEqProofs only [h7,h1,h4,h5,hb2,and_self,m49,sF49,ZA,↓reduceIte,ZB,ZC,ZJ,ZK,ZE,ZF,ZG,ZH,ZI,reduceCtorEq,ZD,mwV,↓mwD,mwU]
        refine softB_load (v := .int .i64 v.keys[i]) (fun w'' hw' => ?_) ?_
        · simp -dsimp -implicitDefEqProofs only [hw'.2.2.1,m49,sF49,ZA,↓reduceIte,ZB,ZC,ZJ,ZK,ZE,ZF,ZG,ZH,ZI,reduceCtorEq,ZD,mwV,↓mwD,mwU]
        simp -dsimp -implicitDefEqProofs only [h7,h1,h4,h5,m49,sF49,ZA,↓reduceIte,ZB,ZC,ZJ,ZK,ZE,ZF,ZG,ZH,ZI,reduceCtorEq,ZD,mwV,↓mwD,mwU]
        refine softB_load (v := .agg #[.int .i64 v.kids[i].n, .int .i64 d, .slice q5 n5 c5]) (fun w'' hw' => ?_) ?_
        · simp -dsimp -implicitDefEqProofs only [h7,hw'.2.2.2.1,hw'.2.2.2.2.1,hw'.2.2.2.2.2,m49,sF49,ZA,↓reduceIte,ZB,ZC,ZJ,ZK,ZE,ZF,ZG,ZH,ZI,reduceCtorEq,ZD,mwV,↓mwD,mwU]
        have bsf := bs_fl (Fl.mk v.keys[i] ⟨v.kids[i].n, d, (chOf v.kids[i]).L⟩) (.slice q5 n5 c5)
        simp only at bsf
        simp -dsimp -implicitDefEqProofs only [h7,h1,h4,h5,bv_fl4,bsf,m49,sF49,ZA,↓reduceIte,ZB,ZC,ZJ,ZK,ZE,ZF,ZG,ZH,ZI,reduceCtorEq,ZD,mwV,↓mwD,mwU]
        have xq : Ext U5 (U5.drew.alloc (.cells #[.int .i64 v.keys[i], .int .i64 v.kids[i].n, .int .i64 d, .slice q5 n5 c5] 72)) := (Ext.drew U5).trans (Ext.alloc _ _)
        refine ⟨⟨xq.cell s1, xq.cell s2, xq.cell s3, xq.cell s4, xq.cell s5, xq.cell s6⟩, ?_⟩
        refine appB.mk happ ?_
        have oddF : ∀ {j : Nat} {cs : List Value}, Bk U5.drew j cs 24 → Odd U5.drew j := fun h => h.odd (by decide) (by decide)
        have oddV : ∀ {j : Nat} {cs : List Value}, Bk U5.drew j cs 64 → Odd U5.drew j := fun h => h.odd (by decide) (by decide)
        have oddC : ∀ {j : Nat} {cs : List Value}, Bk U5.drew j cs 35 → Odd U5.drew j := fun h => h.odd (by decide) (by decide)
        have kAd := kA.ext hxd5
        have kBd := kB.ext hxd5
        have kA2 := p6 _ kAd.lt (by omega) (oddV kAd)
        have kC2 := p6 _ C5d.lt (by have := kC.lt; omega) (oddC C5d)
        have kA3 : Bk u2 w.heap.size (vtCs v (.slice (some ⟨bk, ok, none⟩) v.keys.length c1) (.slice (some ⟨b, o, none⟩) v.kids.length c2)) 64 := by
          unfold Bk
          rw [Below.heap_setCell _ _ _ _ (by show w.heap.size ≠ bf; omega)] at kA2
          exact kA2.trans kAd
        have kC3 : Bk u2 bc [.int .i64 v.kids[i].n, .int .i64 d, .slice q5 n5 c5] 35 := by
          unfold Bk
          rw [Below.heap_setCell _ _ _ _ (by have := kC.lt; show bc ≠ bf; omega)] at kC2
          exact kC2.trans C5d
        refine ⟨⟨r1, (bk_vt kA3 (Ext.refl _)).ks, p1.cell hck0, kC3.get (o := 0) rfl, kC3.get (o := 1) rfl, kC3.get (o := 2) rfl⟩, ?_⟩
        simp -dsimp -implicitDefEqProofs only [h35,h34,h33,h7,h1,h2,h4,h5,r1,fz,hs1,m49,sF49,ZA,↓reduceIte,ZB,ZC,ZJ,ZK,ZE,ZF,ZG,ZH,ZI,reduceCtorEq,ZD,mwV,↓mwD,mwU]
        refine ⟨⟨i + 1, _, _, by omega, rfl, p5, ?_, ?_, p3, p4, ?_, Nat.forall_lt_succ_right.2 ⟨hin, hfi⟩⟩, by simp only [intOf,H35]; omega⟩
        · unfold Bk
          rw [Below.heap_setCell _ _ _ _ (by show w.heap.size ≠ bf; omega)]
          exact kA3
        · unfold Bk
          rw [p6 _ kBd.lt (by omega) (oddF kBd)]; exact kBd
        · rw [List.map_append, hacc, fldsOf_take hlen hlt', hch]; rfl
  · have hkl : i = v.kids.length := by omega
    have hfull : (fldsOf v.keys v.kids).take i = fldsOf v.keys v.kids := by rw [hkl]; exact List.take_of_length_le (by rw [fldsOf_len hlen]; omega)
    rw [hfull] at hacc
    have hok := hfromOk (by rw [← hkl]; exact hin)
    have c0 := kC.get (o := 0) rfl
    have c1' := kC.get (o := 1) rfl
    simp -dsimp -implicitDefEqProofs only [h35,h34,h33,h1,h2,h4,c0,c1',m49,sF49,ZA,↓reduceIte,ZB,ZC,ZJ,ZK,ZE,ZF,ZG,ZH,ZI,reduceCtorEq,ZD,mwV,↓mwD,mwU]
    have hSl := hown.slF
    rw [hacc] at hSl
    refine (Valid_c (fmOf v) _ w' hSl).use ?_
    rintro r w2 ⟨rfl, hx2⟩
    have kB2 := kB.ext hx2
    have kC2 := kC.ext hx2
    cases hvf : (fmOf v).valid
    · obtain ⟨⟨z0, y0⟩, y1, ⟨z2, y2⟩, y3, y4, y5⟩ := errc w2 kB2
      simp -dsimp -implicitDefEqProofs only [h2,bv_fm0,y0,y1,y2,y3,y4,y5,m49,sF49,ZA,↓reduceIte,ZB,ZC,ZJ,ZK,ZE,ZF,ZG,ZH,ZI,reduceCtorEq,ZD,mwV,↓mwD,mwU]
      exact errq w2 1 (hxw'.trans hx2) kB2 (.inr (.inl ⟨rfl, rfl, hok, hvf⟩))
    · obtain ⟨⟨z0, y0⟩, y1, ⟨z2, y2⟩, y3, y4, y6⟩ := fput' kB2 (.int .i64 v.n) (.slice qF nF cF)
      have c0 := kC2.get (o := 0) rfl
      have c1' := kC2.get (o := 1) rfl
      have g0 := y4.get (o := 0) rfl
      have g1 := y4.get (o := 1) rfl
      simp -dsimp -implicitDefEqProofs only [h2,h4,c0,c1',y0,y1,y2,y3,g0,g1,m49,sF49,ZA,↓reduceIte,ZB,ZC,ZJ,ZK,ZE,ZF,ZG,ZH,ZI,reduceCtorEq,ZD,mwV,↓mwD,mwU]
      have hch : ChP (fun k => k = w.heap.size + 1) w2 ((w2.setCell ⟨w.heap.size + 1, 0, none⟩ (.int .i64 v.n)).setCell ⟨w.heap.size + 1, 1, none⟩ (.slice qF nF cF)) := ChP.setCell (G := fun k => k = w.heap.size + 1) (ChP.setCell (G := fun k => k = w.heap.size + 1) (ChP.refl _ w2) (fun _ => rfl) _) (fun _ => rfl) _
      have ho2 := ((hown.ext hx2).ch hch (fun b hb => by subst hb; exact kB2.odd (by decide) (by decide))).slF
      rw [hacc] at ho2
      obtain ⟨_, _, hq0, _, _⟩ := ho2.shape
      cases hq0
      exact ⟨y6 (hxw'.trans hx2) (by omega), fmOf v, _, _, 0, rfl, ho2, .inr (.inr ⟨rfl, rfl, hok, hvf⟩)⟩
end Go.Proofs.YthcdnjbhhaonhaaGreatDoor
/- Layer 01: a value is the same as one that is told the same way, by the reference. -/
namespace Go.Proofs.YthcdnjbhhaonhaaGreatDoor
open Go.RowKit
open Nat renaming reduceEqDiff → ZA, reduceAdd → ZB, reduceMul → ZC, reduceSub → ZD
open Int renaming reduceToNat → ZE, reduceEq → ZF, reduceLT → ZG, reduceLE → ZH, reduceNeg → ZI
open Go.Value renaming oneCell' → ZK, cells → ZJ
open Go.Proofs.Tryz renaming prog → ZP
set_option linter.unusedSimpArgs false
set_option maxHeartbeats 4000000 in
theorem SameV_c (v : Vt) : ∀ (s1 s2 s3 s4 : Value) (w : World), VAt w v s1 s2 → VAt w v s3 s4 → Rets ZP 51 #[vtV v s1 s2, vtV v s3 s4] w fun r w' => r = .bool true ∧ Ext w w' := by
  induction v using Vt.ind with
  | h v ih =>
    intro s1 s2 s3 s4 w hv hv'
    obtain ⟨q1, c1, rfl, hd1, hd2⟩ := hv.ks.shape
    obtain ⟨q2, c2, rfl, hc1, hc2⟩ := hv.vs.shape
    obtain ⟨q3, c3, rfl, _, _⟩ := hv'.ks.shape
    obtain ⟨q4, c4, rfl, _, _⟩ := hv'.vs.shape
    obtain ⟨W, hW, A, B, x0⟩ := box_two w v (.slice q1 v.keys.length c1) (.slice q2 v.kids.length c2) (vtCs v (.slice q3 v.keys.length c3) (.slice q4 v.kids.length c4)) 64
    refine en51 ?_
    refine mwpB_cut 1 (fun e ds w' => e 2 = .pointer (some ⟨w.heap.size, 0, none⟩) ∧ e 3 = .pointer (some ⟨w.heap.size + 1, 0, none⟩) ∧ ds = [] ∧ w' = W) ?_ ?_
    · simp -dsimp -implicitDefEqProofs only [headM_zero,headM_seq,vtV,World.size_alloc,hW,vtCs,m51,sF51,ZA,↓reduceIte,ZB,ZC,ZJ,ZK,ZE,ZF,ZG,ZH,ZI,reduceCtorEq,ZD,mwV,↓mwD,mwU]
    clear hW
    rintro e ds w0 ⟨h2, h3, rfl, rfl⟩
    have cells : ∀ {w' : World}, Ext w0 w' → VtB w' w.heap.size v q1 q2 c1 c2 ∧ VtB w' (w.heap.size + 1) v q3 q4 c3 c4 := fun h => ⟨bk_vt A h, bk_vt B h⟩
    obtain ⟨⟨a0, a1, a2, a3, a4⟩, b0, b1, b2, b3, b4⟩ := cells (Ext.refl w0)
    have ek : decide (v.k = v.k) = true := by simp
    have en : decide (v.n = v.n) = true := by simp
    have es : ∀ t, binV ZP t .neq (.string v.s) (.string v.s) = some (.bool false) := fun t => by rw [binV_neS]; simp
    have e1 : decide ((v.keys.length : Int) = v.keys.length) = true := by simp
    have e2 : decide ((v.kids.length : Int) = v.kids.length) = true := by simp
    simp -dsimp -implicitDefEqProofs only [tailM_zero,tailM_seq,h2,h3,a0,a1,a2,a3,a4,b0,b1,b2,b3,b4,ek,en,es,e1,e2,m51,sF51,ZA,↓reduceIte,ZB,ZC,ZJ,ZK,ZE,ZF,ZG,ZH,ZI,reduceCtorEq,ZD,mwV,↓mwD,mwU]
    refine mwpB_loop (fun e ds w' => ∃ (i : Nat), i ≤ v.keys.length ∧ e 5 = .int .i64 i ∧ e 2 = .pointer (some ⟨w.heap.size, 0, none⟩) ∧ e 3 = .pointer (some ⟨w.heap.size + 1, 0, none⟩) ∧ ds = [] ∧ Ext w0 w')
      (fun e _ => v.keys.length - (intOf (e 5)).toNat) ?_ ?_
    · simp -dsimp -implicitDefEqProofs only [h2,h3,m51,sF51,ZA,↓reduceIte,ZB,ZC,ZJ,ZK,ZE,ZF,ZG,ZH,ZI,reduceCtorEq,ZD,mwV,↓mwD,mwU]
      exact ⟨0, by omega, rfl, Ext.refl _⟩
    · clear h2 h3 a0 a1 a2 a3 a4 b0 b1 b2 b3 b4
      rintro e ds w' ⟨i, hi, h5, h2, h3, rfl, hx⟩
      obtain ⟨⟨a0, a1, a2, a3, a4⟩, b0, b1, b2, b3, b4⟩ := cells hx
      simp -dsimp -implicitDefEqProofs only [h5,h2,h3,a3,m51,sF51,ZA,↓reduceIte,ZB,ZC,ZJ,ZK,ZE,ZF,ZG,ZH,ZI,reduceCtorEq,ZD,mwV,↓mwD,mwU]
      refine iteW_dec (fun hlt => ?_) (fun hge => ?_)
      · have hlt' : i < v.keys.length := by omega
        obtain ⟨bk, ok, capk, hq, _, _, hcell⟩ := (hv.ks.ext (x0.trans hx)).at (by intro h0; rw [h0] at hlt'; simp at hlt')
        obtain ⟨bj, oj, capj, hq', _, _, hcell'⟩ := (hv'.ks.ext (x0.trans hx)).at (by intro h0; rw [h0] at hlt'; simp at hlt')
        cases hq
        cases hq'
        have hck := (Ext.drew w').cell (hcell i hlt')
        have hcj := (Ext.drew w').cell (hcell' i hlt')
        have hb1 : (0 : Int) ≤ i ∧ (i : Int) < v.keys.length := by omega
        have hs1 := w64_succ hlt' (Nat.le_trans hd1 hd2)
        have ekk : decide (v.keys[i] = v.keys[i]) = true := by simp
        obtain ⟨⟨a0, a1, a2, a3, a4⟩, b0, b1, b2, b3, b4⟩ := cells (hx.trans (Ext.drew w'))
        simp -dsimp -implicitDefEqProofs only [h5,h2,h3,m51,sF51,ZA,↓reduceIte,ZB,ZC,ZJ,ZK,ZE,ZF,ZG,ZH,ZI,reduceCtorEq,ZD,mwV,↓mwD,mwU]
        refine mwpB_drawE ?_
        simp -dsimp -implicitDefEqProofs only [h5,h2,h3,a3,b3,hb1,and_self,hck,hcj,ekk,hs1,m51,sF51,ZA,↓reduceIte,ZB,ZC,ZJ,ZK,ZE,ZF,ZG,ZH,ZI,reduceCtorEq,ZD,mwV,↓mwD,mwU]
        exact ⟨⟨i + 1, by omega, rfl, hx.trans (Ext.drew w')⟩, by simp only [intOf,h5]; omega⟩
      · simp -dsimp -implicitDefEqProofs only [h5,h2,h3,m51,sF51,ZA,↓reduceIte,ZB,ZC,ZJ,ZK,ZE,ZF,ZG,ZH,ZI,reduceCtorEq,ZD,mwV,↓mwD,mwU]
        refine mwpB_loop (fun e ds w' => ∃ (i : Nat), i ≤ v.kids.length ∧ e 6 = .int .i64 i ∧ e 2 = .pointer (some ⟨w.heap.size, 0, none⟩) ∧ e 3 = .pointer (some ⟨w.heap.size + 1, 0, none⟩) ∧ ds = [] ∧ Ext w0 w')
          (fun e _ => v.kids.length - (intOf (e 6)).toNat) ?_ ?_
        · simp -dsimp -implicitDefEqProofs only [h2,h3,m51,sF51,ZA,↓reduceIte,ZB,ZC,ZJ,ZK,ZE,ZF,ZG,ZH,ZI,reduceCtorEq,ZD,mwV,↓mwD,mwU]
          exact ⟨0, by omega, rfl, hx⟩
        · clear h5 h2 h3 hx hge hi i a0 a1 a2 a3 a4 b0 b1 b2 b3 b4
          rintro e ds w' ⟨i, hi, h6, h2, h3, rfl, hx⟩
          obtain ⟨⟨a0, a1, a2, a3, a4⟩, b0, b1, b2, b3, b4⟩ := cells hx
          simp -dsimp -implicitDefEqProofs only [h6,h2,h3,a4,m51,sF51,ZA,↓reduceIte,ZB,ZC,ZJ,ZK,ZE,ZF,ZG,ZH,ZI,reduceCtorEq,ZD,mwV,↓mwD,mwU]
          refine iteW_dec (fun hlt => ?_) (fun hge => ?_)
          · have hlt' : i < v.kids.length := by omega
            have hxd := hx.trans (Ext.drew w')
            obtain ⟨b, o, t1, m1, d1, t2, d2, rfl, k0, k1, k2, k3, k4, hk, rfl⟩ := (hv.vs.ext (x0.trans hxd)).get hlt'
            obtain ⟨b', o', t3, m3, d3, t4, d4, rfl, j0, j1, j2, j3, j4, hj, rfl⟩ := (hv'.vs.ext (x0.trans hxd)).get hlt'
            have hb1 : (0 : Int) ≤ i ∧ (i : Int) < v.kids.length := by omega
            have hs1 := w64_succ hlt' (Nat.le_trans hc1 hc2)
            obtain ⟨⟨a0, a1, a2, a3, a4⟩, b0, b1, b2, b3, b4⟩ := cells hxd
            simp -dsimp -implicitDefEqProofs only [h6,h2,h3,m51,sF51,ZA,↓reduceIte,ZB,ZC,ZJ,ZK,ZE,ZF,ZG,ZH,ZI,reduceCtorEq,ZD,mwV,↓mwD,mwU]
            refine mwpB_drawE ?_
            simp -dsimp -implicitDefEqProofs only [h6,h2,h3,a4,b4,hb1,and_self,Nat.mul_comm i 5,k0,k1,k2,k3,k4,j0,j1,j2,j3,j4,m51,sF51,ZA,↓reduceIte,ZB,ZC,ZJ,ZK,ZE,ZF,ZG,ZH,ZI,reduceCtorEq,ZD,mwV,↓mwD,mwU]
            refine (ih _ (List.getElem_mem hlt') _ _ _ _ w'.drew hk hj).use ?_
            rintro r w2 ⟨rfl, hx2⟩
            simp -dsimp -implicitDefEqProofs only [h6,h2,h3,hx2,hs1,m51,sF51,ZA,↓reduceIte,ZB,ZC,ZJ,ZK,ZE,ZF,ZG,ZH,ZI,reduceCtorEq,ZD,mwV,↓mwD,mwU]
            exact ⟨⟨i + 1, by omega, rfl, hxd.trans hx2⟩, by simp only [intOf,h6]; omega⟩
          · simp -dsimp -implicitDefEqProofs only [h6,h2,h3,m51,sF51,ZA,↓reduceIte,ZB,ZC,ZJ,ZK,ZE,ZF,ZG,ZH,ZI,reduceCtorEq,ZD,mwV,↓mwD,mwU]
            exact x0.trans hx
end Go.Proofs.YthcdnjbhhaonhaaGreatDoor
/- Layer 02: rows of values of a call's own. -/
namespace Go.Proofs.YthcdnjbhhaonhaaGreatDoor
open Go.RowKit
open Nat renaming reduceEqDiff → ZA, reduceAdd → ZB, reduceMul → ZC, reduceSub → ZD
open Int renaming reduceToNat → ZE, reduceEq → ZF, reduceLT → ZG, reduceLE → ZH, reduceNeg → ZI
open Go.Value renaming oneCell' → ZK, cells → ZJ
open Go.Proofs.Tryz renaming prog → ZP
set_option linter.unusedSimpArgs false
def rowsV : List (Vt × Value × Value) → List Value
  | [] => []
  | p :: l => vtCs p.1 p.2.1 p.2.2 ++ rowsV l
theorem rowsV_app : ∀ (a b : List (Vt × Value × Value)), rowsV (a ++ b) = rowsV a ++ rowsV b
  | [], _ => rfl
  | p :: a, b => by rw [List.cons_append, rowsV, rowsV_app a b, rowsV, List.append_assoc]
theorem rowsV_get : ∀ {l : List (Vt × Value × Value)} {k : Nat} {p : Vt × Value × Value} {j : Nat} {u : Value}, l[k]? = some p → (vtCs p.1 p.2.1 p.2.2)[j]? = some u → (rowsV l)[5 * k + j]? = some u
  | [], _, _, _, _, h, _ => by simp at h
  | q :: l, 0, p, j, u, h, hj => by
    simp only [List.getElem?_cons_zero,Option.some.injEq] at h
    subst h
    have := (List.getElem?_eq_some_iff.1 hj).1
    rw [rowsV, List.getElem?_append_left (by omega), show 5 * 0 + j = j by omega]; exact hj
  | q :: l, k + 1, p, j, u, h, hj => by
    rw [rowsV, List.getElem?_append_right (by simp [vtCs]; omega)]
    rw [show 5 * (k + 1) + j - (vtCs q.1 q.2.1 q.2.2).length = 5 * k + j by simp [vtCs]; omega]
    exact rowsV_get (by simpa using h) hj
theorem Own.slV {w : World} {base : Nat} {v : Value} {acc : List (Vt × Value × Value)} (h : w.ownsRow base 64 5 v acc.length (rowsV acc)) (hl : ∀ p ∈ acc, VAt w p.1 p.2.1 p.2.2) : SlV w v (acc.map (·.1)) := by
  rcases h.2 with ⟨hv, h0⟩ | ⟨g, cap, cur, hv, hb, hg, h1, h2, h3, h4⟩
  · have : acc = [] := List.eq_nil_of_length_eq_zero h0
    subst this
    rw [hv]; exact SlV.nil w
  · refine ⟨_, cap, by rw [hv, List.length_map], by rw [List.length_map]; omega, h2, fun _ => ⟨g, 0, rfl, vsat_iff.2 fun k f hk => ?_⟩⟩
    rw [List.getElem?_map, Option.map_eq_some_iff] at hk
    obtain ⟨p, hp, rfl⟩ := hk
    refine ⟨p.2.1, p.2.2, fun j u hj => ?_, hl p (List.mem_of_getElem? hp)⟩
    have := World.ownsRow.cells h (g := g) (by simp [hv, Value.ownBlock]) (5 * k + j) u (rowsV_get hp hj)
    simpa [Addr.add_lit] using this
theorem Own.keep {w w' : World} {base : Nat} {e : TypeId} {size : Nat} {v : Value} {n : Nat} {cs : List Value} (h : w.ownsRow base e size v n cs) (hs : ∀ k, v.ownBlock = some k → w'.heap[k]? = w.heap[k]?) : w'.ownsRow base e size v n cs := by
  refine ⟨h.1, ?_⟩
  rcases h.2 with h2 | ⟨g, cap, cur, hv, hg, hh, r⟩
  · exact .inl h2
  · exact .inr ⟨g, cap, cur, hv, hg, by rw [hs g (by rw [hv]; rfl)]; exact hh, r⟩
theorem append_vt {w : World} {base : Nat} {v : Value} {acc : List (Vt × Value × Value)} (hown : w.ownsRow base 64 5 v acc.length (rowsV acc)) (t : Vt) (s1 s2 : Value) (h1 : s1.oneCell' = true) (h2 : s2.oneCell' = true) (hn : acc.length ≤ 1000000) (hb : base ≤ w.heap.size) :
    ∃ v' w', (Builtin.append_ #[62, 62] 62 #[v, .slice (some ⟨w.heap.size, 0, none⟩) 1 1]).run ZP (w.alloc (.cells #[.int .i64 t.k, .int .i64 t.n, .string t.s, s1, s2] 64)) = .ok v' w' ∧ w'.ownsRow base 64 5 v' (acc ++ [(t, s1, s2)]).length (rowsV (acc ++ [(t, s1, s2)])) ∧
      (∀ k, k < w.heap.size → v.ownBlock ≠ some k → w'.heap[k]? = w.heap[k]?) ∧ (∀ {w0 : World}, Ext w0 w → w0.heap.size ≤ base → Ext w0 w') ∧ (∀ k, v'.ownBlock = some k → v.ownBlock = some k ∨ w.heap.size < k) ∧ w.heap.size ≤ w'.heap.size := by
  have hi : ∃ i, (ZP).info? 64 = some i := by
    have := tok_64
    unfold tok at this
    simp only [Bool.and_eq_true] at this
    exact Option.isSome_iff_exists.1 this.1
  obtain ⟨i, hi⟩ := hi
  have hz : i.zero = some (.agg #[.int .i64 0, .int .i64 0, .string ⟨#[]⟩, .slice none 0 0, .slice none 0 0]) := by
    have := tzero_64
    simpa [tzero, hi] using this
  have e5 : tsz ZP 64 = 5 := tsz_64
  have eb : tbytes ZP 64 = 80 := tby_64
  have hx1 : Ext w (w.alloc (.cells #[.int .i64 t.k, .int .i64 t.n, .string t.s, s1, s2] 64)) := Ext.alloc _ _
  obtain ⟨v', w', g1, g2, g3, _, g5⟩ := run_append_own_at (P := ZP) (w.alloc (.cells #[.int .i64 t.k, .int .i64 t.n, .string t.s, s1, s2] 64)) base 62 62 64 i _ 5 80 (telem_some telem_62) hi hz (by rw [← e5]; simp [tsz, hi]) (by rw [← eb]; simp [tbytes, hi]) rfl (by omega)
    v acc.length (rowsV acc) (Own.ext hown hx1) ⟨w.heap.size, 0, none⟩ 1 1 (vtCs t s1 s2) rfl (fun j u hj => by rw [Addr.add_lit, World.cell?_alloc_new]; simpa [vtCs] using hj)
    (fun u hu => by simp [vtCs] at hu; rcases hu with rfl | rfl | rfl | rfl | rfl <;> first | rfl | assumption) (by unfold maxLen; omega) (by omega) (Nat.le_trans hb hx1.size)
  refine ⟨v', w', g1, ?_, fun k hk hne => ?_, fun h0 hb0 => (h0.trans hx1).grown g3 (fun k hk => Nat.le_trans hb0 (World.ownsRow.lt hown k hk).1), fun k hk => ?_, Nat.le_trans hx1.size g3.size⟩
  · rw [rowsV_app, List.length_append]
    simpa [rowsV] using g2
  · rw [g3.block k (Nat.lt_of_lt_of_le hk hx1.size) (fun e => hne e.symm)]
    exact hx1.block k hk
  · rcases g5 with g5 | g5
    · exact .inl (by rw [← g5]; exact hk)
    · right
      rw [g5, World.size_alloc] at hk
      simp only [Option.some.injEq] at hk
      omega
theorem put5 {w : World} {b : Nat} {x0 x1 x2 x3 x4 : Value} (h : Bk w b [x0, x1, x2, x3, x4] 64) (a0 a1 a2 a3 a4 : Value) :
    (∃ x, w.cell? ⟨b, 0, none⟩ = some x) ∧ w.frozen? ⟨b, 0, none⟩ = false ∧ (∃ x, (w.setCell ⟨b, 0, none⟩ a0).cell? ⟨b, 1, none⟩ = some x) ∧ (w.setCell ⟨b, 0, none⟩ a0).frozen? ⟨b, 1, none⟩ = false ∧
    (∃ x, ((w.setCell ⟨b, 0, none⟩ a0).setCell ⟨b, 1, none⟩ a1).cell? ⟨b, 2, none⟩ = some x) ∧ ((w.setCell ⟨b, 0, none⟩ a0).setCell ⟨b, 1, none⟩ a1).frozen? ⟨b, 2, none⟩ = false ∧
    (∃ x, (((w.setCell ⟨b, 0, none⟩ a0).setCell ⟨b, 1, none⟩ a1).setCell ⟨b, 2, none⟩ a2).cell? ⟨b, 3, none⟩ = some x) ∧ (((w.setCell ⟨b, 0, none⟩ a0).setCell ⟨b, 1, none⟩ a1).setCell ⟨b, 2, none⟩ a2).frozen? ⟨b, 3, none⟩ = false ∧
    (∃ x, ((((w.setCell ⟨b, 0, none⟩ a0).setCell ⟨b, 1, none⟩ a1).setCell ⟨b, 2, none⟩ a2).setCell ⟨b, 3, none⟩ a3).cell? ⟨b, 4, none⟩ = some x) ∧ ((((w.setCell ⟨b, 0, none⟩ a0).setCell ⟨b, 1, none⟩ a1).setCell ⟨b, 2, none⟩ a2).setCell ⟨b, 3, none⟩ a3).frozen? ⟨b, 4, none⟩ = false ∧
    Bk (((((w.setCell ⟨b, 0, none⟩ a0).setCell ⟨b, 1, none⟩ a1).setCell ⟨b, 2, none⟩ a2).setCell ⟨b, 3, none⟩ a3).setCell ⟨b, 4, none⟩ a4) b [a0, a1, a2, a3, a4] 64 ∧
    (∀ {w0 : World}, Ext w0 w → w0.heap.size ≤ b → Ext w0 (((((w.setCell ⟨b, 0, none⟩ a0).setCell ⟨b, 1, none⟩ a1).setCell ⟨b, 2, none⟩ a2).setCell ⟨b, 3, none⟩ a3).setCell ⟨b, 4, none⟩ a4)) ∧
    ∀ k, k ≠ b → (((((w.setCell ⟨b, 0, none⟩ a0).setCell ⟨b, 1, none⟩ a1).setCell ⟨b, 2, none⟩ a2).setCell ⟨b, 3, none⟩ a3).setCell ⟨b, 4, none⟩ a4).heap[k]? = w.heap[k]? := by
  have h1 := h.set 0 a0
  have h2 := h1.set 1 a1
  have h3 := h2.set 2 a2
  have h4 := h3.set 3 a3
  refine ⟨⟨x0, h.get rfl⟩, h.frozen 0, ⟨x1, h1.get rfl⟩, h1.frozen 1, ⟨x2, h2.get rfl⟩, h2.frozen 2, ⟨x3, h3.get rfl⟩, h3.frozen 3, ⟨x4, h4.get rfl⟩, h4.frozen 4, h4.set 4 a4, fun h hb => ((((h.setCell hb _).setCell hb _).setCell hb _).setCell hb _).setCell hb _, fun k hk => ?_⟩
  rw [Below.heap_setCell _ _ _ _ hk, Below.heap_setCell _ _ _ _ hk, Below.heap_setCell _ _ _ _ hk, Below.heap_setCell _ _ _ _ hk, Below.heap_setCell _ _ _ _ hk]
theorem bv_v0 : buildV ZP 64 [] = some (.agg #[.int .i64 0, .int .i64 0, .string ⟨#[]⟩, .slice none 0 0, .slice none 0 0]) := by kernel_rfl
theorem bv_v2 (k n : Int) : buildV ZP 64 [(0, .int .i64 k), (1, .int .i64 n)] = some (.agg #[.int .i64 k, .int .i64 n, .string ⟨#[]⟩, .slice none 0 0, .slice none 0 0]) := by kernel_rfl
theorem bv_v3 (k n : Int) (q : Option Addr) (m c : Nat) : buildV ZP 64 [(0, .int .i64 k), (1, .int .i64 n), (4, .slice q m c)] = some (.agg #[.int .i64 k, .int .i64 n, .string ⟨#[]⟩, .slice none 0 0, .slice q m c]) := by kernel_rfl
theorem bs_v (k n : Int) (s : ByteArray) (s1 s2 : Value) : buildS ZP 62 1 [(0, .agg #[.int .i64 k, .int .i64 n, .string s, s1, s2])] = some (64, #[.int .i64 k, .int .i64 n, .string s, s1, s2]) := by kernel_rfl
theorem valid_nums {c : Ch} (h : c.valid = true) : (0 ≤ c.d ∧ c.d ≤ 1000000000) ∧ ∀ n ∈ c.L, 0 ≤ n ∧ n ≤ 1000000000 := by
  unfold Ch.valid at h
  simp only [Bool.and_eq_true] at h
  obtain ⟨⟨h1, _⟩, h3⟩ := h
  have mem : ∀ n ∈ c.L, 0 ≤ n ∧ n ≤ 1000000000 := fun n hn => by
    have := List.all_eq_true.1 h1 n hn
    simpa [inT] using this
  have bd : ∀ i, 0 ≤ c.L.getD i 0 ∧ c.L.getD i 0 ≤ 1000000000 := fun i => by
    by_cases hi : i < c.L.length
    · rw [getD_get hi]; exact mem _ (List.getElem_mem hi)
    · rw [List.getD_eq_getElem?_getD, List.getElem?_eq_none (by omega)]; exact ⟨Int.le_refl _, by simp⟩
  refine ⟨?_, mem⟩
  unfold Ch.has at h3
  split at h3
  · exact mem _ (by simpa using h3)
  · simp only [Bool.and_eq_true,decide_eq_true_eq] at h3
    have b0 := bd 0
    have b1 := bd 1
    unfold Ch.lo Ch.hi at h3
    omega
end Go.Proofs.YthcdnjbhhaonhaaGreatDoor

/- Layer 32: scores put together, by the program and by the reference. -/
import Derived.Test.YtdkdibeimeaakabGreatDoorQsScD

namespace Go.Proofs.YtdkdibeimeaakabGreatDoor
open Go.RowKit
open Nat renaming reduceEqDiff → ZA, reduceAdd → ZB, reduceMul → ZC, reduceSub → ZD
open Int renaming reduceToNat → ZE, reduceEq → ZF, reduceLT → ZG, reduceLE → ZH, reduceNeg → ZI
open Go.Value renaming oneCell' → ZK, cells → ZJ
open Go.Proofs.Tryz renaming prog → ZP
set_option linter.unusedSimpArgs false
set_option linter.unusedVariables false
theorem SlE.tail {w : World} {b o n cap : Nat} {x : Ev} {l : List Ev} (h : SlE w (.slice (some ⟨b, o, none⟩) n cap) (x :: l)) (q : Option Addr) (hq : l ≠ [] → q = some ⟨b, o + 10, none⟩) (hq2 : q ≠ none) : SlE w (.slice q l.length (cap - 1)) l := by
  obtain ⟨p', cap', h1, h2, h3, h5, h4⟩ := h
  cases h1
  simp only [List.length_cons] at h2
  refine ⟨q, cap - 1, rfl, by omega, by omega, ⟨fun y hy => h5.1 y (List.mem_cons_of_mem _ hy), fun h => absurd h hq2⟩, fun hne => ⟨b, o + 10, hq hne, fun j v hj => ?_⟩⟩
  obtain ⟨b', o', h6, h7⟩ := h4 (by simp)
  cases h6
  have := h7 (10 + j) v (by rw [rowsE_cons, List.getElem?_append_right (by rw [evC_len]; omega), evC_len, show 10 + j - 10 = j by omega]; exact hj)
  rw [show o + 10 + j = o + (10 + j) by omega]
  exact this
theorem SlE.take {w : World} {p : Option Addr} {n cap k : Nat} {l : List Ev} (h : SlE w (.slice p n cap) l) (hk : k ≤ l.length) : SlE w (.slice p k cap) (l.take k) := by
  obtain ⟨p', cap', h1, h2, h3, h5, h4⟩ := h
  cases h1
  have hl : (l.take k).length = k := by rw [List.length_take]; omega
  refine ⟨p, cap, by rw [hl], by omega, h3, ⟨fun y hy => h5.1 y (List.mem_of_mem_take hy), h5.2⟩, fun hne => ?_⟩
  obtain ⟨b, o, h6, h7⟩ := h4 (by intro h0; rw [h0] at hne; simp at hne)
  refine ⟨b, o, h6, fun j v hj => h7 j v ?_⟩
  have hsp : rowsE l = rowsE (l.take k) ++ rowsE (l.drop k) := by rw [← rowsE_app, List.take_append_drop]
  rw [hsp, List.getElem?_append_left (List.getElem?_eq_some_iff.1 hj).1]
  exact hj
theorem SlE.drop {w : World} {b o n cap k : Nat} {l : List Ev} (h : SlE w (.slice (some ⟨b, o, none⟩) n cap) l) (hk : k ≤ l.length) (q : Option Addr) (hq : k < l.length → q = some ⟨b, o + 10 * k, none⟩) (hq2 : q ≠ none) : SlE w (.slice q (l.length - k) (cap - k)) (l.drop k) := by
  obtain ⟨p', cap', h1, h2, h3, h5, h4⟩ := h
  cases h1
  refine ⟨q, cap - k, by rw [List.length_drop], by rw [List.length_drop]; omega, by omega, ⟨fun y hy => h5.1 y (List.mem_of_mem_drop hy), fun h => absurd h hq2⟩, fun hne => ?_⟩
  have hkl : k < l.length := by
    rcases Nat.lt_or_ge k l.length with h | h
    · exact h
    · exact absurd (List.drop_eq_nil_of_le h) hne
  obtain ⟨b', o', h6, h7⟩ := h4 (by intro h0; rw [h0] at hkl; simp at hkl)
  cases h6
  refine ⟨b, o + 10 * k, hq hkl, fun j v hj => ?_⟩
  have hsp : rowsE l = rowsE (l.take k) ++ rowsE (l.drop k) := by rw [← rowsE_app, List.take_append_drop]
  have hlt : (rowsE (l.take k)).length = 10 * k := by rw [rowsE_len, List.length_take]; omega
  have := h7 (10 * k + j) v (by rw [hsp, List.getElem?_append_right (by rw [hlt]; omega), hlt, show 10 * k + j - 10 * k = j by omega]; exact hj)
  rw [show o + 10 * k + j = o + (10 * k + j) by omega]
  exact this
def OwnE (w : World) (base : Nat) (v : Value) (l : List Ev) : Prop := w.ownsRow base 49 10 v l.length (rowsE l) ∧ ∀ x ∈ l, EvOk x
theorem OwnE.ext {w w' : World} {base : Nat} {v : Value} {l : List Ev} (h : OwnE w base v l) (he : Ext w w') : OwnE w' base v l := ⟨Own.ext h.1 he, h.2⟩
theorem OwnE.mono {w : World} {base base' : Nat} {v : Value} {l : List Ev} (h : OwnE w base v l) (hb : base' ≤ base) : OwnE w base' v l := ⟨Own.mono h.1 hb, h.2⟩
theorem OwnE.sl {w : World} {base : Nat} {v : Value} {l : List Ev} (h : OwnE w base v l) : SlE w v l := by
  have hl := rowsE_len l
  rcases h.1.2 with ⟨hv, h0⟩ | ⟨g, cap, cur, hv, hb, hg, h1, h2, h3, h4⟩
  · have : l = [] := List.length_eq_zero_iff.1 h0
    subst this
    rw [hv]; exact SlE.nil w
  · refine ⟨some ⟨g, 0, none⟩, cap, hv, h1, h2, ⟨h.2, fun h => by cases h⟩, fun _ => ⟨g, 0, rfl, fun k u hk => ?_⟩⟩
    have := World.ownsRow.cells h.1 (g := g) (by simp [hv, Value.ownBlock]) k u hk
    simpa [Addr.add_lit] using this
theorem OwnE.nil (w : World) (base : Nat) : OwnE w base (.slice none 0 0) [] := ⟨World.ownsRow_nil _ _ _ _, fun x hx => absurd hx (by simp)⟩
theorem append_none (w : World) (p : Option Addr) (n cap : Nat) (h : n ≤ cap) : (Builtin.append_ #[22, 22] 22 #[.slice p n cap, .slice none 0 0]).run ZP w = .ok (.slice p n cap) w := by
  have hi : ∃ i, (ZP).info? 49 = some i := by
    have := tok_49
    unfold tok at this
    simp only [Bool.and_eq_true] at this
    exact Option.isSome_iff_exists.1 this.1
  obtain ⟨i, hi⟩ := hi
  cases p <;> simp [Builtin.append_, run_underlying (telem_some telem_22), sizeOf, typeInfo, hi, Builtin.lenOf, h, Builtin.firstCells, run_firstCells_none, storeCells, Result.andThen]
theorem append_evs {w : World} {base : Nat} {v v2 : Value} {gs l : List Ev} (hown : OwnE w base v gs) (h2 : SlE w v2 l) (hn : gs.length + l.length ≤ 100000) (hb : base ≤ w.heap.size) :
    ∃ v' w', (Builtin.append_ #[22, 22] 22 #[v, v2]).run ZP w = .ok v' w' ∧ OwnE w' base v' (gs ++ l) ∧ (∀ {w0 : World}, Ext w0 w → w0.heap.size ≤ base → Ext w0 w') ∧ ∀ k, k < w.heap.size → v.ownBlock ≠ some k → w'.heap[k]? = w.heap[k]? := by
  obtain ⟨p, cap, rfl, hc1, hc2, ⟨hok, hpn⟩, hrow⟩ := h2
  have hok2 : ∀ x ∈ gs ++ l, EvOk x := fun x hx => (List.mem_append.1 hx).elim (hown.2 x) (hok x)
  cases p with
  | none =>
    have hc0 := hpn rfl
    subst hc0
    obtain rfl : l = [] := List.length_eq_zero_iff.1 (by omega)
    obtain ⟨q, c, rfl, hq1, _⟩ := hown.sl.shape
    exact ⟨_, w, append_none w q gs.length c hq1, by rw [List.append_nil]; exact hown, fun h _ => h, fun k _ _ => rfl⟩
  | some a =>
    obtain ⟨v', w', ha, hown', hg⟩ := append_own (P := ZP) (w := w) (t := 22) (ty := 22) (z := .agg #[.int .i64 0, .int .i64 0, .int .i64 0, .int .i64 0, .int .i64 0, .string ⟨#[]⟩, .int .i64 0, .int .i64 0, .string ⟨#[]⟩, .bool false]) (ats := [22, 22]) rfl telem_22 tok_49 tzero_49 (by rw [tsz_49]; rfl) (by rw [tsz_49]; omega)
      (by rw [tsz_49]; exact hown.1) (a := a) (m := l.length) (c := cap) (news := rowsE l) (by rw [tsz_49, rowsE_len]; omega)
      (fun j u hj => by
        obtain ⟨b, o, h6, h7⟩ := hrow (by intro h0; rw [h0] at hj; simp [rowsE] at hj)
        cases h6
        rw [Addr.add_lit]; exact h7 j u hj)
      (fun u hu => by
        obtain ⟨x, _, hx⟩ := List.mem_flatMap.1 hu
        simp only [evC,List.mem_cons,List.not_mem_nil,or_false] at hx
        rcases hx with rfl | rfl | rfl | rfl | rfl | rfl | rfl | rfl | rfl | rfl <;> rfl) (by unfold maxLen; omega) (by rw [tby_49]; omega) hb
    refine ⟨v', w', ha, ⟨?_, hok2⟩, fun h0 hb0 => h0.grown hg (fun k hk => Nat.le_trans hb0 (World.ownsRow.lt hown.1 k hk).1), fun k hk hne => hg.block k hk (fun e => hne e.symm)⟩
    rw [tsz_49] at hown'
    rw [rowsE_app, List.length_append]
    exact hown'
theorem one_ev (w : World) (x : Ev) (hx : EvOk x) : SlE (w.alloc (.cells (evC x).toArray 49)) (.slice (some ⟨w.heap.size, 0, none⟩) 1 1) [x] := by
  refine ⟨_, 1, rfl, by simp, by unfold maxLen; omega, ⟨fun y hy => by simp at hy; rw [hy]; exact hx, fun h => by cases h⟩, fun _ => ⟨w.heap.size, 0, rfl, ?_⟩⟩
  have : rowsE [x] = evC x := by simp [rowsE]
  rw [this]
  exact row_new w _ _
theorem append_ev {w : World} {base : Nat} {v : Value} {gs : List Ev} (hown : OwnE w base v gs) (x : Ev) (hx : EvOk x) (hn : gs.length ≤ 99999) (hb : base ≤ w.heap.size) :
    ∃ v' w', (Builtin.append_ #[22, 22] 22 #[v, .slice (some ⟨w.heap.size, 0, none⟩) 1 1]).run ZP (w.alloc (.cells #[.int .i64 x.num, .int .i64 x.den, .int .i64 x.o.t, .int .i64 x.o.d, .int .i64 x.o.id, .string x.o.syn, .int .i64 x.o.to, .int .i64 x.o.n, .string x.o.par, .bool x.c] 49)) = .ok v' w' ∧ OwnE w' base v' (gs ++ [x]) ∧ ∀ {w0 : World}, Ext w0 w → w0.heap.size ≤ base → Ext w0 w' := by
  obtain ⟨v', w', h1, h2, h3, _⟩ := append_evs (hown.ext (Ext.alloc w (.cells (evC x).toArray 49))) (one_ev w x hx) (by simp; omega) (by rw [World.size_alloc]; omega)
  exact ⟨v', w', h1, h2, fun h0 hb0 => h3 (h0.trans (Ext.alloc _ _)) hb0⟩
theorem bs_ev (x : Ev) : buildS ZP 22 1 [(0, .agg #[.int .i64 x.num, .int .i64 x.den, .int .i64 x.o.t, .int .i64 x.o.d, .int .i64 x.o.id, .string x.o.syn, .int .i64 x.o.to, .int .i64 x.o.n, .string x.o.par, .bool x.c])] = some (49, #[.int .i64 x.num, .int .i64 x.den, .int .i64 x.o.t, .int .i64 x.o.d, .int .i64 x.o.id, .string x.o.syn, .int .i64 x.o.to, .int .i64 x.o.n, .string x.o.par, .bool x.c]) := by kernel_rfl
theorem bs_ev0 : buildS ZP 22 0 [] = some (49, #[]) := by kernel_rfl
theorem mless_c (x y : Ev) (w : World) (hx : beatB x.num x.den = true) (hy : beatB y.num y.den = true) : Rets ZP 46 #[evV x, evV y] w fun r w' => r = .bool (decide (tick x < tick y)) ∧ Ext w w' := by
  obtain ⟨W, hW, A, x0⟩ := new_bk' w (evC x) 49
  obtain ⟨W2, hW2, B, x1⟩ := new_bk' W (evC y) 49
  have A2 := A.ext x1
  have a0 := A2.get (o := 0) rfl
  have a1 := A2.get (o := 1) rfl
  have a2 := A2.get (o := 2) rfl
  have a3 := A2.get (o := 3) rfl
  have a4 := A2.get (o := 4) rfl
  have a5 := A2.get (o := 5) rfl
  have a6 := A2.get (o := 6) rfl
  have a7 := A2.get (o := 7) rfl
  have a8 := A2.get (o := 8) rfl
  have a9 := A2.get (o := 9) rfl
  have b0 := B.get (o := 0) rfl
  have b1 := B.get (o := 1) rfl
  have b2 := B.get (o := 2) rfl
  have b3 := B.get (o := 3) rfl
  have b4 := B.get (o := 4) rfl
  have b5 := B.get (o := 5) rfl
  have b6 := B.get (o := 6) rfl
  have b7 := B.get (o := 7) rfl
  have b8 := B.get (o := 8) rfl
  have b9 := B.get (o := 9) rfl
  simp only [evC] at hW hW2
  refine en46 ?_
  simp -dsimp -implicitDefEqProofs only [evV,← hW,← hW2,m46,sF46,ZA,↓reduceIte,ZB,ZC,ZJ,ZK,ZE,ZF,ZG,ZH,ZI,reduceCtorEq,ZD,mwV,↓mwD,mwU]
  clear hW hW2
  refine mwpB_drawE ?_
  simp -dsimp -implicitDefEqProofs only [a0,a1,a2,a3,a4,a5,a6,a7,a8,a9,b0,b1,b2,b3,b4,b5,b6,b7,b8,b9,m46,sF46,ZA,↓reduceIte,ZB,ZC,ZJ,ZK,ZE,ZF,ZG,ZH,ZI,reduceCtorEq,ZD,mwV,↓mwD,mwU]
  refine (tick_c x W2.drew hx).use ?_
  rintro r w1 ⟨rfl, h1⟩
  simp -dsimp -implicitDefEqProofs only [h1,m46,sF46,ZA,↓reduceIte,ZB,ZC,ZJ,ZK,ZE,ZF,ZG,ZH,ZI,reduceCtorEq,ZD,mwV,↓mwD,mwU]
  refine (tick_c y w1 hy).use ?_
  rintro r w2 ⟨rfl, h2⟩
  have h12 := h1.trans h2
  simp -dsimp -implicitDefEqProofs only [h12,m46,sF46,ZA,↓reduceIte,ZB,ZC,ZJ,ZK,ZE,ZF,ZG,ZH,ZI,reduceCtorEq,ZD,mwV,↓mwD,mwU]
  exact x0.trans (x1.trans ((Ext.drew W2).trans h12))
end Go.Proofs.YtdkdibeimeaakabGreatDoor

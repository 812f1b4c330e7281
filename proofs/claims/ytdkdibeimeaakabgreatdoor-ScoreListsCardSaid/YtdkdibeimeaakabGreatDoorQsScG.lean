/- Layer 32: Merge, by the program and by the reference, second part. -/
import Derived.Test.YtdkdibeimeaakabGreatDoorQsScF

namespace Go.Proofs.YtdkdibeimeaakabGreatDoor
open Go.RowKit
open Nat renaming reduceEqDiff → ZA, reduceAdd → ZB, reduceMul → ZC, reduceSub → ZD
open Int renaming reduceToNat → ZE, reduceEq → ZF, reduceLT → ZG, reduceLE → ZH, reduceNeg → ZI
open Go.Value renaming oneCell' → ZK, cells → ZJ
open Go.Proofs.Tryz renaming prog → ZP
set_option linter.unusedSimpArgs false
set_option linter.unusedVariables false
def mergeS (A B : List Ev) : List Ev × Int := if validS A = false ∨ validS B = false then ([], 1) else if 300 < A.length + B.length then ([], 4) else (mergeF A B, 0)
def EvQ (p : List Ev × Int) (w : World) (r : Value) (w' : World) : Prop := Ext w w' ∧ ∃ v, r = .tuple #[v, .int .i64 p.2] ∧ SlE w' v p.1
theorem EvQ.none {p : List Ev × Int} {w w' : World} {c : Int} (h : p = ([], c)) (hx : Ext w w') : EvQ p w (.tuple #[.slice none 0 0, .int .i64 c]) w' := by
  subst h; exact ⟨hx, _, rfl, SlE.nil _⟩
theorem EvQ.some {p : List Ev × Int} {w w' : World} {l : List Ev} {v : Value} (h : p = (l, 0)) (hx : Ext w w') (hs : SlE w' v l) : EvQ p w (.tuple #[v, .int .i64 0]) w' := by
  subst h; exact ⟨hx, _, rfl, hs⟩
theorem sMerge_c (A B : List Ev) (va vb : Value) (w : World) (hA : SlE w va A) (hB : SlE w vb B) : Rets ZP 21 #[va, vb] w (EvQ (mergeS A B) w) := by
  obtain ⟨qa, ca, rfl, ca1, ca2⟩ := hA.shape
  obtain ⟨qb, cb, rfl, cb1, cb2⟩ := hB.shape
  refine en21 ?_
  simp -dsimp -implicitDefEqProofs only [m21,sF21,ZA,↓reduceIte,ZB,ZC,ZJ,ZK,ZE,ZF,ZG,ZH,ZI,reduceCtorEq,ZD,mwV,↓mwD,mwU]
  refine (sValid_c A _ w hA).use ?_
  rintro r w1 ⟨rfl, h1⟩
  cases vA : validS A
  · simp -dsimp -implicitDefEqProofs only [m21,sF21,ZA,↓reduceIte,ZB,ZC,ZJ,ZK,ZE,ZF,ZG,ZH,ZI,reduceCtorEq,ZD,mwV,↓mwD,mwU]
    exact .none (by unfold mergeS; rw [if_pos (.inl vA)]) h1
  simp -dsimp -implicitDefEqProofs only [m21,sF21,ZA,↓reduceIte,ZB,ZC,ZJ,ZK,ZE,ZF,ZG,ZH,ZI,reduceCtorEq,ZD,mwV,↓mwD,mwU]
  refine (sValid_c B _ w1 (hB.ext h1)).use ?_
  rintro r w2 ⟨rfl, h2⟩
  have hx2 := h1.trans h2
  cases vB : validS B
  · simp -dsimp -implicitDefEqProofs only [m21,sF21,ZA,↓reduceIte,ZB,ZC,ZJ,ZK,ZE,ZF,ZG,ZH,ZI,reduceCtorEq,ZD,mwV,↓mwD,mwU]
    exact .none (by unfold mergeS; rw [if_pos (.inr vB)]) hx2
  have hnv : ¬ (validS A = false ∨ validS B = false) := by rw [vA, vB]; simp
  have lA := ((validS_iff A).1 vA).1
  have lB := ((validS_iff B).1 vB).1
  have hsum : IntKind.i64.wrap ((A.length : Int) + B.length) = (A.length : Int) + B.length := w64 (by omega) (by omega)
  by_cases h300 : (300 : Int) < (A.length : Int) + B.length
  · simp -dsimp -implicitDefEqProofs only [hsum,h300,m21,sF21,ZA,↓reduceIte,ZB,ZC,ZJ,ZK,ZE,ZF,ZG,ZH,ZI,reduceCtorEq,ZD,mwV,↓mwD,mwU]
    exact .none (by unfold mergeS; rw [if_neg hnv, if_pos (by omega)]) hx2
  · simp -dsimp -implicitDefEqProofs only [hsum,h300,m21,sF21,ZA,↓reduceIte,ZB,ZC,ZJ,ZK,ZE,ZF,ZG,ZH,ZI,reduceCtorEq,ZD,mwV,↓mwD,mwU]
    refine (merged_c A B _ _ w2 (hA.ext hx2) (hB.ext hx2) (Beats.of vA) (Beats.of vB) (by omega)).use ?_
    rintro r w3 ⟨h3, hown⟩
    simp -dsimp -implicitDefEqProofs only [m21,sF21,ZA,↓reduceIte,ZB,ZC,ZJ,ZK,ZE,ZF,ZG,ZH,ZI,reduceCtorEq,ZD,mwV,↓mwD,mwU]
    exact .some (by unfold mergeS; rw [if_neg hnv, if_neg (by omega)]) (hx2.trans h3) hown.sl
theorem putF_split {x : Ev} : ∀ {l : List Ev} {k : Nat}, k ≤ l.length → (∀ j (h : j < l.length), j < k → ¬ tick x < tick l[j]) → (∀ h : k < l.length, tick x < tick l[k]) → putF l x = l.take k ++ x :: l.drop k
  | [], k, hk, _, _ => by
    have : k = 0 := by simpa using hk
    subst this; rfl
  | y :: l, 0, hk, _, h2 => by
    unfold putF
    have h2' : tick x < tick y := h2 (by simp)
    rw [if_pos h2']
    rfl
  | y :: l, k + 1, hk, h1, h2 => by
    unfold putF
    have h1' : ¬ tick x < tick y := h1 0 (by simp) (by omega)
    rw [if_neg h1', putF_split (l := l) (k := k) (by simpa using hk) (fun j h hj => h1 (j + 1) (by simpa using h) (by omega)) (fun h => h2 (by simpa using h))]
    rfl
theorem SlE.keep {w w' : World} {v : Value} {l : List Ev} (h : SlE w v l) (hk : ∀ b o n c, v = .slice (some ⟨b, o, none⟩) n c → w'.heap[b]? = w.heap[b]?) : SlE w' v l := by
  obtain ⟨p, cap, h1, h2, h3, h5, h4⟩ := h
  refine ⟨p, cap, h1, h2, h3, h5, fun hne => ?_⟩
  obtain ⟨b, o, h6, h7⟩ := h4 hne
  refine ⟨b, o, h6, fun j u hj => ?_⟩
  have hb := hk b o _ _ (by rw [h1, h6])
  have := h7 j u hj
  unfold World.cell? at this ⊢
  simp only at this ⊢
  rw [hb]
  exact this
theorem own_none (w : World) (base : Nat) (hb : base ≤ w.heap.size) : OwnE (w.alloc (.cells #[] 49)) base (.slice (some ⟨w.heap.size, 0, none⟩) 0 0) [] :=
  ⟨own_new w [] 49 base 0 10 rfl hb (by simp), fun x hx => absurd hx (by simp)⟩
theorem put_three {w W : World} {v0 sx s1 s2 : Value} {x : Ev} {l : List Ev} {k : Nat} (hW : Ext w W) (h0 : OwnE W w.heap.size v0 []) (hx : SlE W sx [x]) (hne : ∀ b o n c, sx = .slice (some ⟨b, o, none⟩) n c → b < W.heap.size ∧ v0.ownBlock ≠ some b) (h1 : SlE w s1 (l.take k)) (h2 : SlE w s2 (l.drop k)) (hl : l.length ≤ 1000) :
    ∃ v1 W1, (Builtin.append_ #[22, 22] 22 #[v0, s1]).run ZP W = .ok v1 W1 ∧ Ext w W1 ∧ ∃ v2 W2, (Builtin.append_ #[22, 22] 22 #[v1, sx]).run ZP W1 = .ok v2 W2 ∧ Ext w W2 ∧
      ∃ v3 W3, (Builtin.append_ #[22, 22] 22 #[v2, s2]).run ZP W2 = .ok v3 W3 ∧ Ext w W3 ∧ OwnE W3 w.heap.size v3 (l.take k ++ x :: l.drop k) := by
  have lt : (l.take k).length ≤ l.length := by rw [List.length_take]; omega
  have ld : (l.drop k).length ≤ l.length := by rw [List.length_drop]; omega
  obtain ⟨v1, W1, a1, o1, e1, k1⟩ := append_evs h0 (h1.ext hW) (by simp only [List.length_nil]; omega) hW.size
  have x1 := e1 hW (Nat.le_refl _)
  have hx1 : SlE W1 sx [x] := hx.keep fun b o n c he => k1 b (hne b o n c he).1 (hne b o n c he).2
  obtain ⟨v2, W2, a2, o2, e2, _⟩ := append_evs o1 hx1 (by simp only [List.nil_append,List.length_cons,List.length_nil]; omega) x1.size
  have x2 := e2 x1 (Nat.le_refl _)
  obtain ⟨v3, W3, a3, o3, e3, _⟩ := append_evs o2 (h2.ext x2) (by simp only [List.nil_append,List.length_append,List.length_cons,List.length_nil]; omega) x2.size
  refine ⟨v1, W1, a1, x1, v2, W2, a2, x2, v3, W3, a3, e3 x2 (Nat.le_refl _), ?_⟩
  simpa using o3
theorem planB_two {P : Program} {S : World → Prop} {e : Env} {ds : List Deferred} {w : World} {K : Env → List Deferred → World → Prop} {X : List PanicEntry → List Deferred → World → Prop} (d : Option Tmp) (op : Op) (ty : TypeId) (r m : MP) (t) :
    planB P S (.alt ⟨d, op, ty, none⟩ r m) e ds w K X t = (opB P ⟨d, op, ty, none⟩ e ds w (fun v ds w => S w ∧ planB P S r (updO e d v) ds w K X ⟨⟩) X ⟨⟩ ∧ planB P S m e ds w K X ⟨⟩) := by
  unfold planB opB
  simp [planW, wantedW]
theorem slc_take {q : Option Addr} {n cap k : Nat} (h : k ≤ n) (h2 : n ≤ cap) : slcV ZP 22 (.slice q n cap) none (some (.int .i64 k)) = some (.slice q k cap) := by
  rw [slcV_slice, telem_22, boundV_none, boundV_some]
  simp only [Option.bind_some,tok_49,if_true]
  rw [if_pos ⟨by omega, by omega, by omega⟩]
  have e1 : ((k : Int) - 0).toNat = k := by omega
  have e2 : ((cap : Int) - 0).toNat = cap := by omega
  have e3 : q.map (·.add ((0 : Int).toNat * tsz ZP 49)) = q := by
    cases q with
    | none => rfl
    | some a =>
      have : a.add ((0 : Int).toNat * tsz ZP 49) = a := by
        rw [show ((0 : Int).toNat * tsz ZP 49) = 0 by simp]
        unfold Addr.add
        rw [if_pos rfl]
      simp only [Option.map_some,this]
  rw [e1, e2, e3]
  split <;> rfl
def dropP (q : Option Addr) (cap k : Nat) : Option Addr := if (cap : Int) = k then q else q.map (·.add (k * 10))
theorem slc_drop {q : Option Addr} {n cap k : Nat} (h : k ≤ n) (h2 : n ≤ cap) : slcV ZP 22 (.slice q n cap) (some (.int .i64 k)) none = some (.slice (dropP q cap k) (n - k) (cap - k)) := by
  rw [slcV_slice, telem_22, boundV_none, boundV_some]
  simp only [Option.bind_some,tok_49,if_true]
  rw [if_pos ⟨by omega, by omega, by omega⟩]
  have e1 : ((n : Int) - k).toNat = n - k := by omega
  have e2 : ((cap : Int) - k).toNat = cap - k := by omega
  rw [e1, e2, Int.toNat_natCast, tsz_49]
  rfl
theorem SlE.drop2 {w : World} {q : Option Addr} {n cap k : Nat} {l : List Ev} (h : SlE w (.slice q n cap) l) (hk : k ≤ l.length) : SlE w (.slice (dropP q cap k) (l.length - k) (cap - k)) (l.drop k) := by
  cases q with
  | none =>
    obtain ⟨p', cap', h1, h2, h3, h5, h4⟩ := h
    cases h1
    have h0 := h5.2 rfl
    subst h0
    obtain rfl : l = [] := List.length_eq_zero_iff.1 (by omega)
    obtain rfl : k = 0 := by simpa using hk
    exact SlE.nil w
  | some a =>
    obtain ⟨b, o, g⟩ := a
    by_cases hne : l = []
    · subst hne
      obtain rfl : k = 0 := by simpa using hk
      obtain ⟨p', cap', h1, h2, h3, h5, h4⟩ := h
      cases h1
      refine ⟨_, cap, rfl, by simp, h3, ⟨fun x hx => absurd hx (by simp), fun h => ?_⟩, fun h => absurd rfl h⟩
      unfold dropP at h
      split at h <;> cases h
    obtain ⟨p', cap', h1, h2, h3, h5, h4⟩ := id h
    cases h1
    obtain ⟨b', o', h6, h7⟩ := h4 hne
    cases h6
    refine h.drop hk _ (fun hlt => ?_) ?_
    · unfold dropP
      rw [if_neg (by omega), Option.map_some, Addr.add_lit, Nat.mul_comm]
    · unfold dropP
      split <;> simp
set_option maxHeartbeats 4000000 in
theorem put_c (l : List Ev) (x : Ev) (vl : Value) (w : World) (hl : SlE w vl l) (hxo : EvOk x) (hx : beatB x.num x.den = true) (hb : Beats l) (hn : l.length ≤ 1000) :
    Rets ZP 47 #[vl, evV x] w fun r w' => Ext w w' ∧ OwnE w' w.heap.size r (putF l x) := by
  obtain ⟨q, cap, rfl, hc1, hc2⟩ := hl.shape
  obtain ⟨W, hW, A, x0⟩ := new_bk' w (evC x) 49
  simp only [evC] at hW
  refine en47 ?_
  simp -dsimp -implicitDefEqProofs only [evV,← hW,m47,sF47,ZA,↓reduceIte,ZB,ZC,ZJ,ZK,ZE,ZF,ZG,ZH,ZI,reduceCtorEq,ZD,mwV,↓mwD,mwU]
  clear hW
  refine mwpB_loop (fun e ds w' => ∃ k : Nat, k ≤ l.length ∧ e 5 = .int .i64 k ∧ e 0 = .slice q l.length cap ∧ e 3 = .pointer (some ⟨w.heap.size, 0, none⟩) ∧ ds = [] ∧ Ext W w' ∧ ∀ j (h : j < l.length), j < k → ¬ tick x < tick l[j])
    (fun e _ => l.length - (intOf (e 5)).toNat) ?_ ?_
  · simp -dsimp -implicitDefEqProofs only [m47,sF47,ZA,↓reduceIte,ZB,ZC,ZJ,ZK,ZE,ZF,ZG,ZH,ZI,reduceCtorEq,ZD,mwV,↓mwD,mwU]
    exact ⟨0, by omega, rfl, Ext.refl _, fun j _ h => by omega⟩
  · rintro e ds w' ⟨k, hk, h5, h0, h3, rfl, hxw, hno⟩
    have AD := A.ext hxw
    have a0 := AD.get (o := 0) rfl
    have a1 := AD.get (o := 1) rfl
    have a2 := AD.get (o := 2) rfl
    have a3 := AD.get (o := 3) rfl
    have a4 := AD.get (o := 4) rfl
    have a5 := AD.get (o := 5) rfl
    have a6 := AD.get (o := 6) rfl
    have a7 := AD.get (o := 7) rfl
    have a8 := AD.get (o := 8) rfl
    have a9 := AD.get (o := 9) rfl
    have st := slc_take (q := q) (cap := cap) hk hc1
    have sd := slc_drop (q := q) (cap := cap) hk hc1
    have hs1 : SlE W (.slice q k cap) (l.take k) := (hl.take hk).ext x0
    have hs2 : SlE W (.slice (dropP q cap k) (l.length - k) (cap - k)) (l.drop k) := (hl.drop2 hk).ext x0
    by_cases hlt : (k : Int) < l.length
    · have hlt' : k < l.length := by omega
      obtain ⟨b, o, rfl, G⟩ := (hl.ext (x0.trans hxw)).get hlt'
      have hb1 : (0 : Int) ≤ k ∧ (k : Int) < l.length := by omega
      have hw := w64_succ hlt' (Nat.le_trans hc1 hc2)
      simp -dsimp -implicitDefEqProofs only [h5,h0,h3,hlt,m47,sF47,ZA,↓reduceIte,ZB,ZC,ZJ,ZK,ZE,ZF,ZG,ZH,ZI,reduceCtorEq,ZD,mwV,↓mwD,mwU]
      refine mwpB_drawE ?_
      simp -dsimp -implicitDefEqProofs only [h5,h0,h3,hlt,hb1,and_self,Int.toNat_natCast,a0,a1,a2,a3,a4,a5,a6,a7,a8,a9,G.c0,G.c1,G.c2,G.c3,G.c4,G.c5,G.c6,G.c7,G.c8,G.c9,m47,sF47,ZA,↓reduceIte,ZB,ZC,ZJ,ZK,ZE,ZF,ZG,ZH,ZI,reduceCtorEq,ZD,mwV,↓mwD,mwU]
      refine (before_c x l[k] w'.drew hx (hb _ (List.getElem_mem hlt'))).use ?_
      rintro r w2 ⟨rfl, h2⟩
      have hX : Ext W w2 := hxw.trans ((Ext.drew w').trans h2)
      by_cases ht : tick x < tick l[k]
      · have fin : putF l x = l.take k ++ x :: l.drop k := putF_split hk hno (fun _ => ht)
        simp -dsimp -implicitDefEqProofs only [h2,h5,h0,h3,ht,m47,sF47,ZA,↓reduceIte,ZB,ZC,ZJ,ZK,ZE,ZF,ZG,ZH,ZI,reduceCtorEq,ZD,mwV,↓mwD,mwU]
        have E1 : EvAt w2 w.heap.size 0 x := EvAt.row ((show Row W w.heap.size 0 (evC x) from fun j u hj => by rw [Nat.zero_add]; exact A.get hj).ext hX)
        have XB := EvAt.load E1
        have hsz : W.heap.size ≤ w2.drew.heap.size := (hX.trans (Ext.drew w2)).size
        refine mwpB_draw (fun w'' => EvAt w'' w.heap.size 0 x) (E1.ext (Ext.drew w2)) ?_
        simp -dsimp -implicitDefEqProofs only [h5,h0,h3,st,sd,m47,sF47,ZA,↓reduceIte,ZB,ZC,ZJ,ZK,eq_self,ne_eq,ZE,ZF,ZG,ZH,ZI,if_true,if_false,reduceCtorEq,ZD,storeV_ptr,↓mwD,mwU]
        refine softB_load (v := evV x) (fun w'' hw => ?_) ?_
        · simp -dsimp -implicitDefEqProofs only [h3,hw.c0,hw.c1,hw.c2,hw.c3,hw.c4,hw.c5,hw.c6,hw.c7,hw.c8,hw.c9,evV,m47,sF47,ZA,↓reduceIte,ZB,ZC,ZJ,ZK,ZE,ZF,ZG,ZH,ZI,reduceCtorEq,ZD,mwV,↓mwD,mwU]
        have keepE : ∀ {w'' : World}, Ext W w'' → EvAt w'' w.heap.size 0 x := fun h => EvAt.row ((show Row W w.heap.size 0 (evC x) from fun j u hj => by rw [Nat.zero_add]; exact A.get hj).ext h)
        have hXd := hX.trans (Ext.drew w2)
        simp -dsimp -implicitDefEqProofs only [h5,h0,h3,st,sd,evV,bs_ev,bs_ev0,planB_two,m47,sF47,ZA,↓reduceIte,ZB,ZC,ZJ,ZK,eq_self,ne_eq,ZE,ZF,ZG,ZH,ZI,if_true,if_false,reduceCtorEq,ZD,storeV_ptr,↓mwD,mwU]
        have lt1 : (l.take k).length ≤ 1000 := by rw [List.length_take]; omega
        have lt2 : (l.drop k).length ≤ 1000 := by rw [List.length_drop]; omega
        have al : ∀ (o : Obj), Ext W (w2.drew.alloc o) := fun o => hXd.trans (Ext.alloc _ _)
        have al2 : ∀ (o o' : Obj), Ext W ((w2.drew.alloc o).alloc o') := fun o o' => (al o).trans (Ext.alloc _ _)
        refine ⟨⟨keepE (al _), ?_, keepE (al2 _ _), ?_⟩, keepE (al _), keepE (al2 _ _), ?_⟩
        · obtain ⟨v1, Wa, p1, o1, e1, _⟩ := append_evs (own_none w2.drew W.heap.size hsz) (hs1.ext (al _)) (by simp only [List.length_nil]; omega) (al _).size
          have xa := e1 (al _) (Nat.le_refl _)
          obtain ⟨v2, Wb, p2, o2, e2⟩ := append_ev o1 x hxo (by simp only [List.nil_append]; omega) xa.size
          have xb := e2 xa (Nat.le_refl _)
          obtain ⟨v3, Wc, p3, o3, e3, _⟩ := append_evs o2 (hs2.ext xb) (by simp only [List.nil_append,List.length_append,List.length_cons,List.length_nil]; omega) xb.size
          have xc := e3 xb (Nat.le_refl _)
          refine appB.mk p1 ⟨keepE xa, ?_⟩
          simp -dsimp -implicitDefEqProofs only [h5,h0,h3,bs_ev,m47,sF47,ZA,↓reduceIte,ZB,ZC,ZJ,ZK,eq_self,ne_eq,ZE,ZF,ZG,ZH,ZI,if_true,if_false,reduceCtorEq,ZD,storeV_ptr,↓mwD,mwU]
          refine ⟨keepE (xa.trans (Ext.alloc _ _)), appB.mk p2 ⟨keepE xb, ?_⟩⟩
          simp -dsimp -implicitDefEqProofs only [h5,h0,h3,m47,sF47,ZA,↓reduceIte,ZB,ZC,ZJ,ZK,eq_self,ne_eq,ZE,ZF,ZG,ZH,ZI,if_true,if_false,reduceCtorEq,ZD,storeV_ptr,↓mwD,mwU]
          refine appB.mk p3 ⟨keepE xc, ?_⟩
          simp -dsimp -implicitDefEqProofs only [h5,h0,h3,m47,sF47,ZA,↓reduceIte,ZB,ZC,ZJ,ZK,eq_self,ne_eq,ZE,ZF,ZG,ZH,ZI,if_true,if_false,reduceCtorEq,ZD,storeV_ptr,↓mwD,mwU]
          refine ⟨x0.trans xc, ?_⟩
          rw [fin]
          have o4 := o3.mono x0.size
          simpa using o4
        · obtain ⟨v1, Wa, p1, xa, v2, Wb, p2, xb, v3, Wc, p3, xc, o3⟩ := put_three (w := W) (k := k) (al2 (.cells #[] 49) (.cells (evC x).toArray 49)) ((own_none w2.drew W.heap.size hsz).ext (Ext.alloc _ _)) (one_ev _ x hxo) (fun b o n c he => by
              cases he
              refine ⟨by simp only [World.size_alloc]; omega, fun h => ?_⟩
              simp only [Value.ownBlock,Option.some.injEq,World.size_alloc] at h
              omega) hs1 hs2 hn
          refine appB.mk p1 ⟨keepE xa, ?_⟩
          simp -dsimp -implicitDefEqProofs only [h5,h0,h3,m47,sF47,ZA,↓reduceIte,ZB,ZC,ZJ,ZK,eq_self,ne_eq,ZE,ZF,ZG,ZH,ZI,if_true,if_false,reduceCtorEq,ZD,storeV_ptr,↓mwD,mwU]
          refine appB.mk p2 ⟨keepE xb, ?_⟩
          simp -dsimp -implicitDefEqProofs only [h5,h0,h3,m47,sF47,ZA,↓reduceIte,ZB,ZC,ZJ,ZK,eq_self,ne_eq,ZE,ZF,ZG,ZH,ZI,if_true,if_false,reduceCtorEq,ZD,storeV_ptr,↓mwD,mwU]
          refine appB.mk p3 ⟨keepE xc, ?_⟩
          simp -dsimp -implicitDefEqProofs only [h5,h0,h3,m47,sF47,ZA,↓reduceIte,ZB,ZC,ZJ,ZK,eq_self,ne_eq,ZE,ZF,ZG,ZH,ZI,if_true,if_false,reduceCtorEq,ZD,storeV_ptr,↓mwD,mwU]
          exact ⟨x0.trans xc, by rw [fin]; exact o3.mono x0.size⟩
        · obtain ⟨v1, Wa, p1, xa, v2, Wb, p2, xb, v3, Wc, p3, xc, o3⟩ := put_three (w := W) (k := k) (al2 (.cells (evC x).toArray 49) (.cells #[] 49)) (own_none _ W.heap.size (al _).size) ((one_ev w2.drew x hxo).ext (Ext.alloc _ _)) (fun b o n c he => by
              cases he
              refine ⟨by simp only [World.size_alloc]; omega, fun h => ?_⟩
              simp only [Value.ownBlock,Option.some.injEq,World.size_alloc] at h
              omega) hs1 hs2 hn
          refine appB.mk p1 ⟨keepE xa, ?_⟩
          simp -dsimp -implicitDefEqProofs only [h5,h0,h3,m47,sF47,ZA,↓reduceIte,ZB,ZC,ZJ,ZK,eq_self,ne_eq,ZE,ZF,ZG,ZH,ZI,if_true,if_false,reduceCtorEq,ZD,storeV_ptr,↓mwD,mwU]
          refine appB.mk p2 ⟨keepE xb, ?_⟩
          simp -dsimp -implicitDefEqProofs only [h5,h0,h3,m47,sF47,ZA,↓reduceIte,ZB,ZC,ZJ,ZK,eq_self,ne_eq,ZE,ZF,ZG,ZH,ZI,if_true,if_false,reduceCtorEq,ZD,storeV_ptr,↓mwD,mwU]
          refine appB.mk p3 ⟨keepE xc, ?_⟩
          simp -dsimp -implicitDefEqProofs only [h5,h0,h3,m47,sF47,ZA,↓reduceIte,ZB,ZC,ZJ,ZK,eq_self,ne_eq,ZE,ZF,ZG,ZH,ZI,if_true,if_false,reduceCtorEq,ZD,storeV_ptr,↓mwD,mwU]
          exact ⟨x0.trans xc, by rw [fin]; exact o3.mono x0.size⟩
      · simp -dsimp -implicitDefEqProofs only [h2,h5,h0,h3,ht,hw,m47,sF47,ZA,↓reduceIte,ZB,ZC,ZJ,ZK,ZE,ZF,ZG,ZH,ZI,reduceCtorEq,ZD,mwV,↓mwD,mwU]
        refine ⟨⟨k + 1, by omega, rfl, hX, fun j hj hjk => ?_⟩, by simp only [intOf]; omega⟩
        by_cases hjk' : j = k
        · subst hjk'; exact ht
        · exact hno j hj (by omega)
    · have hkl : k = l.length := by omega
      have fin : putF l x = l.take k ++ x :: l.drop k := putF_split hk hno (fun h => by omega)
      simp -dsimp -implicitDefEqProofs only [h5,h0,h3,hlt,m47,sF47,ZA,↓reduceIte,ZB,ZC,ZJ,ZK,ZE,ZF,ZG,ZH,ZI,reduceCtorEq,ZD,mwV,↓mwD,mwU]
      refine mwpB_drawE ?_
      simp -dsimp -implicitDefEqProofs only [h5,h0,h3,hlt,m47,sF47,ZA,↓reduceIte,ZB,ZC,ZJ,ZK,ZE,ZF,ZG,ZH,ZI,reduceCtorEq,ZD,mwV,↓mwD,mwU]
      have hX : Ext W w'.drew := hxw.trans (Ext.drew w')
      have E1 : EvAt w'.drew w.heap.size 0 x := EvAt.row ((show Row W w.heap.size 0 (evC x) from fun j u hj => by rw [Nat.zero_add]; exact A.get hj).ext hX)
      have XB := EvAt.load E1
      have hsz : W.heap.size ≤ w'.drew.drew.heap.size := (hX.trans (Ext.drew w'.drew)).size
      refine mwpB_draw (fun w'' => EvAt w'' w.heap.size 0 x) (E1.ext (Ext.drew w'.drew)) ?_
      simp -dsimp -implicitDefEqProofs only [h5,h0,h3,st,sd,m47,sF47,ZA,↓reduceIte,ZB,ZC,ZJ,ZK,eq_self,ne_eq,ZE,ZF,ZG,ZH,ZI,if_true,if_false,reduceCtorEq,ZD,storeV_ptr,↓mwD,mwU]
      refine softB_load (v := evV x) (fun w'' hw => ?_) ?_
      · simp -dsimp -implicitDefEqProofs only [h3,hw.c0,hw.c1,hw.c2,hw.c3,hw.c4,hw.c5,hw.c6,hw.c7,hw.c8,hw.c9,evV,m47,sF47,ZA,↓reduceIte,ZB,ZC,ZJ,ZK,ZE,ZF,ZG,ZH,ZI,reduceCtorEq,ZD,mwV,↓mwD,mwU]
      have keepE : ∀ {w'' : World}, Ext W w'' → EvAt w'' w.heap.size 0 x := fun h => EvAt.row ((show Row W w.heap.size 0 (evC x) from fun j u hj => by rw [Nat.zero_add]; exact A.get hj).ext h)
      have hXd := hX.trans (Ext.drew w'.drew)
      simp -dsimp -implicitDefEqProofs only [h5,h0,h3,st,sd,evV,bs_ev,bs_ev0,planB_two,m47,sF47,ZA,↓reduceIte,ZB,ZC,ZJ,ZK,eq_self,ne_eq,ZE,ZF,ZG,ZH,ZI,if_true,if_false,reduceCtorEq,ZD,storeV_ptr,↓mwD,mwU]
      have lt1 : (l.take k).length ≤ 1000 := by rw [List.length_take]; omega
      have lt2 : (l.drop k).length ≤ 1000 := by rw [List.length_drop]; omega
      have al : ∀ (o : Obj), Ext W (w'.drew.drew.alloc o) := fun o => hXd.trans (Ext.alloc _ _)
      have al2 : ∀ (o o' : Obj), Ext W ((w'.drew.drew.alloc o).alloc o') := fun o o' => (al o).trans (Ext.alloc _ _)
      refine ⟨⟨keepE (al _), ?_, keepE (al2 _ _), ?_⟩, keepE (al _), keepE (al2 _ _), ?_⟩
      · obtain ⟨v1, Wa, p1, o1, e1, _⟩ := append_evs (own_none w'.drew.drew W.heap.size hsz) (hs1.ext (al _)) (by simp only [List.length_nil]; omega) (al _).size
        have xa := e1 (al _) (Nat.le_refl _)
        obtain ⟨v2, Wb, p2, o2, e2⟩ := append_ev o1 x hxo (by simp only [List.nil_append]; omega) xa.size
        have xb := e2 xa (Nat.le_refl _)
        obtain ⟨v3, Wc, p3, o3, e3, _⟩ := append_evs o2 (hs2.ext xb) (by simp only [List.nil_append,List.length_append,List.length_cons,List.length_nil]; omega) xb.size
        have xc := e3 xb (Nat.le_refl _)
        refine appB.mk p1 ⟨keepE xa, ?_⟩
        simp -dsimp -implicitDefEqProofs only [h5,h0,h3,bs_ev,m47,sF47,ZA,↓reduceIte,ZB,ZC,ZJ,ZK,eq_self,ne_eq,ZE,ZF,ZG,ZH,ZI,if_true,if_false,reduceCtorEq,ZD,storeV_ptr,↓mwD,mwU]
        refine ⟨keepE (xa.trans (Ext.alloc _ _)), appB.mk p2 ⟨keepE xb, ?_⟩⟩
        simp -dsimp -implicitDefEqProofs only [h5,h0,h3,m47,sF47,ZA,↓reduceIte,ZB,ZC,ZJ,ZK,eq_self,ne_eq,ZE,ZF,ZG,ZH,ZI,if_true,if_false,reduceCtorEq,ZD,storeV_ptr,↓mwD,mwU]
        refine appB.mk p3 ⟨keepE xc, ?_⟩
        simp -dsimp -implicitDefEqProofs only [h5,h0,h3,m47,sF47,ZA,↓reduceIte,ZB,ZC,ZJ,ZK,eq_self,ne_eq,ZE,ZF,ZG,ZH,ZI,if_true,if_false,reduceCtorEq,ZD,storeV_ptr,↓mwD,mwU]
        refine ⟨x0.trans xc, ?_⟩
        rw [fin]
        have o4 := o3.mono x0.size
        simpa using o4
      · obtain ⟨v1, Wa, p1, xa, v2, Wb, p2, xb, v3, Wc, p3, xc, o3⟩ := put_three (w := W) (k := k) (al2 (.cells #[] 49) (.cells (evC x).toArray 49)) ((own_none w'.drew.drew W.heap.size hsz).ext (Ext.alloc _ _)) (one_ev _ x hxo) (fun b o n c he => by
            cases he
            refine ⟨by simp only [World.size_alloc]; omega, fun h => ?_⟩
            simp only [Value.ownBlock,Option.some.injEq,World.size_alloc] at h
            omega) hs1 hs2 hn
        refine appB.mk p1 ⟨keepE xa, ?_⟩
        simp -dsimp -implicitDefEqProofs only [h5,h0,h3,m47,sF47,ZA,↓reduceIte,ZB,ZC,ZJ,ZK,eq_self,ne_eq,ZE,ZF,ZG,ZH,ZI,if_true,if_false,reduceCtorEq,ZD,storeV_ptr,↓mwD,mwU]
        refine appB.mk p2 ⟨keepE xb, ?_⟩
        simp -dsimp -implicitDefEqProofs only [h5,h0,h3,m47,sF47,ZA,↓reduceIte,ZB,ZC,ZJ,ZK,eq_self,ne_eq,ZE,ZF,ZG,ZH,ZI,if_true,if_false,reduceCtorEq,ZD,storeV_ptr,↓mwD,mwU]
        refine appB.mk p3 ⟨keepE xc, ?_⟩
        simp -dsimp -implicitDefEqProofs only [h5,h0,h3,m47,sF47,ZA,↓reduceIte,ZB,ZC,ZJ,ZK,eq_self,ne_eq,ZE,ZF,ZG,ZH,ZI,if_true,if_false,reduceCtorEq,ZD,storeV_ptr,↓mwD,mwU]
        exact ⟨x0.trans xc, by rw [fin]; exact o3.mono x0.size⟩
      · obtain ⟨v1, Wa, p1, xa, v2, Wb, p2, xb, v3, Wc, p3, xc, o3⟩ := put_three (w := W) (k := k) (al2 (.cells (evC x).toArray 49) (.cells #[] 49)) (own_none _ W.heap.size (al _).size) ((one_ev w'.drew.drew x hxo).ext (Ext.alloc _ _)) (fun b o n c he => by
            cases he
            refine ⟨by simp only [World.size_alloc]; omega, fun h => ?_⟩
            simp only [Value.ownBlock,Option.some.injEq,World.size_alloc] at h
            omega) hs1 hs2 hn
        refine appB.mk p1 ⟨keepE xa, ?_⟩
        simp -dsimp -implicitDefEqProofs only [h5,h0,h3,m47,sF47,ZA,↓reduceIte,ZB,ZC,ZJ,ZK,eq_self,ne_eq,ZE,ZF,ZG,ZH,ZI,if_true,if_false,reduceCtorEq,ZD,storeV_ptr,↓mwD,mwU]
        refine appB.mk p2 ⟨keepE xb, ?_⟩
        simp -dsimp -implicitDefEqProofs only [h5,h0,h3,m47,sF47,ZA,↓reduceIte,ZB,ZC,ZJ,ZK,eq_self,ne_eq,ZE,ZF,ZG,ZH,ZI,if_true,if_false,reduceCtorEq,ZD,storeV_ptr,↓mwD,mwU]
        refine appB.mk p3 ⟨keepE xc, ?_⟩
        simp -dsimp -implicitDefEqProofs only [h5,h0,h3,m47,sF47,ZA,↓reduceIte,ZB,ZC,ZJ,ZK,eq_self,ne_eq,ZE,ZF,ZG,ZH,ZI,if_true,if_false,reduceCtorEq,ZD,storeV_ptr,↓mwD,mwU]
        exact ⟨x0.trans xc, by rw [fin]; exact o3.mono x0.size⟩
def refMergeL : List Ev → List Ev → List Ev := fun A B => B.foldl putF A
theorem putF_len (y : Ev) : ∀ a : List Ev, (putF a y).length = a.length + 1
  | [] => rfl
  | x :: a => by
    unfold putF
    split
    · rfl
    · simp [putF_len y a]
theorem putF_ok {P : Ev → Prop} {y : Ev} {a : List Ev} (ha : ∀ x ∈ a, P x) (hy : P y) : ∀ x ∈ putF a y, P x := fun x hx => (putF_mem hx).elim (fun h => h ▸ hy) (ha x)
set_option maxHeartbeats 1000000 in
theorem rMerge_c (A B : List Ev) (va vb : Value) (w : World) (hA : SlE w va A) (hB : SlE w vb B) : Rets ZP 22 #[va, vb] w (EvQ (mergeS A B) w) := by
  obtain ⟨qa, ca, rfl, ca1, ca2⟩ := hA.shape
  obtain ⟨qb, cb, rfl, cb1, cb2⟩ := hB.shape
  refine en22 ?_
  simp -dsimp -implicitDefEqProofs only [m22,sF22,ZA,↓reduceIte,ZB,ZC,ZJ,ZK,ZE,ZF,ZG,ZH,ZI,reduceCtorEq,ZD,mwV,↓mwD,mwU]
  refine (rValid_c A _ w hA).use ?_
  rintro r w1 ⟨rfl, h1⟩
  cases vA : validS A
  · simp -dsimp -implicitDefEqProofs only [m22,sF22,ZA,↓reduceIte,ZB,ZC,ZJ,ZK,ZE,ZF,ZG,ZH,ZI,reduceCtorEq,ZD,mwV,↓mwD,mwU]
    exact .none (by unfold mergeS; rw [if_pos (.inl vA)]) h1
  simp -dsimp -implicitDefEqProofs only [m22,sF22,ZA,↓reduceIte,ZB,ZC,ZJ,ZK,ZE,ZF,ZG,ZH,ZI,reduceCtorEq,ZD,mwV,↓mwD,mwU]
  refine (rValid_c B _ w1 (hB.ext h1)).use ?_
  rintro r w2 ⟨rfl, h2⟩
  have hx2 := h1.trans h2
  cases vB : validS B
  · simp -dsimp -implicitDefEqProofs only [m22,sF22,ZA,↓reduceIte,ZB,ZC,ZJ,ZK,ZE,ZF,ZG,ZH,ZI,reduceCtorEq,ZD,mwV,↓mwD,mwU]
    exact .none (by unfold mergeS; rw [if_pos (.inr vB)]) hx2
  have hnv : ¬ (validS A = false ∨ validS B = false) := by rw [vA, vB]; simp
  have lA := ((validS_iff A).1 vA).1
  obtain ⟨lB, _, sB⟩ := (validS_iff B).1 vB
  have hsum : IntKind.i64.wrap ((A.length : Int) + B.length) = (A.length : Int) + B.length := w64 (by omega) (by omega)
  by_cases h300 : (300 : Int) < (A.length : Int) + B.length
  · simp -dsimp -implicitDefEqProofs only [hsum,h300,m22,sF22,ZA,↓reduceIte,ZB,ZC,ZJ,ZK,ZE,ZF,ZG,ZH,ZI,reduceCtorEq,ZD,mwV,↓mwD,mwU]
    exact .none (by unfold mergeS; rw [if_neg hnv, if_pos (by omega)]) hx2
  have hms : mergeS A B = (mergeF A B, 0) := by unfold mergeS; rw [if_neg hnv, if_neg (by omega)]
  have hal : Ext w (w2.alloc (.cells #[] 49)) := hx2.trans (Ext.alloc _ _)
  obtain ⟨v1, W, p1, o1, e1, _⟩ := append_evs (own_none w2 w2.heap.size (Nat.le_refl _)) (hA.ext hal) (by simp only [List.length_nil]; omega) (by rw [World.size_alloc]; omega)
  have xW := e1 (Ext.alloc _ _) (Nat.le_refl _)
  simp -dsimp -implicitDefEqProofs only [hsum,h300,bs_ev0,m22,sF22,ZA,↓reduceIte,ZB,ZC,ZJ,ZK,ZE,ZF,ZG,ZH,ZI,reduceCtorEq,ZD,mwV,↓mwD,mwU]
  refine appB.mk p1 ?_
  simp -dsimp -implicitDefEqProofs only [m22,sF22,ZA,↓reduceIte,ZB,ZC,ZJ,ZK,ZE,ZF,ZG,ZH,ZI,reduceCtorEq,ZD,mwV,↓mwD,mwU]
  refine mwpB_loop (fun e ds w' => ∃ (k : Nat) (v : Value) (l : List Ev), k ≤ B.length ∧ e 7 = .int .i64 k ∧ e 6 = v ∧ e 1 = .slice qb B.length cb ∧ ds = [] ∧ Ext w2 w' ∧ OwnE w' w2.heap.size v l ∧ Beats l ∧ l.length = A.length + k ∧ B.foldl putF A = (B.drop k).foldl putF l)
    (fun e _ => B.length - (intOf (e 7)).toNat) ?_ ?_
  · simp -dsimp -implicitDefEqProofs only [m22,sF22,ZA,↓reduceIte,ZB,ZC,ZJ,ZK,ZE,ZF,ZG,ZH,ZI,reduceCtorEq,ZD,mwV,↓mwD,mwU]
    exact ⟨0, _, A, by omega, rfl, rfl, xW, by simpa using o1, Beats.of vA, by omega, rfl⟩
  · rintro e ds w' ⟨k, v, l, hk, h7, h6, hb1, rfl, hx, hown, bl, hll, hf⟩
    by_cases hlt : (k : Int) < B.length
    · have hlt' : k < B.length := by omega
      obtain ⟨b, o, rfl, E⟩ := (hB.ext (hx2.trans hx)).get hlt'
      have e1 : (0 : Int) ≤ k ∧ (k : Int) < B.length := by omega
      have hw := w64_succ hlt' (Nat.le_trans cb1 cb2)
      obtain ⟨ql, nl, cl, rfl⟩ : ∃ q n c, v = .slice q n c := by obtain ⟨p, c, h, _⟩ := hown.sl.shape; exact ⟨_, _, _, h⟩
      simp -dsimp -implicitDefEqProofs only [h7,h6,hb1,hlt,e1,and_self,Int.toNat_natCast,E.c0,E.c1,E.c2,E.c3,E.c4,E.c5,E.c6,E.c7,E.c8,E.c9,m22,sF22,ZA,↓reduceIte,ZB,ZC,ZJ,ZK,ZE,ZF,ZG,ZH,ZI,reduceCtorEq,ZD,mwV,↓mwD,mwU]
      have bk : beatB B[k].num B[k].den = true := Beats.of vB _ (List.getElem_mem hlt')
      refine (put_c l B[k] _ w' hown.sl (hB.ok _ (List.getElem_mem hlt')) bk bl (by omega)).use ?_
      rintro r w3 ⟨h3, o3⟩
      obtain ⟨qr, nr, cr, rfl⟩ : ∃ q n c, r = .slice q n c := by obtain ⟨p, c, h, _⟩ := o3.sl.shape; exact ⟨_, _, _, h⟩
      simp -dsimp -implicitDefEqProofs only [h7,h6,hb1,hw,m22,sF22,ZA,↓reduceIte,ZB,ZC,ZJ,ZK,ZE,ZF,ZG,ZH,ZI,reduceCtorEq,ZD,mwV,↓mwD,mwU]
      refine ⟨⟨k + 1, _, putF l B[k], by omega, rfl, rfl, hx.trans h3, o3.mono hx.size, putF_ok bl bk, by rw [putF_len]; omega, ?_⟩, by simp only [intOf]; omega⟩
      rw [hf, List.drop_eq_getElem_cons hlt', List.foldl_cons]
    · have hkl : k = B.length := by omega
      obtain ⟨ql, nl, cl, rfl⟩ : ∃ q n c, v = .slice q n c := by obtain ⟨p, c, h, _⟩ := hown.sl.shape; exact ⟨_, _, _, h⟩
      simp -dsimp -implicitDefEqProofs only [h7,h6,hb1,hlt,m22,sF22,ZA,↓reduceIte,ZB,ZC,ZJ,ZK,ZE,ZF,ZG,ZH,ZI,reduceCtorEq,ZD,mwV,↓mwD,mwU]
      refine .some (l := l) ?_ (hx2.trans hx) hown.sl
      rw [hms, ← fold_put sB, hf, hkl, List.drop_length]; rfl
end Go.Proofs.YtdkdibeimeaakabGreatDoor

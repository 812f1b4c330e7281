/- Layer 32: events held against each other, and the reference's Same. -/
import Derived.Test.YtdkdibeimeaakabGreatDoorQsScJ

namespace Go.Proofs.YtdkdibeimeaakabGreatDoor
open Go.RowKit
open Nat renaming reduceEqDiff → ZA, reduceAdd → ZB, reduceMul → ZC, reduceSub → ZD
open Int renaming reduceToNat → ZE, reduceEq → ZF, reduceLT → ZG, reduceLE → ZH, reduceNeg → ZI
open Go.Value renaming oneCell' → ZK, cells → ZJ
open Go.Proofs.Tryz renaming prog → ZP
set_option linter.unusedSimpArgs false
set_option linter.unusedVariables false
theorem kl_int (d : Nat) {n : Int} (h : inE n) : (ZP : Program).keyLits (d + 1) 3 [.int .i64 n] = some [.int .i64 n] := by
  have e : (ZP : Program).underlying 3 = some (.int .i64) := by kernel_rfl
  have hw : (Lit.int .i64 n).wf = true := by
    simp only [Lit.wf,Bool.and_eq_true,decide_eq_true_eq]
    exact ⟨h.1, h.2⟩
  unfold Program.keyLits
  rw [e]
  simp only [hw,and_self,if_true]
theorem kl_str (d : Nat) {s : ByteArray} (h : s.size ≤ maxLen) : (ZP : Program).keyLits (d + 1) 9 [.string s] = some [.string s.data.toList] := by
  have e : (ZP : Program).underlying 9 = some .string := by kernel_rfl
  unfold Program.keyLits
  rw [e]
  simp only [h,if_true]
theorem kl_bool (d : Nat) (b : Bool) : (ZP : Program).keyLits (d + 1) 4 [.bool b] = some [.bool b] := by
  have e : (ZP : Program).underlying 4 = some .bool := by kernel_rfl
  unfold Program.keyLits
  rw [e]
set_option maxHeartbeats 2000000 in
theorem kl_order (d : Nat) {o : Od} (h1 : inE o.t) (h2 : inE o.d) (h3 : inE o.id) (h4 : o.syn.size ≤ maxLen) (h5 : inE o.to) (h6 : inE o.n) (h7 : o.par.size ≤ maxLen) :
    (ZP : Program).keyLits (d + 1 + 1) 40 [.int .i64 o.t, .int .i64 o.d, .int .i64 o.id, .string o.syn, .int .i64 o.to, .int .i64 o.n, .string o.par] = some [.int .i64 o.t, .int .i64 o.d, .int .i64 o.id, .string o.syn.data.toList, .int .i64 o.to, .int .i64 o.n, .string o.par.data.toList] := by
  have e : (ZP : Program).keyLits (d + 1 + 1) 40 [.int .i64 o.t, .int .i64 o.d, .int .i64 o.id, .string o.syn, .int .i64 o.to, .int .i64 o.n, .string o.par] = (do
      let a0 ← (ZP : Program).keyLits (d + 1) 3 [.int .i64 o.t]
      let a1 ← (ZP : Program).keyLits (d + 1) 3 [.int .i64 o.d]
      let a2 ← (ZP : Program).keyLits (d + 1) 3 [.int .i64 o.id]
      let a3 ← (ZP : Program).keyLits (d + 1) 9 [.string o.syn]
      let a4 ← (ZP : Program).keyLits (d + 1) 3 [.int .i64 o.to]
      let a5 ← (ZP : Program).keyLits (d + 1) 3 [.int .i64 o.n]
      let a6 ← (ZP : Program).keyLits (d + 1) 9 [.string o.par]
      some [a0, a1, a2, a3, a4, a5, a6] : Option (List (List Lit))).map List.flatten := by kernel_rfl
  rw [e, kl_int d h1, kl_int d h2, kl_int d h3, kl_str d h4, kl_int d h5, kl_int d h6, kl_str d h7]
  rfl
set_option maxHeartbeats 2000000 in
theorem kl_event (d : Nat) {x : Ev} (h : EvOk x) :
    (ZP : Program).keyLits (d + 1 + 1 + 1) 49 (evC x) = some [.int .i64 x.num, .int .i64 x.den, .int .i64 x.o.t, .int .i64 x.o.d, .int .i64 x.o.id, .string x.o.syn.data.toList, .int .i64 x.o.to, .int .i64 x.o.n, .string x.o.par.data.toList, .bool x.c] := by
  have e : (ZP : Program).keyLits (d + 1 + 1 + 1) 49 (evC x) = (do
      let a0 ← (ZP : Program).keyLits (d + 1 + 1) 3 [.int .i64 x.num]
      let a1 ← (ZP : Program).keyLits (d + 1 + 1) 3 [.int .i64 x.den]
      let a2 ← (ZP : Program).keyLits (d + 1 + 1) 40 [.int .i64 x.o.t, .int .i64 x.o.d, .int .i64 x.o.id, .string x.o.syn, .int .i64 x.o.to, .int .i64 x.o.n, .string x.o.par]
      let a3 ← (ZP : Program).keyLits (d + 1 + 1) 4 [.bool x.c]
      some [a0, a1, a2, a3] : Option (List (List Lit))).map List.flatten := by kernel_rfl
  rw [e, kl_int _ h.num, kl_int _ h.den, kl_order d h.t h.d h.id h.syn h.to h.n h.par, kl_bool]
  rfl
set_option maxHeartbeats 2000000 in
theorem ev_agg {x : Ev} (h : EvOk x) : aggE ZP 49 (evC x).toArray (evC x).toArray = some true := by
  have k := kl_event 37 h
  have e : (((ZP : Program).keyTypeAt 40 49 && !(ZP : Program).eqGuardType (ZP : Program).depth 49 && (Value.agg (evC x).toArray).formed ZP 49 && (Value.agg (evC x).toArray).formed ZP 49 && (evC x).toArray.toList.all flatB && (evC x).toArray.toList.all flatB) = true) := by kernel_rfl
  unfold aggE
  rw [if_pos e, k]
  simp only [List.all_cons,List.all_nil,okLit,Bool.and_self,if_true]
  exact congrArg some ((beqLits_eq rfl rfl).2 rfl)
theorem evV_agg (x : Ev) : evV x = .agg (evC x).toArray := rfl
theorem binVC_agg {P : Program} {t : TypeId} {a b : Array Value} {c : Bool} : binVC P t BinOp.neq (.agg a) (.agg b) c = (aggE P t a b).map fun r => .bool (!r) := rfl
set_option maxHeartbeats 4000000 in
theorem same_c (l : List Ev) (va vb : Value) (w : World) (hA : SlE w va l) (hB : SlE w vb l) : Rets ZP 11 #[va, vb] w fun r w' => r = .bool true ∧ Ext w w' := by
  obtain ⟨qa, ca, rfl, ca1, ca2⟩ := hA.shape
  obtain ⟨qb, cb, rfl, cb1, cb2⟩ := hB.shape
  refine en11 ?_
  simp -dsimp -implicitDefEqProofs only [m11,sF11,ZA,↓reduceIte,ZB,ZC,ZJ,ZK,ZE,ZF,ZG,ZH,ZI,reduceCtorEq,ZD,mwV,↓mwD,mwU]
  refine mwpB_loop (fun e ds w' => ∃ k : Nat, k ≤ l.length ∧ e 5 = .int .i64 k ∧ e 0 = .slice qa l.length ca ∧ e 1 = .slice qb l.length cb ∧ ds = [] ∧ Ext w w')
    (fun e _ => l.length - (intOf (e 5)).toNat) ?_ ?_
  · simp -dsimp -implicitDefEqProofs only [m11,sF11,ZA,↓reduceIte,ZB,ZC,ZJ,ZK,ZE,ZF,ZG,ZH,ZI,reduceCtorEq,ZD,mwV,↓mwD,mwU]
    exact ⟨0, by omega, rfl, Ext.refl _⟩
  · rintro e ds w' ⟨k, hk, h5, h0, h1, rfl, hx⟩
    by_cases hlt : (k : Int) < l.length
    rotate_left
    · simp -dsimp -implicitDefEqProofs only [h5,h0,h1,hlt,m11,sF11,ZA,↓reduceIte,ZB,ZC,ZJ,ZK,ZE,ZF,ZG,ZH,ZI,reduceCtorEq,ZD,mwV,↓mwD,mwU]
      exact hx
    have hlt' : k < l.length := by omega
    obtain ⟨b, o, rfl, E⟩ := (hA.ext (hx.trans (Ext.drew w'))).get hlt'
    obtain ⟨b', o', rfl, G⟩ := (hB.ext (hx.trans (Ext.drew w'))).get hlt'
    have hb1 : (0 : Int) ≤ k ∧ (k : Int) < l.length := by omega
    have hw := w64_succ hlt' (Nat.le_trans ca1 ca2)
    have hag := ev_agg (hA.ok _ (List.getElem_mem hlt'))
    have hbv : ∀ c, binVC ZP 49 BinOp.neq (evV l[k]) (evV l[k]) c = some (.bool false) := fun c => by
      rw [evV_agg, binVC_agg, hag]; rfl
    unfold evV at hbv
    simp -dsimp -implicitDefEqProofs only [h5,h0,h1,hlt,m11,sF11,ZA,↓reduceIte,ZB,ZC,ZJ,ZK,ZE,ZF,ZG,ZH,ZI,reduceCtorEq,ZD,mwV,↓mwD,mwU]
    refine mwpB_drawE ?_
    simp -dsimp -implicitDefEqProofs only [h5,h0,h1,hlt,hb1,and_self,Int.toNat_natCast,E.c0,E.c1,E.c2,E.c3,E.c4,E.c5,E.c6,E.c7,E.c8,E.c9,G.c0,G.c1,G.c2,G.c3,G.c4,G.c5,G.c6,G.c7,G.c8,G.c9,hbv,hw,m11,sF11,ZA,↓reduceIte,ZB,ZC,ZJ,ZK,ZE,ZF,ZG,ZH,ZI,reduceCtorEq,ZD,mwV,↓mwD,mwU]
    exact ⟨⟨k + 1, by omega, rfl, hx.trans (Ext.drew w')⟩, by simp only [intOf]; omega⟩
end Go.Proofs.YtdkdibeimeaakabGreatDoor

/- Layer 32: events in memory; small functions. -/
import Derived.Test.YtdkdibeimeaakabGreatDoorQsMwF0
import Derived.Test.YtdkdibeimeaakabGreatDoorQsMwMem
import Derived.Test.YtdkdibeimeaakabGreatDoorQsMwSet
import Derived.Test.YtdkdibeimeaakabGreatDoorQsMwJoin
import Derived.Test.YtdkdibeimeaakabGreatDoorQsMwAt
import Derived.Test.YtdkdibeimeaakabGreatDoorQsScLaw

namespace Go.Proofs.YtdkdibeimeaakabGreatDoor
open Go.RowKit
open Nat renaming reduceEqDiff → ZA, reduceAdd → ZB, reduceMul → ZC, reduceSub → ZD
open Int renaming reduceToNat → ZE, reduceEq → ZF, reduceLT → ZG, reduceLE → ZH, reduceNeg → ZI
open Go.Value renaming oneCell' → ZK, cells → ZJ
open Go.Proofs.Tryz renaming prog → ZP
set_option linter.unusedSimpArgs false
set_option linter.unusedVariables false
theorem w64_succ {k n : Nat} (h : k < n) (hn : n ≤ maxLen) : IntKind.i64.wrap ((k : Int) + 1) = ((k + 1 : Nat) : Int) := by
  unfold maxLen at hn
  rw [w64 (by omega) (by omega)]; rfl
def inE (n : Int) : Prop := -9223372036854775808 ≤ n ∧ n ≤ 9223372036854775807
structure EvOk (x : Ev) : Prop where
  num : inE x.num
  den : inE x.den
  t : inE x.o.t
  d : inE x.o.d
  id : inE x.o.id
  to : inE x.o.to
  n : inE x.o.n
  syn : x.o.syn.size ≤ maxLen
  par : x.o.par.size ≤ maxLen
def odV (o : Od) : Value := .agg #[.int .i64 o.t, .int .i64 o.d, .int .i64 o.id, .string o.syn, .int .i64 o.to, .int .i64 o.n, .string o.par]
def evC (x : Ev) : List Value := [.int .i64 x.num, .int .i64 x.den, .int .i64 x.o.t, .int .i64 x.o.d, .int .i64 x.o.id, .string x.o.syn, .int .i64 x.o.to, .int .i64 x.o.n, .string x.o.par, .bool x.c]
def evV (x : Ev) : Value := .agg #[.int .i64 x.num, .int .i64 x.den, .int .i64 x.o.t, .int .i64 x.o.d, .int .i64 x.o.id, .string x.o.syn, .int .i64 x.o.to, .int .i64 x.o.n, .string x.o.par, .bool x.c]
theorem evC_len (x : Ev) : (evC x).length = 10 := rfl
def rowsE (l : List Ev) : List Value := l.flatMap evC
theorem rowsE_len : ∀ l : List Ev, (rowsE l).length = 10 * l.length
  | [] => rfl
  | x :: l => by
    have := rowsE_len l
    simp only [rowsE,List.flatMap_cons,List.length_append,evC_len,List.length_cons] at this ⊢
    omega
theorem rowsE_app (a b : List Ev) : rowsE (a ++ b) = rowsE a ++ rowsE b := List.flatMap_append
theorem rowsE_cons (x : Ev) (l : List Ev) : rowsE (x :: l) = evC x ++ rowsE l := rfl
theorem rowsE_get : ∀ {l : List Ev} {k j : Nat} (h : k < l.length), j < 10 → (rowsE l)[10 * k + j]? = (evC l[k])[j]?
  | x :: l, 0, j, h, hj => by
    rw [rowsE_cons, List.getElem?_append_left (by rw [evC_len]; omega)]
    simp
  | x :: l, k + 1, j, h, hj => by
    rw [rowsE_cons, List.getElem?_append_right (by rw [evC_len]; omega), evC_len, show 10 * (k + 1) + j - 10 = 10 * k + j by omega, rowsE_get (l := l) (by simpa using h) hj]
    rfl
def SlE (w : World) (v : Value) (l : List Ev) : Prop := ∃ p cap, v = .slice p l.length cap ∧ l.length ≤ cap ∧ cap ≤ maxLen ∧ ((∀ x ∈ l, EvOk x) ∧ (p = none → cap = 0)) ∧ (l ≠ [] → ∃ b o, p = some ⟨b, o, none⟩ ∧ Row w b o (rowsE l))
section
variable {w w' : World}
theorem SlE.ext {v : Value} {l : List Ev} (h : SlE w v l) (he : Ext w w') : SlE w' v l := by
  obtain ⟨p, cap, h1, h2, h3, h5, h4⟩ := h
  refine ⟨p, cap, h1, h2, h3, h5, fun hne => ?_⟩
  obtain ⟨b, o, h6, h7⟩ := h4 hne
  exact ⟨b, o, h6, h7.ext he⟩
theorem SlE.shape {v : Value} {l : List Ev} (h : SlE w v l) : ∃ p cap, v = .slice p l.length cap ∧ l.length ≤ cap ∧ cap ≤ maxLen := by
  obtain ⟨p, cap, h1, h2, h3, _⟩ := h
  exact ⟨p, cap, h1, h2, h3⟩
theorem SlE.ok {v : Value} {l : List Ev} (h : SlE w v l) : ∀ x ∈ l, EvOk x := by
  obtain ⟨p, cap, h1, h2, h3, h5, _⟩ := h
  exact h5.1
theorem SlE.nil (w : World) : SlE w (.slice none 0 0) [] := ⟨none, 0, rfl, by simp, by simp, ⟨fun x hx => absurd hx (by simp), fun _ => rfl⟩, fun h => absurd rfl h⟩
structure EvAt (w : World) (b o : Nat) (x : Ev) : Prop where
  c0 : w.cell? ⟨b, o, none⟩ = some (.int .i64 x.num)
  c1 : w.cell? ⟨b, o + 1, none⟩ = some (.int .i64 x.den)
  c2 : w.cell? ⟨b, o + 2, none⟩ = some (.int .i64 x.o.t)
  c3 : w.cell? ⟨b, o + 3, none⟩ = some (.int .i64 x.o.d)
  c4 : w.cell? ⟨b, o + 4, none⟩ = some (.int .i64 x.o.id)
  c5 : w.cell? ⟨b, o + 5, none⟩ = some (.string x.o.syn)
  c6 : w.cell? ⟨b, o + 6, none⟩ = some (.int .i64 x.o.to)
  c7 : w.cell? ⟨b, o + 7, none⟩ = some (.int .i64 x.o.n)
  c8 : w.cell? ⟨b, o + 8, none⟩ = some (.string x.o.par)
  c9 : w.cell? ⟨b, o + 9, none⟩ = some (.bool x.c)
theorem EvAt.row {b o : Nat} {x : Ev} (h : Row w b o (evC x)) : EvAt w b o x := ⟨h 0 _ rfl, h 1 _ rfl, h 2 _ rfl, h 3 _ rfl, h 4 _ rfl, h 5 _ rfl, h 6 _ rfl, h 7 _ rfl, h 8 _ rfl, h 9 _ rfl⟩
theorem EvAt.ext {b o : Nat} {x : Ev} (h : EvAt w b o x) (he : Ext w w') : EvAt w' b o x := ⟨he.cell h.c0, he.cell h.c1, he.cell h.c2, he.cell h.c3, he.cell h.c4, he.cell h.c5, he.cell h.c6, he.cell h.c7, he.cell h.c8, he.cell h.c9⟩
theorem EvAt.load {b o : Nat} {x : Ev} (h : EvAt w b o x) : loadV ZP w 49 (.pointer (some ⟨b, o, none⟩)) = some (evV x) := by
  rw [loadV_agg w _ tok_49 tagg_49, tsz_49]
  simp only [loadsV_succ,loadsV_zero,Addr.add_lit,Nat.add_zero,ZB,h.c0,h.c1,h.c2,h.c3,h.c4,h.c5,h.c6,h.c7,h.c8,h.c9,Option.bind_some,Option.map_some]
  rfl
theorem SlE.get {p : Option Addr} {n cap k : Nat} {l : List Ev} (h : SlE w (.slice p n cap) l) (hk : k < l.length) : ∃ b o, p = some ⟨b, o, none⟩ ∧ EvAt w b (o + k * 10) l[k] := by
  obtain ⟨p', cap', h1, h2, h3, h5, h4⟩ := h
  obtain ⟨b, o, h6, h7⟩ := h4 (by intro h0; rw [h0] at hk; simp at hk)
  cases h1
  refine ⟨b, o, h6, EvAt.row fun j v hj => ?_⟩
  have hj10 : j < 10 := by rw [← evC_len l[k]]; exact (List.getElem?_eq_some_iff.1 hj).1
  have := h7 (10 * k + j) v (by rw [rowsE_get hk hj10]; exact hj)
  rw [show o + k * 10 + j = o + (10 * k + j) by omega]
  exact this
end
def Bk (w : World) (b : Nat) (cs : List Value) (t : TypeId) : Prop := w.heap[b]? = some (.cells cs.toArray t)
section
variable {w w' : World} {b b' o : Nat} {cs : List Value} {t : TypeId}
theorem Bk.lt (h : Bk w b cs t) : b < w.heap.size := (Array.getElem?_eq_some_iff.1 h).1
theorem Bk.cell (h : Bk w b cs t) (o : Nat) : w.cell? ⟨b, o, none⟩ = cs[o]? := by
  unfold Bk at h; simp [World.cell?, h]
theorem Bk.get (h : Bk w b cs t) {v : Value} (hv : cs[o]? = some v) : w.cell? ⟨b, o, none⟩ = some v := by rw [h.cell, hv]
theorem Bk.frozen (h : Bk w b cs t) (o : Nat) : w.frozen? ⟨b, o, none⟩ = false := by
  unfold Bk at h; simp [World.frozen?, h]
theorem Bk.set (h : Bk w b cs t) (o : Nat) (v : Value) : Bk (w.setCell ⟨b, o, none⟩ v) b (cs.set o v) t := by
  unfold Bk at h ⊢; simp [World.setCell, Array.getElem?_modify, h]
theorem Bk.new (w : World) (cs : List Value) (t : TypeId) : Bk (w.alloc (.cells cs.toArray t)) w.heap.size cs t := heap_alloc_new w _
theorem Bk.ext (h : Bk w b cs t) (he : Ext w w') : Bk w' b cs t := by
  unfold Bk at h ⊢; rw [he.block b (Bk.lt h)]; exact h
end
theorem new_bk' (w : World) (cs : List Value) (t : TypeId) : ∃ W, W = w.alloc (.cells cs.toArray t) ∧ Bk W w.heap.size cs t ∧ Ext w W := ⟨_, rfl, Bk.new _ _ _, Ext.alloc _ _⟩
theorem swithin_c (n a b : Int) (w : World) : Rets ZP 48 #[.int .i64 n, .int .i64 a, .int .i64 b] w fun r w' => r = .bool (decide (a ≤ n) && decide (n ≤ b)) ∧ w' = w := by
  refine en48 ?_
  by_cases h1 : a ≤ n
  · by_cases h2 : n ≤ b
    · simp -dsimp -implicitDefEqProofs only [h1,h2,m48,sF48,ZA,↓reduceIte,ZB,ZC,ZJ,ZK,ZE,ZF,ZG,ZH,ZI,reduceCtorEq,ZD,mwV,↓mwD,mwU]
      rfl
    · simp -dsimp -implicitDefEqProofs only [h1,h2,m48,sF48,ZA,↓reduceIte,ZB,ZC,ZJ,ZK,ZE,ZF,ZG,ZH,ZI,reduceCtorEq,ZD,mwV,↓mwD,mwU]
      rfl
  · simp -dsimp -implicitDefEqProofs only [h1,m48,sF48,ZA,↓reduceIte,ZB,ZC,ZJ,ZK,ZE,ZF,ZG,ZH,ZI,reduceCtorEq,ZD,mwV,↓mwD,mwU]
    rfl
theorem vwithin_c (n a b : Int) (w : World) : Rets ZP 65 #[.int .i64 n, .int .i64 a, .int .i64 b] w fun r w' => r = .bool (decide (a ≤ n) && decide (n ≤ b)) ∧ w' = w := by
  refine en65 ?_
  by_cases h1 : a ≤ n
  · by_cases h2 : n ≤ b
    · simp -dsimp -implicitDefEqProofs only [h1,h2,m65,sF65,ZA,↓reduceIte,ZB,ZC,ZJ,ZK,ZE,ZF,ZG,ZH,ZI,reduceCtorEq,ZD,mwV,↓mwD,mwU]
      rfl
    · simp -dsimp -implicitDefEqProofs only [h1,h2,m65,sF65,ZA,↓reduceIte,ZB,ZC,ZJ,ZK,ZE,ZF,ZG,ZH,ZI,reduceCtorEq,ZD,mwV,↓mwD,mwU]
      rfl
  · simp -dsimp -implicitDefEqProofs only [h1,m65,sF65,ZA,↓reduceIte,ZB,ZC,ZJ,ZK,ZE,ZF,ZG,ZH,ZI,reduceCtorEq,ZD,mwV,↓mwD,mwU]
    rfl
theorem sgcd_c (x y : Nat) (w : World) : Rets ZP 49 #[.int .i64 x, .int .i64 y] w fun r w' => r = .int .i64 (Nat.gcd x y : Nat) ∧ Ext w w' := by
  refine en49 ?_
  simp -dsimp -implicitDefEqProofs only [m49,sF49,ZA,↓reduceIte,ZB,ZC,ZJ,ZK,ZE,ZF,ZG,ZH,ZI,reduceCtorEq,ZD,mwV,↓mwD,mwU]
  refine mwpB_loop (fun e ds w' => ∃ m n : Nat, e 0 = .int .i64 m ∧ e 1 = .int .i64 n ∧ ds = [] ∧ Ext w w' ∧ Nat.gcd m n = Nat.gcd x y) (fun e _ => (intOf (e 1)).toNat) ?_ ?_
  · simp -dsimp -implicitDefEqProofs only [m49,sF49,ZA,↓reduceIte,ZB,ZC,ZJ,ZK,ZE,ZF,ZG,ZH,ZI,reduceCtorEq,ZD,mwV,↓mwD,mwU]
    exact ⟨x, y, rfl, rfl, Ext.refl _, rfl⟩
  · rintro e ds w' ⟨m, n, h0, h1, rfl, hxw, hg⟩
    by_cases hp : 0 < n
    · have hp' : (0 : Int) < (n : Int) := by omega
      have hn0 : ¬ (n : Int) = 0 := by omega
      have ht : (m : Int).tmod (n : Int) = ((m % n : Nat) : Int) := rfl
      simp -dsimp -implicitDefEqProofs only [h0,h1,hp',m49,sF49,ZA,↓reduceIte,ZB,ZC,ZJ,ZK,ZE,ZF,ZG,ZH,ZI,reduceCtorEq,ZD,mwV,↓mwD,mwU]
      refine mwpB_drawE ?_
      simp -dsimp -implicitDefEqProofs only [h0,h1,hn0,ht,not_false_eq_true,m49,sF49,ZA,↓reduceIte,ZB,ZC,ZJ,ZK,ZE,ZF,ZG,ZH,ZI,reduceCtorEq,ZD,mwV,↓mwD,mwU]
      have hlt := Nat.mod_lt m hp
      refine ⟨⟨n, m % n, rfl, rfl, hxw.trans (Ext.drew _), ?_⟩, ?_⟩
      · rw [← hg, Nat.gcd_comm m n, Nat.gcd_rec n m, Nat.gcd_comm]
      · simp only [intOf]; omega
    · obtain rfl : n = 0 := by omega
      simp -dsimp -implicitDefEqProofs only [h0,h1,Int.natCast_zero,Int.lt_irrefl,m49,sF49,ZA,↓reduceIte,ZB,ZC,ZJ,ZK,ZE,ZF,ZG,ZH,ZI,reduceCtorEq,ZD,mwV,↓mwD,mwU]
      refine ⟨?_, hxw⟩
      rw [← hg]; simp
theorem rgcd_c (x y : Nat) (w : World) : Rets ZP 50 #[.int .i64 x, .int .i64 y] w fun r w' => r = .int .i64 (Nat.gcd x y : Nat) ∧ Ext w w' := by
  refine en50 ?_
  simp -dsimp -implicitDefEqProofs only [m50,sF50,ZA,↓reduceIte,ZB,ZC,ZJ,ZK,ZE,ZF,ZG,ZH,ZI,reduceCtorEq,ZD,mwV,↓mwD,mwU]
  refine mwpB_loop (fun e ds w' => ∃ m n : Nat, e 0 = .int .i64 m ∧ e 1 = .int .i64 n ∧ ds = [] ∧ Ext w w' ∧ Nat.gcd m n = Nat.gcd x y) (fun e _ => (intOf (e 1)).toNat) ?_ ?_
  · simp -dsimp -implicitDefEqProofs only [m50,sF50,ZA,↓reduceIte,ZB,ZC,ZJ,ZK,ZE,ZF,ZG,ZH,ZI,reduceCtorEq,ZD,mwV,↓mwD,mwU]
    exact ⟨x, y, rfl, rfl, Ext.refl _, rfl⟩
  · rintro e ds w' ⟨m, n, h0, h1, rfl, hxw, hg⟩
    by_cases hp : 0 < n
    · have hp' : (0 : Int) < (n : Int) := by omega
      have hn0 : ¬ (n : Int) = 0 := by omega
      have ht : (m : Int).tmod (n : Int) = ((m % n : Nat) : Int) := rfl
      simp -dsimp -implicitDefEqProofs only [h0,h1,hp',m50,sF50,ZA,↓reduceIte,ZB,ZC,ZJ,ZK,ZE,ZF,ZG,ZH,ZI,reduceCtorEq,ZD,mwV,↓mwD,mwU]
      refine mwpB_drawE ?_
      simp -dsimp -implicitDefEqProofs only [h0,h1,hn0,ht,not_false_eq_true,m50,sF50,ZA,↓reduceIte,ZB,ZC,ZJ,ZK,ZE,ZF,ZG,ZH,ZI,reduceCtorEq,ZD,mwV,↓mwD,mwU]
      have hlt := Nat.mod_lt m hp
      refine ⟨⟨n, m % n, rfl, rfl, hxw.trans (Ext.drew _), ?_⟩, ?_⟩
      · rw [← hg, Nat.gcd_comm m n, Nat.gcd_rec n m, Nat.gcd_comm]
      · simp only [intOf]; omega
    · obtain rfl : n = 0 := by omega
      simp -dsimp -implicitDefEqProofs only [h0,h1,Int.natCast_zero,Int.lt_irrefl,m50,sF50,ZA,↓reduceIte,ZB,ZC,ZJ,ZK,ZE,ZF,ZG,ZH,ZI,reduceCtorEq,ZD,mwV,↓mwD,mwU]
      refine ⟨?_, hxw⟩
      rw [← hg]; simp
theorem t960 {den : Int} (h : 1 ≤ den) : (960 : Int).tmod den = 960 % den := Int.tmod_eq_emod_of_nonneg (by decide)
theorem d960 {den : Int} : (960 : Int).tdiv den = 960 / den := Int.tdiv_eq_ediv_of_nonneg (by decide)
theorem sbeat_c (num den : Int) (w : World) (h1 : inE num) (h2 : inE den) : Rets ZP 33 #[.int .i64 num, .int .i64 den] w fun r w' => r = .bool (beatB num den) ∧ Ext w w' := by
  refine en33 ?_
  simp -dsimp -implicitDefEqProofs only [m33,sF33,ZA,↓reduceIte,ZB,ZC,ZJ,ZK,ZE,ZF,ZG,ZH,ZI,reduceCtorEq,ZD,mwV,↓mwD,mwU]
  refine (swithin_c num 0 1000000 w).use ?_
  rintro r w1 ⟨rfl, rfl⟩
  cases hb : (decide (0 ≤ num) && decide (num ≤ 1000000))
  · simp -dsimp -implicitDefEqProofs only [m33,sF33,ZA,↓reduceIte,ZB,ZC,ZJ,ZK,ZE,ZF,ZG,ZH,ZI,reduceCtorEq,ZD,mwV,↓mwD,mwU]
    exact ⟨by unfold beatB; rw [hb]; rfl, Ext.refl _⟩
  by_cases q1 : 1 ≤ den
  · have hn0 : ¬ den = 0 := by omega
    have ht := t960 q1
    by_cases q2 : (960 : Int) % den = 0
    · simp -dsimp -implicitDefEqProofs only [q1,hn0,not_false_eq_true,ht,q2,m33,sF33,ZA,↓reduceIte,ZB,ZC,ZJ,ZK,ZE,ZF,ZG,ZH,ZI,reduceCtorEq,ZD,mwV,↓mwD,mwU]
      simp only [Bool.and_eq_true,decide_eq_true_eq] at hb
      obtain ⟨dn, rfl⟩ := Int.eq_ofNat_of_zero_le (show 0 ≤ den by omega)
      obtain ⟨nn, rfl⟩ := Int.eq_ofNat_of_zero_le hb.1
      refine (sgcd_c dn nn w1).use ?_
      rintro r w2 ⟨rfl, h3⟩
      simp -dsimp -implicitDefEqProofs only [m33,sF33,ZA,↓reduceIte,ZB,ZC,ZJ,ZK,ZE,ZF,ZG,ZH,ZI,reduceCtorEq,ZD,mwV,↓mwD,mwU]
      refine ⟨?_, h3⟩
      unfold beatB
      simp only [Int.toNat_natCast,hb.1,hb.2,q1,q2,decide_true,Bool.and_self,Bool.true_and,Nat.gcd_comm dn nn]
      congr 1
      exact decide_eq_decide.2 ⟨fun h => by omega, fun h => by omega⟩
    · simp -dsimp -implicitDefEqProofs only [q1,hn0,not_false_eq_true,ht,q2,m33,sF33,ZA,↓reduceIte,ZB,ZC,ZJ,ZK,ZE,ZF,ZG,ZH,ZI,reduceCtorEq,ZD,mwV,↓mwD,mwU]
      exact ⟨by unfold beatB; rw [hb]; simp [q1, q2], Ext.refl _⟩
  · simp -dsimp -implicitDefEqProofs only [q1,m33,sF33,ZA,↓reduceIte,ZB,ZC,ZJ,ZK,ZE,ZF,ZG,ZH,ZI,reduceCtorEq,ZD,mwV,↓mwD,mwU]
    exact ⟨by unfold beatB; rw [hb]; simp [q1], Ext.refl _⟩
theorem rbeat_c (num den : Int) (w : World) (h1 : inE num) (h2 : inE den) : Rets ZP 51 #[.int .i64 num, .int .i64 den] w fun r w' => r = .bool (beatB num den) ∧ Ext w w' := by
  refine en51 ?_
  by_cases p1 : 0 ≤ num
  · by_cases p2 : num ≤ 1000000
    · by_cases q1 : 1 ≤ den
      · by_cases q3 : den ≤ 960
        · have hn0 : ¬ den = 0 := by omega
          have ht := t960 q1
          by_cases q2 : (960 : Int) % den = 0
          · simp -dsimp -implicitDefEqProofs only [p1,p2,q1,q3,hn0,not_false_eq_true,ht,q2,m51,sF51,ZA,↓reduceIte,ZB,ZC,ZJ,ZK,ZE,ZF,ZG,ZH,ZI,reduceCtorEq,ZD,mwV,↓mwD,mwU]
            obtain ⟨dn, rfl⟩ := Int.eq_ofNat_of_zero_le (show 0 ≤ den by omega)
            obtain ⟨nn, rfl⟩ := Int.eq_ofNat_of_zero_le p1
            refine (rgcd_c nn dn w).use ?_
            rintro r w2 ⟨rfl, h3⟩
            simp -dsimp -implicitDefEqProofs only [m51,sF51,ZA,↓reduceIte,ZB,ZC,ZJ,ZK,ZE,ZF,ZG,ZH,ZI,reduceCtorEq,ZD,mwV,↓mwD,mwU]
            refine ⟨?_, h3⟩
            unfold beatB
            simp only [Int.toNat_natCast,p1,p2,q1,q2,decide_true,Bool.and_self,Bool.true_and]
            congr 1
            exact decide_eq_decide.2 ⟨fun h => by omega, fun h => by omega⟩
          · simp -dsimp -implicitDefEqProofs only [p1,p2,q1,q3,hn0,not_false_eq_true,ht,q2,m51,sF51,ZA,↓reduceIte,ZB,ZC,ZJ,ZK,ZE,ZF,ZG,ZH,ZI,reduceCtorEq,ZD,mwV,↓mwD,mwU]
            exact ⟨by unfold beatB; simp [p1, p2, q1, q2], Ext.refl _⟩
        · simp -dsimp -implicitDefEqProofs only [p1,p2,q1,q3,m51,sF51,ZA,↓reduceIte,ZB,ZC,ZJ,ZK,ZE,ZF,ZG,ZH,ZI,reduceCtorEq,ZD,mwV,↓mwD,mwU]
          have : ¬ (960 : Int) % den = 0 := by rw [Int.emod_eq_of_lt (by decide) (by omega)]; decide
          exact ⟨by unfold beatB; simp [p1, p2, q1, this], Ext.refl _⟩
      · simp -dsimp -implicitDefEqProofs only [p1,p2,q1,m51,sF51,ZA,↓reduceIte,ZB,ZC,ZJ,ZK,ZE,ZF,ZG,ZH,ZI,reduceCtorEq,ZD,mwV,↓mwD,mwU]
        exact ⟨by unfold beatB; simp [p1, p2, q1], Ext.refl _⟩
    · simp -dsimp -implicitDefEqProofs only [p1,p2,m51,sF51,ZA,↓reduceIte,ZB,ZC,ZJ,ZK,ZE,ZF,ZG,ZH,ZI,reduceCtorEq,ZD,mwV,↓mwD,mwU]
      exact ⟨by unfold beatB; simp [p1, p2], Ext.refl _⟩
  · simp -dsimp -implicitDefEqProofs only [p1,m51,sF51,ZA,↓reduceIte,ZB,ZC,ZJ,ZK,ZE,ZF,ZG,ZH,ZI,reduceCtorEq,ZD,mwV,↓mwD,mwU]
    exact ⟨by unfold beatB; simp [p1], Ext.refl _⟩
end Go.Proofs.YtdkdibeimeaakabGreatDoor

/- Layer 02: package format's own, and what join defers. -/
import Derived.Test.YthcdnjbhhaonhaaGreatDoorQvFoDToFoG
import Derived.RecoverIn

namespace Go.Proofs.YthcdnjbhhaonhaaGreatDoor
open Go.RowKit
open Nat renaming reduceEqDiff → ZA, reduceAdd → ZB, reduceMul → ZC, reduceSub → ZD
open Int renaming reduceToNat → ZE, reduceEq → ZF, reduceLT → ZG, reduceLE → ZH, reduceNeg → ZI
open Go.Value renaming oneCell' → ZK, cells → ZJ
open Go.Proofs.Tryz renaming prog → ZP
set_option linter.unusedSimpArgs false
def stopV (n : Int) : Value := .iface 124 (.agg #[.int .i64 n])
def stopM : MC := match m109 with
 | .seq _ (.seq _ (.cond _ d _)) => d
 | _ => .skip
theorem bv_fm0 : buildV ZP 24 [] = some (.agg #[.int .i64 0, .slice none 0 0]) := by kernel_rfl
end Go.Proofs.YthcdnjbhhaonhaaGreatDoor
/- Layer 02: rows of fields of a call's own. -/
namespace Go.Proofs.YthcdnjbhhaonhaaGreatDoor
open Go.RowKit
open Nat renaming reduceEqDiff → ZA, reduceAdd → ZB, reduceMul → ZC, reduceSub → ZD
open Int renaming reduceToNat → ZE, reduceEq → ZF, reduceLT → ZG, reduceLE → ZH, reduceNeg → ZI
open Go.Value renaming oneCell' → ZK, cells → ZJ
open Go.Proofs.Tryz renaming prog → ZP
set_option linter.unusedSimpArgs false
def rowsF : List (Fl × Value) → List Value
 | [] => []
 | p :: l => flVs p.1 p.2 ++ rowsF l
theorem rowsF_app : ∀ (a b : List (Fl × Value)), rowsF (a ++ b) = rowsF a ++ rowsF b
 | [], _ => rfl
 | p :: a, b => by rw [List.cons_append, rowsF, rowsF_app a b, rowsF, List.append_assoc]
theorem rowsF_get : ∀ {l : List (Fl × Value)} {k : Nat} {p : Fl × Value} {j : Nat} {u : Value}, l[k]? = some p → (flVs p.1 p.2)[j]? = some u → (rowsF l)[4 * k + j]? = some u
 | [], _, _, _, _, h, _ => by simp at h
 | q :: l, 0, p, j, u, h, hj => by
  simp only [List.getElem?_cons_zero,Option.some.injEq] at h
  subst h
  have := (List.getElem?_eq_some_iff.1 hj).1
  rw [rowsF, List.getElem?_append_left (by omega), show 4 * 0 + j = j by omega]; exact hj
 | q :: l, k + 1, p, j, u, h, hj => by
  rw [rowsF, List.getElem?_append_right (by simp [flVs]; omega)]
  rw [show 4 * (k + 1) + j - (flVs q.1 q.2).length = 4 * k + j by simp [flVs]; omega]
  exact rowsF_get (by simpa using h) hj
theorem Own.slF {w : World} {base : Nat} {v : Value} {acc : List (Fl × Value)} (h : w.ownsRow base 72 4 v acc.length (rowsF acc)) (hl : ∀ p ∈ acc, SlI w p.2 p.1.c.L) : SlF w v (acc.map (·.1)) := by
 rcases h.2 with ⟨hv, h0⟩ | ⟨g, cap, cur, hv, hb, hg, h1, h2, h3, h4⟩
 · have : acc = [] := List.eq_nil_of_length_eq_zero h0
   subst this
   rw [hv]; exact SlF.nil w
 · refine ⟨_, cap, by rw [hv, List.length_map], by rw [List.length_map]; omega, h2, fun _ => ⟨g, 0, rfl, fun k f hk => ?_⟩⟩
   rw [List.getElem?_map, Option.map_eq_some_iff] at hk
   obtain ⟨p, hp, rfl⟩ := hk
   refine ⟨p.2, fun j u hj => ?_, hl p (List.mem_of_getElem? hp)⟩
   have := World.ownsRow.cells h (g := g) (by simp [hv, Value.ownBlock]) (4 * k + j) u (rowsF_get hp hj)
   simpa [Addr.add_lit] using this
theorem Own.ch {w w' : World} {base : Nat} {e : TypeId} {size : Nat} {v : Value} {n : Nat} {cs : List Value} (h : w.ownsRow base e size v n cs) (hs : ∀ (k : Nat) (cur : Array Value), w.heap[k]? = some (Obj.cells cur e) → w'.heap[k]? = w.heap[k]?) : w'.ownsRow base e size v n cs := by
 refine ⟨h.1, ?_⟩
 rcases h.2 with h2 | ⟨g, cap, cur, hv, hg, hh, r⟩
 · exact .inl h2
 · exact .inr ⟨g, cap, cur, hv, hg, by rw [hs g _ hh]; exact hh, r⟩
theorem bs_fl (f : Fl) (s : Value) : buildS ZP 22 1 [(0, .agg #[.int .i64 f.key, .int .i64 f.c.k, .int .i64 f.c.d, s])] = some (72, #[.int .i64 f.key, .int .i64 f.c.k, .int .i64 f.c.d, s]) := by kernel_rfl
theorem append_fl {w : World} {base : Nat} {v : Value} {acc : List (Fl × Value)} (hown : w.ownsRow base 72 4 v acc.length (rowsF acc)) (f : Fl) (s : Value) (hs : s.oneCell' = true) (hn : acc.length ≤ 1000000) (hb : base ≤ w.heap.size) :
 ∃ v' w', (Builtin.append_ #[22, 22] 22 #[v, .slice (some ⟨w.heap.size, 0, none⟩) 1 1]).run ZP (w.alloc (.cells #[.int .i64 f.key, .int .i64 f.c.k, .int .i64 f.c.d, s] 72)) = .ok v' w' ∧ w'.ownsRow base 72 4 v' (acc ++ [(f, s)]).length (rowsF (acc ++ [(f, s)])) ∧
  (w.alloc (.cells #[.int .i64 f.key, .int .i64 f.c.k, .int .i64 f.c.d, s] 72)).grownBy w' v.ownBlock := by
 obtain ⟨v', w', ha, hown', hg⟩ := append_own (P := ZP) (w := w.alloc (.cells #[.int .i64 f.key, .int .i64 f.c.k, .int .i64 f.c.d, s] 72)) (t := 22) (ty := 22) (z := .agg #[.int .i64 0, .int .i64 0, .int .i64 0, .slice none 0 0]) (ats := [22, 22]) rfl telem_22 tok_72 tzero_72 (by rw [tsz_72]; rfl) (by rw [tsz_72]; omega)
  (by rw [tsz_72]; exact Own.ext hown (Ext.alloc _ _)) (a := ⟨w.heap.size, 0, none⟩) (m := 1) (c := 1) (news := flVs f s) (by rw [tsz_72]; rfl)
  (fun j u hj => by rw [Addr.add_lit, World.cell?_alloc_new]; simpa [flVs] using hj) (fun u hu => by simp [flVs] at hu; rcases hu with rfl | rfl | rfl | rfl <;> first | rfl | exact hs) (by unfold maxLen; omega) (by rw [tby_72]; omega) (by simp; omega)
 refine ⟨v', w', ha, ?_, hg⟩
 rw [tsz_72] at hown'
 rw [rowsF_app, List.length_append]
 simpa [rowsF] using hown'
def OwnF (w : World) (base : Nat) (v : Value) (acc : List (Fl × Value)) : Prop := w.ownsRow base 72 4 v acc.length (rowsF acc) ∧ ∀ p ∈ acc, w.ownsRow base 3 1 p.2 p.1.c.L.length (ints p.1.c.L)
structure JoS (w0 u : World) (D l : Nat) (rec : Loop) (b4 b5 : Nat) (m : Int) (v : Value) (acc : List (Fl × Value)) : Prop where
 ext : Ext w0 u
 dead : u.heap[D]? = some (.deferred (some []))
 loop : u.heap[l]? = some (.loop rec)
 k4 : Bk u b4 [.int .i64 m, v] 24
 k5 : Bk u b5 [.int .i64 0] 28
 own : u.ownsRow w0.heap.size 72 4 v acc.length (rowsF acc)
 lists : ∀ p ∈ acc, u.ownsRow w0.heap.size 3 1 p.2 p.1.c.L.length (ints p.1.c.L)
def Odd (u : World) (b : Nat) : Prop := ∀ (cs : Array Value) (t : TypeId), u.heap[b]? = some (Obj.cells cs t) → t ≠ 72 ∧ t ≠ 3
theorem Bk.odd {u : World} {b : Nat} {cs : List Value} {t : TypeId} (h : Bk u b cs t) (h1 : t ≠ 72) (h2 : t ≠ 3) : Odd u b := fun cs' t' h' => by
 unfold Bk at h
 rw [h] at h'
 simp only [Option.some.injEq,Obj.cells.injEq] at h'
 obtain ⟨_, rfl, _⟩ := h'
 exact ⟨h1, h2⟩
theorem odd_obj {u : World} {b : Nat} {o : Obj} (h : u.heap[b]? = some o) (ho : o.isCells = false) : Odd u b := fun cs' t' h' => by
 rw [h] at h'; cases h'; cases ho
section
variable {w0 u u' : World} {D l b4 b5 : Nat} {rec r2 : Loop} {m : Int} {v : Value} {acc : List (Fl × Value)}
theorem JoS.chp {G : Nat → Prop} (h : JoS w0 u D l rec b4 b5 m v acc) (c : ChP G u u') (hG : ∀ b, G b → w0.heap.size ≤ b) (h1 : ¬ G D) (h2 : ¬ G l) (h3 : ¬ G b4) (h4 : ¬ G b5) (hO : ∀ b, G b → Odd u b) : JoS w0 u' D l rec b4 b5 m v acc := by
 refine ⟨c.ext h.ext hG, by rw [c.block D (Array.getElem?_eq_some_iff.1 h.dead).1 h1]; exact h.dead, by rw [c.block l (Array.getElem?_eq_some_iff.1 h.loop).1 h2]; exact h.loop, c.bk h3 h.k4, c.bk h4 h.k5, Own.ch h.own fun k cur hk => ?_, fun p hp => Own.ch (h.lists p hp) fun k cur hk => ?_⟩
 · exact c.block k (Array.getElem?_eq_some_iff.1 hk).1 (fun hg => (hO k hg cur _ hk).1 rfl)
 · exact c.block k (Array.getElem?_eq_some_iff.1 hk).1 (fun hg => (hO k hg cur _ hk).2 rfl)
theorem JoS.next (h : JoS w0 u D l rec b4 b5 m v acc) (c : Ext u u') : JoS w0 u' D l rec b4 b5 m v acc := h.chp (G := fun _ => False) (Ext.chp c) (fun _ h => h.elim) id id id id (fun _ h => h.elim)
theorem JoS.put (h : JoS w0 u D l rec b4 b5 m v acc) (h0 : w0.heap.size ≤ l) (h1 : l ≠ D) (h3 : l ≠ b4) (h4 : l ≠ b5) : JoS w0 (u.putObj l (.loop r2)) D l r2 b4 b5 m v acc := by
 have c : ChP (fun k => k = l) u (u.putObj l (.loop r2)) := ChP.put (G := fun k => k = l) (ChP.refl _ u) (fun _ => rfl) _
 have no : ∀ (k : Nat) (cur : Array Value) (t : TypeId), u.heap[k]? = some (Obj.cells cur t) → k ≠ l := fun k cur t hk e => by subst e; rw [h.loop] at hk; cases hk
 refine ⟨c.ext h.ext (fun b hb => by subst hb; exact h0), by rw [World.putObj_heap_other (Ne.symm h1)]; exact h.dead, World.putObj_heap_same (Array.getElem?_eq_some_iff.1 h.loop).1, h.k4.put h3 _, h.k5.put h4 _, Own.ch h.own fun k cur hk => ?_, fun p hp => Own.ch (h.lists p hp) fun k cur hk => ?_⟩
 · exact World.putObj_heap_other (no k cur _ hk)
 · exact World.putObj_heap_other (no k cur _ hk)
theorem OwnF.slF {w : World} {base : Nat} (h : OwnF w base v acc) : SlF w v (acc.map (·.1)) := Own.slF h.1 fun p hp => Own.sl (h.2 p hp)
theorem OwnF.ext {w w' : World} {base : Nat} (h : OwnF w base v acc) (c : Ext w w') : OwnF w' base v acc := ⟨Own.ext h.1 c, fun p hp => Own.ext (h.2 p hp) c⟩
theorem OwnF.mono {w : World} {base base' : Nat} (h : OwnF w base v acc) (hb : base' ≤ base) : OwnF w base' v acc := ⟨Own.mono h.1 hb, fun p hp => Own.mono (h.2 p hp) hb⟩
theorem OwnF.ch {w w' : World} {base : Nat} {G : Nat → Prop} (h : OwnF w base v acc) (c : ChP G w w') (hO : ∀ b, G b → Odd w b) : OwnF w' base v acc := by
 refine ⟨Own.ch h.1 fun k cur hk => ?_, fun p hp => Own.ch (h.2 p hp) fun k cur hk => ?_⟩
 · exact c.block k (Array.getElem?_eq_some_iff.1 hk).1 (fun hg => (hO k hg cur _ hk).1 rfl)
 · exact c.block k (Array.getElem?_eq_some_iff.1 hk).1 (fun hg => (hO k hg cur _ hk).2 rfl)
theorem own_slice {w : World} {base n size : Nat} {e : TypeId} {v : Value} {cs : List Value} (h : w.ownsRow base e size v n cs) : ∃ q k c, v = .slice q k c := by
 rcases h.2 with ⟨hv, _⟩ | ⟨g, cap, cur, hv, _⟩
 · exact ⟨_, _, _, hv⟩
 · exact ⟨_, _, _, hv⟩
theorem JoS.push {u1 u2 : World} {f : Fl} {s v2 : Value} (h : JoS w0 u D l rec b4 b5 m v acc) (hx : Ext u u1) (hne : b4 ≠ b5) (h4 : w0.heap.size ≤ b4) (hs : u1.ownsRow w0.heap.size 3 1 s f.c.L.length (ints f.c.L))
 (hown : u2.ownsRow w0.heap.size 72 4 v2 (acc ++ [(f, s)]).length (rowsF (acc ++ [(f, s)]))) (hg : (u1.alloc (.cells #[.int .i64 f.key, .int .i64 f.c.k, .int .i64 f.c.d, s] 72)).grownBy u2 v.ownBlock) :
 Ext w0 u2 ∧ Bk u2 b4 [.int .i64 m, v] 24 ∧ JoS w0 (u2.setCell ⟨b4, 1, none⟩ v2) D l rec b4 b5 m v2 (acc ++ [(f, s)]) ∧ ∀ k, k < u.heap.size → k ≠ b4 → Odd u k → (u2.setCell ⟨b4, 1, none⟩ v2).heap[k]? = u.heap[k]? := by
 have hx1 : Ext u (u1.alloc (.cells #[.int .i64 f.key, .int .i64 f.c.k, .int .i64 f.c.d, s] 72)) := hx.trans (Ext.alloc _ _)
 have rowO : ∀ k, v.ownBlock = some k → ∃ cur, u.heap[k]? = some (Obj.cells cur 72) := fun k hk => by
  rcases h.own.2 with ⟨hv, _⟩ | ⟨g, cap, cur, hv, _, hh, _⟩
  · rw [hv] at hk; cases hk
  · rw [hv] at hk; simp only [Value.ownBlock,Option.some.injEq] at hk; subst hk; exact ⟨cur, hh⟩
 have keep2 : ∀ k, k < u.heap.size → (∀ cur, u.heap[k]? ≠ some (Obj.cells cur 72)) → u2.heap[k]? = u.heap[k]? := fun k hk hn => by
  rw [hg.block k (Nat.lt_of_lt_of_le hk hx1.size) (fun e => by obtain ⟨cur, hc⟩ := rowO k e.symm; exact hn cur hc), hx1.block k hk]
 have odd2 : ∀ k, Odd u k → ∀ cur, u.heap[k]? ≠ some (Obj.cells cur 72) := fun k ho cur hc => (ho cur _ hc).1 rfl
 have k42 : Bk u2 b4 [.int .i64 m, v] 24 := by
  unfold Bk; rw [keep2 b4 h.k4.lt (odd2 _ (h.k4.odd (by decide) (by decide)))]; exact h.k4
 have k52 : Bk u2 b5 [.int .i64 0] 28 := by
  unfold Bk; rw [keep2 b5 h.k5.lt (odd2 _ (h.k5.odd (by decide) (by decide)))]; exact h.k5
 have lD := (Array.getElem?_eq_some_iff.1 h.dead).1
 have lL := (Array.getElem?_eq_some_iff.1 h.loop).1
 have dead2 := (keep2 D lD (odd2 _ (odd_obj h.dead rfl))).trans h.dead
 have loop2 := (keep2 l lL (odd2 _ (odd_obj h.loop rfl))).trans h.loop
 have hD : D ≠ b4 := fun e => by have := h.k4; unfold Bk at this; rw [← e, h.dead] at this; cases this
 have hL : l ≠ b4 := fun e => by have := h.k4; unfold Bk at this; rw [← e, h.loop] at this; cases this
 have listK : ∀ {k : Nat} {cur : Array Value}, u1.heap[k]? = some (Obj.cells cur 3) → (u2.setCell ⟨b4, 1, none⟩ v2).heap[k]? = u1.heap[k]? := fun {k cur} hk => by
  have hkl := (Array.getElem?_eq_some_iff.1 hk).1
  have hkb : k ≠ b4 := fun e => by
   have := h.k4.ext hx
   unfold Bk at this
   rw [← e, hk] at this
   simp at this
  rw [Below.heap_setCell _ _ _ _ hkb, hg.block k (by rw [World.size_alloc]; omega) (fun e => ?_), Below.heap_alloc _ _ _ hkl]
  obtain ⟨cur', hc⟩ := rowO k e.symm
  have hku := (Array.getElem?_eq_some_iff.1 hc).1
  rw [hx.block k hku, hc] at hk
  simp at hk
 have hx2 : Ext w0 u2 := ((h.ext.trans hx).trans (Ext.alloc _ _)).grown hg (fun k hk => (World.ownsRow.lt h.own k hk).1)
 refine ⟨hx2, k42, ⟨?_, by rw [Below.heap_setCell _ _ _ _ hD]; exact dead2, by rw [Below.heap_setCell _ _ _ _ hL]; exact loop2, k42.set 1 v2, k52.ne hne 1 v2, Own.off hown (own_ne hown k42 (by decide)), fun p hp => ?_⟩, fun k hk hk4 ho => ?_⟩
 · exact hx2.setCell h4 _
 · rcases List.mem_append.1 hp with hp | hp
   · exact Own.ch (Own.ext (h.lists p hp) hx) fun k cur hk => listK hk
   · simp only [List.mem_singleton] at hp
     subst hp
     exact Own.ch hs fun k cur hk => listK hk
 · rw [Below.heap_setCell _ _ _ _ hk4]; exact keep2 k hk (odd2 k ho)
end
end Go.Proofs.YthcdnjbhhaonhaaGreatDoor
/- Layer 02: package format's join. -/
namespace Go.Proofs.YthcdnjbhhaonhaaGreatDoor
open Go.RowKit
open Nat renaming reduceEqDiff → ZA, reduceAdd → ZB, reduceMul → ZC, reduceSub → ZD
open Int renaming reduceToNat → ZE, reduceEq → ZF, reduceLT → ZG, reduceLE → ZH, reduceNeg → ZI
open Go.Value renaming oneCell' → ZK, cells → ZJ
open Go.Proofs.Tryz renaming prog → ZP
set_option linter.unusedSimpArgs false
section
variable {P : Program} {f : FuncId}
end
def joinD (b4 b5 : Nat) : Deferred := { target := .fn (.func 109) #[.pointer (some ⟨b4, 0, none⟩), .pointer (some ⟨b5, 0, none⟩)], args := #[] }
def JoJ (w0 : World) (D l : Nat) (rec : Loop) (b4 b5 : Nat) (m : Int) (A B A' B' : List Fl) (u : World) : Prop :=
 ∃ v acc, JoS w0 u D l rec b4 b5 m v acc ∧ (∀ o, JoinR (pairs A' B') o → JoinR (pairs A B) (o.map (acc.map (·.1) ++ ·))) ∧ (∀ x ∈ A', x.c.valid = true) ∧ (∀ y ∈ B', y.c.valid = true) ∧ acc.length + A'.length + B'.length ≤ 2000
def JoT (w0 : World) (D b4 b5 : Nat) (m : Int) (A B : List Fl) (ch : List PanicEntry) (u : World) : Prop :=
 ch = [⟨stopV 13, false, false⟩] ∧ Ext w0 u ∧ u.heap[D]? = some (.deferred (some [])) ∧ (∃ v, Bk u b4 [.int .i64 m, v] 24) ∧ Bk u b5 [.int .i64 0] 28 ∧ JoinR (pairs A B) none
def JoinQ (a b : Fm) (w : World) (r : Value) (w' : World) : Prop := Ext w w' ∧ if a.m = b.m then ∃ o, JoinR (pairs a.F b.F) o ∧ match o with
 | none => r = .tuple #[.agg #[.int .i64 0, .slice none 0 0], .int .i64 13]
 | some J => ∃ s acc, r = .tuple #[fmV ⟨a.m, J⟩ s, .int .i64 0] ∧ J = acc.map (·.1) ∧ OwnF w' w.heap.size s acc
 else r = .tuple #[.agg #[.int .i64 0, .slice none 0 0], .int .i64 10]
def JoinF (a b : Fm) (w : World) (r : Value) (w' : World) : Prop := Ext w w' ∧ if (a.valid && b.valid) = true then JoinQ a b w r w' else r = .tuple #[.agg #[.int .i64 0, .slice none 0 0], .int .i64 1]
end Go.Proofs.YthcdnjbhhaonhaaGreatDoor
/- Layer 02: Same, of the program and of the reference. -/
namespace Go.Proofs.YthcdnjbhhaonhaaGreatDoor
open Go.RowKit
open Nat renaming reduceEqDiff → ZA, reduceAdd → ZB, reduceMul → ZC, reduceSub → ZD
open Int renaming reduceToNat → ZE, reduceEq → ZF, reduceLT → ZG, reduceLE → ZH, reduceNeg → ZI
open Go.Value renaming oneCell' → ZK, cells → ZJ
open Go.Proofs.Tryz renaming prog → ZP
set_option linter.unusedSimpArgs false
def eqCh (a b : Ch) : Bool := decide (a.k = b.k) && (decide (a.d = b.d) && decide (a.L = b.L))
def eqFs : List Fl → List Fl → Bool
 | [], [] => true
 | x :: A, y :: B => decide (x.key = y.key) && (eqCh x.c y.c && eqFs A B)
 | _, _ => false
def eqFm (a b : Fm) : Bool := decide (a.m = b.m) && eqFs a.F b.F
theorem eqCh_refl (a : Ch) : eqCh a a = true := by simp [eqCh]
theorem eqFs_refl : ∀ A : List Fl, eqFs A A = true
 | [] => rfl
 | x :: A => by simp [eqFs, eqCh_refl, eqFs_refl A]
theorem eqFm_refl (a : Fm) : eqFm a a = true := by simp [eqFm, eqFs_refl]
theorem eqFs_len : ∀ {A B : List Fl}, A.length ≠ B.length → eqFs A B = false
 | [], [], h => by simp at h
 | [], y :: B, _ => rfl
 | x :: A, [], _ => rfl
 | x :: A, y :: B, h => by
  rw [eqFs, eqFs_len (A := A) (B := B) (by simpa using h)]; simp
theorem eqFs_drop {A B : List Fl} {k : Nat} (h : k < A.length) (h' : k < B.length) : eqFs (A.drop k) (B.drop k) = (decide (A[k].key = B[k].key) && (eqCh A[k].c B[k].c && eqFs (A.drop (k + 1)) (B.drop (k + 1)))) := by
 rw [List.drop_eq_getElem_cons h, List.drop_eq_getElem_cons h']; rfl
theorem drop_eq_iff {xs ys : List Int} {k : Nat} (h : k < xs.length) (h' : k < ys.length) : (xs.drop k = ys.drop k) ↔ (xs[k] = ys[k] ∧ xs.drop (k + 1) = ys.drop (k + 1)) := by
 rw [List.drop_eq_getElem_cons h, List.drop_eq_getElem_cons h', List.cons.injEq]
def flA (f : Fl) (s : Value) : Value := .agg #[.int .i64 f.key, .int .i64 f.c.k, .int .i64 f.c.d, s]
theorem rsame_c (a b : Ch) (sa sb : Value) (w : World) (ha : SlI w sa a.L) (hb : SlI w sb b.L) : Rets ZP 25 #[chV a sa, chV b sb] w fun r w' => r = .bool (eqCh a b) ∧ Ext w w' := by
 obtain ⟨pa, ca, rfl, hca1, hca2⟩ := ha.shape
 obtain ⟨pb, cb, rfl, hcb1, hcb2⟩ := hb.shape
 obtain ⟨W, hW, BA, BB, hxW⟩ : ∃ W, W = (w.alloc (.cells #[.int .i64 a.k, .int .i64 a.d, .slice pa a.L.length ca] 35)).alloc (.cells #[.int .i64 b.k, .int .i64 b.d, .slice pb b.L.length cb] 35) ∧ Bk W w.heap.size [.int .i64 a.k, .int .i64 a.d, .slice pa a.L.length ca] 35 ∧ Bk W (w.heap.size + 1) [.int .i64 b.k, .int .i64 b.d, .slice pb b.L.length cb] 35 ∧ Ext w W := by
  refine ⟨_, rfl, (Bk.new w _ _).ext (Ext.alloc _ _), ?_, (Ext.alloc _ _).trans (Ext.alloc _ _)⟩
  have := Bk.new (w.alloc (.cells #[.int .i64 a.k, .int .i64 a.d, .slice pa a.L.length ca] 35)) [.int .i64 b.k, .int .i64 b.d, .slice pb b.L.length cb] 35
  rw [World.size_alloc] at this
  exact this
 have A0 := BA.get (o := 0) rfl
 have A1 := BA.get (o := 1) rfl
 have A2 := BA.get (o := 2) rfl
 have B0 := BB.get (o := 0) rfl
 have B1 := BB.get (o := 1) rfl
 have B2 := BB.get (o := 2) rfl
 refine en25 ?_
 by_cases hk : ¬ a.k = b.k
 · have dk : decide (a.k = b.k) = false := by simp [hk]
   simp -dsimp -implicitDefEqProofs only [chV,World.size_alloc,← hW,A0,A1,A2,B0,B1,B2,dk,m25,sF25,ZA,↓reduceIte,ZB,ZC,ZJ,ZK,ZE,ZF,ZG,ZH,ZI,reduceCtorEq,ZD,mwV,↓mwD,mwU]
   exact ⟨by simp [eqCh, hk], hxW⟩
 replace hk := Decidable.not_not.1 hk
 have dk : decide (a.k = b.k) = true := by simp [hk]
 by_cases hd : ¬ a.d = b.d
 · have dd : decide (a.d = b.d) = false := by simp [hd]
   simp -dsimp -implicitDefEqProofs only [chV,World.size_alloc,← hW,A0,A1,A2,B0,B1,B2,dk,dd,m25,sF25,ZA,↓reduceIte,ZB,ZC,ZJ,ZK,ZE,ZF,ZG,ZH,ZI,reduceCtorEq,ZD,mwV,↓mwD,mwU]
   exact ⟨by simp [eqCh, hd], hxW⟩
 replace hd := Decidable.not_not.1 hd
 have dd : decide (a.d = b.d) = true := by simp [hd]
 by_cases hl : ¬ a.L.length = b.L.length
 · have dl : decide ((a.L.length : Int) = (b.L.length : Int)) = false := by simp; omega
   simp -dsimp -implicitDefEqProofs only [chV,World.size_alloc,← hW,A0,A1,A2,B0,B1,B2,dk,dd,dl,m25,sF25,ZA,↓reduceIte,ZB,ZC,ZJ,ZK,ZE,ZF,ZG,ZH,ZI,reduceCtorEq,ZD,mwV,↓mwD,mwU]
   exact ⟨by have : ¬ a.L = b.L := fun h => hl (by rw [h])
             simp [eqCh, this], hxW⟩
 replace hl := Decidable.not_not.1 hl
 have dl : decide ((a.L.length : Int) = (b.L.length : Int)) = true := by simp [hl]
 have hv : eqCh a b = decide (a.L = b.L) := by simp [eqCh, hk, hd]
 rw [hv]
 simp -dsimp -implicitDefEqProofs only [chV,World.size_alloc,← hW,A0,A1,A2,B0,B1,B2,dk,dd,dl,m25,sF25,ZA,↓reduceIte,ZB,ZC,ZJ,ZK,ZE,ZF,ZG,ZH,ZI,reduceCtorEq,ZD,mwV,↓mwD,mwU]
 refine mwpB_loop (fun e ds w' => ∃ i : Nat, i ≤ a.L.length ∧ e 5 = .int .i64 i ∧ e 2 = .pointer (some ⟨w.heap.size, 0, none⟩) ∧ e 3 = .pointer (some ⟨w.heap.size + 1, 0, none⟩) ∧ ds = [] ∧ Ext W w' ∧ (a.L = b.L ↔ a.L.drop i = b.L.drop i)) (fun e _ => a.L.length - (intOf (e 5)).toNat) ?_ ?_
 · simp -dsimp -implicitDefEqProofs only [World.size_alloc,m25,sF25,ZA,↓reduceIte,ZB,ZC,ZJ,ZK,ZE,ZF,ZG,ZH,ZI,reduceCtorEq,ZD,mwV,↓mwD,mwU]
   exact ⟨0, by omega, rfl, Ext.refl _, Iff.rfl⟩
 · rintro e ds w1 ⟨i, hi, h5, h2, h3, rfl, hx, hiff⟩
   have a2 := (BA.ext hx).get (o := 2) rfl
   have b2 := (BB.ext hx).get (o := 2) rfl
   by_cases hlt : i < a.L.length
   · have hlt' : (i : Int) < (a.L.length : Int) := by omega
     have hltb : i < b.L.length := by omega
     obtain ⟨ba, oa, c1, hv1, _, _, hcA⟩ := ha.at (by intro h0; rw [h0] at hlt; simp at hlt)
     obtain ⟨bb, ob, c2, hv2, _, _, hcB⟩ := hb.at (by intro h0; rw [h0] at hltb; simp at hltb)
     simp only [Value.slice.injEq] at hv1 hv2
     obtain ⟨rfl, _, rfl⟩ := hv1
     obtain ⟨rfl, _, rfl⟩ := hv2
     have q1 := (hxW.trans hx).cell (hcA i hlt)
     have q2 := (hxW.trans hx).cell (hcB i hltb)
     have hb1 : (0 : Int) ≤ i ∧ (i : Int) < a.L.length := by omega
     have hb2 : (0 : Int) ≤ i ∧ (i : Int) < b.L.length := by omega
     have hw := w64_succ hlt (Nat.le_trans hca1 hca2)
     rw [drop_eq_iff hlt hltb] at hiff
     simp -dsimp -implicitDefEqProofs only [h5,h2,h3,a2,b2,hlt',m25,sF25,ZA,↓reduceIte,ZB,ZC,ZJ,ZK,ZE,ZF,ZG,ZH,ZI,reduceCtorEq,ZD,mwV,↓mwD,mwU]
     refine mwpB_drawE ?_
     have hxd := hx.trans (Ext.drew w1)
     by_cases he : a.L[i] = b.L[i]
     · have de : decide (a.L[i] = b.L[i]) = true := by simp [he]
       simp -dsimp -implicitDefEqProofs only [h5,h2,h3,a2,b2,hb1,hb2,and_self,q1,q2,de,hw,m25,sF25,ZA,↓reduceIte,ZB,ZC,ZJ,ZK,ZE,ZF,ZG,ZH,ZI,reduceCtorEq,ZD,mwV,↓mwD,mwU]
       exact ⟨⟨i + 1, by omega, rfl, hxd, hiff.trans ⟨fun h => h.2, fun h => ⟨he, h⟩⟩⟩, by simp only [intOf]; omega⟩
     · have de : decide (a.L[i] = b.L[i]) = false := by simp [he]
       simp -dsimp -implicitDefEqProofs only [h5,h2,h3,a2,b2,hb1,hb2,and_self,q1,q2,de,m25,sF25,ZA,↓reduceIte,ZB,ZC,ZJ,ZK,ZE,ZF,ZG,ZH,ZI,reduceCtorEq,ZD,mwV,↓mwD,mwU]
       exact ⟨by have : ¬ a.L = b.L := fun h => he (hiff.1 h).1
                 simp [this], hxW.trans hxd⟩
   · have hlt' : ¬ (i : Int) < (a.L.length : Int) := by omega
     simp -dsimp -implicitDefEqProofs only [h5,h2,h3,a2,b2,hlt',m25,sF25,ZA,↓reduceIte,ZB,ZC,ZJ,ZK,ZE,ZF,ZG,ZH,ZI,reduceCtorEq,ZD,mwV,↓mwD,mwU]
     rw [List.drop_of_length_le (by omega), List.drop_of_length_le (by omega)] at hiff
     exact ⟨by simp [hiff], hxW.trans hx⟩
theorem refSame_c (a b : Fm) (sa sb : Value) (w : World) (hA : SlF w sa a.F) (hB : SlF w sb b.F) : Rets ZP 15 #[fmV a sa, fmV b sb] w fun r w' => r = .bool (eqFm a b) ∧ Ext w w' := by
 obtain ⟨pa, ca, rfl, hc1, hc2⟩ := hA.shape
 obtain ⟨pb, cb, rfl, hc3, hc4⟩ := hB.shape
 obtain ⟨W, hW, A, B, hx⟩ : ∃ W, W = (w.alloc (.cells #[.int .i64 a.m, .slice pa a.F.length ca] 24)).alloc (.cells #[.int .i64 b.m, .slice pb b.F.length cb] 24) ∧ Bk W w.heap.size [.int .i64 a.m, .slice pa a.F.length ca] 24 ∧ Bk W (w.heap.size + 1) [.int .i64 b.m, .slice pb b.F.length cb] 24 ∧ Ext w W := by
  refine ⟨_, rfl, (Bk.new w [.int .i64 a.m, .slice pa a.F.length ca] _).ext (Ext.alloc _ _), ?_, (Ext.alloc _ _).trans (Ext.alloc _ _)⟩
  have := Bk.new (w.alloc (.cells #[.int .i64 a.m, .slice pa a.F.length ca] 24)) [.int .i64 b.m, .slice pb b.F.length cb] 24
  rw [World.size_alloc] at this
  exact this
 have A0 := A.get (o := 0) rfl
 have A1 := A.get (o := 1) rfl
 have B0 := B.get (o := 0) rfl
 have B1 := B.get (o := 1) rfl
 refine en15 ?_
 by_cases hm : ¬ a.m = b.m
 · have dm : decide (a.m = b.m) = false := by simp [hm]
   simp -dsimp -implicitDefEqProofs only [fmV,World.size_alloc,← hW,A0,A1,B0,B1,dm,m15,sF15,ZA,↓reduceIte,ZB,ZC,ZJ,ZK,ZE,ZF,ZG,ZH,ZI,reduceCtorEq,ZD,mwV,↓mwD,mwU]
   exact ⟨by simp [eqFm, hm], hx⟩
 replace hm := Decidable.not_not.1 hm
 have dm : decide (a.m = b.m) = true := by simp [hm]
 by_cases hl : ¬ a.F.length = b.F.length
 · have dl : decide ((a.F.length : Int) = (b.F.length : Int)) = false := by simp; omega
   simp -dsimp -implicitDefEqProofs only [fmV,World.size_alloc,← hW,A0,A1,B0,B1,dm,dl,m15,sF15,ZA,↓reduceIte,ZB,ZC,ZJ,ZK,ZE,ZF,ZG,ZH,ZI,reduceCtorEq,ZD,mwV,↓mwD,mwU]
   exact ⟨by simp [eqFm, eqFs_len hl], hx⟩
 replace hl := Decidable.not_not.1 hl
 have dl : decide ((a.F.length : Int) = (b.F.length : Int)) = true := by simp [hl]
 have hv : eqFm a b = eqFs a.F b.F := by simp [eqFm, hm]
 rw [hv]
 simp -dsimp -implicitDefEqProofs only [fmV,World.size_alloc,← hW,A0,A1,B0,B1,dm,dl,m15,sF15,ZA,↓reduceIte,ZB,ZC,ZJ,ZK,ZE,ZF,ZG,ZH,ZI,reduceCtorEq,ZD,mwV,↓mwD,mwU]
 refine mwpB_loop (fun e ds w' => ∃ i : Nat, i ≤ a.F.length ∧ e 5 = .int .i64 i ∧ e 2 = .pointer (some ⟨w.heap.size, 0, none⟩) ∧ e 3 = .pointer (some ⟨w.heap.size + 1, 0, none⟩) ∧ ds = [] ∧ Ext W w' ∧ eqFs a.F b.F = eqFs (a.F.drop i) (b.F.drop i)) (fun e _ => a.F.length - (intOf (e 5)).toNat) ?_ ?_
 · simp -dsimp -implicitDefEqProofs only [World.size_alloc,m15,sF15,ZA,↓reduceIte,ZB,ZC,ZJ,ZK,ZE,ZF,ZG,ZH,ZI,reduceCtorEq,ZD,mwV,↓mwD,mwU]
   exact ⟨0, by omega, rfl, Ext.refl _, rfl⟩
 · rintro e ds w1 ⟨i, hi, h5, h2, h3, rfl, hxx, heq⟩
   have a1 := (A.ext hxx).get (o := 1) rfl
   have b1 := (B.ext hxx).get (o := 1) rfl
   by_cases hlt : i < a.F.length
   · have hlt' : (i : Int) < (a.F.length : Int) := by omega
     have hltb : i < b.F.length := by omega
     have hx1 := hx.trans hxx
     obtain ⟨ba, oa, rfl, hfs⟩ := (hA.ext hx1).at (by intro h0; rw [h0] at hlt; simp at hlt)
     obtain ⟨bb, ob, rfl, hfs'⟩ := (hB.ext hx1).at (by intro h0; rw [h0] at hltb; simp at hltb)
     obtain ⟨s, q0, q1, q2, q3, hs⟩ := hfs.get hlt
     obtain ⟨s', r0, r1, r2, r3, hs'⟩ := hfs'.get hltb
     obtain ⟨ps, cs, rfl, _, _⟩ := hs.shape
     obtain ⟨ps', cs', rfl, _, _⟩ := hs'.shape
     have hb1 : (0 : Int) ≤ i ∧ (i : Int) < a.F.length := by omega
     have hb2 : (0 : Int) ≤ i ∧ (i : Int) < b.F.length := by omega
     have hw := w64_succ hlt (Nat.le_trans hc1 hc2)
     rw [eqFs_drop hlt hltb] at heq
     simp -dsimp -implicitDefEqProofs only [h5,h2,h3,a1,b1,hlt',m15,sF15,ZA,↓reduceIte,ZB,ZC,ZJ,ZK,ZE,ZF,ZG,ZH,ZI,reduceCtorEq,ZD,mwV,↓mwD,mwU]
     refine mwpB_drawE ?_
     have hxd := hxx.trans (Ext.drew w1)
     by_cases he : a.F[i].key = b.F[i].key
     · have de : decide (a.F[i].key = b.F[i].key) = true := by simp [he]
       simp -dsimp -implicitDefEqProofs only [h5,h2,h3,a1,b1,hb1,hb2,and_self,q0,q1,q2,q3,r0,r1,r2,r3,de,Nat.mul_comm i 4,m15,sF15,ZA,↓reduceIte,ZB,ZC,ZJ,ZK,ZE,ZF,ZG,ZH,ZI,reduceCtorEq,ZD,mwV,↓mwD,mwU]
       refine (rsame_c a.F[i].c b.F[i].c _ _ _ (hs.ext (Ext.drew _)) (hs'.ext (Ext.drew _))).use ?_
       rintro r w3 ⟨rfl, h4⟩
       cases hc : eqCh a.F[i].c b.F[i].c
       · simp -dsimp -implicitDefEqProofs only [h4,m15,sF15,ZA,↓reduceIte,ZB,ZC,ZJ,ZK,ZE,ZF,ZG,ZH,ZI,reduceCtorEq,ZD,mwV,↓mwD,mwU]
         exact ⟨by rw [heq, hc]; simp, hx.trans (hxd.trans h4)⟩
       · simp -dsimp -implicitDefEqProofs only [h4,h5,h2,h3,hw,m15,sF15,ZA,↓reduceIte,ZB,ZC,ZJ,ZK,ZE,ZF,ZG,ZH,ZI,reduceCtorEq,ZD,mwV,↓mwD,mwU]
         exact ⟨⟨i + 1, by omega, rfl, hxd.trans h4, by rw [heq, hc, de]; rfl⟩, by simp only [intOf]; omega⟩
     · have de : decide (a.F[i].key = b.F[i].key) = false := by simp [he]
       simp -dsimp -implicitDefEqProofs only [h5,h2,h3,a1,b1,hb1,hb2,and_self,q0,q1,q2,q3,r0,r1,r2,r3,de,Nat.mul_comm i 4,m15,sF15,ZA,↓reduceIte,ZB,ZC,ZJ,ZK,ZE,ZF,ZG,ZH,ZI,reduceCtorEq,ZD,mwV,↓mwD,mwU]
       exact ⟨by rw [heq, de]; rfl, hx.trans hxd⟩
   · have hlt' : ¬ (i : Int) < (a.F.length : Int) := by omega
     simp -dsimp -implicitDefEqProofs only [h5,h2,h3,a1,b1,hlt',m15,sF15,ZA,↓reduceIte,ZB,ZC,ZJ,ZK,ZE,ZF,ZG,ZH,ZI,reduceCtorEq,ZD,mwV,↓mwD,mwU]
     rw [List.drop_of_length_le (by omega), List.drop_of_length_le (by omega)] at heq
     exact ⟨by rw [heq]; rfl, hx.trans hxx⟩
end Go.Proofs.YthcdnjbhhaonhaaGreatDoor
/- Layer 02: Fix, of the program and of the reference. -/
namespace Go.Proofs.YthcdnjbhhaonhaaGreatDoor
open Go.RowKit
open Nat renaming reduceEqDiff → ZA, reduceAdd → ZB, reduceMul → ZC, reduceSub → ZD
open Int renaming reduceToNat → ZE, reduceEq → ZF, reduceLT → ZG, reduceLE → ZH, reduceNeg → ZI
open Go.Value renaming oneCell' → ZK, cells → ZJ
open Go.Proofs.Tryz renaming prog → ZP
set_option linter.unusedSimpArgs false
theorem OwnF.push {w0 u u1 u2 : World} {b4 : Nat} {m v s v2 : Value} {acc : List (Fl × Value)} {f : Fl} (hext : Ext w0 u) (k4 : Bk u b4 [m, v] 24) (h : OwnF u w0.heap.size v acc) (hx : Ext u u1) (h4 : w0.heap.size ≤ b4) (hs : u1.ownsRow w0.heap.size 3 1 s f.c.L.length (ints f.c.L))
 (hown : u2.ownsRow w0.heap.size 72 4 v2 (acc ++ [(f, s)]).length (rowsF (acc ++ [(f, s)]))) (hg : (u1.alloc (.cells #[.int .i64 f.key, .int .i64 f.c.k, .int .i64 f.c.d, s] 72)).grownBy u2 v.ownBlock) :
 Ext w0 u2 ∧ Bk u2 b4 [m, v] 24 ∧ Bk (u2.setCell ⟨b4, 1, none⟩ v2) b4 [m, v2] 24 ∧ OwnF (u2.setCell ⟨b4, 1, none⟩ v2) w0.heap.size v2 (acc ++ [(f, s)]) ∧ Ext w0 (u2.setCell ⟨b4, 1, none⟩ v2) ∧
  ∀ k, k < u.heap.size → k ≠ b4 → Odd u k → (u2.setCell ⟨b4, 1, none⟩ v2).heap[k]? = u.heap[k]? := by
 have hx1 : Ext u (u1.alloc (.cells #[.int .i64 f.key, .int .i64 f.c.k, .int .i64 f.c.d, s] 72)) := hx.trans (Ext.alloc _ _)
 have rowO : ∀ k, v.ownBlock = some k → ∃ cur, u.heap[k]? = some (Obj.cells cur 72) := fun k hk => by
  rcases h.1.2 with ⟨hv, _⟩ | ⟨g, cap, cur, hv, _, hh, _⟩
  · rw [hv] at hk; cases hk
  · rw [hv] at hk; simp only [Value.ownBlock,Option.some.injEq] at hk; subst hk; exact ⟨cur, hh⟩
 have keep2 : ∀ k, k < u.heap.size → (∀ cur, u.heap[k]? ≠ some (Obj.cells cur 72)) → u2.heap[k]? = u.heap[k]? := fun k hk hn => by
  rw [hg.block k (Nat.lt_of_lt_of_le hk hx1.size) (fun e => by obtain ⟨cur, hc⟩ := rowO k e.symm; exact hn cur hc), hx1.block k hk]
 have odd2 : ∀ k, Odd u k → ∀ cur, u.heap[k]? ≠ some (Obj.cells cur 72) := fun k ho cur hc => (ho cur _ hc).1 rfl
 have k42 : Bk u2 b4 [m, v] 24 := by
  unfold Bk; rw [keep2 b4 k4.lt (odd2 _ (k4.odd (by decide) (by decide)))]; exact k4
 have listK : ∀ {k : Nat} {cur : Array Value}, u1.heap[k]? = some (Obj.cells cur 3) → (u2.setCell ⟨b4, 1, none⟩ v2).heap[k]? = u1.heap[k]? := fun {k cur} hk => by
  have hkl := (Array.getElem?_eq_some_iff.1 hk).1
  have hkb : k ≠ b4 := fun e => by
   have := k4.ext hx
   unfold Bk at this
   rw [← e, hk] at this
   simp at this
  rw [Below.heap_setCell _ _ _ _ hkb, hg.block k (by rw [World.size_alloc]; omega) (fun e => ?_), Below.heap_alloc _ _ _ hkl]
  obtain ⟨cur', hc⟩ := rowO k e.symm
  have hku := (Array.getElem?_eq_some_iff.1 hc).1
  rw [hx.block k hku, hc] at hk
  simp at hk
 have hx2 : Ext w0 u2 := ((hext.trans hx).trans (Ext.alloc _ _)).grown hg (fun k hk => (World.ownsRow.lt h.1 k hk).1)
 refine ⟨hx2, k42, k42.set 1 v2, ⟨Own.off hown (own_ne hown k42 (by decide)), fun p hp => ?_⟩, hx2.setCell h4 _, fun k hk hk4 ho => ?_⟩
 · rcases List.mem_append.1 hp with hp | hp
   · exact Own.ch (Own.ext (h.2 p hp) hx) fun k cur hk => listK hk
   · simp only [List.mem_singleton] at hp
     subst hp
     exact Own.ch hs fun k cur hk => listK hk
 · rw [Below.heap_setCell _ _ _ _ hk4]; exact keep2 k hk (odd2 k ho)
def fixF (f : Fl) : Fl := ⟨f.key, ⟨1, f.c.d, [f.c.d]⟩⟩
theorem one_int (u : World) (base : Nat) (d : Int) (hb : base ≤ u.heap.size) : (u.alloc (.cells #[.int .i64 d] 3)).ownsRow base 3 1 (.slice (some ⟨u.heap.size, 0, none⟩) 1 1) 1 (ints [d]) := own_new u (ints [d]) 3 base 1 1 rfl hb (by unfold maxLen; omega)
def FixQ (f : Fm) (w : World) (r : Value) (w' : World) : Prop := Ext w w' ∧ ∃ s acc, r = fmV ⟨f.m, f.F.map fixF⟩ s ∧ acc.map (·.1) = f.F.map fixF ∧ OwnF w' w.heap.size s acc
end Go.Proofs.YthcdnjbhhaonhaaGreatDoor
/- Layer 02: Fix and Fixed, of the program and of the reference. -/
namespace Go.Proofs.YthcdnjbhhaonhaaGreatDoor
open Go.RowKit
open Nat renaming reduceEqDiff → ZA, reduceAdd → ZB, reduceMul → ZC, reduceSub → ZD
open Int renaming reduceToNat → ZE, reduceEq → ZF, reduceLT → ZG, reduceLE → ZH, reduceNeg → ZI
open Go.Value renaming oneCell' → ZK, cells → ZJ
open Go.Proofs.Tryz renaming prog → ZP
set_option linter.unusedSimpArgs false
def FixR (f : Fm) (w : World) (r : Value) (w' : World) : Prop := Ext w w' ∧ if f.valid = true then ∃ s acc, r = .tuple #[fmV ⟨f.m, f.F.map fixF⟩ s, .int .i64 0] ∧ acc.map (·.1) = f.F.map fixF ∧ OwnF w' w.heap.size s acc else r = .tuple #[.agg #[.int .i64 0, .slice none 0 0], .int .i64 1]
def fixedB (f : Fm) : Bool := f.F.all fun x => decide (x.c.k = 1)
end Go.Proofs.YthcdnjbhhaonhaaGreatDoor

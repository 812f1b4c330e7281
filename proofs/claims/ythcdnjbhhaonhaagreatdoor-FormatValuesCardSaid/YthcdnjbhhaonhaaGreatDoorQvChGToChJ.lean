/- Layer 02: package format's greatest, common. -/
import Derived.Test.YthcdnjbhhaonhaaGreatDoorQvChSpecToChF
import Derived.Test.YthcdnjbhhaonhaaGreatDoorQvMwJoin

namespace Go.Proofs.YthcdnjbhhaonhaaGreatDoor
open Go.RowKit
set_option linter.unusedSimpArgs false
end Go.Proofs.YthcdnjbhhaonhaaGreatDoor
/- Layer 02: package format's meet, Meet. -/
namespace Go.Proofs.YthcdnjbhhaonhaaGreatDoor
open Go.RowKit
set_option linter.unusedSimpArgs false
def fnv (f : FuncId) : Value := .func (.func f) #[] #[]
def meetArr : Value := .agg #[fnv 130, fnv 132, fnv 133, fnv 134]
def Out (a b : Ch) (o : Option (Int × List Int)) : Prop :=
  if a.lsd || b.lsd then o = (if keptL a b = [] then none else some (lstK (keptL a b), keptL a b)) else ∃ f, FirstIs a b f ∧ o = f.map (metR a b)
def OutR (w : World) (a b : Ch) (r : Value) (w' : World) : Prop := Ext w w' ∧ ∃ o, Out a b o ∧ match o with
  | none => ∃ x y q n c, r = .tuple #[.agg #[.int .i64 x, .int .i64 y, .slice q n c], .bool false]
  | some p => ∃ q c, r = .tuple #[.agg #[.int .i64 p.1, .int .i64 0, .slice q p.2.length c], .bool true] ∧ w'.ownsRow w.heap.size 3 1 (.slice q p.2.length c) p.2.length (ints p.2)
theorem fit_list {c : Ch} (h : Fit c) (hl : c.lsd = true) : (c.k = 1 ∧ c.L.length = 1) ∨ c.k = 2 := by
  rcases h with h | ⟨h, _⟩
  · exact h
  · rw [h.nl] at hl; cases hl
theorem fit_range {c : Ch} (h : Fit c) (hl : c.lsd = false) : Rg c ∧ (c.k = 3 ∧ c.L.length = 2 ∨ c.k = 4 ∧ c.L.length = 3) := by
  rcases h with h | h
  · rw [lsd_of h] at hl; cases hl
  · exact h
end Go.Proofs.YthcdnjbhhaonhaaGreatDoor
/- Layer 02: package format's meet: the call in which the kinds of two sets meet. -/
namespace Go.Proofs.YthcdnjbhhaonhaaGreatDoor
open Go.RowKit
set_option linter.unusedSimpArgs false
theorem Own.off {w : World} {base b o : Nat} {e : TypeId} {size : Nat} {v x : Value} {n : Nat} {cs : List Value} (h : w.ownsRow base e size v n cs) (hne : v.ownBlock ≠ some b) : (w.setCell ⟨b, o, none⟩ x).ownsRow base e size v n cs := by
  refine ⟨h.1, ?_⟩
  rcases h.2 with h2 | ⟨g, cap, cur, hv, hg, hh, r⟩
  · exact .inl h2
  · refine .inr ⟨g, cap, cur, hv, hg, ?_, r⟩
    rw [Below.heap_setCell _ _ _ _ (by simp only; intro e; apply hne; rw [hv, e]; rfl)]
    exact hh
def cellsOf (c : Ch) (s : Value) : List Value := [.int .i64 c.k, .int .i64 c.d, s]
def MidM (a b : Ch) (sa sb : Value) (w w' : World) (p6 v7 : Value) : Prop :=
  ∃ blk o ok, p6 = .pointer (some ⟨blk, 0, none⟩) ∧ v7 = .bool ok ∧ Ext w w' ∧ w.heap.size + 3 ≤ blk ∧ Bk w' w.heap.size (cellsOf a sa) 35 ∧ Bk w' (w.heap.size + 1) (cellsOf b sb) 35 ∧ Bk w' (w.heap.size + 2) [.int .i64 0, .int .i64 0, .slice none 0 0] 35 ∧ Out a b o ∧
    match o with
    | none => ok = false
    | some p => ok = true ∧ ∃ q c, Bk w' blk [.int .i64 p.1, .int .i64 0, .slice q p.2.length c] 35 ∧ w'.ownsRow w.heap.size 3 1 (.slice q p.2.length c) p.2.length (ints p.2) ∧ (Value.slice q p.2.length c).ownBlock ≠ some blk
structure Own3 (a b : Ch) (sa sb : Value) (w W : World) : Prop where
  ext : Ext w W
  size : w.heap.size + 3 ≤ W.heap.size
  A : Bk W w.heap.size (cellsOf a sa) 35
  B : Bk W (w.heap.size + 1) (cellsOf b sb) 35
  C : Bk W (w.heap.size + 2) [.int .i64 0, .int .i64 0, .slice none 0 0] 35
theorem Own3.next {a b : Ch} {sa sb : Value} {w W W' : World} (h : Own3 a b sa sb w W) (hx : Ext W W') : Own3 a b sa sb w W' :=
  ⟨h.ext.trans hx, Nat.le_trans h.size hx.size, h.A.ext hx, h.B.ext hx, h.C.ext hx⟩
theorem Own3.set3 {a b : Ch} {sa sb : Value} {w W : World} {blk : Nat} (h : Own3 a b sa sb w W) (hb : w.heap.size + 3 ≤ blk) (a0 a1 a2 : Value) : Own3 a b sa sb w (((W.setCell ⟨blk, 0, none⟩ a0).setCell ⟨blk, 1, none⟩ a1).setCell ⟨blk, 2, none⟩ a2) :=
  ⟨h.ext.set3 (by omega) _ _ _, by have := h.size; simpa [World.setCell] using this,
   ((h.A.ne (by omega) 0 a0).ne (by omega) 1 a1).ne (by omega) 2 a2, ((h.B.ne (by omega) 0 a0).ne (by omega) 1 a1).ne (by omega) 2 a2, ((h.C.ne (by omega) 0 a0).ne (by omega) 1 a1).ne (by omega) 2 a2⟩
def meetF (a b : Ch) : FuncId := if a.lsd then (if b.lsd then 130 else 132) else (if b.lsd then 133 else 134)
end Go.Proofs.YthcdnjbhhaonhaaGreatDoor
/- Layer 02: package format's meet. -/
namespace Go.Proofs.YthcdnjbhhaonhaaGreatDoor
open Go.RowKit
set_option linter.unusedSimpArgs false
theorem own_ne {w : World} {base b : Nat} {e t : TypeId} {size n : Nat} {v : Value} {cs ds : List Value} (h : w.ownsRow base e size v n cs) (hb : Bk w b ds t) (hne : e ≠ t) : v.ownBlock ≠ some b := fun he => by
  rcases h.2 with ⟨hv, _⟩ | ⟨g, cap, cur, hv, hg, hh, _⟩
  · rw [hv] at he; cases he
  · rw [hv] at he
    simp only [Value.ownBlock,Option.some.injEq] at he
    subst he
    unfold Bk at hb
    rw [hb] at hh
    simp only [Option.some.injEq,Obj.cells.injEq] at hh
    exact hne hh.2.1.symm
structure MeetS (a b : Ch) (w w' : World) (blk sl : Nat) (K : Int) (L : List Int) (q : Option Addr) (c : Nat) (d : Int) : Prop where
  ext : Ext w w'
  gt : w.heap.size + 3 ≤ blk
  lt : blk < sl
  C : Bk w' (w.heap.size + 2) [.int .i64 0, .int .i64 0, .slice none 0 0] 35
  bk : Bk w' blk [.int .i64 K, .int .i64 d, .slice q L.length c] 35
  sl : Bk w' sl [.int .i64 b.d, .int .i64 a.d] 3
  own : w'.ownsRow w.heap.size 3 1 (.slice q L.length c) L.length (ints L)
  off : (Value.slice q L.length c).ownBlock ≠ some blk
theorem MeetS.next {a b : Ch} {w w' w2 : World} {blk sl : Nat} {K : Int} {L : List Int} {q : Option Addr} {c : Nat} {d : Int} (h : MeetS a b w w' blk sl K L q c d) (hx : Ext w' w2) : MeetS a b w w2 blk sl K L q c d :=
  ⟨h.ext.trans hx, h.gt, h.lt, h.C.ext hx, h.bk.ext hx, h.sl.ext hx, Own.ext h.own hx, h.off⟩
theorem MeetS.set {a b : Ch} {w w' : World} {blk sl : Nat} {K : Int} {L : List Int} {q : Option Addr} {c : Nat} {d : Int} (h : MeetS a b w w' blk sl K L q c d) (d' : Int) : MeetS a b w (w'.setCell ⟨blk, 1, none⟩ (.int .i64 d')) blk sl K L q c d' :=
  ⟨h.ext.setCell (by have := h.gt; simp only; omega) _, h.gt, h.lt, h.C.ne (by have := h.gt; omega) _ _, h.bk.set 1 _, h.sl.ne (by have := h.lt; omega) _ _, Own.off h.own h.off, h.off⟩
end Go.Proofs.YthcdnjbhhaonhaaGreatDoor

/- Hosts: how much later, what is asked ahead. -/
import Derived.Test.YtefcfnmmpnjjjaaGreatDoorQbEffN
namespace Go.Proofs.YtefcfnmmpnjjjaaGreatDoor
open Go.RowKit
set_option linter.unusedSimpArgs false

theorem UnitIn.ext {w w' : World} {v : Value} {G : Nat → Prop} {x : UX} (h : UnitIn w v G x) (he : Ext w w') : UnitIn w' v G x := by
  obtain ⟨F, b, cs, wk, a, t, rfl, hb, hbF, h0, h1, h2, h3, hwk, ha, ht, r⟩ := h
  exact ⟨F, b, cs, wk, a, t, rfl, hb.ext he, hbF, h0, h1, h2, h3, hwk.ext he, ha.ext he, ht.ext he, r⟩
theorem LaneIn.ext {w w' : World} {v : Value} {G : Nat → Prop} {x : LX} (h : LaneIn w v G x) (he : Ext w w') : LaneIn w' v G x := by
  obtain ⟨b, r, cs, up, vs, Gf, rfl, hh, hu, hup, ho, rest⟩ := h
  exact ⟨b, r, cs, up, vs, Gf, rfl, hh.ext he, hu, hup.ext he, ⟨ho.1, fun i v s hv hs => (ho.2.1 i v s hv hs).ext he, ho.2.2⟩, rest⟩
theorem HostIn.ext {w w' : World} {v : Value} {G : Nat → Prop} {ls : List LX} {eq : Bool} (h : HostIn w v G ls eq) (he : Ext w w') : HostIn w' v G ls eq := by
  obtain ⟨b, lp, vs, Gf, rfl, hb, hlp, ho, rest⟩ := h
  exact ⟨b, lp, vs, Gf, rfl, hb.ext he, hlp.ext he, ⟨ho.1, fun i v s hv hs => (ho.2.1 i v s hv hs).ext he, ho.2.2⟩, rest⟩

def UX.valid (x : UX) : Prop := VShape x.k x.A x.T
def latL : List UX → Int
  | [] => 0
  | x :: us => latI x.k x.A + latL us
def maxI (a b : Int) : Int := if a < b then b else a
def latF (m : Int) (ls : List LX) : Int := ls.foldl (fun m x => maxI m (latL x.us)) m

/-! ### What is asked of the lanes ahead -/
/-- An effect as data. -/
abbrev EX := Int × List Int × List Int
/-- A slice of effects. -/
def SlE (w : World) (v : Value) (xs : List EX) : Prop :=
  ∃ p cap, v = .slice p xs.length cap ∧ xs.length ≤ cap ∧ cap ≤ maxLen ∧ ∀ i k A T, xs[i]? = some (k, A, T) → ∃ b o a t, p = some ⟨b, o, none⟩ ∧ w.cell? ⟨b, o + i * 3, none⟩ = some (.int .i64 k) ∧ w.cell? ⟨b, o + i * 3 + 1, none⟩ = some a ∧ w.cell? ⟨b, o + i * 3 + 2, none⟩ = some t ∧ SlI w a A ∧ SlI w t T
theorem SlE.ext {w w' : World} {v : Value} {xs : List EX} (h : SlE w v xs) (he : Ext w w') : SlE w' v xs := by
  obtain ⟨p, cap, h1, h2, h3, h4⟩ := h
  refine ⟨p, cap, h1, h2, h3, fun i k A T hi => ?_⟩
  obtain ⟨b, o, a, t, e0, c0, c1, c2, hA, hT⟩ := h4 i k A T hi
  exact ⟨b, o, a, t, e0, he.cell c0, he.cell c1, he.cell c2, hA.ext he, hT.ext he⟩
def exValid (x : EX) : Bool := validB x.1 x.2.1 x.2.2

/-- A slice of slices of effects. -/
def SlEE (w : World) (v : Value) (xss : List (List EX)) : Prop := ∃ vs, Sl w v vs ∧ vs.length = xss.length ∧ ∀ (i : Nat) u xs, vs[i]? = some u → xss[i]? = some xs → SlE w u xs
theorem SlEE.ext {w w' : World} {v : Value} {xss : List (List EX)} (h : SlEE w v xss) (he : Ext w w') : SlEE w' v xss := by
  obtain ⟨vs, h1, h2, h3⟩ := h
  exact ⟨vs, h1.ext he, h2, fun i u xs hu hx => (h3 i u xs hu hx).ext he⟩

end Go.Proofs.YtefcfnmmpnjjjaaGreatDoor

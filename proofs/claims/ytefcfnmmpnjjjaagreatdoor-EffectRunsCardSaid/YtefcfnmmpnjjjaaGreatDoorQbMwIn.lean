/- The evaluator inside a round of a range over a function; such ranges; functions that leave with marks of them. -/
import Derived.Test.YtefcfnmmpnjjjaaGreatDoorQbMwOps
import Derived.OrdersIn
import Derived.TacticsIn
import Derived.RangeFuncFrom
import Derived.RangeFuncLeaves
import Derived.RecoverIn
namespace Go.Proofs.YtefcfnmmpnjjjaaGreatDoor
open Go.RowKit

/-- No fence, at a place: in a round, or in an activation. -/
def WR (ro : Option Nat) : Fence := { Fence.wide with round := ro }

section
variable {P : Program} {n : Nat} {ro : Option Nat} {ops : Array Oper} {Q : Exit → Act → World → Prop}

end

section
variable {P : Program} {n : Nat}
/-- What is done behind a body: the marks of ranges over functions are taken off, then the results read. -/
def endW (P : Program) (rs : List ResultVar) : List Deferred → Env → World → (Value → World → Prop) → Prop
  | [], e, w, Q => resW P rs e w fun v => Q v w
  | d :: ds, e, w, Q => ∃ r w', d.target = .collected r ∧ (Instr.takeDeferred r).run P w = .ok [] w' ∧ endW P rs ds e w' Q

/-- What is done behind a body that deferred calls: they run in turn, each in the mode that is left. -/
def leaveW (P : Program) (rs : List ResultVar) (R : Ending → World → Prop) : List Deferred → FrameMode → Env → World → Prop
  | [], .returning, e, w => resW P rs e w fun v => R (.returned v) w
  | [], .panicking ch, _, w => R (.panicked ch) w
  | [], .run, _, _ => False
  | d :: ds, u, e, w => u ≠ .run ∧ ∃ fv cap f args, d.target = .fn fv cap ∧ (invoke d.target d.args).run P w = .ok (.enter f args) w ∧ CallsDIn Fence.wide 1 P f args u w fun
      | .returned _, u', w' => leaveW P rs R ds (settle u') e w'
      | .panicked ch, u', w' => leaveW P rs R ds (raised u' ch) e w'
      | .outgrown, _, w' => R .outgrown w'

theorem callsD_mono {F : Fence} {n : Nat} {f : FuncId} {args : Array Value} {u : FrameMode} {w : World} {R R' : Ending → FrameMode → World → Prop} (h : CallsDIn F n P f args u w R) (hr : ∀ e u w, R e u w → R' e u w) : CallsDIn F n P f args u w R' :=
  ⟨h.1, fun c cs hc hroom => let ⟨e, u', w', fr, r, x⟩ := h.2 c cs hc hroom; ⟨e, u', w', fr, hr _ _ _ r, x⟩⟩

theorem leaves_of_leaveW {fn : Func} {tmps : Array Value} {e : Env} {R : Ending → World → Prop} {n : Nat} (hr : ∀ t, t < n → tmps.getD t undef = e t) (hf : resFits n fn.results.toList = true) : ∀ (ds : List Deferred) (u : FrameMode) (w : World),
    leaveW P fn.results.toList R ds u e w → LeavesIn Fence.wide 2 P fn tmps R ds u w
  | [], u, w, h => by
    cases u with
    | returning =>
      obtain ⟨v, h1, h2⟩ := resT_sound (a := { tmps := tmps, defers := [] }) hr hf h
      exact ⟨v, h1, h2⟩
    | panicking ch => exact h
    | run => exact h.elim
  | d :: ds, u, w, h => by
    obtain ⟨hu, fv, cap, f, args, h1, h2, h3⟩ := h
    refine ⟨hu, fun h => by simp [Fence.wide] at h, fv, cap, f, args, h1, h2, fun _ _ => trivial, callsD_mono h3 fun ex u' w' hq => ?_⟩
    cases ex with
    | returned v => exact leaves_of_leaveW hr hf ds _ w' hq
    | panicked ch => exact leaves_of_leaveW hr hf ds _ w' hq
    | outgrown => exact hq

/-- A function that defers calls. -/
theorem calls_of_mwpD {f : FuncId} {fn : Func} {m : MC} {args : Array Value} {rs : List ResultVar} {w : World} {R : Ending → World → Prop} (hm : P.follows .mixedOrders = true) (hf : P.funcs[f]? = some fn) (pl : Nat → Plan)
    (hst : fn.body.map (strip pl) = some m) (hok : okB pl fn args.size = true) (hrs : fn.results.toList = rs)
    (h : mwpB P m (argEnv args.toList) [] w (fun e ds w => leaveW P rs R ds .returning e w) (fun _ _ _ _ => False) (fun e ds w => leaveW P rs R ds .returning e w) (fun e ch ds w => leaveW P rs R ds (.panicking ch) e w) ⟨⟩) : Calls P f args w R := by
  subst hrs
  unfold mwpB at h
  cases hb : fn.body with
  | none => rw [hb] at hst; cases hst
  | some c =>
    rw [hb] at hst
    simp only [Option.map_some, Option.some.injEq] at hst
    subst hst
    simp only [okB, hb, Bool.and_eq_true, decide_eq_true_eq] at hok
    obtain ⟨⟨hsz, hres⟩, hpl, hfit⟩ := hok
    refine (callsIn_wide (n := 2)).1 (callsIn_of_wp_defers hf hb trivial (wpIn_wide.2 (Go.wp_mono (mwp_sound hm pl c _ (argEnv args.toList) [] w _ _ _ _ hpl hfit ?_ h) fun ex a w hq => ?_)))
    · refine ⟨by simp; omega, fun t ht => ?_, rfl⟩
      simp only [argEnv]
      by_cases h1 : t < args.size
      · rw [Array.getElem?_append_left h1]; simp [h1]
      · simp [Array.getElem?_append, show ¬ t < args.size from h1, show t - args.size < fn.ntmps - args.size by omega]
    · cases ex with
      | normal =>
        obtain ⟨e, hr, hv⟩ := hq
        exact leaves_of_leaveW (fun t ht => getD_rel hr ht) hres a.defers _ w hv
      | ret =>
        obtain ⟨e, hr, hv⟩ := hq
        exact leaves_of_leaveW (fun t ht => getD_rel hr ht) hres a.defers _ w hv
      | exit i => obtain ⟨_, _, h⟩ := hq; exact h.elim
      | goto i => exact hq.elim
      | panic ch =>
        obtain ⟨e, hr, hv⟩ := hq
        exact leaves_of_leaveW hr hres a.defers _ w hv
      | outgrown => exact hq.elim
end
attribute [irreducible] endW leaveW
end Go.Proofs.YtefcfnmmpnjjjaaGreatDoor

/- awake of layer 34 as something that is known from elsewhere. -/
import Derived.Test.YtolamibbionobaaGreatDoorQnRunAw34

namespace Go.Proofs.YtolamibbionobaaGreatDoor
open Go.RowKit
noncomputable section
def awakeH : List Value → AW → CRes
  | [], A => .ret (.bool true) A
  | _, _ => .fail
theorem awakeH_ok {w0 : World} {η : Nat → Value} (hE : EnvS w0) : OneOK Go.Proofs.Tryz.prog w0 η 5 awakeH := by
  intro q0 A σ w as' h hv
  unfold awakeH
  split
  · obtain rfl : as' = [] := List.length_eq_zero_iff.1 (by have := hv.1; simpa using this.symm)
    have hc := awake_c (hE.inv h)
    unfold Rets at hc
    exact .plain h (.bool _) (hc.mono fun e w' ⟨v, he, hv, hx⟩ => ⟨by rw [he, hv], hx⟩)
  · trivial
def hoN : HookT := onH 5 awakeH hoB
theorem hoN_ok {w0 : World} {η : Nat → Value} (hE : EnvS w0) : HookOK Go.Proofs.Tryz.prog w0 η hoN := onH_ok (awakeH_ok hE) (hoB_ok hE)
end
end Go.Proofs.YtolamibbionobaaGreatDoor

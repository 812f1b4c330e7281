/- Layer 02: the fields of two formats, told one by one. -/
import Derived.Test.YthcdnjbhhaonhaaGreatDoorQvFoB

namespace Go.Proofs.YthcdnjbhhaonhaaGreatDoor
open Go.RowKit
set_option linter.unusedSimpArgs false
set_option maxHeartbeats 1000000
theorem yield_mono {l : Nat} {args : Array Value} {W : World} {R R' : Ending → World → Prop} (h : YieldAt Fence.wide 1 Go.Proofs.Tryz.prog l args W R) (hq : ∀ e w, R e w → R' e w) : YieldAt Fence.wide 1 Go.Proofs.Tryz.prog l args W R' := by
 obtain ⟨fn, tmps, asg, body, hy, hR⟩ := h
 exact ⟨fn, tmps, asg, body, hy, RoundIn.mono hR hq⟩
end Go.Proofs.YthcdnjbhhaonhaaGreatDoor

/- What the statements' shells share. -/
import Derived.Test.YtdkdibeimeaakabGreatDoorRows
import Derived.Test.YtdkdibeimeaakabGreatDoorQsMwMem
import Derived.Test.YtdkdibeimeaakabGreatDoorQsMwT
import Derived.ProofKit
import Derived.OpenShut
import Derived.ShutString
import Derived.ChangeOld

namespace Go.Proofs.YtdkdibeimeaakabGreatDoor
open Go.ChangeShapes Go.WideShapes Go.ChangeAt Go.RowKit
theorem Rets.calls {P : Program} {f : FuncId} {args : Array Value} {w : World} (h : Rets P f args w fun r w' => r = .bool true ∧ Ext w w') : Calls P f args w fun e w' => e = .returned (.bool true) ∧ Below w.heap.size w w' := by
  unfold Rets at h
  exact Calls.mono h fun e w' ⟨v, he, hv, hx⟩ => ⟨by rw [he, hv], hx⟩
theorem own : ownKnob Go.Proofs.Tryz.prog.godebug = none := by kernel_rfl
theorem laidOut : laidOutB Go.Proofs.Tryz.prog = true := by kernel_rfl
end Go.Proofs.YtdkdibeimeaakabGreatDoor

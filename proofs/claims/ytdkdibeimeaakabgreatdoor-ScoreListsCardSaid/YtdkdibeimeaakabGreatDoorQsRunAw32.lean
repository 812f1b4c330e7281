/- The law's look at a working program, read to its end by the kernel: awake tells true. -/
import Derived.Test.YtdkdibeimeaakabGreatDoorQsMwTab
import Derived.Test.YtdkdibeimeaakabGreatDoorQsChHk2

namespace Go.Proofs.YtdkdibeimeaakabGreatDoor
open Go.RowKit
def isRet (v : Value) (r : CRes) : Bool := match r with | .ret u _ => beqV 20 u v | _ => false
theorem isRet_eq {v : Value} {r : CRes} (h : isRet v r = true) : ∃ A, r = .ret v A := by
  cases r <;> simp only [isRet] at h <;> first | exact absurd h (by decide) | skip
  rename_i u A
  exact ⟨A, by rw [beqV_eq 20 h]⟩
set_option maxRecDepth 1000000 in
theorem awake_run : isRet (.bool true) ((exec Go.Proofs.Tryz.prog plT glT hoC 3000).2 (.fn 6) [] aw0) = true := by decide +kernel
theorem awake_c {w : World} (hE : EnvS w) : Rets Go.Proofs.Tryz.prog 6 #[] w fun r w' => r = .bool true ∧ Ext w w' := by
  obtain ⟨A, h⟩ := isRet_eq awake_run
  refine (exec_rets (hoC_ok (η := fun _ => .nilIface) hE) tabOK (VRs.nil (σ := fun _ => none)) h).mono fun r w' ⟨⟨σ, hv⟩, hx⟩ => ⟨?_, hx⟩
  cases hv
  rfl
end Go.Proofs.YtdkdibeimeaakabGreatDoor

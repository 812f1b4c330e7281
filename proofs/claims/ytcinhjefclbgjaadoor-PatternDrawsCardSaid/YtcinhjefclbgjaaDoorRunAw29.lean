/- The door that the laws of this layer ask first: read to its end by the kernel. -/
import Derived.Test.YtcinhjefclbgjaaDoorMwTab
namespace Go.Proofs.YtcinhjefclbgjaaDoor
open Go.RowKit
def isRet (v : Value) (r : CRes) : Bool := match r with | .ret u _ => beqV 20 u v | _ => false
theorem isRet_eq {v : Value} {r : CRes} (h : isRet v r = true) : ∃ A, r = .ret v A := by
  cases r <;> simp only [isRet] at h <;> first | exact absurd h (by decide) | skip
  rename_i u A
  exact ⟨A, by rw [beqV_eq 20 h]⟩
set_option maxRecDepth 1000000 in
theorem awake_run : isRet (.bool true) ((exec Go.Proofs.Tryd.prog plT glT 3000).2 4 [] aw0) = true := by decide +kernel
/-- The door tells true. -/
theorem awake_c (w : World) : Rets Go.Proofs.Tryd.prog 4 #[] w fun r w' => r = .bool true ∧ Ext w w' := by
  obtain ⟨A, h⟩ := isRet_eq awake_run
  refine (exec_rets (η := fun _ => .bool true) tabOK VRs.nil h).mono fun r w' ⟨⟨σ, hv⟩, hx⟩ => ⟨?_, hx⟩
  cases hv
  rfl
end Go.Proofs.YtcinhjefclbgjaaDoor

/- MonitorNothing: the whole law, read to its end by the kernel; what came in stands as holes. -/
import Derived.Test.YtolamibbionobaaGreatDoorQnRunAwH34

namespace Go.Proofs.YtolamibbionobaaGreatDoor
open Go.RowKit
def hs2 (a b : Value) : Nat → Value | 0 => a | _ => b
set_option maxRecDepth 1000000 in
theorem no_run : isRet (.bool true) ((exec Go.Proofs.Tryz.prog plT glT hoN 3000).2 (.fn 4) [.chan (some 0), .chan (some 1)] aw0) = true := by decide +kernel
theorem MonitorNothing_c (a n : Value) (ha : a.oneCell' = true) (hn : n.oneCell' = true) (w : World) (hE : EnvS w) :
    Rets Go.Proofs.Tryz.prog 4 #[a, n] w fun r w' => r = .bool true ∧ Ext w w' := by
  obtain ⟨A, h⟩ := isRet_eq no_run
  have hv : VRs (fun _ => none) (hs2 a n) [.chan (some 0), .chan (some 1)] [a, n] := .cons (.hole 0 ha) (.cons (.hole 1 hn) .nil)
  refine (exec_rets (hoN_ok (η := hs2 a n) hE) tabOK hv h).mono fun r w' ⟨⟨σ, hv⟩, hx⟩ => ⟨?_, hx⟩
  cases hv
  rfl
end Go.Proofs.YtolamibbionobaaGreatDoor

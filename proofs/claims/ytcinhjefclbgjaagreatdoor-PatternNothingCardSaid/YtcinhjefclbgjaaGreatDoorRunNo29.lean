/- PatternNothing: the whole law, read to its end by the kernel; what came in stands as holes. -/
import Derived.Test.YtcinhjefclbgjaaGreatDoorMwTab
namespace Go.Proofs.YtcinhjefclbgjaaGreatDoor
open Go.RowKit
def isRet (v : Value) (r : CRes) : Bool := match r with | .ret u _ => beqV 20 u v | _ => false
theorem isRet_eq {v : Value} {r : CRes} (h : isRet v r = true) : ∃ A, r = .ret v A := by
  cases r <;> simp only [isRet] at h <;> first | exact absurd h (by decide) | skip
  rename_i u A
  exact ⟨A, by rw [beqV_eq 20 h]⟩
set_option maxRecDepth 1000000 in
theorem no_run : isRet (.bool true) ((exec Go.Proofs.Tryz.prog plT glT 3000).2 3 [.agg #[.chan (some 0), .chan (some 1)], .chan (some 2)] aw0) = true := by decide +kernel
def hs (a b c : Value) : Nat → Value | 0 => a | 1 => b | _ => c
/-- The law tells true. -/
theorem PatternNothing_c (a b n : Value) (ha : a.oneCell' = true) (hb : b.oneCell' = true) (hn : n.oneCell' = true) (w : World) : Rets Go.Proofs.Tryz.prog 3 #[.agg #[a, b], n] w fun r w' => r = .bool true ∧ Ext w w' := by
  obtain ⟨A, h⟩ := isRet_eq no_run
  have hv : VRs (fun _ => none) (hs a b n) [.agg #[.chan (some 0), .chan (some 1)], .chan (some 2)] [.agg #[a, b], n] := by
    refine ⟨rfl, fun i u v hu hv => ?_⟩
    match i, hu, hv with
    | 0, hu, hv =>
      obtain rfl := Option.some.inj hu
      obtain rfl := Option.some.inj hv
      refine .agg rfl fun j u v hu hv => ?_
      match j, hu, hv with
      | 0, hu, hv =>
        obtain rfl := Option.some.inj hu
        obtain rfl := Option.some.inj hv
        exact .hole 0 ha
      | 1, hu, hv =>
        obtain rfl := Option.some.inj hu
        obtain rfl := Option.some.inj hv
        exact .hole 1 hb
      | j + 2, hu, hv => simp at hu
    | 1, hu, hv =>
      obtain rfl := Option.some.inj hu
      obtain rfl := Option.some.inj hv
      exact .hole 2 hn
    | i + 2, hu, hv => simp at hu
  refine (exec_rets tabOK hv h).mono fun r w' ⟨⟨σ, hv⟩, hx⟩ => ⟨?_, hx⟩
  cases hv
  rfl
end Go.Proofs.YtcinhjefclbgjaaGreatDoor

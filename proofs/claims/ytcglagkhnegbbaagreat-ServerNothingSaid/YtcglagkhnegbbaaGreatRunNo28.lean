/- ServerNothing: the whole law, read to its end by the kernel; what came in stands as holes. -/
import Derived.Test.YtcglagkhnegbbaaGreatMwTab
namespace Go.Proofs.YtcglagkhnegbbaaGreat
open Go.RowKit
def isRet (v : Value) (r : CRes) : Bool := match r with | .ret u _ => beqV 20 u v | _ => false
theorem isRet_eq {v : Value} {r : CRes} (h : isRet v r = true) : ∃ A, r = .ret v A := by
  cases r <;> simp only [isRet] at h <;> first | exact absurd h (by decide) | skip
  rename_i u A
  exact ⟨A, by rw [beqV_eq 20 h]⟩
def hs8 (a b c d e f g h : Value) : Nat → Value | 0 => a | 1 => b | 2 => c | 3 => d | 4 => e | 5 => f | 6 => g | _ => h
set_option maxRecDepth 1000000 in
theorem no_run : isRet (.bool true) ((exec Go.Proofs.Tryz.prog plT glT 3000).2 (.fn 5) [.agg #[.chan (some 0), .chan (some 1), .chan (some 2), .chan (some 3), .chan (some 4), .chan (some 5), .chan (some 6)], .chan (some 7)] aw0) = true := by decide +kernel
/-- The law tells true. -/
theorem ServerNothing_c (a b c d e f g n : Value) (ha : a.oneCell' = true) (hb : b.oneCell' = true) (hc : c.oneCell' = true) (hd : d.oneCell' = true) (he : e.oneCell' = true) (hf : f.oneCell' = true) (hg : g.oneCell' = true) (hn : n.oneCell' = true) (w : World) :
    Rets Go.Proofs.Tryz.prog 5 #[.agg #[a, b, c, d, e, f, g], n] w fun r w' => r = .bool true ∧ Ext w w' := by
  obtain ⟨A, h⟩ := isRet_eq no_run
  have hv : VRs (fun _ => none) (hs8 a b c d e f g n) [.agg #[.chan (some 0), .chan (some 1), .chan (some 2), .chan (some 3), .chan (some 4), .chan (some 5), .chan (some 6)], .chan (some 7)] [.agg #[a, b, c, d, e, f, g], n] := by
    have h7 : VRs (fun _ => none) (hs8 a b c d e f g n) [.chan (some 0), .chan (some 1), .chan (some 2), .chan (some 3), .chan (some 4), .chan (some 5), .chan (some 6)] [a, b, c, d, e, f, g] :=
      .cons (.hole 0 ha) (.cons (.hole 1 hb) (.cons (.hole 2 hc) (.cons (.hole 3 hd) (.cons (.hole 4 he) (.cons (.hole 5 hf) (.cons (.hole 6 hg) .nil))))))
    exact .cons h7.agg (.cons (.hole 7 hn) .nil)
  refine (exec_rets tabOK hv h).mono fun r w' ⟨⟨σ, hv⟩, hx⟩ => ⟨?_, hx⟩
  cases hv
  rfl
end Go.Proofs.YtcglagkhnegbbaaGreat

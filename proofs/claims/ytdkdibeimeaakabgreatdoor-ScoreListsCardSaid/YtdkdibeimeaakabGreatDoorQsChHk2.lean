/- What the closed run of awake is told of strconv.Atoi. -/
import Derived.Test.YtdkdibeimeaakabGreatDoorQsChHk

namespace Go.Proofs.YtdkdibeimeaakabGreatDoor
open Go.RowKit
noncomputable section
set_option linter.unusedVariables false
def atoiH : List Value → AW → CRes
 | [.string s], A => if smallB s then (match Lib.atoiAll s.data.toList with
  | .ok n => .ret (.tuple #[.int .i64 n, .nilIface]) A
  | _ => .fail) else .fail
 | _, _ => .fail
section
variable {w0 : World} {η : Nat → Value}
theorem atoiH_ok : OneOK Go.Proofs.Tryz.prog w0 η 87 atoiH := by
 intro q0 A σ w as' h hv
 unfold atoiH
 split
 · rename_i s
   split
   · rename_i hs
     obtain ⟨a', rfl, ha⟩ := vrs1 hv
     cases ha
     split
     · rename_i n hn
       have hsz := smallB_size hs
       have hc := Any.strconv_Atoi_ok Tryz.laysC172 s (by omega) n hn w
       refine .plain h (VRs.tuple (a := [_, _]) (b := [_, _]) (.cons (.int _ _) (.cons .nilIface .nil))) (hc.mono fun e w' ⟨he, hw⟩ => ⟨he, ?_⟩)
       rcases hw with rfl | ⟨t, rfl⟩
       · exact Ext.refl _
       · exact Lib.bytesWorld_below _ _ _
     · trivial
   · trivial
 · trivial
def hoC : HookT := onH 87 atoiH ho02
theorem hoC_ok (hE : EnvS w0) : HookOK Go.Proofs.Tryz.prog w0 η hoC := onH_ok atoiH_ok (ho02_ok hE)
end
end
end Go.Proofs.YtdkdibeimeaakabGreatDoor

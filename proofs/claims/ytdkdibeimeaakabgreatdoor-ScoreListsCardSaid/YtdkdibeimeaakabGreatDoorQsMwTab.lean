/- The table for closed runs is right. -/
import Derived.Test.YtdkdibeimeaakabGreatDoorQsMwTabA
import Derived.Test.YtdkdibeimeaakabGreatDoorQsMwRunH

namespace Go.Proofs.YtdkdibeimeaakabGreatDoor
open Go.RowKit
set_option maxRecDepth 100000
theorem tabOK : TabOK Go.Proofs.Tryz.prog plT glT := ⟨by kernel_rfl, fun f hf fn hfn => by
  have h := List.all_eq_true.1 tabAll f hf
  rw [hfn] at h
  exact h⟩
end Go.Proofs.YtdkdibeimeaakabGreatDoor

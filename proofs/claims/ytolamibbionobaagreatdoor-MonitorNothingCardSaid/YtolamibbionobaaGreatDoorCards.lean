/-
  DERIVED. GIVEN WITH THE SEED: THE CARDS: each row of YtolamibbionobaaGreatDoorRows.lean that lists a variable, with what it lists TIED to the program's text (the seventh form; the later family's looks); each row that meets fmt, with fmt's text TOLD by the authors' own Lean function (tested against real Go, not proved from fmt's source: count such statements apart). THE CARD IS WHAT COUNTS. Prove the row's statement (the work); the ties are given (YtolamibbionobaaGreatDoorTie.lean); close each card by the builder's one call (the guide's Derived/Test/ToyasCard.lean, 'card_holds'). Laid BY PROGRAM, IN A SANDBOX (cutbox-door.mjs). By AI agents, Wed Nov 11 2026. No macro, syntax, notation, axiom, sorry.
-/
import Derived.Test.YtolamibbionobaaGreatDoorRows
import GoSem.ClaimSeven
namespace Go.Proofs.YtolamibbionobaaGreatDoor
namespace Rows

/-- THE TIED CARD OF 'continuolaw34.MonitorSplits'. -/
def monitorSplitsCard : Claim7 := { stood := { row := monitorSplitsRow, standIns := [], harness := (true, "cfddaecf7a7a91acb23cd04e2b50d791d44f5c3fce5352cd680dd46341142053"), looks := true }, kinds := [], alts := [], laidByText := true, laidKinds := [.data, .data, .data, .sentinel, .sentinel], laidTests := true, laidLooks := .later }
def MonitorSplitsCardSaid : Prop := Claim7.holds Tryz.pinned (.plain (OpenSpec.ofChange monitorSplitsSpec)) monitorSplitsCard

/-- THE TIED CARD OF 'continuolaw34.MonitorNothing'. -/
def monitorNothingCard : Claim7 := { stood := { row := monitorNothingRow, standIns := [], harness := (true, "cfddaecf7a7a91acb23cd04e2b50d791d44f5c3fce5352cd680dd46341142053"), looks := true }, kinds := [], alts := [], laidByText := true, laidKinds := [.data, .data, .data, .sentinel, .sentinel], laidTests := true, laidLooks := .later }
def MonitorNothingCardSaid : Prop := Claim7.holds Tryz.pinned (.plain (OpenSpec.ofChange monitorNothingSpec)) monitorNothingCard

/-- THE SECOND FORM's CARD OF 'continuolaw34.MonitorSplits'. -/
def monitorSplitsUptoCard : Claim7 := { stood := { row := monitorSplitsUptoRow, standIns := [], harness := (true, "cfddaecf7a7a91acb23cd04e2b50d791d44f5c3fce5352cd680dd46341142053"), looks := true }, kinds := [], alts := [], laidByText := true, laidKinds := [.data, .data, .data, .sentinel, .sentinel], laidTests := true, laidLooks := .later }
def MonitorSplitsUptoCardSaid : Prop := Claim7.holds Tryz.pinned (.plain (OpenSpec.upto monitorSplitsSpec)) monitorSplitsUptoCard

/-- THE SECOND FORM's CARD OF 'continuolaw34.MonitorNothing'. -/
def monitorNothingUptoCard : Claim7 := { stood := { row := monitorNothingUptoRow, standIns := [], harness := (true, "cfddaecf7a7a91acb23cd04e2b50d791d44f5c3fce5352cd680dd46341142053"), looks := true }, kinds := [], alts := [], laidByText := true, laidKinds := [.data, .data, .data, .sentinel, .sentinel], laidTests := true, laidLooks := .later }
def MonitorNothingUptoCardSaid : Prop := Claim7.holds Tryz.pinned (.plain (OpenSpec.upto monitorNothingSpec)) monitorNothingUptoCard
end Rows
end Go.Proofs.YtolamibbionobaaGreatDoor

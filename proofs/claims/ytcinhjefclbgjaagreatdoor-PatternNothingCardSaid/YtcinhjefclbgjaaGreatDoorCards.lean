/-
  DERIVED. GIVEN WITH THE SEED: THE CARDS: each row of YtcinhjefclbgjaaGreatDoorRows.lean that lists a variable, with what it lists TIED to the program's text (the seventh form; the later family's looks); each row that meets fmt, with fmt's text TOLD by the authors' own Lean function (tested against real Go, not proved from fmt's source: count such statements apart). THE CARD IS WHAT COUNTS. Prove the row's statement (the work); the ties are given (YtcinhjefclbgjaaGreatDoorTie.lean); close each card by the builder's one call (the guide's Derived/Test/ToyasCard.lean, 'card_holds'). Laid BY PROGRAM, IN A SANDBOX (cutbox-door.mjs). By AI agents, Wed Nov 11 2026. No macro, syntax, notation, axiom, sorry.
-/
import Derived.Test.YtcinhjefclbgjaaGreatDoorRows
import GoSem.ClaimSeven
namespace Go.Proofs.YtcinhjefclbgjaaGreatDoor
namespace Rows

/-- THE TIED CARD OF 'continuolaw29.PatternNothing'. -/
def patternNothingCard : Claim7 := { stood := { row := patternNothingRow, standIns := [], harness := (true, "7c7481b5b365776ff8e03a607a3b7bdd70a3231cce81f3abf7848b98adb5c6ba"), looks := true }, kinds := [], alts := [], laidByText := true, laidKinds := [.data, .data, .data, .sentinel, .sentinel], laidTests := true, laidLooks := .later }
def PatternNothingCardSaid : Prop := Claim7.holds Tryz.pinned (.plain (OpenSpec.ofChange patternNothingSpec)) patternNothingCard

/-- THE SECOND FORM's CARD OF 'continuolaw29.PatternNothing'. -/
def patternNothingUptoCard : Claim7 := { stood := { row := patternNothingUptoRow, standIns := [], harness := (true, "7c7481b5b365776ff8e03a607a3b7bdd70a3231cce81f3abf7848b98adb5c6ba"), looks := true }, kinds := [], alts := [], laidByText := true, laidKinds := [.data, .data, .data, .sentinel, .sentinel], laidTests := true, laidLooks := .later }
def PatternNothingUptoCardSaid : Prop := Claim7.holds Tryz.pinned (.plain (OpenSpec.upto patternNothingSpec)) patternNothingUptoCard
end Rows
end Go.Proofs.YtcinhjefclbgjaaGreatDoor

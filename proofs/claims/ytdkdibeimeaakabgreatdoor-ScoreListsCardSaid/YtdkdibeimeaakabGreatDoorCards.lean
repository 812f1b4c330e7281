/-
  DERIVED. GIVEN WITH THE SEED: THE CARDS: each row of YtdkdibeimeaakabGreatDoorRows.lean that lists a variable, with what it lists TIED to the program's text (the seventh form; the later family's looks); each row that meets fmt, with fmt's text TOLD by the authors' own Lean function (tested against real Go, not proved from fmt's source: count such statements apart). THE CARD IS WHAT COUNTS. Prove the row's statement (the work); the ties are given (YtdkdibeimeaakabGreatDoorTie.lean); close each card by the builder's one call (the guide's Derived/Test/ToyasCard.lean, 'card_holds'). Laid BY PROGRAM, IN A SANDBOX (cutbox-door.mjs). By AI agents, Wed Nov 11 2026. No macro, syntax, notation, axiom, sorry.
-/
import Derived.Test.YtdkdibeimeaakabGreatDoorRows
import GoSem.ClaimSeven
namespace Go.Proofs.YtdkdibeimeaakabGreatDoor
namespace Rows

/-- THE TIED CARD OF 'continuolaw32.ScoreTexts'. -/
def scoreTextsCard : Claim7 := { stood := { row := scoreTextsRow, standIns := [], harness := (true, "62a2b9c4044162f0259f4071865736df49d9d4520d462f885f7911f95a29f1a8"), looks := true }, kinds := [], alts := [], laidByText := true, laidKinds := [.data, .data, .data, .data, .sentinel, .sentinel, .pinned], laidTests := true, laidLooks := .later }
def ScoreTextsCardSaid : Prop := Claim7.holds Tryz.pinned (.plain (OpenSpec.ofChange scoreTextsSpec)) scoreTextsCard

/-- THE TIED CARD OF 'continuolaw32.ScorePlaces'. -/
def scorePlacesCard : Claim7 := { stood := { row := scorePlacesRow, standIns := [], harness := (true, "62a2b9c4044162f0259f4071865736df49d9d4520d462f885f7911f95a29f1a8"), looks := true }, kinds := [], alts := [], laidByText := true, laidKinds := [.data, .data, .data, .data, .sentinel, .sentinel, .pinned], laidTests := true, laidLooks := .later }
def ScorePlacesCardSaid : Prop := Claim7.holds Tryz.pinned (.plain (OpenSpec.ofChange scorePlacesSpec)) scorePlacesCard

/-- THE TIED CARD OF 'continuolaw32.ScoreLists'. -/
def scoreListsCard : Claim7 := { stood := { row := scoreListsRow, standIns := [], harness := (true, "62a2b9c4044162f0259f4071865736df49d9d4520d462f885f7911f95a29f1a8"), looks := true }, kinds := [], alts := [], laidByText := true, laidKinds := [.data, .data, .data, .data, .sentinel, .sentinel, .pinned], laidTests := true, laidLooks := .later }
def ScoreListsCardSaid : Prop := Claim7.holds Tryz.pinned (.plain (OpenSpec.ofChange scoreListsSpec)) scoreListsCard

/-- THE SECOND FORM's CARD OF 'continuolaw32.ScoreTexts'. -/
def scoreTextsUptoCard : Claim7 := { stood := { row := scoreTextsUptoRow, standIns := [], harness := (true, "62a2b9c4044162f0259f4071865736df49d9d4520d462f885f7911f95a29f1a8"), looks := true }, kinds := [], alts := [], laidByText := true, laidKinds := [.data, .data, .data, .data, .sentinel, .sentinel, .pinned], laidTests := true, laidLooks := .later }
def ScoreTextsUptoCardSaid : Prop := Claim7.holds Tryz.pinned (.plain (OpenSpec.upto scoreTextsSpec)) scoreTextsUptoCard

/-- THE SECOND FORM's CARD OF 'continuolaw32.ScorePlaces'. -/
def scorePlacesUptoCard : Claim7 := { stood := { row := scorePlacesUptoRow, standIns := [], harness := (true, "62a2b9c4044162f0259f4071865736df49d9d4520d462f885f7911f95a29f1a8"), looks := true }, kinds := [], alts := [], laidByText := true, laidKinds := [.data, .data, .data, .data, .sentinel, .sentinel, .pinned], laidTests := true, laidLooks := .later }
def ScorePlacesUptoCardSaid : Prop := Claim7.holds Tryz.pinned (.plain (OpenSpec.upto scorePlacesSpec)) scorePlacesUptoCard

/-- THE SECOND FORM's CARD OF 'continuolaw32.ScoreLists'. -/
def scoreListsUptoCard : Claim7 := { stood := { row := scoreListsUptoRow, standIns := [], harness := (true, "62a2b9c4044162f0259f4071865736df49d9d4520d462f885f7911f95a29f1a8"), looks := true }, kinds := [], alts := [], laidByText := true, laidKinds := [.data, .data, .data, .data, .sentinel, .sentinel, .pinned], laidTests := true, laidLooks := .later }
def ScoreListsUptoCardSaid : Prop := Claim7.holds Tryz.pinned (.plain (OpenSpec.upto scoreListsSpec)) scoreListsUptoCard
end Rows
end Go.Proofs.YtdkdibeimeaakabGreatDoor

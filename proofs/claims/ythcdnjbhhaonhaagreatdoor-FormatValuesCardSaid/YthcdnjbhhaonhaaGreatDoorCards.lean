/-
  DERIVED. GIVEN WITH THE SEED: THE CARDS: each row of YthcdnjbhhaonhaaGreatDoorRows.lean that lists a variable, with what it lists TIED to the program's text (the seventh form; the later family's looks); each row that meets fmt, with fmt's text TOLD by the authors' own Lean function (tested against real Go, not proved from fmt's source: count such statements apart). THE CARD IS WHAT COUNTS. Prove the row's statement (the work); the ties are given (YthcdnjbhhaonhaaGreatDoorTie.lean); close each card by the builder's one call (the guide's Derived/Test/ToyasCard.lean, 'card_holds'). Laid BY PROGRAM, IN A SANDBOX (cutbox-door.mjs). By AI agents, Wed Nov 11 2026. No macro, syntax, notation, axiom, sorry.
-/
import Derived.Test.YthcdnjbhhaonhaaGreatDoorRows
import GoSem.ClaimSeven
namespace Go.Proofs.YthcdnjbhhaonhaaGreatDoor
namespace Rows

/-- THE TIED CARD OF 'continuolaw02.FormatTexts'. -/
def formatTextsCard : Claim7 := { stood := { row := formatTextsRow, standIns := [], harness := (true, "650c0d0c6ac9fdc820b540db12a1fe43bbc082635328f2e9d2824981ea97c699"), looks := true }, kinds := [], alts := [], laidByText := true, laidKinds := [.data, .data, .data, .data, .sentinel, .sentinel, .pinned], laidTests := true, laidLooks := .later }
def FormatTextsCardSaid : Prop := Claim7.holds Tryz.pinned (.plain (OpenSpec.ofChange formatTextsSpec)) formatTextsCard

/-- THE TIED CARD OF 'continuolaw02.ChoiceMeets'. -/
def choiceMeetsCard : Claim7 := { stood := { row := choiceMeetsRow, standIns := [], harness := (true, "650c0d0c6ac9fdc820b540db12a1fe43bbc082635328f2e9d2824981ea97c699"), looks := true }, kinds := [], alts := [], laidByText := true, laidKinds := [.data, .data, .data, .data, .sentinel, .sentinel, .pinned], laidTests := true, laidLooks := .later }
def ChoiceMeetsCardSaid : Prop := Claim7.holds Tryz.pinned (.plain (OpenSpec.ofChange choiceMeetsSpec)) choiceMeetsCard

/-- THE TIED CARD OF 'continuolaw02.FormatWithin'. -/
def formatWithinCard : Claim7 := { stood := { row := formatWithinRow, standIns := [], harness := (true, "650c0d0c6ac9fdc820b540db12a1fe43bbc082635328f2e9d2824981ea97c699"), looks := true }, kinds := [], alts := [], laidByText := true, laidKinds := [.data, .data, .data, .data, .sentinel, .sentinel, .pinned], laidTests := true, laidLooks := .later }
def FormatWithinCardSaid : Prop := Claim7.holds Tryz.pinned (.plain (OpenSpec.ofChange formatWithinSpec)) formatWithinCard

/-- THE TIED CARD OF 'continuolaw02.FormatAgrees'. -/
def formatAgreesCard : Claim7 := { stood := { row := formatAgreesRow, standIns := [], harness := (true, "650c0d0c6ac9fdc820b540db12a1fe43bbc082635328f2e9d2824981ea97c699"), looks := true }, kinds := [], alts := [], laidByText := true, laidKinds := [.data, .data, .data, .data, .sentinel, .sentinel, .pinned], laidTests := true, laidLooks := .later }
def FormatAgreesCardSaid : Prop := Claim7.holds Tryz.pinned (.plain (OpenSpec.ofChange formatAgreesSpec)) formatAgreesCard

/-- THE TIED CARD OF 'continuolaw02.FormatJoins'. -/
def formatJoinsCard : Claim7 := { stood := { row := formatJoinsRow, standIns := [], harness := (true, "650c0d0c6ac9fdc820b540db12a1fe43bbc082635328f2e9d2824981ea97c699"), looks := true }, kinds := [], alts := [], laidByText := true, laidKinds := [.data, .data, .data, .data, .sentinel, .sentinel, .pinned], laidTests := true, laidLooks := .later }
def FormatJoinsCardSaid : Prop := Claim7.holds Tryz.pinned (.plain (OpenSpec.ofChange formatJoinsSpec)) formatJoinsCard

/-- THE TIED CARD OF 'continuolaw02.FormatValues'. -/
def formatValuesCard : Claim7 := { stood := { row := formatValuesRow, standIns := [], harness := (true, "650c0d0c6ac9fdc820b540db12a1fe43bbc082635328f2e9d2824981ea97c699"), looks := true }, kinds := [], alts := [], laidByText := true, laidKinds := [.data, .data, .data, .data, .sentinel, .sentinel, .pinned], laidTests := true, laidLooks := .later }
def FormatValuesCardSaid : Prop := Claim7.holds Tryz.pinned (.plain (OpenSpec.ofChange formatValuesSpec)) formatValuesCard

/-- THE SECOND FORM's CARD OF 'continuolaw02.FormatTexts'. -/
def formatTextsUptoCard : Claim7 := { stood := { row := formatTextsUptoRow, standIns := [], harness := (true, "650c0d0c6ac9fdc820b540db12a1fe43bbc082635328f2e9d2824981ea97c699"), looks := true }, kinds := [], alts := [], laidByText := true, laidKinds := [.data, .data, .data, .data, .sentinel, .sentinel, .pinned], laidTests := true, laidLooks := .later }
def FormatTextsUptoCardSaid : Prop := Claim7.holds Tryz.pinned (.plain (OpenSpec.upto formatTextsSpec)) formatTextsUptoCard

/-- THE SECOND FORM's CARD OF 'continuolaw02.ChoiceMeets'. -/
def choiceMeetsUptoCard : Claim7 := { stood := { row := choiceMeetsUptoRow, standIns := [], harness := (true, "650c0d0c6ac9fdc820b540db12a1fe43bbc082635328f2e9d2824981ea97c699"), looks := true }, kinds := [], alts := [], laidByText := true, laidKinds := [.data, .data, .data, .data, .sentinel, .sentinel, .pinned], laidTests := true, laidLooks := .later }
def ChoiceMeetsUptoCardSaid : Prop := Claim7.holds Tryz.pinned (.plain (OpenSpec.upto choiceMeetsSpec)) choiceMeetsUptoCard

/-- THE SECOND FORM's CARD OF 'continuolaw02.FormatWithin'. -/
def formatWithinUptoCard : Claim7 := { stood := { row := formatWithinUptoRow, standIns := [], harness := (true, "650c0d0c6ac9fdc820b540db12a1fe43bbc082635328f2e9d2824981ea97c699"), looks := true }, kinds := [], alts := [], laidByText := true, laidKinds := [.data, .data, .data, .data, .sentinel, .sentinel, .pinned], laidTests := true, laidLooks := .later }
def FormatWithinUptoCardSaid : Prop := Claim7.holds Tryz.pinned (.plain (OpenSpec.upto formatWithinSpec)) formatWithinUptoCard

/-- THE SECOND FORM's CARD OF 'continuolaw02.FormatAgrees'. -/
def formatAgreesUptoCard : Claim7 := { stood := { row := formatAgreesUptoRow, standIns := [], harness := (true, "650c0d0c6ac9fdc820b540db12a1fe43bbc082635328f2e9d2824981ea97c699"), looks := true }, kinds := [], alts := [], laidByText := true, laidKinds := [.data, .data, .data, .data, .sentinel, .sentinel, .pinned], laidTests := true, laidLooks := .later }
def FormatAgreesUptoCardSaid : Prop := Claim7.holds Tryz.pinned (.plain (OpenSpec.upto formatAgreesSpec)) formatAgreesUptoCard

/-- THE SECOND FORM's CARD OF 'continuolaw02.FormatJoins'. -/
def formatJoinsUptoCard : Claim7 := { stood := { row := formatJoinsUptoRow, standIns := [], harness := (true, "650c0d0c6ac9fdc820b540db12a1fe43bbc082635328f2e9d2824981ea97c699"), looks := true }, kinds := [], alts := [], laidByText := true, laidKinds := [.data, .data, .data, .data, .sentinel, .sentinel, .pinned], laidTests := true, laidLooks := .later }
def FormatJoinsUptoCardSaid : Prop := Claim7.holds Tryz.pinned (.plain (OpenSpec.upto formatJoinsSpec)) formatJoinsUptoCard

/-- THE SECOND FORM's CARD OF 'continuolaw02.FormatValues'. -/
def formatValuesUptoCard : Claim7 := { stood := { row := formatValuesUptoRow, standIns := [], harness := (true, "650c0d0c6ac9fdc820b540db12a1fe43bbc082635328f2e9d2824981ea97c699"), looks := true }, kinds := [], alts := [], laidByText := true, laidKinds := [.data, .data, .data, .data, .sentinel, .sentinel, .pinned], laidTests := true, laidLooks := .later }
def FormatValuesUptoCardSaid : Prop := Claim7.holds Tryz.pinned (.plain (OpenSpec.upto formatValuesSpec)) formatValuesUptoCard
end Rows
end Go.Proofs.YthcdnjbhhaonhaaGreatDoor

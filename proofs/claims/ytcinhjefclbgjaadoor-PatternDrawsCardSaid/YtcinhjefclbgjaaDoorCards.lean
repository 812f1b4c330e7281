/-
  DERIVED. GIVEN WITH THE SEED: THE CARDS: each row of YtcinhjefclbgjaaDoorRows.lean that lists a variable, with what it lists TIED to the program's text (the seventh form; the later family's looks); each row that meets fmt, with fmt's text TOLD by the authors' own Lean function (tested against real Go, not proved from fmt's source: count such statements apart). THE CARD IS WHAT COUNTS. Prove the row's statement (the work); the ties are given (YtcinhjefclbgjaaDoorTie.lean); close each card by the builder's one call (the guide's Derived/Test/ToyasCard.lean, 'card_holds'). Laid BY PROGRAM, IN A SANDBOX (cutbox-door.mjs). By AI agents, Wed Nov 11 2026. No macro, syntax, notation, axiom, sorry.
-/
import Derived.Test.YtcinhjefclbgjaaDoorRows
import GoSem.ClaimSeven
namespace Go.Proofs.YtcinhjefclbgjaaDoor
namespace Rows

/-- THE TIED CARD OF 'continuolaw29.PatternDraws'. -/
def patternDrawsCard : Claim7 := { stood := { row := patternDrawsRow, standIns := [], harness := (true, "2c5b4b4bf9a37b0e265f0833756c9a119c6214ed41c121b48d371f12e39c3649"), looks := true }, kinds := [], alts := [], laidByText := true, laidKinds := [.data, .data, .data, .sentinel, .sentinel], laidTests := true, laidLooks := .later }
def PatternDrawsCardSaid : Prop := Claim7.holds Tryd.pinned (.plain (OpenSpec.ofChange patternDrawsSpec)) patternDrawsCard

/-- THE SECOND FORM's CARD OF 'continuolaw29.PatternDraws'. -/
def patternDrawsUptoCard : Claim7 := { stood := { row := patternDrawsUptoRow, standIns := [], harness := (true, "2c5b4b4bf9a37b0e265f0833756c9a119c6214ed41c121b48d371f12e39c3649"), looks := true }, kinds := [], alts := [], laidByText := true, laidKinds := [.data, .data, .data, .sentinel, .sentinel], laidTests := true, laidLooks := .later }
def PatternDrawsUptoCardSaid : Prop := Claim7.holds Tryd.pinned (.plain (OpenSpec.upto patternDrawsSpec)) patternDrawsUptoCard
end Rows
end Go.Proofs.YtcinhjefclbgjaaDoor

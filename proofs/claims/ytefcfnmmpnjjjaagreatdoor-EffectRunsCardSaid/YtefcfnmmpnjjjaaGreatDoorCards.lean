/-
  DERIVED. GIVEN WITH THE SEED: THE CARDS: each row of YtefcfnmmpnjjjaaGreatDoorRows.lean that lists a variable, with what it lists TIED to the program's text (the seventh form; the later family's looks); each row that meets fmt, with fmt's text TOLD by the authors' own Lean function (tested against real Go, not proved from fmt's source: count such statements apart). THE CARD IS WHAT COUNTS. Prove the row's statement (the work); the ties are given (YtefcfnmmpnjjjaaGreatDoorTie.lean); close each card by the builder's one call (the guide's Derived/Test/ToyasCard.lean, 'card_holds'). Laid BY PROGRAM, IN A SANDBOX (cutbox-door.mjs). By AI agents, Wed Nov 11 2026. No macro, syntax, notation, axiom, sorry.
-/
import Derived.Test.YtefcfnmmpnjjjaaGreatDoorRows
import GoSem.ClaimSeven
namespace Go.Proofs.YtefcfnmmpnjjjaaGreatDoor
namespace Rows

/-- THE TIED CARD OF 'continuolaw31.EffectStates'. -/
def effectStatesCard : Claim7 := { stood := { row := effectStatesRow, standIns := [], harness := (true, "978274541c711a4e2c3036612bb725d0bc48fb0d8a684034046db7389b92801a"), looks := true }, kinds := [], alts := [], laidByText := true, laidKinds := [.data, .data, .data, .data, .sentinel, .sentinel, .pinned], laidTests := true, laidLooks := .later }
def EffectStatesCardSaid : Prop := Claim7.holds Tryz.pinned (.plain (OpenSpec.ofChange effectStatesSpec)) effectStatesCard

/-- THE TIED CARD OF 'continuolaw31.EffectRuns'. -/
def effectRunsCard : Claim7 := { stood := { row := effectRunsRow, standIns := [], harness := (true, "978274541c711a4e2c3036612bb725d0bc48fb0d8a684034046db7389b92801a"), looks := true }, kinds := [], alts := [], laidByText := true, laidKinds := [.data, .data, .data, .data, .sentinel, .sentinel, .pinned], laidTests := true, laidLooks := .later }
def EffectRunsCardSaid : Prop := Claim7.holds Tryz.pinned (.plain (OpenSpec.ofChange effectRunsSpec)) effectRunsCard

/-- THE TIED CARD OF 'continuolaw31.EffectHosts'. -/
def effectHostsCard : Claim7 := { stood := { row := effectHostsRow, standIns := [], harness := (true, "978274541c711a4e2c3036612bb725d0bc48fb0d8a684034046db7389b92801a"), looks := true }, kinds := [], alts := [], laidByText := true, laidKinds := [.data, .data, .data, .data, .sentinel, .sentinel, .pinned], laidTests := true, laidLooks := .later }
def EffectHostsCardSaid : Prop := Claim7.holds Tryz.pinned (.plain (OpenSpec.ofChange effectHostsSpec)) effectHostsCard

/-- THE TIED CARD OF 'continuolaw31.EffectNothing'. -/
def effectNothingCard : Claim7 := { stood := { row := effectNothingRow, standIns := [], harness := (true, "978274541c711a4e2c3036612bb725d0bc48fb0d8a684034046db7389b92801a"), looks := true }, kinds := [], alts := [], laidByText := true, laidKinds := [.data, .data, .data, .data, .sentinel, .sentinel, .pinned], laidTests := true, laidLooks := .later }
def EffectNothingCardSaid : Prop := Claim7.holds Tryz.pinned (.plain (OpenSpec.ofChange effectNothingSpec)) effectNothingCard

/-- THE SECOND FORM's CARD OF 'continuolaw31.EffectStates'. -/
def effectStatesUptoCard : Claim7 := { stood := { row := effectStatesUptoRow, standIns := [], harness := (true, "978274541c711a4e2c3036612bb725d0bc48fb0d8a684034046db7389b92801a"), looks := true }, kinds := [], alts := [], laidByText := true, laidKinds := [.data, .data, .data, .data, .sentinel, .sentinel, .pinned], laidTests := true, laidLooks := .later }
def EffectStatesUptoCardSaid : Prop := Claim7.holds Tryz.pinned (.plain (OpenSpec.upto effectStatesSpec)) effectStatesUptoCard

/-- THE SECOND FORM's CARD OF 'continuolaw31.EffectRuns'. -/
def effectRunsUptoCard : Claim7 := { stood := { row := effectRunsUptoRow, standIns := [], harness := (true, "978274541c711a4e2c3036612bb725d0bc48fb0d8a684034046db7389b92801a"), looks := true }, kinds := [], alts := [], laidByText := true, laidKinds := [.data, .data, .data, .data, .sentinel, .sentinel, .pinned], laidTests := true, laidLooks := .later }
def EffectRunsUptoCardSaid : Prop := Claim7.holds Tryz.pinned (.plain (OpenSpec.upto effectRunsSpec)) effectRunsUptoCard

/-- THE SECOND FORM's CARD OF 'continuolaw31.EffectHosts'. -/
def effectHostsUptoCard : Claim7 := { stood := { row := effectHostsUptoRow, standIns := [], harness := (true, "978274541c711a4e2c3036612bb725d0bc48fb0d8a684034046db7389b92801a"), looks := true }, kinds := [], alts := [], laidByText := true, laidKinds := [.data, .data, .data, .data, .sentinel, .sentinel, .pinned], laidTests := true, laidLooks := .later }
def EffectHostsUptoCardSaid : Prop := Claim7.holds Tryz.pinned (.plain (OpenSpec.upto effectHostsSpec)) effectHostsUptoCard

/-- THE SECOND FORM's CARD OF 'continuolaw31.EffectNothing'. -/
def effectNothingUptoCard : Claim7 := { stood := { row := effectNothingUptoRow, standIns := [], harness := (true, "978274541c711a4e2c3036612bb725d0bc48fb0d8a684034046db7389b92801a"), looks := true }, kinds := [], alts := [], laidByText := true, laidKinds := [.data, .data, .data, .data, .sentinel, .sentinel, .pinned], laidTests := true, laidLooks := .later }
def EffectNothingUptoCardSaid : Prop := Claim7.holds Tryz.pinned (.plain (OpenSpec.upto effectNothingSpec)) effectNothingUptoCard
end Rows
end Go.Proofs.YtefcfnmmpnjjjaaGreatDoor

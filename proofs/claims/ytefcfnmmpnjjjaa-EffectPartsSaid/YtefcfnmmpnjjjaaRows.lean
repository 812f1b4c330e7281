/-
  No cell of these rows narrows 'for every input' (looked for: loops, veiled, ifaces, maps, wideKeys, modest, calm, conditions, laid).
  DERIVED. THE GIVEN ROWS OF THIS SEAT. 4 by the template 'for every input the law returns true; each argument reads behind the call as it read before'; 0 by the template 'total and deterministic' (their statements: YtefcfnmmpnjjjaaTotals.lean).
  GIVEN WITH THE SEED: the statements are not yours to turn. If you find one false, say at which input.
  Laid BY PROGRAM, IN A SANDBOX (cutbox-rows.mjs): the forced cells as the released guide's own fill.sh prints them over the translation 018d3d758d6177ca… (all of the seat's roots in one cut). By AI agents, Wed Nov 11 2026. No macro, syntax, notation, axiom, sorry.
-/
import Derived.Test.YtefcfnmmpnjjjaaChecked
import GoSem.Claim
import GoSem.ClaimJoined
import GoSem.ClaimMapViews
import Derived.JoinedTies
import Derived.KernelRfl
namespace Go.Proofs.Ytefcfnmmpnjjjaa
/- THE CELL 'sum', in the pinned program and in every row, IS THE sha256 OF THE DUMP (.gsa) THAT YtefcfnmmpnjjjaaProg.lean LOADS. Nothing in Lean hashes anything: it is a label: what it is worth is what the hold of that sum in a sandbox is worth. -/
noncomputable def Try.pinned : Pinned := { name := "ytefcfnmmpnjjjaa", sum := "018d3d758d6177caa9a159d3636903aecb381be2840ea4f0053cf4176e989682", checked := Try.checked }
namespace Rows
def none {H : Type} : Left H := { results := [], args := [] }

/-- 'continuolaw31.EffectBounds': WHATEVER THE INPUT: true; the input reads as it did. -/
def effectBoundsSpec : ChangeSpec := { name := "effectBounds", fn := fun _ => fun
  | [d1, d2] => { results := [.lit (.bool true)], args := [d1, d2] }
  | _ => none }
def effectBoundsRow : OpenClaim := { program := "ytefcfnmmpnjjjaa", sum := "018d3d758d6177caa9a159d3636903aecb381be2840ea4f0053cf4176e989682", func := "continuo/continuolaw31.EffectBounds", spec := "effectBounds", unfollowed := true, recurses := true, apart := false }
def EffectBoundsSaid : Prop := effectBoundsRow.holds Try.pinned (OpenSpec.ofChange effectBoundsSpec)

/-- ITS FALSE NEIGHBOUR: 'it returns false'. Refute it at one input. -/
def effectBoundsWrong : ChangeSpec := { name := "effectBounds", fn := fun _ => fun
  | [d1, d2] => { results := [.lit (.bool false)], args := [d1, d2] }
  | _ => none }
def EffectBoundsWrongFalsely : Prop := effectBoundsRow.holds Try.pinned (OpenSpec.ofChange effectBoundsWrong)

/-- 'continuolaw31.EffectValid': WHATEVER THE INPUT: true; the input reads as it did. -/
def effectValidSpec : ChangeSpec := { name := "effectValid", fn := fun _ => fun
  | [d] => { results := [.lit (.bool true)], args := [d] }
  | _ => none }
def effectValidRow : OpenClaim := { program := "ytefcfnmmpnjjjaa", sum := "018d3d758d6177caa9a159d3636903aecb381be2840ea4f0053cf4176e989682", func := "continuo/continuolaw31.EffectValid", spec := "effectValid", unfollowed := true, recurses := true, apart := false }
def EffectValidSaid : Prop := effectValidRow.holds Try.pinned (OpenSpec.ofChange effectValidSpec)

/-- ITS FALSE NEIGHBOUR: 'it returns false'. Refute it at one input. -/
def effectValidWrong : ChangeSpec := { name := "effectValid", fn := fun _ => fun
  | [d] => { results := [.lit (.bool false)], args := [d] }
  | _ => none }
def EffectValidWrongFalsely : Prop := effectValidRow.holds Try.pinned (OpenSpec.ofChange effectValidWrong)

/-- 'continuolaw31.EffectParts': WHATEVER THE INPUT: true; the input reads as it did. -/
def effectPartsSpec : ChangeSpec := { name := "effectParts", fn := fun _ => fun
  | [d1, d2, d3, d4] => { results := [.lit (.bool true)], args := [d1, d2, d3, d4] }
  | _ => none }
def effectPartsRow : OpenClaim := { program := "ytefcfnmmpnjjjaa", sum := "018d3d758d6177caa9a159d3636903aecb381be2840ea4f0053cf4176e989682", func := "continuo/continuolaw31.EffectParts", spec := "effectParts", unfollowed := true, recurses := true, apart := false }
def EffectPartsSaid : Prop := effectPartsRow.holds Try.pinned (OpenSpec.ofChange effectPartsSpec)

/-- ITS FALSE NEIGHBOUR: 'it returns false'. Refute it at one input. -/
def effectPartsWrong : ChangeSpec := { name := "effectParts", fn := fun _ => fun
  | [d1, d2, d3, d4] => { results := [.lit (.bool false)], args := [d1, d2, d3, d4] }
  | _ => none }
def EffectPartsWrongFalsely : Prop := effectPartsRow.holds Try.pinned (OpenSpec.ofChange effectPartsWrong)

/-- 'continuolaw31.EffectEqual': WHATEVER THE INPUT: true; the input reads as it did. -/
def effectEqualSpec : ChangeSpec := { name := "effectEqual", fn := fun _ => fun
  | [d1, d2, d3] => { results := [.lit (.bool true)], args := [d1, d2, d3] }
  | _ => none }
def effectEqualRow : OpenClaim := { program := "ytefcfnmmpnjjjaa", sum := "018d3d758d6177caa9a159d3636903aecb381be2840ea4f0053cf4176e989682", func := "continuo/continuolaw31.EffectEqual", spec := "effectEqual", unfollowed := true, recurses := true, apart := false }
def EffectEqualSaid : Prop := effectEqualRow.holds Try.pinned (OpenSpec.ofChange effectEqualSpec)

/-- ITS FALSE NEIGHBOUR: 'it returns false'. Refute it at one input. -/
def effectEqualWrong : ChangeSpec := { name := "effectEqual", fn := fun _ => fun
  | [d1, d2, d3] => { results := [.lit (.bool false)], args := [d1, d2, d3] }
  | _ => none }
def EffectEqualWrongFalsely : Prop := effectEqualRow.holds Try.pinned (OpenSpec.ofChange effectEqualWrong)

/- THE SECOND FORM. 'bulk': how many values and letters a reading holds, each counted each time it is reached (what is shared counts as often as it is met; a slice's spare places count too). A statement '..UptoSaid' is the law's where the arguments, and the package variables that the reading takes, are together of bulk at most 1048576: NARROWER than '..Said'. Prove '..Said' where nothing that the law and all that it calls make is longer than what came in: it says more and counts as full. Else prove '..UptoSaid'. A law counts once. -/
mutual
def uptoBulk {H : Type} : DataW H → Nat
  | .lit (.string bytes) => bytes.length + 1
  | .lit _ => 1
  | .nil => 1
  | .ptr d => uptoBulk d + 1
  | .slice elems spare => uptoBulkAll elems + uptoBulkAll spare + 1
  | .agg parts => uptoBulkAll parts + 1
  | .iface _ d => uptoBulk d + 1
  | .map entries => uptoBulkEntries entries + 1
  | .held _ => 1
def uptoBulkAll {H : Type} : List (DataW H) → Nat
  | [] => 0
  | d :: r => uptoBulk d + uptoBulkAll r
def uptoBulkEntries {H : Type} : List (Lit × DataW H) → Nat
  | [] => 0
  | x :: r => uptoBulkEntry x + uptoBulkEntries r
def uptoBulkEntry {H : Type} : Lit × DataW H → Nat
  | (.string bytes, d) => bytes.length + uptoBulk d + 1
  | (_, d) => uptoBulk d + 1
 end
def uptoSmall : (H : Type) → List (DataW H) → Bool := fun _ ds => decide (uptoBulkAll ds ≤ 1048576)
def OpenSpec.upto (s : _root_.Go.ChangeSpec) : _root_.Go.OpenSpec := { _root_.Go.OpenSpec.ofChange s with cond := some uptoSmall }

/-- 'continuolaw31.EffectBounds', WHERE WHAT IT READS IS OF BULK AT MOST 1048576: true; the input reads as it did. -/
def effectBoundsUptoRow : OpenClaim := { program := "ytefcfnmmpnjjjaa", sum := "018d3d758d6177caa9a159d3636903aecb381be2840ea4f0053cf4176e989682", func := "continuo/continuolaw31.EffectBounds", spec := "effectBounds", unfollowed := true, recurses := true, apart := false, narrowed := true }
def EffectBoundsUptoSaid : Prop := effectBoundsUptoRow.holds Try.pinned (OpenSpec.upto effectBoundsSpec)

/-- 'continuolaw31.EffectValid', WHERE WHAT IT READS IS OF BULK AT MOST 1048576: true; the input reads as it did. -/
def effectValidUptoRow : OpenClaim := { program := "ytefcfnmmpnjjjaa", sum := "018d3d758d6177caa9a159d3636903aecb381be2840ea4f0053cf4176e989682", func := "continuo/continuolaw31.EffectValid", spec := "effectValid", unfollowed := true, recurses := true, apart := false, narrowed := true }
def EffectValidUptoSaid : Prop := effectValidUptoRow.holds Try.pinned (OpenSpec.upto effectValidSpec)

/-- 'continuolaw31.EffectParts', WHERE WHAT IT READS IS OF BULK AT MOST 1048576: true; the input reads as it did. -/
def effectPartsUptoRow : OpenClaim := { program := "ytefcfnmmpnjjjaa", sum := "018d3d758d6177caa9a159d3636903aecb381be2840ea4f0053cf4176e989682", func := "continuo/continuolaw31.EffectParts", spec := "effectParts", unfollowed := true, recurses := true, apart := false, narrowed := true }
def EffectPartsUptoSaid : Prop := effectPartsUptoRow.holds Try.pinned (OpenSpec.upto effectPartsSpec)

/-- 'continuolaw31.EffectEqual', WHERE WHAT IT READS IS OF BULK AT MOST 1048576: true; the input reads as it did. -/
def effectEqualUptoRow : OpenClaim := { program := "ytefcfnmmpnjjjaa", sum := "018d3d758d6177caa9a159d3636903aecb381be2840ea4f0053cf4176e989682", func := "continuo/continuolaw31.EffectEqual", spec := "effectEqual", unfollowed := true, recurses := true, apart := false, narrowed := true }
def EffectEqualUptoSaid : Prop := effectEqualUptoRow.holds Try.pinned (OpenSpec.upto effectEqualSpec)

end Rows
end Go.Proofs.Ytefcfnmmpnjjjaa

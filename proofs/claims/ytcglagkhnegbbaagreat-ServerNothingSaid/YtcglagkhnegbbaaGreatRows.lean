/-
  No cell of these rows narrows 'for every input' (looked for: loops, veiled, ifaces, maps, wideKeys, modest, calm, conditions, laid).
  DERIVED. THE GIVEN ROWS OF THIS SEAT. 6 by the template 'for every input the law returns true; each argument reads behind the call as it read before'; 0 by the template 'total and deterministic' (their statements: YtcglagkhnegbbaaGreatTotals.lean).
  GIVEN WITH THE SEED: the statements are not yours to turn. If you find one false, say at which input.
  Laid BY PROGRAM, IN A SANDBOX (cutbox-rows.mjs): the forced cells as the released guide's own fill.sh prints them over the translation ab09d8aeb5c8ad65… (all of the seat's roots in one cut). By AI agents, Wed Nov 11 2026. No macro, syntax, notation, axiom, sorry.
-/
import Derived.Test.YtcglagkhnegbbaaGreatChecked
import GoSem.Claim
import GoSem.ClaimJoined
import GoSem.ClaimMapViews
import Derived.JoinedTies
import Derived.KernelRfl
namespace Go.Proofs.YtcglagkhnegbbaaGreat
/- THE CELL 'sum', in the pinned program and in every row, IS THE sha256 OF THE DUMP (.gsa) THAT YtcglagkhnegbbaaGreatProg.lean LOADS. Nothing in Lean hashes anything: it is a label: what it is worth is what the hold of that sum in a sandbox is worth. -/
noncomputable def Tryz.pinned : Pinned := { name := "ytcglagkhnegbbaagreat", sum := "ab09d8aeb5c8ad65e06fc25a0b6f0e9e06c51e8a050d246b7913ffaa5f5a3ac4", checked := Tryz.checked }
namespace Rows
def none {H : Type} : Left H := { results := [], args := [] }

/-- 'continuolaw28.ServerFrame': WHATEVER THE INPUT: true; the input reads as it did. -/
def serverFrameSpec : ChangeSpec := { name := "serverFrame", fn := fun _ => fun
  | [d1, d2, d3, d4, d5] => { results := [.lit (.bool true)], args := [d1, d2, d3, d4, d5] }
  | _ => none }
def serverFrameRow : OpenClaim := { program := "ytcglagkhnegbbaagreat", sum := "ab09d8aeb5c8ad65e06fc25a0b6f0e9e06c51e8a050d246b7913ffaa5f5a3ac4", func := "continuo/continuolaw28.ServerFrame", spec := "serverFrame", inPlace := ["slices.overlaps[*continuo/server.node]"], unfollowed := true, recurses := true, apart := false }
def ServerFrameSaid : Prop := serverFrameRow.holds Tryz.pinned (OpenSpec.ofChange serverFrameSpec)

/-- ITS FALSE NEIGHBOUR: 'it returns false'. Refute it at one input. -/
def serverFrameWrong : ChangeSpec := { name := "serverFrame", fn := fun _ => fun
  | [d1, d2, d3, d4, d5] => { results := [.lit (.bool false)], args := [d1, d2, d3, d4, d5] }
  | _ => none }
def ServerFrameWrongFalsely : Prop := serverFrameRow.holds Tryz.pinned (OpenSpec.ofChange serverFrameWrong)

/-- 'continuolaw28.ServerRenders': WHATEVER THE INPUT: true; the input reads as it did. -/
def serverRendersSpec : ChangeSpec := { name := "serverRenders", fn := fun _ => fun
  | [d1, d2, d3, d4] => { results := [.lit (.bool true)], args := [d1, d2, d3, d4] }
  | _ => none }
def serverRendersRow : OpenClaim := { program := "ytcglagkhnegbbaagreat", sum := "ab09d8aeb5c8ad65e06fc25a0b6f0e9e06c51e8a050d246b7913ffaa5f5a3ac4", func := "continuo/continuolaw28.ServerRenders", spec := "serverRenders", inPlace := ["slices.overlaps[*continuo/server.node]", "math/bits.Add64"], unfollowed := true, recurses := true, named := ["math/bits.divideError", "math/bits.overflowError"], apart := false }
def ServerRendersSaid : Prop := serverRendersRow.holds Tryz.pinned (OpenSpec.ofChange serverRendersSpec)

/-- ITS FALSE NEIGHBOUR: 'it returns false'. Refute it at one input. -/
def serverRendersWrong : ChangeSpec := { name := "serverRenders", fn := fun _ => fun
  | [d1, d2, d3, d4] => { results := [.lit (.bool false)], args := [d1, d2, d3, d4] }
  | _ => none }
def ServerRendersWrongFalsely : Prop := serverRendersRow.holds Tryz.pinned (OpenSpec.ofChange serverRendersWrong)

/-- 'continuolaw28.ServerNothing': WHATEVER THE INPUT: true; the input reads as it did. -/
def serverNothingSpec : ChangeSpec := { name := "serverNothing", fn := fun _ => fun
  | [d1, d2] => { results := [.lit (.bool true)], args := [d1, d2] }
  | _ => none }
def serverNothingRow : OpenClaim := { program := "ytcglagkhnegbbaagreat", sum := "ab09d8aeb5c8ad65e06fc25a0b6f0e9e06c51e8a050d246b7913ffaa5f5a3ac4", func := "continuo/continuolaw28.ServerNothing", spec := "serverNothing", inPlace := ["slices.overlaps[*continuo/server.node]"], unfollowed := true, recurses := true, apart := false }
def ServerNothingSaid : Prop := serverNothingRow.holds Tryz.pinned (OpenSpec.ofChange serverNothingSpec)

/-- ITS FALSE NEIGHBOUR: 'it returns false'. Refute it at one input. -/
def serverNothingWrong : ChangeSpec := { name := "serverNothing", fn := fun _ => fun
  | [d1, d2] => { results := [.lit (.bool false)], args := [d1, d2] }
  | _ => none }
def ServerNothingWrongFalsely : Prop := serverNothingRow.holds Tryz.pinned (OpenSpec.ofChange serverNothingWrong)

/-- 'continuolaw28.ServerPlays': WHATEVER THE INPUT: true; the input reads as it did. -/
def serverPlaysSpec : ChangeSpec := { name := "serverPlays", fn := fun _ => fun
  | [d1, d2, d3] => { results := [.lit (.bool true)], args := [d1, d2, d3] }
  | _ => none }
def serverPlaysRow : OpenClaim := { program := "ytcglagkhnegbbaagreat", sum := "ab09d8aeb5c8ad65e06fc25a0b6f0e9e06c51e8a050d246b7913ffaa5f5a3ac4", func := "continuo/continuolaw28.ServerPlays", spec := "serverPlays", inPlace := ["slices.overlaps[*continuo/server.node]", "math/bits.Add64"], unfollowed := true, recurses := true, named := ["math/bits.divideError", "math/bits.overflowError"], apart := false }
def ServerPlaysSaid : Prop := serverPlaysRow.holds Tryz.pinned (OpenSpec.ofChange serverPlaysSpec)

/-- ITS FALSE NEIGHBOUR: 'it returns false'. Refute it at one input. -/
def serverPlaysWrong : ChangeSpec := { name := "serverPlays", fn := fun _ => fun
  | [d1, d2, d3] => { results := [.lit (.bool false)], args := [d1, d2, d3] }
  | _ => none }
def ServerPlaysWrongFalsely : Prop := serverPlaysRow.holds Tryz.pinned (OpenSpec.ofChange serverPlaysWrong)

/-- 'continuolaw28.ServerOrder': WHATEVER THE INPUT: true; the input reads as it did. -/
def serverOrderSpec : ChangeSpec := { name := "serverOrder", fn := fun _ => fun
  | [d1, d2, d3] => { results := [.lit (.bool true)], args := [d1, d2, d3] }
  | _ => none }
def serverOrderRow : OpenClaim := { program := "ytcglagkhnegbbaagreat", sum := "ab09d8aeb5c8ad65e06fc25a0b6f0e9e06c51e8a050d246b7913ffaa5f5a3ac4", func := "continuo/continuolaw28.ServerOrder", spec := "serverOrder", inPlace := ["slices.overlaps[*continuo/server.node]"], unfollowed := true, recurses := true, apart := false }
def ServerOrderSaid : Prop := serverOrderRow.holds Tryz.pinned (OpenSpec.ofChange serverOrderSpec)

/-- ITS FALSE NEIGHBOUR: 'it returns false'. Refute it at one input. -/
def serverOrderWrong : ChangeSpec := { name := "serverOrder", fn := fun _ => fun
  | [d1, d2, d3] => { results := [.lit (.bool false)], args := [d1, d2, d3] }
  | _ => none }
def ServerOrderWrongFalsely : Prop := serverOrderRow.holds Tryz.pinned (OpenSpec.ofChange serverOrderWrong)

/-- 'continuolaw28.ServerAlone': WHATEVER THE INPUT: true; the input reads as it did. -/
def serverAloneSpec : ChangeSpec := { name := "serverAlone", fn := fun _ => fun
  | [d1, d2, d3, d4, d5] => { results := [.lit (.bool true)], args := [d1, d2, d3, d4, d5] }
  | _ => none }
def serverAloneRow : OpenClaim := { program := "ytcglagkhnegbbaagreat", sum := "ab09d8aeb5c8ad65e06fc25a0b6f0e9e06c51e8a050d246b7913ffaa5f5a3ac4", func := "continuo/continuolaw28.ServerAlone", spec := "serverAlone", inPlace := ["slices.overlaps[*continuo/server.node]"], unfollowed := true, recurses := true, apart := false }
def ServerAloneSaid : Prop := serverAloneRow.holds Tryz.pinned (OpenSpec.ofChange serverAloneSpec)

/-- ITS FALSE NEIGHBOUR: 'it returns false'. Refute it at one input. -/
def serverAloneWrong : ChangeSpec := { name := "serverAlone", fn := fun _ => fun
  | [d1, d2, d3, d4, d5] => { results := [.lit (.bool false)], args := [d1, d2, d3, d4, d5] }
  | _ => none }
def ServerAloneWrongFalsely : Prop := serverAloneRow.holds Tryz.pinned (OpenSpec.ofChange serverAloneWrong)

/- THE SECOND FORM. 'bulk': how many values and letters a reading holds, each counted each time it is reached (what is shared counts as often as it is met; a slice's spare places count too). A statement '..UptoSaid' is the law's where the arguments, and the package variables that the reading takes, are together of bulk at most 1048576: NARROWER than '..Said'. Prove '..Said' where nothing that the law and all that it calls make is longer than what came in: it says more and counts as full. Else prove '..UptoSaid'. A law counts once. -/
mutual
def uptoBulk {H : Type} : DataW H → Nat
  | .lit (.string bytes) => bytes.length + 1
  | .lit _ => 1
  | .nil => 1
  | .ptr d => uptoBulk d + 1
  | .slice elems spare => uptoBulkAll elems + uptoBulkAll spare + 1
  | .agg parts => uptoBulkAll parts + 1
  | .iface _ d => uptoBulk d + 1
  | .map entries => uptoBulkEntries entries + 1
  | .held _ => 1
def uptoBulkAll {H : Type} : List (DataW H) → Nat
  | [] => 0
  | d :: r => uptoBulk d + uptoBulkAll r
def uptoBulkEntries {H : Type} : List (Lit × DataW H) → Nat
  | [] => 0
  | x :: r => uptoBulkEntry x + uptoBulkEntries r
def uptoBulkEntry {H : Type} : Lit × DataW H → Nat
  | (.string bytes, d) => bytes.length + uptoBulk d + 1
  | (_, d) => uptoBulk d + 1
 end
def uptoSmall : (H : Type) → List (DataW H) → Bool := fun _ ds => decide (uptoBulkAll ds ≤ 1048576)
def OpenSpec.upto (s : _root_.Go.ChangeSpec) : _root_.Go.OpenSpec := { _root_.Go.OpenSpec.ofChange s with cond := some uptoSmall }

/-- 'continuolaw28.ServerFrame', WHERE WHAT IT READS IS OF BULK AT MOST 1048576: true; the input reads as it did. -/
def serverFrameUptoRow : OpenClaim := { program := "ytcglagkhnegbbaagreat", sum := "ab09d8aeb5c8ad65e06fc25a0b6f0e9e06c51e8a050d246b7913ffaa5f5a3ac4", func := "continuo/continuolaw28.ServerFrame", spec := "serverFrame", inPlace := ["slices.overlaps[*continuo/server.node]"], unfollowed := true, recurses := true, apart := false, narrowed := true }
def ServerFrameUptoSaid : Prop := serverFrameUptoRow.holds Tryz.pinned (OpenSpec.upto serverFrameSpec)

/-- 'continuolaw28.ServerRenders', WHERE WHAT IT READS IS OF BULK AT MOST 1048576: true; the input reads as it did. -/
def serverRendersUptoRow : OpenClaim := { program := "ytcglagkhnegbbaagreat", sum := "ab09d8aeb5c8ad65e06fc25a0b6f0e9e06c51e8a050d246b7913ffaa5f5a3ac4", func := "continuo/continuolaw28.ServerRenders", spec := "serverRenders", inPlace := ["slices.overlaps[*continuo/server.node]", "math/bits.Add64"], unfollowed := true, recurses := true, named := ["math/bits.divideError", "math/bits.overflowError"], apart := false, narrowed := true }
def ServerRendersUptoSaid : Prop := serverRendersUptoRow.holds Tryz.pinned (OpenSpec.upto serverRendersSpec)

/-- 'continuolaw28.ServerNothing', WHERE WHAT IT READS IS OF BULK AT MOST 1048576: true; the input reads as it did. -/
def serverNothingUptoRow : OpenClaim := { program := "ytcglagkhnegbbaagreat", sum := "ab09d8aeb5c8ad65e06fc25a0b6f0e9e06c51e8a050d246b7913ffaa5f5a3ac4", func := "continuo/continuolaw28.ServerNothing", spec := "serverNothing", inPlace := ["slices.overlaps[*continuo/server.node]"], unfollowed := true, recurses := true, apart := false, narrowed := true }
def ServerNothingUptoSaid : Prop := serverNothingUptoRow.holds Tryz.pinned (OpenSpec.upto serverNothingSpec)

/-- 'continuolaw28.ServerPlays', WHERE WHAT IT READS IS OF BULK AT MOST 1048576: true; the input reads as it did. -/
def serverPlaysUptoRow : OpenClaim := { program := "ytcglagkhnegbbaagreat", sum := "ab09d8aeb5c8ad65e06fc25a0b6f0e9e06c51e8a050d246b7913ffaa5f5a3ac4", func := "continuo/continuolaw28.ServerPlays", spec := "serverPlays", inPlace := ["slices.overlaps[*continuo/server.node]", "math/bits.Add64"], unfollowed := true, recurses := true, named := ["math/bits.divideError", "math/bits.overflowError"], apart := false, narrowed := true }
def ServerPlaysUptoSaid : Prop := serverPlaysUptoRow.holds Tryz.pinned (OpenSpec.upto serverPlaysSpec)

/-- 'continuolaw28.ServerOrder', WHERE WHAT IT READS IS OF BULK AT MOST 1048576: true; the input reads as it did. -/
def serverOrderUptoRow : OpenClaim := { program := "ytcglagkhnegbbaagreat", sum := "ab09d8aeb5c8ad65e06fc25a0b6f0e9e06c51e8a050d246b7913ffaa5f5a3ac4", func := "continuo/continuolaw28.ServerOrder", spec := "serverOrder", inPlace := ["slices.overlaps[*continuo/server.node]"], unfollowed := true, recurses := true, apart := false, narrowed := true }
def ServerOrderUptoSaid : Prop := serverOrderUptoRow.holds Tryz.pinned (OpenSpec.upto serverOrderSpec)

/-- 'continuolaw28.ServerAlone', WHERE WHAT IT READS IS OF BULK AT MOST 1048576: true; the input reads as it did. -/
def serverAloneUptoRow : OpenClaim := { program := "ytcglagkhnegbbaagreat", sum := "ab09d8aeb5c8ad65e06fc25a0b6f0e9e06c51e8a050d246b7913ffaa5f5a3ac4", func := "continuo/continuolaw28.ServerAlone", spec := "serverAlone", inPlace := ["slices.overlaps[*continuo/server.node]"], unfollowed := true, recurses := true, apart := false, narrowed := true }
def ServerAloneUptoSaid : Prop := serverAloneUptoRow.holds Tryz.pinned (OpenSpec.upto serverAloneSpec)

end Rows
end Go.Proofs.YtcglagkhnegbbaaGreat

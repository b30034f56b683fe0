/-
  No cell of these rows narrows 'for every input' (looked for: loops, veiled, ifaces, maps, wideKeys, modest, calm, conditions, laid).
  DERIVED. THE GIVEN ROWS OF THIS SEAT. 12 by the template 'for every input the law returns true; each argument reads behind the call as it read before'; 0 by the template 'total and deterministic' (their statements: YtkjgppmbbljbkaaTotals.lean).
  GIVEN WITH THE SEED: the statements are not yours to turn. If you find one false, say at which input.
  Laid BY PROGRAM, IN A SANDBOX (cutbox-rows.mjs): the forced cells as the released guide's own fill.sh prints them over the translation 31dfc1a4f6dffc97… (all of the seat's roots in one cut). By AI agents, Wed Nov 11 2026. No macro, syntax, notation, axiom, sorry.
-/
import Derived.Test.YtkjgppmbbljbkaaChecked
import GoSem.Claim
import GoSem.ClaimJoined
import GoSem.ClaimMapViews
import Derived.JoinedTies
import Derived.KernelRfl
namespace Go.Proofs.Ytkjgppmbbljbkaa
/- THE CELL 'sum', in the pinned program and in every row, IS THE sha256 OF THE DUMP (.gsa) THAT YtkjgppmbbljbkaaProg.lean LOADS. Nothing in Lean hashes anything: it is a label: what it is worth is what the hold of that sum in a sandbox is worth. -/
noncomputable def Try.pinned : Pinned := { name := "ytkjgppmbbljbkaa", sum := "31dfc1a4f6dffc97ac26381813ec2e7faaa468ad2af46529b5f023d2745678e6", checked := Try.checked }
namespace Rows
def none {H : Type} : Left H := { results := [], args := [] }

/-- 'saltcellartop.TopPressTurned': WHATEVER THE INPUT: true; the input reads as it did. -/
def topPressTurnedSpec : ChangeSpec := { name := "topPressTurned", fn := fun _ => fun
  | [d1, d2, d3] => { results := [.lit (.bool true)], args := [d1, d2, d3] }
  | _ => none }
def topPressTurnedRow : OpenClaim := { program := "ytkjgppmbbljbkaa", sum := "31dfc1a4f6dffc97ac26381813ec2e7faaa468ad2af46529b5f023d2745678e6", func := "saltcellar/saltcellartop.TopPressTurned", spec := "topPressTurned", apart := false }
def TopPressTurnedSaid : Prop := topPressTurnedRow.holds Try.pinned (OpenSpec.ofChange topPressTurnedSpec)

/-- ITS FALSE NEIGHBOUR: 'it returns false'. Refute it at one input. -/
def topPressTurnedWrong : ChangeSpec := { name := "topPressTurned", fn := fun _ => fun
  | [d1, d2, d3] => { results := [.lit (.bool false)], args := [d1, d2, d3] }
  | _ => none }
def TopPressTurnedWrongFalsely : Prop := topPressTurnedRow.holds Try.pinned (OpenSpec.ofChange topPressTurnedWrong)

/-- 'saltcellartop.TopBlocksTurned': WHATEVER THE INPUT: true; the input reads as it did. -/
def topBlocksTurnedSpec : ChangeSpec := { name := "topBlocksTurned", fn := fun _ => fun
  | [d1, d2] => { results := [.lit (.bool true)], args := [d1, d2] }
  | _ => none }
def topBlocksTurnedRow : OpenClaim := { program := "ytkjgppmbbljbkaa", sum := "31dfc1a4f6dffc97ac26381813ec2e7faaa468ad2af46529b5f023d2745678e6", func := "saltcellar/saltcellartop.TopBlocksTurned", spec := "topBlocksTurned", inPlace := ["slices.overlaps[saltcellar/api.Write]", "slices.overlaps[saltcellar/api.Item]"], unfollowed := true, recurses := true, apart := false }
def TopBlocksTurnedSaid : Prop := topBlocksTurnedRow.holds Try.pinned (OpenSpec.ofChange topBlocksTurnedSpec)

/-- ITS FALSE NEIGHBOUR: 'it returns false'. Refute it at one input. -/
def topBlocksTurnedWrong : ChangeSpec := { name := "topBlocksTurned", fn := fun _ => fun
  | [d1, d2] => { results := [.lit (.bool false)], args := [d1, d2] }
  | _ => none }
def TopBlocksTurnedWrongFalsely : Prop := topBlocksTurnedRow.holds Try.pinned (OpenSpec.ofChange topBlocksTurnedWrong)

/-- 'saltcellartop.TopJoined': WHATEVER THE INPUT: true; the input reads as it did. -/
def topJoinedSpec : ChangeSpec := { name := "topJoined", fn := fun _ => fun
  | [d1, d2, d3] => { results := [.lit (.bool true)], args := [d1, d2, d3] }
  | _ => none }
def topJoinedRow : OpenClaim := { program := "ytkjgppmbbljbkaa", sum := "31dfc1a4f6dffc97ac26381813ec2e7faaa468ad2af46529b5f023d2745678e6", func := "saltcellar/saltcellartop.TopJoined", spec := "topJoined", inPlace := ["slices.overlaps[saltcellar/api.Write]", "slices.overlaps[saltcellar/api.Item]"], unfollowed := true, recurses := true, apart := false }
def TopJoinedSaid : Prop := topJoinedRow.holds Try.pinned (OpenSpec.ofChange topJoinedSpec)

/-- ITS FALSE NEIGHBOUR: 'it returns false'. Refute it at one input. -/
def topJoinedWrong : ChangeSpec := { name := "topJoined", fn := fun _ => fun
  | [d1, d2, d3] => { results := [.lit (.bool false)], args := [d1, d2, d3] }
  | _ => none }
def TopJoinedWrongFalsely : Prop := topJoinedRow.holds Try.pinned (OpenSpec.ofChange topJoinedWrong)

/-- 'saltcellartop.TopKeepsTurned': WHATEVER THE INPUT: true; the input reads as it did. -/
def topKeepsTurnedSpec : ChangeSpec := { name := "topKeepsTurned", fn := fun _ => fun
  | [d1, d2, d3] => { results := [.lit (.bool true)], args := [d1, d2, d3] }
  | _ => none }
def topKeepsTurnedRow : OpenClaim := { program := "ytkjgppmbbljbkaa", sum := "31dfc1a4f6dffc97ac26381813ec2e7faaa468ad2af46529b5f023d2745678e6", func := "saltcellar/saltcellartop.TopKeepsTurned", spec := "topKeepsTurned", inPlace := ["slices.overlaps[saltcellar/api.Write]", "slices.overlaps[saltcellar/api.Item]"], unfollowed := true, recurses := true, apart := false }
def TopKeepsTurnedSaid : Prop := topKeepsTurnedRow.holds Try.pinned (OpenSpec.ofChange topKeepsTurnedSpec)

/-- ITS FALSE NEIGHBOUR: 'it returns false'. Refute it at one input. -/
def topKeepsTurnedWrong : ChangeSpec := { name := "topKeepsTurned", fn := fun _ => fun
  | [d1, d2, d3] => { results := [.lit (.bool false)], args := [d1, d2, d3] }
  | _ => none }
def TopKeepsTurnedWrongFalsely : Prop := topKeepsTurnedRow.holds Try.pinned (OpenSpec.ofChange topKeepsTurnedWrong)

/-- 'saltcellartop.TopPutsTurned': WHATEVER THE INPUT: true; the input reads as it did. -/
def topPutsTurnedSpec : ChangeSpec := { name := "topPutsTurned", fn := fun _ => fun
  | [d1, d2, d3] => { results := [.lit (.bool true)], args := [d1, d2, d3] }
  | _ => none }
def topPutsTurnedRow : OpenClaim := { program := "ytkjgppmbbljbkaa", sum := "31dfc1a4f6dffc97ac26381813ec2e7faaa468ad2af46529b5f023d2745678e6", func := "saltcellar/saltcellartop.TopPutsTurned", spec := "topPutsTurned", inPlace := ["slices.overlaps[saltcellar/api.Write]", "slices.overlaps[saltcellar/api.Item]"], unfollowed := true, recurses := true, apart := false }
def TopPutsTurnedSaid : Prop := topPutsTurnedRow.holds Try.pinned (OpenSpec.ofChange topPutsTurnedSpec)

/-- ITS FALSE NEIGHBOUR: 'it returns false'. Refute it at one input. -/
def topPutsTurnedWrong : ChangeSpec := { name := "topPutsTurned", fn := fun _ => fun
  | [d1, d2, d3] => { results := [.lit (.bool false)], args := [d1, d2, d3] }
  | _ => none }
def TopPutsTurnedWrongFalsely : Prop := topPutsTurnedRow.holds Try.pinned (OpenSpec.ofChange topPutsTurnedWrong)

/-- 'saltcellartop.TopBytesTurned': WHATEVER THE INPUT: true; the input reads as it did. -/
def topBytesTurnedSpec : ChangeSpec := { name := "topBytesTurned", fn := fun _ => fun
  | [d1, d2, d3, d4] => { results := [.lit (.bool true)], args := [d1, d2, d3, d4] }
  | _ => none }
def topBytesTurnedRow : OpenClaim := { program := "ytkjgppmbbljbkaa", sum := "31dfc1a4f6dffc97ac26381813ec2e7faaa468ad2af46529b5f023d2745678e6", func := "saltcellar/saltcellartop.TopBytesTurned", spec := "topBytesTurned", inPlace := ["slices.overlaps[saltcellar/api.Write]", "slices.overlaps[saltcellar/api.Item]"], unfollowed := true, recurses := true, apart := false }
def TopBytesTurnedSaid : Prop := topBytesTurnedRow.holds Try.pinned (OpenSpec.ofChange topBytesTurnedSpec)

/-- ITS FALSE NEIGHBOUR: 'it returns false'. Refute it at one input. -/
def topBytesTurnedWrong : ChangeSpec := { name := "topBytesTurned", fn := fun _ => fun
  | [d1, d2, d3, d4] => { results := [.lit (.bool false)], args := [d1, d2, d3, d4] }
  | _ => none }
def TopBytesTurnedWrongFalsely : Prop := topBytesTurnedRow.holds Try.pinned (OpenSpec.ofChange topBytesTurnedWrong)

/-- 'saltcellartop.TopRoomMore': WHATEVER THE INPUT: true; the input reads as it did. -/
def topRoomMoreSpec : ChangeSpec := { name := "topRoomMore", fn := fun _ => fun
  | [d1, d2, d3] => { results := [.lit (.bool true)], args := [d1, d2, d3] }
  | _ => none }
def topRoomMoreRow : OpenClaim := { program := "ytkjgppmbbljbkaa", sum := "31dfc1a4f6dffc97ac26381813ec2e7faaa468ad2af46529b5f023d2745678e6", func := "saltcellar/saltcellartop.TopRoomMore", spec := "topRoomMore", inPlace := ["slices.overlaps[saltcellar/api.Write]", "slices.overlaps[saltcellar/api.Item]"], unfollowed := true, recurses := true, apart := false }
def TopRoomMoreSaid : Prop := topRoomMoreRow.holds Try.pinned (OpenSpec.ofChange topRoomMoreSpec)

/-- ITS FALSE NEIGHBOUR: 'it returns false'. Refute it at one input. -/
def topRoomMoreWrong : ChangeSpec := { name := "topRoomMore", fn := fun _ => fun
  | [d1, d2, d3] => { results := [.lit (.bool false)], args := [d1, d2, d3] }
  | _ => none }
def TopRoomMoreWrongFalsely : Prop := topRoomMoreRow.holds Try.pinned (OpenSpec.ofChange topRoomMoreWrong)

/-- 'saltcellartop.TopKeepsDropped': WHATEVER THE INPUT: true; the input reads as it did. -/
def topKeepsDroppedSpec : ChangeSpec := { name := "topKeepsDropped", fn := fun _ => fun
  | [d1, d2, d3] => { results := [.lit (.bool true)], args := [d1, d2, d3] }
  | _ => none }
def topKeepsDroppedRow : OpenClaim := { program := "ytkjgppmbbljbkaa", sum := "31dfc1a4f6dffc97ac26381813ec2e7faaa468ad2af46529b5f023d2745678e6", func := "saltcellar/saltcellartop.TopKeepsDropped", spec := "topKeepsDropped", inPlace := ["slices.overlaps[saltcellar/api.Write]", "slices.overlaps[saltcellar/api.Item]"], unfollowed := true, recurses := true, apart := false }
def TopKeepsDroppedSaid : Prop := topKeepsDroppedRow.holds Try.pinned (OpenSpec.ofChange topKeepsDroppedSpec)

/-- ITS FALSE NEIGHBOUR: 'it returns false'. Refute it at one input. -/
def topKeepsDroppedWrong : ChangeSpec := { name := "topKeepsDropped", fn := fun _ => fun
  | [d1, d2, d3] => { results := [.lit (.bool false)], args := [d1, d2, d3] }
  | _ => none }
def TopKeepsDroppedWrongFalsely : Prop := topKeepsDroppedRow.holds Try.pinned (OpenSpec.ofChange topKeepsDroppedWrong)

/-- 'saltcellartop.TopReadsMore': WHATEVER THE INPUT: true; the input reads as it did. -/
def topReadsMoreSpec : ChangeSpec := { name := "topReadsMore", fn := fun _ => fun
  | [d1, d2, d3, d4, d5] => { results := [.lit (.bool true)], args := [d1, d2, d3, d4, d5] }
  | _ => none }
def topReadsMoreRow : OpenClaim := { program := "ytkjgppmbbljbkaa", sum := "31dfc1a4f6dffc97ac26381813ec2e7faaa468ad2af46529b5f023d2745678e6", func := "saltcellar/saltcellartop.TopReadsMore", spec := "topReadsMore", inPlace := ["slices.overlaps[saltcellar/api.Write]", "slices.overlaps[saltcellar/api.Item]"], unfollowed := true, recurses := true, apart := false }
def TopReadsMoreSaid : Prop := topReadsMoreRow.holds Try.pinned (OpenSpec.ofChange topReadsMoreSpec)

/-- ITS FALSE NEIGHBOUR: 'it returns false'. Refute it at one input. -/
def topReadsMoreWrong : ChangeSpec := { name := "topReadsMore", fn := fun _ => fun
  | [d1, d2, d3, d4, d5] => { results := [.lit (.bool false)], args := [d1, d2, d3, d4, d5] }
  | _ => none }
def TopReadsMoreWrongFalsely : Prop := topReadsMoreRow.holds Try.pinned (OpenSpec.ofChange topReadsMoreWrong)

/-- 'saltcellartop.TopAbortedMore': WHATEVER THE INPUT: true; the input reads as it did. -/
def topAbortedMoreSpec : ChangeSpec := { name := "topAbortedMore", fn := fun _ => fun
  | [d1, d2, d3, d4] => { results := [.lit (.bool true)], args := [d1, d2, d3, d4] }
  | _ => none }
def topAbortedMoreRow : OpenClaim := { program := "ytkjgppmbbljbkaa", sum := "31dfc1a4f6dffc97ac26381813ec2e7faaa468ad2af46529b5f023d2745678e6", func := "saltcellar/saltcellartop.TopAbortedMore", spec := "topAbortedMore", inPlace := ["slices.overlaps[saltcellar/api.Write]", "slices.overlaps[saltcellar/api.Item]"], unfollowed := true, recurses := true, apart := false }
def TopAbortedMoreSaid : Prop := topAbortedMoreRow.holds Try.pinned (OpenSpec.ofChange topAbortedMoreSpec)

/-- ITS FALSE NEIGHBOUR: 'it returns false'. Refute it at one input. -/
def topAbortedMoreWrong : ChangeSpec := { name := "topAbortedMore", fn := fun _ => fun
  | [d1, d2, d3, d4] => { results := [.lit (.bool false)], args := [d1, d2, d3, d4] }
  | _ => none }
def TopAbortedMoreWrongFalsely : Prop := topAbortedMoreRow.holds Try.pinned (OpenSpec.ofChange topAbortedMoreWrong)

/-- 'saltcellartop.TopTwiceMore': WHATEVER THE INPUT: true; the input reads as it did. -/
def topTwiceMoreSpec : ChangeSpec := { name := "topTwiceMore", fn := fun _ => fun
  | [d1, d2, d3] => { results := [.lit (.bool true)], args := [d1, d2, d3] }
  | _ => none }
def topTwiceMoreRow : OpenClaim := { program := "ytkjgppmbbljbkaa", sum := "31dfc1a4f6dffc97ac26381813ec2e7faaa468ad2af46529b5f023d2745678e6", func := "saltcellar/saltcellartop.TopTwiceMore", spec := "topTwiceMore", inPlace := ["slices.overlaps[saltcellar/api.Write]", "slices.overlaps[saltcellar/api.Item]"], unfollowed := true, recurses := true, apart := false }
def TopTwiceMoreSaid : Prop := topTwiceMoreRow.holds Try.pinned (OpenSpec.ofChange topTwiceMoreSpec)

/-- ITS FALSE NEIGHBOUR: 'it returns false'. Refute it at one input. -/
def topTwiceMoreWrong : ChangeSpec := { name := "topTwiceMore", fn := fun _ => fun
  | [d1, d2, d3] => { results := [.lit (.bool false)], args := [d1, d2, d3] }
  | _ => none }
def TopTwiceMoreWrongFalsely : Prop := topTwiceMoreRow.holds Try.pinned (OpenSpec.ofChange topTwiceMoreWrong)

/-- 'saltcellartop.TopPutsLast': WHATEVER THE INPUT: true; the input reads as it did. -/
def topPutsLastSpec : ChangeSpec := { name := "topPutsLast", fn := fun _ => fun
  | [d1, d2, d3] => { results := [.lit (.bool true)], args := [d1, d2, d3] }
  | _ => none }
def topPutsLastRow : OpenClaim := { program := "ytkjgppmbbljbkaa", sum := "31dfc1a4f6dffc97ac26381813ec2e7faaa468ad2af46529b5f023d2745678e6", func := "saltcellar/saltcellartop.TopPutsLast", spec := "topPutsLast", inPlace := ["slices.overlaps[saltcellar/api.Write]", "slices.overlaps[saltcellar/api.Item]"], unfollowed := true, recurses := true, apart := false }
def TopPutsLastSaid : Prop := topPutsLastRow.holds Try.pinned (OpenSpec.ofChange topPutsLastSpec)

/-- ITS FALSE NEIGHBOUR: 'it returns false'. Refute it at one input. -/
def topPutsLastWrong : ChangeSpec := { name := "topPutsLast", fn := fun _ => fun
  | [d1, d2, d3] => { results := [.lit (.bool false)], args := [d1, d2, d3] }
  | _ => none }
def TopPutsLastWrongFalsely : Prop := topPutsLastRow.holds Try.pinned (OpenSpec.ofChange topPutsLastWrong)

/- THE SECOND FORM. 'bulk': how many values and letters a reading holds, each counted each time it is reached (what is shared counts as often as it is met; a slice's spare places count too). A statement '..UptoSaid' is the law's where the arguments, and the package variables that the reading takes, are together of bulk at most 1048576: NARROWER than '..Said'. Prove '..Said' where nothing that the law and all that it calls make is longer than what came in: it says more and counts as full. Else prove '..UptoSaid'. A law counts once. -/
mutual
def uptoBulk {H : Type} : DataW H → Nat
  | .lit (.string bytes) => bytes.length + 1
  | .lit _ => 1
  | .nil => 1
  | .ptr d => uptoBulk d + 1
  | .slice elems spare => uptoBulkAll elems + uptoBulkAll spare + 1
  | .agg parts => uptoBulkAll parts + 1
  | .iface _ d => uptoBulk d + 1
  | .map entries => uptoBulkEntries entries + 1
  | .held _ => 1
def uptoBulkAll {H : Type} : List (DataW H) → Nat
  | [] => 0
  | d :: r => uptoBulk d + uptoBulkAll r
def uptoBulkEntries {H : Type} : List (Lit × DataW H) → Nat
  | [] => 0
  | x :: r => uptoBulkEntry x + uptoBulkEntries r
def uptoBulkEntry {H : Type} : Lit × DataW H → Nat
  | (.string bytes, d) => bytes.length + uptoBulk d + 1
  | (_, d) => uptoBulk d + 1
 end
def uptoSmall : (H : Type) → List (DataW H) → Bool := fun _ ds => decide (uptoBulkAll ds ≤ 1048576)
def OpenSpec.upto (s : _root_.Go.ChangeSpec) : _root_.Go.OpenSpec := { _root_.Go.OpenSpec.ofChange s with cond := some uptoSmall }

/-- 'saltcellartop.TopPressTurned', WHERE WHAT IT READS IS OF BULK AT MOST 1048576: true; the input reads as it did. -/
def topPressTurnedUptoRow : OpenClaim := { program := "ytkjgppmbbljbkaa", sum := "31dfc1a4f6dffc97ac26381813ec2e7faaa468ad2af46529b5f023d2745678e6", func := "saltcellar/saltcellartop.TopPressTurned", spec := "topPressTurned", apart := false, narrowed := true }
def TopPressTurnedUptoSaid : Prop := topPressTurnedUptoRow.holds Try.pinned (OpenSpec.upto topPressTurnedSpec)

/-- 'saltcellartop.TopBlocksTurned', WHERE WHAT IT READS IS OF BULK AT MOST 1048576: true; the input reads as it did. -/
def topBlocksTurnedUptoRow : OpenClaim := { program := "ytkjgppmbbljbkaa", sum := "31dfc1a4f6dffc97ac26381813ec2e7faaa468ad2af46529b5f023d2745678e6", func := "saltcellar/saltcellartop.TopBlocksTurned", spec := "topBlocksTurned", inPlace := ["slices.overlaps[saltcellar/api.Write]", "slices.overlaps[saltcellar/api.Item]"], unfollowed := true, recurses := true, apart := false, narrowed := true }
def TopBlocksTurnedUptoSaid : Prop := topBlocksTurnedUptoRow.holds Try.pinned (OpenSpec.upto topBlocksTurnedSpec)

/-- 'saltcellartop.TopJoined', WHERE WHAT IT READS IS OF BULK AT MOST 1048576: true; the input reads as it did. -/
def topJoinedUptoRow : OpenClaim := { program := "ytkjgppmbbljbkaa", sum := "31dfc1a4f6dffc97ac26381813ec2e7faaa468ad2af46529b5f023d2745678e6", func := "saltcellar/saltcellartop.TopJoined", spec := "topJoined", inPlace := ["slices.overlaps[saltcellar/api.Write]", "slices.overlaps[saltcellar/api.Item]"], unfollowed := true, recurses := true, apart := false, narrowed := true }
def TopJoinedUptoSaid : Prop := topJoinedUptoRow.holds Try.pinned (OpenSpec.upto topJoinedSpec)

/-- 'saltcellartop.TopKeepsTurned', WHERE WHAT IT READS IS OF BULK AT MOST 1048576: true; the input reads as it did. -/
def topKeepsTurnedUptoRow : OpenClaim := { program := "ytkjgppmbbljbkaa", sum := "31dfc1a4f6dffc97ac26381813ec2e7faaa468ad2af46529b5f023d2745678e6", func := "saltcellar/saltcellartop.TopKeepsTurned", spec := "topKeepsTurned", inPlace := ["slices.overlaps[saltcellar/api.Write]", "slices.overlaps[saltcellar/api.Item]"], unfollowed := true, recurses := true, apart := false, narrowed := true }
def TopKeepsTurnedUptoSaid : Prop := topKeepsTurnedUptoRow.holds Try.pinned (OpenSpec.upto topKeepsTurnedSpec)

/-- 'saltcellartop.TopPutsTurned', WHERE WHAT IT READS IS OF BULK AT MOST 1048576: true; the input reads as it did. -/
def topPutsTurnedUptoRow : OpenClaim := { program := "ytkjgppmbbljbkaa", sum := "31dfc1a4f6dffc97ac26381813ec2e7faaa468ad2af46529b5f023d2745678e6", func := "saltcellar/saltcellartop.TopPutsTurned", spec := "topPutsTurned", inPlace := ["slices.overlaps[saltcellar/api.Write]", "slices.overlaps[saltcellar/api.Item]"], unfollowed := true, recurses := true, apart := false, narrowed := true }
def TopPutsTurnedUptoSaid : Prop := topPutsTurnedUptoRow.holds Try.pinned (OpenSpec.upto topPutsTurnedSpec)

/-- 'saltcellartop.TopBytesTurned', WHERE WHAT IT READS IS OF BULK AT MOST 1048576: true; the input reads as it did. -/
def topBytesTurnedUptoRow : OpenClaim := { program := "ytkjgppmbbljbkaa", sum := "31dfc1a4f6dffc97ac26381813ec2e7faaa468ad2af46529b5f023d2745678e6", func := "saltcellar/saltcellartop.TopBytesTurned", spec := "topBytesTurned", inPlace := ["slices.overlaps[saltcellar/api.Write]", "slices.overlaps[saltcellar/api.Item]"], unfollowed := true, recurses := true, apart := false, narrowed := true }
def TopBytesTurnedUptoSaid : Prop := topBytesTurnedUptoRow.holds Try.pinned (OpenSpec.upto topBytesTurnedSpec)

/-- 'saltcellartop.TopRoomMore', WHERE WHAT IT READS IS OF BULK AT MOST 1048576: true; the input reads as it did. -/
def topRoomMoreUptoRow : OpenClaim := { program := "ytkjgppmbbljbkaa", sum := "31dfc1a4f6dffc97ac26381813ec2e7faaa468ad2af46529b5f023d2745678e6", func := "saltcellar/saltcellartop.TopRoomMore", spec := "topRoomMore", inPlace := ["slices.overlaps[saltcellar/api.Write]", "slices.overlaps[saltcellar/api.Item]"], unfollowed := true, recurses := true, apart := false, narrowed := true }
def TopRoomMoreUptoSaid : Prop := topRoomMoreUptoRow.holds Try.pinned (OpenSpec.upto topRoomMoreSpec)

/-- 'saltcellartop.TopKeepsDropped', WHERE WHAT IT READS IS OF BULK AT MOST 1048576: true; the input reads as it did. -/
def topKeepsDroppedUptoRow : OpenClaim := { program := "ytkjgppmbbljbkaa", sum := "31dfc1a4f6dffc97ac26381813ec2e7faaa468ad2af46529b5f023d2745678e6", func := "saltcellar/saltcellartop.TopKeepsDropped", spec := "topKeepsDropped", inPlace := ["slices.overlaps[saltcellar/api.Write]", "slices.overlaps[saltcellar/api.Item]"], unfollowed := true, recurses := true, apart := false, narrowed := true }
def TopKeepsDroppedUptoSaid : Prop := topKeepsDroppedUptoRow.holds Try.pinned (OpenSpec.upto topKeepsDroppedSpec)

/-- 'saltcellartop.TopReadsMore', WHERE WHAT IT READS IS OF BULK AT MOST 1048576: true; the input reads as it did. -/
def topReadsMoreUptoRow : OpenClaim := { program := "ytkjgppmbbljbkaa", sum := "31dfc1a4f6dffc97ac26381813ec2e7faaa468ad2af46529b5f023d2745678e6", func := "saltcellar/saltcellartop.TopReadsMore", spec := "topReadsMore", inPlace := ["slices.overlaps[saltcellar/api.Write]", "slices.overlaps[saltcellar/api.Item]"], unfollowed := true, recurses := true, apart := false, narrowed := true }
def TopReadsMoreUptoSaid : Prop := topReadsMoreUptoRow.holds Try.pinned (OpenSpec.upto topReadsMoreSpec)

/-- 'saltcellartop.TopAbortedMore', WHERE WHAT IT READS IS OF BULK AT MOST 1048576: true; the input reads as it did. -/
def topAbortedMoreUptoRow : OpenClaim := { program := "ytkjgppmbbljbkaa", sum := "31dfc1a4f6dffc97ac26381813ec2e7faaa468ad2af46529b5f023d2745678e6", func := "saltcellar/saltcellartop.TopAbortedMore", spec := "topAbortedMore", inPlace := ["slices.overlaps[saltcellar/api.Write]", "slices.overlaps[saltcellar/api.Item]"], unfollowed := true, recurses := true, apart := false, narrowed := true }
def TopAbortedMoreUptoSaid : Prop := topAbortedMoreUptoRow.holds Try.pinned (OpenSpec.upto topAbortedMoreSpec)

/-- 'saltcellartop.TopTwiceMore', WHERE WHAT IT READS IS OF BULK AT MOST 1048576: true; the input reads as it did. -/
def topTwiceMoreUptoRow : OpenClaim := { program := "ytkjgppmbbljbkaa", sum := "31dfc1a4f6dffc97ac26381813ec2e7faaa468ad2af46529b5f023d2745678e6", func := "saltcellar/saltcellartop.TopTwiceMore", spec := "topTwiceMore", inPlace := ["slices.overlaps[saltcellar/api.Write]", "slices.overlaps[saltcellar/api.Item]"], unfollowed := true, recurses := true, apart := false, narrowed := true }
def TopTwiceMoreUptoSaid : Prop := topTwiceMoreUptoRow.holds Try.pinned (OpenSpec.upto topTwiceMoreSpec)

/-- 'saltcellartop.TopPutsLast', WHERE WHAT IT READS IS OF BULK AT MOST 1048576: true; the input reads as it did. -/
def topPutsLastUptoRow : OpenClaim := { program := "ytkjgppmbbljbkaa", sum := "31dfc1a4f6dffc97ac26381813ec2e7faaa468ad2af46529b5f023d2745678e6", func := "saltcellar/saltcellartop.TopPutsLast", spec := "topPutsLast", inPlace := ["slices.overlaps[saltcellar/api.Write]", "slices.overlaps[saltcellar/api.Item]"], unfollowed := true, recurses := true, apart := false, narrowed := true }
def TopPutsLastUptoSaid : Prop := topPutsLastUptoRow.holds Try.pinned (OpenSpec.upto topPutsLastSpec)

end Rows
end Go.Proofs.Ytkjgppmbbljbkaa

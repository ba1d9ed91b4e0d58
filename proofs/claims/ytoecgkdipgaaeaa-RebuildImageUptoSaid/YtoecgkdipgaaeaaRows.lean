/-
  No cell of these rows narrows 'for every input' (looked for: loops, veiled, ifaces, maps, wideKeys, modest, calm, conditions, laid).
  DERIVED. THE GIVEN ROWS OF THIS SEAT. 8 by the template 'for every input the law returns true; each argument reads behind the call as it read before'; 0 by the template 'total and deterministic' (their statements: YtoecgkdipgaaeaaTotals.lean).
  GIVEN WITH THE SEED: the statements are not yours to turn. If you find one false, say at which input.
  Laid BY PROGRAM, IN A SANDBOX (cutbox-rows.mjs): the forced cells as the released guide's own fill.sh prints them over the translation 77df384a711e9c13… (all of the seat's roots in one cut). By AI agents, Wed Nov 11 2026. No macro, syntax, notation, axiom, sorry.
-/
import Derived.Test.YtoecgkdipgaaeaaChecked
import GoSem.Claim
import GoSem.ClaimJoined
import GoSem.ClaimMapViews
import Derived.JoinedTies
import Derived.KernelRfl
namespace Go.Proofs.Ytoecgkdipgaaeaa
/- THE CELL 'sum', in the pinned program and in every row, IS THE sha256 OF THE DUMP (.gsa) THAT YtoecgkdipgaaeaaProg.lean LOADS. Nothing in Lean hashes anything: it is a label: what it is worth is what the hold of that sum in a sandbox is worth. -/
noncomputable def Try.pinned : Pinned := { name := "ytoecgkdipgaaeaa", sum := "77df384a711e9c13080b73dce19157a14f2bf3b27163f6ef4a59bd9e81f95561", checked := Try.checked }
namespace Rows
def none {H : Type} : Left H := { results := [], args := [] }

/-- 'cloisterlaw19.CommitNames': WHATEVER THE INPUT: true; the input reads as it did. -/
def commitNamesSpec : ChangeSpec := { name := "commitNames", fn := fun _ => fun
  | [] => { results := [.lit (.bool true)], args := [] }
  | _ => none }
def commitNamesRow : OpenClaim := { program := "ytoecgkdipgaaeaa", sum := "77df384a711e9c13080b73dce19157a14f2bf3b27163f6ef4a59bd9e81f95561", func := "cloister/cloisterlaw19.CommitNames", spec := "commitNames", unfollowed := true, recurses := true, apart := false }
def CommitNamesSaid : Prop := commitNamesRow.holds Try.pinned (OpenSpec.ofChange commitNamesSpec)

/-- ITS FALSE NEIGHBOUR: 'it returns false'. Refute it at one input. -/
def commitNamesWrong : ChangeSpec := { name := "commitNames", fn := fun _ => fun
  | [] => { results := [.lit (.bool false)], args := [] }
  | _ => none }
def CommitNamesWrongFalsely : Prop := commitNamesRow.holds Try.pinned (OpenSpec.ofChange commitNamesWrong)

/-- 'cloisterlaw19.CommitEntries': WHATEVER THE INPUT: true; the input reads as it did. -/
def commitEntriesSpec : ChangeSpec := { name := "commitEntries", fn := fun _ => fun
  | [d1, d2, d3] => { results := [.lit (.bool true)], args := [d1, d2, d3] }
  | _ => none }
def commitEntriesRow : OpenClaim := { program := "ytoecgkdipgaaeaa", sum := "77df384a711e9c13080b73dce19157a14f2bf3b27163f6ef4a59bd9e81f95561", func := "cloister/cloisterlaw19.CommitEntries", spec := "commitEntries", unfollowed := true, recurses := true, apart := false }
def CommitEntriesSaid : Prop := commitEntriesRow.holds Try.pinned (OpenSpec.ofChange commitEntriesSpec)

/-- ITS FALSE NEIGHBOUR: 'it returns false'. Refute it at one input. -/
def commitEntriesWrong : ChangeSpec := { name := "commitEntries", fn := fun _ => fun
  | [d1, d2, d3] => { results := [.lit (.bool false)], args := [d1, d2, d3] }
  | _ => none }
def CommitEntriesWrongFalsely : Prop := commitEntriesRow.holds Try.pinned (OpenSpec.ofChange commitEntriesWrong)

/-- 'cloisterlaw19.CommitKeeps': WHATEVER THE INPUT: true; the input reads as it did. -/
def commitKeepsSpec : ChangeSpec := { name := "commitKeeps", fn := fun _ => fun
  | [d1, d2] => { results := [.lit (.bool true)], args := [d1, d2] }
  | _ => none }
def commitKeepsRow : OpenClaim := { program := "ytoecgkdipgaaeaa", sum := "77df384a711e9c13080b73dce19157a14f2bf3b27163f6ef4a59bd9e81f95561", func := "cloister/cloisterlaw19.CommitKeeps", spec := "commitKeeps", unfollowed := true, recurses := true, apart := false }
def CommitKeepsSaid : Prop := commitKeepsRow.holds Try.pinned (OpenSpec.ofChange commitKeepsSpec)

/-- ITS FALSE NEIGHBOUR: 'it returns false'. Refute it at one input. -/
def commitKeepsWrong : ChangeSpec := { name := "commitKeeps", fn := fun _ => fun
  | [d1, d2] => { results := [.lit (.bool false)], args := [d1, d2] }
  | _ => none }
def CommitKeepsWrongFalsely : Prop := commitKeepsRow.holds Try.pinned (OpenSpec.ofChange commitKeepsWrong)

/-- 'cloisterlaw20.RebuildCheckpoint': WHATEVER THE INPUT: true; the input reads as it did. -/
def rebuildCheckpointSpec : ChangeSpec := { name := "rebuildCheckpoint", fn := fun _ => fun
  | [d1, d2, d3, d4] => { results := [.lit (.bool true)], args := [d1, d2, d3, d4] }
  | _ => none }
def rebuildCheckpointRow : OpenClaim := { program := "ytoecgkdipgaaeaa", sum := "77df384a711e9c13080b73dce19157a14f2bf3b27163f6ef4a59bd9e81f95561", func := "cloister/cloisterlaw20.RebuildCheckpoint", spec := "rebuildCheckpoint", unfollowed := true, recurses := true, apart := false }
def RebuildCheckpointSaid : Prop := rebuildCheckpointRow.holds Try.pinned (OpenSpec.ofChange rebuildCheckpointSpec)

/-- ITS FALSE NEIGHBOUR: 'it returns false'. Refute it at one input. -/
def rebuildCheckpointWrong : ChangeSpec := { name := "rebuildCheckpoint", fn := fun _ => fun
  | [d1, d2, d3, d4] => { results := [.lit (.bool false)], args := [d1, d2, d3, d4] }
  | _ => none }
def RebuildCheckpointWrongFalsely : Prop := rebuildCheckpointRow.holds Try.pinned (OpenSpec.ofChange rebuildCheckpointWrong)

/-- 'cloisterlaw20.RebuildBeginnings': WHATEVER THE INPUT: true; the input reads as it did. -/
def rebuildBeginningsSpec : ChangeSpec := { name := "rebuildBeginnings", fn := fun _ => fun
  | [d1, d2] => { results := [.lit (.bool true)], args := [d1, d2] }
  | _ => none }
def rebuildBeginningsRow : OpenClaim := { program := "ytoecgkdipgaaeaa", sum := "77df384a711e9c13080b73dce19157a14f2bf3b27163f6ef4a59bd9e81f95561", func := "cloister/cloisterlaw20.RebuildBeginnings", spec := "rebuildBeginnings", unfollowed := true, recurses := true, apart := false }
def RebuildBeginningsSaid : Prop := rebuildBeginningsRow.holds Try.pinned (OpenSpec.ofChange rebuildBeginningsSpec)

/-- ITS FALSE NEIGHBOUR: 'it returns false'. Refute it at one input. -/
def rebuildBeginningsWrong : ChangeSpec := { name := "rebuildBeginnings", fn := fun _ => fun
  | [d1, d2] => { results := [.lit (.bool false)], args := [d1, d2] }
  | _ => none }
def RebuildBeginningsWrongFalsely : Prop := rebuildBeginningsRow.holds Try.pinned (OpenSpec.ofChange rebuildBeginningsWrong)

/-- 'cloisterlaw20.RebuildImage': WHATEVER THE INPUT: true; the input reads as it did. -/
def rebuildImageSpec : ChangeSpec := { name := "rebuildImage", fn := fun _ => fun
  | [d1, d2] => { results := [.lit (.bool true)], args := [d1, d2] }
  | _ => none }
def rebuildImageRow : OpenClaim := { program := "ytoecgkdipgaaeaa", sum := "77df384a711e9c13080b73dce19157a14f2bf3b27163f6ef4a59bd9e81f95561", func := "cloister/cloisterlaw20.RebuildImage", spec := "rebuildImage", unfollowed := true, recurses := true, apart := false }
def RebuildImageSaid : Prop := rebuildImageRow.holds Try.pinned (OpenSpec.ofChange rebuildImageSpec)

/-- ITS FALSE NEIGHBOUR: 'it returns false'. Refute it at one input. -/
def rebuildImageWrong : ChangeSpec := { name := "rebuildImage", fn := fun _ => fun
  | [d1, d2] => { results := [.lit (.bool false)], args := [d1, d2] }
  | _ => none }
def RebuildImageWrongFalsely : Prop := rebuildImageRow.holds Try.pinned (OpenSpec.ofChange rebuildImageWrong)

/-- 'cloisterlaw20.RebuildReads': WHATEVER THE INPUT: true; the input reads as it did. -/
def rebuildReadsSpec : ChangeSpec := { name := "rebuildReads", fn := fun _ => fun
  | [d1, d2] => { results := [.lit (.bool true)], args := [d1, d2] }
  | _ => none }
def rebuildReadsRow : OpenClaim := { program := "ytoecgkdipgaaeaa", sum := "77df384a711e9c13080b73dce19157a14f2bf3b27163f6ef4a59bd9e81f95561", func := "cloister/cloisterlaw20.RebuildReads", spec := "rebuildReads", unfollowed := true, recurses := true, apart := false }
def RebuildReadsSaid : Prop := rebuildReadsRow.holds Try.pinned (OpenSpec.ofChange rebuildReadsSpec)

/-- ITS FALSE NEIGHBOUR: 'it returns false'. Refute it at one input. -/
def rebuildReadsWrong : ChangeSpec := { name := "rebuildReads", fn := fun _ => fun
  | [d1, d2] => { results := [.lit (.bool false)], args := [d1, d2] }
  | _ => none }
def RebuildReadsWrongFalsely : Prop := rebuildReadsRow.holds Try.pinned (OpenSpec.ofChange rebuildReadsWrong)

/-- 'cloisterlaw20.RebuildBehind': WHATEVER THE INPUT: true; the input reads as it did. -/
def rebuildBehindSpec : ChangeSpec := { name := "rebuildBehind", fn := fun _ => fun
  | [d1, d2, d3] => { results := [.lit (.bool true)], args := [d1, d2, d3] }
  | _ => none }
def rebuildBehindRow : OpenClaim := { program := "ytoecgkdipgaaeaa", sum := "77df384a711e9c13080b73dce19157a14f2bf3b27163f6ef4a59bd9e81f95561", func := "cloister/cloisterlaw20.RebuildBehind", spec := "rebuildBehind", unfollowed := true, recurses := true, apart := false }
def RebuildBehindSaid : Prop := rebuildBehindRow.holds Try.pinned (OpenSpec.ofChange rebuildBehindSpec)

/-- ITS FALSE NEIGHBOUR: 'it returns false'. Refute it at one input. -/
def rebuildBehindWrong : ChangeSpec := { name := "rebuildBehind", fn := fun _ => fun
  | [d1, d2, d3] => { results := [.lit (.bool false)], args := [d1, d2, d3] }
  | _ => none }
def RebuildBehindWrongFalsely : Prop := rebuildBehindRow.holds Try.pinned (OpenSpec.ofChange rebuildBehindWrong)

/- THE SECOND FORM. 'bulk': how many values and letters a reading holds, each counted each time it is reached (what is shared counts as often as it is met; a slice's spare places count too). A statement '..UptoSaid' is the law's where the arguments, and the package variables that the reading takes, are together of bulk at most 1048576: NARROWER than '..Said'. Prove '..Said' where nothing that the law and all that it calls make is longer than what came in: it says more and counts as full. Else prove '..UptoSaid'. A law counts once. -/
mutual
def uptoBulk {H : Type} : DataW H → Nat
  | .lit (.string bytes) => bytes.length + 1
  | .lit _ => 1
  | .nil => 1
  | .ptr d => uptoBulk d + 1
  | .slice elems spare => uptoBulkAll elems + uptoBulkAll spare + 1
  | .agg parts => uptoBulkAll parts + 1
  | .iface _ d => uptoBulk d + 1
  | .map entries => uptoBulkEntries entries + 1
  | .held _ => 1
def uptoBulkAll {H : Type} : List (DataW H) → Nat
  | [] => 0
  | d :: r => uptoBulk d + uptoBulkAll r
def uptoBulkEntries {H : Type} : List (Lit × DataW H) → Nat
  | [] => 0
  | x :: r => uptoBulkEntry x + uptoBulkEntries r
def uptoBulkEntry {H : Type} : Lit × DataW H → Nat
  | (.string bytes, d) => bytes.length + uptoBulk d + 1
  | (_, d) => uptoBulk d + 1
 end
def uptoSmall : (H : Type) → List (DataW H) → Bool := fun _ ds => decide (uptoBulkAll ds ≤ 1048576)
def OpenSpec.upto (s : _root_.Go.ChangeSpec) : _root_.Go.OpenSpec := { _root_.Go.OpenSpec.ofChange s with cond := some uptoSmall }

/-- 'cloisterlaw19.CommitNames', WHERE WHAT IT READS IS OF BULK AT MOST 1048576: true; the input reads as it did. -/
def commitNamesUptoRow : OpenClaim := { program := "ytoecgkdipgaaeaa", sum := "77df384a711e9c13080b73dce19157a14f2bf3b27163f6ef4a59bd9e81f95561", func := "cloister/cloisterlaw19.CommitNames", spec := "commitNames", unfollowed := true, recurses := true, apart := false, narrowed := true }
def CommitNamesUptoSaid : Prop := commitNamesUptoRow.holds Try.pinned (OpenSpec.upto commitNamesSpec)

/-- 'cloisterlaw19.CommitEntries', WHERE WHAT IT READS IS OF BULK AT MOST 1048576: true; the input reads as it did. -/
def commitEntriesUptoRow : OpenClaim := { program := "ytoecgkdipgaaeaa", sum := "77df384a711e9c13080b73dce19157a14f2bf3b27163f6ef4a59bd9e81f95561", func := "cloister/cloisterlaw19.CommitEntries", spec := "commitEntries", unfollowed := true, recurses := true, apart := false, narrowed := true }
def CommitEntriesUptoSaid : Prop := commitEntriesUptoRow.holds Try.pinned (OpenSpec.upto commitEntriesSpec)

/-- 'cloisterlaw19.CommitKeeps', WHERE WHAT IT READS IS OF BULK AT MOST 1048576: true; the input reads as it did. -/
def commitKeepsUptoRow : OpenClaim := { program := "ytoecgkdipgaaeaa", sum := "77df384a711e9c13080b73dce19157a14f2bf3b27163f6ef4a59bd9e81f95561", func := "cloister/cloisterlaw19.CommitKeeps", spec := "commitKeeps", unfollowed := true, recurses := true, apart := false, narrowed := true }
def CommitKeepsUptoSaid : Prop := commitKeepsUptoRow.holds Try.pinned (OpenSpec.upto commitKeepsSpec)

/-- 'cloisterlaw20.RebuildCheckpoint', WHERE WHAT IT READS IS OF BULK AT MOST 1048576: true; the input reads as it did. -/
def rebuildCheckpointUptoRow : OpenClaim := { program := "ytoecgkdipgaaeaa", sum := "77df384a711e9c13080b73dce19157a14f2bf3b27163f6ef4a59bd9e81f95561", func := "cloister/cloisterlaw20.RebuildCheckpoint", spec := "rebuildCheckpoint", unfollowed := true, recurses := true, apart := false, narrowed := true }
def RebuildCheckpointUptoSaid : Prop := rebuildCheckpointUptoRow.holds Try.pinned (OpenSpec.upto rebuildCheckpointSpec)

/-- 'cloisterlaw20.RebuildBeginnings', WHERE WHAT IT READS IS OF BULK AT MOST 1048576: true; the input reads as it did. -/
def rebuildBeginningsUptoRow : OpenClaim := { program := "ytoecgkdipgaaeaa", sum := "77df384a711e9c13080b73dce19157a14f2bf3b27163f6ef4a59bd9e81f95561", func := "cloister/cloisterlaw20.RebuildBeginnings", spec := "rebuildBeginnings", unfollowed := true, recurses := true, apart := false, narrowed := true }
def RebuildBeginningsUptoSaid : Prop := rebuildBeginningsUptoRow.holds Try.pinned (OpenSpec.upto rebuildBeginningsSpec)

/-- 'cloisterlaw20.RebuildImage', WHERE WHAT IT READS IS OF BULK AT MOST 1048576: true; the input reads as it did. -/
def rebuildImageUptoRow : OpenClaim := { program := "ytoecgkdipgaaeaa", sum := "77df384a711e9c13080b73dce19157a14f2bf3b27163f6ef4a59bd9e81f95561", func := "cloister/cloisterlaw20.RebuildImage", spec := "rebuildImage", unfollowed := true, recurses := true, apart := false, narrowed := true }
def RebuildImageUptoSaid : Prop := rebuildImageUptoRow.holds Try.pinned (OpenSpec.upto rebuildImageSpec)

/-- 'cloisterlaw20.RebuildReads', WHERE WHAT IT READS IS OF BULK AT MOST 1048576: true; the input reads as it did. -/
def rebuildReadsUptoRow : OpenClaim := { program := "ytoecgkdipgaaeaa", sum := "77df384a711e9c13080b73dce19157a14f2bf3b27163f6ef4a59bd9e81f95561", func := "cloister/cloisterlaw20.RebuildReads", spec := "rebuildReads", unfollowed := true, recurses := true, apart := false, narrowed := true }
def RebuildReadsUptoSaid : Prop := rebuildReadsUptoRow.holds Try.pinned (OpenSpec.upto rebuildReadsSpec)

/-- 'cloisterlaw20.RebuildBehind', WHERE WHAT IT READS IS OF BULK AT MOST 1048576: true; the input reads as it did. -/
def rebuildBehindUptoRow : OpenClaim := { program := "ytoecgkdipgaaeaa", sum := "77df384a711e9c13080b73dce19157a14f2bf3b27163f6ef4a59bd9e81f95561", func := "cloister/cloisterlaw20.RebuildBehind", spec := "rebuildBehind", unfollowed := true, recurses := true, apart := false, narrowed := true }
def RebuildBehindUptoSaid : Prop := rebuildBehindUptoRow.holds Try.pinned (OpenSpec.upto rebuildBehindSpec)

end Rows
end Go.Proofs.Ytoecgkdipgaaeaa

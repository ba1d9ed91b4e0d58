/-
  No cell of these rows narrows 'for every input' (looked for: loops, veiled, ifaces, maps, wideKeys, modest, calm, conditions, laid).
  DERIVED. THE GIVEN ROWS OF THIS SEAT. 10 by the template 'for every input the law returns true; each argument reads behind the call as it read before'; 0 by the template 'total and deterministic' (their statements: YtmnpchncmbnddaaGreatTotals.lean).
  GIVEN WITH THE SEED: the statements are not yours to turn. If you find one false, say at which input.
  Laid BY PROGRAM, IN A SANDBOX (cutbox-rows.mjs): the forced cells as the released guide's own fill.sh prints them over the translation 79dfe15d98b7f837… (all of the seat's roots in one cut). By AI agents, Wed Nov 11 2026. No macro, syntax, notation, axiom, sorry.
-/
import Derived.Test.YtmnpchncmbnddaaGreatChecked
import GoSem.Claim
import GoSem.ClaimJoined
import GoSem.ClaimMapViews
import Derived.JoinedTies
import Derived.KernelRfl
namespace Go.Proofs.YtmnpchncmbnddaaGreat
/- THE CELL 'sum', in the pinned program and in every row, IS THE sha256 OF THE DUMP (.gsa) THAT YtmnpchncmbnddaaGreatProg.lean LOADS. Nothing in Lean hashes anything: it is a label: what it is worth is what the hold of that sum in a sandbox is worth. -/
noncomputable def Tryz.pinned : Pinned := { name := "ytmnpchncmbnddaagreat", sum := "79dfe15d98b7f8377cdedff1a327e772070657480be76ed2a50483af7c08378c", checked := Tryz.checked }
namespace Rows
def none {H : Type} : Left H := { results := [], args := [] }

/-- 'cloisterlaw19.CommitFirst': WHATEVER THE INPUT: true; the input reads as it did. -/
def commitFirstSpec : ChangeSpec := { name := "commitFirst", fn := fun _ => fun
  | [d1, d2, d3] => { results := [.lit (.bool true)], args := [d1, d2, d3] }
  | _ => none }
def commitFirstRow : OpenClaim := { program := "ytmnpchncmbnddaagreat", sum := "79dfe15d98b7f8377cdedff1a327e772070657480be76ed2a50483af7c08378c", func := "cloister/cloisterlaw19.CommitFirst", spec := "commitFirst", unfollowed := true, recurses := true, apart := false }
def CommitFirstSaid : Prop := commitFirstRow.holds Tryz.pinned (OpenSpec.ofChange commitFirstSpec)

/-- ITS FALSE NEIGHBOUR: 'it returns false'. Refute it at one input. -/
def commitFirstWrong : ChangeSpec := { name := "commitFirst", fn := fun _ => fun
  | [d1, d2, d3] => { results := [.lit (.bool false)], args := [d1, d2, d3] }
  | _ => none }
def CommitFirstWrongFalsely : Prop := commitFirstRow.holds Tryz.pinned (OpenSpec.ofChange commitFirstWrong)

/-- 'cloisterlaw11.WalDoes': WHATEVER THE INPUT: true; the input reads as it did. -/
def walDoesSpec : ChangeSpec := { name := "walDoes", fn := fun _ => fun
  | [d1, d2] => { results := [.lit (.bool true)], args := [d1, d2] }
  | _ => none }
def walDoesRow : OpenClaim := { program := "ytmnpchncmbnddaagreat", sum := "79dfe15d98b7f8377cdedff1a327e772070657480be76ed2a50483af7c08378c", func := "cloister/cloisterlaw11.WalDoes", spec := "walDoes", unfollowed := true, recurses := true, apart := false }
def WalDoesSaid : Prop := walDoesRow.holds Tryz.pinned (OpenSpec.ofChange walDoesSpec)

/-- ITS FALSE NEIGHBOUR: 'it returns false'. Refute it at one input. -/
def walDoesWrong : ChangeSpec := { name := "walDoes", fn := fun _ => fun
  | [d1, d2] => { results := [.lit (.bool false)], args := [d1, d2] }
  | _ => none }
def WalDoesWrongFalsely : Prop := walDoesRow.holds Tryz.pinned (OpenSpec.ofChange walDoesWrong)

/-- 'cloisterlaw19.CommitLogged': WHATEVER THE INPUT: true; the input reads as it did. -/
def commitLoggedSpec : ChangeSpec := { name := "commitLogged", fn := fun _ => fun
  | [d1, d2, d3] => { results := [.lit (.bool true)], args := [d1, d2, d3] }
  | _ => none }
def commitLoggedRow : OpenClaim := { program := "ytmnpchncmbnddaagreat", sum := "79dfe15d98b7f8377cdedff1a327e772070657480be76ed2a50483af7c08378c", func := "cloister/cloisterlaw19.CommitLogged", spec := "commitLogged", unfollowed := true, recurses := true, apart := false }
def CommitLoggedSaid : Prop := commitLoggedRow.holds Tryz.pinned (OpenSpec.ofChange commitLoggedSpec)

/-- ITS FALSE NEIGHBOUR: 'it returns false'. Refute it at one input. -/
def commitLoggedWrong : ChangeSpec := { name := "commitLogged", fn := fun _ => fun
  | [d1, d2, d3] => { results := [.lit (.bool false)], args := [d1, d2, d3] }
  | _ => none }
def CommitLoggedWrongFalsely : Prop := commitLoggedRow.holds Tryz.pinned (OpenSpec.ofChange commitLoggedWrong)

/-- 'cloisterlaw19.CommitNone': WHATEVER THE INPUT: true; the input reads as it did. -/
def commitNoneSpec : ChangeSpec := { name := "commitNone", fn := fun _ => fun
  | [d1, d2] => { results := [.lit (.bool true)], args := [d1, d2] }
  | _ => none }
def commitNoneRow : OpenClaim := { program := "ytmnpchncmbnddaagreat", sum := "79dfe15d98b7f8377cdedff1a327e772070657480be76ed2a50483af7c08378c", func := "cloister/cloisterlaw19.CommitNone", spec := "commitNone", unfollowed := true, recurses := true, apart := false }
def CommitNoneSaid : Prop := commitNoneRow.holds Tryz.pinned (OpenSpec.ofChange commitNoneSpec)

/-- ITS FALSE NEIGHBOUR: 'it returns false'. Refute it at one input. -/
def commitNoneWrong : ChangeSpec := { name := "commitNone", fn := fun _ => fun
  | [d1, d2] => { results := [.lit (.bool false)], args := [d1, d2] }
  | _ => none }
def CommitNoneWrongFalsely : Prop := commitNoneRow.holds Tryz.pinned (OpenSpec.ofChange commitNoneWrong)

/-- 'cloisterlaw20.RebuildNone': WHATEVER THE INPUT: true; the input reads as it did. -/
def rebuildNoneSpec : ChangeSpec := { name := "rebuildNone", fn := fun _ => fun
  | [d] => { results := [.lit (.bool true)], args := [d] }
  | _ => none }
def rebuildNoneRow : OpenClaim := { program := "ytmnpchncmbnddaagreat", sum := "79dfe15d98b7f8377cdedff1a327e772070657480be76ed2a50483af7c08378c", func := "cloister/cloisterlaw20.RebuildNone", spec := "rebuildNone", unfollowed := true, recurses := true, apart := false }
def RebuildNoneSaid : Prop := rebuildNoneRow.holds Tryz.pinned (OpenSpec.ofChange rebuildNoneSpec)

/-- ITS FALSE NEIGHBOUR: 'it returns false'. Refute it at one input. -/
def rebuildNoneWrong : ChangeSpec := { name := "rebuildNone", fn := fun _ => fun
  | [d] => { results := [.lit (.bool false)], args := [d] }
  | _ => none }
def RebuildNoneWrongFalsely : Prop := rebuildNoneRow.holds Tryz.pinned (OpenSpec.ofChange rebuildNoneWrong)

/-- 'cloisterlaw20.RebuildOnce': WHATEVER THE INPUT: true; the input reads as it did. -/
def rebuildOnceSpec : ChangeSpec := { name := "rebuildOnce", fn := fun _ => fun
  | [d1, d2] => { results := [.lit (.bool true)], args := [d1, d2] }
  | _ => none }
def rebuildOnceRow : OpenClaim := { program := "ytmnpchncmbnddaagreat", sum := "79dfe15d98b7f8377cdedff1a327e772070657480be76ed2a50483af7c08378c", func := "cloister/cloisterlaw20.RebuildOnce", spec := "rebuildOnce", unfollowed := true, recurses := true, apart := false }
def RebuildOnceSaid : Prop := rebuildOnceRow.holds Tryz.pinned (OpenSpec.ofChange rebuildOnceSpec)

/-- ITS FALSE NEIGHBOUR: 'it returns false'. Refute it at one input. -/
def rebuildOnceWrong : ChangeSpec := { name := "rebuildOnce", fn := fun _ => fun
  | [d1, d2] => { results := [.lit (.bool false)], args := [d1, d2] }
  | _ => none }
def RebuildOnceWrongFalsely : Prop := rebuildOnceRow.holds Tryz.pinned (OpenSpec.ofChange rebuildOnceWrong)

/-- 'cloisterlaw20.RebuildFresh': WHATEVER THE INPUT: true; the input reads as it did. -/
def rebuildFreshSpec : ChangeSpec := { name := "rebuildFresh", fn := fun _ => fun
  | [d1, d2] => { results := [.lit (.bool true)], args := [d1, d2] }
  | _ => none }
def rebuildFreshRow : OpenClaim := { program := "ytmnpchncmbnddaagreat", sum := "79dfe15d98b7f8377cdedff1a327e772070657480be76ed2a50483af7c08378c", func := "cloister/cloisterlaw20.RebuildFresh", spec := "rebuildFresh", unfollowed := true, recurses := true, apart := false }
def RebuildFreshSaid : Prop := rebuildFreshRow.holds Tryz.pinned (OpenSpec.ofChange rebuildFreshSpec)

/-- ITS FALSE NEIGHBOUR: 'it returns false'. Refute it at one input. -/
def rebuildFreshWrong : ChangeSpec := { name := "rebuildFresh", fn := fun _ => fun
  | [d1, d2] => { results := [.lit (.bool false)], args := [d1, d2] }
  | _ => none }
def RebuildFreshWrongFalsely : Prop := rebuildFreshRow.holds Tryz.pinned (OpenSpec.ofChange rebuildFreshWrong)

/-- 'cloisterlaw19.CommitRuns': WHATEVER THE INPUT: true; the input reads as it did. -/
def commitRunsSpec : ChangeSpec := { name := "commitRuns", fn := fun _ => fun
  | [d1, d2, d3] => { results := [.lit (.bool true)], args := [d1, d2, d3] }
  | _ => none }
def commitRunsRow : OpenClaim := { program := "ytmnpchncmbnddaagreat", sum := "79dfe15d98b7f8377cdedff1a327e772070657480be76ed2a50483af7c08378c", func := "cloister/cloisterlaw19.CommitRuns", spec := "commitRuns", unfollowed := true, recurses := true, apart := false }
def CommitRunsSaid : Prop := commitRunsRow.holds Tryz.pinned (OpenSpec.ofChange commitRunsSpec)

/-- ITS FALSE NEIGHBOUR: 'it returns false'. Refute it at one input. -/
def commitRunsWrong : ChangeSpec := { name := "commitRuns", fn := fun _ => fun
  | [d1, d2, d3] => { results := [.lit (.bool false)], args := [d1, d2, d3] }
  | _ => none }
def CommitRunsWrongFalsely : Prop := commitRunsRow.holds Tryz.pinned (OpenSpec.ofChange commitRunsWrong)

/-- 'cloisterlaw20.RebuildStruck': WHATEVER THE INPUT: true; the input reads as it did. -/
def rebuildStruckSpec : ChangeSpec := { name := "rebuildStruck", fn := fun _ => fun
  | [d1, d2, d3] => { results := [.lit (.bool true)], args := [d1, d2, d3] }
  | _ => none }
def rebuildStruckRow : OpenClaim := { program := "ytmnpchncmbnddaagreat", sum := "79dfe15d98b7f8377cdedff1a327e772070657480be76ed2a50483af7c08378c", func := "cloister/cloisterlaw20.RebuildStruck", spec := "rebuildStruck", unfollowed := true, recurses := true, apart := false }
def RebuildStruckSaid : Prop := rebuildStruckRow.holds Tryz.pinned (OpenSpec.ofChange rebuildStruckSpec)

/-- ITS FALSE NEIGHBOUR: 'it returns false'. Refute it at one input. -/
def rebuildStruckWrong : ChangeSpec := { name := "rebuildStruck", fn := fun _ => fun
  | [d1, d2, d3] => { results := [.lit (.bool false)], args := [d1, d2, d3] }
  | _ => none }
def RebuildStruckWrongFalsely : Prop := rebuildStruckRow.holds Tryz.pinned (OpenSpec.ofChange rebuildStruckWrong)

/-- 'cloisterlaw20.RebuildLogs': WHATEVER THE INPUT: true; the input reads as it did. -/
def rebuildLogsSpec : ChangeSpec := { name := "rebuildLogs", fn := fun _ => fun
  | [d1, d2, d3, d4, d5] => { results := [.lit (.bool true)], args := [d1, d2, d3, d4, d5] }
  | _ => none }
def rebuildLogsRow : OpenClaim := { program := "ytmnpchncmbnddaagreat", sum := "79dfe15d98b7f8377cdedff1a327e772070657480be76ed2a50483af7c08378c", func := "cloister/cloisterlaw20.RebuildLogs", spec := "rebuildLogs", unfollowed := true, recurses := true, apart := false }
def RebuildLogsSaid : Prop := rebuildLogsRow.holds Tryz.pinned (OpenSpec.ofChange rebuildLogsSpec)

/-- ITS FALSE NEIGHBOUR: 'it returns false'. Refute it at one input. -/
def rebuildLogsWrong : ChangeSpec := { name := "rebuildLogs", fn := fun _ => fun
  | [d1, d2, d3, d4, d5] => { results := [.lit (.bool false)], args := [d1, d2, d3, d4, d5] }
  | _ => none }
def RebuildLogsWrongFalsely : Prop := rebuildLogsRow.holds Tryz.pinned (OpenSpec.ofChange rebuildLogsWrong)

/- THE SECOND FORM. 'bulk': how many values and letters a reading holds, each counted each time it is reached (what is shared counts as often as it is met; a slice's spare places count too). A statement '..UptoSaid' is the law's where the arguments, and the package variables that the reading takes, are together of bulk at most 1048576: NARROWER than '..Said'. Prove '..Said' where nothing that the law and all that it calls make is longer than what came in: it says more and counts as full. Else prove '..UptoSaid'. A law counts once. -/
mutual
def uptoBulk {H : Type} : DataW H → Nat
  | .lit (.string bytes) => bytes.length + 1
  | .lit _ => 1
  | .nil => 1
  | .ptr d => uptoBulk d + 1
  | .slice elems spare => uptoBulkAll elems + uptoBulkAll spare + 1
  | .agg parts => uptoBulkAll parts + 1
  | .iface _ d => uptoBulk d + 1
  | .map entries => uptoBulkEntries entries + 1
  | .held _ => 1
def uptoBulkAll {H : Type} : List (DataW H) → Nat
  | [] => 0
  | d :: r => uptoBulk d + uptoBulkAll r
def uptoBulkEntries {H : Type} : List (Lit × DataW H) → Nat
  | [] => 0
  | x :: r => uptoBulkEntry x + uptoBulkEntries r
def uptoBulkEntry {H : Type} : Lit × DataW H → Nat
  | (.string bytes, d) => bytes.length + uptoBulk d + 1
  | (_, d) => uptoBulk d + 1
 end
def uptoSmall : (H : Type) → List (DataW H) → Bool := fun _ ds => decide (uptoBulkAll ds ≤ 1048576)
def OpenSpec.upto (s : _root_.Go.ChangeSpec) : _root_.Go.OpenSpec := { _root_.Go.OpenSpec.ofChange s with cond := some uptoSmall }

/-- 'cloisterlaw19.CommitFirst', WHERE WHAT IT READS IS OF BULK AT MOST 1048576: true; the input reads as it did. -/
def commitFirstUptoRow : OpenClaim := { program := "ytmnpchncmbnddaagreat", sum := "79dfe15d98b7f8377cdedff1a327e772070657480be76ed2a50483af7c08378c", func := "cloister/cloisterlaw19.CommitFirst", spec := "commitFirst", unfollowed := true, recurses := true, apart := false, narrowed := true }
def CommitFirstUptoSaid : Prop := commitFirstUptoRow.holds Tryz.pinned (OpenSpec.upto commitFirstSpec)

/-- 'cloisterlaw11.WalDoes', WHERE WHAT IT READS IS OF BULK AT MOST 1048576: true; the input reads as it did. -/
def walDoesUptoRow : OpenClaim := { program := "ytmnpchncmbnddaagreat", sum := "79dfe15d98b7f8377cdedff1a327e772070657480be76ed2a50483af7c08378c", func := "cloister/cloisterlaw11.WalDoes", spec := "walDoes", unfollowed := true, recurses := true, apart := false, narrowed := true }
def WalDoesUptoSaid : Prop := walDoesUptoRow.holds Tryz.pinned (OpenSpec.upto walDoesSpec)

/-- 'cloisterlaw19.CommitLogged', WHERE WHAT IT READS IS OF BULK AT MOST 1048576: true; the input reads as it did. -/
def commitLoggedUptoRow : OpenClaim := { program := "ytmnpchncmbnddaagreat", sum := "79dfe15d98b7f8377cdedff1a327e772070657480be76ed2a50483af7c08378c", func := "cloister/cloisterlaw19.CommitLogged", spec := "commitLogged", unfollowed := true, recurses := true, apart := false, narrowed := true }
def CommitLoggedUptoSaid : Prop := commitLoggedUptoRow.holds Tryz.pinned (OpenSpec.upto commitLoggedSpec)

/-- 'cloisterlaw19.CommitNone', WHERE WHAT IT READS IS OF BULK AT MOST 1048576: true; the input reads as it did. -/
def commitNoneUptoRow : OpenClaim := { program := "ytmnpchncmbnddaagreat", sum := "79dfe15d98b7f8377cdedff1a327e772070657480be76ed2a50483af7c08378c", func := "cloister/cloisterlaw19.CommitNone", spec := "commitNone", unfollowed := true, recurses := true, apart := false, narrowed := true }
def CommitNoneUptoSaid : Prop := commitNoneUptoRow.holds Tryz.pinned (OpenSpec.upto commitNoneSpec)

/-- 'cloisterlaw20.RebuildNone', WHERE WHAT IT READS IS OF BULK AT MOST 1048576: true; the input reads as it did. -/
def rebuildNoneUptoRow : OpenClaim := { program := "ytmnpchncmbnddaagreat", sum := "79dfe15d98b7f8377cdedff1a327e772070657480be76ed2a50483af7c08378c", func := "cloister/cloisterlaw20.RebuildNone", spec := "rebuildNone", unfollowed := true, recurses := true, apart := false, narrowed := true }
def RebuildNoneUptoSaid : Prop := rebuildNoneUptoRow.holds Tryz.pinned (OpenSpec.upto rebuildNoneSpec)

/-- 'cloisterlaw20.RebuildOnce', WHERE WHAT IT READS IS OF BULK AT MOST 1048576: true; the input reads as it did. -/
def rebuildOnceUptoRow : OpenClaim := { program := "ytmnpchncmbnddaagreat", sum := "79dfe15d98b7f8377cdedff1a327e772070657480be76ed2a50483af7c08378c", func := "cloister/cloisterlaw20.RebuildOnce", spec := "rebuildOnce", unfollowed := true, recurses := true, apart := false, narrowed := true }
def RebuildOnceUptoSaid : Prop := rebuildOnceUptoRow.holds Tryz.pinned (OpenSpec.upto rebuildOnceSpec)

/-- 'cloisterlaw20.RebuildFresh', WHERE WHAT IT READS IS OF BULK AT MOST 1048576: true; the input reads as it did. -/
def rebuildFreshUptoRow : OpenClaim := { program := "ytmnpchncmbnddaagreat", sum := "79dfe15d98b7f8377cdedff1a327e772070657480be76ed2a50483af7c08378c", func := "cloister/cloisterlaw20.RebuildFresh", spec := "rebuildFresh", unfollowed := true, recurses := true, apart := false, narrowed := true }
def RebuildFreshUptoSaid : Prop := rebuildFreshUptoRow.holds Tryz.pinned (OpenSpec.upto rebuildFreshSpec)

/-- 'cloisterlaw19.CommitRuns', WHERE WHAT IT READS IS OF BULK AT MOST 1048576: true; the input reads as it did. -/
def commitRunsUptoRow : OpenClaim := { program := "ytmnpchncmbnddaagreat", sum := "79dfe15d98b7f8377cdedff1a327e772070657480be76ed2a50483af7c08378c", func := "cloister/cloisterlaw19.CommitRuns", spec := "commitRuns", unfollowed := true, recurses := true, apart := false, narrowed := true }
def CommitRunsUptoSaid : Prop := commitRunsUptoRow.holds Tryz.pinned (OpenSpec.upto commitRunsSpec)

/-- 'cloisterlaw20.RebuildStruck', WHERE WHAT IT READS IS OF BULK AT MOST 1048576: true; the input reads as it did. -/
def rebuildStruckUptoRow : OpenClaim := { program := "ytmnpchncmbnddaagreat", sum := "79dfe15d98b7f8377cdedff1a327e772070657480be76ed2a50483af7c08378c", func := "cloister/cloisterlaw20.RebuildStruck", spec := "rebuildStruck", unfollowed := true, recurses := true, apart := false, narrowed := true }
def RebuildStruckUptoSaid : Prop := rebuildStruckUptoRow.holds Tryz.pinned (OpenSpec.upto rebuildStruckSpec)

/-- 'cloisterlaw20.RebuildLogs', WHERE WHAT IT READS IS OF BULK AT MOST 1048576: true; the input reads as it did. -/
def rebuildLogsUptoRow : OpenClaim := { program := "ytmnpchncmbnddaagreat", sum := "79dfe15d98b7f8377cdedff1a327e772070657480be76ed2a50483af7c08378c", func := "cloister/cloisterlaw20.RebuildLogs", spec := "rebuildLogs", unfollowed := true, recurses := true, apart := false, narrowed := true }
def RebuildLogsUptoSaid : Prop := rebuildLogsUptoRow.holds Tryz.pinned (OpenSpec.upto rebuildLogsSpec)

end Rows
end Go.Proofs.YtmnpchncmbnddaaGreat

/-
  No cell of these rows narrows 'for every input' (looked for: loops, veiled, ifaces, maps, wideKeys, modest, calm, conditions, laid).
  DERIVED. THE GIVEN ROWS OF THIS SEAT. 2 by the template 'for every input the law returns true; each argument reads behind the call as it read before'; 0 by the template 'total and deterministic' (their statements: YtmnpchncmbnddaaTotals.lean).
  GIVEN WITH THE SEED: the statements are not yours to turn. If you find one false, say at which input.
  Laid BY PROGRAM, IN A SANDBOX (cutbox-rows.mjs): the forced cells as the released guide's own fill.sh prints them over the translation 8e00c8831de32773… (all of the seat's roots in one cut). By AI agents, Wed Nov 11 2026. No macro, syntax, notation, axiom, sorry.
-/
import Derived.Test.YtmnpchncmbnddaaChecked
import GoSem.Claim
import GoSem.ClaimJoined
import GoSem.ClaimMapViews
import Derived.JoinedTies
import Derived.KernelRfl
namespace Go.Proofs.Ytmnpchncmbnddaa
/- THE CELL 'sum', in the pinned program and in every row, IS THE sha256 OF THE DUMP (.gsa) THAT YtmnpchncmbnddaaProg.lean LOADS. Nothing in Lean hashes anything: it is a label: what it is worth is what the hold of that sum in a sandbox is worth. -/
noncomputable def Try.pinned : Pinned := { name := "ytmnpchncmbnddaa", sum := "8e00c8831de3277392c84c570602a7e66d08e9f36d3bc2665ac48cf58f6e3988", checked := Try.checked }
namespace Rows
def none {H : Type} : Left H := { results := [], args := [] }

/-- 'cloisterlaw11.WalFresh': WHATEVER THE INPUT: true; the input reads as it did. -/
def walFreshSpec : ChangeSpec := { name := "walFresh", fn := fun _ => fun
  | [d1, d2] => { results := [.lit (.bool true)], args := [d1, d2] }
  | _ => none }
def walFreshRow : OpenClaim := { program := "ytmnpchncmbnddaa", sum := "8e00c8831de3277392c84c570602a7e66d08e9f36d3bc2665ac48cf58f6e3988", func := "cloister/cloisterlaw11.WalFresh", spec := "walFresh", unfollowed := true, recurses := true, apart := false }
def WalFreshSaid : Prop := walFreshRow.holds Try.pinned (OpenSpec.ofChange walFreshSpec)

/-- ITS FALSE NEIGHBOUR: 'it returns false'. Refute it at one input. -/
def walFreshWrong : ChangeSpec := { name := "walFresh", fn := fun _ => fun
  | [d1, d2] => { results := [.lit (.bool false)], args := [d1, d2] }
  | _ => none }
def WalFreshWrongFalsely : Prop := walFreshRow.holds Try.pinned (OpenSpec.ofChange walFreshWrong)

/-- 'cloisterlaw20.RebuildReads': WHATEVER THE INPUT: true; the input reads as it did. -/
def rebuildReadsSpec : ChangeSpec := { name := "rebuildReads", fn := fun _ => fun
  | [d1, d2] => { results := [.lit (.bool true)], args := [d1, d2] }
  | _ => none }
def rebuildReadsRow : OpenClaim := { program := "ytmnpchncmbnddaa", sum := "8e00c8831de3277392c84c570602a7e66d08e9f36d3bc2665ac48cf58f6e3988", func := "cloister/cloisterlaw20.RebuildReads", spec := "rebuildReads", unfollowed := true, recurses := true, apart := false }
def RebuildReadsSaid : Prop := rebuildReadsRow.holds Try.pinned (OpenSpec.ofChange rebuildReadsSpec)

/-- ITS FALSE NEIGHBOUR: 'it returns false'. Refute it at one input. -/
def rebuildReadsWrong : ChangeSpec := { name := "rebuildReads", fn := fun _ => fun
  | [d1, d2] => { results := [.lit (.bool false)], args := [d1, d2] }
  | _ => none }
def RebuildReadsWrongFalsely : Prop := rebuildReadsRow.holds Try.pinned (OpenSpec.ofChange rebuildReadsWrong)

/- THE SECOND FORM. 'bulk': how many values and letters a reading holds, each counted each time it is reached (what is shared counts as often as it is met; a slice's spare places count too). A statement '..UptoSaid' is the law's where the arguments, and the package variables that the reading takes, are together of bulk at most 1048576: NARROWER than '..Said'. Prove '..Said' where nothing that the law and all that it calls make is longer than what came in: it says more and counts as full. Else prove '..UptoSaid'. A law counts once. -/
mutual
def uptoBulk {H : Type} : DataW H → Nat
  | .lit (.string bytes) => bytes.length + 1
  | .lit _ => 1
  | .nil => 1
  | .ptr d => uptoBulk d + 1
  | .slice elems spare => uptoBulkAll elems + uptoBulkAll spare + 1
  | .agg parts => uptoBulkAll parts + 1
  | .iface _ d => uptoBulk d + 1
  | .map entries => uptoBulkEntries entries + 1
  | .held _ => 1
def uptoBulkAll {H : Type} : List (DataW H) → Nat
  | [] => 0
  | d :: r => uptoBulk d + uptoBulkAll r
def uptoBulkEntries {H : Type} : List (Lit × DataW H) → Nat
  | [] => 0
  | x :: r => uptoBulkEntry x + uptoBulkEntries r
def uptoBulkEntry {H : Type} : Lit × DataW H → Nat
  | (.string bytes, d) => bytes.length + uptoBulk d + 1
  | (_, d) => uptoBulk d + 1
 end
def uptoSmall : (H : Type) → List (DataW H) → Bool := fun _ ds => decide (uptoBulkAll ds ≤ 1048576)
def OpenSpec.upto (s : _root_.Go.ChangeSpec) : _root_.Go.OpenSpec := { _root_.Go.OpenSpec.ofChange s with cond := some uptoSmall }

/-- 'cloisterlaw11.WalFresh', WHERE WHAT IT READS IS OF BULK AT MOST 1048576: true; the input reads as it did. -/
def walFreshUptoRow : OpenClaim := { program := "ytmnpchncmbnddaa", sum := "8e00c8831de3277392c84c570602a7e66d08e9f36d3bc2665ac48cf58f6e3988", func := "cloister/cloisterlaw11.WalFresh", spec := "walFresh", unfollowed := true, recurses := true, apart := false, narrowed := true }
def WalFreshUptoSaid : Prop := walFreshUptoRow.holds Try.pinned (OpenSpec.upto walFreshSpec)

/-- 'cloisterlaw20.RebuildReads', WHERE WHAT IT READS IS OF BULK AT MOST 1048576: true; the input reads as it did. -/
def rebuildReadsUptoRow : OpenClaim := { program := "ytmnpchncmbnddaa", sum := "8e00c8831de3277392c84c570602a7e66d08e9f36d3bc2665ac48cf58f6e3988", func := "cloister/cloisterlaw20.RebuildReads", spec := "rebuildReads", unfollowed := true, recurses := true, apart := false, narrowed := true }
def RebuildReadsUptoSaid : Prop := rebuildReadsUptoRow.holds Try.pinned (OpenSpec.upto rebuildReadsSpec)

end Rows
end Go.Proofs.Ytmnpchncmbnddaa

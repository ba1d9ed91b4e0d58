/-
  No cell of these rows narrows 'for every input' (looked for: loops, veiled, ifaces, maps, wideKeys, modest, calm, conditions, laid).
  DERIVED. THE GIVEN ROWS OF THIS SEAT. 16 by the template 'for every input the law returns true; each argument reads behind the call as it read before'; 0 by the template 'total and deterministic' (their statements: YtoeccclaaogihaaTotals.lean).
  GIVEN WITH THE SEED: the statements are not yours to turn. If you find one false, say at which input.
  Laid BY PROGRAM, IN A SANDBOX (cutbox-rows.mjs): the forced cells as the released guide's own fill.sh prints them over the translation eb6d9be0fc83cc09… (all of the seat's roots in one cut). By AI agents, Wed Nov 11 2026. No macro, syntax, notation, axiom, sorry.
-/
import Derived.Test.YtoeccclaaogihaaChecked
import GoSem.Claim
import GoSem.ClaimJoined
import GoSem.ClaimMapViews
import Derived.JoinedTies
import Derived.KernelRfl
namespace Go.Proofs.Ytoeccclaaogihaa
/- THE CELL 'sum', in the pinned program and in every row, IS THE sha256 OF THE DUMP (.gsa) THAT YtoeccclaaogihaaProg.lean LOADS. Nothing in Lean hashes anything: it is a label: what it is worth is what the hold of that sum in a sandbox is worth. -/
noncomputable def Try.pinned : Pinned := { name := "ytoeccclaaogihaa", sum := "eb6d9be0fc83cc09fd9581fcd500ecdd2ba7a5d9a4989d9498f0dc4483851de3", checked := Try.checked }
namespace Rows
def none {H : Type} : Left H := { results := [], args := [] }

/-- 'cloisterlaw02.CodecNames': WHATEVER THE INPUT: true; the input reads as it did. -/
def codecNamesSpec : ChangeSpec := { name := "codecNames", fn := fun _ => fun
  | [] => { results := [.lit (.bool true)], args := [] }
  | _ => none }
def codecNamesRow : OpenClaim := { program := "ytoeccclaaogihaa", sum := "eb6d9be0fc83cc09fd9581fcd500ecdd2ba7a5d9a4989d9498f0dc4483851de3", func := "cloister/cloisterlaw02.CodecNames", spec := "codecNames", apart := false }
def CodecNamesSaid : Prop := codecNamesRow.holds Try.pinned (OpenSpec.ofChange codecNamesSpec)

/-- ITS FALSE NEIGHBOUR: 'it returns false'. Refute it at one input. -/
def codecNamesWrong : ChangeSpec := { name := "codecNames", fn := fun _ => fun
  | [] => { results := [.lit (.bool false)], args := [] }
  | _ => none }
def CodecNamesWrongFalsely : Prop := codecNamesRow.holds Try.pinned (OpenSpec.ofChange codecNamesWrong)

/-- 'cloisterlaw11.WalNames': WHATEVER THE INPUT: true; the input reads as it did. -/
def walNamesSpec : ChangeSpec := { name := "walNames", fn := fun _ => fun
  | [] => { results := [.lit (.bool true)], args := [] }
  | _ => none }
def walNamesRow : OpenClaim := { program := "ytoeccclaaogihaa", sum := "eb6d9be0fc83cc09fd9581fcd500ecdd2ba7a5d9a4989d9498f0dc4483851de3", func := "cloister/cloisterlaw11.WalNames", spec := "walNames", apart := false }
def WalNamesSaid : Prop := walNamesRow.holds Try.pinned (OpenSpec.ofChange walNamesSpec)

/-- ITS FALSE NEIGHBOUR: 'it returns false'. Refute it at one input. -/
def walNamesWrong : ChangeSpec := { name := "walNames", fn := fun _ => fun
  | [] => { results := [.lit (.bool false)], args := [] }
  | _ => none }
def WalNamesWrongFalsely : Prop := walNamesRow.holds Try.pinned (OpenSpec.ofChange walNamesWrong)

/-- 'cloisterlaw20.RebuildNames': WHATEVER THE INPUT: true; the input reads as it did. -/
def rebuildNamesSpec : ChangeSpec := { name := "rebuildNames", fn := fun _ => fun
  | [] => { results := [.lit (.bool true)], args := [] }
  | _ => none }
def rebuildNamesRow : OpenClaim := { program := "ytoeccclaaogihaa", sum := "eb6d9be0fc83cc09fd9581fcd500ecdd2ba7a5d9a4989d9498f0dc4483851de3", func := "cloister/cloisterlaw20.RebuildNames", spec := "rebuildNames", apart := false }
def RebuildNamesSaid : Prop := rebuildNamesRow.holds Try.pinned (OpenSpec.ofChange rebuildNamesSpec)

/-- ITS FALSE NEIGHBOUR: 'it returns false'. Refute it at one input. -/
def rebuildNamesWrong : ChangeSpec := { name := "rebuildNames", fn := fun _ => fun
  | [] => { results := [.lit (.bool false)], args := [] }
  | _ => none }
def RebuildNamesWrongFalsely : Prop := rebuildNamesRow.holds Try.pinned (OpenSpec.ofChange rebuildNamesWrong)

/-- 'cloisterlaw29.FeedNames': WHATEVER THE INPUT: true; the input reads as it did. -/
def feedNamesSpec : ChangeSpec := { name := "feedNames", fn := fun _ => fun
  | [] => { results := [.lit (.bool true)], args := [] }
  | _ => none }
def feedNamesRow : OpenClaim := { program := "ytoeccclaaogihaa", sum := "eb6d9be0fc83cc09fd9581fcd500ecdd2ba7a5d9a4989d9498f0dc4483851de3", func := "cloister/cloisterlaw29.FeedNames", spec := "feedNames", apart := false }
def FeedNamesSaid : Prop := feedNamesRow.holds Try.pinned (OpenSpec.ofChange feedNamesSpec)

/-- ITS FALSE NEIGHBOUR: 'it returns false'. Refute it at one input. -/
def feedNamesWrong : ChangeSpec := { name := "feedNames", fn := fun _ => fun
  | [] => { results := [.lit (.bool false)], args := [] }
  | _ => none }
def FeedNamesWrongFalsely : Prop := feedNamesRow.holds Try.pinned (OpenSpec.ofChange feedNamesWrong)

/-- 'cloisterlaw02.CodecShort': WHATEVER THE INPUT: true; the input reads as it did. -/
def codecShortSpec : ChangeSpec := { name := "codecShort", fn := fun _ => fun
  | [d1, d2] => { results := [.lit (.bool true)], args := [d1, d2] }
  | _ => none }
def codecShortRow : OpenClaim := { program := "ytoeccclaaogihaa", sum := "eb6d9be0fc83cc09fd9581fcd500ecdd2ba7a5d9a4989d9498f0dc4483851de3", func := "cloister/cloisterlaw02.CodecShort", spec := "codecShort", recurses := true, apart := false }
def CodecShortSaid : Prop := codecShortRow.holds Try.pinned (OpenSpec.ofChange codecShortSpec)

/-- ITS FALSE NEIGHBOUR: 'it returns false'. Refute it at one input. -/
def codecShortWrong : ChangeSpec := { name := "codecShort", fn := fun _ => fun
  | [d1, d2] => { results := [.lit (.bool false)], args := [d1, d2] }
  | _ => none }
def CodecShortWrongFalsely : Prop := codecShortRow.holds Try.pinned (OpenSpec.ofChange codecShortWrong)

/-- 'cloisterlaw02.CodecTexts': WHATEVER THE INPUT: true; the input reads as it did. -/
def codecTextsSpec : ChangeSpec := { name := "codecTexts", fn := fun _ => fun
  | [d1, d2] => { results := [.lit (.bool true)], args := [d1, d2] }
  | _ => none }
def codecTextsRow : OpenClaim := { program := "ytoeccclaaogihaa", sum := "eb6d9be0fc83cc09fd9581fcd500ecdd2ba7a5d9a4989d9498f0dc4483851de3", func := "cloister/cloisterlaw02.CodecTexts", spec := "codecTexts", recurses := true, apart := false }
def CodecTextsSaid : Prop := codecTextsRow.holds Try.pinned (OpenSpec.ofChange codecTextsSpec)

/-- ITS FALSE NEIGHBOUR: 'it returns false'. Refute it at one input. -/
def codecTextsWrong : ChangeSpec := { name := "codecTexts", fn := fun _ => fun
  | [d1, d2] => { results := [.lit (.bool false)], args := [d1, d2] }
  | _ => none }
def CodecTextsWrongFalsely : Prop := codecTextsRow.holds Try.pinned (OpenSpec.ofChange codecTextsWrong)

/-- 'cloisterlaw02.CodecPuts': WHATEVER THE INPUT: true; the input reads as it did. -/
def codecPutsSpec : ChangeSpec := { name := "codecPuts", fn := fun _ => fun
  | [d1, d2] => { results := [.lit (.bool true)], args := [d1, d2] }
  | _ => none }
def codecPutsRow : OpenClaim := { program := "ytoeccclaaogihaa", sum := "eb6d9be0fc83cc09fd9581fcd500ecdd2ba7a5d9a4989d9498f0dc4483851de3", func := "cloister/cloisterlaw02.CodecPuts", spec := "codecPuts", apart := false }
def CodecPutsSaid : Prop := codecPutsRow.holds Try.pinned (OpenSpec.ofChange codecPutsSpec)

/-- ITS FALSE NEIGHBOUR: 'it returns false'. Refute it at one input. -/
def codecPutsWrong : ChangeSpec := { name := "codecPuts", fn := fun _ => fun
  | [d1, d2] => { results := [.lit (.bool false)], args := [d1, d2] }
  | _ => none }
def CodecPutsWrongFalsely : Prop := codecPutsRow.holds Try.pinned (OpenSpec.ofChange codecPutsWrong)

/-- 'cloisterlaw02.CodecFresh': WHATEVER THE INPUT: true; the input reads as it did. -/
def codecFreshSpec : ChangeSpec := { name := "codecFresh", fn := fun _ => fun
  | [d1, d2] => { results := [.lit (.bool true)], args := [d1, d2] }
  | _ => none }
def codecFreshRow : OpenClaim := { program := "ytoeccclaaogihaa", sum := "eb6d9be0fc83cc09fd9581fcd500ecdd2ba7a5d9a4989d9498f0dc4483851de3", func := "cloister/cloisterlaw02.CodecFresh", spec := "codecFresh", unfollowed := true, recurses := true, apart := false }
def CodecFreshSaid : Prop := codecFreshRow.holds Try.pinned (OpenSpec.ofChange codecFreshSpec)

/-- ITS FALSE NEIGHBOUR: 'it returns false'. Refute it at one input. -/
def codecFreshWrong : ChangeSpec := { name := "codecFresh", fn := fun _ => fun
  | [d1, d2] => { results := [.lit (.bool false)], args := [d1, d2] }
  | _ => none }
def CodecFreshWrongFalsely : Prop := codecFreshRow.holds Try.pinned (OpenSpec.ofChange codecFreshWrong)

/-- 'cloisterlaw02.CodecReads': WHATEVER THE INPUT: true; the input reads as it did. -/
def codecReadsSpec : ChangeSpec := { name := "codecReads", fn := fun _ => fun
  | [d1, d2] => { results := [.lit (.bool true)], args := [d1, d2] }
  | _ => none }
def codecReadsRow : OpenClaim := { program := "ytoeccclaaogihaa", sum := "eb6d9be0fc83cc09fd9581fcd500ecdd2ba7a5d9a4989d9498f0dc4483851de3", func := "cloister/cloisterlaw02.CodecReads", spec := "codecReads", unfollowed := true, recurses := true, apart := false }
def CodecReadsSaid : Prop := codecReadsRow.holds Try.pinned (OpenSpec.ofChange codecReadsSpec)

/-- ITS FALSE NEIGHBOUR: 'it returns false'. Refute it at one input. -/
def codecReadsWrong : ChangeSpec := { name := "codecReads", fn := fun _ => fun
  | [d1, d2] => { results := [.lit (.bool false)], args := [d1, d2] }
  | _ => none }
def CodecReadsWrongFalsely : Prop := codecReadsRow.holds Try.pinned (OpenSpec.ofChange codecReadsWrong)

/-- 'cloisterlaw02.CodecTwo': WHATEVER THE INPUT: true; the input reads as it did. -/
def codecTwoSpec : ChangeSpec := { name := "codecTwo", fn := fun _ => fun
  | [d1, d2, d3] => { results := [.lit (.bool true)], args := [d1, d2, d3] }
  | _ => none }
def codecTwoRow : OpenClaim := { program := "ytoeccclaaogihaa", sum := "eb6d9be0fc83cc09fd9581fcd500ecdd2ba7a5d9a4989d9498f0dc4483851de3", func := "cloister/cloisterlaw02.CodecTwo", spec := "codecTwo", unfollowed := true, recurses := true, apart := false }
def CodecTwoSaid : Prop := codecTwoRow.holds Try.pinned (OpenSpec.ofChange codecTwoSpec)

/-- ITS FALSE NEIGHBOUR: 'it returns false'. Refute it at one input. -/
def codecTwoWrong : ChangeSpec := { name := "codecTwo", fn := fun _ => fun
  | [d1, d2, d3] => { results := [.lit (.bool false)], args := [d1, d2, d3] }
  | _ => none }
def CodecTwoWrongFalsely : Prop := codecTwoRow.holds Try.pinned (OpenSpec.ofChange codecTwoWrong)

/-- 'cloisterlaw02.CodecNone': WHATEVER THE INPUT: true; the input reads as it did. -/
def codecNoneSpec : ChangeSpec := { name := "codecNone", fn := fun _ => fun
  | [d] => { results := [.lit (.bool true)], args := [d] }
  | _ => none }
def codecNoneRow : OpenClaim := { program := "ytoeccclaaogihaa", sum := "eb6d9be0fc83cc09fd9581fcd500ecdd2ba7a5d9a4989d9498f0dc4483851de3", func := "cloister/cloisterlaw02.CodecNone", spec := "codecNone", unfollowed := true, recurses := true, apart := false }
def CodecNoneSaid : Prop := codecNoneRow.holds Try.pinned (OpenSpec.ofChange codecNoneSpec)

/-- ITS FALSE NEIGHBOUR: 'it returns false'. Refute it at one input. -/
def codecNoneWrong : ChangeSpec := { name := "codecNone", fn := fun _ => fun
  | [d] => { results := [.lit (.bool false)], args := [d] }
  | _ => none }
def CodecNoneWrongFalsely : Prop := codecNoneRow.holds Try.pinned (OpenSpec.ofChange codecNoneWrong)

/-- 'cloisterlaw02.CodecThere': WHATEVER THE INPUT: true; the input reads as it did. -/
def codecThereSpec : ChangeSpec := { name := "codecThere", fn := fun _ => fun
  | [d1, d2] => { results := [.lit (.bool true)], args := [d1, d2] }
  | _ => none }
def codecThereRow : OpenClaim := { program := "ytoeccclaaogihaa", sum := "eb6d9be0fc83cc09fd9581fcd500ecdd2ba7a5d9a4989d9498f0dc4483851de3", func := "cloister/cloisterlaw02.CodecThere", spec := "codecThere", unfollowed := true, recurses := true, apart := false }
def CodecThereSaid : Prop := codecThereRow.holds Try.pinned (OpenSpec.ofChange codecThereSpec)

/-- ITS FALSE NEIGHBOUR: 'it returns false'. Refute it at one input. -/
def codecThereWrong : ChangeSpec := { name := "codecThere", fn := fun _ => fun
  | [d1, d2] => { results := [.lit (.bool false)], args := [d1, d2] }
  | _ => none }
def CodecThereWrongFalsely : Prop := codecThereRow.holds Try.pinned (OpenSpec.ofChange codecThereWrong)

/-- 'cloisterlaw02.CodecForm': WHATEVER THE INPUT: true; the input reads as it did. -/
def codecFormSpec : ChangeSpec := { name := "codecForm", fn := fun _ => fun
  | [d] => { results := [.lit (.bool true)], args := [d] }
  | _ => none }
def codecFormRow : OpenClaim := { program := "ytoeccclaaogihaa", sum := "eb6d9be0fc83cc09fd9581fcd500ecdd2ba7a5d9a4989d9498f0dc4483851de3", func := "cloister/cloisterlaw02.CodecForm", spec := "codecForm", unfollowed := true, recurses := true, apart := false }
def CodecFormSaid : Prop := codecFormRow.holds Try.pinned (OpenSpec.ofChange codecFormSpec)

/-- ITS FALSE NEIGHBOUR: 'it returns false'. Refute it at one input. -/
def codecFormWrong : ChangeSpec := { name := "codecForm", fn := fun _ => fun
  | [d] => { results := [.lit (.bool false)], args := [d] }
  | _ => none }
def CodecFormWrongFalsely : Prop := codecFormRow.holds Try.pinned (OpenSpec.ofChange codecFormWrong)

/-- 'cloisterlaw02.CodecLater': WHATEVER THE INPUT: true; the input reads as it did. -/
def codecLaterSpec : ChangeSpec := { name := "codecLater", fn := fun _ => fun
  | [d1, d2, d3] => { results := [.lit (.bool true)], args := [d1, d2, d3] }
  | _ => none }
def codecLaterRow : OpenClaim := { program := "ytoeccclaaogihaa", sum := "eb6d9be0fc83cc09fd9581fcd500ecdd2ba7a5d9a4989d9498f0dc4483851de3", func := "cloister/cloisterlaw02.CodecLater", spec := "codecLater", unfollowed := true, recurses := true, apart := false }
def CodecLaterSaid : Prop := codecLaterRow.holds Try.pinned (OpenSpec.ofChange codecLaterSpec)

/-- ITS FALSE NEIGHBOUR: 'it returns false'. Refute it at one input. -/
def codecLaterWrong : ChangeSpec := { name := "codecLater", fn := fun _ => fun
  | [d1, d2, d3] => { results := [.lit (.bool false)], args := [d1, d2, d3] }
  | _ => none }
def CodecLaterWrongFalsely : Prop := codecLaterRow.holds Try.pinned (OpenSpec.ofChange codecLaterWrong)

/-- 'cloisterlaw02.CodecOwn': WHATEVER THE INPUT: true; the input reads as it did. -/
def codecOwnSpec : ChangeSpec := { name := "codecOwn", fn := fun _ => fun
  | [d1, d2] => { results := [.lit (.bool true)], args := [d1, d2] }
  | _ => none }
def codecOwnRow : OpenClaim := { program := "ytoeccclaaogihaa", sum := "eb6d9be0fc83cc09fd9581fcd500ecdd2ba7a5d9a4989d9498f0dc4483851de3", func := "cloister/cloisterlaw02.CodecOwn", spec := "codecOwn", unfollowed := true, recurses := true, apart := false }
def CodecOwnSaid : Prop := codecOwnRow.holds Try.pinned (OpenSpec.ofChange codecOwnSpec)

/-- ITS FALSE NEIGHBOUR: 'it returns false'. Refute it at one input. -/
def codecOwnWrong : ChangeSpec := { name := "codecOwn", fn := fun _ => fun
  | [d1, d2] => { results := [.lit (.bool false)], args := [d1, d2] }
  | _ => none }
def CodecOwnWrongFalsely : Prop := codecOwnRow.holds Try.pinned (OpenSpec.ofChange codecOwnWrong)

/-- 'cloisterlaw02.CodecRises': WHATEVER THE INPUT: true; the input reads as it did. -/
def codecRisesSpec : ChangeSpec := { name := "codecRises", fn := fun _ => fun
  | [d1, d2] => { results := [.lit (.bool true)], args := [d1, d2] }
  | _ => none }
def codecRisesRow : OpenClaim := { program := "ytoeccclaaogihaa", sum := "eb6d9be0fc83cc09fd9581fcd500ecdd2ba7a5d9a4989d9498f0dc4483851de3", func := "cloister/cloisterlaw02.CodecRises", spec := "codecRises", unfollowed := true, recurses := true, apart := false }
def CodecRisesSaid : Prop := codecRisesRow.holds Try.pinned (OpenSpec.ofChange codecRisesSpec)

/-- ITS FALSE NEIGHBOUR: 'it returns false'. Refute it at one input. -/
def codecRisesWrong : ChangeSpec := { name := "codecRises", fn := fun _ => fun
  | [d1, d2] => { results := [.lit (.bool false)], args := [d1, d2] }
  | _ => none }
def CodecRisesWrongFalsely : Prop := codecRisesRow.holds Try.pinned (OpenSpec.ofChange codecRisesWrong)

/- THE SECOND FORM. 'bulk': how many values and letters a reading holds, each counted each time it is reached (what is shared counts as often as it is met; a slice's spare places count too). A statement '..UptoSaid' is the law's where the arguments, and the package variables that the reading takes, are together of bulk at most 1048576: NARROWER than '..Said'. Prove '..Said' where nothing that the law and all that it calls make is longer than what came in: it says more and counts as full. Else prove '..UptoSaid'. A law counts once. -/
mutual
def uptoBulk {H : Type} : DataW H → Nat
  | .lit (.string bytes) => bytes.length + 1
  | .lit _ => 1
  | .nil => 1
  | .ptr d => uptoBulk d + 1
  | .slice elems spare => uptoBulkAll elems + uptoBulkAll spare + 1
  | .agg parts => uptoBulkAll parts + 1
  | .iface _ d => uptoBulk d + 1
  | .map entries => uptoBulkEntries entries + 1
  | .held _ => 1
def uptoBulkAll {H : Type} : List (DataW H) → Nat
  | [] => 0
  | d :: r => uptoBulk d + uptoBulkAll r
def uptoBulkEntries {H : Type} : List (Lit × DataW H) → Nat
  | [] => 0
  | x :: r => uptoBulkEntry x + uptoBulkEntries r
def uptoBulkEntry {H : Type} : Lit × DataW H → Nat
  | (.string bytes, d) => bytes.length + uptoBulk d + 1
  | (_, d) => uptoBulk d + 1
 end
def uptoSmall : (H : Type) → List (DataW H) → Bool := fun _ ds => decide (uptoBulkAll ds ≤ 1048576)
def OpenSpec.upto (s : _root_.Go.ChangeSpec) : _root_.Go.OpenSpec := { _root_.Go.OpenSpec.ofChange s with cond := some uptoSmall }

/-- 'cloisterlaw02.CodecNames', WHERE WHAT IT READS IS OF BULK AT MOST 1048576: true; the input reads as it did. -/
def codecNamesUptoRow : OpenClaim := { program := "ytoeccclaaogihaa", sum := "eb6d9be0fc83cc09fd9581fcd500ecdd2ba7a5d9a4989d9498f0dc4483851de3", func := "cloister/cloisterlaw02.CodecNames", spec := "codecNames", apart := false, narrowed := true }
def CodecNamesUptoSaid : Prop := codecNamesUptoRow.holds Try.pinned (OpenSpec.upto codecNamesSpec)

/-- 'cloisterlaw11.WalNames', WHERE WHAT IT READS IS OF BULK AT MOST 1048576: true; the input reads as it did. -/
def walNamesUptoRow : OpenClaim := { program := "ytoeccclaaogihaa", sum := "eb6d9be0fc83cc09fd9581fcd500ecdd2ba7a5d9a4989d9498f0dc4483851de3", func := "cloister/cloisterlaw11.WalNames", spec := "walNames", apart := false, narrowed := true }
def WalNamesUptoSaid : Prop := walNamesUptoRow.holds Try.pinned (OpenSpec.upto walNamesSpec)

/-- 'cloisterlaw20.RebuildNames', WHERE WHAT IT READS IS OF BULK AT MOST 1048576: true; the input reads as it did. -/
def rebuildNamesUptoRow : OpenClaim := { program := "ytoeccclaaogihaa", sum := "eb6d9be0fc83cc09fd9581fcd500ecdd2ba7a5d9a4989d9498f0dc4483851de3", func := "cloister/cloisterlaw20.RebuildNames", spec := "rebuildNames", apart := false, narrowed := true }
def RebuildNamesUptoSaid : Prop := rebuildNamesUptoRow.holds Try.pinned (OpenSpec.upto rebuildNamesSpec)

/-- 'cloisterlaw29.FeedNames', WHERE WHAT IT READS IS OF BULK AT MOST 1048576: true; the input reads as it did. -/
def feedNamesUptoRow : OpenClaim := { program := "ytoeccclaaogihaa", sum := "eb6d9be0fc83cc09fd9581fcd500ecdd2ba7a5d9a4989d9498f0dc4483851de3", func := "cloister/cloisterlaw29.FeedNames", spec := "feedNames", apart := false, narrowed := true }
def FeedNamesUptoSaid : Prop := feedNamesUptoRow.holds Try.pinned (OpenSpec.upto feedNamesSpec)

/-- 'cloisterlaw02.CodecShort', WHERE WHAT IT READS IS OF BULK AT MOST 1048576: true; the input reads as it did. -/
def codecShortUptoRow : OpenClaim := { program := "ytoeccclaaogihaa", sum := "eb6d9be0fc83cc09fd9581fcd500ecdd2ba7a5d9a4989d9498f0dc4483851de3", func := "cloister/cloisterlaw02.CodecShort", spec := "codecShort", recurses := true, apart := false, narrowed := true }
def CodecShortUptoSaid : Prop := codecShortUptoRow.holds Try.pinned (OpenSpec.upto codecShortSpec)

/-- 'cloisterlaw02.CodecTexts', WHERE WHAT IT READS IS OF BULK AT MOST 1048576: true; the input reads as it did. -/
def codecTextsUptoRow : OpenClaim := { program := "ytoeccclaaogihaa", sum := "eb6d9be0fc83cc09fd9581fcd500ecdd2ba7a5d9a4989d9498f0dc4483851de3", func := "cloister/cloisterlaw02.CodecTexts", spec := "codecTexts", recurses := true, apart := false, narrowed := true }
def CodecTextsUptoSaid : Prop := codecTextsUptoRow.holds Try.pinned (OpenSpec.upto codecTextsSpec)

/-- 'cloisterlaw02.CodecPuts', WHERE WHAT IT READS IS OF BULK AT MOST 1048576: true; the input reads as it did. -/
def codecPutsUptoRow : OpenClaim := { program := "ytoeccclaaogihaa", sum := "eb6d9be0fc83cc09fd9581fcd500ecdd2ba7a5d9a4989d9498f0dc4483851de3", func := "cloister/cloisterlaw02.CodecPuts", spec := "codecPuts", apart := false, narrowed := true }
def CodecPutsUptoSaid : Prop := codecPutsUptoRow.holds Try.pinned (OpenSpec.upto codecPutsSpec)

/-- 'cloisterlaw02.CodecFresh', WHERE WHAT IT READS IS OF BULK AT MOST 1048576: true; the input reads as it did. -/
def codecFreshUptoRow : OpenClaim := { program := "ytoeccclaaogihaa", sum := "eb6d9be0fc83cc09fd9581fcd500ecdd2ba7a5d9a4989d9498f0dc4483851de3", func := "cloister/cloisterlaw02.CodecFresh", spec := "codecFresh", unfollowed := true, recurses := true, apart := false, narrowed := true }
def CodecFreshUptoSaid : Prop := codecFreshUptoRow.holds Try.pinned (OpenSpec.upto codecFreshSpec)

/-- 'cloisterlaw02.CodecReads', WHERE WHAT IT READS IS OF BULK AT MOST 1048576: true; the input reads as it did. -/
def codecReadsUptoRow : OpenClaim := { program := "ytoeccclaaogihaa", sum := "eb6d9be0fc83cc09fd9581fcd500ecdd2ba7a5d9a4989d9498f0dc4483851de3", func := "cloister/cloisterlaw02.CodecReads", spec := "codecReads", unfollowed := true, recurses := true, apart := false, narrowed := true }
def CodecReadsUptoSaid : Prop := codecReadsUptoRow.holds Try.pinned (OpenSpec.upto codecReadsSpec)

/-- 'cloisterlaw02.CodecTwo', WHERE WHAT IT READS IS OF BULK AT MOST 1048576: true; the input reads as it did. -/
def codecTwoUptoRow : OpenClaim := { program := "ytoeccclaaogihaa", sum := "eb6d9be0fc83cc09fd9581fcd500ecdd2ba7a5d9a4989d9498f0dc4483851de3", func := "cloister/cloisterlaw02.CodecTwo", spec := "codecTwo", unfollowed := true, recurses := true, apart := false, narrowed := true }
def CodecTwoUptoSaid : Prop := codecTwoUptoRow.holds Try.pinned (OpenSpec.upto codecTwoSpec)

/-- 'cloisterlaw02.CodecNone', WHERE WHAT IT READS IS OF BULK AT MOST 1048576: true; the input reads as it did. -/
def codecNoneUptoRow : OpenClaim := { program := "ytoeccclaaogihaa", sum := "eb6d9be0fc83cc09fd9581fcd500ecdd2ba7a5d9a4989d9498f0dc4483851de3", func := "cloister/cloisterlaw02.CodecNone", spec := "codecNone", unfollowed := true, recurses := true, apart := false, narrowed := true }
def CodecNoneUptoSaid : Prop := codecNoneUptoRow.holds Try.pinned (OpenSpec.upto codecNoneSpec)

/-- 'cloisterlaw02.CodecThere', WHERE WHAT IT READS IS OF BULK AT MOST 1048576: true; the input reads as it did. -/
def codecThereUptoRow : OpenClaim := { program := "ytoeccclaaogihaa", sum := "eb6d9be0fc83cc09fd9581fcd500ecdd2ba7a5d9a4989d9498f0dc4483851de3", func := "cloister/cloisterlaw02.CodecThere", spec := "codecThere", unfollowed := true, recurses := true, apart := false, narrowed := true }
def CodecThereUptoSaid : Prop := codecThereUptoRow.holds Try.pinned (OpenSpec.upto codecThereSpec)

/-- 'cloisterlaw02.CodecForm', WHERE WHAT IT READS IS OF BULK AT MOST 1048576: true; the input reads as it did. -/
def codecFormUptoRow : OpenClaim := { program := "ytoeccclaaogihaa", sum := "eb6d9be0fc83cc09fd9581fcd500ecdd2ba7a5d9a4989d9498f0dc4483851de3", func := "cloister/cloisterlaw02.CodecForm", spec := "codecForm", unfollowed := true, recurses := true, apart := false, narrowed := true }
def CodecFormUptoSaid : Prop := codecFormUptoRow.holds Try.pinned (OpenSpec.upto codecFormSpec)

/-- 'cloisterlaw02.CodecLater', WHERE WHAT IT READS IS OF BULK AT MOST 1048576: true; the input reads as it did. -/
def codecLaterUptoRow : OpenClaim := { program := "ytoeccclaaogihaa", sum := "eb6d9be0fc83cc09fd9581fcd500ecdd2ba7a5d9a4989d9498f0dc4483851de3", func := "cloister/cloisterlaw02.CodecLater", spec := "codecLater", unfollowed := true, recurses := true, apart := false, narrowed := true }
def CodecLaterUptoSaid : Prop := codecLaterUptoRow.holds Try.pinned (OpenSpec.upto codecLaterSpec)

/-- 'cloisterlaw02.CodecOwn', WHERE WHAT IT READS IS OF BULK AT MOST 1048576: true; the input reads as it did. -/
def codecOwnUptoRow : OpenClaim := { program := "ytoeccclaaogihaa", sum := "eb6d9be0fc83cc09fd9581fcd500ecdd2ba7a5d9a4989d9498f0dc4483851de3", func := "cloister/cloisterlaw02.CodecOwn", spec := "codecOwn", unfollowed := true, recurses := true, apart := false, narrowed := true }
def CodecOwnUptoSaid : Prop := codecOwnUptoRow.holds Try.pinned (OpenSpec.upto codecOwnSpec)

/-- 'cloisterlaw02.CodecRises', WHERE WHAT IT READS IS OF BULK AT MOST 1048576: true; the input reads as it did. -/
def codecRisesUptoRow : OpenClaim := { program := "ytoeccclaaogihaa", sum := "eb6d9be0fc83cc09fd9581fcd500ecdd2ba7a5d9a4989d9498f0dc4483851de3", func := "cloister/cloisterlaw02.CodecRises", spec := "codecRises", unfollowed := true, recurses := true, apart := false, narrowed := true }
def CodecRisesUptoSaid : Prop := codecRisesUptoRow.holds Try.pinned (OpenSpec.upto codecRisesSpec)

end Rows
end Go.Proofs.Ytoeccclaaogihaa

/-
  No cell of these rows narrows 'for every input' (looked for: loops, veiled, ifaces, maps, wideKeys, modest, calm, conditions, laid).
  DERIVED. THE GIVEN ROWS OF THIS SEAT. 13 by the template 'for every input the law returns true; each argument reads behind the call as it read before'; 0 by the template 'total and deterministic' (their statements: YtnnladfndmdapaaTotals.lean).
  GIVEN WITH THE SEED: the statements are not yours to turn. If you find one false, say at which input.
  Laid BY PROGRAM, IN A SANDBOX (cutbox-rows.mjs): the forced cells as the released guide's own fill.sh prints them over the translation c4ed62e0d22a91d5… (all of the seat's roots in one cut). By AI agents, Wed Nov 11 2026. No macro, syntax, notation, axiom, sorry.
-/
import Derived.Test.YtnnladfndmdapaaChecked
import GoSem.Claim
import GoSem.ClaimJoined
import GoSem.ClaimMapViews
import Derived.JoinedTies
import Derived.KernelRfl
namespace Go.Proofs.Ytnnladfndmdapaa
/- THE CELL 'sum', in the pinned program and in every row, IS THE sha256 OF THE DUMP (.gsa) THAT YtnnladfndmdapaaProg.lean LOADS. Nothing in Lean hashes anything: it is a label: what it is worth is what the hold of that sum in a sandbox is worth. -/
noncomputable def Try.pinned : Pinned := { name := "ytnnladfndmdapaa", sum := "c4ed62e0d22a91d5b747f8219cbef689d45a966dc1acc9853dd32c05e53bbdde", checked := Try.checked }
namespace Rows
def none {H : Type} : Left H := { results := [], args := [] }

/-- 'cloisterlaw10.EntryNames': WHATEVER THE INPUT: true; the input reads as it did. -/
def entryNamesSpec : ChangeSpec := { name := "entryNames", fn := fun _ => fun
  | [] => { results := [.lit (.bool true)], args := [] }
  | _ => none }
def entryNamesRow : OpenClaim := { program := "ytnnladfndmdapaa", sum := "c4ed62e0d22a91d5b747f8219cbef689d45a966dc1acc9853dd32c05e53bbdde", func := "cloister/cloisterlaw10.EntryNames", spec := "entryNames", unfollowed := true, recurses := true, apart := false }
def EntryNamesSaid : Prop := entryNamesRow.holds Try.pinned (OpenSpec.ofChange entryNamesSpec)

/-- ITS FALSE NEIGHBOUR: 'it returns false'. Refute it at one input. -/
def entryNamesWrong : ChangeSpec := { name := "entryNames", fn := fun _ => fun
  | [] => { results := [.lit (.bool false)], args := [] }
  | _ => none }
def EntryNamesWrongFalsely : Prop := entryNamesRow.holds Try.pinned (OpenSpec.ofChange entryNamesWrong)

/-- 'cloisterlaw10.EntryForms': WHATEVER THE INPUT: true; the input reads as it did. -/
def entryFormsSpec : ChangeSpec := { name := "entryForms", fn := fun _ => fun
  | [d] => { results := [.lit (.bool true)], args := [d] }
  | _ => none }
def entryFormsRow : OpenClaim := { program := "ytnnladfndmdapaa", sum := "c4ed62e0d22a91d5b747f8219cbef689d45a966dc1acc9853dd32c05e53bbdde", func := "cloister/cloisterlaw10.EntryForms", spec := "entryForms", unfollowed := true, recurses := true, apart := false }
def EntryFormsSaid : Prop := entryFormsRow.holds Try.pinned (OpenSpec.ofChange entryFormsSpec)

/-- ITS FALSE NEIGHBOUR: 'it returns false'. Refute it at one input. -/
def entryFormsWrong : ChangeSpec := { name := "entryForms", fn := fun _ => fun
  | [d] => { results := [.lit (.bool false)], args := [d] }
  | _ => none }
def EntryFormsWrongFalsely : Prop := entryFormsRow.holds Try.pinned (OpenSpec.ofChange entryFormsWrong)

/-- 'cloisterlaw10.EntryReads': WHATEVER THE INPUT: true; the input reads as it did. -/
def entryReadsSpec : ChangeSpec := { name := "entryReads", fn := fun _ => fun
  | [d] => { results := [.lit (.bool true)], args := [d] }
  | _ => none }
def entryReadsRow : OpenClaim := { program := "ytnnladfndmdapaa", sum := "c4ed62e0d22a91d5b747f8219cbef689d45a966dc1acc9853dd32c05e53bbdde", func := "cloister/cloisterlaw10.EntryReads", spec := "entryReads", unfollowed := true, recurses := true, apart := false }
def EntryReadsSaid : Prop := entryReadsRow.holds Try.pinned (OpenSpec.ofChange entryReadsSpec)

/-- ITS FALSE NEIGHBOUR: 'it returns false'. Refute it at one input. -/
def entryReadsWrong : ChangeSpec := { name := "entryReads", fn := fun _ => fun
  | [d] => { results := [.lit (.bool false)], args := [d] }
  | _ => none }
def EntryReadsWrongFalsely : Prop := entryReadsRow.holds Try.pinned (OpenSpec.ofChange entryReadsWrong)

/-- 'cloisterlaw10.EntryBack': WHATEVER THE INPUT: true; the input reads as it did. -/
def entryBackSpec : ChangeSpec := { name := "entryBack", fn := fun _ => fun
  | [d1, d2, d3] => { results := [.lit (.bool true)], args := [d1, d2, d3] }
  | _ => none }
def entryBackRow : OpenClaim := { program := "ytnnladfndmdapaa", sum := "c4ed62e0d22a91d5b747f8219cbef689d45a966dc1acc9853dd32c05e53bbdde", func := "cloister/cloisterlaw10.EntryBack", spec := "entryBack", unfollowed := true, recurses := true, apart := false }
def EntryBackSaid : Prop := entryBackRow.holds Try.pinned (OpenSpec.ofChange entryBackSpec)

/-- ITS FALSE NEIGHBOUR: 'it returns false'. Refute it at one input. -/
def entryBackWrong : ChangeSpec := { name := "entryBack", fn := fun _ => fun
  | [d1, d2, d3] => { results := [.lit (.bool false)], args := [d1, d2, d3] }
  | _ => none }
def EntryBackWrongFalsely : Prop := entryBackRow.holds Try.pinned (OpenSpec.ofChange entryBackWrong)

/-- 'cloisterlaw10.EntryOfs': WHATEVER THE INPUT: true; the input reads as it did. -/
def entryOfsSpec : ChangeSpec := { name := "entryOfs", fn := fun _ => fun
  | [d1, d2] => { results := [.lit (.bool true)], args := [d1, d2] }
  | _ => none }
def entryOfsRow : OpenClaim := { program := "ytnnladfndmdapaa", sum := "c4ed62e0d22a91d5b747f8219cbef689d45a966dc1acc9853dd32c05e53bbdde", func := "cloister/cloisterlaw10.EntryOfs", spec := "entryOfs", unfollowed := true, recurses := true, apart := false }
def EntryOfsSaid : Prop := entryOfsRow.holds Try.pinned (OpenSpec.ofChange entryOfsSpec)

/-- ITS FALSE NEIGHBOUR: 'it returns false'. Refute it at one input. -/
def entryOfsWrong : ChangeSpec := { name := "entryOfs", fn := fun _ => fun
  | [d1, d2] => { results := [.lit (.bool false)], args := [d1, d2] }
  | _ => none }
def EntryOfsWrongFalsely : Prop := entryOfsRow.holds Try.pinned (OpenSpec.ofChange entryOfsWrong)

/-- 'cloisterlaw10.EntryVersions': WHATEVER THE INPUT: true; the input reads as it did. -/
def entryVersionsSpec : ChangeSpec := { name := "entryVersions", fn := fun _ => fun
  | [d] => { results := [.lit (.bool true)], args := [d] }
  | _ => none }
def entryVersionsRow : OpenClaim := { program := "ytnnladfndmdapaa", sum := "c4ed62e0d22a91d5b747f8219cbef689d45a966dc1acc9853dd32c05e53bbdde", func := "cloister/cloisterlaw10.EntryVersions", spec := "entryVersions", unfollowed := true, recurses := true, apart := false }
def EntryVersionsSaid : Prop := entryVersionsRow.holds Try.pinned (OpenSpec.ofChange entryVersionsSpec)

/-- ITS FALSE NEIGHBOUR: 'it returns false'. Refute it at one input. -/
def entryVersionsWrong : ChangeSpec := { name := "entryVersions", fn := fun _ => fun
  | [d] => { results := [.lit (.bool false)], args := [d] }
  | _ => none }
def EntryVersionsWrongFalsely : Prop := entryVersionsRow.holds Try.pinned (OpenSpec.ofChange entryVersionsWrong)

/-- 'cloisterlaw10.EntryKeeps': WHATEVER THE INPUT: true; the input reads as it did. -/
def entryKeepsSpec : ChangeSpec := { name := "entryKeeps", fn := fun _ => fun
  | [d1, d2] => { results := [.lit (.bool true)], args := [d1, d2] }
  | _ => none }
def entryKeepsRow : OpenClaim := { program := "ytnnladfndmdapaa", sum := "c4ed62e0d22a91d5b747f8219cbef689d45a966dc1acc9853dd32c05e53bbdde", func := "cloister/cloisterlaw10.EntryKeeps", spec := "entryKeeps", unfollowed := true, recurses := true, apart := false }
def EntryKeepsSaid : Prop := entryKeepsRow.holds Try.pinned (OpenSpec.ofChange entryKeepsSpec)

/-- ITS FALSE NEIGHBOUR: 'it returns false'. Refute it at one input. -/
def entryKeepsWrong : ChangeSpec := { name := "entryKeeps", fn := fun _ => fun
  | [d1, d2] => { results := [.lit (.bool false)], args := [d1, d2] }
  | _ => none }
def EntryKeepsWrongFalsely : Prop := entryKeepsRow.holds Try.pinned (OpenSpec.ofChange entryKeepsWrong)

/-- 'cloisterlaw11.WalJunk': WHATEVER THE INPUT: true; the input reads as it did. -/
def walJunkSpec : ChangeSpec := { name := "walJunk", fn := fun _ => fun
  | [d1, d2, d3] => { results := [.lit (.bool true)], args := [d1, d2, d3] }
  | _ => none }
def walJunkRow : OpenClaim := { program := "ytnnladfndmdapaa", sum := "c4ed62e0d22a91d5b747f8219cbef689d45a966dc1acc9853dd32c05e53bbdde", func := "cloister/cloisterlaw11.WalJunk", spec := "walJunk", unfollowed := true, recurses := true, apart := false }
def WalJunkSaid : Prop := walJunkRow.holds Try.pinned (OpenSpec.ofChange walJunkSpec)

/-- ITS FALSE NEIGHBOUR: 'it returns false'. Refute it at one input. -/
def walJunkWrong : ChangeSpec := { name := "walJunk", fn := fun _ => fun
  | [d1, d2, d3] => { results := [.lit (.bool false)], args := [d1, d2, d3] }
  | _ => none }
def WalJunkWrongFalsely : Prop := walJunkRow.holds Try.pinned (OpenSpec.ofChange walJunkWrong)

/-- 'cloisterlaw11.WalFresh': WHATEVER THE INPUT: true; the input reads as it did. -/
def walFreshSpec : ChangeSpec := { name := "walFresh", fn := fun _ => fun
  | [d1, d2] => { results := [.lit (.bool true)], args := [d1, d2] }
  | _ => none }
def walFreshRow : OpenClaim := { program := "ytnnladfndmdapaa", sum := "c4ed62e0d22a91d5b747f8219cbef689d45a966dc1acc9853dd32c05e53bbdde", func := "cloister/cloisterlaw11.WalFresh", spec := "walFresh", unfollowed := true, recurses := true, apart := false }
def WalFreshSaid : Prop := walFreshRow.holds Try.pinned (OpenSpec.ofChange walFreshSpec)

/-- ITS FALSE NEIGHBOUR: 'it returns false'. Refute it at one input. -/
def walFreshWrong : ChangeSpec := { name := "walFresh", fn := fun _ => fun
  | [d1, d2] => { results := [.lit (.bool false)], args := [d1, d2] }
  | _ => none }
def WalFreshWrongFalsely : Prop := walFreshRow.holds Try.pinned (OpenSpec.ofChange walFreshWrong)

/-- 'cloisterlaw11.WalThere': WHATEVER THE INPUT: true; the input reads as it did. -/
def walThereSpec : ChangeSpec := { name := "walThere", fn := fun _ => fun
  | [d1, d2] => { results := [.lit (.bool true)], args := [d1, d2] }
  | _ => none }
def walThereRow : OpenClaim := { program := "ytnnladfndmdapaa", sum := "c4ed62e0d22a91d5b747f8219cbef689d45a966dc1acc9853dd32c05e53bbdde", func := "cloister/cloisterlaw11.WalThere", spec := "walThere", unfollowed := true, recurses := true, apart := false }
def WalThereSaid : Prop := walThereRow.holds Try.pinned (OpenSpec.ofChange walThereSpec)

/-- ITS FALSE NEIGHBOUR: 'it returns false'. Refute it at one input. -/
def walThereWrong : ChangeSpec := { name := "walThere", fn := fun _ => fun
  | [d1, d2] => { results := [.lit (.bool false)], args := [d1, d2] }
  | _ => none }
def WalThereWrongFalsely : Prop := walThereRow.holds Try.pinned (OpenSpec.ofChange walThereWrong)

/-- 'cloisterlaw11.WalStruck': WHATEVER THE INPUT: true; the input reads as it did. -/
def walStruckSpec : ChangeSpec := { name := "walStruck", fn := fun _ => fun
  | [d1, d2, d3, d4] => { results := [.lit (.bool true)], args := [d1, d2, d3, d4] }
  | _ => none }
def walStruckRow : OpenClaim := { program := "ytnnladfndmdapaa", sum := "c4ed62e0d22a91d5b747f8219cbef689d45a966dc1acc9853dd32c05e53bbdde", func := "cloister/cloisterlaw11.WalStruck", spec := "walStruck", unfollowed := true, recurses := true, apart := false }
def WalStruckSaid : Prop := walStruckRow.holds Try.pinned (OpenSpec.ofChange walStruckSpec)

/-- ITS FALSE NEIGHBOUR: 'it returns false'. Refute it at one input. -/
def walStruckWrong : ChangeSpec := { name := "walStruck", fn := fun _ => fun
  | [d1, d2, d3, d4] => { results := [.lit (.bool false)], args := [d1, d2, d3, d4] }
  | _ => none }
def WalStruckWrongFalsely : Prop := walStruckRow.holds Try.pinned (OpenSpec.ofChange walStruckWrong)

/-- 'cloisterlaw11.WalCuts': WHATEVER THE INPUT: true; the input reads as it did. -/
def walCutsSpec : ChangeSpec := { name := "walCuts", fn := fun _ => fun
  | [d1, d2, d3] => { results := [.lit (.bool true)], args := [d1, d2, d3] }
  | _ => none }
def walCutsRow : OpenClaim := { program := "ytnnladfndmdapaa", sum := "c4ed62e0d22a91d5b747f8219cbef689d45a966dc1acc9853dd32c05e53bbdde", func := "cloister/cloisterlaw11.WalCuts", spec := "walCuts", unfollowed := true, recurses := true, apart := false }
def WalCutsSaid : Prop := walCutsRow.holds Try.pinned (OpenSpec.ofChange walCutsSpec)

/-- ITS FALSE NEIGHBOUR: 'it returns false'. Refute it at one input. -/
def walCutsWrong : ChangeSpec := { name := "walCuts", fn := fun _ => fun
  | [d1, d2, d3] => { results := [.lit (.bool false)], args := [d1, d2, d3] }
  | _ => none }
def WalCutsWrongFalsely : Prop := walCutsRow.holds Try.pinned (OpenSpec.ofChange walCutsWrong)

/-- 'cloisterlaw11.WalOpens': WHATEVER THE INPUT: true; the input reads as it did. -/
def walOpensSpec : ChangeSpec := { name := "walOpens", fn := fun _ => fun
  | [d1, d2, d3] => { results := [.lit (.bool true)], args := [d1, d2, d3] }
  | _ => none }
def walOpensRow : OpenClaim := { program := "ytnnladfndmdapaa", sum := "c4ed62e0d22a91d5b747f8219cbef689d45a966dc1acc9853dd32c05e53bbdde", func := "cloister/cloisterlaw11.WalOpens", spec := "walOpens", unfollowed := true, recurses := true, apart := false }
def WalOpensSaid : Prop := walOpensRow.holds Try.pinned (OpenSpec.ofChange walOpensSpec)

/-- ITS FALSE NEIGHBOUR: 'it returns false'. Refute it at one input. -/
def walOpensWrong : ChangeSpec := { name := "walOpens", fn := fun _ => fun
  | [d1, d2, d3] => { results := [.lit (.bool false)], args := [d1, d2, d3] }
  | _ => none }
def WalOpensWrongFalsely : Prop := walOpensRow.holds Try.pinned (OpenSpec.ofChange walOpensWrong)

/- THE SECOND FORM. 'bulk': how many values and letters a reading holds, each counted each time it is reached (what is shared counts as often as it is met; a slice's spare places count too). A statement '..UptoSaid' is the law's where the arguments, and the package variables that the reading takes, are together of bulk at most 1048576: NARROWER than '..Said'. Prove '..Said' where nothing that the law and all that it calls make is longer than what came in: it says more and counts as full. Else prove '..UptoSaid'. A law counts once. -/
mutual
def uptoBulk {H : Type} : DataW H → Nat
  | .lit (.string bytes) => bytes.length + 1
  | .lit _ => 1
  | .nil => 1
  | .ptr d => uptoBulk d + 1
  | .slice elems spare => uptoBulkAll elems + uptoBulkAll spare + 1
  | .agg parts => uptoBulkAll parts + 1
  | .iface _ d => uptoBulk d + 1
  | .map entries => uptoBulkEntries entries + 1
  | .held _ => 1
def uptoBulkAll {H : Type} : List (DataW H) → Nat
  | [] => 0
  | d :: r => uptoBulk d + uptoBulkAll r
def uptoBulkEntries {H : Type} : List (Lit × DataW H) → Nat
  | [] => 0
  | x :: r => uptoBulkEntry x + uptoBulkEntries r
def uptoBulkEntry {H : Type} : Lit × DataW H → Nat
  | (.string bytes, d) => bytes.length + uptoBulk d + 1
  | (_, d) => uptoBulk d + 1
 end
def uptoSmall : (H : Type) → List (DataW H) → Bool := fun _ ds => decide (uptoBulkAll ds ≤ 1048576)
def OpenSpec.upto (s : _root_.Go.ChangeSpec) : _root_.Go.OpenSpec := { _root_.Go.OpenSpec.ofChange s with cond := some uptoSmall }

/-- 'cloisterlaw10.EntryNames', WHERE WHAT IT READS IS OF BULK AT MOST 1048576: true; the input reads as it did. -/
def entryNamesUptoRow : OpenClaim := { program := "ytnnladfndmdapaa", sum := "c4ed62e0d22a91d5b747f8219cbef689d45a966dc1acc9853dd32c05e53bbdde", func := "cloister/cloisterlaw10.EntryNames", spec := "entryNames", unfollowed := true, recurses := true, apart := false, narrowed := true }
def EntryNamesUptoSaid : Prop := entryNamesUptoRow.holds Try.pinned (OpenSpec.upto entryNamesSpec)

/-- 'cloisterlaw10.EntryForms', WHERE WHAT IT READS IS OF BULK AT MOST 1048576: true; the input reads as it did. -/
def entryFormsUptoRow : OpenClaim := { program := "ytnnladfndmdapaa", sum := "c4ed62e0d22a91d5b747f8219cbef689d45a966dc1acc9853dd32c05e53bbdde", func := "cloister/cloisterlaw10.EntryForms", spec := "entryForms", unfollowed := true, recurses := true, apart := false, narrowed := true }
def EntryFormsUptoSaid : Prop := entryFormsUptoRow.holds Try.pinned (OpenSpec.upto entryFormsSpec)

/-- 'cloisterlaw10.EntryReads', WHERE WHAT IT READS IS OF BULK AT MOST 1048576: true; the input reads as it did. -/
def entryReadsUptoRow : OpenClaim := { program := "ytnnladfndmdapaa", sum := "c4ed62e0d22a91d5b747f8219cbef689d45a966dc1acc9853dd32c05e53bbdde", func := "cloister/cloisterlaw10.EntryReads", spec := "entryReads", unfollowed := true, recurses := true, apart := false, narrowed := true }
def EntryReadsUptoSaid : Prop := entryReadsUptoRow.holds Try.pinned (OpenSpec.upto entryReadsSpec)

/-- 'cloisterlaw10.EntryBack', WHERE WHAT IT READS IS OF BULK AT MOST 1048576: true; the input reads as it did. -/
def entryBackUptoRow : OpenClaim := { program := "ytnnladfndmdapaa", sum := "c4ed62e0d22a91d5b747f8219cbef689d45a966dc1acc9853dd32c05e53bbdde", func := "cloister/cloisterlaw10.EntryBack", spec := "entryBack", unfollowed := true, recurses := true, apart := false, narrowed := true }
def EntryBackUptoSaid : Prop := entryBackUptoRow.holds Try.pinned (OpenSpec.upto entryBackSpec)

/-- 'cloisterlaw10.EntryOfs', WHERE WHAT IT READS IS OF BULK AT MOST 1048576: true; the input reads as it did. -/
def entryOfsUptoRow : OpenClaim := { program := "ytnnladfndmdapaa", sum := "c4ed62e0d22a91d5b747f8219cbef689d45a966dc1acc9853dd32c05e53bbdde", func := "cloister/cloisterlaw10.EntryOfs", spec := "entryOfs", unfollowed := true, recurses := true, apart := false, narrowed := true }
def EntryOfsUptoSaid : Prop := entryOfsUptoRow.holds Try.pinned (OpenSpec.upto entryOfsSpec)

/-- 'cloisterlaw10.EntryVersions', WHERE WHAT IT READS IS OF BULK AT MOST 1048576: true; the input reads as it did. -/
def entryVersionsUptoRow : OpenClaim := { program := "ytnnladfndmdapaa", sum := "c4ed62e0d22a91d5b747f8219cbef689d45a966dc1acc9853dd32c05e53bbdde", func := "cloister/cloisterlaw10.EntryVersions", spec := "entryVersions", unfollowed := true, recurses := true, apart := false, narrowed := true }
def EntryVersionsUptoSaid : Prop := entryVersionsUptoRow.holds Try.pinned (OpenSpec.upto entryVersionsSpec)

/-- 'cloisterlaw10.EntryKeeps', WHERE WHAT IT READS IS OF BULK AT MOST 1048576: true; the input reads as it did. -/
def entryKeepsUptoRow : OpenClaim := { program := "ytnnladfndmdapaa", sum := "c4ed62e0d22a91d5b747f8219cbef689d45a966dc1acc9853dd32c05e53bbdde", func := "cloister/cloisterlaw10.EntryKeeps", spec := "entryKeeps", unfollowed := true, recurses := true, apart := false, narrowed := true }
def EntryKeepsUptoSaid : Prop := entryKeepsUptoRow.holds Try.pinned (OpenSpec.upto entryKeepsSpec)

/-- 'cloisterlaw11.WalJunk', WHERE WHAT IT READS IS OF BULK AT MOST 1048576: true; the input reads as it did. -/
def walJunkUptoRow : OpenClaim := { program := "ytnnladfndmdapaa", sum := "c4ed62e0d22a91d5b747f8219cbef689d45a966dc1acc9853dd32c05e53bbdde", func := "cloister/cloisterlaw11.WalJunk", spec := "walJunk", unfollowed := true, recurses := true, apart := false, narrowed := true }
def WalJunkUptoSaid : Prop := walJunkUptoRow.holds Try.pinned (OpenSpec.upto walJunkSpec)

/-- 'cloisterlaw11.WalFresh', WHERE WHAT IT READS IS OF BULK AT MOST 1048576: true; the input reads as it did. -/
def walFreshUptoRow : OpenClaim := { program := "ytnnladfndmdapaa", sum := "c4ed62e0d22a91d5b747f8219cbef689d45a966dc1acc9853dd32c05e53bbdde", func := "cloister/cloisterlaw11.WalFresh", spec := "walFresh", unfollowed := true, recurses := true, apart := false, narrowed := true }
def WalFreshUptoSaid : Prop := walFreshUptoRow.holds Try.pinned (OpenSpec.upto walFreshSpec)

/-- 'cloisterlaw11.WalThere', WHERE WHAT IT READS IS OF BULK AT MOST 1048576: true; the input reads as it did. -/
def walThereUptoRow : OpenClaim := { program := "ytnnladfndmdapaa", sum := "c4ed62e0d22a91d5b747f8219cbef689d45a966dc1acc9853dd32c05e53bbdde", func := "cloister/cloisterlaw11.WalThere", spec := "walThere", unfollowed := true, recurses := true, apart := false, narrowed := true }
def WalThereUptoSaid : Prop := walThereUptoRow.holds Try.pinned (OpenSpec.upto walThereSpec)

/-- 'cloisterlaw11.WalStruck', WHERE WHAT IT READS IS OF BULK AT MOST 1048576: true; the input reads as it did. -/
def walStruckUptoRow : OpenClaim := { program := "ytnnladfndmdapaa", sum := "c4ed62e0d22a91d5b747f8219cbef689d45a966dc1acc9853dd32c05e53bbdde", func := "cloister/cloisterlaw11.WalStruck", spec := "walStruck", unfollowed := true, recurses := true, apart := false, narrowed := true }
def WalStruckUptoSaid : Prop := walStruckUptoRow.holds Try.pinned (OpenSpec.upto walStruckSpec)

/-- 'cloisterlaw11.WalCuts', WHERE WHAT IT READS IS OF BULK AT MOST 1048576: true; the input reads as it did. -/
def walCutsUptoRow : OpenClaim := { program := "ytnnladfndmdapaa", sum := "c4ed62e0d22a91d5b747f8219cbef689d45a966dc1acc9853dd32c05e53bbdde", func := "cloister/cloisterlaw11.WalCuts", spec := "walCuts", unfollowed := true, recurses := true, apart := false, narrowed := true }
def WalCutsUptoSaid : Prop := walCutsUptoRow.holds Try.pinned (OpenSpec.upto walCutsSpec)

/-- 'cloisterlaw11.WalOpens', WHERE WHAT IT READS IS OF BULK AT MOST 1048576: true; the input reads as it did. -/
def walOpensUptoRow : OpenClaim := { program := "ytnnladfndmdapaa", sum := "c4ed62e0d22a91d5b747f8219cbef689d45a966dc1acc9853dd32c05e53bbdde", func := "cloister/cloisterlaw11.WalOpens", spec := "walOpens", unfollowed := true, recurses := true, apart := false, narrowed := true }
def WalOpensUptoSaid : Prop := walOpensUptoRow.holds Try.pinned (OpenSpec.upto walOpensSpec)

end Rows
end Go.Proofs.Ytnnladfndmdapaa

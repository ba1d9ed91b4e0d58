/- CommitEntries: the walk. -/
import Derived.Test.YtmnpchncmbnddaaGreatG15
set_option linter.all false
set_option linter.unusedVariables false
set_option linter.unusedSimpArgs false
set_option linter.unnecessarySimpa false
namespace Go.Proofs.YtmnpchncmbnddaaGreat
open Go.RowKit

def gV (A : Option Addr) (n c : Nat) (hs : List Hv) : Item := Item.all (Item.rowT 51 4 (.slice A n c) n (hvCells hs) :: hvRows hs)
end Go.Proofs.YtmnpchncmbnddaaGreat


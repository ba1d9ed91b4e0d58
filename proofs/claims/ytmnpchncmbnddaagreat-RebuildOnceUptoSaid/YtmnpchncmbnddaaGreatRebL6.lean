/- Laws of layer 20: a log that is not there, and a start that may not be: the law's walk. -/
import Derived.Test.YtmnpchncmbnddaaGreatG21
import Derived.Test.YtmnpchncmbnddaaGreatRebL1
set_option linter.all false
set_option linter.unusedVariables false
set_option linter.unusedSimpArgs false
set_option linter.unnecessarySimpa false
namespace Go.Proofs.YtmnpchncmbnddaaGreat
open Go.RowKit

/-- A log of a disk that was opened. -/
theorem lg_of {w w1 w2 : World} {gl g gp : Nat} {ar : Bool} {p : Pt} (T : Turn (Item.all []) w (Dk.item ⟨g, gp, ar, [p]⟩) w1) (hg : w1.heap.size ≤ gl) (hk : Blk w2 gl 151 (logCells ⟨g, gp, ar, [p]⟩ 0)) (hb : Below w1.heap.size w1 w2) : Turn (Item.all []) w (Item.all [lg gl g gp ar p]) w2 := by
  have t1 := (T.one).more (y := Item.blk gl 151 (logCells ⟨g, gp, ar, [p]⟩ 0)) hb hk (fun k hk => by have : k = gl := hk; omega)
  exact Turn.one t1
end Go.Proofs.YtmnpchncmbnddaaGreat


/- WalThere: the walk (printed by a program of this claim's own). -/
import Derived.Test.YtmnpchncmbnddaaGreatG13
import Derived.Test.YtmnpchncmbnddaaGreatG23
set_option linter.all false
set_option linter.unusedVariables false
set_option linter.unusedSimpArgs false
set_option linter.unnecessarySimpa false
namespace Go.Proofs.YtmnpchncmbnddaaGreat
open Go.RowKit

end Go.Proofs.YtmnpchncmbnddaaGreat


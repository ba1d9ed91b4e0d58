/- Laws of layer 20: every Image, of a store that is not there too: the law's walk. -/
import Derived.Test.YtmnpchncmbnddaaG15
import Derived.Test.YtmnpchncmbnddaaG19
import Derived.Test.YtmnpchncmbnddaaG14
set_option linter.all false
set_option linter.unusedVariables false
set_option linter.unusedSimpArgs false
set_option linter.unnecessarySimpa false
namespace Go.Proofs.Ytmnpchncmbnddaa
open Go.RowKit

theorem RelRS.ints {R : List Vn} {S : PS} (h : RelRS R S) : ∀ e ∈ R, e.ints := fun e he => by
  have := h.each e he
  exact ⟨by omega, by omega⟩
end Go.Proofs.Ytmnpchncmbnddaa


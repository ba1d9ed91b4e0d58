/- CommitNames: the walk. -/
import Derived.Test.YtoecgkdipgaaeaaG14
set_option linter.all false
set_option linter.unusedVariables false
set_option linter.unusedSimpArgs false
set_option linter.unnecessarySimpa false
namespace Go.Proofs.Ytoecgkdipgaaeaa
open Go.RowKit

set_option maxRecDepth 100000 in
theorem commitNames_walk {w : World} : Calls Try.prog 3 #[] w (True_ w) := by
  go_enter Try.func3, Try.ntmps3
  go_wp2_with fail
  refine awake19_any.mono ?_
  rintro e w1 ⟨rfl, hb⟩
  have HB := Lib.hid hb
  clear hb
  go_wp2
  go_ret
  exact ⟨rfl, HB.out⟩
end Go.Proofs.Ytoecgkdipgaaeaa

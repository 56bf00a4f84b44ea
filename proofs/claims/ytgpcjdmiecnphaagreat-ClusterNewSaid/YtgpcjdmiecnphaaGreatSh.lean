/- The functions of the program, told as predicate transformers: printed by wip/tools/shprint.py; each is what the model makes of the function, by the kernel's reckoning. -/
import Derived.Test.YtgpcjdmiecnphaaGreatPwM
import Derived.Test.YtgpcjdmiecnphaaGreatProg
import Derived.KernelRfl
set_option linter.unusedVariables false
set_option maxRecDepth 100000
namespace Go.Pw
open Go Go.Proofs
theorem mixed : Tryz.prog.follows .mixedOrders = true := by kernel_rfl
def qf : FuncId → Bool := memN [1000000]
theorem cal0 {f : FuncId} {fn : Func} {args : Array Value} {h : PH} {R : AEnd → PH → Prop} {X : Prop} (o : List (Nat × List (Nat × List Nat))) (hf : Tryz.prog.funcs[f]? = some fn) (hc : chk Tryz.prog qf fn o [] = true) (he : denF Tryz.prog qf (ordOf o) noLoops fn.results.toList (bodyOf fn) args h R = X) (H : X) : ACalls Tryz.prog f args h R := calP mixed o [] hf hc .nil he H
theorem calL {f : FuncId} {fn : Func} {args : Array Value} {h : PH} {R : AEnd → PH → Prop} {X : Prop} (o : List (Nat × List (Nat × List Nat))) (G : List LG) (hf : Tryz.prog.funcs[f]? = some fn) (hc : chk Tryz.prog qf fn o (G.map LG.i) = true) (hB : LGB Tryz.prog qf (ordOf o) (fun c h => R (.pan c) h) (LGL G fun c h => R (.pan c) h) (bodyOf fn) 0 G) (he : denF Tryz.prog qf (ordOf o) (LGL G fun c h => R (.pan c) h) fn.results.toList (bodyOf fn) args h R = X) (H : X) : ACalls Tryz.prog f args h R := calP mixed o G hf hc hB he H
end Go.Pw

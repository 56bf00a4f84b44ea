/- gavellaw11.awake, carried out. -/
import Derived.Test.YtgpcjdmiecnphaaGreatPxT
set_option maxRecDepth 1000000
namespace Go.Px
open Go Go.Pw Go.Proofs
noncomputable def isT (r : CR) (_ : CH) : Bool := match r with | .ret (.bool b) => b | _ => false
theorem run9 : xF Tryz.prog lib ot gt 2000 60 9 [] h0 isT = true := by kernel_rfl
end Go.Px

/- gavellaw13.awake, carried out. -/
import Derived.Test.YtgpcjdmiecnphaaGreatPxT
set_option maxRecDepth 1000000
namespace Go.Px
open Go Go.Pw Go.Proofs
noncomputable def isT2 (r : CR) (_ : CH) : Bool := match r with | .ret (.bool b) => b | _ => false
theorem run21 : xF Tryz.prog lib ot gt 2000 60 21 [] h0 isT2 = true := by kernel_rfl
end Go.Px

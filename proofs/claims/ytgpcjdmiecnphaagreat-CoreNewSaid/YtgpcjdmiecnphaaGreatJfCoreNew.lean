/- The closed facts of the row CoreNew. -/
import Derived.Test.YtgpcjdmiecnphaaGreatRows
import Derived.JoinedOf
import Derived.KernelRfl
set_option maxRecDepth 100000
namespace Go.Proofs.YtgpcjdmiecnphaaGreat
open Go Go.Proofs
theorem and_t {a b : Bool} (h1 : a = true) (h2 : b = true) : (a && b) = true := by rw [h1, h2]; rfl
theorem jfM : mapsRowed Tryz.prog = true := by kernel_rfl
theorem jfI : (Rows.coreNewRow.inPlace == Tryz.prog.inPlace 3) = true := by kernel_rfl
theorem jfU : (Rows.coreNewRow.unfollowed == Tryz.prog.unfollowed 3) = true := by kernel_rfl
theorem jfR : (Rows.coreNewRow.recurses == Tryz.prog.recurses 3) = true := by kernel_rfl
theorem jfN : (Rows.coreNewRow.named == Tryz.prog.varsNamed 3) = true := by kernel_rfl
theorem jf : joinedFacts Tryz.prog 3 Tryz.f3 Rows.coreNewSpec Rows.coreNewRow = true := by
  delta joinedFacts
  repeat' first | with_reducible exact jfM | with_reducible exact jfI | with_reducible exact jfU | with_reducible exact jfR | with_reducible exact jfN | with_reducible apply and_t
  all_goals kernel_rfl
end Go.Proofs.YtgpcjdmiecnphaaGreat

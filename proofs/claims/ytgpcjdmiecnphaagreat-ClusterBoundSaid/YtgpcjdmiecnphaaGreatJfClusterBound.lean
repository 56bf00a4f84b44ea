/- The closed facts of the row ClusterBound. -/
import Derived.Test.YtgpcjdmiecnphaaGreatRows
import Derived.JoinedOf
import Derived.KernelRfl
set_option maxRecDepth 100000
namespace Go.Proofs.YtgpcjdmiecnphaaGreat
open Go Go.Proofs
theorem and_t {a b : Bool} (h1 : a = true) (h2 : b = true) : (a && b) = true := by rw [h1, h2]; rfl
theorem jfM : mapsRowed Tryz.prog = true := by kernel_rfl
theorem jfI : (Rows.clusterBoundRow.inPlace == Tryz.prog.inPlace 4) = true := by kernel_rfl
theorem jfU : (Rows.clusterBoundRow.unfollowed == Tryz.prog.unfollowed 4) = true := by kernel_rfl
theorem jfR : (Rows.clusterBoundRow.recurses == Tryz.prog.recurses 4) = true := by kernel_rfl
theorem jfN : (Rows.clusterBoundRow.named == Tryz.prog.varsNamed 4) = true := by kernel_rfl
theorem jf : joinedFacts Tryz.prog 4 Tryz.f4 Rows.clusterBoundSpec Rows.clusterBoundRow = true := by
  delta joinedFacts
  repeat' first | with_reducible exact jfM | with_reducible exact jfI | with_reducible exact jfU | with_reducible exact jfR | with_reducible exact jfN | with_reducible apply and_t
  all_goals kernel_rfl
end Go.Proofs.YtgpcjdmiecnphaaGreat

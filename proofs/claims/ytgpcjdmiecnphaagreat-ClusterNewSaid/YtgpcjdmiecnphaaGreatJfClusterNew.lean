/- The closed facts of the row ClusterNew. -/
import Derived.Test.YtgpcjdmiecnphaaGreatRows
import Derived.JoinedOf
import Derived.KernelRfl
set_option maxRecDepth 100000
namespace Go.Proofs.YtgpcjdmiecnphaaGreat
open Go Go.Proofs
theorem and_t {a b : Bool} (h1 : a = true) (h2 : b = true) : (a && b) = true := by rw [h1, h2]; rfl
theorem jfM : mapsRowed Tryz.prog = true := by kernel_rfl
theorem jfI : (Rows.clusterNewRow.inPlace == Tryz.prog.inPlace 5) = true := by kernel_rfl
theorem jfU : (Rows.clusterNewRow.unfollowed == Tryz.prog.unfollowed 5) = true := by kernel_rfl
theorem jfR : (Rows.clusterNewRow.recurses == Tryz.prog.recurses 5) = true := by kernel_rfl
theorem jfN : (Rows.clusterNewRow.named == Tryz.prog.varsNamed 5) = true := by kernel_rfl
theorem jf : joinedFacts Tryz.prog 5 Tryz.f5 Rows.clusterNewSpec Rows.clusterNewRow = true := by
  delta joinedFacts
  repeat' first | with_reducible exact jfM | with_reducible exact jfI | with_reducible exact jfU | with_reducible exact jfR | with_reducible exact jfN | with_reducible apply and_t
  all_goals kernel_rfl
end Go.Proofs.YtgpcjdmiecnphaaGreat

/- PROVED HERE: the law gavellaw13.ClusterNew answers true for every consortium (four numbers), every slice of whole numbers and every step that are handed in, never panics, and leaves its arguments and all memory that was there as they were (there are just the clusters that the document says; one that there is not does and tells nothing). No condition. -/
import Derived.Test.YtgpcjdmiecnphaaGreatPyK
import Derived.Test.YtgpcjdmiecnphaaGreatPyL
import Derived.Test.YtgpcjdmiecnphaaGreatPyC
import Derived.Test.YtgpcjdmiecnphaaGreatJfClusterNew
set_option linter.unusedVariables false
namespace Go.Proofs.YtgpcjdmiecnphaaGreat
open Go Go.Proofs Go.ChangeShapes Go.WideShapes Go.ChangeAt Go.RowKit Go.Pw

set_option maxRecDepth 100000 in
theorem clusterNew_lifted (os : Os) (started : os.Started) (H : Type) (enc : TypeId × Value → H) :
    ReturnsInHanded {} Tryz.checked os 5 .any (Rows.clusterNewSpec.pre6 enc Tryz.prog Tryz.f5 Rows.clusterNewRow.domain false) (Rows.clusterNewSpec.post enc Tryz.prog Tryz.f5 false true false false) := by
  refine returnsInHanded_of_change (C := Tryz.checked) try_own started (by kernel_rfl) Tryz.func5
    (ChangeSpec.witness6 (enc := enc) (C := Tryz.checked) false ⟨#[], #[.agg #[.int .i64 0, .int .i64 0, .int .i64 0, .int .i64 0], .slice none 0 0, .agg #[.int .i64 0, .int .i64 0, .int .i64 0, .int .i64 0, .int .i64 0, .int .i64 0, .string ⟨#[]⟩, .slice none 0 0, .int .i64 0, .int .i64 0, .int .i64 0, .int .i64 0, .int .i64 0, .float .f64 0]], []⟩ 8 (by kernel_rfl) (by kernel_rfl) (by kernel_rfl) (by kernel_rfl)) ?_
  intro W base args ds gs before hval0 hW _ _
  have hval : ∀ (j : Nat) t v, Tryz.f5.params[j]? = some t → args[j]? = some v → Value.okWide Tryz.prog W .any base t v := hval0
  have hW' := hW
  obtain ⟨p, q, hA0, hV, rfl, _, _⟩ := hW
  have hA : DataW.TrodAll enc Tryz.prog W 0 (fun _ => true) true Tryz.f5.params.toList args.toList ds p := hA0
  rw [Tryz.params5] at hA hval
  obtain ⟨v0, v1, v2, d0, d1, d2, p0, p1, p2, rfl, rfl, rfl, h0, h1, h2⟩ := trodAll_three hA
  obtain ⟨f, c, g, q, rfl⟩ := open_cfg (hval 0 23 v0 rfl rfl) h0
  obtain ⟨l, hl, hlen⟩ := open_nums (hval 1 46 v1 rfl rfl) h1
  obtain ⟨os, rfl, hos⟩ := okWide_struct Tryz.underlying51 (hval 2 51 v2 rfl rfl)
  exact law_calls (clnew_ok hl hlen (hos.trans (by kernel_rfl)) ⟨rfl, rfl⟩) hW' try_laid (by kernel_rfl) rfl rfl (by kernel_rfl) Tryz.underlying4

set_option maxRecDepth 100000 in
theorem clusterNew_said : Rows.ClusterNewSaid :=
  OpenClaim.holds_of_wide 5 Tryz.f5 rfl rfl rfl rfl rfl rfl rfl ⟨rfl, rfl, rfl, rfl, rfl⟩ rfl rfl rfl rfl rfl (by kernel_rfl) Tryz.func5 jf
    (of_decide_eq_true (by kernel_rfl)) (by unfold Func.isWrapper; first | (rw [if_pos (by decide +kernel)]; kernel_rfl) | (rw [if_neg (by decide +kernel)]; exact ⟨rfl, rfl⟩))
    (fun os started H enc _ => clusterNew_lifted os started H enc)

#print axioms clusterNew_said
end Go.Proofs.YtgpcjdmiecnphaaGreat

/- PROVED HERE: the law gavellaw13.ClusterBound answers true for every consortium (four numbers) and every view that are handed in, never panics, and leaves its arguments and all memory that was there as they were (the bound is the document's). No condition. -/
import Derived.Test.YtgpcjdmiecnphaaGreatPyB
import Derived.Test.YtgpcjdmiecnphaaGreatPyC
import Derived.Test.YtgpcjdmiecnphaaGreatJfClusterBound
set_option linter.unusedVariables false
namespace Go.Proofs.YtgpcjdmiecnphaaGreat
open Go Go.Proofs Go.ChangeShapes Go.WideShapes Go.ChangeAt Go.RowKit Go.Pw

set_option maxRecDepth 100000 in
theorem clusterBound_lifted (os : Os) (started : os.Started) (H : Type) (enc : TypeId × Value → H) :
    ReturnsInHanded {} Tryz.checked os 4 .any (Rows.clusterBoundSpec.pre6 enc Tryz.prog Tryz.f4 Rows.clusterBoundRow.domain false) (Rows.clusterBoundSpec.post enc Tryz.prog Tryz.f4 false true false false) := by
  refine returnsInHanded_of_change (C := Tryz.checked) try_own started (by kernel_rfl) Tryz.func4
    (ChangeSpec.witness6 (enc := enc) (C := Tryz.checked) false ⟨#[], #[.agg #[.int .i64 0, .int .i64 0, .int .i64 0, .int .i64 0], .int .i64 0], []⟩ 8 (by kernel_rfl) (by kernel_rfl) (by kernel_rfl) (by kernel_rfl)) ?_
  intro W base args ds gs before hval0 hW _ _
  have hval : ∀ (j : Nat) t v, Tryz.f4.params[j]? = some t → args[j]? = some v → Value.okWide Tryz.prog W .any base t v := hval0
  have hW' := hW
  obtain ⟨p, q, hA0, hV, rfl, _, _⟩ := hW
  have hA : DataW.TrodAll enc Tryz.prog W 0 (fun _ => true) true Tryz.f4.params.toList args.toList ds p := hA0
  rw [Tryz.params4] at hA hval
  obtain ⟨v0, v1, d0, d1, p0, p1, rfl, rfl, rfl, h0, h1⟩ := trodAll_two hA
  obtain ⟨f, c, g, q, rfl⟩ := open_cfg (hval 0 23 v0 rfl rfl) h0
  obtain ⟨a1, rfl, b1, b2, b3⟩ := open_int Tryz.underlying3 (hval 1 3 v1 rfl rfl) h1
  exact law_calls (cbound_ok ⟨rfl, rfl⟩) hW' try_laid (by kernel_rfl) rfl rfl (by kernel_rfl) Tryz.underlying4

set_option maxRecDepth 100000 in
theorem clusterBound_said : Rows.ClusterBoundSaid :=
  OpenClaim.holds_of_wide 4 Tryz.f4 rfl rfl rfl rfl rfl rfl rfl ⟨rfl, rfl, rfl, rfl, rfl⟩ rfl rfl rfl rfl rfl (by kernel_rfl) Tryz.func4 jf
    (of_decide_eq_true (by kernel_rfl)) (by unfold Func.isWrapper; first | (rw [if_pos (by decide +kernel)]; kernel_rfl) | (rw [if_neg (by decide +kernel)]; exact ⟨rfl, rfl⟩))
    (fun os started H enc _ => clusterBound_lifted os started H enc)

#print axioms clusterBound_said
end Go.Proofs.YtgpcjdmiecnphaaGreat

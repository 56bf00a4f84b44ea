/- PROVED HERE: the law gavellaw09.HouseTold answers true for every script of requests and every number that are handed in, never panics, and leaves its arguments and all memory that was there as they were (what is told of a house is not kept: written over, it tells the same again). No condition. -/
import Derived.Test.YtboeddfdbpjnjaaGreatM17
set_option linter.unusedVariables false
namespace Go.Proofs.YtboeddfdbpjnjaaGreat
open Go Go.Proofs Go.ChangeShapes Go.WideShapes Go.ChangeAt Go.RowKit Go.Pw

set_option maxRecDepth 100000 in
theorem houseTold_lifted (os : Os) (started : os.Started) (H : Type) (enc : TypeId × Value → H) :
    ReturnsInHanded {} Tryz.checked os 10 .any (Rows.houseToldSpec.pre6 enc Tryz.prog Tryz.f10 Rows.houseToldRow.domain false) (Rows.houseToldSpec.post enc Tryz.prog Tryz.f10 false true false false) := by
  refine returnsInHanded_of_change (C := Tryz.checked) try_own started (by kernel_rfl) Tryz.func10
    (ChangeSpec.witness6 (enc := enc) (C := Tryz.checked) false ⟨#[], #[.slice none 0 0, .int .i64 0], []⟩ 8 (by kernel_rfl) (by kernel_rfl) (by kernel_rfl) (by kernel_rfl)) ?_
  intro W base args ds gs before hval0 hW _ _
  have hval : ∀ (j : Nat) t v, Tryz.f10.params[j]? = some t → args[j]? = some v → Value.okWide Tryz.prog W .any base t v := hval0
  have hW' := hW
  obtain ⟨p, q, hA0, hV, rfl, _, _⟩ := hW
  have hA : DataW.TrodAll enc Tryz.prog W 0 (fun _ => true) true Tryz.f10.params.toList args.toList ds p := hA0
  rw [Tryz.params10] at hA hval
  obtain ⟨v0, v1, d0, d1, p0, p1, rfl, rfl, rfl, h0, h1⟩ := trodAll_two hA
  obtain ⟨l0, a0, z0⟩ := open_asks (hval 0 22 v0 rfl rfl) h0
  obtain ⟨a1, rfl, _, _, _⟩ := open_int Tryz.underlying3 (hval 1 3 v1 rfl rfl) h1
  exact law_calls (htold_ok a0 z0 ⟨rfl, rfl⟩) hW' try_laid (by kernel_rfl) rfl rfl (by kernel_rfl) Tryz.underlying4

set_option maxRecDepth 100000 in
theorem houseTold_said : Rows.HouseToldSaid :=
  OpenClaim.holds_of_wide 10 Tryz.f10 rfl rfl rfl rfl rfl rfl rfl ⟨rfl, rfl, rfl, rfl, rfl⟩ rfl rfl rfl rfl rfl (by kernel_rfl) Tryz.func10 (by kernel_rfl)
    (of_decide_eq_true (by kernel_rfl)) (by unfold Func.isWrapper; first | (rw [if_pos (by decide +kernel)]; kernel_rfl) | (rw [if_neg (by decide +kernel)]; exact ⟨rfl, rfl⟩))
    (fun os started H enc _ => houseTold_lifted os started H enc)

#print axioms houseTold_said
end Go.Proofs.YtboeddfdbpjnjaaGreat

/- PROVED HERE: the law gavellaw06.LedgerSame answers true for every two scripts of calls that are handed in, never panics, and leaves its arguments and all memory that was there as they were (two ledgers have the same records just if all that is told of them is the same). No condition. -/
import Derived.Test.YtbidgpchoamdfaaLgO
import Derived.Test.YtbidgpchoamdfaaLgS
set_option linter.unusedVariables false
namespace Go.Proofs.Ytbidgpchoamdfaa
open Go Go.Proofs Go.ChangeShapes Go.WideShapes Go.ChangeAt Go.RowKit Go.Pw

set_option maxRecDepth 100000 in
theorem ledgerSame_lifted (os : Os) (started : os.Started) (H : Type) (enc : TypeId × Value → H) :
    ReturnsInHanded {} Try.checked os 6 .any (Rows.ledgerSameSpec.pre6 enc Try.prog Try.f6 Rows.ledgerSameRow.domain false) (Rows.ledgerSameSpec.post enc Try.prog Try.f6 false true false false) := by
  refine returnsInHanded_of_change (C := Try.checked) try_own started (by kernel_rfl) Try.func6
    (ChangeSpec.witness6 (enc := enc) (C := Try.checked) false ⟨#[], #[.slice none 0 0, .slice none 0 0], []⟩ 8 (by kernel_rfl) (by kernel_rfl) (by kernel_rfl) (by kernel_rfl)) ?_
  intro W base args ds gs before hval0 hW _ _
  have hval : ∀ (j : Nat) t v, Try.f6.params[j]? = some t → args[j]? = some v → Value.okWide Try.prog W .any base t v := hval0
  have hW' := hW
  obtain ⟨p, q, hA0, hV, rfl, _, _⟩ := hW
  have hA : DataW.TrodAll enc Try.prog W 0 (fun _ => true) true Try.f6.params.toList args.toList ds p := hA0
  rw [Try.params6] at hA hval
  obtain ⟨v0, v1, d0, d1, p0, p1, rfl, rfl, rfl, h0, h1⟩ := trodAll_two hA
  obtain ⟨l0, a0⟩ := open_acts (hval 0 22 v0 rfl rfl) h0
  obtain ⟨l1, a1⟩ := open_acts (hval 1 22 v1 rfl rfl) h1
  exact law_calls (lsame_ok a0 a1 ⟨rfl, rfl⟩) hW' try_laid (by kernel_rfl) rfl rfl (by kernel_rfl) Try.underlying4

set_option maxRecDepth 100000 in
theorem ledgerSame_said : Rows.LedgerSameSaid :=
  OpenClaim.holds_of_wide 6 Try.f6 rfl rfl rfl rfl rfl rfl rfl ⟨rfl, rfl, rfl, rfl, rfl⟩ rfl rfl rfl rfl rfl (by kernel_rfl) Try.func6 (by kernel_rfl)
    (of_decide_eq_true (by kernel_rfl)) (by unfold Func.isWrapper; first | (rw [if_pos (by decide +kernel)]; kernel_rfl) | (rw [if_neg (by decide +kernel)]; exact ⟨rfl, rfl⟩))
    (fun os started H enc _ => ledgerSame_lifted os started H enc)

#print axioms ledgerSame_said
end Go.Proofs.Ytbidgpchoamdfaa

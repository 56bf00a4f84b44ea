/- PROVED HERE: the law gavellaw06.LedgerReads answers true for every two numbers and every slice of records that are handed in, never panics, and leaves its arguments and all memory that was there as they were (any records are a ledger's, or refused, as the document says; those that are taken come out again). No condition. -/
import Derived.Test.YtbidgpchoamdfaaM7
import Derived.Test.YtbidgpchoamdfaaM12
import Derived.SizedLaws
set_option linter.unusedVariables false
namespace Go.Proofs.Ytbidgpchoamdfaa
open Go Go.Proofs Go.ChangeShapes Go.WideShapes Go.ChangeAt Go.RowKit Go.Pw

set_option maxRecDepth 100000 in
theorem ledgerReads_lifted (os : Os) (started : os.Started) (H : Type) (enc : TypeId × Value → H) :
    ReturnsInHanded {} Try.checked os 7 .any (Rows.ledgerReadsSpec.pre6 enc Try.prog Try.f7 Rows.ledgerReadsRow.domain false) (Rows.ledgerReadsSpec.post enc Try.prog Try.f7 false true false false) := by
  refine returnsInHanded_of_change_sized (C := Try.checked) try_own started (by kernel_rfl) Try.func7
    (ChangeSpec.witness6 (enc := enc) (C := Try.checked) false ⟨#[], #[.int .i64 0, .int .i64 0, .slice none 0 0], []⟩ 8 (by kernel_rfl) (by kernel_rfl) (by kernel_rfl) (by kernel_rfl)) ?_
  intro W base args ds gs before hval0 hW _ hsz0 _
  have hsz : (DataW.weightsEach Try.prog (Try.f7.params.toList ++ Rows.ledgerReadsSpec.plain.varTypes Try.prog) (ds ++ gs)).all (· ≤ reachBytes) = true := hsz0
  have hval : ∀ (j : Nat) t v, Try.f7.params[j]? = some t → args[j]? = some v → Value.okWide Try.prog W .any base t v := hval0
  have hW' := hW
  obtain ⟨p, q, hA0, hV, rfl, _, _⟩ := hW
  have hA : DataW.TrodAll enc Try.prog W 0 (fun _ => true) true Try.f7.params.toList args.toList ds p := hA0
  rw [Try.params7] at hA hval hsz
  obtain ⟨v0, v1, v2, d0, d1, d2, p0, p1, p2, rfl, rfl, rfl, h0, h1, h2⟩ := trodAll_three hA
  obtain ⟨a0, rfl, _, _, _⟩ := open_int Try.underlying3 (hval 0 3 v0 rfl rfl) h0
  obtain ⟨a1, rfl, _, _, _⟩ := open_int Try.underlying3 (hval 1 3 v1 rfl rfl) h1
  obtain ⟨l2, a2, z2⟩ := open_recs (hval 2 27 v2 rfl rfl) h2
  have s2 : ∀ a ∈ l2, a.2.size < 4611686018427387000 := fun a ha => by
    have := List.all_eq_true.1 hsz _ (DataW.weights_mem_each (j := 2) (t := 27) rfl rfl _ (z2 a ha))
    have h47 := reachBytes_lt
    have h48 : a.2.size ≤ reachBytes := by simpa using this
    omega
  exact law_calls (lreads_ok a2 s2 ⟨rfl, rfl⟩) hW' try_laid (by kernel_rfl) rfl rfl (by kernel_rfl) Try.underlying4

set_option maxRecDepth 100000 in
theorem ledgerReads_said : Rows.LedgerReadsSaid :=
  OpenClaim.holds_of_wide 7 Try.f7 rfl rfl rfl rfl rfl rfl rfl ⟨rfl, rfl, rfl, rfl, rfl⟩ rfl rfl rfl rfl rfl (by kernel_rfl) Try.func7 (by kernel_rfl)
    (of_decide_eq_true (by kernel_rfl)) (by unfold Func.isWrapper; first | (rw [if_pos (by decide +kernel)]; kernel_rfl) | (rw [if_neg (by decide +kernel)]; exact ⟨rfl, rfl⟩))
    (fun os started H enc _ => ledgerReads_lifted os started H enc)

#print axioms ledgerReads_said
end Go.Proofs.Ytbidgpchoamdfaa

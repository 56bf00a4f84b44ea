/- PROVED HERE: the law gavellaw09.HouseReads answers true for every script of requests and every change of records that are handed in, never panics, and leaves its arguments and all memory that was there as they were (whatever records a house is made of, if they are taken they come out again, and all in it is sound; else it is ErrState). No condition. -/
import Derived.Test.YtboeddfdbpjnjaaGreatM17
import Derived.Test.YtboeddfdbpjnjaaGreatM18
set_option linter.unusedVariables false
namespace Go.Proofs.YtboeddfdbpjnjaaGreat
open Go Go.Proofs Go.ChangeShapes Go.WideShapes Go.ChangeAt Go.RowKit Go.Pw

set_option maxRecDepth 100000 in
theorem houseReads_lifted (os : Os) (started : os.Started) (H : Type) (enc : TypeId × Value → H) :
    ReturnsInHanded {} Tryz.checked os 9 .any (Rows.houseReadsSpec.pre6 enc Tryz.prog Tryz.f9 Rows.houseReadsRow.domain false) (Rows.houseReadsSpec.post enc Tryz.prog Tryz.f9 false true false false) := by
  refine returnsInHanded_of_change_sized (C := Tryz.checked) try_own started (by kernel_rfl) Tryz.func9
    (ChangeSpec.witness6 (enc := enc) (C := Tryz.checked) false ⟨#[], #[.slice none 0 0, .agg #[.int .i64 0, .string ⟨#[]⟩, .bool false]], []⟩ 8 (by kernel_rfl) (by kernel_rfl) (by kernel_rfl) (by kernel_rfl)) ?_
  intro W base args ds gs before hval0 hW _ hsz0 _
  have hsz : (DataW.weightsEach Tryz.prog (Tryz.f9.params.toList ++ Rows.houseReadsSpec.plain.varTypes Tryz.prog) (ds ++ gs)).all (· ≤ reachBytes) = true := hsz0
  have hval : ∀ (j : Nat) t v, Tryz.f9.params[j]? = some t → args[j]? = some v → Value.okWide Tryz.prog W .any base t v := hval0
  have hW' := hW
  obtain ⟨p, q, hA0, hV, rfl, _, _⟩ := hW
  have hA : DataW.TrodAll enc Tryz.prog W 0 (fun _ => true) true Tryz.f9.params.toList args.toList ds p := hA0
  rw [Tryz.params9] at hA hval hsz
  obtain ⟨v0, v1, d0, d1, p0, p1, rfl, rfl, rfl, h0, h1⟩ := trodAll_two hA
  obtain ⟨l0, a0, z0⟩ := open_asks (hval 0 22 v0 rfl rfl) h0
  obtain ⟨a1, rfl, z1⟩ := open_turn (hval 1 75 v1 rfl rfl) h1
  have s1 : a1.val.size < 4611686018427387000 := by
    have := List.all_eq_true.1 hsz _ (DataW.weights_mem_each (j := 1) (t := 75) rfl rfl _ z1)
    have h47 := reachBytes_lt
    have h48 : a1.val.size ≤ reachBytes := by simpa using this
    omega
  exact law_calls (hreads_ok a0 z0 s1 ⟨rfl, rfl⟩) hW' try_laid (by kernel_rfl) rfl rfl (by kernel_rfl) Tryz.underlying4

set_option maxRecDepth 100000 in
theorem houseReads_said : Rows.HouseReadsSaid :=
  OpenClaim.holds_of_wide 9 Tryz.f9 rfl rfl rfl rfl rfl rfl rfl ⟨rfl, rfl, rfl, rfl, rfl⟩ rfl rfl rfl rfl rfl (by kernel_rfl) Tryz.func9 (by kernel_rfl)
    (of_decide_eq_true (by kernel_rfl)) (by unfold Func.isWrapper; first | (rw [if_pos (by decide +kernel)]; kernel_rfl) | (rw [if_neg (by decide +kernel)]; exact ⟨rfl, rfl⟩))
    (fun os started H enc _ => houseReads_lifted os started H enc)

#print axioms houseReads_said
end Go.Proofs.YtboeddfdbpjnjaaGreat

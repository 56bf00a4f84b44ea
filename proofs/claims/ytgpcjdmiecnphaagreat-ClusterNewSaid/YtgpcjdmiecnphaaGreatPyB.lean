/- Both examples answer true; the law on the bound. -/
import Derived.Test.YtgpcjdmiecnphaaGreatPyA
import Derived.Test.YtgpcjdmiecnphaaGreatPxY
import Derived.Test.YtgpcjdmiecnphaaGreatPxW21
set_option linter.unusedSimpArgs false
set_option linter.unusedVariables false
namespace Go.Pw
open Go Go.Proofs
section
variable {h : PH} {R : AEnd → PH → Prop}
theorem isT2_true {v : Px.CV} {x : Value} {ns : List Px.Nm} {H : Px.CH} (hx : Px.toV ns v = some x) (hk : Px.isT2 (.ret v) H = true) : x = .bool true := by
  cases v <;> simp only [Px.isT2, Bool.false_eq_true] at hk
  subst hk
  simpa [Px.toV, eq_comm] using hx
theorem awake13_ok (hR : ∀ h', Sub h h' → R (.ret (.bool true)) h') : ACalls Tryz.prog 21 #[] h R :=
  Px.ran (vs := []) (xs := []) Px.run21 rfl (fun _ _ => rfl) h fun ns v x H' h' hs hx hk => by
    rw [isT2_true hx hk]; exact hR h' hs
theorem cbound_ok {f c g p v : Int} (hR : R (.ret (.bool true)) h) : ACalls Tryz.prog 4 #[cfg f c g p, .int .i64 v] h R := by
  refine ACalls.drop (call4 ?_)
  unfold sh4
  refine vNew_gen fun t G ht s1 hG => ?_
  rw [vLoad_n hG (by show 0 + 4 ≤ 4; omega), vLoad_n hG (by show 0 + 4 ≤ 4; omega)]
  refine bound_ok (f := f) (c := c) (g := g) (p := p) ?_
  simp only [AEnd.elim]
  rw [vLoad_n hG (by show 0 + 4 ≤ 4; omega)]
  refine ⟨rfl, ?_⟩
  refine rbound_ok (f := f) (c := c) (g := g) (p := p) ?_
  simp only [AEnd.elim, vBin_eql, decide_true, boolOf_b, gq_b, vPick_b, cond_true, true_imp_iff, ne_eq, not_true, false_imp_iff, and_true]
  refine awake13_ok fun h' hs => ?_
  simp only [AEnd.elim, vPick_b, cond_true]
  exact ⟨h, s1.trans hs, hR⟩
end
end Go.Pw

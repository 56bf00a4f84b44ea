/- The example of law 11 answers true. -/
import Derived.Test.YtgpcjdmiecnphaaGreatPyA
import Derived.Test.YtgpcjdmiecnphaaGreatPxY
import Derived.Test.YtgpcjdmiecnphaaGreatPxW9
set_option linter.unusedSimpArgs false
set_option linter.unusedVariables false
namespace Go.Pw
open Go Go.Proofs
section
variable {h : PH} {R : AEnd → PH → Prop}
theorem isT_true {v : Px.CV} {x : Value} {ns : List Px.Nm} {H : Px.CH} (hx : Px.toV ns v = some x) (hk : Px.isT (.ret v) H = true) : x = .bool true := by
  cases v <;> simp only [Px.isT, Bool.false_eq_true] at hk
  subst hk
  simpa [Px.toV, eq_comm] using hx
theorem awake11_ok (hR : ∀ h', Sub h h' → R (.ret (.bool true)) h') : ACalls Tryz.prog 9 #[] h R :=
  Px.ran (vs := []) (xs := []) Px.run9 rfl (fun _ _ => rfl) h fun ns v x H' h' hs hx hk => by
    rw [isT_true hx hk]; exact hR h' hs
end
end Go.Pw

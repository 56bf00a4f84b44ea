/- Texts of this claim, one behind the other. -/
import Derived.Test.YtboeddfdbpjnjaaGreatM6
import Derived.Test.YtboeddfdbpjnjaaGreatM7
import Derived.Test.YtboeddfdbpjnjaaGreatRows
import Derived.Deep.Slices
/- The law's arguments, opened: a call by value, a slice of calls. -/
set_option linter.unusedSimpArgs false
set_option linter.unusedVariables false
namespace Go.Pw
open Go Go.Proofs Go.ChangeShapes Go.WideShapes Go.ChangeAt Go.RowKit Go.Deep

theorem try_own : ownKnob Tryz.prog.godebug = none := by kernel_rfl
theorem try_laid : laidOutB Tryz.prog = true := by kernel_rfl
section
variable {H : Type} {enc : TypeId × Value → H} {w : World} {base : Nat} {spare : Nat → Bool} {held : Bool}
instance : Inhabited ActV := ⟨⟨0, 0, 0, 0, 0, ⟨#[]⟩⟩⟩
/-- The slice of calls l lies at v. -/
def ActsAt (h : PH) (v : Value) (l : List ActV) : Prop :=
  ∃ p cap, v = .slice p l.length cap ∧ l.length ≤ cap ∧ ∀ i a, l[i]? = some a → ∃ b off c e fr, p = some ⟨b, off, none⟩ ∧ h b = some (.cells c e fr) ∧ off + i * 6 + 6 ≤ c.size ∧ c.extract (off + i * 6) (off + i * 6 + 6) = a.cells

end
end Go.Pw

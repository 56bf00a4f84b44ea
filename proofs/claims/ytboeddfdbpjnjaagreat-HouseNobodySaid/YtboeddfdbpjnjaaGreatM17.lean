/- Texts of this claim, one behind the other. -/
import Derived.Test.YtboeddfdbpjnjaaGreatM8
import Derived.Test.YtboeddfdbpjnjaaGreatM16
import Derived.Laws.Cover2
/- The House laws' arguments, opened: a request by value, a slice of requests. -/
set_option linter.unusedSimpArgs false
set_option linter.unusedVariables false
namespace Go.Pw
open Go Go.Proofs Go.ChangeShapes Go.WideShapes Go.ChangeAt Go.RowKit Go.Deep

section
variable {H : Type} {enc : TypeId × Value → H} {w : World} {base : Nat} {spare : Nat → Bool} {held : Bool}
instance : Inhabited Ask := ⟨⟨0, 0, op0, false, ⟨#[]⟩⟩⟩
end
end Go.Pw

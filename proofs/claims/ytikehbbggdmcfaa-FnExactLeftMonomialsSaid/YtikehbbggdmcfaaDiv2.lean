/- Contracts of SubdivideAt, the program's and the reference's. -/
import Derived.Test.YtikehbbggdmcfaaDiv
namespace Go.Proofs.Ytikehbbggdmcfaa
open Go.RowKit
set_option linter.unusedSimpArgs false
set_option linter.unusedVariables false

/-- a complex may be subdivided at s -/
def DivP (p : Int) (xs : List Int) (s : Int) : Prop := HasP p xs s ∧ p ≠ 6 ∧ s ≠ 0
theorem or_top : ∀ m, m < 6 → ∀ a, a < 2 ^ m → a + 2 ^ m = a ||| 2 ^ m := by decide +kernel

end Go.Proofs.Ytikehbbggdmcfaa

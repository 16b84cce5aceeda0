/- Contract of the reference's CanFlip. -/
import Derived.Test.YtikehbbggdmcfaaFlip
import Derived.Test.YtikehbbggdmcfaaFlipS
import Derived.Test.YtikehbbggdmcfaaGrid
namespace Go.Proofs.Ytikehbbggdmcfaa
open Go.RowKit
set_option linter.unusedSimpArgs false
set_option linter.unusedVariables false

theorem propTo_yes {D : List Nat} {t I : Nat} (hI : I < D.length) (h : nthN D I ≠ t) : (D.take (I + 1)).filter (fun x => x != t) = (D.take I).filter (fun x => x != t) ++ [nthN D I] := by
  rw [nthN_take D I hI, List.filter_append]; simp [h]
theorem propTo_no {D : List Nat} {t I : Nat} (hI : I < D.length) (h : nthN D I = t) : (D.take (I + 1)).filter (fun x => x != t) = (D.take I).filter (fun x => x != t) := by
  rw [nthN_take D I hI, List.filter_append]; simp [h]
end Go.Proofs.Ytikehbbggdmcfaa

/- Contracts of the reference's l5Set, l5Link, SubsetsOf, l2Same and EqualComplex. -/
import Derived.Test.YtikehbbggdmcfaaFlipM
import Derived.Test.YtikehbbggdmcfaaPure
import Derived.Test.YtikehbbggdmcfaaFrom
import Derived.Test.YtikehbbggdmcfaaMake
namespace Go.Proofs.Ytikehbbggdmcfaa
open Go.RowKit
set_option linter.unusedSimpArgs false
set_option linter.unusedVariables false


theorem sub_and {f s : Nat} (h : sub s f = true) : f &&& s = s := by
  unfold sub at h; rw [Nat.and_comm]; simpa using h
theorem sub_and_no {f s : Nat} (h : sub s f = false) : f &&& s ≠ s := fun e => by
  unfold sub at h
  rw [Nat.and_comm, e] at h; simp at h
theorem linkL_yes {l : List Nat} {s I : Nat} (hI : I < l.length) (h : sub s (nthN l I) = true) : linkL (l.take (I + 1)) s = linkL (l.take I) s ++ [sdiff (nthN l I) s] := by
  unfold linkL; rw [nthN_take l I hI, List.filter_append, List.map_append]; simp [h]
theorem linkL_no {l : List Nat} {s I : Nat} (hI : I < l.length) (h : sub s (nthN l I) = false) : linkL (l.take (I + 1)) s = linkL (l.take I) s := by
  unfold linkL; rw [nthN_take l I hI, List.filter_append, List.map_append]; simp [h]
theorem w_less : ∀ g : Nat, g < 64 → ∀ s : Nat, s < 64 → sub s g = true → IntKind.i64.wrap ((g : Int) - (s : Int)) = ((sdiff g s : Nat) : Int) := by decide +kernel


end Go.Proofs.Ytikehbbggdmcfaa

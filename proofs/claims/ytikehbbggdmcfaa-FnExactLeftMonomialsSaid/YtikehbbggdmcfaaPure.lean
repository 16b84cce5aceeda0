/- Contracts of IsPure, the program's and the reference's. -/
import Derived.Test.YtikehbbggdmcfaaFaces2
import Derived.Deep.RegionWith
import Derived.Deep.RegionHeld3
import Derived.Deep.DeepCutAuto
namespace Go.Proofs.Ytikehbbggdmcfaa
open Go.RowKit
set_option linter.unusedSimpArgs false
set_option linter.unusedVariables false

/-- all sets have the first one's size -/
def pureB (l : List Nat) : Bool := l.all fun s => sz s == sz (nthN l 0)
theorem pure_no {l : List Nat} {k : Nat} (hk : k < l.length) (h : sz (nthN l k) ≠ sz (nthN l 0)) : pureB l = false := by
  unfold pureB
  rw [List.all_eq_false]
  exact ⟨nthN l k, nthN_mem hk, by simpa using h⟩
theorem pure_yes {l : List Nat} (h : ∀ j, j < l.length → sz (nthN l j) = sz (nthN l 0)) : pureB l = true := by
  unfold pureB
  rw [List.all_eq_true]
  intro s hs
  obtain ⟨j, hj, rfl⟩ := List.mem_iff_getElem.1 hs
  rw [← nthN_eq hj, h j hj]; simp


end Go.Proofs.Ytikehbbggdmcfaa

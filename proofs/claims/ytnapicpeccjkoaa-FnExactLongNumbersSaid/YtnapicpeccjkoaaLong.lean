/- Contracts of DegreeFromH and LongNumbers, the program's and the reference's. -/
import Derived.Test.YtnapicpeccjkoaaHNum2
import Derived.Deep.RegionWith
namespace Go.Proofs.Ytnapicpeccjkoaa
open Go.RowKit
set_option linter.unusedSimpArgs false
set_option linter.unusedVariables false

/-- the sum of the first numbers -/
def isum (xs : List Int) : Nat → Int
  | 0 => 0
  | k + 1 => isum xs k + nth xs k
theorem isum_bd {xs : List Int} (h : ∀ x ∈ xs, -2240000000000 ≤ x ∧ x ≤ 2240000000000) : ∀ k : Nat, k ≤ xs.length → -(2240000000000 * (k : Int)) ≤ isum xs k ∧ isum xs k ≤ 2240000000000 * (k : Int) := by
  intro k
  induction k with
  | zero => intro _; simp [isum]
  | succ k ih =>
    intro hk
    have h1 := ih (by omega)
    have h2 := h _ (nth_mem (xs := xs) (k := k) (by omega))
    unfold isum
    omega

end Go.Proofs.Ytnapicpeccjkoaa

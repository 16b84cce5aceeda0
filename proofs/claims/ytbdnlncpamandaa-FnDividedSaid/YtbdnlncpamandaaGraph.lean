/- Contracts of what IsGraph answers, the program's and the reference's. -/
import Derived.Test.YtbdnlncpamandaaAnti
namespace Go.Proofs.Ytbdnlncpamandaa
set_option maxRecDepth 20000
open Go.RowKit
set_option linter.unusedSimpArgs false

/-- what is asked of the edge at j -/
def EdgeOk (p : Int) (xs : List Int) (j : Nat) : Prop :=
  isSetB p (nth xs j) = true ∧ sz (nth xs j).toNat = 2 ∧ (0 < j → nth xs (j - 1) < nth xs j)
/-- what IsGraph asks -/
def GraphP (p : Int) (xs : List Int) : Prop := 1 ≤ p ∧ p ≤ 6 ∧ ∀ j, j < xs.length → EdgeOk p xs j
theorem graphNo {p : Int} {xs : List Int} {b : Bool} (hb : b = true ↔ GraphP p xs) (h : ¬ GraphP p xs) : b = false := by
  cases b
  · rfl
  · exact absurd (hb.1 rfl) h
theorem graph_dec (p : Int) (xs : List Int) : ∃ b : Bool, b = true ↔ GraphP p xs := by
  by_cases h : GraphP p xs
  · exact ⟨true, by simp [h]⟩
  · exact ⟨false, by simp [h]⟩


end Go.Proofs.Ytbdnlncpamandaa

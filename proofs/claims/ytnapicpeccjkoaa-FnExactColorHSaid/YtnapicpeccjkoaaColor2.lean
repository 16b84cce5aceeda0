/- The program's colorFrom. -/
import Derived.Test.YtnapicpeccjkoaaColor
namespace Go.Proofs.Ytnapicpeccjkoaa
open Go.RowKit
set_option linter.unusedSimpArgs false
set_option linter.unusedVariables false

theorem take_set_succ {cs : List Nat} {i x : Nat} (hi : i < cs.length) : (cs.set i x).take (i + 1) = cs.take i ++ [x] := by
  apply List.ext_getElem
  · simp; omega
  · intro j h1 h2
    rw [List.getElem_take, List.getElem_set]
    by_cases hij : i = j
    · subst hij
      rw [if_pos rfl, List.getElem_append_right (by simp; omega)]
      simp
    · have hj : j < i := by simp at h1; omega
      rw [if_neg hij, List.getElem_append_left (by simp; omega), List.getElem_take]
end Go.Proofs.Ytnapicpeccjkoaa

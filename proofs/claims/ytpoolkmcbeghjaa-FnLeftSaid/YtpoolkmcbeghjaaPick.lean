/- Contracts: pickSets with a test that reads only; maximalIn; what rests on them. -/
import Derived.Test.YtpoolkmcbeghjaaSet3
namespace Go.Proofs.Ytpoolkmcbeghjaa
open Go.RowKit
set_option linter.unusedSimpArgs false
set_option linter.unusedVariables false

/-- the family of the sets below k that pass a test -/
def pickN (q : Nat → Bool) (k : Nat) : Nat := fam fun s => decide (s < k) && q s
theorem pickN_zero (q : Nat → Bool) : pickN q 0 = 0 := (fam_congr fun s _ => by simp).trans fam_zero
theorem pickN_yes {q : Nat → Bool} {k : Nat} (hk : k < 64) (h : q k = true) : pickN q k ||| 2 ^ k = pickN q (k + 1) := by
  unfold pickN
  rw [fam_or_bit _ hk]
  apply fam_congr
  intro s _
  by_cases hs : s = k
  · subst hs; simp [h]
  · have : (s < k + 1) = (s < k) := by apply propext; omega
    simp [hs, this]
theorem pickN_no {q : Nat → Bool} {k : Nat} (h : q k = false) : pickN q (k + 1) = pickN q k := by
  unfold pickN
  apply fam_congr
  intro s _
  by_cases hs : s = k
  · subst hs; simp [h]
  · have : (s < k + 1) = (s < k) := by apply propext; omega
    simp [this]


end Go.Proofs.Ytpoolkmcbeghjaa

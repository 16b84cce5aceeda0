/- Contracts of IsChordal, the program's and the reference's. -/
import Derived.Test.YtnapicpeccjkoaaChord
namespace Go.Proofs.Ytnapicpeccjkoaa
open Go.RowKit
set_option linter.unusedSimpArgs false
set_option linter.unusedVariables false

/-- the neighbours of i among the points left are joined -/
def gd (l : List Nat) (left i : Nat) : Bool := pairB (nbs l) (nbs l i &&& left)
theorem nbTo_all (l : List Nat) (i : Nat) : nbTo l i l.length = nbs l i := by unfold nbTo nbs; rw [List.take_length]
theorem nbs_lt {l : List Nat} (hl : ∀ t ∈ l, t < 64) (i : Nat) : nbs l i < 64 := by rw [← nbTo_all]; exact nbTo_lt hl i _ (Nat.le_refl _)
theorem bit_lt {s m i : Nat} (hs : s < 2 ^ m) (h : s.testBit i = true) : i < m := by
  rcases Nat.lt_or_ge i m with h' | h'
  · exact h'
  · rw [Nat.testBit_lt_two_pow (Nat.lt_of_lt_of_le hs (Nat.pow_le_pow_right (by omega) h'))] at h; cases h
/-- the table of the neighbours -/
def nbRow (l : List Nat) (m : Nat) : List Nat := (List.range m).map fun j => nbTo l j l.length
theorem nbRow_at {l : List Nat} {m i : Nat} (hi : i < m) : nthN (nbRow l m) i = nbs l i := by
  unfold nbRow
  rw [nthN_eq (by simpa using hi)]
  simp [nbTo_all]
theorem pairB_row {l : List Nat} {m s : Nat} (hs : s < 2 ^ m) : pairB (nthN (nbRow l m)) s = pairB (nbs l) s := by
  unfold pairB
  rw [Bool.eq_iff_iff, List.all_eq_true, List.all_eq_true]
  constructor
  · intro h i hi
    have := h i hi
    rwa [nbRow_at (bit_lt hs (mem_pts.1 hi).2)] at this
  · intro h i hi
    have := h i hi
    rwa [nbRow_at (bit_lt hs (mem_pts.1 hi).2)]


end Go.Proofs.Ytnapicpeccjkoaa

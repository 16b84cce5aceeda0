/- Contracts of the reference's l7From and l8Covers: the sets that contain none of others; the sets that meet all of others. -/
import Derived.Test.YtpoolkmcbeghjaaMake
import Derived.Test.YtpoolkmcbeghjaaMath3
namespace Go.Proofs.Ytpoolkmcbeghjaa
set_option maxRecDepth 20000
open Go.RowKit
set_option linter.unusedSimpArgs false
set_option linter.unusedVariables false

/-- the sets below N with q -/
def lst (q : Nat → Bool) (N : Nat) : List Nat := (List.range N).filter q
theorem lst_no {q : Nat → Bool} {I : Nat} (h : q I = false) : lst q (I + 1) = lst q I := by unfold lst; rw [List.range_succ, List.filter_append]; simp [h]
theorem lst_yes {q : Nat → Bool} {I : Nat} (h : q I = true) : lst q (I + 1) = lst q I ++ [I] := by unfold lst; rw [List.range_succ, List.filter_append]; simp [h]
theorem lst_len (q : Nat → Bool) (N : Nat) : (lst q N).length ≤ N := by unfold lst; exact Nat.le_trans (List.length_filter_le _ _) (by simp)
theorem mem_lst {q : Nat → Bool} {N s : Nat} : s ∈ lst q N ↔ s < N ∧ q s = true := by unfold lst; simp
theorem lst_has (q : Nat → Bool) (N s : Nat) : (lst q N).contains s = (decide (s < N) && q s) := by
  rw [Bool.eq_iff_iff, List.contains_iff_mem, mem_lst]; simp
theorem take_any {l : List Nat} {f : Nat → Bool} {J : Nat} (h : J < l.length) : (l.take (J + 1)).any f = ((l.take J).any f || f (nthN l J)) := by
  rw [nthN_take l J h, List.any_append]; simp
theorem take_all {l : List Nat} {f : Nat → Bool} {J : Nat} (h : J < l.length) : (l.take (J + 1)).all f = ((l.take J).all f && f (nthN l J)) := by
  rw [nthN_take l J h, List.all_append]; simp
theorem w_nsub (t s : Nat) : (((t &&& s : Nat) : Int) != (t : Int)) = !sub t s := by
  unfold bne sub; rw [castBeq]
/-- the sets below N that contain none of l -/
def apart (l : List Nat) (N s : Nat) : Bool := decide (s < N) && !l.any (sub · s)
/-- the sets below N that meet all of l -/
def meets (l : List Nat) (N s : Nat) : Bool := decide (s < N) && l.all fun g => s &&& g != 0


end Go.Proofs.Ytpoolkmcbeghjaa

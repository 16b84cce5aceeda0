/- Contracts of OtherGraph, the program's and the reference's. -/
import Derived.Test.YtnapicpeccjkoaaNeigh
import Derived.Test.YtnapicpeccjkoaaHelpS
import Derived.Test.YtnapicpeccjkoaaSet3
import Derived.Deep.RegionWith
import Derived.Deep.DeepCutAuto
namespace Go.Proofs.Ytnapicpeccjkoaa
open Go.RowKit
set_option linter.unusedSimpArgs false
set_option linter.unusedVariables false

/-- a set of two points that is no edge -/
def othQ (l : List Nat) (s : Nat) : Bool := decide (sz s = 2) && !l.contains s
def othL (l : List Nat) (k : Nat) : List Nat := (List.range k).filter (othQ l)
theorem othL_yes {l : List Nat} {k : Nat} (h : othQ l k = true) : othL l (k + 1) = othL l k ++ [k] := by unfold othL; rw [List.range_succ, List.filter_append]; simp [h]
theorem othL_no {l : List Nat} {k : Nat} (h : othQ l k = false) : othL l (k + 1) = othL l k := by unfold othL; rw [List.range_succ, List.filter_append]; simp [h]
theorem othL_len (l : List Nat) (k : Nat) : (othL l k).length ≤ k := by unfold othL; exact Nat.le_trans (List.length_filter_le _ _) (by simp)
theorem oth_ord (l : List Nat) (m : Nat) (hm : m ≤ 6) : ord (fun s => decide (s < 2 ^ m) && othQ l s) = othL l (2 ^ m) := by
  have h64 : 2 ^ m ≤ 64 := pow_le64 hm
  have hsort : (othL l (2 ^ m)).Pairwise fun a b => rank a < rank b := by
    unfold othL
    have h1 : ((List.range (2 ^ m)).filter (othQ l)).Pairwise (· < ·) := List.Pairwise.filter _ List.pairwise_lt_range
    refine List.Pairwise.imp_of_mem ?_ h1
    intro a b ha hb hab
    have ha2 := (List.mem_filter.1 ha).2
    have hb2 := (List.mem_filter.1 hb).2
    unfold othQ at ha2 hb2
    simp at ha2 hb2
    unfold rank
    omega
  rw [← ord_of_sorted hsort (fun s hs => by
    unfold othL at hs
    have := List.mem_range.1 (List.mem_filter.1 hs).1
    omega)]
  apply ord_congr
  intro s hs
  rw [Bool.eq_iff_iff]
  unfold othL
  simp



end Go.Proofs.Ytnapicpeccjkoaa

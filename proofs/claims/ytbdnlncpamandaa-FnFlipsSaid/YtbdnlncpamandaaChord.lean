/- Texts of this claim, one behind the other: what each says stands at its head. -/
import Derived.Deep.RegionHeld3
import Derived.Deep.DeepCutAuto
import Derived.Test.YtbdnlncpamandaaAnti2
import Derived.Test.YtbdnlncpamandaaBase
import Derived.Test.YtbdnlncpamandaaGraph
/- Contracts of isPairwise, l27Joined and IsChordal, the program's and the reference's. -/
namespace Go.Proofs.Ytbdnlncpamandaa
set_option maxRecDepth 20000
open Go.RowKit
set_option linter.unusedSimpArgs false
set_option linter.unusedVariables false

theorem find_at {l : List Nat} {p : Nat → Bool} {J : Nat} (hJ : J < l.length) (h0 : ∀ j, j < J → p (nthN l j) = false) (h1 : p (nthN l J) = true) : l.find? p = some (nthN l J) := by
  rw [List.find?_eq_some_iff_getElem]
  refine ⟨h1, J, hJ, nthN_eq hJ |>.symm, fun j hj => ?_⟩
  have := h0 j hj
  rw [nthN_eq (by omega)] at this
  simp [this]
theorem find_none {l : List Nat} {p : Nat → Bool} (h0 : ∀ j, j < l.length → p (nthN l j) = false) : l.find? p = none := by
  rw [List.find?_eq_none]
  intro x hx
  obtain ⟨j, hj, rfl⟩ := List.mem_iff_getElem.1 hx
  have := h0 j hj
  rw [nthN_eq hj] at this
  simp [this]

/-- the points may be taken away, one by one -/
def chordW (good : Nat → Nat → Bool) : Nat → Nat → Bool
  | 0, _ => true
  | f + 1, left => if left = 0 then true else ((pts left).find? (good left)).elim false fun i => chordW good f (sdiff left (2 ^ i))
theorem sdiff_less : ∀ x : Nat, x < 64 → ∀ i : Nat, i < 6 → x.testBit i = true → sdiff x (2 ^ i) < x := by decide +kernel
theorem find_pts (good : Nat → Bool) (left : Nat) : (pts left).find? good = (List.range 6).find? fun i => left.testBit i && good i := by
  unfold pts ptsTo
  rw [List.find?_filter]
  congr 1
  funext i
  cases left.testBit i <;> cases good i <;> rfl
/-- the same for the points below m -/
theorem find_range {good : Nat → Bool} {left m : Nat} (hm : m ≤ 6) (hl : left < 2 ^ m) : ((List.range m).find? fun i => left.testBit i && good i) = (pts left).find? good := by
  rw [find_pts]
  have e : List.range 6 = List.range m ++ (List.range (6 - m)).map (m + ·) := by
    rw [← List.range_add]; congr 1; omega
  rw [e, List.find?_append]
  have : ((List.range (6 - m)).map (m + ·)).find? (fun i => left.testBit i && good i) = none := by
    rw [List.find?_eq_none]
    intro x hx
    obtain ⟨i, _, rfl⟩ := List.mem_map.1 hx
    have : left.testBit (m + i) = false := Nat.testBit_lt_two_pow (Nat.lt_of_lt_of_le hl (Nat.pow_le_pow_right (by omega) (by omega)))
    simp [this]
  rw [this]; simp
theorem scan_succ (p : Nat → Bool) (I : Nat) (h : (List.range I).find? p = none) : (List.range (I + 1)).find? p = if p I then some I else none := by
  rw [List.range_succ, List.find?_append, h]
  simp [List.find?_cons]
  cases p I <;> rfl


end Go.Proofs.Ytbdnlncpamandaa

/- Contracts of IsChordal, the program's and the reference's. -/
namespace Go.Proofs.Ytbdnlncpamandaa
set_option maxRecDepth 20000
open Go.RowKit
set_option linter.unusedSimpArgs false
set_option linter.unusedVariables false

/-- the neighbours of i among the points left are joined -/
def gd (l : List Nat) (left i : Nat) : Bool := pairB (nbs l) (nbs l i &&& left)
theorem nbTo_all (l : List Nat) (i : Nat) : nbTo l i l.length = nbs l i := by unfold nbTo nbs; rw [List.take_length]
theorem nbs_lt {l : List Nat} (hl : ∀ t ∈ l, t < 64) (i : Nat) : nbs l i < 64 := by rw [← nbTo_all]; exact nbTo_lt hl i _ (Nat.le_refl _)
theorem bit_lt {s m i : Nat} (hs : s < 2 ^ m) (h : s.testBit i = true) : i < m := by
  rcases Nat.lt_or_ge i m with h' | h'
  · exact h'
  · rw [Nat.testBit_lt_two_pow (Nat.lt_of_lt_of_le hs (Nat.pow_le_pow_right (by omega) h'))] at h; cases h
/-- the table of the neighbours -/
def nbRow (l : List Nat) (m : Nat) : List Nat := (List.range m).map fun j => nbTo l j l.length
theorem nbRow_at {l : List Nat} {m i : Nat} (hi : i < m) : nthN (nbRow l m) i = nbs l i := by
  unfold nbRow
  rw [nthN_eq (by simpa using hi)]
  simp [nbTo_all]
theorem pairB_row {l : List Nat} {m s : Nat} (hs : s < 2 ^ m) : pairB (nthN (nbRow l m)) s = pairB (nbs l) s := by
  unfold pairB
  rw [Bool.eq_iff_iff, List.all_eq_true, List.all_eq_true]
  constructor
  · intro h i hi
    have := h i hi
    rwa [nbRow_at (bit_lt hs (mem_pts.1 hi).2)] at this
  · intro h i hi
    have := h i hi
    rwa [nbRow_at (bit_lt hs (mem_pts.1 hi).2)]


end Go.Proofs.Ytbdnlncpamandaa

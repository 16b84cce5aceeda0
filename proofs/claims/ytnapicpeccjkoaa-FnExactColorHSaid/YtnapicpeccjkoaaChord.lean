/- Contracts of isPairwise, l27Joined and IsChordal, the program's and the reference's. -/
import Derived.Test.YtnapicpeccjkoaaNeigh
import Derived.Test.YtnapicpeccjkoaaFrom
import Derived.Test.YtnapicpeccjkoaaMath4
import Derived.Test.YtnapicpeccjkoaaOther
import Derived.Deep.RegionHeld3
import Derived.Deep.DeepCutAuto
namespace Go.Proofs.Ytnapicpeccjkoaa
open Go.RowKit
set_option linter.unusedSimpArgs false
set_option linter.unusedVariables false

theorem find_at {l : List Nat} {p : Nat → Bool} {J : Nat} (hJ : J < l.length) (h0 : ∀ j, j < J → p (nthN l j) = false) (h1 : p (nthN l J) = true) : l.find? p = some (nthN l J) := by
  rw [List.find?_eq_some_iff_getElem]
  refine ⟨h1, J, hJ, nthN_eq hJ |>.symm, fun j hj => ?_⟩
  have := h0 j hj
  rw [nthN_eq (by omega)] at this
  simp [this]
theorem find_none {l : List Nat} {p : Nat → Bool} (h0 : ∀ j, j < l.length → p (nthN l j) = false) : l.find? p = none := by
  rw [List.find?_eq_none]
  intro x hx
  obtain ⟨j, hj, rfl⟩ := List.mem_iff_getElem.1 hx
  have := h0 j hj
  rw [nthN_eq hj] at this
  simp [this]

/-- the points may be taken away, one by one -/
def chordW (good : Nat → Nat → Bool) : Nat → Nat → Bool
  | 0, _ => true
  | f + 1, left => if left = 0 then true else ((pts left).find? (good left)).elim false fun i => chordW good f (sdiff left (2 ^ i))
theorem sdiff_less : ∀ x : Nat, x < 64 → ∀ i : Nat, i < 6 → x.testBit i = true → sdiff x (2 ^ i) < x := by decide +kernel
theorem find_pts (good : Nat → Bool) (left : Nat) : (pts left).find? good = (List.range 6).find? fun i => left.testBit i && good i := by
  unfold pts ptsTo
  rw [List.find?_filter]
  congr 1
  funext i
  cases left.testBit i <;> cases good i <;> rfl
/-- the same for the points below m -/
theorem find_range {good : Nat → Bool} {left m : Nat} (hm : m ≤ 6) (hl : left < 2 ^ m) : ((List.range m).find? fun i => left.testBit i && good i) = (pts left).find? good := by
  rw [find_pts]
  have e : List.range 6 = List.range m ++ (List.range (6 - m)).map (m + ·) := by
    rw [← List.range_add]; congr 1; omega
  rw [e, List.find?_append]
  have : ((List.range (6 - m)).map (m + ·)).find? (fun i => left.testBit i && good i) = none := by
    rw [List.find?_eq_none]
    intro x hx
    obtain ⟨i, _, rfl⟩ := List.mem_map.1 hx
    have : left.testBit (m + i) = false := Nat.testBit_lt_two_pow (Nat.lt_of_lt_of_le hl (Nat.pow_le_pow_right (by omega) (by omega)))
    simp [this]
  rw [this]; simp
theorem scan_succ (p : Nat → Bool) (I : Nat) (h : (List.range I).find? p = none) : (List.range (I + 1)).find? p = if p I then some I else none := by
  rw [List.range_succ, List.find?_append, h]
  simp [List.find?_cons]
  cases p I <;> rfl


end Go.Proofs.Ytnapicpeccjkoaa

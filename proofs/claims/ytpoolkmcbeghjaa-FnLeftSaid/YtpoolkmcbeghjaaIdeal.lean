/- Contracts of InIdeal and what it calls, the program's and the reference's. -/
import Derived.Test.YtpoolkmcbeghjaaAnti2
import Derived.Test.YtpoolkmcbeghjaaHelp
namespace Go.Proofs.Ytpoolkmcbeghjaa
set_option maxRecDepth 20000
open Go.RowKit
set_option linter.unusedSimpArgs false

theorem any_no {l : List Nat} {f : Nat → Bool} (h : ∀ j, j < l.length → f (nthN l j) = false) : l.any f = false := by
  rw [List.any_eq_false]
  intro x hx
  obtain ⟨i, hi, rfl⟩ := List.mem_iff_getElem.1 hx
  have := h i hi
  rw [nthN_eq hi] at this
  simp [this]
theorem any_yes {l : List Nat} {f : Nat → Bool} {j : Nat} (hj : j < l.length) (h : f (nthN l j) = true) : l.any f = true :=
  List.any_eq_true.2 ⟨_, nthN_mem hj, h⟩



/-- what InIdeal asks -/
def InP (p : Int) (xs : List Int) (s : Int) : Prop := Anti p xs ∧ isSetB p s = true ∧ (xs.map Int.toNat).any (sub · s.toNat) = true
theorem in_dec (p : Int) (xs : List Int) (s : Int) : ∃ b : Bool, b = true ↔ InP p xs s := by
  by_cases h : InP p xs s
  · exact ⟨true, by simp [h]⟩
  · exact ⟨false, by simp [h]⟩
theorem up_toNat (l : List Nat) : (up l).map Int.toNat = l := by
  unfold up; rw [List.map_map]
  apply List.ext_getElem (by simp)
  intro i h1 h2
  simp
/-- the three ways InIdeal goes -/
theorem in_ways {p : Int} {xs : List Int} {s : Int} {b : Bool} (hb : b = true ↔ InP p xs s) :
    (¬ Anti p xs ∧ b = false) ∨ (Anti p xs ∧ isSetB p s = false ∧ b = false) ∨ (Anti p xs ∧ isSetB p s = true ∧ ∃ (l : List Nat) (t : Nat), xs = up l ∧ s = t ∧ t < 64 ∧ (∀ u ∈ l, u < 64) ∧ l.any (sub · t) = b) := by
  by_cases h1 : Anti p xs
  · cases h2 : isSetB p s
    · refine .inr (.inl ⟨h1, rfl, ?_⟩)
      cases b
      · rfl
      · have := (hb.1 rfl).2.1; rw [h2] at this; cases this
    · obtain ⟨l, hx, hl, _⟩ := h1.nat
      obtain ⟨t, ht, ht64⟩ := isSet_lt h2
      refine .inr (.inr ⟨h1, rfl, l, t, hx, ht, ht64, fun u hu => (hl u hu).2, ?_⟩)
      have e : b = true ↔ l.any (sub · t) = true := by
        rw [hb]; unfold InP
        rw [hx, up_toNat, ht, Int.toNat_natCast]
        rw [ht] at h2
        rw [hx] at h1
        exact ⟨fun h => h.2.2, fun h => ⟨h1, h2, h⟩⟩
      rw [Bool.eq_iff_iff]; exact e.symm
  · refine .inl ⟨h1, ?_⟩
    cases b
    · rfl
    · exact absurd (hb.1 rfl).1 h1


end Go.Proofs.Ytpoolkmcbeghjaa

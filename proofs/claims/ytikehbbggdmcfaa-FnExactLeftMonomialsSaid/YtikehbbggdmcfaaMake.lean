/- Contracts of what makes complexes and ideals out of sets: areSetsOf, l3Make, l29Make, MakeComplex, MakeIdeal. -/
import Derived.Test.YtikehbbggdmcfaaIdeal
import Derived.Test.YtikehbbggdmcfaaHelpS
namespace Go.Proofs.Ytikehbbggdmcfaa
open Go.RowKit
set_option linter.unusedSimpArgs false

/-- what MakeComplex asks -/
def SetsOk (p : Int) (xs : List Int) : Prop := 1 ≤ p ∧ p ≤ 6 ∧ xs.length ≤ 64 ∧ ∀ i, i < xs.length → isSetB p (nth xs i) = true
theorem setsNo {p : Int} {xs : List Int} {b : Bool} (hb : b = true ↔ SetsOk p xs) (h : ¬ SetsOk p xs) : b = false := by
  cases b
  · rfl
  · exact absurd (hb.1 rfl) h
theorem SetsOk.nat {p : Int} {xs : List Int} (h : SetsOk p xs) : ∃ l : List Nat, xs = up l ∧ (∀ s ∈ l, s < 2 ^ p.toNat) ∧ ∀ s ∈ l, s < 64 := by
  have aux : ∀ s ∈ xs.map Int.toNat, s < 2 ^ p.toNat ∧ s < 64 := by
    intro s hs
    obtain ⟨x, hx, rfl⟩ := List.mem_map.1 hs
    obtain ⟨i, hi, rfl⟩ := List.mem_iff_getElem.1 hx
    obtain ⟨m, t, hm, ht, _, h2, h3⟩ := isSet_nat (h.2.2.2 i hi)
    rw [nth_eq hi] at ht
    rw [ht, hm]; simpa using ⟨h2, h3⟩
  refine ⟨xs.map Int.toNat, ?_, fun s hs => (aux s hs).1, fun s hs => (aux s hs).2⟩
  apply List.ext_getElem (by simp [up])
  intro i h1 h2
  obtain ⟨m, t, hm, ht, _⟩ := isSet_nat (h.2.2.2 i h1)
  rw [nth_eq h1] at ht
  simp [up]; omega





end Go.Proofs.Ytikehbbggdmcfaa

/- Contracts of DualPoset, the program's and the reference's: the order turned over. -/
import Derived.Deep.RegionWith
import Derived.Deep.DeepCutAuto
import Derived.Test.YtbdnlncpamandaaHelp
import Derived.Test.YtbdnlncpamandaaSet3
namespace Go.Proofs.Ytbdnlncpamandaa
set_option maxRecDepth 20000
open Go.RowKit
set_option linter.unusedSimpArgs false

/-- the sets of a list of numbers that are known to be sets -/
def nats (xs : List Int) : List Nat := xs.map Int.toNat
theorem nats_len (xs : List Int) : (nats xs).length = xs.length := by simp [nats]
theorem poset_nats {p : Int} {xs : List Int} (h : PosetP p xs) : xs = up (nats xs) := by
  apply List.ext_getElem?
  intro i
  unfold up nats
  rw [List.getElem?_map, List.getElem?_map]
  rcases Nat.lt_or_ge i xs.length with hi | hi
  · rw [List.getElem?_eq_getElem hi]
    obtain ⟨t, ht, _⟩ := h.2.2.2.1 i hi
    rw [nth_eq hi] at ht
    simp [ht]
  · rw [List.getElem?_eq_none hi]; rfl
theorem poset_lt {p : Int} {xs : List Int} (h : PosetP p xs) : ∀ k, k < xs.length → nthN (nats xs) k < 2 ^ xs.length ∧ nthN (nats xs) k < 64 := by
  intro k hk
  obtain ⟨t, ht, hlt, _⟩ := h.2.2.2.1 k hk
  have e : nthN (nats xs) k = t := by
    unfold nthN nats
    rw [List.getD_eq_getElem?_getD, List.getElem?_map, List.getElem?_eq_getElem hk]
    rw [nth_eq hk] at ht
    simp [ht]
  have h3 := h.2.2.1
  have hp : p.toNat = xs.length := by omega
  rw [hp] at hlt
  have := pow_le64 (m := xs.length) (by have := h.2.1; omega)
  rw [e]; exact ⟨hlt, by omega⟩
theorem poset_len {p : Int} {xs : List Int} (h : PosetP p xs) : xs.length ≤ 6 := by have := h.2.1; have := h.2.2.1; omega


end Go.Proofs.Ytbdnlncpamandaa

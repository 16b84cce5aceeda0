/- Contracts of ParsePoset, the program's and the reference's. -/
import Derived.Test.YtbdnlncpamandaaHelp
import Derived.Test.YtbdnlncpamandaaPoset2
import Derived.Test.YtbdnlncpamandaaStr
import Derived.Test.YtbdnlncpamandaaStr4
namespace Go.Proofs.Ytbdnlncpamandaa
set_option maxRecDepth 20000
open Go.RowKit
set_option linter.unusedSimpArgs false
set_option linter.unusedVariables false

theorem part_size {S : List ByteArray} {b : UInt8} {r : List UInt8} {N : Nat} (h : S.map byt = spl b [] r) (hr : r.length ≤ N) : ∀ i (hi : i < S.length), S[i].size ≤ N := fun i hi => by
  have hm : byt S[i] ∈ spl b [] r := by rw [← h]; exact List.mem_map_of_mem (List.getElem_mem hi)
  have := spl_part r [] _ hm
  rw [byt_len] at this; simp at this; omega
theorem strs_cell {w : World} {B : Nat} {a : Option Addr} {n c : Nat} {S : List ByteArray} (h : Row 9 w B a n c (S.map Value.string)) {i : Nat} (hi : i < n) :
    ∃ g, ∃ h : i < S.length, a = some ⟨g, 0, none⟩ ∧ w.cell? ⟨g, i, none⟩ = some (.string S[i]) := by
  obtain ⟨g, hg, _, _, hc, _⟩ := h.cells (by omega)
  have hl : S.length = n := by have := h.len; simpa using this
  refine ⟨g, by omega, hg, ?_⟩
  rw [hc i hi, List.getElem?_map, List.getElem?_eq_getElem (by omega)]; rfl
theorem poset_none {n : Int} {V : Option (List Nat)} {b : Bool} {C : Prop} (hb : b = true ↔ C ∧ ∃ L, V = some L ∧ PosetP n (up L)) (h : V = none) : b = false := by
  cases b
  · rfl
  · obtain ⟨_, L, hL, _⟩ := hb.1 rfl
    rw [h] at hL; cases hL

end Go.Proofs.Ytbdnlncpamandaa

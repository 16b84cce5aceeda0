/- Contracts of QuotientBy, PrimesOf, CoversOf and ApartComplex, the program's and the reference's. -/
import Derived.Test.YtbdnlncpamandaaCore
import Derived.Test.YtbdnlncpamandaaIdeal
import Derived.Test.YtbdnlncpamandaaIdeal2
import Derived.Test.YtbdnlncpamandaaNeigh
namespace Go.Proofs.Ytbdnlncpamandaa
set_option maxRecDepth 20000
open Go.RowKit
set_option linter.unusedSimpArgs false
set_option linter.unusedVariables false

theorem pickN_Fam (q : Nat → Bool) (N : Nat) : Fam (pickN q N) := by unfold pickN; exact fam_Fam _
theorem pickN_bit {q : Nat → Bool} {N s : Nat} (hs : s < 64) : (pickN q N).testBit s = (decide (s < N) && q s) := by unfold pickN; rw [fam_at hs]
theorem cell_mid (w : World) (o o' : Obj) (v : Value) (T : Nat) : (((w.alloc o).alloc (.cells #[v] T)).alloc o').cell? ⟨w.heap.size + 1, 0, none⟩ = some v := by
  have e : w.heap.size + 1 = (w.alloc o).heap.size := by simp
  rw [World.cell?_alloc_lt _ _ _ (by simp), e]
  rw [World.cell?_alloc_at _ _ _ _ rfl]; rfl
/-- an ideal and a set of its points -/
def QuoP (p : Int) (xs : List Int) (s : Int) : Prop := Anti p xs ∧ isSetB p s = true



end Go.Proofs.Ytbdnlncpamandaa

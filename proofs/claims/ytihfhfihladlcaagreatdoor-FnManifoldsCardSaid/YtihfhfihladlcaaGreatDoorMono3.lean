/- Contracts of MonomialsOf and of the supports, the program's and the reference's. -/
import Derived.Test.YtihfhfihladlcaaGreatDoorFlip
import Derived.Test.YtihfhfihladlcaaGreatDoorMono2
namespace Go.Proofs.YtihfhfihladlcaaGreatDoor
set_option maxRecDepth 20000
open Go.RowKit
set_option linter.unusedSimpArgs false
set_option linter.unusedVariables false


theorem l1Bit9 (b : Bool) (w : World) : Calls Tryz.prog 151 #[.bool b] w fun e w' => e = .returned (.int .i64 (if b then 1 else 0)) ∧ w = w' := by
  cases b
  · go_enter Tryz.func151, Tryz.ntmps151
    go_wp2_with fail
    go_ret
    exact ⟨rfl, rfl⟩
  · go_enter Tryz.func151, Tryz.ntmps151
    go_wp2_with fail
    go_ret
    exact ⟨rfl, rfl⟩
theorem bit_low1 {e : List Int} {k : Nat} (h : 0 < nth e k) (hk : k < 6) : suppTo e k + 2 ^ k = suppTo e (k + 1) := by
  rw [suppTo_yes h]; exact or_top k hk _ (suppTo_lt e k)
end Go.Proofs.YtihfhfihladlcaaGreatDoor

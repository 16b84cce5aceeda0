/- The tied card of FnIdeals. -/
import Derived.Test.YtihfhfihladlcaaGreatDoorCards
import Derived.Test.YtihfhfihladlcaaGreatDoorLawFnIdeals
namespace Go.Proofs.YtihfhfihladlcaaGreatDoor.lawFnIdeals
set_option maxRecDepth 20000
open Go

/-- THE STATEMENT -/
theorem card_proved : Rows.FnIdealsCardSaid :=
  Claim7.holds_tied_plain_at .later [] [.data, .data, .data] true (true, "6bbab2ff68183ca0fddee177ca796f627ccf99335abb2d92c24ca504e667bb21") false
    proved (fun _ h => by cases h) (by kernel_rfl) (fun _ h => by cases h) fnIdeals_row_tie rfl ⟨rfl, rfl⟩ (by kernel_rfl) rfl
    (fun f fn hf hfn => by
      obtain rfl : f = 3 := Option.some.inj ((show Tryz.prog.funcNamed "loop.example/g03100/laws.FnIdeals" = some 3 by kernel_rfl).symm.trans hf) |>.symm
      obtain rfl : fn = Tryz.f3 := (Option.some.inj (Tryz.func3.symm.trans hfn)).symm
      exact ⟨by kernel_rfl, fun j t ht => by
        rw [Tryz.params3] at ht
        have h3 : t = 22 := by
          rcases j with _ | j
          · simpa using ht.symm
          · simp at ht
        subst h3
        exact (show Tryz.prog.wantsStandIn 22 = false by kernel_rfl)⟩)
    (by kernel_rfl)
#print axioms card_proved
end Go.Proofs.YtihfhfihladlcaaGreatDoor.lawFnIdeals

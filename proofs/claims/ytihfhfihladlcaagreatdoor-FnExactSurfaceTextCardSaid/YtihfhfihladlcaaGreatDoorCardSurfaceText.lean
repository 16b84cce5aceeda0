/- The tied card of FnExactSurfaceText. -/
import Derived.Test.YtihfhfihladlcaaGreatDoorCards
import Derived.Test.YtihfhfihladlcaaGreatDoorRowSurfaceText
namespace Go.Proofs.YtihfhfihladlcaaGreatDoor.lawSurfaceText
set_option maxRecDepth 20000
open Go

/-- THE STATEMENT -/
theorem card_proved : Rows.FnExactSurfaceTextCardSaid :=
  Claim7.holds_tied_plain_at .later [] [.data, .data, .data] true (true, "6bbab2ff68183ca0fddee177ca796f627ccf99335abb2d92c24ca504e667bb21") false
    proved (fun _ h => by cases h) (by kernel_rfl) (fun _ h => by cases h) fnExactSurfaceText_row_tie rfl ⟨rfl, rfl⟩ (by kernel_rfl) rfl
    (fun f fn hf hfn => by
      obtain rfl : f = 4 := Option.some.inj ((show Tryz.prog.funcNamed "loop.example/g03100/laws.FnExactSurfaceText" = some 4 by kernel_rfl).symm.trans hf) |>.symm
      obtain rfl : fn = Tryz.f4 := (Option.some.inj (Tryz.func4.symm.trans hfn)).symm
      exact ⟨by kernel_rfl, fun j t ht => by
        rw [Tryz.params4] at ht
        have h3 : t = 53 := by
          rcases j with _ | j
          · simpa using ht.symm
          · simp at ht
        subst h3
        exact (show Tryz.prog.wantsStandIn 53 = false by kernel_rfl)⟩)
    (by kernel_rfl)
#print axioms card_proved
end Go.Proofs.YtihfhfihladlcaaGreatDoor.lawSurfaceText

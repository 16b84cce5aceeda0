/- The tied card of FnExactIdealText. -/
import Derived.Test.YtbdnlncpamandaaDoorCards
import Derived.Test.YtbdnlncpamandaaDoorRowIdealText
namespace Go.Proofs.YtbdnlncpamandaaDoor.lawIdealText
set_option maxRecDepth 20000
open Go

/-- THE STATEMENT -/
theorem card_proved : Rows.FnExactIdealTextCardSaid :=
  Claim7.holds_tied_plain_at .later [] [.data, .data, .data] true (true, "bed2c8f8de9645797da3c710540267b5561b71ae2efa6b93961393f5fcbced1e") false
    proved (fun _ h => by cases h) (by kernel_rfl) (fun _ h => by cases h) fnExactIdealText_row_tie rfl ⟨rfl, rfl⟩ (by kernel_rfl) rfl
    (fun f fn hf hfn => by
      obtain rfl : f = 3 := Option.some.inj ((show Tryd.prog.funcNamed "loop.example/g03100/laws.FnExactIdealText" = some 3 by kernel_rfl).symm.trans hf) |>.symm
      obtain rfl : fn = Tryd.f3 := (Option.some.inj (Tryd.func3.symm.trans hfn)).symm
      exact ⟨by kernel_rfl, fun j t ht => by
        rw [Tryd.params3] at ht
        have h3 : t = 24 := by
          rcases j with _ | j
          · simpa using ht.symm
          · simp at ht
        subst h3
        exact (show Tryd.prog.wantsStandIn 24 = false by kernel_rfl)⟩)
    (by kernel_rfl)
#print axioms card_proved
end Go.Proofs.YtbdnlncpamandaaDoor.lawIdealText

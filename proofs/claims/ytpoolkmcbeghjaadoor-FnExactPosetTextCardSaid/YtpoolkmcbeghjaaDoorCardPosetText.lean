/- The tied card of FnExactPosetText. -/
import Derived.Test.YtpoolkmcbeghjaaDoorCards
import Derived.Test.YtpoolkmcbeghjaaDoorRowPosetText
namespace Go.Proofs.YtpoolkmcbeghjaaDoor.lawPosetText
set_option maxRecDepth 20000
open Go

/-- THE STATEMENT -/
theorem card_proved : Rows.FnExactPosetTextCardSaid :=
  Claim7.holds_tied_plain_at .later [] [.data, .data, .data] true (true, "928a1502ea84f853fb84e55e706c177034e833d0c967981e8d2100b7847b8655") false
    proved (fun _ h => by cases h) (by kernel_rfl) (fun _ h => by cases h) fnExactPosetText_row_tie rfl ⟨rfl, rfl⟩ (by kernel_rfl) rfl
    (fun f fn hf hfn => by
      obtain rfl : f = 3 := Option.some.inj ((show Tryd.prog.funcNamed "loop.example/g03100/laws.FnExactPosetText" = some 3 by kernel_rfl).symm.trans hf) |>.symm
      obtain rfl : fn = Tryd.f3 := (Option.some.inj (Tryd.func3.symm.trans hfn)).symm
      exact ⟨by kernel_rfl, fun j t ht => by
        rw [Tryd.params3] at ht
        have h3 : t = 24 := by
          rcases j with _ | j
          · simpa using ht.symm
          · simp at ht
        subst h3
        exact (show Tryd.prog.wantsStandIn 24 = false by kernel_rfl)⟩)
    (by kernel_rfl)
#print axioms card_proved
end Go.Proofs.YtpoolkmcbeghjaaDoor.lawPosetText

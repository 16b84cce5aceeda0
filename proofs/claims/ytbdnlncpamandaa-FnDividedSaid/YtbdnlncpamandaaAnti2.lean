/- Contracts of what wraps the antichain tests. -/
import Derived.Test.YtbdnlncpamandaaAnti
namespace Go.Proofs.Ytbdnlncpamandaa
set_option maxRecDepth 20000
open Go.RowKit
set_option linter.unusedSimpArgs false
theorem anti_dec (p : Int) (xs : List Int) : ∃ b : Bool, b = true ↔ Anti p xs := by
  by_cases h : Anti p xs
  · exact ⟨true, by simp [h]⟩
  · exact ⟨false, by simp [h]⟩
theorem iIsComplex_any (p : Int) (a : Option Addr) (n c : Nat) (xs : List Int) (w : World) (h : IntsAt w a n xs) (hcap : n ≤ c) (b : Bool) (hb : b = true ↔ Anti p xs) :
    Calls Try.prog 75 #[.agg #[.int .i64 p, .slice a n c]] w fun e w' => e = .returned (.bool b) ∧ Below w.heap.size w w' := by
  have Hb := Lib.hid hb; clear hb
  have Hcap := Lib.hid hcap; clear hcap
  have hx : IntsAt (w.alloc (.cells #[.int .i64 p, .slice a n c] 26)) a n xs := h.keep (by repeat (first | exact Below.refl _ _ | assumption | refine Below.setCell ?_ (by first | omega | (simp; done) | (simp; omega)) _ | refine Below.alloc ?_ (by first | omega | (simp; done) | (simp; omega)) _ | apply Below.drew))
  have Hx := Lib.hid hx; clear hx h
  go_enter Try.func75, Try.ntmps75
  go_wp2_with fail
  refine (isAnti_any p a n c xs _ Hx.out Hcap.out b Hb.out).mono ?_
  rintro e w1 ⟨rfl, rfl⟩
  go_wp2_with fail
  go_ret
  exact ⟨rfl, (by repeat (first | exact Below.refl _ _ | assumption | refine Below.setCell ?_ (by first | omega | (simp; done) | (simp; omega)) _ | refine Below.alloc ?_ (by first | omega | (simp; done) | (simp; omega)) _ | apply Below.drew))⟩
end Go.Proofs.Ytbdnlncpamandaa

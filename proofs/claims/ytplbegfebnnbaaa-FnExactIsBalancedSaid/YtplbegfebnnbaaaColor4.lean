/- Contracts of LeastColors, the program's and the reference's. -/
import Derived.Test.YtplbegfebnnbaaaColor3
namespace Go.Proofs.Ytplbegfebnnbaaa
open Go.RowKit
set_option linter.unusedSimpArgs false
set_option linter.unusedVariables false

/-- the least number from 1 to 6 with f; 0 for none -/
def leastN (f : Nat → Bool) : Nat := ((List.range 6).find? fun i => f (i + 1)).elim 0 (· + 1)
theorem least_at {f : Nat → Bool} {K : Nat} (h0 : ∀ j, 1 ≤ j → j < K → f j = false) (h1 : 1 ≤ K) (h6 : K ≤ 6) (h : f K = true) : leastN f = K := by
  have : (List.range 6).find? (fun i => f (i + 1)) = some (K - 1) := by
    rw [List.find?_range_eq_some]
    refine ⟨by rw [show K - 1 + 1 = K by omega]; exact h, by simp; omega, fun j hj => by rw [h0 (j + 1) (by omega) (by omega)]; rfl⟩
  unfold leastN
  rw [this]; simp; omega
theorem least_none {f : Nat → Bool} (h0 : ∀ j, 1 ≤ j → j ≤ 6 → f j = false) : leastN f = 0 := by
  have : (List.range 6).find? (fun i => f (i + 1)) = none := by
    rw [List.find?_eq_none]
    intro j hj
    rw [h0 (j + 1) (by omega) (by have := List.mem_range.1 hj; omega)]; simp
  unfold leastN
  rw [this]; rfl

theorem implLeast_any (p : Int) (a : Option Addr) (n c : Nat) (xs : List Int) (w : World) (h : IntsAt w a n xs) (f : Nat → Bool) (ys : Nat → List Int)
    (hc : ∀ k : Nat, 1 ≤ k → k ≤ 6 → ∀ W, IntsAt W a n xs → Calls Try.prog 144 #[.agg #[.int .i64 p, .slice a n c], .int .i64 k] W (RetL2 W (ys k) (f k))) :
    Calls Try.prog 110 #[.agg #[.int .i64 p, .slice a n c]] w fun e w' => e = .returned (.int .i64 (leastN f : Nat)) ∧ Below w.heap.size w w' := by
  have hx : IntsAt (w.alloc (.cells #[.int .i64 p, .slice a n c] 27)) a n xs := h.keep (by repeat (first | exact Below.refl _ _ | assumption | refine Below.setCell ?_ (by first | omega | (simp; done) | (simp; omega)) _ | refine Below.alloc ?_ (by first | omega | (simp; done) | (simp; omega)) _ | apply Below.drew))
  have Hx := Lib.hid hx; have Hc := Lib.hid hc
  clear hx h hc
  go_enter Try.func110, Try.ntmps110
  go_wp2_with fail
  go_loopw [3, 4, 5] (fun kv _ _ wr => ∃ K : Nat, 1 ≤ K ∧ K ≤ 7 ∧ kv = .int .i64 K ∧ Below (w.heap.size + 1) (w.alloc (.cells #[.int .i64 p, .slice a n c] 27)) wr ∧ Hid (∀ j, 1 ≤ j → j < K → f j = false)) (fun kv _ _ _ => 7 - (intOf kv).toNat)
  case atStart => exact ⟨1, by omega, by omega, rfl, Below.refl _ _, Lib.hid fun j h1 h2 => by omega⟩
  case round =>
    obtain ⟨K, hK1, hK7, rfl, hb, hnone⟩ := hrel
    obtain ⟨hc0, hc1⟩ := box2 hb
    have HB := Lib.hid hb
    have Hx1 := Lib.hid (Hx.out.keep (by simpa using hb))
    have hz : w.heap.size + 1 ≤ wr.heap.size := by have := hb.size; simpa using this
    clear hb
    by_cases hK : K ≤ 6
    · have hcall := Hc.out K hK1 hK wr Hx1.out
      obtain ⟨b, hbf⟩ : ∃ b, f K = b := ⟨_, rfl⟩
      rw [hbf] at hcall
      have Hcall := Lib.hid hcall; have Hbf := Lib.hid hbf
      clear hcall hbf
      cases b
      · go_wp2_with (go_at_call 144; refine Hcall.out.mono ?_; rintro e w2 ⟨ad, n2, c2, rfl, hown, hb2⟩; have HB2 := Lib.hid (HB.out.trans (hb2.mono hz)); clear hown hb2)
        go_roundw
        case rel =>
          refine ⟨K + 1, by omega, by omega, by go_num, HB2.out, Lib.hid fun j h1 h2 => ?_⟩
          rcases Nat.lt_or_ge j K with h | h
          · exact hnone.out j h1 h
          · obtain rfl : j = K := by omega
            exact Hbf.out
        case measure => simp [intOf]; omega
      · go_wp2_with (go_at_call 144; refine Hcall.out.mono ?_; rintro e w2 ⟨ad, n2, c2, rfl, hown, hb2⟩; have HB2 := Lib.hid (HB.out.trans (hb2.mono hz)); clear hown hb2)
        go_ret
        exact ⟨by rw [least_at hnone.out hK1 hK Hbf.out]; rfl, box_below HB2.out⟩
    · obtain rfl : K = 7 := by omega
      go_wp2_with fail
      go_ret
      exact ⟨by rw [least_none (fun j h1 h2 => hnone.out j h1 (by omega))]; rfl, box_below HB.out⟩
theorem specLeast_any (p : Int) (a : Option Addr) (n c : Nat) (xs : List Int) (w : World) (h : IntsAt w a n xs) (f : Nat → Bool) (ys : Nat → List Int)
    (hc : ∀ k : Nat, 1 ≤ k → k ≤ 6 → ∀ W, IntsAt W a n xs → Calls Try.prog 143 #[.agg #[.int .i64 p, .slice a n c], .int .i64 k] W (RetL2 W (ys k) (f k))) :
    Calls Try.prog 108 #[.agg #[.int .i64 p, .slice a n c]] w fun e w' => e = .returned (.int .i64 (leastN f : Nat)) ∧ Below w.heap.size w w' := by
  have hx : IntsAt (w.alloc (.cells #[.int .i64 p, .slice a n c] 27)) a n xs := h.keep (by repeat (first | exact Below.refl _ _ | assumption | refine Below.setCell ?_ (by first | omega | (simp; done) | (simp; omega)) _ | refine Below.alloc ?_ (by first | omega | (simp; done) | (simp; omega)) _ | apply Below.drew))
  have Hx := Lib.hid hx; have Hc := Lib.hid hc
  clear hx h hc
  go_enter Try.func108, Try.ntmps108
  go_wp2_with fail
  go_loopw [3, 4, 5] (fun kv _ _ wr => ∃ K : Nat, 1 ≤ K ∧ K ≤ 7 ∧ kv = .int .i64 K ∧ Below (w.heap.size + 1) (w.alloc (.cells #[.int .i64 p, .slice a n c] 27)) wr ∧ Hid (∀ j, 1 ≤ j → j < K → f j = false)) (fun kv _ _ _ => 7 - (intOf kv).toNat)
  case atStart => exact ⟨1, by omega, by omega, rfl, Below.refl _ _, Lib.hid fun j h1 h2 => by omega⟩
  case round =>
    obtain ⟨K, hK1, hK7, rfl, hb, hnone⟩ := hrel
    obtain ⟨hc0, hc1⟩ := box2 hb
    have HB := Lib.hid hb
    have Hx1 := Lib.hid (Hx.out.keep (by simpa using hb))
    have hz : w.heap.size + 1 ≤ wr.heap.size := by have := hb.size; simpa using this
    clear hb
    by_cases hK : K ≤ 6
    · have hcall := Hc.out K hK1 hK wr Hx1.out
      obtain ⟨b, hbf⟩ : ∃ b, f K = b := ⟨_, rfl⟩
      rw [hbf] at hcall
      have Hcall := Lib.hid hcall; have Hbf := Lib.hid hbf
      clear hcall hbf
      cases b
      · go_wp2_with (go_at_call 143; refine Hcall.out.mono ?_; rintro e w2 ⟨ad, n2, c2, rfl, hown, hb2⟩; have HB2 := Lib.hid (HB.out.trans (hb2.mono hz)); clear hown hb2)
        go_roundw
        case rel =>
          refine ⟨K + 1, by omega, by omega, by go_num, HB2.out, Lib.hid fun j h1 h2 => ?_⟩
          rcases Nat.lt_or_ge j K with h | h
          · exact hnone.out j h1 h
          · obtain rfl : j = K := by omega
            exact Hbf.out
        case measure => simp [intOf]; omega
      · go_wp2_with (go_at_call 143; refine Hcall.out.mono ?_; rintro e w2 ⟨ad, n2, c2, rfl, hown, hb2⟩; have HB2 := Lib.hid (HB.out.trans (hb2.mono hz)); clear hown hb2)
        go_ret
        exact ⟨by rw [least_at hnone.out hK1 hK Hbf.out]; rfl, box_below HB2.out⟩
    · obtain rfl : K = 7 := by omega
      go_wp2_with fail
      go_ret
      exact ⟨by rw [least_none (fun j h1 h2 => hnone.out j h1 (by omega))]; rfl, box_below HB.out⟩
end Go.Proofs.Ytplbegfebnnbaaa

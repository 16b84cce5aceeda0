/- Contracts of the functions that make lists of sets: the points of a set, the sets of a family in order, its greatest and its least sets; the program's and the reference's. -/
import Derived.Test.YtbdnlncpamandaaDoorMath2
import Derived.Test.YtbdnlncpamandaaDoorSet
namespace Go.Proofs.YtbdnlncpamandaaDoor
set_option maxRecDepth 20000
open Go.RowKit
set_option linter.unusedSimpArgs false

set_option maxHeartbeats 400000 in
theorem PointsOf_any (s : Nat) (w : World) (hs : s < 64) :
    Calls Tryd.prog 31 #[.int .i64 s] w (RetInts w (up (pts s))) := by
  obtain ⟨B, hB⟩ : ∃ B, B = w.heap.size := ⟨_, rfl⟩
  have HB := Lib.hid hB; clear hB
  go_enter Tryd.func31, Tryd.ntmps31
  go_wp2_with (go_at_call 28; (with_reducible refine (IsSet6 s _ hs).mono ?_); rintro e w' ⟨rfl, rfl⟩)
  go_loopw [3, 4] (fun v i wr => ∃ k : Nat, k ≤ 6 ∧ i = .int .i64 k ∧ Below B w wr ∧ ∃ ad n c, n ≤ k ∧ v = .slice ad n c ∧ Own 3 wr B ad n c (up (ptsTo s k))) (fun _ i _ => 6 - (intOf i).toNat)
  case atStart => exact ⟨0, Nat.zero_le _, rfl, Below.refl _ _, none, 0, 0, Nat.le_refl _, rfl, Own.nil _ _ _⟩
  case round =>
    obtain ⟨k, hk, rfl, hb, ad, n, c, hn, rfl, hown⟩ := hrel
    by_cases hlt : k < 6
    · have hsz := hb.size
      rw [← HB.out] at hsz
      cases hbit : s.testBit k
      · go_wp2
        go_roundw
        case rel => exact ⟨k + 1, by omega, by go_num, hb, ad, n, c, by omega, rfl, by rw [ptsTo_no hbit]; exact hown⟩
        case measure => simp [intOf]; omega
      · go_wp2_with (at_builtin; refine ap rfl _ _ rfl B _ _ _ _ _ rfl hown rfl (by omega) hsz ?_; intro ad' c' w' hown' hb')
        go_roundw
        case rel => exact ⟨k + 1, by omega, by go_num, hb.trans hb', ad', n + 1, c', by omega, rfl, by rw [ptsTo_yes hbit, up_append]; exact hown'⟩
        case measure => simp [intOf]; omega
    · obtain rfl : k = 6 := by omega
      go_wp2
      go_ret
      exact ⟨ad, n, c, rfl, by rw [← HB.out]; exact hown, by rw [← HB.out]; exact hb⟩



theorem sdiff_zero {a b : Nat} (ha : a < 64) (hb : b < 64) : (((sdiff a b : Nat) : Int) == 0) = sub a b := by
  rw [Bool.eq_iff_iff, ← sdiff_sub ha hb]; simp

end Go.Proofs.YtbdnlncpamandaaDoor

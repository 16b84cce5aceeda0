/- Contracts of the functions that make lists of sets: the points of a set, the sets of a family in order, its greatest and its least sets; the program's and the reference's. -/
import Derived.Test.YtpoolkmcbeghjaaMath2
import Derived.Test.YtpoolkmcbeghjaaSet
namespace Go.Proofs.Ytpoolkmcbeghjaa
open Go.RowKit
set_option linter.unusedSimpArgs false

set_option maxHeartbeats 400000 in
theorem PointsOf_any (s : Nat) (w : World) (hs : s < 64) :
    Calls Try.prog 95 #[.int .i64 s] w (RetInts w (up (pts s))) := by
  obtain ⟨B, hB⟩ : ∃ B, B = w.heap.size := ⟨_, rfl⟩
  have HB := Lib.hid hB; clear hB
  go_enter Try.func95, Try.ntmps95
  go_wp2_with (go_at_call 97; (with_reducible refine (IsSet6 s _ hs).mono ?_); rintro e w' ⟨rfl, rfl⟩)
  go_loopw [3, 4] (fun v i wr => ∃ k : Nat, k ≤ 6 ∧ i = .int .i64 k ∧ Below B w wr ∧ ∃ ad n c, n ≤ k ∧ v = .slice ad n c ∧ Own 3 wr B ad n c (up (ptsTo s k))) (fun _ i _ => 6 - (intOf i).toNat)
  case atStart => exact ⟨0, Nat.zero_le _, rfl, Below.refl _ _, none, 0, 0, Nat.le_refl _, rfl, Own.nil _ _ _⟩
  case round =>
    obtain ⟨k, hk, rfl, hb, ad, n, c, hn, rfl, hown⟩ := hrel
    by_cases hlt : k < 6
    · have hsz := hb.size
      rw [← HB.out] at hsz
      cases hbit : s.testBit k
      · go_wp2
        go_roundw
        case rel => exact ⟨k + 1, by omega, by go_num, hb, ad, n, c, by omega, rfl, by rw [ptsTo_no hbit]; exact hown⟩
        case measure => simp [intOf]; omega
      · go_wp2_with (at_builtin; refine ap rfl _ _ rfl B _ _ _ _ _ rfl hown rfl (by omega) hsz ?_; intro ad' c' w' hown' hb')
        go_roundw
        case rel => exact ⟨k + 1, by omega, by go_num, hb.trans hb', ad', n + 1, c', by omega, rfl, by rw [ptsTo_yes hbit, up_append]; exact hown'⟩
        case measure => simp [intOf]; omega
    · obtain rfl : k = 6 := by omega
      go_wp2
      go_ret
      exact ⟨ad, n, c, rfl, by rw [← HB.out]; exact hown, by rw [← HB.out]; exact hb⟩


set_option maxHeartbeats 400000 in
theorem setsIn_any (F : Nat) (w : World) (hF : Fam F) :
    Calls Try.prog 107 #[.int .u64 F] w (RetInts w (up (ord F.testBit))) := by
  obtain ⟨B, hB⟩ : ∃ B, B = w.heap.size := ⟨_, rfl⟩
  have HB := Lib.hid hB; clear hB
  go_enter Try.func107, Try.ntmps107
  go_wp2
  go_loopw [3, 4, 5] (fun v j _ wr => ∃ J : Nat, J ≤ 7 ∧ j = .int .i64 J ∧ Below B w wr ∧ ∃ ad n c, n ≤ 64 * J ∧ v = .slice ad n c ∧ Own 3 wr B ad n c (up (ordTo F.testBit J 0))) (fun _ j _ _ => 7 - (intOf j).toNat)
  case atStart => exact ⟨0, Nat.zero_le _, rfl, Below.refl _ _, none, 0, 0, by omega, rfl, Own.nil _ _ _⟩
  case round =>
    obtain ⟨J, hJ, rfl, hb, ad, m, c, hm, rfl, hown⟩ := hrel
    by_cases hlt : J < 7
    · obtain ⟨wo, rfl⟩ : ∃ wo : World, wo = wr := ⟨_, rfl⟩
      have hJ6 : (J : Int) ≤ 6 := by omega
      go_wp2_with fail
      go_loopw [3, 5] (fun v s wr => ∃ S : Nat, S ≤ 64 ∧ s = .int .i64 S ∧ Below B w wr ∧ ∃ ad n c, n ≤ 64 * J + S ∧ v = .slice ad n c ∧ Own 3 wr B ad n c (up (ordTo F.testBit J S))) (fun _ s _ => 64 - (intOf s).toNat)
      case atStart => exact ⟨0, Nat.zero_le _, rfl, hb, ad, m, c, by omega, rfl, hown⟩
      case round =>
        obtain ⟨S, hS, rfl, hb, ad, m, c, hm, rfl, hown⟩ := hrel
        have hsz := hb.size
        rw [← HB.out] at hsz
        by_cases hlt2 : S < 64
        · cases hcs : F.testBit S
          · have Hno := Lib.hid (ordTo_no (p := F.testBit) (k := J) (s := S) (by rw [hcs]; rfl))
            go_wp2_with (go_at_call 65; (with_reducible refine (hasSet_any F S _ hF hlt2).mono ?_); rintro e w' ⟨rfl, rfl⟩)
            go_roundw
            case rel => exact ⟨S + 1, by omega, by go_num, hb, ad, m, c, by omega, rfl, by rw [Hno.out]; exact hown⟩
            case measure => simp [intOf]; omega
          · cases hsj : ((sz S : Int) == (J : Int))
            · have Hno := Lib.hid (ordTo_no (p := F.testBit) (k := J) (s := S) (by rw [hcs]; simp at hsj ⊢; omega))
              go_wp2_with (first | (go_at_call 65; (with_reducible refine (hasSet_any F S _ hF hlt2).mono ?_); rintro e w' ⟨rfl, rfl⟩) | (go_at_call 84; (with_reducible refine (SizeOf_any S _ hlt2).mono ?_); rintro e w' ⟨rfl, rfl⟩))
              go_roundw
              case rel => exact ⟨S + 1, by omega, by go_num, hb, ad, m, c, by omega, rfl, by rw [Hno.out]; exact hown⟩
              case measure => simp [intOf]; omega
            · have Hno := Lib.hid (ordTo_yes (p := F.testBit) (k := J) (s := S) (by rw [hcs]; simp at hsj ⊢; omega))
              go_wp2_with (first | (go_at_call 65; (with_reducible refine (hasSet_any F S _ hF hlt2).mono ?_); rintro e w' ⟨rfl, rfl⟩) | (go_at_call 84; (with_reducible refine (SizeOf_any S _ hlt2).mono ?_); rintro e w' ⟨rfl, rfl⟩) | (at_builtin; refine ap rfl _ _ rfl B _ _ _ _ _ rfl hown rfl (by omega) hsz ?_; intro ad' c' w' hown' hb'))
              go_roundw
              case rel => exact ⟨S + 1, by omega, by go_num, hb.trans hb', ad', m + 1, c', by omega, rfl, by rw [Hno.out, up_append]; exact hown'⟩
              case measure => simp [intOf]; omega
        · obtain rfl : S = 64 := by omega
          have hnx := Lib.hid (ordTo_next F.testBit J)
          go_wp2
          go_roundw
          case rel => exact ⟨J + 1, by omega, by go_num, hb, ad, m, c, by omega, rfl, by rw [← hnx.out]; exact hown⟩
          case measure => simp [intOf]; omega
    · obtain rfl : J = 7 := by omega
      go_wp2
      go_ret
      exact ⟨ad, m, c, rfl, by rw [← ordTo_end, ← HB.out]; exact hown, by rw [← HB.out]; exact hb⟩

theorem sdiff_zero {a b : Nat} (ha : a < 64) (hb : b < 64) : (((sdiff a b : Nat) : Int) == 0) = sub a b := by
  rw [Bool.eq_iff_iff, ← sdiff_sub ha hb]; simp

end Go.Proofs.Ytpoolkmcbeghjaa

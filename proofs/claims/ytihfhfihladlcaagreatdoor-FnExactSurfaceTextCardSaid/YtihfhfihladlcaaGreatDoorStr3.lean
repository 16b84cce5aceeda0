/- Numbers as texts: FormatInt, l1Read and ParseInt of the reference, parseHead of the program. -/
import Derived.Test.YtihfhfihladlcaaGreatDoorCore
import Derived.Test.YtihfhfihladlcaaGreatDoorStr2
namespace Go.Proofs.YtihfhfihladlcaaGreatDoor
set_option maxRecDepth 20000
open Go.RowKit
set_option linter.unusedSimpArgs false
set_option linter.unusedVariables false

/-- string([]byte{c}) -/
theorem run_str1 (w : World) (c : UInt8) (x : Int) (hx : x = (c.toNat : Int)) : (convert 22 9 (.slice (some ⟨w.heap.size, 0, none⟩) 1 1)).run Tryz.prog (w.alloc (.cells #[.int .u8 x] 5)) = .ok (.string ⟨#[c]⟩) (w.alloc (.cells #[.int .u8 x] 5)) := by
  have := run_convert_bytes_back (P := Tryz.prog) (w.alloc (.cells #[.int .u8 x] 5)) 22 9 5 ⟨w.heap.size, 0, none⟩ 1 [c] Tryz.underlying22 Tryz.underlying5 Tryz.underlying9 (fun j hj => by
    have hj0 : j = 0 := by simpa using hj
    subst hj0
    simp [Addr.add, hx])
  exact this
theorem dig_nat {n : Nat} (h : n ≤ 9) : (48 + (n : Int)) = ((UInt8.ofNat (48 + n)).toNat : Int) := by
  rw [UInt8.toNat_ofNat']; omega
theorem byt_append (a b : ByteArray) : byt (a ++ b) = byt a ++ byt b := by unfold byt; simp
theorem dig_size (c : UInt8) : (⟨#[c]⟩ : ByteArray).size = 1 := rfl
/-- quotient and rest by ten: both fall towards zero -/
theorem ten_parts (x : Int) : x = 10 * Int.tdiv x 10 + Int.tmod x 10 ∧ -9 ≤ Int.tmod x 10 ∧ Int.tmod x 10 ≤ 9 ∧ (0 ≤ x → 0 ≤ Int.tmod x 10) ∧ (x ≤ 0 → Int.tmod x 10 ≤ 0) := by
  have h := (Int.mul_tdiv_add_tmod x 10).symm
  rcases Int.le_total 0 x with h0 | h0
  · have e := Int.tmod_eq_emod_of_nonneg h0 (b := 10)
    refine ⟨h, ?_⟩
    rw [e]; omega
  · have e := Int.tmod_eq_emod_of_nonneg (show 0 ≤ -x by omega) (b := 10)
    rw [Int.neg_tmod] at e
    refine ⟨h, ?_⟩
    omega
set_option maxHeartbeats 1000000 in
theorem sFormat_small (n : Nat) (w : World) (h1 : 1 ≤ n) (h9 : n ≤ 9) :
    Calls Tryz.prog 112 #[.int .i64 n] w fun e w' => ∃ t : ByteArray, e = .returned (.string t) ∧ byt t = [UInt8.ofNat (48 + n)] ∧ Below w.heap.size w w' := by
  have hn0 : ((n : Int) == 0) = false := by simp; omega
  have hn1 : ((n : Int) != 0) = true := by simp; omega
  have hneg : ¬ ((n : Int) < 0) := by omega
  go_enter Tryz.func112, Tryz.ntmps112
  go_wp2_with fail
  go_loopw [0, 4, 5] (fun a o _ wr => Below w.heap.size w wr ∧ ((a = .int .i64 n ∧ o = .string { data := #[] }) ∨ (a = .int .i64 0 ∧ ∃ t, o = .string t ∧ byt t = [UInt8.ofNat (48 + n)]))) (fun a _ _ _ => (intOf a).toNat)
  case atStart => exact ⟨Below.refl _ _, .inl ⟨rfl, rfl⟩⟩
  case round =>
    obtain ⟨hbr, hcase⟩ := hrel
    have HBr := Lib.hid hbr; clear hbr
    rcases hcase with ⟨rfl, rfl⟩ | ⟨rfl, t, rfl, ht⟩
    · have hmod : Int.tmod (n : Int) 10 = n := Int.tmod_eq_of_lt (by omega) (by omega)
      have hdiv : Int.tdiv (n : Int) 10 = 0 := Int.tdiv_eq_zero_of_lt (by omega) (by omega)
      obtain ⟨c, hc⟩ : ∃ c : UInt8, c = UInt8.ofNat (48 + n) := ⟨_, rfl⟩
      have hr := run_str1 wr c (48 + (n : Int)) (by rw [hc]; exact dig_nat h9)
      have Hc := Lib.hid hc; clear hc
      go_wp2_with fail
      go_roundw
      case rel => exact ⟨HBr.out.alloc HBr.out.size _, .inr ⟨rfl, _, rfl, by rw [byt_append, ← Hc.out]; rfl⟩⟩
      case measure => simp [intOf]; omega
    · go_wp2_with fail
      go_ret
      exact ⟨t, rfl, ht, HBr.out⟩
set_option maxHeartbeats 1000000 in
theorem sFormat_any (n : Int) (w : World) (h1 : -1000000000000 < n) (h2 : n < 1000000000000) :
    Calls Tryz.prog 112 #[.int .i64 n] w fun e w' => ∃ t : ByteArray, e = .returned (.string t) ∧ Below w.heap.size w w' := by
  by_cases h0 : n = 0
  · subst h0
    go_enter Tryz.func112, Tryz.ntmps112
    go_wp2_with fail
    go_ret
    exact ⟨_, rfl, Below.refl _ _⟩
  have hn0 : (n == 0) = false := by simpa using h0
  clear h0
  have hP : ∃ below, decide (n < 0) = below := ⟨_, rfl⟩
  obtain ⟨below, hbl⟩ := hP
  go_enter Tryz.func112, Tryz.ntmps112
  go_wp2_with fail
  go_loopw [0, 4, 5] (fun a o _ wr => Below w.heap.size w wr ∧ ∃ (k : Nat) (x : Int) (t : ByteArray), a = .int .i64 x ∧ o = .string t ∧ -(10 ^ k : Int) < x ∧ x < 10 ^ k ∧ k ≤ 12 ∧ t.size + k ≤ 12) (fun a _ _ _ => (intOf a).natAbs)
  case atStart => exact ⟨Below.refl _ _, 12, n, _, rfl, rfl, by omega, by omega, by omega, Nat.le_refl 12⟩
  case round =>
    obtain ⟨hbr, k, x, t, rfl, rfl, hx1, hx2, hk, hts⟩ := hrel
    have HBr := Lib.hid hbr; clear hbr
    by_cases hx : x = 0
    · subst hx
      clear hx1 hx2
      cases below
      · go_wp2_with fail
        go_ret
        exact ⟨_, rfl, HBr.out⟩
      · go_wp2_with fail
        go_ret
        exact ⟨_, rfl, HBr.out⟩
    · have hx0 : (x != 0) = true := by simpa using hx
      obtain ⟨j, rfl⟩ : ∃ j, k = j + 1 := by
        rcases k with _ | j
        · simp at hx1 hx2; omega
        · exact ⟨j, rfl⟩
      rw [Int.pow_succ] at hx1 hx2
      obtain ⟨Z, hZ⟩ : ∃ Z : Int, Z = 10 ^ j := ⟨_, rfl⟩
      rw [← hZ] at hx1 hx2
      obtain ⟨r, hr⟩ : ∃ r, r = Int.tmod x 10 := ⟨_, rfl⟩
      obtain ⟨q, hq⟩ : ∃ q, q = Int.tdiv x 10 := ⟨_, rfl⟩
      obtain ⟨hqr, hr1, hr2, hr3, hr4⟩ := ten_parts x
      rw [← hr, ← hq] at hqr
      rw [← hr] at hr1 hr2 hr3 hr4
      have hZ12 : Z ≤ 100000000000 := by
        have : (10 : Int) ^ j ≤ 10 ^ 11 := by
          have := Nat.pow_le_pow_right (n := 10) (by omega) (show j ≤ 11 by omega)
          exact_mod_cast this
        rw [hZ]; omega
      have hq1 : -Z < q ∧ q < Z := by omega
      have hq2 : q.natAbs < x.natAbs := by omega
      have Hwq : Hid (wrap64 q = q) := Lib.hid (by unfold wrap64; omega)
      have hr' := hr.symm; have hq' := hq.symm
      have HZ := Lib.hid hZ; have Hq1 := Lib.hid hq1; have Hq2 := Lib.hid hq2
      clear hr hq hZ hq1 hq2 hqr hx1 hx2 hr3 hr4 hZ12
      by_cases hneg : r < 0
      · obtain ⟨d, rfl⟩ : ∃ d : Nat, r = -(d : Int) := ⟨(-r).toNat, by omega⟩
        obtain ⟨c, hc⟩ : ∃ c : UInt8, (48 + (d : Int)) = (c.toNat : Int) := ⟨_, dig_nat (by omega)⟩
        have hrs := run_str1 wr c _ hc
        have hsz := dig_size c
        clear hc
        go_wp2_with fail
        go_roundw
        case rel => exact ⟨HBr.out.alloc HBr.out.size _, j, q, _, by rw [Hwq.out], rfl, by rw [← HZ.out]; exact Hq1.out.1, by rw [← HZ.out]; exact Hq1.out.2, by omega, by rw [ByteArray.size_append, hsz]; omega⟩
        case measure => (show (wrap64 q).natAbs < x.natAbs); rw [Hwq.out]; exact Hq2.out
      · obtain ⟨d, rfl⟩ := Int.eq_ofNat_of_zero_le (show 0 ≤ r by omega)
        obtain ⟨c, hc⟩ : ∃ c : UInt8, (48 + (d : Int)) = (c.toNat : Int) := ⟨_, dig_nat (by omega)⟩
        have hrs := run_str1 wr c _ hc
        have hsz := dig_size c
        clear hc
        go_wp2_with fail
        go_roundw
        case rel => exact ⟨HBr.out.alloc HBr.out.size _, j, q, _, by rw [Hwq.out], rfl, by rw [← HZ.out]; exact Hq1.out.1, by rw [← HZ.out]; exact Hq1.out.2, by omega, by rw [ByteArray.size_append, hsz]; omega⟩
        case measure => (show (wrap64 q).natAbs < x.natAbs); rw [Hwq.out]; exact Hq2.out
end Go.Proofs.YtihfhfihladlcaaGreatDoor

/- Texts of this claim, one behind the other: what each says stands at its head. -/
import Derived.Test.YtihfhfihladlcaaGreatDoorCore
import Derived.Test.YtihfhfihladlcaaGreatDoorStr2
/- Numbers as texts: FormatInt, l1Read and ParseInt of the reference, parseHead of the program. -/
namespace Go.Proofs.YtihfhfihladlcaaGreatDoor
set_option maxRecDepth 20000
open Go.RowKit
set_option linter.unusedSimpArgs false
set_option linter.unusedVariables false

/-- string([]byte{c}) -/
theorem run_str1 (w : World) (c : UInt8) (x : Int) (hx : x = (c.toNat : Int)) : (convert 22 9 (.slice (some ⟨w.heap.size, 0, none⟩) 1 1)).run Tryz.prog (w.alloc (.cells #[.int .u8 x] 5)) = .ok (.string ⟨#[c]⟩) (w.alloc (.cells #[.int .u8 x] 5)) := by
  have := run_convert_bytes_back (P := Tryz.prog) (w.alloc (.cells #[.int .u8 x] 5)) 22 9 5 ⟨w.heap.size, 0, none⟩ 1 [c] Tryz.underlying22 Tryz.underlying5 Tryz.underlying9 (fun j hj => by
    have hj0 : j = 0 := by simpa using hj
    subst hj0
    simp [Addr.add, hx])
  exact this
theorem dig_nat {n : Nat} (h : n ≤ 9) : (48 + (n : Int)) = ((UInt8.ofNat (48 + n)).toNat : Int) := by
  rw [UInt8.toNat_ofNat']; omega
theorem byt_append (a b : ByteArray) : byt (a ++ b) = byt a ++ byt b := by unfold byt; simp
theorem dig_size (c : UInt8) : (⟨#[c]⟩ : ByteArray).size = 1 := rfl
/-- quotient and rest by ten: both fall towards zero -/
theorem ten_parts (x : Int) : x = 10 * Int.tdiv x 10 + Int.tmod x 10 ∧ -9 ≤ Int.tmod x 10 ∧ Int.tmod x 10 ≤ 9 ∧ (0 ≤ x → 0 ≤ Int.tmod x 10) ∧ (x ≤ 0 → Int.tmod x 10 ≤ 0) := by
  have h := (Int.mul_tdiv_add_tmod x 10).symm
  rcases Int.le_total 0 x with h0 | h0
  · have e := Int.tmod_eq_emod_of_nonneg h0 (b := 10)
    refine ⟨h, ?_⟩
    rw [e]; omega
  · have e := Int.tmod_eq_emod_of_nonneg (show 0 ≤ -x by omega) (b := 10)
    rw [Int.neg_tmod] at e
    refine ⟨h, ?_⟩
    omega
set_option maxHeartbeats 1000000 in
theorem sFormat_small (n : Nat) (w : World) (h1 : 1 ≤ n) (h9 : n ≤ 9) :
    Calls Tryz.prog 112 #[.int .i64 n] w fun e w' => ∃ t : ByteArray, e = .returned (.string t) ∧ byt t = [UInt8.ofNat (48 + n)] ∧ Below w.heap.size w w' := by
  have hn0 : ((n : Int) == 0) = false := by simp; omega
  have hn1 : ((n : Int) != 0) = true := by simp; omega
  have hneg : ¬ ((n : Int) < 0) := by omega
  go_enter Tryz.func112, Tryz.ntmps112
  go_wp2_with fail
  go_loopw [0, 4, 5] (fun a o _ wr => Below w.heap.size w wr ∧ ((a = .int .i64 n ∧ o = .string { data := #[] }) ∨ (a = .int .i64 0 ∧ ∃ t, o = .string t ∧ byt t = [UInt8.ofNat (48 + n)]))) (fun a _ _ _ => (intOf a).toNat)
  case atStart => exact ⟨Below.refl _ _, .inl ⟨rfl, rfl⟩⟩
  case round =>
    obtain ⟨hbr, hcase⟩ := hrel
    have HBr := Lib.hid hbr; clear hbr
    rcases hcase with ⟨rfl, rfl⟩ | ⟨rfl, t, rfl, ht⟩
    · have hmod : Int.tmod (n : Int) 10 = n := Int.tmod_eq_of_lt (by omega) (by omega)
      have hdiv : Int.tdiv (n : Int) 10 = 0 := Int.tdiv_eq_zero_of_lt (by omega) (by omega)
      obtain ⟨c, hc⟩ : ∃ c : UInt8, c = UInt8.ofNat (48 + n) := ⟨_, rfl⟩
      have hr := run_str1 wr c (48 + (n : Int)) (by rw [hc]; exact dig_nat h9)
      have Hc := Lib.hid hc; clear hc
      go_wp2_with fail
      go_roundw
      case rel => exact ⟨HBr.out.alloc HBr.out.size _, .inr ⟨rfl, _, rfl, by rw [byt_append, ← Hc.out]; rfl⟩⟩
      case measure => simp [intOf]; omega
    · go_wp2_with fail
      go_ret
      exact ⟨t, rfl, ht, HBr.out⟩
set_option maxHeartbeats 1000000 in
theorem sFormat_any (n : Int) (w : World) (h1 : -1000000000000 < n) (h2 : n < 1000000000000) :
    Calls Tryz.prog 112 #[.int .i64 n] w fun e w' => ∃ t : ByteArray, e = .returned (.string t) ∧ Below w.heap.size w w' := by
  by_cases h0 : n = 0
  · subst h0
    go_enter Tryz.func112, Tryz.ntmps112
    go_wp2_with fail
    go_ret
    exact ⟨_, rfl, Below.refl _ _⟩
  have hn0 : (n == 0) = false := by simpa using h0
  clear h0
  have hP : ∃ below, decide (n < 0) = below := ⟨_, rfl⟩
  obtain ⟨below, hbl⟩ := hP
  go_enter Tryz.func112, Tryz.ntmps112
  go_wp2_with fail
  go_loopw [0, 4, 5] (fun a o _ wr => Below w.heap.size w wr ∧ ∃ (k : Nat) (x : Int) (t : ByteArray), a = .int .i64 x ∧ o = .string t ∧ -(10 ^ k : Int) < x ∧ x < 10 ^ k ∧ k ≤ 12 ∧ t.size + k ≤ 12) (fun a _ _ _ => (intOf a).natAbs)
  case atStart => exact ⟨Below.refl _ _, 12, n, _, rfl, rfl, by omega, by omega, by omega, Nat.le_refl 12⟩
  case round =>
    obtain ⟨hbr, k, x, t, rfl, rfl, hx1, hx2, hk, hts⟩ := hrel
    have HBr := Lib.hid hbr; clear hbr
    by_cases hx : x = 0
    · subst hx
      clear hx1 hx2
      cases below
      · go_wp2_with fail
        go_ret
        exact ⟨_, rfl, HBr.out⟩
      · go_wp2_with fail
        go_ret
        exact ⟨_, rfl, HBr.out⟩
    · have hx0 : (x != 0) = true := by simpa using hx
      obtain ⟨j, rfl⟩ : ∃ j, k = j + 1 := by
        rcases k with _ | j
        · simp at hx1 hx2; omega
        · exact ⟨j, rfl⟩
      rw [Int.pow_succ] at hx1 hx2
      obtain ⟨Z, hZ⟩ : ∃ Z : Int, Z = 10 ^ j := ⟨_, rfl⟩
      rw [← hZ] at hx1 hx2
      obtain ⟨r, hr⟩ : ∃ r, r = Int.tmod x 10 := ⟨_, rfl⟩
      obtain ⟨q, hq⟩ : ∃ q, q = Int.tdiv x 10 := ⟨_, rfl⟩
      obtain ⟨hqr, hr1, hr2, hr3, hr4⟩ := ten_parts x
      rw [← hr, ← hq] at hqr
      rw [← hr] at hr1 hr2 hr3 hr4
      have hZ12 : Z ≤ 100000000000 := by
        have : (10 : Int) ^ j ≤ 10 ^ 11 := by
          have := Nat.pow_le_pow_right (n := 10) (by omega) (show j ≤ 11 by omega)
          exact_mod_cast this
        rw [hZ]; omega
      have hq1 : -Z < q ∧ q < Z := by omega
      have hq2 : q.natAbs < x.natAbs := by omega
      have Hwq : Hid (wrap64 q = q) := Lib.hid (by unfold wrap64; omega)
      have hr' := hr.symm; have hq' := hq.symm
      have HZ := Lib.hid hZ; have Hq1 := Lib.hid hq1; have Hq2 := Lib.hid hq2
      clear hr hq hZ hq1 hq2 hqr hx1 hx2 hr3 hr4 hZ12
      by_cases hneg : r < 0
      · obtain ⟨d, rfl⟩ : ∃ d : Nat, r = -(d : Int) := ⟨(-r).toNat, by omega⟩
        obtain ⟨c, hc⟩ : ∃ c : UInt8, (48 + (d : Int)) = (c.toNat : Int) := ⟨_, dig_nat (by omega)⟩
        have hrs := run_str1 wr c _ hc
        have hsz := dig_size c
        clear hc
        go_wp2_with fail
        go_roundw
        case rel => exact ⟨HBr.out.alloc HBr.out.size _, j, q, _, by rw [Hwq.out], rfl, by rw [← HZ.out]; exact Hq1.out.1, by rw [← HZ.out]; exact Hq1.out.2, by omega, by rw [ByteArray.size_append, hsz]; omega⟩
        case measure => (show (wrap64 q).natAbs < x.natAbs); rw [Hwq.out]; exact Hq2.out
      · obtain ⟨d, rfl⟩ := Int.eq_ofNat_of_zero_le (show 0 ≤ r by omega)
        obtain ⟨c, hc⟩ : ∃ c : UInt8, (48 + (d : Int)) = (c.toNat : Int) := ⟨_, dig_nat (by omega)⟩
        have hrs := run_str1 wr c _ hc
        have hsz := dig_size c
        clear hc
        go_wp2_with fail
        go_roundw
        case rel => exact ⟨HBr.out.alloc HBr.out.size _, j, q, _, by rw [Hwq.out], rfl, by rw [← HZ.out]; exact Hq1.out.1, by rw [← HZ.out]; exact Hq1.out.2, by omega, by rw [ByteArray.size_append, hsz]; omega⟩
        case measure => (show (wrap64 q).natAbs < x.natAbs); rw [Hwq.out]; exact Hq2.out
end Go.Proofs.YtihfhfihladlcaaGreatDoor

/- Reading a number: l1Read and ParseInt of the reference. -/
namespace Go.Proofs.YtihfhfihladlcaaGreatDoor
set_option maxRecDepth 20000
open Go.RowKit
set_option linter.unusedSimpArgs false
set_option linter.unusedVariables false

/-- a number was read out of the text, at most if ok; a digit was the text itself -/
def RetRead (t : ByteArray) (w : World) (e : Ending) (w' : World) : Prop :=
  ∃ (n : Int) (ok : Bool), e = .returned (.tuple #[.int .i64 n, .bool ok]) ∧ (ok = true → 1 ≤ n → n ≤ 9 → byt t = [UInt8.ofNat (48 + n.toNat)]) ∧ Below w.heap.size w w'
set_option maxHeartbeats 1000000 in
theorem sRead_any (t : ByteArray) (w : World) (ht : t.size ≤ 1048576) : Calls Tryz.prog 182 #[.string t, .int .i64 12] w (RetRead t w) := by
  by_cases h0 : 0 < t.size
  · by_cases hb : t[0].toNat = 45
    · have hq : ((t[0].toNat : Int) == 45) = true := by rw [hb]; rfl
      obtain ⟨u, hu⟩ : ∃ u, t.extract 1 t.size = u := ⟨_, rfl⟩
      have hus : u.size = t.size - 1 := by rw [← hu, ByteArray.size_extract]; omega
      clear hb
      by_cases h1 : u.size < 1
      · have h1i : (u.size : Int) < 1 := by omega
        go_enter Tryz.func182, Tryz.ntmps182
        go_wp2_with fail
        go_ret2
        exact ⟨0, false, rfl, (fun h => by cases h), Below.refl _ _⟩
      · by_cases h12 : 12 < u.size
        · have h1i : ¬ ((u.size : Int) < 1) := by omega
          have h2i : 12 < (u.size : Int) := by omega
          go_enter Tryz.func182, Tryz.ntmps182
          go_wp2_with fail
          go_ret2
          exact ⟨0, false, rfl, (fun h => by cases h), Below.refl _ _⟩
        · have h1i : ¬ ((u.size : Int) < 1) := by omega
          have h2i : ¬ (12 < (u.size : Int)) := by omega
          go_enter Tryz.func182, Tryz.ntmps182
          go_wp2_with fail
          go_loop [8, 9] (fun n i => ∃ I N : Nat, I ≤ u.size ∧ i = .int .i64 I ∧ n = .int .i64 N ∧ N < 1000000000000 ∧ Hid (N < 10 ^ I)) (fun _ i => u.size - (intOf i).toNat)
          case atStart => exact ⟨0, 0, Nat.zero_le _, rfl, rfl, by omega, Lib.hid (by simp)⟩
          case round =>
            obtain ⟨I, N, hI, rfl, rfl, hN, hp⟩ := hrel
            by_cases hlt : I < u.size
            · have hpw : (10 : Nat) ^ I ≤ 10 ^ 11 := Nat.pow_le_pow_right (by omega) (by omega)
              have hN11 : N < 100000000000 := by have := hp.out; omega
              have hx256 : u[I].toNat < 256 := UInt8.toNat_lt _
              by_cases hr : 48 ≤ u[I].toNat ∧ u[I].toNat ≤ 57
              · obtain ⟨h97, h102⟩ := hr
                obtain ⟨y, hy⟩ : ∃ y, y = u[I].toNat - 48 := ⟨_, rfl⟩
                have hty : u[I].toNat = y + 48 := by omega
                have hy6 : y < 10 := by omega
                have Hp2 : Hid (10 * N + y < 10 ^ (I + 1)) := Lib.hid (by rw [Nat.pow_succ]; have := hp.out; omega)
                clear hy hpw
                go_wp2_with fail
                go_round
                case rel => exact ⟨I + 1, 10 * N + y, by omega, by go_num, by go_num, by omega, Hp2⟩
                case measure => simp [intOf]; omega
              · by_cases h97 : u[I].toNat < 48
                · have a1 : (u[I].toNat : Int) < 48 := by omega
                  clear hr
                  go_wp2_with fail
                  go_ret2
                  exact ⟨0, false, rfl, (fun h => by cases h), Below.refl _ _⟩
                · have a1 : ¬ ((u[I].toNat : Int) < 48) := by omega
                  have a2 : 57 < (u[I].toNat : Int) := by omega
                  clear hr
                  go_wp2_with fail
                  go_ret2
                  exact ⟨0, false, rfl, (fun h => by cases h), Below.refl _ _⟩
            · obtain rfl : I = u.size := by omega
              have hf := sFormat_any (-(N : Int)) w (by omega) (by omega)
              have Hf := Lib.hid hf
              clear hf
              go_wp2_with fail
              refine Hf.out.mono ?_
              rintro e w2 ⟨t2, rfl, hb2⟩
              have HB2 := Lib.hid hb2; clear hb2
              cases hq2 : (t2.toList == t.toList)
              · have hq3 : (t2.toList != t.toList) = true := by rw [bne, hq2]; rfl
                go_wp2_with fail
                go_ret2
                exact ⟨0, false, rfl, (fun h => by cases h), HB2.out⟩
              · have hq3 : (t2.toList != t.toList) = false := by rw [bne, hq2]; rfl
                go_wp2_with fail
                go_ret2
                exact ⟨_, true, rfl, (fun _ h _ => by omega), HB2.out⟩
    · have hq : ((t[0].toNat : Int) == 45) = false := by simp; omega
      clear hb
      obtain ⟨u, hu⟩ : ∃ u, u = t := ⟨_, rfl⟩
      subst hu
      have h1i : ¬ ((u.size : Int) < 1) := by omega
      by_cases h12 : 12 < u.size
      · have h2i : 12 < (u.size : Int) := by omega
        go_enter Tryz.func182, Tryz.ntmps182
        go_wp2_with fail
        go_ret2
        exact ⟨0, false, rfl, (fun h => by cases h), Below.refl _ _⟩
      · have h2i : ¬ (12 < (u.size : Int)) := by omega
        go_enter Tryz.func182, Tryz.ntmps182
        go_wp2_with fail
        go_loop [8, 9] (fun n i => ∃ I N : Nat, I ≤ u.size ∧ i = .int .i64 I ∧ n = .int .i64 N ∧ N < 1000000000000 ∧ Hid (N < 10 ^ I)) (fun _ i => u.size - (intOf i).toNat)
        case atStart => exact ⟨0, 0, Nat.zero_le _, rfl, rfl, by omega, Lib.hid (by simp)⟩
        case round =>
          obtain ⟨I, N, hI, rfl, rfl, hN, hp⟩ := hrel
          by_cases hlt : I < u.size
          · have hpw : (10 : Nat) ^ I ≤ 10 ^ 11 := Nat.pow_le_pow_right (by omega) (by omega)
            have hN11 : N < 100000000000 := by have := hp.out; omega
            have hx256 : u[I].toNat < 256 := UInt8.toNat_lt _
            by_cases hr : 48 ≤ u[I].toNat ∧ u[I].toNat ≤ 57
            · obtain ⟨h97, h102⟩ := hr
              obtain ⟨y, hy⟩ : ∃ y, y = u[I].toNat - 48 := ⟨_, rfl⟩
              have hty : u[I].toNat = y + 48 := by omega
              have hy6 : y < 10 := by omega
              have Hp2 : Hid (10 * N + y < 10 ^ (I + 1)) := Lib.hid (by rw [Nat.pow_succ]; have := hp.out; omega)
              clear hy hpw
              go_wp2_with fail
              go_round
              case rel => exact ⟨I + 1, 10 * N + y, by omega, by go_num, by go_num, by omega, Hp2⟩
              case measure => simp [intOf]; omega
            · by_cases h97 : u[I].toNat < 48
              · have a1 : (u[I].toNat : Int) < 48 := by omega
                clear hr
                go_wp2_with fail
                go_ret2
                exact ⟨0, false, rfl, (fun h => by cases h), Below.refl _ _⟩
              · have a1 : ¬ ((u[I].toNat : Int) < 48) := by omega
                have a2 : 57 < (u[I].toNat : Int) := by omega
                clear hr
                go_wp2_with fail
                go_ret2
                exact ⟨0, false, rfl, (fun h => by cases h), Below.refl _ _⟩
          · obtain rfl : I = u.size := by omega
            have hf : Calls Tryz.prog 112 #[.int .i64 N] w fun e w' => ∃ t : ByteArray, e = .returned (.string t) ∧ (1 ≤ N → N ≤ 9 → byt t = [UInt8.ofNat (48 + N)]) ∧ Below w.heap.size w w' := by
              by_cases h : 1 ≤ N ∧ N ≤ 9
              · exact (sFormat_small N w h.1 h.2).mono fun e w' ⟨t, h1, h2, h3⟩ => ⟨t, h1, fun _ _ => h2, h3⟩
              · exact (sFormat_any N w (by omega) (by omega)).mono fun e w' ⟨t, h1, h3⟩ => ⟨t, h1, fun a b => absurd ⟨a, b⟩ h, h3⟩
            have Hf := Lib.hid hf
            clear hf
            go_wp2_with fail
            refine Hf.out.mono ?_
            rintro e w2 ⟨t2, rfl, hd2, hb2⟩
            have HB2 := Lib.hid hb2; have HD2 := Lib.hid hd2; clear hb2 hd2
            cases hq2 : (t2.toList == u.toList)
            · have hq3 : (t2.toList != u.toList) = true := by rw [bne, hq2]; rfl
              go_wp2_with fail
              go_ret2
              exact ⟨0, false, rfl, (fun h => by cases h), HB2.out⟩
            · have hq3 : (t2.toList != u.toList) = false := by rw [bne, hq2]; rfl
              have e3 : Hid (byt u = byt t2) := Lib.hid (by
                have e2 : t2.toList = u.toList := by simpa using hq2
                rw [Lib.toList_data, Lib.toList_data] at e2
                exact e2.symm)
              go_wp2_with fail
              go_ret2
              refine ⟨N, true, rfl, fun _ a b => ?_, HB2.out⟩
              have h3 := HD2.out (by omega) (by omega)
              rw [e3.out, h3, Int.toNat_natCast]
  · have hz : t.size = 0 := by omega
    obtain rfl : t = ByteArray.empty := byt_inj ((empty_iff t).1 hz)
    go_enter Tryz.func182, Tryz.ntmps182
    go_wp2_with fail
    go_ret2
    exact ⟨0, false, rfl, (fun h => by cases h), Below.refl _ _⟩
set_option maxHeartbeats 1000000 in
theorem sRead_digit (t : ByteArray) (m : Nat) (w : World) (h1 : 1 ≤ m) (h9 : m ≤ 9) (hm : byt t = [UInt8.ofNat (48 + m)]) :
    Calls Tryz.prog 182 #[.string t, .int .i64 12] w fun e w' => e = .returned (.tuple #[.int .i64 m, .bool true]) ∧ Below w.heap.size w w' := by
  have hs : t.size = 1 := by rw [← byt_len, hm]; rfl
  have h0 : 0 < t.size := by omega
  have hd : t[0].toNat = m + 48 := by
    have := bn_at t 0 h0
    rw [← this, hm]
    show (UInt8.ofNat (48 + m)).toNat = _
    rw [UInt8.toNat_ofNat']; omega
  have hf := fun W => sFormat_small m W h1 h9
  have Hf := Lib.hid hf; have Hm := Lib.hid hm
  have hq : (((m + 48 : Nat) : Int) == 45) = false := by simp; omega
  clear hf hm
  go_enter Tryz.func182, Tryz.ntmps182
  go_wp2_with fail
  go_loop [8, 9] (fun n i => ∃ I N : Nat, I ≤ 1 ∧ i = .int .i64 I ∧ n = .int .i64 N ∧ N ≤ 9 ∧ Hid ((I = 0 ∧ N = 0) ∨ (I = 1 ∧ N = m))) (fun _ i => 1 - (intOf i).toNat)
  case atStart => exact ⟨0, 0, by omega, rfl, rfl, by omega, Lib.hid (.inl ⟨rfl, rfl⟩)⟩
  case round =>
    obtain ⟨I, N, hI, rfl, rfl, hN, hcase⟩ := hrel
    by_cases hlt : I < 1
    · obtain rfl : I = 0 := by omega
      have HN : Hid (10 * N + m = m) := Lib.hid (by have := hcase.out; omega)
      clear hcase
      go_wp2_with fail
      exact ⟨⟨_, _, _, _, ⟨1, by omega, rfl, 10 * N + m, by go_num, by rw [HN.out]; exact h9, Lib.hid (.inr ⟨rfl, HN.out⟩)⟩, rfl, rfl, rfl, rfl⟩, by simp [intOf]⟩
    · obtain rfl : I = 1 := by omega
      obtain rfl : N = m := by have := hcase.out; omega
      clear hcase
      go_wp2_with fail
      refine (Hf.out _).mono ?_
      rintro e w2 ⟨t2, rfl, hd2, hb2⟩
      have HB2 := Lib.hid hb2
      have hq2 : (t2.toList == t.toList) = true := by
        rw [Lib.toList_data, Lib.toList_data, beq_iff_eq]
        show byt t2 = byt t
        rw [hd2, Hm.out]
      have hq3 : (t2.toList != t.toList) = false := by rw [bne, hq2]; rfl
      clear hb2 hd2
      go_wp2_with fail
      go_ret2
      exact ⟨rfl, HB2.out⟩
theorem sPint_any (t : ByteArray) (w : World) (ht : t.size ≤ 1048576) : Calls Tryz.prog 128 #[.string t] w (RetRead t w) := by
  have Ht := Lib.hid ht; clear ht
  go_enter Tryz.func128, Tryz.ntmps128
  go_wp2_with fail
  refine (sRead_any t w Ht.out).mono ?_
  rintro e w2 ⟨n, ok, rfl, h1, h2⟩
  have H1 := Lib.hid h1; have H2 := Lib.hid h2; clear h1 h2
  go_wp2_with fail
  go_ret2
  exact ⟨n, ok, rfl, H1.out, H2.out⟩
theorem sPint_digit (t : ByteArray) (m : Nat) (w : World) (h1 : 1 ≤ m) (h9 : m ≤ 9) (hm : byt t = [UInt8.ofNat (48 + m)]) :
    Calls Tryz.prog 128 #[.string t] w fun e w' => e = .returned (.tuple #[.int .i64 m, .bool true]) ∧ Below w.heap.size w w' := by
  have Hm := Lib.hid hm; clear hm
  go_enter Tryz.func128, Tryz.ntmps128
  go_wp2_with fail
  refine (sRead_digit t m w h1 h9 Hm.out).mono ?_
  rintro e w2 ⟨rfl, h2⟩
  have H2 := Lib.hid h2; clear h2
  go_wp2_with fail
  go_ret2
  exact ⟨rfl, H2.out⟩
end Go.Proofs.YtihfhfihladlcaaGreatDoor

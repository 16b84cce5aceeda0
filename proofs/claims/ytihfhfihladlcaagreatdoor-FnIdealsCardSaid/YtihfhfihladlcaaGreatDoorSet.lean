/- Texts of this claim, one behind the other: what each says stands at its head. -/
import Derived.BigQuiet
import Derived.Deep.QuietTactic
import Derived.Test.YtihfhfihladlcaaGreatDoorBase
import Derived.Test.YtihfhfihladlcaaGreatDoorCore
/- Contracts of the functions on sets of points and on families of sets: what each call returns, and that nothing that was there has changed. -/
namespace Go.Proofs.YtihfhfihladlcaaGreatDoor
set_option maxRecDepth 20000
open Go.RowKit
set_option linter.unusedSimpArgs false

theorem hasSet_any (F s : Nat) (w : World) (hF : Fam F) (hs : s < 64) :
    Calls Tryz.prog 152 #[.int .u64 F, .int .i64 s] w fun e w' => e = .returned (.bool (F.testBit s)) ∧ w = w' := by
  go_enter Tryz.func152, Tryz.ntmps152
  go_wp2
  go_ret
  exact ⟨rfl, rfl⟩

/-- IsSet -/
def isSetB (n s : Int) : Bool := decide (0 ≤ n ∧ n ≤ 6 ∧ 0 ≤ s ∧ s < 2 ^ n.toNat)
theorem pow_wrap (n : Int) (h0 : 0 ≤ n) (h6 : n ≤ 6) : wrap64 (2 ^ n.toNat) = 2 ^ n.toNat ∧ wrap64 (2 ^ n.toNat - 1) = 2 ^ n.toNat - 1 := by
  obtain ⟨m, rfl⟩ := Int.eq_ofNat_of_zero_le h0
  have hm : m ≤ 6 := by omega
  simp only [Int.toNat_natCast]
  match m, hm with
  | 0, _ | 1, _ | 2, _ | 3, _ | 4, _ | 5, _ | 6, _ => unfold wrap64; exact ⟨rfl, rfl⟩
theorem isSet6_of {s : Nat} (hs : s < 64) : isSetB 6 s = true := by
  unfold isSetB; rw [decide_eq_true_eq]; refine ⟨by omega, by omega, by omega, ?_⟩
  show (s : Int) < 64; omega
theorem isSet6_iff {s : Int} : isSetB 6 s = true ↔ ∃ t : Nat, t < 64 ∧ s = t := by
  unfold isSetB; rw [decide_eq_true_eq]
  constructor
  · rintro ⟨_, _, h0, h1⟩
    have h1' : s < 64 := h1
    exact ⟨s.toNat, by omega, by omega⟩
  · rintro ⟨t, ht, rfl⟩
    refine ⟨by omega, by omega, by omega, ?_⟩
    show (t : Int) < 64; omega
theorem pow_le64 {m : Nat} (h : m ≤ 6) : 2 ^ m ≤ 64 := Nat.pow_le_pow_right (n := 2) (by omega) h
/-- A set of n points is a natural number. -/
theorem isSet_nat {n s : Int} (h : isSetB n s = true) : ∃ m t : Nat, n = m ∧ s = t ∧ m ≤ 6 ∧ t < 2 ^ m ∧ t < 64 := by
  unfold isSetB at h; rw [decide_eq_true_eq] at h
  obtain ⟨h0, h6, hs, hlt⟩ := h
  obtain ⟨m, rfl⟩ := Int.eq_ofNat_of_zero_le h0
  obtain ⟨t, rfl⟩ := Int.eq_ofNat_of_zero_le hs
  have hm : m ≤ 6 := by omega
  have e : ((2 : Int) ^ (m : Int).toNat) = ((2 ^ m : Nat) : Int) := by rw [Int.toNat_natCast]; norm_cast
  rw [e] at hlt
  have h2 := pow_le64 hm
  exact ⟨m, t, rfl, rfl, hm, by omega, by omega⟩
theorem isSet_iff {m : Nat} {s : Int} : isSetB m s = true ↔ m ≤ 6 ∧ ∃ t : Nat, s = t ∧ t < 2 ^ m := by
  constructor
  · intro h
    obtain ⟨m', t, h1, h2, h3, h4, _⟩ := isSet_nat h
    obtain rfl : m = m' := by omega
    exact ⟨h3, t, h2, h4⟩
  · rintro ⟨hm, t, rfl, ht⟩
    unfold isSetB; rw [decide_eq_true_eq]
    refine ⟨by omega, by omega, by omega, ?_⟩
    rw [Int.toNat_natCast]; exact_mod_cast ht
theorem IsSet_any (n s : Int) (w : World) :
    Calls Tryz.prog 93 #[.int .i64 n, .int .i64 s] w fun e w' => e = .returned (.bool (isSetB n s)) ∧ w = w' := by
  go_enter Tryz.func93, Tryz.ntmps93
  go_wp2
  · go_ret
    have h0 : 0 ≤ n := by assumption
    have h6 : n ≤ 6 := by assumption
    have hs : 0 ≤ s := by assumption
    exact ⟨ret_bool (by rw [(pow_wrap n h0 h6).1]; simp [isSetB, h0, h6, hs]), rfl⟩
  all_goals go_ret
  all_goals exact ⟨ret_bool (by unfold isSetB; symm; rw [decide_eq_false_iff_not]; omega), rfl⟩
theorem IsSet6 (s : Nat) (w : World) (hs : s < 64) :
    Calls Tryz.prog 93 #[.int .i64 6, .int .i64 s] w fun e w' => e = .returned (.bool true) ∧ w = w' :=
  (IsSet_any 6 s w).mono fun e w' ⟨he, hw⟩ => ⟨by rw [he, isSet6_of hs], hw⟩
theorem IsSet_is (n s : Int) (b : Bool) (w : World) (h : isSetB n s = b) :
    Calls Tryz.prog 93 #[.int .i64 n, .int .i64 s] w fun e w' => e = .returned (.bool b) ∧ w = w' := by subst h; exact IsSet_any n s w
theorem IsSet60 (w : World) : Calls Tryz.prog 93 #[.int .i64 6, .int .i64 0] w fun e w' => e = .returned (.bool true) ∧ w = w' := IsSet6 0 w (by omega)
/-- l1In -/
def inB (x lo hi : Int) : Bool := decide (lo ≤ x ∧ x ≤ hi)
theorem l1In_any (x lo hi : Int) (w : World) :
    Calls Tryz.prog 110 #[.int .i64 x, .int .i64 lo, .int .i64 hi] w fun e w' => e = .returned (.bool (inB x lo hi)) ∧ w = w' := by
  go_enter Tryz.func110, Tryz.ntmps110
  by_cases h1 : lo ≤ x <;> by_cases h2 : x ≤ hi <;> go_wp2 <;> go_ret <;> exact ⟨ret_bool (by unfold inB; simp [h1, h2]), rfl⟩
theorem inB_true {x lo hi : Int} (h1 : lo ≤ x) (h2 : x ≤ hi) : inB x lo hi = true := by unfold inB; simp [h1, h2]
theorem inB_false {x lo hi : Int} (h : ¬ (lo ≤ x ∧ x ≤ hi)) : inB x lo hi = false := by unfold inB; simpa using h
theorem l1In_yes (x lo hi : Int) (w : World) (h1 : lo ≤ x) (h2 : x ≤ hi) :
    Calls Tryz.prog 110 #[.int .i64 x, .int .i64 lo, .int .i64 hi] w fun e w' => e = .returned (.bool true) ∧ w = w' :=
  (l1In_any x lo hi w).mono fun e w' ⟨he, hw⟩ => ⟨by rw [he, inB_true h1 h2], hw⟩
theorem l1In_no (x lo hi : Int) (w : World) (h : ¬ (lo ≤ x ∧ x ≤ hi)) :
    Calls Tryz.prog 110 #[.int .i64 x, .int .i64 lo, .int .i64 hi] w fun e w' => e = .returned (.bool false) ∧ w = w' :=
  (l1In_any x lo hi w).mono fun e w' ⟨he, hw⟩ => ⟨by rw [he, inB_false h], hw⟩
theorem l1In_set (s : Nat) (w : World) (hs : s < 64) :
    Calls Tryz.prog 110 #[.int .i64 s, .int .i64 0, .int .i64 63] w fun e w' => e = .returned (.bool true) ∧ w = w' := l1In_yes _ _ _ w (by omega) (by omega)
theorem in63 (s : Int) : inB s 0 63 = isSetB 6 s := by
  rw [Bool.eq_iff_iff, isSet6_iff]; unfold inB; rw [decide_eq_true_eq]
  exact ⟨fun h => ⟨s.toNat, by omega, by omega⟩, fun ⟨t, h1, h2⟩ => by omega⟩
theorem sIsSet_any (n s : Int) (w : World) :
    Calls Tryz.prog 36 #[.int .i64 n, .int .i64 s] w fun e w' => e = .returned (.bool (isSetB n s)) ∧ w = w' := by
  by_cases hn : 0 ≤ n ∧ n ≤ 6
  · obtain ⟨m, rfl⟩ := Int.eq_ofNat_of_zero_le hn.1
    have hm : m ≤ 6 := by omega
    have h64 := pow_le64 hm
    have h1 : 1 ≤ 2 ^ m := Nat.one_le_two_pow
    have e1 : IntKind.i64.wrap (2 ^ m) = ((2 ^ m : Nat) : Int) := by
      have := (pow_wrap m (by omega) (by omega)).1
      rw [Int.toNat_natCast] at this
      rw [IntWalk.i64_left, this]; norm_cast
    go_enter Tryz.func36, Tryz.ntmps36
    go_wp2_with (first | (go_at_call 110; (with_reducible refine (l1In_yes (m : Int) 0 6 _ (by omega) (by omega)).mono ?_); rintro e w' ⟨rfl, rfl⟩) | (go_at_call 110; (with_reducible refine (l1In_any _ _ _ _).mono ?_); rintro e w' ⟨rfl, rfl⟩))
    go_ret
    refine ⟨ret_bool ?_, rfl⟩
    unfold isSetB inB
    have e4 : wrap64 ((2 : Int) ^ m - 1) = 2 ^ m - 1 := by
      have := (pow_wrap m (by omega) (by omega)).2
      rwa [Int.toNat_natCast] at this
    rw [e4, decide_eq_decide, Int.toNat_natCast]
    omega
  · go_enter Tryz.func36, Tryz.ntmps36
    go_wp2_with (go_at_call 110; (with_reducible refine (l1In_no _ _ _ _ hn).mono ?_); rintro e w' ⟨rfl, rfl⟩)
    go_ret
    exact ⟨ret_bool (by unfold isSetB; symm; rw [decide_eq_false_iff_not]; omega), rfl⟩
theorem sIsSet_is (n s : Int) (b : Bool) (w : World) (h : isSetB n s = b) :
    Calls Tryz.prog 36 #[.int .i64 n, .int .i64 s] w fun e w' => e = .returned (.bool b) ∧ w = w' := by subst h; exact sIsSet_any n s w
theorem OC64_any (a : Nat) (w : World) (hF : a < 64) :
    Calls Tryz.prog 207 #[.int .u64 a] w fun e w' => e = .returned (.int .i64 (sz a)) ∧ w = w' := by
  go_enter Tryz.func207, Tryz.ntmps207
  go_wp2
  go_ret
  refine ⟨ret_int ?_, rfl⟩
  revert a
  decide +kernel
theorem SizeOf_any (s : Nat) (w : World) (hs : s < 64) :
    Calls Tryz.prog 136 #[.int .i64 s] w fun e w' => e = .returned (.int .i64 (sz s)) ∧ w = w' := by
  go_enter Tryz.func136, Tryz.ntmps136
  go_wp2_with (first | (go_at_call 207; (with_reducible refine (OC64_any s _ hs).mono ?_); rintro e w' ⟨rfl, rfl⟩) | (go_at_call 93; (with_reducible refine (IsSet6 s _ hs).mono ?_); rintro e w' ⟨rfl, rfl⟩) | go_in)
  go_ret
  exact ⟨rfl, rfl⟩
theorem l2Size_any (s : Nat) (w : World) (hs : s < 64) :
    Calls Tryz.prog 138 #[.int .i64 s] w fun e w' => e = .returned (.int .i64 (sz s)) ∧ w = w' := by
  go_enter Tryz.func138, Tryz.ntmps138
  go_wp2
  go_loop [0, 3] (fun t n => ∃ m k : Nat, m < 64 ∧ k ≤ 6 ∧ t = .int .i64 m ∧ n = .int .i64 k ∧ Hid (k + sz m = sz s)) (fun t _ => (intOf t).toNat)
  case atStart => exact ⟨s, 0, hs, by omega, rfl, rfl, Lib.hid (by omega)⟩
  case round =>
    obtain ⟨m, k, hm, hk, rfl, rfl, hsz⟩ := hrel
    by_cases h0 : 0 < m
    · have h1 := sz_half m hm
      have h2 := hsz.out
      have h3 := sz_le s
      have h4 : k + m % 2 ≤ 6 := by omega
      have H1 := Lib.hid h1; clear h1 h2 h3
      go_wp2
      go_round
      case rel => exact ⟨m / 2, k + m % 2, by omega, h4, by go_num, by go_num, Lib.hid (by have := H1.out; have := hsz.out; omega)⟩
      case measure => simp [intOf]; omega
    · obtain rfl : m = 0 := by omega
      go_wp2
      go_ret
      have h2 := hsz.out
      have e : sz 0 = 0 := rfl
      exact ⟨ret_int (by omega), rfl⟩
/-- BeforeSet -/
def befB (a b : Nat) : Bool := decide (rank a < rank b)
theorem befB_eq (a b : Nat) (ha : a < 64) (hb : b < 64) : befB a b = (decide (sz a < sz b) || (decide (sz a = sz b) && decide (a < b))) := by
  unfold befB rank
  rw [Bool.eq_iff_iff]; simp; omega
theorem BeforeSet_any (a b : Nat) (w : World) (ha : a < 64) (hb : b < 64) :
    Calls Tryz.prog 177 #[.int .i64 a, .int .i64 b] w fun e w' => e = .returned (.bool (befB a b)) ∧ w = w' := by
  have H := Lib.hid (befB_eq a b ha hb)
  go_enter Tryz.func177, Tryz.ntmps177
  go_wp2_with (first | (go_at_call 93; (with_reducible refine (IsSet6 a _ ha).mono ?_); rintro e w' ⟨rfl, rfl⟩) | (go_at_call 93; (with_reducible refine (IsSet6 b _ hb).mono ?_); rintro e w' ⟨rfl, rfl⟩) | (go_at_call 136; (with_reducible refine (SizeOf_any a _ ha).mono ?_); rintro e w' ⟨rfl, rfl⟩) | (go_at_call 136; (with_reducible refine (SizeOf_any b _ hb).mono ?_); rintro e w' ⟨rfl, rfl⟩))
  all_goals go_ret
  all_goals refine ⟨ret_bool ?_, rfl⟩
  all_goals try simp only [beq_iff_eq, beq_eq_false_iff_ne, bne_iff_ne, ne_eq, bne_eq_false_iff_eq] at *
  all_goals (rw [H.out, Bool.eq_iff_iff]; simp only [decide_eq_true_eq, Bool.or_eq_true, Bool.and_eq_true]; first | omega | (rw [true_iff]; omega))
theorem l2Before_any (a b : Nat) (w : World) (ha : a < 64) (hb : b < 64) :
    Calls Tryz.prog 169 #[.int .i64 a, .int .i64 b] w fun e w' => e = .returned (.bool (befB a b)) ∧ w = w' := by
  have H := Lib.hid (befB_eq a b ha hb)
  go_enter Tryz.func169, Tryz.ntmps169
  go_wp2_with (first | (go_at_call 138; (with_reducible refine (l2Size_any a _ ha).mono ?_); rintro e w' ⟨rfl, rfl⟩) | (go_at_call 138; (with_reducible refine (l2Size_any b _ hb).mono ?_); rintro e w' ⟨rfl, rfl⟩))
  all_goals go_ret
  all_goals refine ⟨ret_bool ?_, rfl⟩
  all_goals try simp only [beq_iff_eq, beq_eq_false_iff_ne, bne_iff_ne, ne_eq, bne_eq_false_iff_eq] at *
  all_goals (rw [H.out, Bool.eq_iff_iff]; simp only [decide_eq_true_eq, Bool.or_eq_true, Bool.and_eq_true]; first | omega | (rw [true_iff]; omega))

end Go.Proofs.YtihfhfihladlcaaGreatDoor

/- Contracts of the reference's and the program's Choose and OntoWords: what each call returns. -/
namespace Go.Proofs.YtihfhfihladlcaaGreatDoor
set_option maxRecDepth 20000
open Go.RowKit
set_option linter.unusedSimpArgs false

/-- i factors of the number of ways to choose i of n things -/
def ch (n : Nat) : Nat → Nat
  | 0 => 1
  | i + 1 => ch n i * (n - i) / (i + 1)
theorem ch_bd : ∀ n, n < 31 → ∀ i, i < 31 → ch n i * (n - i) ≤ 5000000000 := by decide +kernel
theorem ch_bd1 : ∀ n, n < 31 → ∀ i, i < 32 → ch n i ≤ 5000000000 := by decide +kernel
theorem mul_i64 {a b : Int} {A B C : Nat} (ha : a = A) (hb : b = B) (hC : A * B = C) (hle : C ≤ 4611686018427387904) : IntKind.i64.wrap (a * b) = (C : Int) := by
  subst ha hb hC
  rw [← Int.natCast_mul]
  exact IntWalk.i64_in _ (by omega)

set_option maxHeartbeats 400000 in
theorem sChoose_yes (n k : Nat) (w : World) (hn : n ≤ 30) (hk : k ≤ n) :
    Calls Tryz.prog 208 #[.int .i64 n, .int .i64 k] w fun e w' => e = .returned (.int .i64 (ch n k)) ∧ w = w' := by
  go_enter Tryz.func208, Tryz.ntmps208
  go_wp2_with (first | (go_at_call 110; (with_reducible refine (l1In_yes (n : Int) 0 60 _ (by omega) (by omega)).mono ?_); rintro e w' ⟨rfl, rfl⟩) | (go_at_call 110; (with_reducible refine (l1In_yes (k : Int) 0 (n : Int) _ (by omega) (by omega)).mono ?_); rintro e w' ⟨rfl, rfl⟩))
  go_loop [5, 6] (fun r i => ∃ I R : Nat, I ≤ k ∧ i = .int .i64 I ∧ r = .int .i64 R ∧ Hid (R = ch n I)) (fun _ i => k - (intOf i).toNat)
  case atStart => exact ⟨0, 1, Nat.zero_le _, rfl, rfl, Lib.hid rfl⟩
  case round =>
    obtain ⟨I, R, hI, rfl, rfl, hR⟩ := hrel
    by_cases hlt : I < k
    · obtain ⟨Y, hY⟩ : ∃ Y : Nat, Y = R * (n - I) := ⟨_, rfl⟩
      have hYb : Y ≤ 5000000000 := by rw [hY, hR.out]; exact ch_bd n (by omega) I (by omega)
      have hw : IntKind.i64.wrap ((R : Int) * ((n : Int) - (I : Int))) = (Y : Int) := mul_i64 rfl (show (n : Int) - (I : Int) = ((n - I : Nat) : Int) by omega) hY.symm (by omega)
      have HY := Lib.hid (show ((Y : Int) / ((I : Int) + 1)) = ((ch n (I + 1) : Nat) : Int) by
        have e : ch n (I + 1) = Y / (I + 1) := by rw [hY, hR.out]; rfl
        rw [e, Int.natCast_ediv]; rfl)
      clear hY
      go_wp2
      go_round
      case rel => exact ⟨I + 1, ch n (I + 1), by omega, by go_num, by rw [HY.out, IntWalk.wrap64_in _ (by have := ch_bd1 n (by omega) (I + 1) (by omega); omega)], Lib.hid rfl⟩
      case measure => simp [intOf]; omega
    · obtain rfl : I = k := by omega
      go_wp2
      go_ret
      exact ⟨ret_int (by rw [hR.out]), rfl⟩
theorem sChoose_no (n k : Int) (w : World) (h : ¬ (0 ≤ n ∧ n ≤ 60 ∧ 0 ≤ k ∧ k ≤ n)) :
    Calls Tryz.prog 208 #[.int .i64 n, .int .i64 k] w fun e w' => e = .returned (.int .i64 0) ∧ w = w' := by
  by_cases h1 : 0 ≤ n ∧ n ≤ 60
  · go_enter Tryz.func208, Tryz.ntmps208
    go_wp2_with (first | (go_at_call 110; (with_reducible refine (l1In_yes n 0 60 _ h1.1 h1.2).mono ?_); rintro e w' ⟨rfl, rfl⟩) | (go_at_call 110; (with_reducible refine (l1In_no k 0 n _ (by omega)).mono ?_); rintro e w' ⟨rfl, rfl⟩))
    go_ret
    exact ⟨rfl, rfl⟩
  · go_enter Tryz.func208, Tryz.ntmps208
    go_wp2_with (go_at_call 110; (with_reducible refine (l1In_no n 0 60 _ h1).mono ?_); rintro e w' ⟨rfl, rfl⟩)
    go_ret
    exact ⟨rfl, rfl⟩

/-- words onto k kinds, the program's way -/
def onI : Nat → Nat → Nat
  | 0, k => if k = 0 then 1 else 0
  | n + 1, k => if k = 0 then 0 else k * (onI n k + onI n (k - 1))
theorem onI_big : ∀ n, n < 8 → ∀ k, k < 8 → n < k → onI n k = 0 := by decide +kernel
theorem onI_bd : ∀ n, n < 8 → ∀ k, k < 8 → onI n k ≤ 20000 := by decide +kernel
/-- the reference's sum, its first i terms -/
def onS (n k : Nat) : Nat → Int
  | 0 => 0
  | i + 1 => onS n k i + (1 - 2 * ((i : Int) % 2)) * (ch k i : Int) * (((k - i) ^ n : Nat) : Int)
theorem onS_bd : ∀ n, n < 8 → ∀ k, k < 8 → ∀ i, i < 9 → -100000000 ≤ onS n k i ∧ onS n k i ≤ 100000000 := by decide +kernel
theorem onS_step : ∀ n, n < 8 → ∀ k, k < 8 → ∀ i, i < 8 → i ≤ k → wrap64 (onS n k i + wrap64 (wrap64 ((1 - 2 * ((i : Int) % 2)) * (ch k i : Int)) * (((k - i) ^ n : Nat) : Int))) = onS n k (i + 1) := by decide +kernel
theorem onS_onI : ∀ n, n < 8 → ∀ k, k < 8 → onS n k (k + 1) = (onI n k : Int) := by decide +kernel
theorem pw_bd : ∀ b, b < 8 → ∀ j, j < 8 → b ^ j * b ≤ 10000000 := by decide +kernel

/-- the words of n letters onto k kinds -/
def onto (n k : Int) : Nat := if 0 ≤ n ∧ n ≤ 7 ∧ 0 ≤ k ∧ k ≤ 7 then onI n.toNat k.toNat else 0
theorem onto_le (n k : Int) : onto n k ≤ 20000 := by
  unfold onto
  split
  · exact onI_bd _ (by omega) _ (by omega)
  · omega


set_option maxHeartbeats 1000000 in
theorem sOnto_in (n k : Nat) (w : World) (hn : n ≤ 7) (hk : k ≤ 7) :
    Calls Tryz.prog 187 #[.int .i64 n, .int .i64 k] w fun e w' => e = .returned (.int .i64 (onI n k)) ∧ w = w' := by
  go_enter Tryz.func187, Tryz.ntmps187
  go_wp2_with (first | (go_at_call 110; (with_reducible refine (l1In_yes (n : Int) 0 7 _ (by omega) (by omega)).mono ?_); rintro e w' ⟨rfl, rfl⟩) | (go_at_call 110; (with_reducible refine (l1In_yes (k : Int) 0 7 _ (by omega) (by omega)).mono ?_); rintro e w' ⟨rfl, rfl⟩))
  go_loop [5, 6, 7, 8] (fun t i _ _ => ∃ (I : Nat) (S : Int), I ≤ k + 1 ∧ i = .int .i64 I ∧ t = .int .i64 S ∧ Hid (S = onS n k I)) (fun _ i _ _ => k + 1 - (intOf i).toNat)
  case atStart => exact ⟨0, 0, Nat.zero_le _, rfl, rfl, Lib.hid rfl⟩
  case round =>
    obtain ⟨I, S, hI, rfl, rfl, hS⟩ := hrel
    by_cases hlt : I ≤ k
    · have hSb : -100000000 ≤ S ∧ S ≤ 100000000 := by rw [hS.out]; exact onS_bd n (by omega) k (by omega) I (by omega)
      have hIk : (I : Int) ≤ (k : Int) := by omega
      go_wp2_with fail
      go_loop [7, 8] (fun p j => ∃ J P : Nat, J ≤ n ∧ j = .int .i64 J ∧ p = .int .i64 P ∧ Hid (P = (k - I) ^ J)) (fun _ j => n - (intOf j).toNat)
      case atStart => exact ⟨0, 1, Nat.zero_le _, rfl, rfl, Lib.hid rfl⟩
      case round =>
        obtain ⟨J, P, hJ, rfl, rfl, hP⟩ := hrel
        by_cases hlt2 : J < n
        · obtain ⟨Y, hY⟩ : ∃ Y : Nat, Y = P * (k - I) := ⟨_, rfl⟩
          have hYb : Y ≤ 10000000 := by rw [hY, hP.out]; exact pw_bd (k - I) (by omega) J (by omega)
          have hw : IntKind.i64.wrap ((P : Int) * ((k : Int) - (I : Int))) = (Y : Int) := mul_i64 rfl (show (k : Int) - (I : Int) = ((k - I : Nat) : Int) by omega) hY.symm (by omega)
          have HY := Lib.hid (show Y = (k - I) ^ (J + 1) by rw [hY, hP.out, Nat.pow_succ])
          clear hY
          go_wp2
          go_round
          case rel => exact ⟨J + 1, Y, by omega, by go_num, rfl, HY⟩
          case measure => simp [intOf]; omega
        · obtain rfl : J = n := by omega
          have hst := Lib.hid (onS_step J (by omega) k (by omega) I (by omega) hlt)
          go_wp2_with (go_at_call 208; (with_reducible refine (sChoose_yes k I _ (by omega) (by omega)).mono ?_); rintro e w' ⟨rfl, rfl⟩)
          go_round
          case rel => exact ⟨I + 1, _, by omega, by go_num, rfl, Lib.hid (by rw [hS.out, hP.out]; exact hst.out)⟩
          case measure => simp [intOf]; omega
    · obtain rfl : I = k + 1 := by omega
      have hkk : ¬ ((k : Int) + 1 ≤ (k : Int)) := by omega
      go_wp2
      go_ret
      exact ⟨ret_int (by rw [hS.out]; exact onS_onI n (by omega) k (by omega)), rfl⟩
theorem sOnto_any (n k : Int) (w : World) :
    Calls Tryz.prog 187 #[.int .i64 n, .int .i64 k] w fun e w' => e = .returned (.int .i64 (onto n k)) ∧ w = w' := by
  by_cases h : 0 ≤ n ∧ n ≤ 7 ∧ 0 ≤ k ∧ k ≤ 7
  · obtain ⟨N, rfl⟩ := Int.eq_ofNat_of_zero_le h.1
    obtain ⟨K, rfl⟩ := Int.eq_ofNat_of_zero_le h.2.2.1
    unfold onto
    rw [if_pos h]
    exact sOnto_in N K w (by omega) (by omega)
  · have e : onto n k = 0 := by unfold onto; rw [if_neg h]
    rw [e]
    by_cases h1 : 0 ≤ n ∧ n ≤ 7
    · go_enter Tryz.func187, Tryz.ntmps187
      go_wp2_with (first | (go_at_call 110; (with_reducible refine (l1In_yes n 0 7 _ h1.1 h1.2).mono ?_); rintro e w' ⟨rfl, rfl⟩) | (go_at_call 110; (with_reducible refine (l1In_no k 0 7 _ (by omega)).mono ?_); rintro e w' ⟨rfl, rfl⟩))
      go_ret
      exact ⟨rfl, rfl⟩
    · go_enter Tryz.func187, Tryz.ntmps187
      go_wp2_with (go_at_call 110; (with_reducible refine (l1In_no n 0 7 _ h1).mono ?_); rintro e w' ⟨rfl, rfl⟩)
      go_ret
      exact ⟨rfl, rfl⟩

end Go.Proofs.YtihfhfihladlcaaGreatDoor

/- Contracts of the functions that make lists of sets: the points of a set, the sets of a family in order, its greatest and its least sets; the program's and the reference's. -/
namespace Go.Proofs.YtihfhfihladlcaaGreatDoor
set_option maxRecDepth 20000
open Go.RowKit
set_option linter.unusedSimpArgs false

set_option maxHeartbeats 400000 in
theorem PointsOf_any (s : Nat) (w : World) (hs : s < 64) :
    Calls Tryz.prog 117 #[.int .i64 s] w (RetInts w (up (pts s))) := by
  obtain ⟨B, hB⟩ : ∃ B, B = w.heap.size := ⟨_, rfl⟩
  have HB := Lib.hid hB; clear hB
  go_enter Tryz.func117, Tryz.ntmps117
  go_wp2_with (go_at_call 93; (with_reducible refine (IsSet6 s _ hs).mono ?_); rintro e w' ⟨rfl, rfl⟩)
  go_loopw [3, 4] (fun v i wr => ∃ k : Nat, k ≤ 6 ∧ i = .int .i64 k ∧ Below B w wr ∧ ∃ ad n c, n ≤ k ∧ v = .slice ad n c ∧ Own 3 wr B ad n c (up (ptsTo s k))) (fun _ i _ => 6 - (intOf i).toNat)
  case atStart => exact ⟨0, Nat.zero_le _, rfl, Below.refl _ _, none, 0, 0, Nat.le_refl _, rfl, Own.nil _ _ _⟩
  case round =>
    obtain ⟨k, hk, rfl, hb, ad, n, c, hn, rfl, hown⟩ := hrel
    by_cases hlt : k < 6
    · have hsz := hb.size
      rw [← HB.out] at hsz
      cases hbit : s.testBit k
      · go_wp2
        go_roundw
        case rel => exact ⟨k + 1, by omega, by go_num, hb, ad, n, c, by omega, rfl, by rw [ptsTo_no hbit]; exact hown⟩
        case measure => simp [intOf]; omega
      · go_wp2_with (at_builtin; refine ap rfl _ _ rfl B _ _ _ _ _ rfl hown rfl (by omega) hsz ?_; intro ad' c' w' hown' hb')
        go_roundw
        case rel => exact ⟨k + 1, by omega, by go_num, hb.trans hb', ad', n + 1, c', by omega, rfl, by rw [ptsTo_yes hbit, up_append]; exact hown'⟩
        case measure => simp [intOf]; omega
    · obtain rfl : k = 6 := by omega
      go_wp2
      go_ret
      exact ⟨ad, n, c, rfl, by rw [← HB.out]; exact hown, by rw [← HB.out]; exact hb⟩

theorem fam_nil : fam ([] : List Nat).contains = 0 := by rw [← fam_zero]; exact fam_congr fun s _ => by simp
theorem fam_snoc (l : List Nat) (s : Nat) (hs : s < 64) : fam l.contains ||| 2 ^ s = fam (l ++ [s]).contains := by
  rw [fam_or_bit _ hs]; exact fam_congr fun t _ => by rw [Bool.eq_iff_iff]; simp
set_option maxHeartbeats 400000 in
theorem familyOf_yes (a : Option Addr) (n c : Nat) (l : List Nat) (w : World) (h : IntsAt w a n (up l)) (hl : ∀ s ∈ l, s < 64) :
    Calls Tryz.prog 172 #[.slice a n c] w fun e w' => e = .returned (.tuple #[.int .u64 (fam l.contains), .bool true]) ∧ w = w' := by
  have hn := h.small
  have hlen := h.len
  have H0 := Lib.hid fam_nil
  go_enter Tryz.func172, Tryz.ntmps172
  go_wp2
  go_loop [4, 6, 9] (fun f _ i => ∃ k : Nat, k ≤ n ∧ i = .int .i64 k ∧ ∃ F : Nat, f = .int .u64 F ∧ Fam F ∧ Hid (F = fam (l.take k).contains)) (fun _ _ i => n - (intOf i).toNat)
  case atStart => exact ⟨0, Nat.zero_le _, rfl, 0, rfl, Fam.zero, Lib.hid H0.out.symm⟩
  case round =>
    obtain ⟨k, hk, rfl, F, rfl, hF, hFe⟩ := hrel
    by_cases hlt : k < n
    · obtain ⟨b, off, rfl, hc⟩ := h.cells (by omega)
      have hck := hc k hlt
      rw [nth_up] at hck
      have hlk : k < l.length := by rw [← up_len]; omega
      have h64 : nthN l k < 64 := hl _ (nthN_mem hlk)
      clear hlen hl hc h
      go_wp2_with (go_at_call 93; (with_reducible refine (IsSet6 (nthN l k) _ h64).mono ?_); rintro e w' ⟨rfl, rfl⟩)
      go_round
      case rel => exact ⟨k + 1, by omega, by go_num, _, rfl, hF.or (Fam.bit h64), Lib.hid (by rw [hFe.out, nthN_take l k hlk]; exact fam_snoc _ _ h64)⟩
      case measure => simp [intOf]; omega
    · obtain rfl : k = n := by omega
      go_wp2
      go_ret2
      refine ⟨?_, rfl⟩
      have := hFe.out
      rw [List.take_of_length_le (by rw [← up_len]; omega)] at this
      rw [← this]; rfl

set_option maxHeartbeats 400000 in
theorem setsIn_any (F : Nat) (w : World) (hF : Fam F) :
    Calls Tryz.prog 133 #[.int .u64 F] w (RetInts w (up (ord F.testBit))) := by
  obtain ⟨B, hB⟩ : ∃ B, B = w.heap.size := ⟨_, rfl⟩
  have HB := Lib.hid hB; clear hB
  go_enter Tryz.func133, Tryz.ntmps133
  go_wp2
  go_loopw [3, 4, 5] (fun v j _ wr => ∃ J : Nat, J ≤ 7 ∧ j = .int .i64 J ∧ Below B w wr ∧ ∃ ad n c, n ≤ 64 * J ∧ v = .slice ad n c ∧ Own 3 wr B ad n c (up (ordTo F.testBit J 0))) (fun _ j _ _ => 7 - (intOf j).toNat)
  case atStart => exact ⟨0, Nat.zero_le _, rfl, Below.refl _ _, none, 0, 0, by omega, rfl, Own.nil _ _ _⟩
  case round =>
    obtain ⟨J, hJ, rfl, hb, ad, m, c, hm, rfl, hown⟩ := hrel
    by_cases hlt : J < 7
    · obtain ⟨wo, rfl⟩ : ∃ wo : World, wo = wr := ⟨_, rfl⟩
      have hJ6 : (J : Int) ≤ 6 := by omega
      go_wp2_with fail
      go_loopw [3, 5] (fun v s wr => ∃ S : Nat, S ≤ 64 ∧ s = .int .i64 S ∧ Below B w wr ∧ ∃ ad n c, n ≤ 64 * J + S ∧ v = .slice ad n c ∧ Own 3 wr B ad n c (up (ordTo F.testBit J S))) (fun _ s _ => 64 - (intOf s).toNat)
      case atStart => exact ⟨0, Nat.zero_le _, rfl, hb, ad, m, c, by omega, rfl, hown⟩
      case round =>
        obtain ⟨S, hS, rfl, hb, ad, m, c, hm, rfl, hown⟩ := hrel
        have hsz := hb.size
        rw [← HB.out] at hsz
        by_cases hlt2 : S < 64
        · cases hcs : F.testBit S
          · have Hno := Lib.hid (ordTo_no (p := F.testBit) (k := J) (s := S) (by rw [hcs]; rfl))
            go_wp2_with (go_at_call 152; (with_reducible refine (hasSet_any F S _ hF hlt2).mono ?_); rintro e w' ⟨rfl, rfl⟩)
            go_roundw
            case rel => exact ⟨S + 1, by omega, by go_num, hb, ad, m, c, by omega, rfl, by rw [Hno.out]; exact hown⟩
            case measure => simp [intOf]; omega
          · cases hsj : ((sz S : Int) == (J : Int))
            · have Hno := Lib.hid (ordTo_no (p := F.testBit) (k := J) (s := S) (by rw [hcs]; simp at hsj ⊢; omega))
              go_wp2_with (first | (go_at_call 152; (with_reducible refine (hasSet_any F S _ hF hlt2).mono ?_); rintro e w' ⟨rfl, rfl⟩) | (go_at_call 136; (with_reducible refine (SizeOf_any S _ hlt2).mono ?_); rintro e w' ⟨rfl, rfl⟩))
              go_roundw
              case rel => exact ⟨S + 1, by omega, by go_num, hb, ad, m, c, by omega, rfl, by rw [Hno.out]; exact hown⟩
              case measure => simp [intOf]; omega
            · have Hno := Lib.hid (ordTo_yes (p := F.testBit) (k := J) (s := S) (by rw [hcs]; simp at hsj ⊢; omega))
              go_wp2_with (first | (go_at_call 152; (with_reducible refine (hasSet_any F S _ hF hlt2).mono ?_); rintro e w' ⟨rfl, rfl⟩) | (go_at_call 136; (with_reducible refine (SizeOf_any S _ hlt2).mono ?_); rintro e w' ⟨rfl, rfl⟩) | (at_builtin; refine ap rfl _ _ rfl B _ _ _ _ _ rfl hown rfl (by omega) hsz ?_; intro ad' c' w' hown' hb'))
              go_roundw
              case rel => exact ⟨S + 1, by omega, by go_num, hb.trans hb', ad', m + 1, c', by omega, rfl, by rw [Hno.out, up_append]; exact hown'⟩
              case measure => simp [intOf]; omega
        · obtain rfl : S = 64 := by omega
          have hnx := Lib.hid (ordTo_next F.testBit J)
          go_wp2
          go_roundw
          case rel => exact ⟨J + 1, by omega, by go_num, hb, ad, m, c, by omega, rfl, by rw [← hnx.out]; exact hown⟩
          case measure => simp [intOf]; omega
    · obtain rfl : J = 7 := by omega
      go_wp2
      go_ret
      exact ⟨ad, m, c, rfl, by rw [← ordTo_end, ← HB.out]; exact hown, by rw [← HB.out]; exact hb⟩

theorem sdiff_zero {a b : Nat} (ha : a < 64) (hb : b < 64) : (((sdiff a b : Nat) : Int) == 0) = sub a b := by
  rw [Bool.eq_iff_iff, ← sdiff_sub ha hb]; simp
set_option maxHeartbeats 1000000 in
theorem minimalIn_any (F : Nat) (w : World) (hF : Fam F) :
    Calls Tryz.prog 163 #[.int .u64 F] w (RetInts w (up (minL F.testBit))) := by
  go_enter Tryz.func163, Tryz.ntmps163
  go_wp2_with (go_at_call 133; (with_reducible refine (setsIn_any F _ hF).mono ?_); rintro e w1 ⟨la, ln, lc, rfl, hl, hb1⟩)
  obtain ⟨L, hL⟩ : ∃ L, L = ord F.testBit := ⟨_, rfl⟩
  rw [← hL] at hl
  have hL64 : ∀ s ∈ L, s < 64 := by rw [hL]; exact ord_lt
  have hLlen : L.length ≤ 64 := by rw [hL]; exact ord_len _
  have HL := Lib.hid hL; clear hL
  have hln : L.length = ln := by rw [← up_len]; exact hl.len
  have h64 : ln ≤ 64 := by omega
  have Hln := Lib.hid hln; clear hln hLlen
  have hr1 := hl.reads
  obtain ⟨B1, hB1⟩ : ∃ B1, B1 = w1.heap.size := ⟨_, rfl⟩
  have HB1 := Lib.hid hB1; clear hB1
  have Hb1 := Lib.hid hb1; clear hb1
  have HL64 := Lib.hid hL64; clear hL64
  go_loopw [3, 5, 6, 12] (fun v _ _ i wr => ∃ k : Nat, k ≤ ln ∧ i = .int .i64 k ∧ Below B1 w1 wr ∧ ∃ ad n c, n ≤ k ∧ v = .slice ad n c ∧ Own 3 wr B1 ad n c (up (minC (L.take k)))) (fun _ _ _ i _ => ln - (intOf i).toNat)
  case atStart => exact ⟨0, Nat.zero_le _, rfl, Below.refl _ _, none, 0, 0, Nat.le_refl _, rfl, Own.nil _ _ _⟩
  case round =>
    obtain ⟨k, hk, rfl, hb, ad, n, c, hn, rfl, hown⟩ := hrel
    have hr := hr1.keep (by rw [← HB1.out]; exact hb)
    have hsz := hb.size
    rw [← HB1.out] at hsz
    clear hr1 hl
    by_cases hlt : k < ln
    · obtain ⟨b, off, rfl, hc⟩ := hr.cells (by omega)
      have hck := hc k hlt
      rw [nth_up] at hck
      have hlk : k < L.length := by rw [Hln.out]; exact hlt
      obtain ⟨s, hs⟩ : ∃ s, s = nthN L k := ⟨_, rfl⟩
      have hs64 : s < 64 := by rw [hs]; exact HL64.out _ (nthN_mem hlk)
      rw [← hs] at hck
      have hst := Lib.hid (show minC (L.take (k + 1)) = minS (minC (L.take k)) s by rw [nthN_take L k hlk, minC_snoc, hs])
      clear hs
      obtain ⟨O, hO⟩ : ∃ O, O = minC (L.take k) := ⟨_, rfl⟩
      rw [← hO] at hst hown
      have hO64 : ∀ t ∈ O, t < 64 := by
        intro t ht
        have : ∀ (l : List Nat), (∀ s ∈ l, s < 64) → ∀ t ∈ minC l, t < 64 := by
          intro l
          unfold minC
          have : ∀ (l out : List Nat), (∀ s ∈ l, s < 64) → (∀ s ∈ out, s < 64) → ∀ t ∈ l.foldl minS out, t < 64 := by
            intro l
            induction l with
            | nil => exact fun out _ h => h
            | cons a l ih =>
              intro out h1 h2
              refine ih _ (fun s hs => h1 s (by simp [hs])) ?_
              unfold minS
              split
              · exact h2
              · intro s hs
                rcases List.mem_append.1 hs with h | h
                · exact h2 s h
                · simp at h; subst h; exact h1 s (by simp)
          exact fun h => this l [] h (by simp)
        rw [hO] at ht
        exact this _ (fun s hs => HL64.out s (List.mem_of_mem_take hs)) t ht
      clear hO
      have HO64 := Lib.hid hO64; clear hO64
      have hro := hown.reads
      have hOl := Lib.hid (show O.length = n by rw [← up_len]; exact hown.len)
      have hn64 : n ≤ 64 := by omega
      clear hr hc
      go_wp2_with fail
      go_loop [6, 8, 18] (fun f _ j => ∃ q : Nat, q ≤ n ∧ j = .int .i64 q ∧ f = .bool false ∧ Hid ((O.take q).any (sub · s) = false)) (fun _ _ j => n - (intOf j).toNat)
      case atStart => exact ⟨0, Nat.zero_le _, rfl, rfl, Lib.hid rfl⟩
      case round =>
        obtain ⟨q, hq, rfl, rfl, hno⟩ := hrel
        by_cases hlt2 : q < n
        · obtain ⟨b2, off2, rfl, hc2⟩ := hro.cells (by omega)
          have hcq := hc2 q hlt2
          rw [nth_up] at hcq
          have hqO : q < O.length := by rw [hOl.out]; exact hlt2
          obtain ⟨t, ht⟩ : ∃ t, t = nthN O q := ⟨_, rfl⟩
          have ht64 : t < 64 := by rw [ht]; exact HO64.out _ (nthN_mem hqO)
          rw [← ht] at hcq
          have Ht := Lib.hid ht; clear ht
          clear hc2 hro
          cases hz : (((sdiff t s : Nat) : Int) == 0)
          · go_wp2
            go_round
            case rel =>
              refine ⟨q + 1, by omega, by go_num, rfl, Lib.hid ?_⟩
              rw [nthN_take O q hqO, List.any_append, hno.out, ← Ht.out]
              rw [sdiff_zero ht64 hs64] at hz
              simp [hz]
            case measure => simp [intOf]; omega
          · go_wp2
            go_roundw
            case rel =>
              refine ⟨k + 1, by omega, by go_num, hb, _, n, c, by omega, rfl, ?_⟩
              rw [sdiff_zero ht64 hs64] at hz
              have : minS O s = O := by unfold minS; rw [if_pos]; rw [List.any_eq_true]; exact ⟨t, by rw [Ht.out]; exact nthN_mem hqO, hz⟩
              rw [hst.out, this]; exact hown
            case measure => simp [intOf]; omega
        · obtain rfl : q = n := by omega
          have hno' := hno.out
          rw [List.take_of_length_le (by rw [hOl.out]; omega)] at hno'
          have Hno := Lib.hid (show minS O s = O ++ [s] by unfold minS; rw [if_neg (by rw [hno']; simp)])
          clear hno' hro
          go_wp2_with (at_builtin; refine ap rfl _ _ rfl B1 _ _ _ _ _ rfl hown rfl (by omega) hsz ?_; intro ad' c' w' hown' hb')
          go_roundw
          case rel => exact ⟨k + 1, by omega, by go_num, hb.trans hb', ad', q + 1, c', by omega, rfl, by rw [hst.out, Hno.out, up_append]; exact hown'⟩
          case measure => simp [intOf]; omega
    · obtain rfl : k = ln := by omega
      go_wp2
      go_ret
      have hle := Hb1.out.size
      rw [← HB1.out] at hle
      refine ⟨ad, n, c, rfl, ?_, Hb1.out.trans (hb.mono hle)⟩
      rw [List.take_of_length_le (by rw [Hln.out]; omega), HL.out, minC_ord] at hown
      exact hown.mono hle

end Go.Proofs.YtihfhfihladlcaaGreatDoor

/- Contracts of RepeatedCounts, the program's and the reference's: the sums over all sizes of the numbers times the words onto k kinds. -/
namespace Go.Proofs.YtihfhfihladlcaaGreatDoor
set_option maxRecDepth 20000
open Go.RowKit
set_option linter.unusedSimpArgs false

/-- a list that RepeatedCounts takes -/
def RepOk (xs : List Int) : Prop := 1 ≤ xs.length ∧ xs.length ≤ 7 ∧ ∀ i, i < xs.length → 0 ≤ nth xs i ∧ nth xs i ≤ 1000000
def repTo (xs : List Int) (k i : Nat) : Nat := ((List.range i).map fun j => (nth xs j).toNat * onto j k).sum
theorem repTo_succ (xs : List Int) (k i : Nat) : repTo xs k (i + 1) = repTo xs k i + (nth xs i).toNat * onto i k := by unfold repTo; rw [List.range_succ, List.map_append, List.sum_append]; simp
theorem rep_mul {xs : List Int} {i : Nat} (h : 0 ≤ nth xs i ∧ nth xs i ≤ 1000000) (k : Int) : (nth xs i).toNat * onto i k ≤ 20000000000 := by
  have h1 := onto_le i k
  have : (nth xs i).toNat * onto i k ≤ 1000000 * 20000 := Nat.mul_le_mul (by omega) h1
  omega
theorem repTo_le (xs : List Int) (h : RepOk xs) (k : Nat) : ∀ i, i ≤ xs.length → repTo xs k i ≤ 20000000000 * i := by
  intro i
  induction i with
  | zero => intro _; simp [repTo]
  | succ i ih =>
    intro hi
    have := rep_mul (h.2.2 i (by omega)) (k : Int)
    have := ih (by omega)
    rw [repTo_succ]; omega
/-- what RepeatedCounts returns: its first k numbers -/
def repL (xs : List Int) (k : Nat) : List Nat := (List.range k).map fun k => if k = 0 then 1 else repTo xs k xs.length
theorem repL_succ (xs : List Int) (k : Nat) (hk : 1 ≤ k) : repL xs (k + 1) = repL xs k ++ [repTo xs k xs.length] := by
  unfold repL; rw [List.range_succ, List.map_append]; simp; omega


set_option maxHeartbeats 1000000 in
theorem sRep_no (a : Option Addr) (n c : Nat) (xs : List Int) (w : World) (h : IntsAt w a n xs) (hno : ¬ RepOk xs) :
    Calls Tryz.prog 139 #[.slice a n c] w (RetInts w []) := by
  have hsm := h.small
  have hlen := Lib.hid h.len
  have Hh := Lib.hid h; clear h
  have Hno := Lib.hid hno; clear hno
  by_cases h0 : 1 ≤ (n : Int) ∧ (n : Int) ≤ 7
  · go_enter Tryz.func139, Tryz.ntmps139
    go_wp2_with (go_at_call 110; (with_reducible refine (l1In_yes (n : Int) 1 7 _ h0.1 h0.2).mono ?_); rintro e w' ⟨rfl, rfl⟩)
    go_loop [3] (fun i => ∃ k : Nat, k ≤ n ∧ i = .int .i64 k ∧ Hid (∀ j, j < k → 0 ≤ nth xs j ∧ nth xs j ≤ 1000000)) (fun i => n - (intOf i).toNat)
    case atStart => exact ⟨0, Nat.zero_le _, rfl, Lib.hid (fun j hj => absurd hj (Nat.not_lt_zero _))⟩
    case round =>
      obtain ⟨k, hk, rfl, hok⟩ := hrel
      by_cases hlt : k < n
      · obtain ⟨b, off, rfl, hc⟩ := Hh.out.cells (by omega)
        have hck := hc k hlt
        clear hc
        by_cases h1 : 0 ≤ nth xs k ∧ nth xs k ≤ 1000000
        · go_wp2_with (go_at_call 110; (with_reducible refine (l1In_yes (nth xs k) 0 1000000 _ h1.1 h1.2).mono ?_); rintro e w' ⟨rfl, rfl⟩)
          go_round
          case rel =>
            refine ⟨k + 1, by omega, by go_num, Lib.hid fun j hj => ?_⟩
            rcases Nat.lt_or_ge j k with h | h
            · exact hok.out j h
            · obtain rfl : j = k := by omega
              exact h1
          case measure => simp [intOf]; omega
        · go_wp2_with (go_at_call 110; (with_reducible refine (l1In_no (nth xs k) 0 1000000 _ h1).mono ?_); rintro e w' ⟨rfl, rfl⟩)
          go_ret
          exact ⟨_, 0, 0, rfl, Own.empty _ _ _ (Nat.le_refl _), (Below.refl _ _).alloc (Nat.le_refl _) _⟩
      · exfalso
        have hkn : k = n := by omega
        exact Hno.out ⟨by rw [hlen.out]; omega, by rw [hlen.out]; omega, fun i hi => hok.out i (by rw [hlen.out] at hi; omega)⟩
  · go_enter Tryz.func139, Tryz.ntmps139
    go_wp2_with (go_at_call 110; (with_reducible refine (l1In_no (n : Int) 1 7 _ h0).mono ?_); rintro e w' ⟨rfl, rfl⟩)
    go_ret
    exact ⟨_, 0, 0, rfl, Own.empty _ _ _ (Nat.le_refl _), (Below.refl _ _).alloc (Nat.le_refl _) _⟩
set_option maxHeartbeats 2000000 in
theorem sRep_yes (a : Option Addr) (n c : Nat) (xs : List Int) (w : World) (h : IntsAt w a n xs) (hok : RepOk xs) :
    Calls Tryz.prog 139 #[.slice a n c] w (RetInts w (up (repL xs xs.length))) := by
  have hlen := Lib.hid h.len
  have hn7 : n ≤ 7 := by rw [← h.len]; exact hok.2.1
  have hn1 : 1 ≤ n := by rw [← h.len]; exact hok.1
  have Hh := Lib.hid h; clear h
  have Hok := Lib.hid hok; clear hok
  go_enter Tryz.func139, Tryz.ntmps139
  go_wp2_with (go_at_call 110; (with_reducible refine (l1In_yes (n : Int) 1 7 _ (by omega) (by omega)).mono ?_); rintro e w' ⟨rfl, rfl⟩)
  go_loop [3] (fun i => ∃ k : Nat, k ≤ n ∧ i = .int .i64 k) (fun i => n - (intOf i).toNat)
  case atStart => exact ⟨0, Nat.zero_le _, rfl⟩
  case round =>
    obtain ⟨k, hk, rfl⟩ := hrel
    by_cases hlt : k < n
    · obtain ⟨b, off, rfl, hc⟩ := Hh.out.cells (by omega)
      have hck := hc k hlt
      have hx := Hok.out.2.2 k (by rw [hlen.out]; exact hlt)
      clear hc
      go_wp2_with (go_at_call 110; (with_reducible refine (l1In_yes (nth xs k) 0 1000000 _ hx.1 hx.2).mono ?_); rintro e w' ⟨rfl, rfl⟩)
      go_round
      case rel => exact ⟨k + 1, by omega, by go_num⟩
      case measure => simp [intOf]; omega
    · obtain rfl : k = n := by omega
      have hkk : ¬ ((k : Int) < k) := by omega
      go_wp2_with fail
      obtain ⟨B, hB⟩ : ∃ B, B = w.heap.size := ⟨_, rfl⟩
      have hown0 : Own 3 (w.alloc (.cells #[.int .i64 1] 3)) B (some ⟨w.heap.size, 0, none⟩) 1 1 [1] := Own.lit _ _ _ (by omega) 1
      have HB := Lib.hid hB; clear hB
      go_loopw [4, 5, 6, 7] (fun v q _ _ wr => ∃ K : Nat, 1 ≤ K ∧ K ≤ k ∧ q = .int .i64 K ∧ Below B w wr ∧ ∃ ad m d, m = K ∧ v = .slice ad m d ∧ Own 3 wr B ad m d (up (repL xs K))) (fun _ q _ _ _ => k - (intOf q).toNat)
      case atStart => exact ⟨1, Nat.le_refl _, hn1, rfl, (Below.refl _ _).alloc (by have := HB.out; omega) _, _, 1, 1, rfl, rfl, hown0⟩
      case round =>
        clear hown0
        obtain ⟨K, hK1, hK, rfl, hb, ad, m, d, rfl, rfl, hown⟩ := hrel
        by_cases hlt2 : m < k
        · have hmk : (m : Int) < k := by omega
          have Hb := Lib.hid hb; clear hb
          have Hown := Lib.hid hown; clear hown
          obtain ⟨wo, rfl⟩ : ∃ wo : World, wo = wr := ⟨_, rfl⟩
          go_wp2_with fail
          go_loopw [6, 7] (fun t i wr => ∃ I S : Nat, I ≤ k ∧ i = .int .i64 I ∧ t = .int .i64 S ∧ S ≤ 20000000000 * I ∧ Hid (S = repTo xs m I) ∧ Below wo.heap.size wo wr) (fun _ i _ => k - (intOf i).toNat)
          case atStart => exact ⟨0, 0, Nat.zero_le _, rfl, rfl, by omega, Lib.hid rfl, Below.refl _ _⟩
          case round =>
            obtain ⟨I, S, hI, rfl, rfl, hSb, hS, hbo⟩ := hrel
            have Hbo := Lib.hid hbo; clear hbo
            by_cases hlt3 : I < k
            · have hh := (Hh.out.keep (by rw [← HB.out]; exact Hb.out)).keep Hbo.out
              obtain ⟨b, off, rfl, hc⟩ := hh.cells (by omega)
              have hcI := hc I hlt3
              have hx := Hok.out.2.2 I (by rw [hlen.out]; exact hlt3)
              obtain ⟨C, hC⟩ : ∃ C, C = (nth xs I).toNat * onto I m := ⟨_, rfl⟩
              have hCb : C ≤ 20000000000 := by rw [hC]; exact rep_mul hx _
              have hw : IntKind.i64.wrap (nth xs I * ((onto I m : Nat) : Int)) = (C : Int) := mul_i64 (show nth xs I = ((nth xs I).toNat : Int) by omega) rfl hC.symm (by omega)
              have hw2 : IntKind.i64.wrap ((S : Int) + (C : Int)) = (S : Int) + (C : Int) := IntWalk.i64_in _ (by omega)
              have HC := Lib.hid hC
              have hI0 : (0 : Int) ≤ I := by omega
              have hIk : (I : Int) < k := by omega
              clear hC hx hc hh
              go_wp2_with fail
              go_quiet ((go_at_call 187; exact ql (sOnto_any _ _ _)))
              go_wp2_with fail
              go_roundw
              case rel => exact ⟨I + 1, S + C, by omega, by go_num, by go_num, by omega, Lib.hid (by rw [repTo_succ, hS.out, HC.out]), below_drewN Hbo.out _⟩
              case measure => simp [intOf]; omega
            · obtain rfl : I = k := by omega
              have hII : ¬ ((I : Int) < I) := by omega
              have hsz : B ≤ wr.heap.size := by have := Hb.out.size; have := HB.out; have := Hbo.out.size; omega
              have hown := Hown.out.keep Hbo.out
              go_wp2_with (at_builtin; refine ap rfl _ _ rfl B _ _ _ _ _ rfl hown rfl (by omega) hsz ?_; intro ad' d' w' hown' hb')
              go_roundw
              case rel => exact ⟨m + 1, by omega, by omega, by go_num, (Hb.out.trans (Hbo.out.mono (by have := Hb.out.size; have := HB.out; omega))).trans hb', ad', m + 1, d', rfl, rfl, by rw [repL_succ _ _ hK1, up_append, hlen.out, ← hS.out]; exact hown'⟩
              case measure => simp [intOf]; omega
        · obtain rfl : m = k := by omega
          have hmm : ¬ ((m : Int) < m) := by omega
          go_wp2_with fail
          go_ret
          exact ⟨ad, m, d, rfl, by rw [hlen.out, ← HB.out]; exact hown, by rw [← HB.out]; exact hb⟩

end Go.Proofs.YtihfhfihladlcaaGreatDoor

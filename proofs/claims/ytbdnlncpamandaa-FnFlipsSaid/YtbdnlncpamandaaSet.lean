/- Texts of this claim, one behind the other: what each says stands at its head. -/
import Derived.BigQuiet
import Derived.Deep.QuietTactic
import Derived.Test.YtbdnlncpamandaaBase
import Derived.Test.YtbdnlncpamandaaCore
/- Contracts of the functions on sets of points and on families of sets: what each call returns, and that nothing that was there has changed. -/
namespace Go.Proofs.Ytbdnlncpamandaa
set_option maxRecDepth 20000
open Go.RowKit
set_option linter.unusedSimpArgs false

theorem hasSet_any (F s : Nat) (w : World) (hF : Fam F) (hs : s < 64) :
    Calls Try.prog 108 #[.int .u64 F, .int .i64 s] w fun e w' => e = .returned (.bool (F.testBit s)) ∧ w = w' := by
  go_enter Try.func108, Try.ntmps108
  go_wp2
  go_ret
  exact ⟨rfl, rfl⟩

/-- IsSet -/
def isSetB (n s : Int) : Bool := decide (0 ≤ n ∧ n ≤ 6 ∧ 0 ≤ s ∧ s < 2 ^ n.toNat)
theorem pow_wrap (n : Int) (h0 : 0 ≤ n) (h6 : n ≤ 6) : wrap64 (2 ^ n.toNat) = 2 ^ n.toNat ∧ wrap64 (2 ^ n.toNat - 1) = 2 ^ n.toNat - 1 := by
  obtain ⟨m, rfl⟩ := Int.eq_ofNat_of_zero_le h0
  have hm : m ≤ 6 := by omega
  simp only [Int.toNat_natCast]
  match m, hm with
  | 0, _ | 1, _ | 2, _ | 3, _ | 4, _ | 5, _ | 6, _ => unfold wrap64; exact ⟨rfl, rfl⟩
theorem isSet6_of {s : Nat} (hs : s < 64) : isSetB 6 s = true := by
  unfold isSetB; rw [decide_eq_true_eq]; refine ⟨by omega, by omega, by omega, ?_⟩
  show (s : Int) < 64; omega
theorem isSet6_iff {s : Int} : isSetB 6 s = true ↔ ∃ t : Nat, t < 64 ∧ s = t := by
  unfold isSetB; rw [decide_eq_true_eq]
  constructor
  · rintro ⟨_, _, h0, h1⟩
    have h1' : s < 64 := h1
    exact ⟨s.toNat, by omega, by omega⟩
  · rintro ⟨t, ht, rfl⟩
    refine ⟨by omega, by omega, by omega, ?_⟩
    show (t : Int) < 64; omega
theorem pow_le64 {m : Nat} (h : m ≤ 6) : 2 ^ m ≤ 64 := Nat.pow_le_pow_right (n := 2) (by omega) h
/-- A set of n points is a natural number. -/
theorem isSet_nat {n s : Int} (h : isSetB n s = true) : ∃ m t : Nat, n = m ∧ s = t ∧ m ≤ 6 ∧ t < 2 ^ m ∧ t < 64 := by
  unfold isSetB at h; rw [decide_eq_true_eq] at h
  obtain ⟨h0, h6, hs, hlt⟩ := h
  obtain ⟨m, rfl⟩ := Int.eq_ofNat_of_zero_le h0
  obtain ⟨t, rfl⟩ := Int.eq_ofNat_of_zero_le hs
  have hm : m ≤ 6 := by omega
  have e : ((2 : Int) ^ (m : Int).toNat) = ((2 ^ m : Nat) : Int) := by rw [Int.toNat_natCast]; norm_cast
  rw [e] at hlt
  have h2 := pow_le64 hm
  exact ⟨m, t, rfl, rfl, hm, by omega, by omega⟩
theorem isSet_iff {m : Nat} {s : Int} : isSetB m s = true ↔ m ≤ 6 ∧ ∃ t : Nat, s = t ∧ t < 2 ^ m := by
  constructor
  · intro h
    obtain ⟨m', t, h1, h2, h3, h4, _⟩ := isSet_nat h
    obtain rfl : m = m' := by omega
    exact ⟨h3, t, h2, h4⟩
  · rintro ⟨hm, t, rfl, ht⟩
    unfold isSetB; rw [decide_eq_true_eq]
    refine ⟨by omega, by omega, by omega, ?_⟩
    rw [Int.toNat_natCast]; exact_mod_cast ht
theorem IsSet_any (n s : Int) (w : World) :
    Calls Try.prog 112 #[.int .i64 n, .int .i64 s] w fun e w' => e = .returned (.bool (isSetB n s)) ∧ w = w' := by
  go_enter Try.func112, Try.ntmps112
  go_wp2
  · go_ret
    have h0 : 0 ≤ n := by assumption
    have h6 : n ≤ 6 := by assumption
    have hs : 0 ≤ s := by assumption
    exact ⟨ret_bool (by rw [(pow_wrap n h0 h6).1]; simp [isSetB, h0, h6, hs]), rfl⟩
  all_goals go_ret
  all_goals exact ⟨ret_bool (by unfold isSetB; symm; rw [decide_eq_false_iff_not]; omega), rfl⟩
theorem IsSet6 (s : Nat) (w : World) (hs : s < 64) :
    Calls Try.prog 112 #[.int .i64 6, .int .i64 s] w fun e w' => e = .returned (.bool true) ∧ w = w' :=
  (IsSet_any 6 s w).mono fun e w' ⟨he, hw⟩ => ⟨by rw [he, isSet6_of hs], hw⟩
theorem IsSet_is (n s : Int) (b : Bool) (w : World) (h : isSetB n s = b) :
    Calls Try.prog 112 #[.int .i64 n, .int .i64 s] w fun e w' => e = .returned (.bool b) ∧ w = w' := by subst h; exact IsSet_any n s w
theorem IsSet60 (w : World) : Calls Try.prog 112 #[.int .i64 6, .int .i64 0] w fun e w' => e = .returned (.bool true) ∧ w = w' := IsSet6 0 w (by omega)
/-- l1In -/
def inB (x lo hi : Int) : Bool := decide (lo ≤ x ∧ x ≤ hi)
theorem l1In_any (x lo hi : Int) (w : World) :
    Calls Try.prog 72 #[.int .i64 x, .int .i64 lo, .int .i64 hi] w fun e w' => e = .returned (.bool (inB x lo hi)) ∧ w = w' := by
  go_enter Try.func72, Try.ntmps72
  by_cases h1 : lo ≤ x <;> by_cases h2 : x ≤ hi <;> go_wp2 <;> go_ret <;> exact ⟨ret_bool (by unfold inB; simp [h1, h2]), rfl⟩
theorem inB_true {x lo hi : Int} (h1 : lo ≤ x) (h2 : x ≤ hi) : inB x lo hi = true := by unfold inB; simp [h1, h2]
theorem inB_false {x lo hi : Int} (h : ¬ (lo ≤ x ∧ x ≤ hi)) : inB x lo hi = false := by unfold inB; simpa using h
theorem l1In_yes (x lo hi : Int) (w : World) (h1 : lo ≤ x) (h2 : x ≤ hi) :
    Calls Try.prog 72 #[.int .i64 x, .int .i64 lo, .int .i64 hi] w fun e w' => e = .returned (.bool true) ∧ w = w' :=
  (l1In_any x lo hi w).mono fun e w' ⟨he, hw⟩ => ⟨by rw [he, inB_true h1 h2], hw⟩
theorem l1In_no (x lo hi : Int) (w : World) (h : ¬ (lo ≤ x ∧ x ≤ hi)) :
    Calls Try.prog 72 #[.int .i64 x, .int .i64 lo, .int .i64 hi] w fun e w' => e = .returned (.bool false) ∧ w = w' :=
  (l1In_any x lo hi w).mono fun e w' ⟨he, hw⟩ => ⟨by rw [he, inB_false h], hw⟩
theorem l1In_set (s : Nat) (w : World) (hs : s < 64) :
    Calls Try.prog 72 #[.int .i64 s, .int .i64 0, .int .i64 63] w fun e w' => e = .returned (.bool true) ∧ w = w' := l1In_yes _ _ _ w (by omega) (by omega)
theorem in63 (s : Int) : inB s 0 63 = isSetB 6 s := by
  rw [Bool.eq_iff_iff, isSet6_iff]; unfold inB; rw [decide_eq_true_eq]
  exact ⟨fun h => ⟨s.toNat, by omega, by omega⟩, fun ⟨t, h1, h2⟩ => by omega⟩
theorem sIsSet_any (n s : Int) (w : World) :
    Calls Try.prog 82 #[.int .i64 n, .int .i64 s] w fun e w' => e = .returned (.bool (isSetB n s)) ∧ w = w' := by
  by_cases hn : 0 ≤ n ∧ n ≤ 6
  · obtain ⟨m, rfl⟩ := Int.eq_ofNat_of_zero_le hn.1
    have hm : m ≤ 6 := by omega
    have h64 := pow_le64 hm
    have h1 : 1 ≤ 2 ^ m := Nat.one_le_two_pow
    have e1 : IntKind.i64.wrap (2 ^ m) = ((2 ^ m : Nat) : Int) := by
      have := (pow_wrap m (by omega) (by omega)).1
      rw [Int.toNat_natCast] at this
      rw [IntWalk.i64_left, this]; norm_cast
    go_enter Try.func82, Try.ntmps82
    go_wp2_with (first | (go_at_call 72; (with_reducible refine (l1In_yes (m : Int) 0 6 _ (by omega) (by omega)).mono ?_); rintro e w' ⟨rfl, rfl⟩) | (go_at_call 72; (with_reducible refine (l1In_any _ _ _ _).mono ?_); rintro e w' ⟨rfl, rfl⟩))
    go_ret
    refine ⟨ret_bool ?_, rfl⟩
    unfold isSetB inB
    have e4 : wrap64 ((2 : Int) ^ m - 1) = 2 ^ m - 1 := by
      have := (pow_wrap m (by omega) (by omega)).2
      rwa [Int.toNat_natCast] at this
    rw [e4, decide_eq_decide, Int.toNat_natCast]
    omega
  · go_enter Try.func82, Try.ntmps82
    go_wp2_with (go_at_call 72; (with_reducible refine (l1In_no _ _ _ _ hn).mono ?_); rintro e w' ⟨rfl, rfl⟩)
    go_ret
    exact ⟨ret_bool (by unfold isSetB; symm; rw [decide_eq_false_iff_not]; omega), rfl⟩
theorem sIsSet_is (n s : Int) (b : Bool) (w : World) (h : isSetB n s = b) :
    Calls Try.prog 82 #[.int .i64 n, .int .i64 s] w fun e w' => e = .returned (.bool b) ∧ w = w' := by subst h; exact sIsSet_any n s w
theorem OC64_any (a : Nat) (w : World) (hF : a < 64) :
    Calls Try.prog 140 #[.int .u64 a] w fun e w' => e = .returned (.int .i64 (sz a)) ∧ w = w' := by
  go_enter Try.func140, Try.ntmps140
  go_wp2
  go_ret
  refine ⟨ret_int ?_, rfl⟩
  revert a
  decide +kernel
theorem SizeOf_any (s : Nat) (w : World) (hs : s < 64) :
    Calls Try.prog 65 #[.int .i64 s] w fun e w' => e = .returned (.int .i64 (sz s)) ∧ w = w' := by
  go_enter Try.func65, Try.ntmps65
  go_wp2_with (first | (go_at_call 140; (with_reducible refine (OC64_any s _ hs).mono ?_); rintro e w' ⟨rfl, rfl⟩) | (go_at_call 112; (with_reducible refine (IsSet6 s _ hs).mono ?_); rintro e w' ⟨rfl, rfl⟩) | go_in)
  go_ret
  exact ⟨rfl, rfl⟩
theorem l2Size_any (s : Nat) (w : World) (hs : s < 64) :
    Calls Try.prog 74 #[.int .i64 s] w fun e w' => e = .returned (.int .i64 (sz s)) ∧ w = w' := by
  go_enter Try.func74, Try.ntmps74
  go_wp2
  go_loop [0, 3] (fun t n => ∃ m k : Nat, m < 64 ∧ k ≤ 6 ∧ t = .int .i64 m ∧ n = .int .i64 k ∧ Hid (k + sz m = sz s)) (fun t _ => (intOf t).toNat)
  case atStart => exact ⟨s, 0, hs, by omega, rfl, rfl, Lib.hid (by omega)⟩
  case round =>
    obtain ⟨m, k, hm, hk, rfl, rfl, hsz⟩ := hrel
    by_cases h0 : 0 < m
    · have h1 := sz_half m hm
      have h2 := hsz.out
      have h3 := sz_le s
      have h4 : k + m % 2 ≤ 6 := by omega
      have H1 := Lib.hid h1; clear h1 h2 h3
      go_wp2
      go_round
      case rel => exact ⟨m / 2, k + m % 2, by omega, h4, by go_num, by go_num, Lib.hid (by have := H1.out; have := hsz.out; omega)⟩
      case measure => simp [intOf]; omega
    · obtain rfl : m = 0 := by omega
      go_wp2
      go_ret
      have h2 := hsz.out
      have e : sz 0 = 0 := rfl
      exact ⟨ret_int (by omega), rfl⟩
/-- BeforeSet -/
def befB (a b : Nat) : Bool := decide (rank a < rank b)
theorem befB_eq (a b : Nat) (ha : a < 64) (hb : b < 64) : befB a b = (decide (sz a < sz b) || (decide (sz a = sz b) && decide (a < b))) := by
  unfold befB rank
  rw [Bool.eq_iff_iff]; simp; omega
theorem BeforeSet_any (a b : Nat) (w : World) (ha : a < 64) (hb : b < 64) :
    Calls Try.prog 141 #[.int .i64 a, .int .i64 b] w fun e w' => e = .returned (.bool (befB a b)) ∧ w = w' := by
  have H := Lib.hid (befB_eq a b ha hb)
  go_enter Try.func141, Try.ntmps141
  go_wp2_with (first | (go_at_call 112; (with_reducible refine (IsSet6 a _ ha).mono ?_); rintro e w' ⟨rfl, rfl⟩) | (go_at_call 112; (with_reducible refine (IsSet6 b _ hb).mono ?_); rintro e w' ⟨rfl, rfl⟩) | (go_at_call 65; (with_reducible refine (SizeOf_any a _ ha).mono ?_); rintro e w' ⟨rfl, rfl⟩) | (go_at_call 65; (with_reducible refine (SizeOf_any b _ hb).mono ?_); rintro e w' ⟨rfl, rfl⟩))
  all_goals go_ret
  all_goals refine ⟨ret_bool ?_, rfl⟩
  all_goals try simp only [beq_iff_eq, beq_eq_false_iff_ne, bne_iff_ne, ne_eq, bne_eq_false_iff_eq] at *
  all_goals (rw [H.out, Bool.eq_iff_iff]; simp only [decide_eq_true_eq, Bool.or_eq_true, Bool.and_eq_true]; first | omega | (rw [true_iff]; omega))
theorem l2Before_any (a b : Nat) (w : World) (ha : a < 64) (hb : b < 64) :
    Calls Try.prog 83 #[.int .i64 a, .int .i64 b] w fun e w' => e = .returned (.bool (befB a b)) ∧ w = w' := by
  have H := Lib.hid (befB_eq a b ha hb)
  go_enter Try.func83, Try.ntmps83
  go_wp2_with (first | (go_at_call 74; (with_reducible refine (l2Size_any a _ ha).mono ?_); rintro e w' ⟨rfl, rfl⟩) | (go_at_call 74; (with_reducible refine (l2Size_any b _ hb).mono ?_); rintro e w' ⟨rfl, rfl⟩))
  all_goals go_ret
  all_goals refine ⟨ret_bool ?_, rfl⟩
  all_goals try simp only [beq_iff_eq, beq_eq_false_iff_ne, bne_iff_ne, ne_eq, bne_eq_false_iff_eq] at *
  all_goals (rw [H.out, Bool.eq_iff_iff]; simp only [decide_eq_true_eq, Bool.or_eq_true, Bool.and_eq_true]; first | omega | (rw [true_iff]; omega))

end Go.Proofs.Ytbdnlncpamandaa

/- Contracts of the functions that make lists of sets: the points of a set, the sets of a family in order, its greatest and its least sets; the program's and the reference's. -/
namespace Go.Proofs.Ytbdnlncpamandaa
set_option maxRecDepth 20000
open Go.RowKit
set_option linter.unusedSimpArgs false

set_option maxHeartbeats 400000 in
theorem PointsOf_any (s : Nat) (w : World) (hs : s < 64) :
    Calls Try.prog 80 #[.int .i64 s] w (RetInts w (up (pts s))) := by
  obtain ⟨B, hB⟩ : ∃ B, B = w.heap.size := ⟨_, rfl⟩
  have HB := Lib.hid hB; clear hB
  go_enter Try.func80, Try.ntmps80
  go_wp2_with (go_at_call 112; (with_reducible refine (IsSet6 s _ hs).mono ?_); rintro e w' ⟨rfl, rfl⟩)
  go_loopw [3, 4] (fun v i wr => ∃ k : Nat, k ≤ 6 ∧ i = .int .i64 k ∧ Below B w wr ∧ ∃ ad n c, n ≤ k ∧ v = .slice ad n c ∧ Own 3 wr B ad n c (up (ptsTo s k))) (fun _ i _ => 6 - (intOf i).toNat)
  case atStart => exact ⟨0, Nat.zero_le _, rfl, Below.refl _ _, none, 0, 0, Nat.le_refl _, rfl, Own.nil _ _ _⟩
  case round =>
    obtain ⟨k, hk, rfl, hb, ad, n, c, hn, rfl, hown⟩ := hrel
    by_cases hlt : k < 6
    · have hsz := hb.size
      rw [← HB.out] at hsz
      cases hbit : s.testBit k
      · go_wp2
        go_roundw
        case rel => exact ⟨k + 1, by omega, by go_num, hb, ad, n, c, by omega, rfl, by rw [ptsTo_no hbit]; exact hown⟩
        case measure => simp [intOf]; omega
      · go_wp2_with (at_builtin; refine ap rfl _ _ rfl B _ _ _ _ _ rfl hown rfl (by omega) hsz ?_; intro ad' c' w' hown' hb')
        go_roundw
        case rel => exact ⟨k + 1, by omega, by go_num, hb.trans hb', ad', n + 1, c', by omega, rfl, by rw [ptsTo_yes hbit, up_append]; exact hown'⟩
        case measure => simp [intOf]; omega
    · obtain rfl : k = 6 := by omega
      go_wp2
      go_ret
      exact ⟨ad, n, c, rfl, by rw [← HB.out]; exact hown, by rw [← HB.out]; exact hb⟩


set_option maxHeartbeats 400000 in
theorem setsIn_any (F : Nat) (w : World) (hF : Fam F) :
    Calls Try.prog 90 #[.int .u64 F] w (RetInts w (up (ord F.testBit))) := by
  obtain ⟨B, hB⟩ : ∃ B, B = w.heap.size := ⟨_, rfl⟩
  have HB := Lib.hid hB; clear hB
  go_enter Try.func90, Try.ntmps90
  go_wp2
  go_loopw [3, 4, 5] (fun v j _ wr => ∃ J : Nat, J ≤ 7 ∧ j = .int .i64 J ∧ Below B w wr ∧ ∃ ad n c, n ≤ 64 * J ∧ v = .slice ad n c ∧ Own 3 wr B ad n c (up (ordTo F.testBit J 0))) (fun _ j _ _ => 7 - (intOf j).toNat)
  case atStart => exact ⟨0, Nat.zero_le _, rfl, Below.refl _ _, none, 0, 0, by omega, rfl, Own.nil _ _ _⟩
  case round =>
    obtain ⟨J, hJ, rfl, hb, ad, m, c, hm, rfl, hown⟩ := hrel
    by_cases hlt : J < 7
    · obtain ⟨wo, rfl⟩ : ∃ wo : World, wo = wr := ⟨_, rfl⟩
      have hJ6 : (J : Int) ≤ 6 := by omega
      go_wp2_with fail
      go_loopw [3, 5] (fun v s wr => ∃ S : Nat, S ≤ 64 ∧ s = .int .i64 S ∧ Below B w wr ∧ ∃ ad n c, n ≤ 64 * J + S ∧ v = .slice ad n c ∧ Own 3 wr B ad n c (up (ordTo F.testBit J S))) (fun _ s _ => 64 - (intOf s).toNat)
      case atStart => exact ⟨0, Nat.zero_le _, rfl, hb, ad, m, c, by omega, rfl, hown⟩
      case round =>
        obtain ⟨S, hS, rfl, hb, ad, m, c, hm, rfl, hown⟩ := hrel
        have hsz := hb.size
        rw [← HB.out] at hsz
        by_cases hlt2 : S < 64
        · cases hcs : F.testBit S
          · have Hno := Lib.hid (ordTo_no (p := F.testBit) (k := J) (s := S) (by rw [hcs]; rfl))
            go_wp2_with (go_at_call 108; (with_reducible refine (hasSet_any F S _ hF hlt2).mono ?_); rintro e w' ⟨rfl, rfl⟩)
            go_roundw
            case rel => exact ⟨S + 1, by omega, by go_num, hb, ad, m, c, by omega, rfl, by rw [Hno.out]; exact hown⟩
            case measure => simp [intOf]; omega
          · cases hsj : ((sz S : Int) == (J : Int))
            · have Hno := Lib.hid (ordTo_no (p := F.testBit) (k := J) (s := S) (by rw [hcs]; simp at hsj ⊢; omega))
              go_wp2_with (first | (go_at_call 108; (with_reducible refine (hasSet_any F S _ hF hlt2).mono ?_); rintro e w' ⟨rfl, rfl⟩) | (go_at_call 65; (with_reducible refine (SizeOf_any S _ hlt2).mono ?_); rintro e w' ⟨rfl, rfl⟩))
              go_roundw
              case rel => exact ⟨S + 1, by omega, by go_num, hb, ad, m, c, by omega, rfl, by rw [Hno.out]; exact hown⟩
              case measure => simp [intOf]; omega
            · have Hno := Lib.hid (ordTo_yes (p := F.testBit) (k := J) (s := S) (by rw [hcs]; simp at hsj ⊢; omega))
              go_wp2_with (first | (go_at_call 108; (with_reducible refine (hasSet_any F S _ hF hlt2).mono ?_); rintro e w' ⟨rfl, rfl⟩) | (go_at_call 65; (with_reducible refine (SizeOf_any S _ hlt2).mono ?_); rintro e w' ⟨rfl, rfl⟩) | (at_builtin; refine ap rfl _ _ rfl B _ _ _ _ _ rfl hown rfl (by omega) hsz ?_; intro ad' c' w' hown' hb'))
              go_roundw
              case rel => exact ⟨S + 1, by omega, by go_num, hb.trans hb', ad', m + 1, c', by omega, rfl, by rw [Hno.out, up_append]; exact hown'⟩
              case measure => simp [intOf]; omega
        · obtain rfl : S = 64 := by omega
          have hnx := Lib.hid (ordTo_next F.testBit J)
          go_wp2
          go_roundw
          case rel => exact ⟨J + 1, by omega, by go_num, hb, ad, m, c, by omega, rfl, by rw [← hnx.out]; exact hown⟩
          case measure => simp [intOf]; omega
    · obtain rfl : J = 7 := by omega
      go_wp2
      go_ret
      exact ⟨ad, m, c, rfl, by rw [← ordTo_end, ← HB.out]; exact hown, by rw [← HB.out]; exact hb⟩

theorem sdiff_zero {a b : Nat} (ha : a < 64) (hb : b < 64) : (((sdiff a b : Nat) : Int) == 0) = sub a b := by
  rw [Bool.eq_iff_iff, ← sdiff_sub ha hb]; simp

end Go.Proofs.Ytbdnlncpamandaa

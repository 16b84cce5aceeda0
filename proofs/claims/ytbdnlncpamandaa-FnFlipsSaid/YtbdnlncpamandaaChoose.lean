/- Texts of this claim, one behind the other: what each says stands at its head. -/
import Derived.Test.YtbdnlncpamandaaCore
import Derived.Test.YtbdnlncpamandaaSet
/- Contracts of the reference's and the program's Choose and OntoWords: what each call returns. -/
namespace Go.Proofs.Ytbdnlncpamandaa
set_option maxRecDepth 20000
open Go.RowKit
set_option linter.unusedSimpArgs false

/-- i factors of the number of ways to choose i of n things -/
def ch (n : Nat) : Nat → Nat
  | 0 => 1
  | i + 1 => ch n i * (n - i) / (i + 1)
theorem ch_bd : ∀ n, n < 31 → ∀ i, i < 31 → ch n i * (n - i) ≤ 5000000000 := by decide +kernel
theorem ch_bd1 : ∀ n, n < 31 → ∀ i, i < 32 → ch n i ≤ 5000000000 := by decide +kernel
theorem mul_i64 {a b : Int} {A B C : Nat} (ha : a = A) (hb : b = B) (hC : A * B = C) (hle : C ≤ 4611686018427387904) : IntKind.i64.wrap (a * b) = (C : Int) := by
  subst ha hb hC
  rw [← Int.natCast_mul]
  exact IntWalk.i64_in _ (by omega)

set_option maxHeartbeats 400000 in
theorem sChoose_yes (n k : Nat) (w : World) (hn : n ≤ 30) (hk : k ≤ n) :
    Calls Try.prog 84 #[.int .i64 n, .int .i64 k] w fun e w' => e = .returned (.int .i64 (ch n k)) ∧ w = w' := by
  go_enter Try.func84, Try.ntmps84
  go_wp2_with (first | (go_at_call 72; (with_reducible refine (l1In_yes (n : Int) 0 60 _ (by omega) (by omega)).mono ?_); rintro e w' ⟨rfl, rfl⟩) | (go_at_call 72; (with_reducible refine (l1In_yes (k : Int) 0 (n : Int) _ (by omega) (by omega)).mono ?_); rintro e w' ⟨rfl, rfl⟩))
  go_loop [5, 6] (fun r i => ∃ I R : Nat, I ≤ k ∧ i = .int .i64 I ∧ r = .int .i64 R ∧ Hid (R = ch n I)) (fun _ i => k - (intOf i).toNat)
  case atStart => exact ⟨0, 1, Nat.zero_le _, rfl, rfl, Lib.hid rfl⟩
  case round =>
    obtain ⟨I, R, hI, rfl, rfl, hR⟩ := hrel
    by_cases hlt : I < k
    · obtain ⟨Y, hY⟩ : ∃ Y : Nat, Y = R * (n - I) := ⟨_, rfl⟩
      have hYb : Y ≤ 5000000000 := by rw [hY, hR.out]; exact ch_bd n (by omega) I (by omega)
      have hw : IntKind.i64.wrap ((R : Int) * ((n : Int) - (I : Int))) = (Y : Int) := mul_i64 rfl (show (n : Int) - (I : Int) = ((n - I : Nat) : Int) by omega) hY.symm (by omega)
      have HY := Lib.hid (show ((Y : Int) / ((I : Int) + 1)) = ((ch n (I + 1) : Nat) : Int) by
        have e : ch n (I + 1) = Y / (I + 1) := by rw [hY, hR.out]; rfl
        rw [e, Int.natCast_ediv]; rfl)
      clear hY
      go_wp2
      go_round
      case rel => exact ⟨I + 1, ch n (I + 1), by omega, by go_num, by rw [HY.out, IntWalk.wrap64_in _ (by have := ch_bd1 n (by omega) (I + 1) (by omega); omega)], Lib.hid rfl⟩
      case measure => simp [intOf]; omega
    · obtain rfl : I = k := by omega
      go_wp2
      go_ret
      exact ⟨ret_int (by rw [hR.out]), rfl⟩
theorem sChoose_no (n k : Int) (w : World) (h : ¬ (0 ≤ n ∧ n ≤ 60 ∧ 0 ≤ k ∧ k ≤ n)) :
    Calls Try.prog 84 #[.int .i64 n, .int .i64 k] w fun e w' => e = .returned (.int .i64 0) ∧ w = w' := by
  by_cases h1 : 0 ≤ n ∧ n ≤ 60
  · go_enter Try.func84, Try.ntmps84
    go_wp2_with (first | (go_at_call 72; (with_reducible refine (l1In_yes n 0 60 _ h1.1 h1.2).mono ?_); rintro e w' ⟨rfl, rfl⟩) | (go_at_call 72; (with_reducible refine (l1In_no k 0 n _ (by omega)).mono ?_); rintro e w' ⟨rfl, rfl⟩))
    go_ret
    exact ⟨rfl, rfl⟩
  · go_enter Try.func84, Try.ntmps84
    go_wp2_with (go_at_call 72; (with_reducible refine (l1In_no n 0 60 _ h1).mono ?_); rintro e w' ⟨rfl, rfl⟩)
    go_ret
    exact ⟨rfl, rfl⟩

/-- words onto k kinds, the program's way -/
def onI : Nat → Nat → Nat
  | 0, k => if k = 0 then 1 else 0
  | n + 1, k => if k = 0 then 0 else k * (onI n k + onI n (k - 1))
theorem onI_big : ∀ n, n < 8 → ∀ k, k < 8 → n < k → onI n k = 0 := by decide +kernel
theorem onI_bd : ∀ n, n < 8 → ∀ k, k < 8 → onI n k ≤ 20000 := by decide +kernel
/-- the reference's sum, its first i terms -/
def onS (n k : Nat) : Nat → Int
  | 0 => 0
  | i + 1 => onS n k i + (1 - 2 * ((i : Int) % 2)) * (ch k i : Int) * (((k - i) ^ n : Nat) : Int)
theorem onS_bd : ∀ n, n < 8 → ∀ k, k < 8 → ∀ i, i < 9 → -100000000 ≤ onS n k i ∧ onS n k i ≤ 100000000 := by decide +kernel
theorem onS_step : ∀ n, n < 8 → ∀ k, k < 8 → ∀ i, i < 8 → i ≤ k → wrap64 (onS n k i + wrap64 (wrap64 ((1 - 2 * ((i : Int) % 2)) * (ch k i : Int)) * (((k - i) ^ n : Nat) : Int))) = onS n k (i + 1) := by decide +kernel
theorem onS_onI : ∀ n, n < 8 → ∀ k, k < 8 → onS n k (k + 1) = (onI n k : Int) := by decide +kernel
theorem pw_bd : ∀ b, b < 8 → ∀ j, j < 8 → b ^ j * b ≤ 10000000 := by decide +kernel

/-- the words of n letters onto k kinds -/
def onto (n k : Int) : Nat := if 0 ≤ n ∧ n ≤ 7 ∧ 0 ≤ k ∧ k ≤ 7 then onI n.toNat k.toNat else 0
theorem onto_le (n k : Int) : onto n k ≤ 20000 := by
  unfold onto
  split
  · exact onI_bd _ (by omega) _ (by omega)
  · omega

set_option maxHeartbeats 400000 in
theorem iOnto_in (n : Nat) : ∀ (k : Nat) (w : World), n ≤ 7 → k ≤ 7 →
    Calls Try.prog 37 #[.int .i64 n, .int .i64 k] w fun e w' => e = .returned (.int .i64 (onI n k)) ∧ w = w' := by
  induction n with
  | zero =>
    intro k w _ hk
    by_cases h0 : k = 0
    · subst h0
      go_enter Try.func37, Try.ntmps37
      go_wp2_with fail
      go_ret
      exact ⟨rfl, rfl⟩
    · have hz := Lib.hid (show onI 0 k = 0 by simp [onI, h0])
      have h1 : ((k : Int) == 0) = false := by simp; omega
      have hk0 : 0 < k := by omega
      clear h0
      go_enter Try.func37, Try.ntmps37
      go_wp2_with fail
      go_ret
      exact ⟨ret_int (by rw [hz.out]; rfl), rfl⟩
  | succ n ih =>
    intro k w hn hk
    by_cases h0 : k = 0
    · subst h0
      go_enter Try.func37, Try.ntmps37
      go_wp2_with fail
      go_ret
      exact ⟨rfl, rfl⟩
    · have h1 : ((k : Int) == 0) = false := by simp; omega
      have hk0 : 0 < k := by omega
      clear h0
      by_cases h2 : n + 1 < k
      · have hz := Lib.hid (onI_big (n + 1) (by omega) k (by omega) h2)
        have h3 : (n : Int) + 1 < (k : Int) := by omega
        have h4 : (((n : Int) + 1) == 0) = false := by simp; omega
        have Hih := Lib.hid ih; clear ih
        rw [show ((n + 1 : Nat) : Int) = (n : Int) + 1 from rfl]
        go_enter Try.func37, Try.ntmps37
        go_wp2_with fail
        go_ret
        exact ⟨ret_int (by rw [hz.out]; rfl), rfl⟩
      · obtain ⟨Y, hY⟩ : ∃ Y : Nat, Y = k * (onI n k + onI n (k - 1)) := ⟨_, rfl⟩
        have b1 := onI_bd n (by omega) k (by omega)
        have b2 := onI_bd n (by omega) (k - 1) (by omega)
        have b3 : Y ≤ 20000 := by
          have := onI_bd (n + 1) (by omega) k (by omega)
          rw [hY]; simp only [onI] at this; rw [if_neg (by omega)] at this; exact this
        have hYe := Lib.hid (show onI (n + 1) k = Y by rw [hY]; simp only [onI]; rw [if_neg (by omega)])
        obtain ⟨P, hP⟩ : ∃ P, P = onI n k := ⟨_, rfl⟩
        obtain ⟨Q, hQ⟩ : ∃ Q, Q = onI n (k - 1) := ⟨_, rfl⟩
        rw [← hP, ← hQ] at hY
        rw [← hP] at b1
        rw [← hQ] at b2
        have hw : IntKind.i64.wrap ((k : Int) * ((P : Int) + (Q : Int))) = (Y : Int) := mul_i64 rfl (show (P : Int) + (Q : Int) = ((P + Q : Nat) : Int) by omega) hY.symm (by omega)
        have HP := Lib.hid hP; have HQ := Lib.hid hQ
        clear hY hP hQ
        have h3 : ¬ (n : Int) + 1 < (k : Int) := by omega
        have h4 : (((n : Int) + 1) == 0) = false := by simp; omega
        have Hih := Lib.hid ih; clear ih
        have c1 : ∀ w, Calls Try.prog 37 #[.int .i64 n, .int .i64 k] w fun e w' => e = .returned (.int .i64 P) ∧ w = w' := fun w => by rw [HP.out]; exact Hih.out k w (by omega) hk
        have c2 : ∀ w, Calls Try.prog 37 #[.int .i64 n, .int .i64 ((k : Int) - 1)] w fun e w' => e = .returned (.int .i64 Q) ∧ w = w' := fun w => by
          rw [HQ.out, show (k : Int) - 1 = ((k - 1 : Nat) : Int) by omega]; exact Hih.out (k - 1) w (by omega) (by omega)
        have C1 := Lib.hid c1; have C2 := Lib.hid c2
        clear c1 c2
        rw [show ((n + 1 : Nat) : Int) = (n : Int) + 1 from rfl]
        go_enter Try.func37, Try.ntmps37
        go_wp2_with fail
        refine (C1.out _).mono ?_
        rintro e w' ⟨rfl, rfl⟩
        go_wp2_with fail
        refine (C2.out _).mono ?_
        rintro e w' ⟨rfl, rfl⟩
        go_wp2_with fail
        go_ret
        exact ⟨ret_int (by rw [hYe.out]), rfl⟩
theorem iOnto_any (n k : Int) (w : World) :
    Calls Try.prog 37 #[.int .i64 n, .int .i64 k] w fun e w' => e = .returned (.int .i64 (onto n k)) ∧ w = w' := by
  by_cases h : 0 ≤ n ∧ n ≤ 7 ∧ 0 ≤ k ∧ k ≤ 7
  · obtain ⟨N, rfl⟩ := Int.eq_ofNat_of_zero_le h.1
    obtain ⟨K, rfl⟩ := Int.eq_ofNat_of_zero_le h.2.2.1
    unfold onto
    rw [if_pos h]
    exact iOnto_in N K w (by omega) (by omega)
  · have e : onto n k = 0 := by unfold onto; rw [if_neg h]
    rw [e]
    by_cases h1 : n < 0 <;> by_cases h2 : 7 < n <;> by_cases h3 : k < 0 <;> by_cases h4 : 7 < k <;> first | (exfalso; omega) | skip
    all_goals go_enter Try.func37, Try.ntmps37
    all_goals go_wp2_with fail
    all_goals go_ret
    all_goals exact ⟨rfl, rfl⟩

set_option maxHeartbeats 1000000 in
theorem sOnto_in (n k : Nat) (w : World) (hn : n ≤ 7) (hk : k ≤ 7) :
    Calls Try.prog 38 #[.int .i64 n, .int .i64 k] w fun e w' => e = .returned (.int .i64 (onI n k)) ∧ w = w' := by
  go_enter Try.func38, Try.ntmps38
  go_wp2_with (first | (go_at_call 72; (with_reducible refine (l1In_yes (n : Int) 0 7 _ (by omega) (by omega)).mono ?_); rintro e w' ⟨rfl, rfl⟩) | (go_at_call 72; (with_reducible refine (l1In_yes (k : Int) 0 7 _ (by omega) (by omega)).mono ?_); rintro e w' ⟨rfl, rfl⟩))
  go_loop [5, 6, 7, 8] (fun t i _ _ => ∃ (I : Nat) (S : Int), I ≤ k + 1 ∧ i = .int .i64 I ∧ t = .int .i64 S ∧ Hid (S = onS n k I)) (fun _ i _ _ => k + 1 - (intOf i).toNat)
  case atStart => exact ⟨0, 0, Nat.zero_le _, rfl, rfl, Lib.hid rfl⟩
  case round =>
    obtain ⟨I, S, hI, rfl, rfl, hS⟩ := hrel
    by_cases hlt : I ≤ k
    · have hSb : -100000000 ≤ S ∧ S ≤ 100000000 := by rw [hS.out]; exact onS_bd n (by omega) k (by omega) I (by omega)
      have hIk : (I : Int) ≤ (k : Int) := by omega
      go_wp2_with fail
      go_loop [7, 8] (fun p j => ∃ J P : Nat, J ≤ n ∧ j = .int .i64 J ∧ p = .int .i64 P ∧ Hid (P = (k - I) ^ J)) (fun _ j => n - (intOf j).toNat)
      case atStart => exact ⟨0, 1, Nat.zero_le _, rfl, rfl, Lib.hid rfl⟩
      case round =>
        obtain ⟨J, P, hJ, rfl, rfl, hP⟩ := hrel
        by_cases hlt2 : J < n
        · obtain ⟨Y, hY⟩ : ∃ Y : Nat, Y = P * (k - I) := ⟨_, rfl⟩
          have hYb : Y ≤ 10000000 := by rw [hY, hP.out]; exact pw_bd (k - I) (by omega) J (by omega)
          have hw : IntKind.i64.wrap ((P : Int) * ((k : Int) - (I : Int))) = (Y : Int) := mul_i64 rfl (show (k : Int) - (I : Int) = ((k - I : Nat) : Int) by omega) hY.symm (by omega)
          have HY := Lib.hid (show Y = (k - I) ^ (J + 1) by rw [hY, hP.out, Nat.pow_succ])
          clear hY
          go_wp2
          go_round
          case rel => exact ⟨J + 1, Y, by omega, by go_num, rfl, HY⟩
          case measure => simp [intOf]; omega
        · obtain rfl : J = n := by omega
          have hst := Lib.hid (onS_step J (by omega) k (by omega) I (by omega) hlt)
          go_wp2_with (go_at_call 84; (with_reducible refine (sChoose_yes k I _ (by omega) (by omega)).mono ?_); rintro e w' ⟨rfl, rfl⟩)
          go_round
          case rel => exact ⟨I + 1, _, by omega, by go_num, rfl, Lib.hid (by rw [hS.out, hP.out]; exact hst.out)⟩
          case measure => simp [intOf]; omega
    · obtain rfl : I = k + 1 := by omega
      have hkk : ¬ ((k : Int) + 1 ≤ (k : Int)) := by omega
      go_wp2
      go_ret
      exact ⟨ret_int (by rw [hS.out]; exact onS_onI n (by omega) k (by omega)), rfl⟩
theorem sOnto_any (n k : Int) (w : World) :
    Calls Try.prog 38 #[.int .i64 n, .int .i64 k] w fun e w' => e = .returned (.int .i64 (onto n k)) ∧ w = w' := by
  by_cases h : 0 ≤ n ∧ n ≤ 7 ∧ 0 ≤ k ∧ k ≤ 7
  · obtain ⟨N, rfl⟩ := Int.eq_ofNat_of_zero_le h.1
    obtain ⟨K, rfl⟩ := Int.eq_ofNat_of_zero_le h.2.2.1
    unfold onto
    rw [if_pos h]
    exact sOnto_in N K w (by omega) (by omega)
  · have e : onto n k = 0 := by unfold onto; rw [if_neg h]
    rw [e]
    by_cases h1 : 0 ≤ n ∧ n ≤ 7
    · go_enter Try.func38, Try.ntmps38
      go_wp2_with (first | (go_at_call 72; (with_reducible refine (l1In_yes n 0 7 _ h1.1 h1.2).mono ?_); rintro e w' ⟨rfl, rfl⟩) | (go_at_call 72; (with_reducible refine (l1In_no k 0 7 _ (by omega)).mono ?_); rintro e w' ⟨rfl, rfl⟩))
      go_ret
      exact ⟨rfl, rfl⟩
    · go_enter Try.func38, Try.ntmps38
      go_wp2_with (go_at_call 72; (with_reducible refine (l1In_no n 0 7 _ h1).mono ?_); rintro e w' ⟨rfl, rfl⟩)
      go_ret
      exact ⟨rfl, rfl⟩

end Go.Proofs.Ytbdnlncpamandaa

/- Contracts of RepeatedCounts, the program's and the reference's: the sums over all sizes of the numbers times the words onto k kinds. -/
namespace Go.Proofs.Ytbdnlncpamandaa
set_option maxRecDepth 20000
open Go.RowKit
set_option linter.unusedSimpArgs false

/-- a list that RepeatedCounts takes -/
def RepOk (xs : List Int) : Prop := 1 ≤ xs.length ∧ xs.length ≤ 7 ∧ ∀ i, i < xs.length → 0 ≤ nth xs i ∧ nth xs i ≤ 1000000
def repTo (xs : List Int) (k i : Nat) : Nat := ((List.range i).map fun j => (nth xs j).toNat * onto j k).sum
theorem repTo_succ (xs : List Int) (k i : Nat) : repTo xs k (i + 1) = repTo xs k i + (nth xs i).toNat * onto i k := by unfold repTo; rw [List.range_succ, List.map_append, List.sum_append]; simp
theorem rep_mul {xs : List Int} {i : Nat} (h : 0 ≤ nth xs i ∧ nth xs i ≤ 1000000) (k : Int) : (nth xs i).toNat * onto i k ≤ 20000000000 := by
  have h1 := onto_le i k
  have : (nth xs i).toNat * onto i k ≤ 1000000 * 20000 := Nat.mul_le_mul (by omega) h1
  omega
theorem repTo_le (xs : List Int) (h : RepOk xs) (k : Nat) : ∀ i, i ≤ xs.length → repTo xs k i ≤ 20000000000 * i := by
  intro i
  induction i with
  | zero => intro _; simp [repTo]
  | succ i ih =>
    intro hi
    have := rep_mul (h.2.2 i (by omega)) (k : Int)
    have := ih (by omega)
    rw [repTo_succ]; omega
/-- what RepeatedCounts returns: its first k numbers -/
def repL (xs : List Int) (k : Nat) : List Nat := (List.range k).map fun k => if k = 0 then 1 else repTo xs k xs.length
theorem repL_succ (xs : List Int) (k : Nat) (hk : 1 ≤ k) : repL xs (k + 1) = repL xs k ++ [repTo xs k xs.length] := by
  unfold repL; rw [List.range_succ, List.map_append]; simp; omega

set_option maxHeartbeats 1000000 in
theorem iRep_no (a : Option Addr) (n c : Nat) (xs : List Int) (w : World) (h : IntsAt w a n xs) (hno : ¬ RepOk xs) :
    Calls Try.prog 40 #[.slice a n c] w (RetInts w []) := by
  have hsm := h.small
  have hlen := Lib.hid h.len
  have Hh := Lib.hid h; clear h
  have Hno := Lib.hid hno; clear hno
  by_cases h0 : n = 0
  · subst h0
    go_enter Try.func40, Try.ntmps40
    go_wp2
    go_ret
    exact ⟨none, 0, 0, rfl, Own.nil _ _ _, Below.refl _ _⟩
  by_cases h7 : 7 < n
  · have hz : ((n : Int) == 0) = false := by simp; omega
    go_enter Try.func40, Try.ntmps40
    go_wp2
    go_ret
    exact ⟨none, 0, 0, rfl, Own.nil _ _ _, Below.refl _ _⟩
  have hz : ((n : Int) == 0) = false := by simp; omega
  have hn7 : ¬ (7 : Int) < n := by omega
  have H0 := Lib.hid h0; have H7 := Lib.hid h7
  clear h0 h7
  go_enter Try.func40, Try.ntmps40
  go_wp2_with fail
  go_loop [4, 20] (fun _ i => ∃ k : Nat, k ≤ n ∧ i = .int .i64 k ∧ Hid (∀ j, j < k → 0 ≤ nth xs j ∧ nth xs j ≤ 1000000)) (fun _ i => n - (intOf i).toNat)
  case atStart => exact ⟨0, Nat.zero_le _, rfl, Lib.hid (fun j hj => absurd hj (Nat.not_lt_zero _))⟩
  case round =>
    obtain ⟨k, hk, rfl, hok⟩ := hrel
    by_cases hlt : k < n
    · obtain ⟨b, off, rfl, hc⟩ := Hh.out.cells (by omega)
      have hck := hc k hlt
      obtain ⟨x, hx⟩ : ∃ x, x = nth xs k := ⟨_, rfl⟩
      rw [← hx] at hck
      have Hx := Lib.hid hx; clear hx hc
      by_cases h1 : x < 0
      · go_wp2
        go_ret
        exact ⟨none, 0, 0, rfl, Own.nil _ _ _, Below.refl _ _⟩
      · by_cases h2 : 1000000 < x
        · go_wp2
          go_ret
          exact ⟨none, 0, 0, rfl, Own.nil _ _ _, Below.refl _ _⟩
        · go_wp2
          go_round
          case rel =>
            refine ⟨k + 1, by omega, by go_num, Lib.hid fun j hj => ?_⟩
            rcases Nat.lt_or_ge j k with h | h
            · exact hok.out j h
            · obtain rfl : j = k := by omega
              rw [← Hx.out]; omega
          case measure => simp [intOf]; omega
    · exfalso
      have hkn : k = n := by omega
      have h0 := H0.out; have h7 := H7.out
      exact Hno.out ⟨by rw [hlen.out]; omega, by rw [hlen.out]; omega, fun i hi => hok.out i (by rw [hlen.out] at hi; omega)⟩
set_option maxHeartbeats 2000000 in
theorem iRep_yes (a : Option Addr) (n c : Nat) (xs : List Int) (w : World) (h : IntsAt w a n xs) (hok : RepOk xs) :
    Calls Try.prog 40 #[.slice a n c] w (RetInts w (up (repL xs xs.length))) := by
  have hlen := Lib.hid h.len
  have hn7 : n ≤ 7 := by rw [← h.len]; exact hok.2.1
  have hn1 : 1 ≤ n := by rw [← h.len]; exact hok.1
  have Hh := Lib.hid h; clear h
  have Hok := Lib.hid hok; clear hok
  have hz : ((n : Int) == 0) = false := by simp; omega
  go_enter Try.func40, Try.ntmps40
  go_wp2_with fail
  go_loop [4, 20] (fun _ i => ∃ k : Nat, k ≤ n ∧ i = .int .i64 k) (fun _ i => n - (intOf i).toNat)
  case atStart => exact ⟨0, Nat.zero_le _, rfl⟩
  case round =>
    obtain ⟨k, hk, rfl⟩ := hrel
    by_cases hlt : k < n
    · obtain ⟨b, off, rfl, hc⟩ := Hh.out.cells (by omega)
      have hck := hc k hlt
      obtain ⟨hx0, hx1⟩ := Hok.out.2.2 k (by rw [hlen.out]; exact hlt)
      clear hc
      go_wp2
      go_round
      case rel => exact ⟨k + 1, by omega, by go_num⟩
      case measure => simp [intOf]; omega
    · obtain rfl : k = n := by omega
      have hkk : ¬ ((k : Int) < k) := by omega
      go_wp2_with fail
      obtain ⟨B, hB⟩ : ∃ B, B = w.heap.size := ⟨_, rfl⟩
      have hown0 : Own 3 (w.alloc (.cells #[.int .i64 1] 3)) B (some ⟨w.heap.size, 0, none⟩) 1 1 [1] := Own.lit _ _ _ (by omega) 1
      have HB := Lib.hid hB; clear hB
      go_loopw [5, 6, 7, 8, 9, 40] (fun v q _ _ _ _ wr => ∃ K : Nat, 1 ≤ K ∧ K ≤ k ∧ q = .int .i64 K ∧ Below B w wr ∧ ∃ ad m d, m = K ∧ v = .slice ad m d ∧ Own 3 wr B ad m d (up (repL xs K))) (fun _ q _ _ _ _ _ => k - (intOf q).toNat)
      case atStart => exact ⟨1, Nat.le_refl _, hn1, rfl, (Below.refl _ _).alloc (by have := HB.out; omega) _, _, 1, 1, rfl, rfl, hown0⟩
      case round =>
        clear hown0
        obtain ⟨K, hK1, hK, rfl, hb, ad, m, d, rfl, rfl, hown⟩ := hrel
        by_cases hlt2 : m < k
        · have hmk : (m : Int) < k := by omega
          have hh := Hh.out.keep (by rw [← HB.out]; exact hb)
          have Hb := Lib.hid hb; clear hb
          obtain ⟨b, off, rfl, hc⟩ := hh.cells (by omega)
          have Hc := Lib.hid hc; clear hc hh
          go_wp2_with fail
          go_loop [7, 8, 9, 40] (fun t _ _ i => ∃ I S : Nat, I ≤ k ∧ i = .int .i64 I ∧ t = .int .i64 S ∧ S ≤ 20000000000 * I ∧ Hid (S = repTo xs m I)) (fun _ _ _ i => k - (intOf i).toNat)
          case atStart => exact ⟨0, 0, Nat.zero_le _, rfl, rfl, by omega, Lib.hid rfl⟩
          case round =>
            obtain ⟨I, S, hI, rfl, rfl, hSb, hS⟩ := hrel
            by_cases hlt3 : I < k
            · have hcI := Hc.out I hlt3
              have hx := Hok.out.2.2 I (by rw [hlen.out]; exact hlt3)
              obtain ⟨C, hC⟩ : ∃ C, C = (nth xs I).toNat * onto I m := ⟨_, rfl⟩
              have hCb : C ≤ 20000000000 := by rw [hC]; exact rep_mul hx _
              have hw : IntKind.i64.wrap (nth xs I * ((onto I m : Nat) : Int)) = (C : Int) := mul_i64 (show nth xs I = ((nth xs I).toNat : Int) by omega) rfl hC.symm (by omega)
              have HC := Lib.hid hC
              clear hC hx
              go_wp2_with (go_at_call 37; (with_reducible refine (iOnto_any (I : Int) (m : Int) _).mono ?_); rintro e w' ⟨rfl, rfl⟩)
              go_round
              case rel => exact ⟨I + 1, S + C, by omega, by go_num, by go_num, by omega, Lib.hid (by rw [repTo_succ, hS.out, HC.out])⟩
              case measure => simp [intOf]; omega
            · obtain rfl : I = k := by omega
              have hII : ¬ ((I : Int) < I) := by omega
              have hsz : B ≤ wr.heap.size := by have := Hb.out.size; have := HB.out; omega
              go_wp2_with (at_builtin; refine ap rfl _ _ rfl B _ _ _ _ _ rfl hown rfl (by omega) hsz ?_; intro ad' d' w' hown' hb')
              go_roundw
              case rel => exact ⟨m + 1, by omega, by omega, by go_num, Hb.out.trans hb', ad', m + 1, d', rfl, rfl, by rw [repL_succ _ _ hK1, up_append, hlen.out, ← hS.out]; exact hown'⟩
              case measure => simp [intOf]; omega
        · obtain rfl : m = k := by omega
          have hmm : ¬ ((m : Int) < m) := by omega
          go_wp2_with fail
          go_ret
          exact ⟨ad, m, d, rfl, by rw [hlen.out, ← HB.out]; exact hown, by rw [← HB.out]; exact hb⟩

set_option maxHeartbeats 1000000 in
theorem sRep_no (a : Option Addr) (n c : Nat) (xs : List Int) (w : World) (h : IntsAt w a n xs) (hno : ¬ RepOk xs) :
    Calls Try.prog 41 #[.slice a n c] w (RetInts w []) := by
  have hsm := h.small
  have hlen := Lib.hid h.len
  have Hh := Lib.hid h; clear h
  have Hno := Lib.hid hno; clear hno
  by_cases h0 : 1 ≤ (n : Int) ∧ (n : Int) ≤ 7
  · go_enter Try.func41, Try.ntmps41
    go_wp2_with (go_at_call 72; (with_reducible refine (l1In_yes (n : Int) 1 7 _ h0.1 h0.2).mono ?_); rintro e w' ⟨rfl, rfl⟩)
    go_loop [3] (fun i => ∃ k : Nat, k ≤ n ∧ i = .int .i64 k ∧ Hid (∀ j, j < k → 0 ≤ nth xs j ∧ nth xs j ≤ 1000000)) (fun i => n - (intOf i).toNat)
    case atStart => exact ⟨0, Nat.zero_le _, rfl, Lib.hid (fun j hj => absurd hj (Nat.not_lt_zero _))⟩
    case round =>
      obtain ⟨k, hk, rfl, hok⟩ := hrel
      by_cases hlt : k < n
      · obtain ⟨b, off, rfl, hc⟩ := Hh.out.cells (by omega)
        have hck := hc k hlt
        clear hc
        by_cases h1 : 0 ≤ nth xs k ∧ nth xs k ≤ 1000000
        · go_wp2_with (go_at_call 72; (with_reducible refine (l1In_yes (nth xs k) 0 1000000 _ h1.1 h1.2).mono ?_); rintro e w' ⟨rfl, rfl⟩)
          go_round
          case rel =>
            refine ⟨k + 1, by omega, by go_num, Lib.hid fun j hj => ?_⟩
            rcases Nat.lt_or_ge j k with h | h
            · exact hok.out j h
            · obtain rfl : j = k := by omega
              exact h1
          case measure => simp [intOf]; omega
        · go_wp2_with (go_at_call 72; (with_reducible refine (l1In_no (nth xs k) 0 1000000 _ h1).mono ?_); rintro e w' ⟨rfl, rfl⟩)
          go_ret
          exact ⟨_, 0, 0, rfl, Own.empty _ _ _ (Nat.le_refl _), (Below.refl _ _).alloc (Nat.le_refl _) _⟩
      · exfalso
        have hkn : k = n := by omega
        exact Hno.out ⟨by rw [hlen.out]; omega, by rw [hlen.out]; omega, fun i hi => hok.out i (by rw [hlen.out] at hi; omega)⟩
  · go_enter Try.func41, Try.ntmps41
    go_wp2_with (go_at_call 72; (with_reducible refine (l1In_no (n : Int) 1 7 _ h0).mono ?_); rintro e w' ⟨rfl, rfl⟩)
    go_ret
    exact ⟨_, 0, 0, rfl, Own.empty _ _ _ (Nat.le_refl _), (Below.refl _ _).alloc (Nat.le_refl _) _⟩
set_option maxHeartbeats 2000000 in
theorem sRep_yes (a : Option Addr) (n c : Nat) (xs : List Int) (w : World) (h : IntsAt w a n xs) (hok : RepOk xs) :
    Calls Try.prog 41 #[.slice a n c] w (RetInts w (up (repL xs xs.length))) := by
  have hlen := Lib.hid h.len
  have hn7 : n ≤ 7 := by rw [← h.len]; exact hok.2.1
  have hn1 : 1 ≤ n := by rw [← h.len]; exact hok.1
  have Hh := Lib.hid h; clear h
  have Hok := Lib.hid hok; clear hok
  go_enter Try.func41, Try.ntmps41
  go_wp2_with (go_at_call 72; (with_reducible refine (l1In_yes (n : Int) 1 7 _ (by omega) (by omega)).mono ?_); rintro e w' ⟨rfl, rfl⟩)
  go_loop [3] (fun i => ∃ k : Nat, k ≤ n ∧ i = .int .i64 k) (fun i => n - (intOf i).toNat)
  case atStart => exact ⟨0, Nat.zero_le _, rfl⟩
  case round =>
    obtain ⟨k, hk, rfl⟩ := hrel
    by_cases hlt : k < n
    · obtain ⟨b, off, rfl, hc⟩ := Hh.out.cells (by omega)
      have hck := hc k hlt
      have hx := Hok.out.2.2 k (by rw [hlen.out]; exact hlt)
      clear hc
      go_wp2_with (go_at_call 72; (with_reducible refine (l1In_yes (nth xs k) 0 1000000 _ hx.1 hx.2).mono ?_); rintro e w' ⟨rfl, rfl⟩)
      go_round
      case rel => exact ⟨k + 1, by omega, by go_num⟩
      case measure => simp [intOf]; omega
    · obtain rfl : k = n := by omega
      have hkk : ¬ ((k : Int) < k) := by omega
      go_wp2_with fail
      obtain ⟨B, hB⟩ : ∃ B, B = w.heap.size := ⟨_, rfl⟩
      have hown0 : Own 3 (w.alloc (.cells #[.int .i64 1] 3)) B (some ⟨w.heap.size, 0, none⟩) 1 1 [1] := Own.lit _ _ _ (by omega) 1
      have HB := Lib.hid hB; clear hB
      go_loopw [4, 5, 6, 7] (fun v q _ _ wr => ∃ K : Nat, 1 ≤ K ∧ K ≤ k ∧ q = .int .i64 K ∧ Below B w wr ∧ ∃ ad m d, m = K ∧ v = .slice ad m d ∧ Own 3 wr B ad m d (up (repL xs K))) (fun _ q _ _ _ => k - (intOf q).toNat)
      case atStart => exact ⟨1, Nat.le_refl _, hn1, rfl, (Below.refl _ _).alloc (by have := HB.out; omega) _, _, 1, 1, rfl, rfl, hown0⟩
      case round =>
        clear hown0
        obtain ⟨K, hK1, hK, rfl, hb, ad, m, d, rfl, rfl, hown⟩ := hrel
        by_cases hlt2 : m < k
        · have hmk : (m : Int) < k := by omega
          have Hb := Lib.hid hb; clear hb
          have Hown := Lib.hid hown; clear hown
          obtain ⟨wo, rfl⟩ : ∃ wo : World, wo = wr := ⟨_, rfl⟩
          go_wp2_with fail
          go_loopw [6, 7] (fun t i wr => ∃ I S : Nat, I ≤ k ∧ i = .int .i64 I ∧ t = .int .i64 S ∧ S ≤ 20000000000 * I ∧ Hid (S = repTo xs m I) ∧ Below wo.heap.size wo wr) (fun _ i _ => k - (intOf i).toNat)
          case atStart => exact ⟨0, 0, Nat.zero_le _, rfl, rfl, by omega, Lib.hid rfl, Below.refl _ _⟩
          case round =>
            obtain ⟨I, S, hI, rfl, rfl, hSb, hS, hbo⟩ := hrel
            have Hbo := Lib.hid hbo; clear hbo
            by_cases hlt3 : I < k
            · have hh := (Hh.out.keep (by rw [← HB.out]; exact Hb.out)).keep Hbo.out
              obtain ⟨b, off, rfl, hc⟩ := hh.cells (by omega)
              have hcI := hc I hlt3
              have hx := Hok.out.2.2 I (by rw [hlen.out]; exact hlt3)
              obtain ⟨C, hC⟩ : ∃ C, C = (nth xs I).toNat * onto I m := ⟨_, rfl⟩
              have hCb : C ≤ 20000000000 := by rw [hC]; exact rep_mul hx _
              have hw : IntKind.i64.wrap (nth xs I * ((onto I m : Nat) : Int)) = (C : Int) := mul_i64 (show nth xs I = ((nth xs I).toNat : Int) by omega) rfl hC.symm (by omega)
              have hw2 : IntKind.i64.wrap ((S : Int) + (C : Int)) = (S : Int) + (C : Int) := IntWalk.i64_in _ (by omega)
              have HC := Lib.hid hC
              have hI0 : (0 : Int) ≤ I := by omega
              have hIk : (I : Int) < k := by omega
              clear hC hx hc hh
              go_wp2_with fail
              go_quiet ((go_at_call 38; exact ql (sOnto_any _ _ _)))
              go_wp2_with fail
              go_roundw
              case rel => exact ⟨I + 1, S + C, by omega, by go_num, by go_num, by omega, Lib.hid (by rw [repTo_succ, hS.out, HC.out]), below_drewN Hbo.out _⟩
              case measure => simp [intOf]; omega
            · obtain rfl : I = k := by omega
              have hII : ¬ ((I : Int) < I) := by omega
              have hsz : B ≤ wr.heap.size := by have := Hb.out.size; have := HB.out; have := Hbo.out.size; omega
              have hown := Hown.out.keep Hbo.out
              go_wp2_with (at_builtin; refine ap rfl _ _ rfl B _ _ _ _ _ rfl hown rfl (by omega) hsz ?_; intro ad' d' w' hown' hb')
              go_roundw
              case rel => exact ⟨m + 1, by omega, by omega, by go_num, (Hb.out.trans (Hbo.out.mono (by have := Hb.out.size; have := HB.out; omega))).trans hb', ad', m + 1, d', rfl, rfl, by rw [repL_succ _ _ hK1, up_append, hlen.out, ← hS.out]; exact hown'⟩
              case measure => simp [intOf]; omega
        · obtain rfl : m = k := by omega
          have hmm : ¬ ((m : Int) < m) := by omega
          go_wp2_with fail
          go_ret
          exact ⟨ad, m, d, rfl, by rw [hlen.out, ← HB.out]; exact hown, by rw [← HB.out]; exact hb⟩

end Go.Proofs.Ytbdnlncpamandaa

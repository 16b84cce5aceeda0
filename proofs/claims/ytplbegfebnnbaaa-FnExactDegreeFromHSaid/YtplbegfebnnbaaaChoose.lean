/- Contracts of the reference's and the program's Choose and OntoWords: what each call returns. -/
import Derived.Test.YtplbegfebnnbaaaSet
namespace Go.Proofs.Ytplbegfebnnbaaa
open Go.RowKit
set_option linter.unusedSimpArgs false

/-- i factors of the number of ways to choose i of n things -/
def ch (n : Nat) : Nat → Nat
  | 0 => 1
  | i + 1 => ch n i * (n - i) / (i + 1)
theorem ch_bd : ∀ n, n < 31 → ∀ i, i < 31 → ch n i * (n - i) ≤ 5000000000 := by decide +kernel
theorem ch_bd1 : ∀ n, n < 31 → ∀ i, i < 32 → ch n i ≤ 5000000000 := by decide +kernel
theorem mul_i64 {a b : Int} {A B C : Nat} (ha : a = A) (hb : b = B) (hC : A * B = C) (hle : C ≤ 4611686018427387904) : IntKind.i64.wrap (a * b) = (C : Int) := by
  subst ha hb hC
  rw [← Int.natCast_mul]
  exact IntWalk.i64_in _ (by omega)

set_option maxHeartbeats 400000 in
theorem sChoose_yes (n k : Nat) (w : World) (hn : n ≤ 30) (hk : k ≤ n) :
    Calls Try.prog 86 #[.int .i64 n, .int .i64 k] w fun e w' => e = .returned (.int .i64 (ch n k)) ∧ w = w' := by
  go_enter Try.func86, Try.ntmps86
  go_wp2_with (first | (go_at_call 65; (with_reducible refine (l1In_yes (n : Int) 0 60 _ (by omega) (by omega)).mono ?_); rintro e w' ⟨rfl, rfl⟩) | (go_at_call 65; (with_reducible refine (l1In_yes (k : Int) 0 (n : Int) _ (by omega) (by omega)).mono ?_); rintro e w' ⟨rfl, rfl⟩))
  go_loop [5, 6] (fun r i => ∃ I R : Nat, I ≤ k ∧ i = .int .i64 I ∧ r = .int .i64 R ∧ Hid (R = ch n I)) (fun _ i => k - (intOf i).toNat)
  case atStart => exact ⟨0, 1, Nat.zero_le _, rfl, rfl, Lib.hid rfl⟩
  case round =>
    obtain ⟨I, R, hI, rfl, rfl, hR⟩ := hrel
    by_cases hlt : I < k
    · obtain ⟨Y, hY⟩ : ∃ Y : Nat, Y = R * (n - I) := ⟨_, rfl⟩
      have hYb : Y ≤ 5000000000 := by rw [hY, hR.out]; exact ch_bd n (by omega) I (by omega)
      have hw : IntKind.i64.wrap ((R : Int) * ((n : Int) - (I : Int))) = (Y : Int) := mul_i64 rfl (show (n : Int) - (I : Int) = ((n - I : Nat) : Int) by omega) hY.symm (by omega)
      have HY := Lib.hid (show ((Y : Int) / ((I : Int) + 1)) = ((ch n (I + 1) : Nat) : Int) by
        have e : ch n (I + 1) = Y / (I + 1) := by rw [hY, hR.out]; rfl
        rw [e, Int.natCast_ediv]; rfl)
      clear hY
      go_wp2
      go_round
      case rel => exact ⟨I + 1, ch n (I + 1), by omega, by go_num, by rw [HY.out, IntWalk.wrap64_in _ (by have := ch_bd1 n (by omega) (I + 1) (by omega); omega)], Lib.hid rfl⟩
      case measure => simp [intOf]; omega
    · obtain rfl : I = k := by omega
      go_wp2
      go_ret
      exact ⟨ret_int (by rw [hR.out]), rfl⟩
theorem sChoose_no (n k : Int) (w : World) (h : ¬ (0 ≤ n ∧ n ≤ 60 ∧ 0 ≤ k ∧ k ≤ n)) :
    Calls Try.prog 86 #[.int .i64 n, .int .i64 k] w fun e w' => e = .returned (.int .i64 0) ∧ w = w' := by
  by_cases h1 : 0 ≤ n ∧ n ≤ 60
  · go_enter Try.func86, Try.ntmps86
    go_wp2_with (first | (go_at_call 65; (with_reducible refine (l1In_yes n 0 60 _ h1.1 h1.2).mono ?_); rintro e w' ⟨rfl, rfl⟩) | (go_at_call 65; (with_reducible refine (l1In_no k 0 n _ (by omega)).mono ?_); rintro e w' ⟨rfl, rfl⟩))
    go_ret
    exact ⟨rfl, rfl⟩
  · go_enter Try.func86, Try.ntmps86
    go_wp2_with (go_at_call 65; (with_reducible refine (l1In_no n 0 60 _ h1).mono ?_); rintro e w' ⟨rfl, rfl⟩)
    go_ret
    exact ⟨rfl, rfl⟩

/-- words onto k kinds, the program's way -/
def onI : Nat → Nat → Nat
  | 0, k => if k = 0 then 1 else 0
  | n + 1, k => if k = 0 then 0 else k * (onI n k + onI n (k - 1))
theorem onI_big : ∀ n, n < 8 → ∀ k, k < 8 → n < k → onI n k = 0 := by decide +kernel
theorem onI_bd : ∀ n, n < 8 → ∀ k, k < 8 → onI n k ≤ 20000 := by decide +kernel
/-- the reference's sum, its first i terms -/
def onS (n k : Nat) : Nat → Int
  | 0 => 0
  | i + 1 => onS n k i + (1 - 2 * ((i : Int) % 2)) * (ch k i : Int) * (((k - i) ^ n : Nat) : Int)
theorem onS_bd : ∀ n, n < 8 → ∀ k, k < 8 → ∀ i, i < 9 → -100000000 ≤ onS n k i ∧ onS n k i ≤ 100000000 := by decide +kernel
theorem onS_step : ∀ n, n < 8 → ∀ k, k < 8 → ∀ i, i < 8 → i ≤ k → wrap64 (onS n k i + wrap64 (wrap64 ((1 - 2 * ((i : Int) % 2)) * (ch k i : Int)) * (((k - i) ^ n : Nat) : Int))) = onS n k (i + 1) := by decide +kernel
theorem onS_onI : ∀ n, n < 8 → ∀ k, k < 8 → onS n k (k + 1) = (onI n k : Int) := by decide +kernel
theorem pw_bd : ∀ b, b < 8 → ∀ j, j < 8 → b ^ j * b ≤ 10000000 := by decide +kernel

/-- the words of n letters onto k kinds -/
def onto (n k : Int) : Nat := if 0 ≤ n ∧ n ≤ 7 ∧ 0 ≤ k ∧ k ≤ 7 then onI n.toNat k.toNat else 0
theorem onto_le (n k : Int) : onto n k ≤ 20000 := by
  unfold onto
  split
  · exact onI_bd _ (by omega) _ (by omega)
  · omega



end Go.Proofs.Ytplbegfebnnbaaa

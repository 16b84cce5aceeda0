/- Contracts of the program's Choose and of LeftCount, the program's and the reference's. -/
import Derived.Test.YtnapicpeccjkoaaCounts2
namespace Go.Proofs.Ytnapicpeccjkoaa
open Go.RowKit
set_option linter.unusedSimpArgs false
set_option linter.unusedVariables false

/-- n choose k, 0 beyond -/
def chz (n k : Nat) : Nat := if k ≤ n then ch n k else 0
theorem ch_sym : ∀ n, n < 31 → ∀ k, k ≤ n → ch n (n - k) = ch n k := by decide +kernel
theorem chz_bd {n k : Nat} (hn : n < 31) (hk : k < 31) : chz n k ≤ 5000000000 := by
  unfold chz; split
  · exact ch_bd1 n hn k (by omega)
  · omega
/-- the sum so far -/
def lsum (f : List Nat) (n : Nat) : Nat → Nat
  | 0 => 0
  | i + 1 => lsum f n i + nthN f (i + 1) * chz n i
theorem lsum_bd {f : List Nat} {n : Nat} (hf : ∀ x ∈ f, x ≤ 64) (hn : n < 31) : ∀ i, i < f.length → i < 31 → lsum f n i ≤ i * 320000000000 := by
  intro i
  induction i with
  | zero => intro _ _; unfold lsum; omega
  | succ i ih =>
    intro h1 h2
    have h3 := ih (by omega) (by omega)
    have h4 : nthN f (i + 1) ≤ 64 := hf _ (nthN_mem h1)
    have h5 := chz_bd (n := n) (k := i) hn (by omega)
    have h6 : nthN f (i + 1) * chz n i ≤ 64 * 5000000000 := Nat.mul_le_mul h4 h5
    unfold lsum
    omega

set_option maxHeartbeats 400000 in
theorem chooseAny_yes (n k : Nat) (w : World) (hn : n ≤ 30) (hk : k ≤ n) :
    Calls Try.prog 92 #[.int .i64 n, .int .i64 k] w fun e w' => e = .returned (.int .i64 (ch n k)) ∧ w = w' := by
  have hk0 : ¬ (k : Int) < 0 := by omega
  have hkn : ¬ (n : Int) < k := by omega
  go_enter Try.func92, Try.ntmps92
  go_wp2_with fail
  go_loop [5, 6] (fun r i => ∃ I R : Nat, I ≤ k ∧ i = .int .i64 I ∧ r = .int .i64 R ∧ Hid (R = ch n I)) (fun _ i => k - (intOf i).toNat)
  case atStart => exact ⟨0, 1, Nat.zero_le _, rfl, rfl, Lib.hid rfl⟩
  case round =>
    obtain ⟨I, R, hI, rfl, rfl, hR⟩ := hrel
    by_cases hlt : I < k
    · obtain ⟨Y, hY⟩ : ∃ Y : Nat, Y = R * (n - I) := ⟨_, rfl⟩
      have hYb : Y ≤ 5000000000 := by rw [hY, hR.out]; exact ch_bd n (by omega) I (by omega)
      have hw : IntKind.i64.wrap ((R : Int) * ((n : Int) - (I : Int))) = (Y : Int) := mul_i64 rfl (show (n : Int) - (I : Int) = ((n - I : Nat) : Int) by omega) hY.symm (by omega)
      have HY := Lib.hid (show ((Y : Int) / ((I : Int) + 1)) = ((ch n (I + 1) : Nat) : Int) by
        have e : ch n (I + 1) = Y / (I + 1) := by rw [hY, hR.out]; rfl
        rw [e, Int.natCast_ediv]; rfl)
      clear hY
      go_wp2
      go_round
      case rel => exact ⟨I + 1, ch n (I + 1), by omega, by go_num, by rw [HY.out, IntWalk.wrap64_in _ (by have := ch_bd1 n (by omega) (I + 1) (by omega); omega)], Lib.hid rfl⟩
      case measure => simp [intOf]; omega
    · obtain rfl : I = k := by omega
      go_wp2
      go_ret
      exact ⟨ret_int (by rw [hR.out]), rfl⟩
theorem iChoose_any (n k : Nat) (w : World) (hn : n ≤ 30) (hk : k ≤ 30) :
    Calls Try.prog 53 #[.int .i64 n, .int .i64 k] w fun e w' => e = .returned (.int .i64 (chz n k)) ∧ w = w' := by
  have h1 : ¬ (n : Int) < 0 := by omega
  have h2 : ¬ (60 : Int) < n := by omega
  have h3 : ¬ (k : Int) < 0 := by omega
  by_cases hkn : k ≤ n
  · have h4 : ¬ (n : Int) < k := by omega
    have he : chz n k = ch n k := by unfold chz; rw [if_pos hkn]
    rw [he]
    obtain ⟨m, hm⟩ : ∃ m, m = n - k := ⟨_, rfl⟩
    have hsub : (n : Int) - k = (m : Int) := by omega
    have hsym : ch n m = ch n k := by rw [hm]; exact ch_sym n (by omega) k hkn
    have hmn : m ≤ n := by omega
    have Hsym := Lib.hid hsym
    clear hm hsym he
    by_cases hbig : m < k
    · have h5 : (m : Int) < k := by omega
      go_enter Try.func53, Try.ntmps53
      go_wp2_with (go_at_call 92; (with_reducible refine (chooseAny_yes n m _ hn hmn).mono ?_); rintro e w' ⟨rfl, rfl⟩)
      go_ret
      exact ⟨ret_int (by rw [Hsym.out]), rfl⟩
    · have h5 : ¬ (m : Int) < k := by omega
      go_enter Try.func53, Try.ntmps53
      go_wp2_with (go_at_call 92; (with_reducible refine (chooseAny_yes n k _ hn hkn).mono ?_); rintro e w' ⟨rfl, rfl⟩)
      go_ret
      exact ⟨rfl, rfl⟩
  · have h4 : (n : Int) < k := by omega
    have he : chz n k = 0 := by unfold chz; rw [if_neg hkn]
    rw [he]
    clear he
    go_enter Try.func53, Try.ntmps53
    go_wp2_with fail
    go_ret
    exact ⟨rfl, rfl⟩
theorem sChoose_any (n k : Nat) (w : World) (hn : n ≤ 30) (hk : k ≤ 30) :
    Calls Try.prog 50 #[.int .i64 n, .int .i64 k] w fun e w' => e = .returned (.int .i64 (chz n k)) ∧ w = w' := by
  unfold chz
  by_cases hkn : k ≤ n
  · rw [if_pos hkn]; exact sChoose_yes n k w hn hkn
  · rw [if_neg hkn]; exact sChoose_no n k w (by omega)

/-- what LeftCount asks -/
def LcP (p : Int) (xs : List Int) (d : Int) : Prop := Anti p xs ∧ 0 ≤ d ∧ d ≤ 20
/-- what LeftCount counts -/
def leftN (f : List Nat) (d : Nat) : Nat := if d = 0 then (if 0 < f.length then 1 else 0) else lsum f (d - 1) (f.length - 1)

end Go.Proofs.Ytnapicpeccjkoaa

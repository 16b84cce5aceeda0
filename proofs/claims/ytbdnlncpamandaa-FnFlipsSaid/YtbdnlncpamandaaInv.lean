/- Contracts of the small functions over a prime field: remainders, inverses, the sign of a face in a border. -/
import Derived.Test.YtbdnlncpamandaaBase
import Derived.Test.YtbdnlncpamandaaChain1
import Derived.Test.YtbdnlncpamandaaSet
namespace Go.Proofs.Ytbdnlncpamandaa
set_option maxRecDepth 20000
open Go.RowKit
set_option linter.unusedSimpArgs false
set_option linter.unusedVariables false

theorem prm_cases {p : Nat} (hp : Prm p) : p = 2 ∨ p = 3 ∨ p = 5 := hp
theorem prm_bd {p : Nat} (hp : Prm p) : 2 ≤ p ∧ p ≤ 5 := by rcases hp with rfl | rfl | rfl <;> omega
/-- Go's remainder, turned to one that is not negative -/
theorem mod_twice {a : Int} {p : Nat} : (a.tmod p + p) % (p : Int) = a % (p : Int) := by
  rw [Int.add_emod_right]
  exact (Int.emod_eq_emod_iff_emod_sub_eq_zero.2 (Int.emod_eq_zero_of_dvd ⟨-(a.tdiv p), by have := Int.mul_tdiv_add_tmod a p; rw [Int.mul_neg]; omega⟩))
theorem tmod_bd (a : Int) {p : Nat} (hp : 2 ≤ p) : -(p : Int) < a.tmod p ∧ a.tmod p < p := ⟨Int.lt_tmod_of_pos a (by omega), Int.tmod_lt_of_pos a (by omega)⟩

theorem l13Mod_any (a : Int) (p : Nat) (w : World) (hp : 2 ≤ p ∧ p ≤ 5) (ha : -1000000 ≤ a ∧ a ≤ 1000000) :
    Calls Try.prog 145 #[.int .i64 a, .int .i64 p] w fun e w' => e = .returned (.int .i64 (a % (p : Int))) ∧ w = w' := by
  have hm := mod_twice (a := a) (p := p)
  obtain ⟨h2, h1⟩ := tmod_bd a hp.1
  have hp0 : ((p : Int) == 0) = false := by simp; omega
  have hpp : (p : Int) ≠ 0 := by omega
  have HM := Lib.hid hm; clear hm
  go_enter Try.func145, Try.ntmps145
  go_wp2
  go_ret
  exact ⟨ret_int HM.out, rfl⟩
theorem invM_first0 : ∀ p : Nat, p ∈ [2, 3, 5] → ∀ a : Nat, a < p → ∀ b : Nat, b < p → (1 ≤ b ∧ ((a : Int) * b) % p = 1 ∧ (∀ c : Nat, c < b → ¬ (1 ≤ c ∧ ((a : Int) * c) % p = 1))) → invM p a = b := by decide +kernel
theorem invM_none0 : ∀ p : Nat, p ∈ [2, 3, 5] → ∀ a : Nat, a < p → (∀ c : Nat, c < p → ¬ (1 ≤ c ∧ ((a : Int) * c) % p = 1)) → invM p a = 0 := by decide +kernel
theorem invM_first {p : Nat} (hp : Prm p) (a : Nat) (ha : a < p) (b : Nat) (hb : b < p) (h1 : 1 ≤ b) (h : ((a : Int) * b) % p = 1) (hc : ∀ c : Nat, c < b → 1 ≤ c → ((a : Int) * c) % p ≠ 1) : invM p a = b :=
  invM_first0 p (by rcases hp with rfl | rfl | rfl <;> simp) a ha b hb ⟨h1, h, fun c h1 h2 => hc c h1 h2.1 h2.2⟩
theorem invM_none {p : Nat} (hp : Prm p) (a : Nat) (ha : a < p) (hc : ∀ c : Nat, c < p → 1 ≤ c → ((a : Int) * c) % p ≠ 1) : invM p a = 0 :=
  invM_none0 p (by rcases hp with rfl | rfl | rfl <;> simp) a ha fun c h1 h2 => hc c h1 h2.1 h2.2
theorem specPrime_yes (p : Nat) (w : World) (hp : Prm p) : Calls Try.prog 99 #[.int .i64 p] w fun e w' => e = .returned (.bool true) ∧ w = w' := by
  rcases hp with rfl | rfl | rfl
  all_goals (go_enter Try.func99, Try.ntmps99; go_wp2; go_ret; exact ⟨rfl, rfl⟩)
theorem sInv_any (a : Nat) (p : Nat) (w : World) (hp : Prm p) (ha : a < p) :
    Calls Try.prog 151 #[.int .i64 a, .int .i64 p] w fun e w' => e = .returned (.int .i64 (invM p a)) ∧ w = w' := by
  obtain ⟨hp2, hp5⟩ := prm_bd hp
  have HP := Lib.hid hp; clear hp
  have ham : ((a : Int) % (p : Int)) = a := Int.emod_eq_of_lt (by omega) (by omega)
  have Ham := Lib.hid ham; clear ham
  go_enter Try.func151, Try.ntmps151
  go_wp2_with (go_at_call 99; (with_reducible refine (specPrime_yes p _ HP.out).mono ?_); rintro e w' ⟨rfl, rfl⟩)
  go_loop [5] (fun i => ∃ b : Nat, 1 ≤ b ∧ b ≤ p ∧ i = .int .i64 b ∧ Hid (∀ c : Nat, c < b → 1 ≤ c → ((a : Int) * c) % (p : Int) ≠ 1)) (fun i => p - (intOf i).toNat)
  case atStart => exact ⟨1, by omega, by omega, rfl, Lib.hid fun c h1 h2 => by omega⟩
  case round =>
    obtain ⟨b, hb1, hbp, rfl, H⟩ := hrel
    by_cases hlt : b < p
    · have hmul : (a : Int) * b ≤ 5 * 5 := Int.mul_le_mul (by omega) (by omega) (by omega) (by omega)
      have hmul0 : 0 ≤ (a : Int) * b := Int.mul_nonneg (by omega) (by omega)
      obtain ⟨q, hq⟩ : ∃ q : Nat, (a : Int) * b = q := Int.eq_ofNat_of_zero_le hmul0
      have hq25 : q ≤ 25 := by omega
      have Hq := Lib.hid hq
      have hpp : (p : Int) ≠ 0 := by omega
      have hbpi : (b : Int) < p := by omega
      have hw : wrap64 ((a : Int) % (p : Int) * b) = q := by rw [Ham.out, hq]; unfold wrap64; omega
      have htm : (q : Int).tmod p = (q : Int) % p := Int.tmod_eq_emod_of_nonneg (by omega)
      obtain ⟨z, hz⟩ : ∃ z, ((wrap64 ((a : Int) % (p : Int) * b)).tmod p == 1) = z := ⟨_, rfl⟩
      have hz2 := hz
      rw [hw, htm, ← hq] at hz2
      have Hz := Lib.hid hz2
      clear hmul hmul0 hz2 hw htm hq
      cases z
      · go_wp2_with (go_at_call 145; (with_reducible refine (l13Mod_any a p _ ⟨hp2, hp5⟩ (by omega)).mono ?_); rintro e w' ⟨rfl, rfl⟩)
        go_round
        case rel => exact ⟨b + 1, by omega, by omega, by go_num, Lib.hid fun c h1 h2 => by
          by_cases e : c = b
          · rw [e]; have := Hz.out; simpa using this
          · exact H.out c (by omega) h2⟩
        case measure => simp [intOf]; omega
      · go_wp2_with (go_at_call 145; (with_reducible refine (l13Mod_any a p _ ⟨hp2, hp5⟩ (by omega)).mono ?_); rintro e w' ⟨rfl, rfl⟩)
        go_ret
        exact ⟨ret_int (invM_first HP.out a ha b hlt hb1 (by have := Hz.out; simpa using this) H.out).symm, rfl⟩
    · obtain rfl : b = p := by omega
      have hbp2 : ¬ ((b : Int) < b) := by omega
      go_wp2
      go_ret
      exact ⟨ret_int (invM_none HP.out a ha H.out).symm, rfl⟩
end Go.Proofs.Ytbdnlncpamandaa

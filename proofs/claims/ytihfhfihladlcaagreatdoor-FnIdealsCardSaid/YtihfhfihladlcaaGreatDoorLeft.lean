/- Texts of this claim, one behind the other: what each says stands at its head. -/
import Derived.Deep.RegionHeld3
import Derived.Deep.DeepCutAuto
import Derived.Test.YtihfhfihladlcaaGreatDoorCore
import Derived.Test.YtihfhfihladlcaaGreatDoorCounts2
import Derived.Test.YtihfhfihladlcaaGreatDoorSet3
/- Contracts of the program's Choose and of LeftCount, the program's and the reference's. -/
namespace Go.Proofs.YtihfhfihladlcaaGreatDoor
set_option maxRecDepth 20000
open Go.RowKit
set_option linter.unusedSimpArgs false
set_option linter.unusedVariables false

/-- n choose k, 0 beyond -/
def chz (n k : Nat) : Nat := if k ≤ n then ch n k else 0
theorem ch_sym : ∀ n, n < 31 → ∀ k, k ≤ n → ch n (n - k) = ch n k := by decide +kernel
theorem chz_bd {n k : Nat} (hn : n < 31) (hk : k < 31) : chz n k ≤ 5000000000 := by
  unfold chz; split
  · exact ch_bd1 n hn k (by omega)
  · omega
/-- the sum so far -/
def lsum (f : List Nat) (n : Nat) : Nat → Nat
  | 0 => 0
  | i + 1 => lsum f n i + nthN f (i + 1) * chz n i
theorem lsum_bd {f : List Nat} {n : Nat} (hf : ∀ x ∈ f, x ≤ 64) (hn : n < 31) : ∀ i, i < f.length → i < 31 → lsum f n i ≤ i * 320000000000 := by
  intro i
  induction i with
  | zero => intro _ _; unfold lsum; omega
  | succ i ih =>
    intro h1 h2
    have h3 := ih (by omega) (by omega)
    have h4 : nthN f (i + 1) ≤ 64 := hf _ (nthN_mem h1)
    have h5 := chz_bd (n := n) (k := i) hn (by omega)
    have h6 : nthN f (i + 1) * chz n i ≤ 64 * 5000000000 := Nat.mul_le_mul h4 h5
    unfold lsum
    omega

theorem sChoose_any (n k : Nat) (w : World) (hn : n ≤ 30) (hk : k ≤ 30) :
    Calls Tryz.prog 208 #[.int .i64 n, .int .i64 k] w fun e w' => e = .returned (.int .i64 (chz n k)) ∧ w = w' := by
  unfold chz
  by_cases hkn : k ≤ n
  · rw [if_pos hkn]; exact sChoose_yes n k w hn hkn
  · rw [if_neg hkn]; exact sChoose_no n k w (by omega)

/-- what LeftCount asks -/
def LcP (p : Int) (xs : List Int) (d : Int) : Prop := Anti p xs ∧ 0 ≤ d ∧ d ≤ 20
theorem l1Bit_any (b : Bool) (w : World) : Calls Tryz.prog 151 #[.bool b] w fun e w' => e = .returned (.int .i64 (if b then 1 else 0)) ∧ w = w' := by
  cases b
  · go_enter Tryz.func151, Tryz.ntmps151
    go_wp2_with fail
    go_ret
    exact ⟨rfl, rfl⟩
  · go_enter Tryz.func151, Tryz.ntmps151
    go_wp2_with fail
    go_ret
    exact ⟨rfl, rfl⟩
/-- what LeftCount counts -/
def leftN (f : List Nat) (d : Nat) : Nat := if d = 0 then (if 0 < f.length then 1 else 0) else lsum f (d - 1) (f.length - 1)

end Go.Proofs.YtihfhfihladlcaaGreatDoor

/- Contracts of the small functions of the laws: big, sameInts, sameLists, at22; and of CountMonomials and SizeOf of the reference. -/
namespace Go.Proofs.YtihfhfihladlcaaGreatDoor
set_option maxRecDepth 20000
open Go.RowKit
set_option linter.unusedSimpArgs false
set_option linter.unusedVariables false

theorem big_yes (a : Option Addr) (n c : Nat) (w : World) (h : 1048576 < n) (hm : n ≤ 9223372036854775807) : Calls Tryz.prog 7 #[.slice a n c] w fun e w' => e = .returned (.bool true) ∧ w = w' := by
  have hi : (1048576 : Int) < n := by omega
  go_enter Tryz.func7, Tryz.ntmps7
  go_wp2_with fail
  go_ret
  exact ⟨ret_bool (by first | (simp; done) | (simp; omega)), rfl⟩
theorem big_no (a : Option Addr) (n c : Nat) (w : World) (h : n ≤ 1048576) : Calls Tryz.prog 7 #[.slice a n c] w fun e w' => e = .returned (.bool false) ∧ w = w' := by
  have hi : ¬ ((1048576 : Int) < n) := by omega
  go_enter Tryz.func7, Tryz.ntmps7
  go_wp2_with fail
  go_ret
  exact ⟨ret_bool (by first | (simp; done) | (simp; omega)), rfl⟩
set_option maxHeartbeats 400000 in
theorem sameInts_yes (a b : Option Addr) (n m c d : Nat) (xs ys : List Int) (w : World) (h : IntsAt w a n xs) (h' : IntsAt w b m ys) (he : xs = ys) :
    Calls Tryz.prog 26 #[.slice a n c, .slice b m d] w fun e w' => e = .returned (.bool true) ∧ Below w.heap.size w w' := by
  subst he
  obtain rfl : n = m := by rw [← h.len, ← h'.len]
  have hn := h.small
  have Hh := Lib.hid h; clear h
  have Hh' := Lib.hid h'; clear h'
  go_enter Tryz.func26, Tryz.ntmps26
  go_wp2
  go_loopw [5] (fun i wr => ∃ k : Nat, k ≤ n ∧ i = .int .i64 k ∧ Below w.heap.size w wr) (fun i _ => n - (intOf i).toNat)
  case atStart => exact ⟨0, Nat.zero_le _, rfl, Below.refl _ _⟩
  case round =>
    obtain ⟨k, hk, rfl, hb⟩ := hrel
    by_cases hlt : k < n
    · obtain ⟨b1, o1, rfl, hc1⟩ := (Hh.out.keep hb).cells (by omega)
      obtain ⟨b2, o2, rfl, hc2⟩ := (Hh'.out.keep hb).cells (by omega)
      have h1 := hc1 k hlt
      have h2 := hc2 k hlt
      have hk0 : (0 : Int) ≤ k := by omega
      have hkn : (k : Int) < n := by omega
      clear hc1 hc2
      go_wp2_with fail
      go_quiet (fail)
      go_wp2
      go_roundw
      case rel => exact ⟨k + 1, by omega, by go_num, below_drewN hb _⟩
      case measure => simp [intOf]; omega
    · obtain rfl : k = n := by omega
      go_wp2
      go_ret
      exact ⟨rfl, hb⟩
end Go.Proofs.YtihfhfihladlcaaGreatDoor

/- Small contracts of the law of ideals: sameIdeal, ComplementOf, OrderSets. -/
namespace Go.Proofs.YtihfhfihladlcaaGreatDoor
set_option maxRecDepth 20000
open Go.RowKit
set_option linter.unusedSimpArgs false
set_option linter.unusedVariables false

theorem sameIdeal_yes (p : Int) (a b : Option Addr) (n m c d : Nat) (xs : List Int) (w : World) (h : IntsAt w a n xs) (h' : IntsAt w b m xs) :
    Calls Tryz.prog 24 #[.agg #[.int .i64 p, .slice a n c], .agg #[.int .i64 p, .slice b m d]] w fun e w' => e = .returned (.bool true) ∧ Below w.heap.size w w' := by
  obtain ⟨W0, hW0⟩ : ∃ W0, W0 = (w.alloc (.cells #[.int .i64 p, .slice a n c] 26)).alloc (.cells #[.int .i64 p, .slice b m d] 26) := ⟨_, rfl⟩
  have Hx : Hid (IntsAt W0 a n xs) := Lib.hid (by rw [hW0]; exact h.keep (by repeat (first | exact Below.refl _ _ | assumption | refine Below.setCell ?_ (by first | omega | (simp; done) | (simp; omega)) _ | refine Below.alloc ?_ (by first | omega | (simp; done) | (simp; omega)) _ | apply Below.drew)))
  have Hy : Hid (IntsAt W0 b m xs) := Lib.hid (by rw [hW0]; exact h'.keep (by repeat (first | exact Below.refl _ _ | assumption | refine Below.setCell ?_ (by first | omega | (simp; done) | (simp; omega)) _ | refine Below.alloc ?_ (by first | omega | (simp; done) | (simp; omega)) _ | apply Below.drew)))
  have HB : Hid (Below w.heap.size w W0) := Lib.hid (by rw [hW0]; exact (by repeat (first | exact Below.refl _ _ | assumption | refine Below.setCell ?_ (by first | omega | (simp; done) | (simp; omega)) _ | refine Below.alloc ?_ (by first | omega | (simp; done) | (simp; omega)) _ | apply Below.drew)))
  have HW0 := Lib.hid hW0
  clear h h' hW0
  have hpp : (p == p) = true := by simp
  go_enter Tryz.func24, Tryz.ntmps24
  go_wp2_with fail
  rw [← HW0.out]
  refine (sameInts_yes a b n m c d xs xs W0 Hx.out Hy.out rfl).mono ?_
  rintro e w1 ⟨rfl, hb⟩
  have HB1 := Lib.hid (HB.out.trans (hb.mono HB.out.size))
  clear hb
  go_wp2_with fail
  go_ret
  exact ⟨rfl, HB1.out⟩
theorem samePoset_yes (p : Int) (a b : Option Addr) (n m c d : Nat) (xs : List Int) (w : World) (h : IntsAt w a n xs) (h' : IntsAt w b m xs) :
    Calls Tryz.prog 53 #[.agg #[.int .i64 p, .slice a n c], .agg #[.int .i64 p, .slice b m d]] w fun e w' => e = .returned (.bool true) ∧ Below w.heap.size w w' := by
  obtain ⟨W0, hW0⟩ : ∃ W0, W0 = (w.alloc (.cells #[.int .i64 p, .slice a n c] 59)).alloc (.cells #[.int .i64 p, .slice b m d] 59) := ⟨_, rfl⟩
  have Hx : Hid (IntsAt W0 a n xs) := Lib.hid (by rw [hW0]; exact h.keep (by repeat (first | exact Below.refl _ _ | assumption | refine Below.setCell ?_ (by first | omega | (simp; done) | (simp; omega)) _ | refine Below.alloc ?_ (by first | omega | (simp; done) | (simp; omega)) _ | apply Below.drew)))
  have Hy : Hid (IntsAt W0 b m xs) := Lib.hid (by rw [hW0]; exact h'.keep (by repeat (first | exact Below.refl _ _ | assumption | refine Below.setCell ?_ (by first | omega | (simp; done) | (simp; omega)) _ | refine Below.alloc ?_ (by first | omega | (simp; done) | (simp; omega)) _ | apply Below.drew)))
  have HB : Hid (Below w.heap.size w W0) := Lib.hid (by rw [hW0]; exact (by repeat (first | exact Below.refl _ _ | assumption | refine Below.setCell ?_ (by first | omega | (simp; done) | (simp; omega)) _ | refine Below.alloc ?_ (by first | omega | (simp; done) | (simp; omega)) _ | apply Below.drew)))
  have HW0 := Lib.hid hW0
  clear h h' hW0
  have hpp : (p == p) = true := by simp
  go_enter Tryz.func53, Tryz.ntmps53
  go_wp2_with fail
  rw [← HW0.out]
  refine (sameInts_yes a b n m c d xs xs W0 Hx.out Hy.out rfl).mono ?_
  rintro e w1 ⟨rfl, hb⟩
  have HB1 := Lib.hid (HB.out.trans (hb.mono HB.out.size))
  clear hb
  go_wp2_with fail
  go_ret
  exact ⟨rfl, HB1.out⟩
theorem compl_any (m t : Nat) (w : World) (h6 : m ≤ 6) (ht : t < 2 ^ m) :
    Calls Tryz.prog 33 #[.int .i64 m, .int .i64 t] w fun e w' => e = .returned (.int .i64 ((2 ^ m - 1 - t : Nat) : Int)) ∧ w = w' := by
  have hS : isSetB (m : Int) (t : Int) = true := isSet_iff.2 ⟨h6, t, rfl, ht⟩
  have HI : Hid (∀ W, Calls Tryz.prog 36 #[.int .i64 m, .int .i64 t] W fun e w' => e = .returned (.bool true) ∧ W = w') := Lib.hid fun W => by rw [← hS]; exact sIsSet_any _ _ W
  have hw1 := (pow_wrap (m : Int) (by omega) (by omega)).1
  simp only [Int.toNat_natCast] at hw1
  obtain ⟨N, hN⟩ : ∃ N : Nat, N = 2 ^ m := ⟨_, rfl⟩
  have hNi : ((2 : Int) ^ m) = N := by rw [hN]; simp
  have hN64 : N ≤ 64 := by have := pow_le64 h6; omega
  rw [← hN] at ht ⊢
  rw [hNi] at hw1
  clear hS hN
  go_enter Tryz.func33, Tryz.ntmps33
  go_wp2_with (go_at_call 36; (with_reducible refine (HI.out _).mono ?_); rintro e w' ⟨rfl, rfl⟩)
  go_ret
  exact ⟨ret_int (by omega), rfl⟩
theorem fine_any (a : Option Addr) (n c : Nat) (l : List Nat) (w : World) (h : IntsAt w a n (up l)) (hl : ∀ s ∈ l, s < 64) :
    Calls Tryz.prog 108 #[.slice a n c] w fun e w' => e = .returned (.bool true) ∧ w = w' := by
  have hn := h.small
  have hlen := Lib.hid h.len
  have Hh := Lib.hid h; have Hl := Lib.hid hl
  clear h hl
  go_enter Tryz.func108, Tryz.ntmps108
  go_wp2_with fail
  go_loop [3] (fun i => ∃ k : Nat, k ≤ n ∧ i = .int .i64 k) (fun i => n - (intOf i).toNat)
  case atStart => exact ⟨0, by omega, rfl⟩
  case round =>
    obtain ⟨k, hk, rfl⟩ := hrel
    by_cases hlt : k < n
    · obtain ⟨b, o, rfl, hc⟩ := Hh.out.cells (by omega)
      have hx := hc k hlt
      rw [nth_up] at hx
      have hll : k < l.length := by have := hlen.out; rw [up_len] at this; omega
      have hx64 : nthN l k < 64 := Hl.out _ (nthN_mem hll)
      obtain ⟨x, hxe⟩ : ∃ x, x = nthN l k := ⟨_, rfl⟩
      rw [← hxe] at hx hx64
      have HI : Hid (∀ W, Calls Tryz.prog 110 #[.int .i64 x, .int .i64 0, .int .i64 63] W fun e w' => e = .returned (.bool true) ∧ W = w') := Lib.hid fun W => by
        have := l1In_any x 0 63 W
        rwa [show inB (x : Int) 0 63 = true by unfold inB; simp; omega] at this
      have hk0 : (0 : Int) ≤ k := by omega
      have hkn : (k : Int) < n := by omega
      clear hc hxe
      go_wp2_with (go_at_call 110; (with_reducible refine (HI.out _).mono ?_); rintro e w' ⟨rfl, rfl⟩)
      go_round
      case rel => exact ⟨k + 1, by omega, by go_num⟩
      case measure => simp [intOf]; omega
    · obtain rfl : k = n := by omega
      go_wp2_with fail
      go_ret
      exact ⟨rfl, rfl⟩
theorem orderSets_any (a : Option Addr) (n c : Nat) (l : List Nat) (w : World) (h : IntsAt w a n (up l)) (hl : ∀ s ∈ l, s < 64) :
    Calls Tryz.prog 34 #[.slice a n c] w (RetInts w (up (ord l.contains))) := by
  have HF : Hid (∀ W, IntsAt W a n (up l) → Calls Tryz.prog 108 #[.slice a n c] W fun e w' => e = .returned (.bool true) ∧ W = w') := Lib.hid fun W hW => fine_any a n c l W hW hl
  have HO : Hid (∀ W, IntsAt W a n (up l) → Calls Tryz.prog 109 #[.slice a n c] W (RetInts W (up (ord l.contains)))) := Lib.hid fun W hW => l2Order_any a n c l W hW hl
  have Hx := Lib.hid h
  clear h hl
  go_enter Tryz.func34, Tryz.ntmps34
  go_wp2_with (go_at_call 108; (with_reducible refine (HF.out _ Hx.out).mono ?_); rintro e w' ⟨rfl, rfl⟩)
  refine (HO.out _ Hx.out).mono ?_
  rintro e w1 ⟨ad, k, d, rfl, own, hb⟩
  have HW := Lib.hid own; have HB := Lib.hid hb
  clear own hb
  go_wp2_with fail
  go_ret
  exact ⟨ad, k, d, rfl, HW.out, HB.out⟩
end Go.Proofs.YtihfhfihladlcaaGreatDoor

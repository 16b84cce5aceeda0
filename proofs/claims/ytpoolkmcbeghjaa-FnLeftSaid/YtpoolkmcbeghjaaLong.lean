/- Contracts of DegreeFromH and LongNumbers, the program's and the reference's. -/
import Derived.Deep.RegionWith
import Derived.Test.YtpoolkmcbeghjaaHNum2
namespace Go.Proofs.Ytpoolkmcbeghjaa
set_option maxRecDepth 20000
open Go.RowKit
set_option linter.unusedSimpArgs false
set_option linter.unusedVariables false

/-- the sum of the first numbers -/
def isum (xs : List Int) : Nat → Int
  | 0 => 0
  | k + 1 => isum xs k + nth xs k
theorem isum_bd {xs : List Int} (h : ∀ x ∈ xs, -2240000000000 ≤ x ∧ x ≤ 2240000000000) : ∀ k : Nat, k ≤ xs.length → -(2240000000000 * (k : Int)) ≤ isum xs k ∧ isum xs k ≤ 2240000000000 * (k : Int) := by
  intro k
  induction k with
  | zero => intro _; simp [isum]
  | succ k ih =>
    intro hk
    have h1 := ih (by omega)
    have h2 := h _ (nth_mem (xs := xs) (k := k) (by omega))
    unfold isum
    omega

set_option maxRecDepth 100000 in
theorem iDeg_any (p : Int) (a : Option Addr) (n c : Nat) (xs : List Int) (f : List Nat) (w : World) (h : IntsAt w a n xs) (hcap : n ≤ c) (hC : Cnts p xs f) :
    Calls Try.prog 24 #[.agg #[.int .i64 p, .slice a n c]] w fun e w' => e = .returned (.int .i64 (isum (hOf f) f.length)) ∧ Below w.heap.size w w' := by
  have hx : IntsAt (w.alloc (.cells #[.int .i64 p, .slice a n c] 33)) a n xs := h.keep (by repeat (first | exact Below.refl _ _ | assumption | refine Below.setCell ?_ (by first | omega | (simp; done) | (simp; omega)) _ | refine Below.alloc ?_ (by first | omega | (simp; done) | (simp; omega)) _ | apply Below.drew))
  have Hx := Lib.hid hx; have Hcap := Lib.hid hcap; have HC := Lib.hid hC
  clear hx h hcap hC
  obtain ⟨V, hV⟩ : ∃ V, V = isum (hOf f) f.length := ⟨_, rfl⟩
  rw [← hV]
  have HV := Lib.hid hV
  clear hV
  go_enter Try.func24, Try.ntmps24
  go_wp2_with fail
  refine (iH_any p a n c xs f _ Hx.out Hcap.out HC.out).mono ?_
  rintro e w1 ⟨ad, m, d, rfl, hown, hb⟩
  have HB : Hid (Below w.heap.size w w1) := Lib.hid (Below.trans (by repeat (first | exact Below.refl _ _ | assumption | refine Below.setCell ?_ (by first | omega | (simp; done) | (simp; omega)) _ | refine Below.alloc ?_ (by first | omega | (simp; done) | (simp; omega)) _ | apply Below.drew)) (hb.mono (by simp <;> omega)))
  have HO := Lib.hid hown
  have hm : f.length = m := by have := hown.len; rwa [hOf_len] at this
  have hm7 : m ≤ 7 := by rw [← hm]; exact HC.out.len
  have Hm := Lib.hid hm
  clear hb hown hm
  go_wp2_with fail
  go_loopw [3, 5, 9] (fun s _ i wr => ∃ (I : Nat) (S : Int), I ≤ m ∧ i = .int .i64 I ∧ s = .int .i64 S ∧ Hid (S = isum (hOf f) I) ∧ Below w1.heap.size w1 wr) (fun _ _ i _ => m - (intOf i).toNat)
  case atStart => exact ⟨0, 0, Nat.zero_le _, rfl, rfl, Lib.hid rfl, Below.refl _ _⟩
  case round =>
    obtain ⟨I, S, hI, rfl, rfl, hS, hbr⟩ := hrel
    have HBr := Lib.hid hbr; have HOr := Lib.hid (HO.out.keep hbr)
    clear hbr
    by_cases hlt : I < m
    · have hlt' : (I : Int) < m := by omega
      have hI0 : (0 : Int) ≤ I := by omega
      obtain ⟨b1, o1, rfl, hcc⟩ := HOr.out.reads.cells (by omega)
      have hck := hcc I (by omega)
      have hb1 := hOf_bd HC.out.le HC.out.len _ (nth_mem (xs := hOf f) (k := I) (by rw [hOf_len, Hm.out]; exact hlt))
      have hb2 := isum_bd (hOf_bd HC.out.le HC.out.len) I (by rw [hOf_len, Hm.out]; omega)
      rw [← hS.out] at hb2
      have HS1 := Lib.hid (show isum (hOf f) (I + 1) = S + nth (hOf f) I by rw [hS.out]; rfl)
      obtain ⟨x, hx⟩ : ∃ x, x = nth (hOf f) I := ⟨_, rfl⟩
      rw [← hx] at hck hb1 HS1
      have hb3 : -20000000000000 ≤ S ∧ S ≤ 20000000000000 := by omega
      clear hcc hx hb2
      obtain ⟨hb1a, hb1b⟩ := hb1
      obtain ⟨hb3a, hb3b⟩ := hb3
      go_wp2_with fail
      go_roundw
      case rel => exact ⟨I + 1, _, by omega, by go_num, rfl, Lib.hid (by rw [HS1.out]), HBr.out⟩
      case measure => simp [intOf]; omega
    · obtain rfl : I = m := by omega
      have hii : ¬ ((I : Int) < I) := by omega
      have Hend : Hid (V = S) := Lib.hid (by rw [HV.out, hS.out, Hm.out])
      go_wp2_with fail
      go_ret
      exact ⟨ret_int (by rw [Hend.out]), HB.out.trans (HBr.out.mono HB.out.size)⟩
set_option maxRecDepth 100000 in
theorem sDeg_any (p : Int) (a : Option Addr) (n c : Nat) (xs : List Int) (f : List Nat) (w : World) (h : IntsAt w a n xs) (hC : Cnts p xs f) :
    Calls Try.prog 25 #[.agg #[.int .i64 p, .slice a n c]] w fun e w' => e = .returned (.int .i64 (isum (hOf f) f.length)) ∧ Below w.heap.size w w' := by
  have hx : IntsAt (w.alloc (.cells #[.int .i64 p, .slice a n c] 33)) a n xs := h.keep (by repeat (first | exact Below.refl _ _ | assumption | refine Below.setCell ?_ (by first | omega | (simp; done) | (simp; omega)) _ | refine Below.alloc ?_ (by first | omega | (simp; done) | (simp; omega)) _ | apply Below.drew))
  have Hx := Lib.hid hx; have HC := Lib.hid hC
  clear hx h hC
  obtain ⟨V, hV⟩ : ∃ V, V = isum (hOf f) f.length := ⟨_, rfl⟩
  rw [← hV]
  have HV := Lib.hid hV
  clear hV
  go_enter Try.func25, Try.ntmps25
  go_wp2_with fail
  refine (sH_any p a n c xs f _ Hx.out HC.out).mono ?_
  rintro e w1 ⟨ad, m, d, rfl, hown, hb⟩
  have HB : Hid (Below w.heap.size w w1) := Lib.hid (Below.trans (by repeat (first | exact Below.refl _ _ | assumption | refine Below.setCell ?_ (by first | omega | (simp; done) | (simp; omega)) _ | refine Below.alloc ?_ (by first | omega | (simp; done) | (simp; omega)) _ | apply Below.drew)) (hb.mono (by simp <;> omega)))
  have HO := Lib.hid hown
  have hm : f.length = m := by have := hown.len; rwa [hOf_len] at this
  have hm7 : m ≤ 7 := by rw [← hm]; exact HC.out.len
  have Hm := Lib.hid hm
  clear hb hown hm
  go_wp2_with fail
  go_loopw [3, 5] (fun s i wr => ∃ (I : Nat) (S : Int), I ≤ m ∧ i = .int .i64 I ∧ s = .int .i64 S ∧ Hid (S = isum (hOf f) I) ∧ Below w1.heap.size w1 wr) (fun _ i _ => m - (intOf i).toNat)
  case atStart => exact ⟨0, 0, Nat.zero_le _, rfl, rfl, Lib.hid rfl, Below.refl _ _⟩
  case round =>
    obtain ⟨I, S, hI, rfl, rfl, hS, hbr⟩ := hrel
    have HBr := Lib.hid hbr; have HOr := Lib.hid (HO.out.keep hbr)
    clear hbr
    by_cases hlt : I < m
    · have hlt' : (I : Int) < m := by omega
      have hI0 : (0 : Int) ≤ I := by omega
      obtain ⟨b1, o1, rfl, hcc⟩ := HOr.out.reads.cells (by omega)
      have hck := hcc I (by omega)
      have hb1 := hOf_bd HC.out.le HC.out.len _ (nth_mem (xs := hOf f) (k := I) (by rw [hOf_len, Hm.out]; exact hlt))
      have hb2 := isum_bd (hOf_bd HC.out.le HC.out.len) I (by rw [hOf_len, Hm.out]; omega)
      rw [← hS.out] at hb2
      have HS1 := Lib.hid (show isum (hOf f) (I + 1) = S + nth (hOf f) I by rw [hS.out]; rfl)
      obtain ⟨x, hx⟩ : ∃ x, x = nth (hOf f) I := ⟨_, rfl⟩
      rw [← hx] at hck hb1 HS1
      have hb3 : -20000000000000 ≤ S ∧ S ≤ 20000000000000 := by omega
      clear hcc hx hb2
      obtain ⟨hb1a, hb1b⟩ := hb1
      obtain ⟨hb3a, hb3b⟩ := hb3
      go_wp2_with fail
      go_roundw
      case rel => exact ⟨I + 1, _, by omega, by go_num, rfl, Lib.hid (by rw [HS1.out]), HBr.out⟩
      case measure => simp [intOf]; omega
    · obtain rfl : I = m := by omega
      have hii : ¬ ((I : Int) < I) := by omega
      have Hend : Hid (V = S) := Lib.hid (by rw [HV.out, hS.out, Hm.out])
      go_wp2_with fail
      go_ret
      exact ⟨ret_int (by rw [Hend.out]), HB.out.trans (HBr.out.mono HB.out.size)⟩
end Go.Proofs.Ytpoolkmcbeghjaa

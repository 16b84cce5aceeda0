/- Contracts of EulerOf of the reference, and of the laws' signed and sameComplex. -/
import Derived.Test.YtihfhfihladlcaaGreatDoorFaces2
import Derived.Test.YtihfhfihladlcaaGreatDoorLeft
import Derived.Test.YtihfhfihladlcaaGreatDoorTopo2
namespace Go.Proofs.YtihfhfihladlcaaGreatDoor
set_option maxRecDepth 20000
open Go.RowKit
set_option linter.unusedSimpArgs false
set_option linter.unusedVariables false

theorem cg_val (k : Nat) : 2 * ((k : Int) % 2) - 1 = cg k := rfl
set_option maxHeartbeats 1000000 in
theorem sEuler_list (p : Int) (a : Option Addr) (n c : Nat) (xs : List Int) (D : List Nat) (w : World) (h : IntsAt w a n xs) (hD : ∀ t ∈ D, t < 64) (hl : D.length ≤ 64)
    (hF : ∀ W, IntsAt W a n xs → Calls Tryz.prog 135 #[.agg #[.int .i64 p, .slice a n c]] W (RetInts W (up D))) :
    Calls Tryz.prog 63 #[.agg #[.int .i64 p, .slice a n c]] w fun e w' => e = .returned (.int .i64 (eulTo D D.length)) ∧ Below w.heap.size w w' := by
  have hx : IntsAt (w.alloc (.cells #[.int .i64 p, .slice a n c] 32)) a n xs := h.keep (by repeat (first | exact Below.refl _ _ | assumption | refine Below.setCell ?_ (by first | omega | (simp; done) | (simp; omega)) _ | refine Below.alloc ?_ (by first | omega | (simp; done) | (simp; omega)) _ | apply Below.drew))
  have Hx := Lib.hid hx; have HF := Lib.hid hF; have HD := Lib.hid hD
  clear hx h hF hD
  go_enter Tryz.func63, Tryz.ntmps63
  go_wp2_with fail
  refine (HF.out _ Hx.out).mono ?_
  rintro e w1 ⟨ad, m, d, rfl, hown, hb⟩
  have HB : Hid (Below w.heap.size w w1) := Lib.hid (Below.trans (by repeat (first | exact Below.refl _ _ | assumption | refine Below.setCell ?_ (by first | omega | (simp; done) | (simp; omega)) _ | refine Below.alloc ?_ (by first | omega | (simp; done) | (simp; omega)) _ | apply Below.drew)) (hb.mono (by simp)))
  have HO := Lib.hid hown.reads
  have hm : D.length = m := by have := hown.len; rwa [up_len] at this
  subst hm
  clear hb hown
  go_wp2_with fail
  go_loop [3, 5] (fun s i => ∃ I : Nat, I ≤ D.length ∧ i = .int .i64 I ∧ s = .int .i64 (eulTo D I)) (fun _ i => D.length - (intOf i).toNat)
  case atStart => exact ⟨0, Nat.zero_le _, rfl, rfl⟩
  case round =>
    obtain ⟨I, hI, rfl, rfl⟩ := hrel
    by_cases hlt : I < D.length
    · obtain ⟨b1, o1, rfl, hc⟩ := HO.out.cells (by omega)
      have hck := hc I hlt
      rw [nth_up] at hck
      have ht64 := HD.out _ (nthN_mem2 hlt)
      have hnx : eulTo D (I + 1) = eulTo D I + cg (sz (nthN D I)) := rfl
      have hbd := eulTo_bd D I
      obtain ⟨t, ht⟩ : ∃ t, t = nthN D I := ⟨_, rfl⟩
      rw [← ht] at hck ht64 hnx
      obtain ⟨v, hv⟩ : ∃ v, v = eulTo D I := ⟨_, rfl⟩
      rw [← hv] at hbd hnx ⊢
      have hsz := sz_le t
      have HZ : Hid (∀ W, Calls Tryz.prog 138 #[.int .i64 t] W fun e w' => e = .returned (.int .i64 (sz t)) ∧ W = w') := Lib.hid fun W => l2Size_any t W ht64
      obtain ⟨z, hz⟩ : ∃ z, z = sz t := ⟨_, rfl⟩
      rw [← hz] at HZ hsz hnx
      have Hnx : Hid (eulTo D (I + 1) = v + 2 * ((z : Int) % 2) - 1) := Lib.hid (by rw [hnx]; unfold cg; omega)
      clear hc ht hv hz hnx
      go_wp2_with (go_at_call 138; (with_reducible refine (HZ.out _).mono ?_); rintro e w' ⟨rfl, rfl⟩)
      go_round
      case rel => exact ⟨I + 1, by omega, by go_num, by rw [Hnx.out]⟩
      case measure => simp [intOf]; omega
    · obtain rfl : I = D.length := by omega
      have hII : ¬ ((D.length : Int) < D.length) := by omega
      go_wp2_with fail
      go_ret
      exact ⟨rfl, HB.out⟩
theorem sEuler_yes (p : Int) (a : Option Addr) (n c : Nat) (l : List Nat) (w : World) (h : IntsAt w a n (up l)) (hA : Anti p (up l)) (hl : ∀ t ∈ l, t < 64) :
    Calls Tryz.prog 63 #[.agg #[.int .i64 p, .slice a n c]] w fun e w' => e = .returned (.int .i64 (eul (isFace l))) ∧ Below w.heap.size w w' :=
  sEuler_list p a n c (up l) _ w h ord_lt (ord_len _) fun W hW => sFacesOf_yes p a n c l W hW hA hl
theorem sEuler_no (p : Int) (a : Option Addr) (n c : Nat) (xs : List Int) (w : World) (h : IntsAt w a n xs) (hno : ¬ Anti p xs) :
    Calls Tryz.prog 63 #[.agg #[.int .i64 p, .slice a n c]] w fun e w' => e = .returned (.int .i64 0) ∧ Below w.heap.size w w' :=
  sEuler_list p a n c xs [] w h (by simp) (by simp) fun W hW => sFacesOf_no p a n c xs W hW hno
theorem sameComplex_yes (p : Int) (a b : Option Addr) (n m c d : Nat) (xs : List Int) (w : World) (h : IntsAt w a n xs) (h' : IntsAt w b m xs) :
    Calls Tryz.prog 25 #[.agg #[.int .i64 p, .slice a n c], .agg #[.int .i64 p, .slice b m d]] w fun e w' => e = .returned (.bool true) ∧ Below w.heap.size w w' := by
  obtain ⟨W0, hW0⟩ : ∃ W0, W0 = (w.alloc (.cells #[.int .i64 p, .slice a n c] 32)).alloc (.cells #[.int .i64 p, .slice b m d] 32) := ⟨_, rfl⟩
  have Hx : Hid (IntsAt W0 a n xs) := Lib.hid (by rw [hW0]; exact h.keep (by repeat (first | exact Below.refl _ _ | assumption | refine Below.setCell ?_ (by first | omega | (simp; done) | (simp; omega)) _ | refine Below.alloc ?_ (by first | omega | (simp; done) | (simp; omega)) _ | apply Below.drew)))
  have Hy : Hid (IntsAt W0 b m xs) := Lib.hid (by rw [hW0]; exact h'.keep (by repeat (first | exact Below.refl _ _ | assumption | refine Below.setCell ?_ (by first | omega | (simp; done) | (simp; omega)) _ | refine Below.alloc ?_ (by first | omega | (simp; done) | (simp; omega)) _ | apply Below.drew)))
  have HB : Hid (Below w.heap.size w W0) := Lib.hid (by rw [hW0]; exact (by repeat (first | exact Below.refl _ _ | assumption | refine Below.setCell ?_ (by first | omega | (simp; done) | (simp; omega)) _ | refine Below.alloc ?_ (by first | omega | (simp; done) | (simp; omega)) _ | apply Below.drew)))
  have HW0 := Lib.hid hW0
  clear h h' hW0
  have hpp : (p == p) = true := by simp
  go_enter Tryz.func25, Tryz.ntmps25
  go_wp2_with fail
  rw [← HW0.out]
  refine (sameInts_yes a b n m c d xs xs W0 Hx.out Hy.out rfl).mono ?_
  rintro e w1 ⟨rfl, hb⟩
  have HB1 := Lib.hid (HB.out.trans (hb.mono HB.out.size))
  clear hb
  go_wp2_with fail
  go_ret
  exact ⟨rfl, HB1.out⟩
end Go.Proofs.YtihfhfihladlcaaGreatDoor

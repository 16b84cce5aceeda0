/- IdealText, the program's and the reference's. -/
import Derived.Deep.RegionWith
import Derived.Deep.RegionHeld3
import Derived.Test.YtihfhfihladlcaaGreatDoorAnti
import Derived.Test.YtihfhfihladlcaaGreatDoorPosTx
import Derived.Test.YtihfhfihladlcaaGreatDoorStr3
namespace Go.Proofs.YtihfhfihladlcaaGreatDoor
set_option maxRecDepth 20000
open Go.RowKit
set_option linter.unusedSimpArgs false
set_option linter.unusedVariables false

theorem iIdealText_no (p : Int) (a : Option Addr) (n c : Nat) (xs : List Int) (w : World) (h : IntsAt w a n xs) (hcap : n ≤ c) (hP : ¬ Anti p xs) :
    Calls Tryz.prog 29 #[.agg #[.int .i64 p, .slice a n c]] w fun e w' => e = .returned (.string (str [])) ∧ Below w.heap.size w w' := by
  have Hh := Lib.hid h; clear h
  have HP := Lib.hid hP; clear hP
  have Hcap := Lib.hid hcap; clear hcap
  go_enter Tryz.func29, Tryz.ntmps29
  go_wp2_with fail
  refine (iIsIdeal_any p a n c xs _ (Hh.out.keep (by repeat (first | exact Below.refl _ _ | assumption | refine Below.setCell ?_ (by first | omega | (simp; done) | (simp; omega)) _ | refine Below.alloc ?_ (by first | omega | (simp; done) | (simp; omega)) _ | apply Below.drew))) Hcap.out false (by simp [HP.out])).mono ?_
  rintro e w1 ⟨rfl, hb⟩
  have HB : Hid (Below w.heap.size w w1) := Lib.hid (Below.trans (by repeat (first | exact Below.refl _ _ | assumption | refine Below.setCell ?_ (by first | omega | (simp; done) | (simp; omega)) _ | refine Below.alloc ?_ (by first | omega | (simp; done) | (simp; omega)) _ | apply Below.drew)) (hb.mono (by simp <;> omega)))
  clear hb
  go_wp2_with fail
  go_ret
  exact ⟨rfl, HB.out⟩
set_option maxHeartbeats 2000000 in
theorem iIdealText_yes (m : Nat) (a : Option Addr) (n c : Nat) (l : List Nat) (w : World) (h : IntsAt w a n (up l)) (hcap : n ≤ c) (hA : Anti m (up l)) (hl64 : ∀ t ∈ l, t < 64) (hn : n ≤ 64) :
    Calls Tryz.prog 29 #[.agg #[.int .i64 m, .slice a n c]] w fun e w' => e = .returned (.string (str (posText m l))) ∧ Below w.heap.size w w' := by
  have hm1 : 1 ≤ m := by have := hA.1; omega
  have hm6 : m ≤ 6 := by have := hA.2.1; omega
  have hx2 : IntsAt (w.alloc (.cells #[.int .i64 m, .slice a n c] 26)) a n (up l) := h.keep (by repeat (first | exact Below.refl _ _ | assumption | refine Below.setCell ?_ (by first | omega | (simp; done) | (simp; omega)) _ | refine Below.alloc ?_ (by first | omega | (simp; done) | (simp; omega)) _ | apply Below.drew))
  have HS : Hid (∀ W, IntsAt W a n (up l) → Calls Tryz.prog 105 #[.slice a n c] W fun e w' => e = .returned (.string (str (setsText l))) ∧ Below W.heap.size W w') := Lib.hid fun W hW => iSetsText_any a n c l W hW (by omega) hl64
  have HI : Hid (∀ W, IntsAt W a n (up l) → Calls Tryz.prog 31 #[.agg #[.int .i64 m, .slice a n c]] W fun e w' => e = .returned (.bool true) ∧ Below W.heap.size W w') := Lib.hid fun W hW => iIsIdeal_any m a n c _ W hW hcap true (by simp [hA])
  have HT := Lib.hid (posText_cat m l)
  have XA := Lib.hid (BoxF.new w (.int .i64 m) (.slice a n c) 26)
  have HF : Hid (∀ W, Calls Tryz.prog 104 #[.int .i64 m] W fun e w' => e = .returned (.string (str [UInt8.ofNat (48 + m)])) ∧ Below W.heap.size W w') := Lib.hid fun W => iFormat_one m W (by omega)
  have Hx := Lib.hid hx2
  obtain ⟨D, hD⟩ : ∃ D, D = str [UInt8.ofNat (48 + m)] := ⟨_, rfl⟩
  obtain ⟨S, hS⟩ : ∃ S, S = str (setsText l) := ⟨_, rfl⟩
  obtain ⟨R, hR⟩ : ∃ R, R = str (posText m l) := ⟨_, rfl⟩
  have hD1 : D.size = 1 := by rw [hD]; exact str_size _
  have HS1 : Hid (¬ (9223372036854775807 < 2 + S.size)) := Lib.hid (by
    have : S.size ≤ 7 * l.length := by
      rw [hS, str_size]
      unfold setsText
      have := comma_len _ (l.map setText) rfl (fun x m => by obtain ⟨s, _, rfl⟩ := List.mem_map.1 m; exact setText_len s)
      rwa [List.length_map] at this
    have h2 := h.len
    rw [up_len] at h2
    omega)
  rw [← hD, ← hS, ← hR] at HT
  rw [← hD] at HF
  rw [← hS] at HS
  rw [← hR]
  clear hD hS hR
  clear hA hx2 hl64 h hcap
  go_enter Tryz.func29, Tryz.ntmps29
  go_wp2_with fail
  refine (HI.out _ Hx.out).mono ?_
  rintro e w1 ⟨rfl, hb'⟩
  have HB : Hid (Below w.heap.size w w1) := Lib.hid (Below.trans (by repeat (first | exact Below.refl _ _ | assumption | refine Below.setCell ?_ (by first | omega | (simp; done) | (simp; omega)) _ | refine Below.alloc ?_ (by first | omega | (simp; done) | (simp; omega)) _ | apply Below.drew)) (hb'.mono (by simp <;> omega)))
  have XA1 := Lib.hid (XA.out.keep hb' (by simp))
  obtain ⟨p0, p1, _, _, _⟩ := XA1.out
  have hz : w.heap.size + 1 ≤ w1.heap.size := by have := hb'.size; simp at this; omega
  have Hx1 := Lib.hid (Hx.out.keep hb')
  clear hb'
  go_wp2_with fail
  have Hx2 := Lib.hid (Hx1.out.keep (Below.drew (Below.refl _ _)))
  have XA2 := Lib.hid (XA1.out.drew)
  have hS1 := HS1.out
  have hS2 : ¬ ((9223372036854775807 : Int) < 2 + S.size) := by omega
  go_region_held3 (fun W => W.cell? ⟨w.heap.size, 0, none⟩ = some (.int .i64 m) ∧ W.cell? ⟨w.heap.size, 1, none⟩ = some (.slice a n c))
    (first | exact ⟨p0, p1⟩ | exact ⟨y0, y1⟩ | exact ⟨z0, z1⟩ | go_keep)
    (first
      | (go_simp; go_at_call 104; (with_reducible refine (HF.out _).mono ?_); rintro e w4 ⟨rfl, hb4⟩; have HB4 := Lib.hid hb4; have Hx4 := Lib.hid (Hx2.out.keep hb4); have XA4 := Lib.hid (XA2.out.keep hb4 (by simp; omega)); obtain ⟨y0, y1, _, _, _⟩ := XA4.out; clear hb4)
      | (go_simp; go_at_call 105; (with_reducible refine (HS.out _ Hx4.out).mono ?_); rintro e w5 ⟨rfl, hb5⟩; have HB5 := Lib.hid hb5; have XA5 := Lib.hid (XA4.out.keep hb5 (by have := HB4.out.size; simp at this; omega)); obtain ⟨z0, z1, _, _, _⟩ := XA5.out; clear hb5))
  all_goals (go_wp2_with fail)
  all_goals go_ret
  all_goals have hz4 : w1.heap.size ≤ w4.heap.size := by have := HB4.out.size; simpa using this
  all_goals have hd : Below w.heap.size w1 w1.drew := (Below.refl _ _).drew
  all_goals refine ⟨by (first | (rw [← HT.out]; done) | (rw [← HT.out]; rfl)), ((HB.out.trans hd).trans (HB4.out.mono (by first | omega | (simp; omega)))).trans (HB5.out.mono (by omega))⟩

theorem sComplexText_no (p : Int) (a : Option Addr) (n c : Nat) (xs : List Int) (w : World) (h : IntsAt w a n xs) (hP : ¬ Anti p xs) :
    Calls Tryz.prog 106 #[.agg #[.int .i64 p, .slice a n c]] w fun e w' => e = .returned (.string (str [])) ∧ Below w.heap.size w w' := by
  have Hh := Lib.hid h; clear h
  have HP := Lib.hid hP; clear hP
  go_enter Tryz.func106, Tryz.ntmps106
  go_wp2_with fail
  refine (sIsComplex_any p a n c xs _ (Hh.out.keep (by repeat (first | exact Below.refl _ _ | assumption | refine Below.setCell ?_ (by first | omega | (simp; done) | (simp; omega)) _ | refine Below.alloc ?_ (by first | omega | (simp; done) | (simp; omega)) _ | apply Below.drew))) false (by simp [HP.out])).mono ?_
  rintro e w1 ⟨rfl, hb⟩
  have HB : Hid (Below w.heap.size w w1) := Lib.hid (Below.trans (by repeat (first | exact Below.refl _ _ | assumption | refine Below.setCell ?_ (by first | omega | (simp; done) | (simp; omega)) _ | refine Below.alloc ?_ (by first | omega | (simp; done) | (simp; omega)) _ | apply Below.drew)) (hb.mono (by simp <;> omega)))
  clear hb
  go_wp2_with fail
  go_ret
  exact ⟨rfl, HB.out⟩
set_option maxHeartbeats 2000000 in
theorem sComplexText_yes (m : Nat) (a : Option Addr) (n c : Nat) (l : List Nat) (w : World) (h : IntsAt w a n (up l)) (hA : Anti m (up l)) (hl64 : ∀ t ∈ l, t < 64) (hn : n ≤ 64) :
    Calls Tryz.prog 106 #[.agg #[.int .i64 m, .slice a n c]] w fun e w' => e = .returned (.string (str (posText m l))) ∧ Below w.heap.size w w' := by
  have hm1 : 1 ≤ m := by have := hA.1; omega
  have hm6 : m ≤ 6 := by have := hA.2.1; omega
  have hx2 : IntsAt (w.alloc (.cells #[.int .i64 m, .slice a n c] 32)) a n (up l) := h.keep (by repeat (first | exact Below.refl _ _ | assumption | refine Below.setCell ?_ (by first | omega | (simp; done) | (simp; omega)) _ | refine Below.alloc ?_ (by first | omega | (simp; done) | (simp; omega)) _ | apply Below.drew))
  have HS : Hid (∀ W, IntsAt W a n (up l) → Calls Tryz.prog 137 #[.slice a n c] W fun e w' => e = .returned (.string (str (setsText l))) ∧ Below W.heap.size W w') := Lib.hid fun W hW => sSetsText_any a n c l W hW (by omega) hl64
  have HI : Hid (∀ W, IntsAt W a n (up l) → Calls Tryz.prog 88 #[.agg #[.int .i64 m, .slice a n c]] W fun e w' => e = .returned (.bool true) ∧ Below W.heap.size W w') := Lib.hid fun W hW => sIsComplex_any m a n c _ W hW true (by simp [hA])
  have HT := Lib.hid (posText_cat m l)
  have XA := Lib.hid (BoxF.new w (.int .i64 m) (.slice a n c) 32)
  have HF : Hid (∀ W, Calls Tryz.prog 112 #[.int .i64 m] W fun e w' => e = .returned (.string (str [UInt8.ofNat (48 + m)])) ∧ Below W.heap.size W w') := Lib.hid fun W => sFormat_one m W hm1 (by omega)
  have Hx := Lib.hid hx2
  obtain ⟨D, hD⟩ : ∃ D, D = str [UInt8.ofNat (48 + m)] := ⟨_, rfl⟩
  obtain ⟨S, hS⟩ : ∃ S, S = str (setsText l) := ⟨_, rfl⟩
  obtain ⟨R, hR⟩ : ∃ R, R = str (posText m l) := ⟨_, rfl⟩
  have hD1 : D.size = 1 := by rw [hD]; exact str_size _
  have HS1 : Hid (¬ (9223372036854775807 < 2 + S.size)) := Lib.hid (by
    have : S.size ≤ 7 * l.length := by
      rw [hS, str_size]
      unfold setsText
      have := comma_len _ (l.map setText) rfl (fun x m => by obtain ⟨s, _, rfl⟩ := List.mem_map.1 m; exact setText_len s)
      rwa [List.length_map] at this
    have h2 := h.len
    rw [up_len] at h2
    omega)
  rw [← hD, ← hS, ← hR] at HT
  rw [← hD] at HF
  rw [← hS] at HS
  rw [← hR]
  clear hD hS hR
  clear hA hx2 hl64 h
  go_enter Tryz.func106, Tryz.ntmps106
  go_wp2_with fail
  refine (HI.out _ Hx.out).mono ?_
  rintro e w1 ⟨rfl, hb'⟩
  have HB : Hid (Below w.heap.size w w1) := Lib.hid (Below.trans (by repeat (first | exact Below.refl _ _ | assumption | refine Below.setCell ?_ (by first | omega | (simp; done) | (simp; omega)) _ | refine Below.alloc ?_ (by first | omega | (simp; done) | (simp; omega)) _ | apply Below.drew)) (hb'.mono (by simp <;> omega)))
  have XA1 := Lib.hid (XA.out.keep hb' (by simp))
  obtain ⟨p0, p1, _, _, _⟩ := XA1.out
  have hz : w.heap.size + 1 ≤ w1.heap.size := by have := hb'.size; simp at this; omega
  have Hx1 := Lib.hid (Hx.out.keep hb')
  clear hb'
  go_wp2_with fail
  have Hx2 := Lib.hid (Hx1.out.keep (Below.drew (Below.refl _ _)))
  have XA2 := Lib.hid (XA1.out.drew)
  have hS1 := HS1.out
  have hS2 : ¬ ((9223372036854775807 : Int) < 2 + S.size) := by omega
  go_region_held3 (fun W => W.cell? ⟨w.heap.size, 0, none⟩ = some (.int .i64 m) ∧ W.cell? ⟨w.heap.size, 1, none⟩ = some (.slice a n c))
    (first | exact ⟨p0, p1⟩ | exact ⟨y0, y1⟩ | exact ⟨z0, z1⟩ | go_keep)
    (first
      | (go_simp; go_at_call 112; (with_reducible refine (HF.out _).mono ?_); rintro e w4 ⟨rfl, hb4⟩; have HB4 := Lib.hid hb4; have Hx4 := Lib.hid (Hx2.out.keep hb4); have XA4 := Lib.hid (XA2.out.keep hb4 (by simp; omega)); obtain ⟨y0, y1, _, _, _⟩ := XA4.out; clear hb4)
      | (go_simp; go_at_call 137; (with_reducible refine (HS.out _ Hx4.out).mono ?_); rintro e w5 ⟨rfl, hb5⟩; have HB5 := Lib.hid hb5; have XA5 := Lib.hid (XA4.out.keep hb5 (by have := HB4.out.size; simp at this; omega)); obtain ⟨z0, z1, _, _, _⟩ := XA5.out; clear hb5))
  all_goals (go_wp2_with fail)
  all_goals go_ret
  all_goals have hz4 : w1.heap.size ≤ w4.heap.size := by have := HB4.out.size; simpa using this
  all_goals have hd : Below w.heap.size w1 w1.drew := (Below.refl _ _).drew
  all_goals refine ⟨by (first | (rw [← HT.out]; done) | (rw [← HT.out]; rfl)), ((HB.out.trans hd).trans (HB4.out.mono (by first | omega | (simp; omega)))).trans (HB5.out.mono (by omega))⟩

theorem sIdealText_no (p : Int) (a : Option Addr) (n c : Nat) (xs : List Int) (w : World) (h : IntsAt w a n xs) (hP : ¬ Anti p xs) :
    Calls Tryz.prog 30 #[.agg #[.int .i64 p, .slice a n c]] w fun e w' => e = .returned (.string (str [])) ∧ Below w.heap.size w w' := by
  have hx : IntsAt (w.alloc (.cells #[.int .i64 p, .slice a n c] 26)) a n xs := h.keep (by repeat (first | exact Below.refl _ _ | assumption | refine Below.setCell ?_ (by first | omega | (simp; done) | (simp; omega)) _ | refine Below.alloc ?_ (by first | omega | (simp; done) | (simp; omega)) _ | apply Below.drew))
  have Hx := Lib.hid hx; have HP := Lib.hid hP; clear hx h hP
  go_enter Tryz.func30, Tryz.ntmps30
  go_wp2_with fail
  refine (sComplexText_no p a n c xs _ Hx.out HP.out).mono ?_
  rintro e w1 ⟨rfl, hb⟩
  have HB : Hid (Below w.heap.size w w1) := Lib.hid (Below.trans (by repeat (first | exact Below.refl _ _ | assumption | refine Below.setCell ?_ (by first | omega | (simp; done) | (simp; omega)) _ | refine Below.alloc ?_ (by first | omega | (simp; done) | (simp; omega)) _ | apply Below.drew)) (hb.mono (by simp)))
  clear hb
  go_wp2_with fail
  go_ret
  exact ⟨rfl, HB.out⟩
theorem sIdealText_yes (m : Nat) (a : Option Addr) (n c : Nat) (l : List Nat) (w : World) (h : IntsAt w a n (up l)) (hA : Anti m (up l)) (hl64 : ∀ t ∈ l, t < 64) (hn : n ≤ 64) :
    Calls Tryz.prog 30 #[.agg #[.int .i64 m, .slice a n c]] w fun e w' => e = .returned (.string (str (posText m l))) ∧ Below w.heap.size w w' := by
  have hx : IntsAt (w.alloc (.cells #[.int .i64 m, .slice a n c] 26)) a n (up l) := h.keep (by repeat (first | exact Below.refl _ _ | assumption | refine Below.setCell ?_ (by first | omega | (simp; done) | (simp; omega)) _ | refine Below.alloc ?_ (by first | omega | (simp; done) | (simp; omega)) _ | apply Below.drew))
  have HC := Lib.hid fun W hW => sComplexText_yes m a n c l W hW hA hl64 hn
  have Hx := Lib.hid hx; clear hx h hA hl64
  obtain ⟨R, hR⟩ : ∃ R, R = str (posText m l) := ⟨_, rfl⟩
  rw [← hR] at HC ⊢
  clear hR
  go_enter Tryz.func30, Tryz.ntmps30
  go_wp2_with fail
  refine (HC.out _ Hx.out).mono ?_
  rintro e w1 ⟨rfl, hb⟩
  have HB : Hid (Below w.heap.size w w1) := Lib.hid (Below.trans (by repeat (first | exact Below.refl _ _ | assumption | refine Below.setCell ?_ (by first | omega | (simp; done) | (simp; omega)) _ | refine Below.alloc ?_ (by first | omega | (simp; done) | (simp; omega)) _ | apply Below.drew)) (hb.mono (by simp)))
  clear hb
  go_wp2_with fail
  go_ret
  exact ⟨rfl, HB.out⟩
end Go.Proofs.YtihfhfihladlcaaGreatDoor

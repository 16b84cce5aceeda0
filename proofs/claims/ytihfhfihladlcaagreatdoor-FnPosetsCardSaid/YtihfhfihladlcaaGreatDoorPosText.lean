/- PosetText, the program's and the reference's. -/
import Derived.Deep.RegionWith
import Derived.Deep.RegionHeld3
import Derived.Test.YtihfhfihladlcaaGreatDoorPosTx
import Derived.Test.YtihfhfihladlcaaGreatDoorPoset2
import Derived.Test.YtihfhfihladlcaaGreatDoorStr3
namespace Go.Proofs.YtihfhfihladlcaaGreatDoor
set_option maxRecDepth 20000
open Go.RowKit
set_option linter.unusedSimpArgs false
set_option linter.unusedVariables false

theorem iPosetText_no (p : Int) (a : Option Addr) (n c : Nat) (xs : List Int) (w : World) (h : IntsAt w a n xs) (hP : ¬ PosetP p xs) :
    Calls Tryz.prog 58 #[.agg #[.int .i64 p, .slice a n c]] w fun e w' => e = .returned (.string (str [])) ∧ Below w.heap.size w w' := by
  have Hh := Lib.hid h; clear h
  have HP := Lib.hid hP; clear hP
  go_enter Tryz.func58, Tryz.ntmps58
  go_wp2_with fail
  refine (iIsPoset_any p a n c xs _ (Hh.out.keep (by repeat (first | exact Below.refl _ _ | assumption | refine Below.setCell ?_ (by first | omega | (simp; done) | (simp; omega)) _ | refine Below.alloc ?_ (by first | omega | (simp; done) | (simp; omega)) _ | apply Below.drew))) false (by simp [HP.out])).mono ?_
  rintro e w1 ⟨rfl, hb⟩
  have HB : Hid (Below w.heap.size w w1) := Lib.hid (Below.trans (by repeat (first | exact Below.refl _ _ | assumption | refine Below.setCell ?_ (by first | omega | (simp; done) | (simp; omega)) _ | refine Below.alloc ?_ (by first | omega | (simp; done) | (simp; omega)) _ | apply Below.drew)) (hb.mono (by simp <;> omega)))
  clear hb
  go_wp2_with fail
  go_ret
  exact ⟨rfl, HB.out⟩
set_option maxHeartbeats 2000000 in
theorem iPosetText_yes (p : Int) (a : Option Addr) (n c : Nat) (xs : List Int) (w : World) (h : IntsAt w a n xs) (hP : PosetP p xs) :
    Calls Tryz.prog 58 #[.agg #[.int .i64 p, .slice a n c]] w fun e w' => e = .returned (.string (str (posText n (nats xs)))) ∧ Below w.heap.size w w' := by
  have hnp : (n : Int) = p := by rw [← h.len]; exact hP.2.2.1
  subst hnp
  have hn1 : 1 ≤ n := by have := hP.1; omega
  have hn6 : n ≤ 6 := by have := hP.2.1; omega
  obtain ⟨l, hl⟩ : ∃ l, l = nats xs := ⟨_, rfl⟩
  have hl64 : ∀ t ∈ l, t < 64 := fun t ht => by
    obtain ⟨k, hk, rfl⟩ := List.getElem_of_mem ht
    have := (poset_lt hP k (by rw [← nats_len, ← hl]; exact hk)).2
    rw [← hl] at this
    unfold nthN at this
    simpa [hk] using this
  have hx : xs = up l := by rw [hl]; exact poset_nats hP
  have hx2 : IntsAt (w.alloc (.cells #[.int .i64 n, .slice a n c] 59)) a n (up l) := by rw [← hx]; exact h.keep (by repeat (first | exact Below.refl _ _ | assumption | refine Below.setCell ?_ (by first | omega | (simp; done) | (simp; omega)) _ | refine Below.alloc ?_ (by first | omega | (simp; done) | (simp; omega)) _ | apply Below.drew))
  have HS : Hid (∀ W, IntsAt W a n (up l) → Calls Tryz.prog 105 #[.slice a n c] W fun e w' => e = .returned (.string (str (setsText l))) ∧ Below W.heap.size W w') := Lib.hid fun W hW => iSetsText_any a n c l W hW (by omega) hl64
  have HI : Hid (∀ W, IntsAt W a n (up l) → Calls Tryz.prog 56 #[.agg #[.int .i64 n, .slice a n c]] W fun e w' => e = .returned (.bool true) ∧ Below W.heap.size W w') := Lib.hid fun W hW => iIsPoset_any n a n c xs W (by rw [hx]; exact hW) true (by simp [hP])
  have HT := Lib.hid (posText_cat n l)
  have XA := Lib.hid (BoxF.new w (.int .i64 n) (.slice a n c) 59)
  have HF : Hid (∀ W, Calls Tryz.prog 104 #[.int .i64 n] W fun e w' => e = .returned (.string (str [UInt8.ofNat (48 + n)])) ∧ Below W.heap.size W w') := Lib.hid fun W => iFormat_one n W (by omega)
  rw [← hl]
  have Hx := Lib.hid hx2
  obtain ⟨D, hD⟩ : ∃ D, D = str [UInt8.ofNat (48 + n)] := ⟨_, rfl⟩
  obtain ⟨S, hS⟩ : ∃ S, S = str (setsText l) := ⟨_, rfl⟩
  obtain ⟨R, hR⟩ : ∃ R, R = str (posText n l) := ⟨_, rfl⟩
  have hD1 : D.size = 1 := by rw [hD]; exact str_size _
  have HS1 : Hid (¬ (9223372036854775807 < 2 + S.size)) := Lib.hid (by
    have : S.size ≤ 7 * l.length := by
      rw [hS, str_size]
      unfold setsText
      have := comma_len _ (l.map setText) rfl (fun x m => by obtain ⟨s, _, rfl⟩ := List.mem_map.1 m; exact setText_len s)
      rwa [List.length_map] at this
    have h2 := h.len
    rw [hx, up_len] at h2
    omega)
  rw [← hD, ← hS, ← hR] at HT
  rw [← hD] at HF
  rw [← hS] at HS
  rw [← hR]
  clear hD hS hR
  clear hP hx hx2 hl hl64 h
  go_enter Tryz.func58, Tryz.ntmps58
  go_wp2_with fail
  refine (HI.out _ Hx.out).mono ?_
  rintro e w1 ⟨rfl, hb'⟩
  have HB : Hid (Below w.heap.size w w1) := Lib.hid (Below.trans (by repeat (first | exact Below.refl _ _ | assumption | refine Below.setCell ?_ (by first | omega | (simp; done) | (simp; omega)) _ | refine Below.alloc ?_ (by first | omega | (simp; done) | (simp; omega)) _ | apply Below.drew)) (hb'.mono (by simp <;> omega)))
  have XA1 := Lib.hid (XA.out.keep hb' (by simp))
  obtain ⟨p0, p1, _, _, _⟩ := XA1.out
  have hz : w.heap.size + 1 ≤ w1.heap.size := by have := hb'.size; simp at this; omega
  have Hx1 := Lib.hid (Hx.out.keep hb')
  clear hb'
  go_wp2_with fail
  have Hx2 := Lib.hid (Hx1.out.keep (Below.drew (Below.refl _ _)))
  have XA2 := Lib.hid (XA1.out.drew)
  have hS1 := HS1.out
  have hS2 : ¬ ((9223372036854775807 : Int) < 2 + S.size) := by omega
  go_region_held3 (fun W => W.cell? ⟨w.heap.size, 0, none⟩ = some (.int .i64 n) ∧ W.cell? ⟨w.heap.size, 1, none⟩ = some (.slice a n c))
    (first | exact ⟨p0, p1⟩ | exact ⟨y0, y1⟩ | exact ⟨z0, z1⟩ | go_keep)
    (first
      | (go_simp; go_at_call 104; (with_reducible refine (HF.out _).mono ?_); rintro e w4 ⟨rfl, hb4⟩; have HB4 := Lib.hid hb4; have Hx4 := Lib.hid (Hx2.out.keep hb4); have XA4 := Lib.hid (XA2.out.keep hb4 (by simp; omega)); obtain ⟨y0, y1, _, _, _⟩ := XA4.out; clear hb4)
      | (go_simp; go_at_call 105; (with_reducible refine (HS.out _ Hx4.out).mono ?_); rintro e w5 ⟨rfl, hb5⟩; have HB5 := Lib.hid hb5; have XA5 := Lib.hid (XA4.out.keep hb5 (by have := HB4.out.size; simp at this; omega)); obtain ⟨z0, z1, _, _, _⟩ := XA5.out; clear hb5))
  all_goals (go_wp2_with fail)
  all_goals go_ret
  all_goals have hz4 : w1.heap.size ≤ w4.heap.size := by have := HB4.out.size; simpa using this
  all_goals have hd : Below w.heap.size w1 w1.drew := (Below.refl _ _).drew
  all_goals refine ⟨by (first | (rw [← HT.out]; done) | (rw [← HT.out]; rfl)), ((HB.out.trans hd).trans (HB4.out.mono (by first | omega | (simp; omega)))).trans (HB5.out.mono (by omega))⟩

theorem sPosetText_no (p : Int) (a : Option Addr) (n c : Nat) (xs : List Int) (w : World) (h : IntsAt w a n xs) (hP : ¬ PosetP p xs) :
    Calls Tryz.prog 59 #[.agg #[.int .i64 p, .slice a n c]] w fun e w' => e = .returned (.string (str [])) ∧ Below w.heap.size w w' := by
  have Hh := Lib.hid h; clear h
  have HP := Lib.hid hP; clear hP
  go_enter Tryz.func59, Tryz.ntmps59
  go_wp2_with fail
  refine (sIsPoset_any p a n c xs _ (Hh.out.keep (by repeat (first | exact Below.refl _ _ | assumption | refine Below.setCell ?_ (by first | omega | (simp; done) | (simp; omega)) _ | refine Below.alloc ?_ (by first | omega | (simp; done) | (simp; omega)) _ | apply Below.drew))) false (by simp [HP.out])).mono ?_
  rintro e w1 ⟨rfl, hb⟩
  have HB : Hid (Below w.heap.size w w1) := Lib.hid (Below.trans (by repeat (first | exact Below.refl _ _ | assumption | refine Below.setCell ?_ (by first | omega | (simp; done) | (simp; omega)) _ | refine Below.alloc ?_ (by first | omega | (simp; done) | (simp; omega)) _ | apply Below.drew)) (hb.mono (by simp <;> omega)))
  clear hb
  go_wp2_with fail
  go_ret
  exact ⟨rfl, HB.out⟩
set_option maxHeartbeats 2000000 in
theorem sPosetText_yes (p : Int) (a : Option Addr) (n c : Nat) (xs : List Int) (w : World) (h : IntsAt w a n xs) (hP : PosetP p xs) :
    Calls Tryz.prog 59 #[.agg #[.int .i64 p, .slice a n c]] w fun e w' => e = .returned (.string (str (posText n (nats xs)))) ∧ Below w.heap.size w w' := by
  have hnp : (n : Int) = p := by rw [← h.len]; exact hP.2.2.1
  subst hnp
  have hn1 : 1 ≤ n := by have := hP.1; omega
  have hn6 : n ≤ 6 := by have := hP.2.1; omega
  obtain ⟨l, hl⟩ : ∃ l, l = nats xs := ⟨_, rfl⟩
  have hl64 : ∀ t ∈ l, t < 64 := fun t ht => by
    obtain ⟨k, hk, rfl⟩ := List.getElem_of_mem ht
    have := (poset_lt hP k (by rw [← nats_len, ← hl]; exact hk)).2
    rw [← hl] at this
    unfold nthN at this
    simpa [hk] using this
  have hx : xs = up l := by rw [hl]; exact poset_nats hP
  have hx2 : IntsAt (w.alloc (.cells #[.int .i64 n, .slice a n c] 59)) a n (up l) := by rw [← hx]; exact h.keep (by repeat (first | exact Below.refl _ _ | assumption | refine Below.setCell ?_ (by first | omega | (simp; done) | (simp; omega)) _ | refine Below.alloc ?_ (by first | omega | (simp; done) | (simp; omega)) _ | apply Below.drew))
  have HS : Hid (∀ W, IntsAt W a n (up l) → Calls Tryz.prog 137 #[.slice a n c] W fun e w' => e = .returned (.string (str (setsText l))) ∧ Below W.heap.size W w') := Lib.hid fun W hW => sSetsText_any a n c l W hW (by omega) hl64
  have HI : Hid (∀ W, IntsAt W a n (up l) → Calls Tryz.prog 57 #[.agg #[.int .i64 n, .slice a n c]] W fun e w' => e = .returned (.bool true) ∧ Below W.heap.size W w') := Lib.hid fun W hW => sIsPoset_any n a n c xs W (by rw [hx]; exact hW) true (by simp [hP])
  have HT := Lib.hid (posText_cat n l)
  have XA := Lib.hid (BoxF.new w (.int .i64 n) (.slice a n c) 59)
  have HF : Hid (∀ W, Calls Tryz.prog 112 #[.int .i64 n] W fun e w' => e = .returned (.string (str [UInt8.ofNat (48 + n)])) ∧ Below W.heap.size W w') := Lib.hid fun W => sFormat_one n W hn1 (by omega)
  rw [← hl]
  have Hx := Lib.hid hx2
  obtain ⟨D, hD⟩ : ∃ D, D = str [UInt8.ofNat (48 + n)] := ⟨_, rfl⟩
  obtain ⟨S, hS⟩ : ∃ S, S = str (setsText l) := ⟨_, rfl⟩
  obtain ⟨R, hR⟩ : ∃ R, R = str (posText n l) := ⟨_, rfl⟩
  have hD1 : D.size = 1 := by rw [hD]; exact str_size _
  have HS1 : Hid (¬ (9223372036854775807 < 2 + S.size)) := Lib.hid (by
    have : S.size ≤ 7 * l.length := by
      rw [hS, str_size]
      unfold setsText
      have := comma_len _ (l.map setText) rfl (fun x m => by obtain ⟨s, _, rfl⟩ := List.mem_map.1 m; exact setText_len s)
      rwa [List.length_map] at this
    have h2 := h.len
    rw [hx, up_len] at h2
    omega)
  rw [← hD, ← hS, ← hR] at HT
  rw [← hD] at HF
  rw [← hS] at HS
  rw [← hR]
  clear hD hS hR
  clear hP hx hx2 hl hl64 h
  go_enter Tryz.func59, Tryz.ntmps59
  go_wp2_with fail
  refine (HI.out _ Hx.out).mono ?_
  rintro e w1 ⟨rfl, hb'⟩
  have HB : Hid (Below w.heap.size w w1) := Lib.hid (Below.trans (by repeat (first | exact Below.refl _ _ | assumption | refine Below.setCell ?_ (by first | omega | (simp; done) | (simp; omega)) _ | refine Below.alloc ?_ (by first | omega | (simp; done) | (simp; omega)) _ | apply Below.drew)) (hb'.mono (by simp <;> omega)))
  have XA1 := Lib.hid (XA.out.keep hb' (by simp))
  obtain ⟨p0, p1, _, _, _⟩ := XA1.out
  have hz : w.heap.size + 1 ≤ w1.heap.size := by have := hb'.size; simp at this; omega
  have Hx1 := Lib.hid (Hx.out.keep hb')
  clear hb'
  go_wp2_with fail
  have Hx2 := Lib.hid (Hx1.out.keep (Below.drew (Below.refl _ _)))
  have XA2 := Lib.hid (XA1.out.drew)
  have hS1 := HS1.out
  have hS2 : ¬ ((9223372036854775807 : Int) < 2 + S.size) := by omega
  go_region_held3 (fun W => W.cell? ⟨w.heap.size, 0, none⟩ = some (.int .i64 n) ∧ W.cell? ⟨w.heap.size, 1, none⟩ = some (.slice a n c))
    (first | exact ⟨p0, p1⟩ | exact ⟨y0, y1⟩ | exact ⟨z0, z1⟩ | go_keep)
    (first
      | (go_simp; go_at_call 112; (with_reducible refine (HF.out _).mono ?_); rintro e w4 ⟨rfl, hb4⟩; have HB4 := Lib.hid hb4; have Hx4 := Lib.hid (Hx2.out.keep hb4); have XA4 := Lib.hid (XA2.out.keep hb4 (by simp; omega)); obtain ⟨y0, y1, _, _, _⟩ := XA4.out; clear hb4)
      | (go_simp; go_at_call 137; (with_reducible refine (HS.out _ Hx4.out).mono ?_); rintro e w5 ⟨rfl, hb5⟩; have HB5 := Lib.hid hb5; have XA5 := Lib.hid (XA4.out.keep hb5 (by have := HB4.out.size; simp at this; omega)); obtain ⟨z0, z1, _, _, _⟩ := XA5.out; clear hb5))
  all_goals (go_wp2_with fail)
  all_goals go_ret
  all_goals have hz4 : w1.heap.size ≤ w4.heap.size := by have := HB4.out.size; simpa using this
  all_goals have hd : Below w.heap.size w1 w1.drew := (Below.refl _ _).drew
  all_goals refine ⟨by (first | (rw [← HT.out]; done) | (rw [← HT.out]; rfl)), ((HB.out.trans hd).trans (HB4.out.mono (by first | omega | (simp; omega)))).trans (HB5.out.mono (by omega))⟩
end Go.Proofs.YtihfhfihladlcaaGreatDoor

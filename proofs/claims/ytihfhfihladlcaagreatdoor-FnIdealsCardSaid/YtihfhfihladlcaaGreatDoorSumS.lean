/- Contracts of SumIdeals and MeetIdeals, the reference's. -/
import Derived.Test.YtihfhfihladlcaaGreatDoorCore
import Derived.Test.YtihfhfihladlcaaGreatDoorIdeal2
namespace Go.Proofs.YtihfhfihladlcaaGreatDoor
set_option maxRecDepth 20000
open Go.RowKit
set_option linter.unusedSimpArgs false
set_option linter.unusedVariables false

theorem sSumIdeals_no (p : Int) (a : Option Addr) (n c : Nat) (xs : List Int) (q : Int) (a' : Option Addr) (n' c' : Nat) (ys : List Int) (w : World) (h : IntsAt w a n xs) (h' : IntsAt w a' n' ys) (hno : ¬ TwoP p xs q ys) :
    Calls Tryz.prog 10 #[.agg #[.int .i64 p, .slice a n c], .agg #[.int .i64 q, .slice a' n' c']] w (RetBox2 w 0 [] false) := by
  have hx : IntsAt (((w.alloc (.cells #[.int .i64 p, .slice a n c] 26)).alloc (.cells #[.int .i64 q, .slice a' n' c'] 26)).alloc (.cells #[.int .i64 0, .slice none 0 0] 26)) a n xs := h.keep (by repeat (first | exact Below.refl _ _ | assumption | refine Below.setCell ?_ (by first | omega | (simp; done) | (simp; omega)) _ | refine Below.alloc ?_ (by first | omega | (simp; done) | (simp; omega)) _ | apply Below.drew))
  have hy : IntsAt (((w.alloc (.cells #[.int .i64 p, .slice a n c] 26)).alloc (.cells #[.int .i64 q, .slice a' n' c'] 26)).alloc (.cells #[.int .i64 0, .slice none 0 0] 26)) a' n' ys := h'.keep (by repeat (first | exact Below.refl _ _ | assumption | refine Below.setCell ?_ (by first | omega | (simp; done) | (simp; omega)) _ | refine Below.alloc ?_ (by first | omega | (simp; done) | (simp; omega)) _ | apply Below.drew))
  have Hx := Lib.hid hx; have Hy := Lib.hid hy; have Hno := Lib.hid hno
  have xR := BoxF.new ((w.alloc (.cells #[.int .i64 p, .slice a n c] 26)).alloc (.cells #[.int .i64 q, .slice a' n' c'] 26)) (.int .i64 0) (.slice none 0 0) 26
  have XR := Lib.hid xR
  clear hx hy h h' hno xR
  go_enter Tryz.func10, Tryz.ntmps10
  go_wp2_with fail
  refine (l29Two_any p a n c xs q a' n' c' ys _ Hx.out Hy.out false (by simp [Hno.out])).mono ?_
  rintro e w1 ⟨rfl, hb⟩
  have hbl : Below w.heap.size w w1 := Below.trans (by repeat (first | exact Below.refl _ _ | assumption | refine Below.setCell ?_ (by first | omega | (simp; done) | (simp; omega)) _ | refine Below.alloc ?_ (by first | omega | (simp; done) | (simp; omega)) _ | apply Below.drew)) (hb.mono (by simp <;> omega))
  obtain ⟨r0, r1, f0, f1, _⟩ := XR.out.keep hb (by simp)
  simp at r0 r1 f0 f1
  have hz : w.heap.size + 3 ≤ w1.heap.size := by have := hb.size; simp at this; omega
  clear hb
  go_wp2_with fail
  refine bodyPost_ret (v := .tuple #[.agg #[.int .i64 0, .slice none 0 0], .bool false]) (by simp [results, Tryz.results10, go_sem, r0, r1]) rfl ⟨none, 0, 0, rfl, Own.nil _ _ _, (by repeat (first | exact Below.refl _ _ | assumption | refine Below.setCell ?_ (by first | omega | (simp; done) | (simp; omega)) _ | refine Below.alloc ?_ (by first | omega | (simp; done) | (simp; omega)) _ | apply Below.drew))⟩
theorem sMeetIdeals_no (p : Int) (a : Option Addr) (n c : Nat) (xs : List Int) (q : Int) (a' : Option Addr) (n' c' : Nat) (ys : List Int) (w : World) (h : IntsAt w a n xs) (h' : IntsAt w a' n' ys) (hno : ¬ TwoP p xs q ys) :
    Calls Tryz.prog 12 #[.agg #[.int .i64 p, .slice a n c], .agg #[.int .i64 q, .slice a' n' c']] w (RetBox2 w 0 [] false) := by
  have hx : IntsAt (((w.alloc (.cells #[.int .i64 p, .slice a n c] 26)).alloc (.cells #[.int .i64 q, .slice a' n' c'] 26)).alloc (.cells #[.int .i64 0, .slice none 0 0] 26)) a n xs := h.keep (by repeat (first | exact Below.refl _ _ | assumption | refine Below.setCell ?_ (by first | omega | (simp; done) | (simp; omega)) _ | refine Below.alloc ?_ (by first | omega | (simp; done) | (simp; omega)) _ | apply Below.drew))
  have hy : IntsAt (((w.alloc (.cells #[.int .i64 p, .slice a n c] 26)).alloc (.cells #[.int .i64 q, .slice a' n' c'] 26)).alloc (.cells #[.int .i64 0, .slice none 0 0] 26)) a' n' ys := h'.keep (by repeat (first | exact Below.refl _ _ | assumption | refine Below.setCell ?_ (by first | omega | (simp; done) | (simp; omega)) _ | refine Below.alloc ?_ (by first | omega | (simp; done) | (simp; omega)) _ | apply Below.drew))
  have Hx := Lib.hid hx; have Hy := Lib.hid hy; have Hno := Lib.hid hno
  have xR := BoxF.new ((w.alloc (.cells #[.int .i64 p, .slice a n c] 26)).alloc (.cells #[.int .i64 q, .slice a' n' c'] 26)) (.int .i64 0) (.slice none 0 0) 26
  have XR := Lib.hid xR
  clear hx hy h h' hno xR
  go_enter Tryz.func12, Tryz.ntmps12
  go_wp2_with fail
  refine (l29Two_any p a n c xs q a' n' c' ys _ Hx.out Hy.out false (by simp [Hno.out])).mono ?_
  rintro e w1 ⟨rfl, hb⟩
  have hbl : Below w.heap.size w w1 := Below.trans (by repeat (first | exact Below.refl _ _ | assumption | refine Below.setCell ?_ (by first | omega | (simp; done) | (simp; omega)) _ | refine Below.alloc ?_ (by first | omega | (simp; done) | (simp; omega)) _ | apply Below.drew)) (hb.mono (by simp <;> omega))
  obtain ⟨r0, r1, f0, f1, _⟩ := XR.out.keep hb (by simp)
  simp at r0 r1 f0 f1
  have hz : w.heap.size + 3 ≤ w1.heap.size := by have := hb.size; simp at this; omega
  clear hb
  go_wp2_with fail
  refine bodyPost_ret (v := .tuple #[.agg #[.int .i64 0, .slice none 0 0], .bool false]) (by simp [results, Tryz.results12, go_sem, r0, r1]) rfl ⟨none, 0, 0, rfl, Own.nil _ _ _, (by repeat (first | exact Below.refl _ _ | assumption | refine Below.setCell ?_ (by first | omega | (simp; done) | (simp; omega)) _ | refine Below.alloc ?_ (by first | omega | (simp; done) | (simp; omega)) _ | apply Below.drew))⟩

set_option maxRecDepth 100000 in
set_option maxHeartbeats 2000000 in
theorem sSumIdeals_yes (m : Nat) (a : Option Addr) (n c : Nat) (l : List Nat) (a' : Option Addr) (n' c' : Nat) (k : List Nat) (w : World) (h : IntsAt w a n (up l)) (h' : IntsAt w a' n' (up k)) (hf : Fit a n c) (hf' : Fit a' n' c') (hm : m ≤ 6) (h1 : Anti m (up l)) (h2 : Anti m (up k)) (hl : ∀ t ∈ l, t < 64) (hk : ∀ t ∈ k, t < 64) (hn : n ≤ 64) (hn' : n' ≤ 64) :
    Calls Tryz.prog 10 #[.agg #[.int .i64 m, .slice a n c], .agg #[.int .i64 m, .slice a' n' c']] w (RetBox2 w m (up (minL (l ++ k).contains)) true) := by
  have hx : IntsAt (((w.alloc (.cells #[.int .i64 m, .slice a n c] 26)).alloc (.cells #[.int .i64 m, .slice a' n' c'] 26)).alloc (.cells #[.int .i64 0, .slice none 0 0] 26)) a n (up l) := h.keep (by repeat (first | exact Below.refl _ _ | assumption | refine Below.setCell ?_ (by first | omega | (simp; done) | (simp; omega)) _ | refine Below.alloc ?_ (by first | omega | (simp; done) | (simp; omega)) _ | apply Below.drew))
  have hy : IntsAt (((w.alloc (.cells #[.int .i64 m, .slice a n c] 26)).alloc (.cells #[.int .i64 m, .slice a' n' c'] 26)).alloc (.cells #[.int .i64 0, .slice none 0 0] 26)) a' n' (up k) := h'.keep (by repeat (first | exact Below.refl _ _ | assumption | refine Below.setCell ?_ (by first | omega | (simp; done) | (simp; omega)) _ | refine Below.alloc ?_ (by first | omega | (simp; done) | (simp; omega)) _ | apply Below.drew))
  have Hx := Lib.hid hx; have Hy := Lib.hid hy
  have Hf := Lib.hid hf; have Hf' := Lib.hid hf'
  have H1 := Lib.hid h1; have H2 := Lib.hid h2
  have hlk : ∀ s ∈ l ++ k, s < 64 := fun s hs => by
    rcases List.mem_append.1 hs with h | h
    · exact hl s h
    · exact hk s h
  have Hlk := Lib.hid hlk
  clear hx hy h h' hf hf' h1 h2 hl hk hlk
  have e1 : (w.alloc (.cells #[.int .i64 m, .slice a n c] 26)).heap.size = w.heap.size + 1 := by simp
  have e2 : ((w.alloc (.cells #[.int .i64 m, .slice a n c] 26)).alloc (.cells #[.int .i64 m, .slice a' n' c'] 26)).heap.size = w.heap.size + 2 := by simp
  have xA := ((BoxF.new w (.int .i64 m) (.slice a n c) 26).alloc (.cells #[.int .i64 m, .slice a' n' c'] 26)).alloc (.cells #[.int .i64 0, .slice none 0 0] 26)
  have xB := (BoxF.new (w.alloc (.cells #[.int .i64 m, .slice a n c] 26)) (.int .i64 m) (.slice a' n' c') 26).alloc (.cells #[.int .i64 0, .slice none 0 0] 26)
  have xR := BoxF.new ((w.alloc (.cells #[.int .i64 m, .slice a n c] 26)).alloc (.cells #[.int .i64 m, .slice a' n' c'] 26)) (.int .i64 0) (.slice none 0 0) 26
  rw [e1] at xB
  rw [e2] at xR
  have XA := Lib.hid xA; have XB := Lib.hid xB; have XR := Lib.hid xR
  clear e1 e2 xA xB xR
  go_enter Tryz.func10, Tryz.ntmps10
  go_wp2_with fail
  refine (l29Two_any m a n c _ m a' n' c' _ _ Hx.out Hy.out true (by simp [TwoP, H1.out, H2.out])).mono ?_
  rintro e w1 ⟨rfl, hb⟩
  have HB : Hid (Below w.heap.size w w1) := Lib.hid (Below.trans (by repeat (first | exact Below.refl _ _ | assumption | refine Below.setCell ?_ (by first | omega | (simp; done) | (simp; omega)) _ | refine Below.alloc ?_ (by first | omega | (simp; done) | (simp; omega)) _ | apply Below.drew)) (hb.mono (by simp <;> omega)))
  have XR1 := Lib.hid (XR.out.keep hb (by simp))
  have XA1 := Lib.hid (XA.out.keep hb (by simp; omega))
  have XB1 := Lib.hid (XB.out.keep hb (by simp))
  have hz : w.heap.size + 3 ≤ w1.heap.size := by have := hb.size; simp at this; omega
  have Hx1 := Lib.hid (Hx.out.keep hb)
  have Hy1 := Lib.hid (Hy.out.keep hb)
  clear hb
  go_wp2_with fail
  obtain ⟨p0, p1, _, _, _⟩ := XA1.out
  obtain ⟨q0, q1, _, _, _⟩ := XB1.out
  have hn1 : w.heap.size + 1 + 1 ≠ w.heap.size := by omega
  have hn2 : w.heap.size ≠ w.heap.size + 1 + 1 := by omega
  have hn3 : ¬ w.heap.size = w.heap.size + 1 + 1 := by omega
  obtain ⟨W1, hW1⟩ : ∃ W1, W1 = w1.drew.alloc (.cells #[] 3) := ⟨_, rfl⟩
  have HW1 := Lib.hid hW1
  have xo0 := Own.empty 3 w1.drew w1.heap.size (by simp)
  have XO0 := Lib.hid xo0
  have hbw : Below w1.heap.size w1 (w1.drew.alloc (.cells #[] 3)) := ((Below.refl _ w1).drew).alloc (by simp) _
  have HBW := Lib.hid hbw
  have HX1 := Lib.hid (Hx1.out.keep hbw)
  have HY1 := Lib.hid (Hy1.out.keep hbw)
  clear hbw xo0
  go_region_held3 (fun W => W.cell? ⟨w.heap.size, 0, none⟩ = some (.int .i64 m) ∧ W.cell? ⟨w.heap.size, 1, none⟩ = some (.slice a n c) ∧ W.cell? ⟨w.heap.size + 1, 0, none⟩ = some (.int .i64 m) ∧ W.cell? ⟨w.heap.size + 1, 1, none⟩ = some (.slice a' n' c'))
    (first | exact ⟨p0, p1, q0, q1⟩ | exact ⟨s0, s1, u0, u1⟩ | exact ⟨t0, t1, v0, v1⟩ | exact ⟨y0, y1, z0, z1⟩ | go_keep)
    (first
      | (refine step_ap rfl _ _ rfl w1.heap.size _ _ _ _ rfl XO0.out _ _ _ _ rfl HX1.out Hf.out (by omega) (by simp) ?_; intro ad2 d2 w2 hown2 hb2; have HO2 := Lib.hid hown2; have hBB := HBW.out.trans hb2; have XA2 := Lib.hid (XA1.out.keep hBB (by omega)); have XB2 := Lib.hid (XB1.out.keep hBB (by omega)); have XR2 := Lib.hid (XR1.out.keep hBB (by omega)); have HY2 := Lib.hid (Hy1.out.keep hBB); have HB2 := Lib.hid hBB; obtain ⟨s0, s1, _, _, _⟩ := XA2.out; obtain ⟨u0, u1, _, _, _⟩ := XB2.out; clear hown2 hb2 hBB)
      | (refine step_ap rfl _ _ rfl w1.heap.size _ _ _ _ rfl HO2.out _ _ _ _ rfl HY2.out Hf'.out (by omega) HB2.out.size ?_; intro ad3 d3 w3 hown3 hb3; have HO3 := Lib.hid hown3; have hBB := HB2.out.trans hb3; have XA3 := Lib.hid (XA1.out.keep hBB (by omega)); have XB3 := Lib.hid (XB1.out.keep hBB (by omega)); have XR3 := Lib.hid (XR1.out.keep hBB (by omega)); have HB3 := Lib.hid hBB; obtain ⟨t0, t1, _, _, _⟩ := XA3.out; obtain ⟨v0, v1, _, _, _⟩ := XB3.out; clear hown3 hb3 hBB)
      | (go_simp; go_at_call 83; (with_reducible refine (l29Make_any m ad3 _ d3 (l ++ k) _ (by have := HO3.out.reads; rw [Nat.zero_add, List.nil_append, ← up_append] at this; exact this) Hlk.out).mono ?_); rintro e w5 ⟨ad, d, r, rfl, hown, hb5⟩; have hz3 := HB3.out.size; have XR5 := Lib.hid (XR3.out.keep hb5 (by omega)); have HO5 := Lib.hid hown; have HB5 := Lib.hid hb5; have XA5 := Lib.hid (XA3.out.keep hb5 (by omega)); have XB5 := Lib.hid (XB3.out.keep hb5 (by omega)); obtain ⟨y0, y1, _, _, _⟩ := XA5.out; obtain ⟨z0, z1, _, _, _⟩ := XB5.out; obtain ⟨r0, r1, _, _, _⟩ := XR5.out; clear hb5 hown))
  all_goals (go_wp2_with fail)
  refine bodyPost_ret (v := .tuple #[.agg #[.int .i64 m, .slice ad d r], .bool true]) (by simp [results, Tryz.results10, go_sem, r0, r1]) rfl ⟨ad, d, r, rfl, ?_, ?_⟩
  · have := HB.out.size; have := HB3.out.size
    exact ((HO5.out.setBelow _ (by first | omega | (simp; omega))).setBelow _ (by first | omega | (simp; omega))).mono (by omega)
  · have := HB.out.size; have := HB3.out.size
    exact ((((HB.out.trans (HB3.out.mono (by omega))).trans (HB5.out.mono (by omega))).setCell (by first | (simp; done) | (simp; omega)) _).setCell (by first | (simp; done) | (simp; omega)) _)

theorem joins_step {l k : List Nat} {I : Nat} (h : I < l.length) : joins (l.take I) k ++ k.map (nthN l I ||| ·) = joins (l.take (I + 1)) k := by
  unfold joins
  rw [nthN_take l I h, List.flatMap_append]
  simp

set_option maxRecDepth 100000 in
set_option maxHeartbeats 2000000 in
theorem sMeetIdeals_yes (m : Nat) (a : Option Addr) (n c : Nat) (l : List Nat) (a' : Option Addr) (n' c' : Nat) (k : List Nat) (w : World) (h : IntsAt w a n (up l)) (h' : IntsAt w a' n' (up k)) (hm : m ≤ 6) (h1 : Anti m (up l)) (h2 : Anti m (up k)) (hl : ∀ t ∈ l, t < 64) (hk : ∀ t ∈ k, t < 64) (hn : n ≤ 64) (hn' : n' ≤ 64) :
    Calls Tryz.prog 12 #[.agg #[.int .i64 m, .slice a n c], .agg #[.int .i64 m, .slice a' n' c']] w (RetBox2 w m (up (minL (joins l k).contains)) true) := by
  have hx : IntsAt (((w.alloc (.cells #[.int .i64 m, .slice a n c] 26)).alloc (.cells #[.int .i64 m, .slice a' n' c'] 26)).alloc (.cells #[.int .i64 0, .slice none 0 0] 26)) a n (up l) := h.keep (by repeat (first | exact Below.refl _ _ | assumption | refine Below.setCell ?_ (by first | omega | (simp; done) | (simp; omega)) _ | refine Below.alloc ?_ (by first | omega | (simp; done) | (simp; omega)) _ | apply Below.drew))
  have hy : IntsAt (((w.alloc (.cells #[.int .i64 m, .slice a n c] 26)).alloc (.cells #[.int .i64 m, .slice a' n' c'] 26)).alloc (.cells #[.int .i64 0, .slice none 0 0] 26)) a' n' (up k) := h'.keep (by repeat (first | exact Below.refl _ _ | assumption | refine Below.setCell ?_ (by first | omega | (simp; done) | (simp; omega)) _ | refine Below.alloc ?_ (by first | omega | (simp; done) | (simp; omega)) _ | apply Below.drew))
  have Hx := Lib.hid hx; have Hy := Lib.hid hy
  have H1 := Lib.hid h1; have H2 := Lib.hid h2
  have hll := h.len; have hkl := h'.len
  rw [up_len] at hll hkl
  have Hll := Lib.hid hll; have Hkl := Lib.hid hkl
  have Hl := Lib.hid hl; have Hk := Lib.hid hk
  have hlk : ∀ s ∈ joins l k, s < 64 := fun s hs => by
    obtain ⟨x, hx, y, hy, rfl⟩ := mem_joins.1 hs
    exact or_lt64 (hl x hx) (hk y hy)
  have Hlk := Lib.hid hlk
  clear hx hy h h' h1 h2 hl hk hlk hll hkl
  have e1 : (w.alloc (.cells #[.int .i64 m, .slice a n c] 26)).heap.size = w.heap.size + 1 := by simp
  have e2 : ((w.alloc (.cells #[.int .i64 m, .slice a n c] 26)).alloc (.cells #[.int .i64 m, .slice a' n' c'] 26)).heap.size = w.heap.size + 2 := by simp
  have xA := ((BoxF.new w (.int .i64 m) (.slice a n c) 26).alloc (.cells #[.int .i64 m, .slice a' n' c'] 26)).alloc (.cells #[.int .i64 0, .slice none 0 0] 26)
  have xB := (BoxF.new (w.alloc (.cells #[.int .i64 m, .slice a n c] 26)) (.int .i64 m) (.slice a' n' c') 26).alloc (.cells #[.int .i64 0, .slice none 0 0] 26)
  have xR := BoxF.new ((w.alloc (.cells #[.int .i64 m, .slice a n c] 26)).alloc (.cells #[.int .i64 m, .slice a' n' c'] 26)) (.int .i64 0) (.slice none 0 0) 26
  rw [e1] at xB
  rw [e2] at xR
  have XA := Lib.hid xA; have XB := Lib.hid xB; have XR := Lib.hid xR
  clear e1 e2 xA xB xR
  go_enter Tryz.func12, Tryz.ntmps12
  go_wp2_with fail
  refine (l29Two_any m a n c _ m a' n' c' _ _ Hx.out Hy.out true (by simp [TwoP, H1.out, H2.out])).mono ?_
  rintro e w1 ⟨rfl, hb⟩
  have HB : Hid (Below w.heap.size w w1) := Lib.hid (Below.trans (by repeat (first | exact Below.refl _ _ | assumption | refine Below.setCell ?_ (by first | omega | (simp; done) | (simp; omega)) _ | refine Below.alloc ?_ (by first | omega | (simp; done) | (simp; omega)) _ | apply Below.drew)) (hb.mono (by simp <;> omega)))
  have XR1 := Lib.hid (XR.out.keep hb (by simp))
  have XA1 := Lib.hid (XA.out.keep hb (by simp; omega))
  have XB1 := Lib.hid (XB.out.keep hb (by simp))
  have hz : w.heap.size + 3 ≤ w1.heap.size := by have := hb.size; simp at this; omega
  have Hx1 := Lib.hid (Hx.out.keep hb)
  have Hy1 := Lib.hid (Hy.out.keep hb)
  clear hb
  go_wp2_with fail
  go_loopw [6, 7] (fun s i wr => ∃ I : Nat, I ≤ n ∧ i = .int .i64 I ∧ Below w1.heap.size w1 wr ∧ ∃ ad K d, s = .slice ad K d ∧ K ≤ 64 * I ∧ Own 3 wr w1.heap.size ad K d (up (joins (l.take I) k))) (fun _ i _ => n - (intOf i).toNat)
  case atStart => exact ⟨0, Nat.zero_le _, rfl, (by repeat (first | exact Below.refl _ _ | assumption | refine Below.setCell ?_ (by first | omega | (simp; done) | (simp; omega)) _ | refine Below.alloc ?_ (by first | omega | (simp; done) | (simp; omega)) _ | apply Below.drew)), _, 0, 0, rfl, by omega, Own.empty _ _ _ (by first | exact Nat.le_refl _ | simp)⟩
  case round =>
    obtain ⟨I, hI, rfl, hb, ad, K, d, rfl, hK, hown⟩ := hrel
    have HBO := Lib.hid hb; have HO := Lib.hid hown
    have XA2 := Lib.hid (XA1.out.keep hb (by omega))
    have XB2 := Lib.hid (XB1.out.keep hb (by omega))
    have XR2 := Lib.hid (XR1.out.keep hb (by omega))
    obtain ⟨p0, p1, _, _, _⟩ := XA2.out
    obtain ⟨q0, q1, _, _, _⟩ := XB2.out
    have hzr : w1.heap.size ≤ wr.heap.size := hb.size
    clear hb hown
    by_cases hlt : I < n
    · go_wp2_with fail
      go_loopw [6, 8] (fun s i wr => ∃ J : Nat, J ≤ n' ∧ i = .int .i64 J ∧ Below w1.heap.size w1 wr ∧ ∃ ad K d, s = .slice ad K d ∧ K ≤ 64 * I + J ∧ Own 3 wr w1.heap.size ad K d (up (joins (l.take I) k ++ (k.take J).map (nthN l I ||| ·)))) (fun _ i _ => n' - (intOf i).toNat)
      case atStart => exact ⟨0, Nat.zero_le _, rfl, HBO.out, ad, K, d, rfl, by omega, by simpa using HO.out⟩
      case round =>
        clear XA2 XB2 XR2 p0 p1 q0 q1 HBO HO hzr hK
        obtain ⟨J, hJ, rfl, hb, ad, K, d, rfl, hK, hown⟩ := hrel
        have HBO := Lib.hid hb; have HO := Lib.hid hown
        have XA2 := Lib.hid (XA1.out.keep hb (by omega))
        have XB2 := Lib.hid (XB1.out.keep hb (by omega))
        obtain ⟨p0, p1, _, _, _⟩ := XA2.out
        obtain ⟨q0, q1, _, _, _⟩ := XB2.out
        have Hx2 := Lib.hid (Hx1.out.keep hb)
        have Hy2 := Lib.hid (Hy1.out.keep hb)
        have hzr : w1.heap.size ≤ wr.heap.size := hb.size
        clear hb hown
        by_cases hjt : J < n'
        · obtain ⟨b1, o1, rfl, hc1⟩ := Hx2.out.cells (by omega)
          obtain ⟨b2, o2, rfl, hc2⟩ := Hy2.out.cells (by omega)
          have hci := hc1 I hlt
          have hcj := hc2 J hjt
          rw [nth_up] at hci hcj
          clear hc1 hc2
          have hor := w_or (nthN l I) (nthN k J) (Hl.out _ (nthN_mem (by rw [Hll.out]; omega))) (Hk.out _ (nthN_mem (by rw [Hkl.out]; omega)))
          have hone := IntsAt.one wr.drew ((nthN l I ||| nthN k J : Nat) : Int) 3
          have Hone := Lib.hid hone
          have HOd := Lib.hid (HO.out.drew.alloc (.cells #[.int .i64 ((nthN l I ||| nthN k J : Nat) : Int)] 3))
          have hbd : Below w1.heap.size wr (wr.drew.alloc (.cells #[.int .i64 ((nthN l I ||| nthN k J : Nat) : Int)] 3)) := ((Below.refl _ wr).drew).alloc (by simpa using hzr) _
          have HBD := Lib.hid hbd
          clear hone hbd
          go_wp2_with fail
          go_region_held3 (fun W => W.cell? ⟨w.heap.size, 1, none⟩ = some (.slice (some ⟨b1, o1, none⟩) n c) ∧ W.cell? ⟨w.heap.size + 1, 1, none⟩ = some (.slice (some ⟨b2, o2, none⟩) n' c') ∧ W.cell? ⟨b1, o1 + I, none⟩ = some (.int .i64 (nthN l I)) ∧ W.cell? ⟨b2, o2 + J, none⟩ = some (.int .i64 (nthN k J)))
            (first | exact ⟨p1, q1, hci, hcj⟩ | exact ⟨s1, u1, hck, hcl⟩ | go_keep)
            (first
              | (refine step_ap rfl _ _ rfl w1.heap.size _ _ _ _ rfl HOd.out _ _ _ _ rfl Hone.out (Fit.one _) (by omega) (by simp; omega) ?_; intro ad2 d2 w2 hown2 hb2; have HO2 := Lib.hid hown2; have hBB := HBO.out.trans (HBD.out.trans hb2); have XA3 := Lib.hid (XA1.out.keep hBB (by omega)); have XB3 := Lib.hid (XB1.out.keep hBB (by omega)); have Hx3 := Lib.hid (Hx1.out.keep hBB); have Hy3 := Lib.hid (Hy1.out.keep hBB); have HB2 := Lib.hid hBB; have hck := Hx3.out.cellAt I hlt; have hcl := Hy3.out.cellAt J hjt; rw [nth_up] at hck hcl; obtain ⟨s0, s1, _, _, _⟩ := XA3.out; obtain ⟨u0, u1, _, _, _⟩ := XB3.out; clear hown2 hb2 hBB))
          go_wp2_with fail
          go_roundw
          case rel =>
            refine ⟨J + 1, by omega, by go_num, HB2.out, ad2, K + 1, d2, rfl, by omega, ?_⟩
            have := HO2.out
            rw [nthN_take k J (by rw [Hkl.out]; omega), List.map_append, ← List.append_assoc, up_append]
            exact this
          case measure => simp [intOf]; omega
        · obtain rfl : J = n' := by omega
          have hjj : ¬ ((J : Int) < J) := by omega
          go_wp2_with fail
          go_roundw
          case rel =>
            refine ⟨I + 1, by omega, by go_num, HBO.out, ad, K, d, rfl, by omega, ?_⟩
            have := HO.out
            rw [← Hkl.out, List.take_length, joins_step (by rw [Hll.out]; omega)] at this
            exact this
          case measure => simp [intOf]; omega
    · obtain rfl : I = n := by omega
      have hii : ¬ ((I : Int) < I) := by omega
      have HOf : Hid (Own 3 wr w1.heap.size ad K d (up (joins l k))) := Lib.hid (by have := HO.out; rw [← Hll.out, List.take_length] at this; exact this)
      go_wp2_with fail
      refine (l29Make_any m ad K d (joins l k) _ HOf.out.reads Hlk.out).mono ?_
      rintro e w5 ⟨ad5, d5, r5, rfl, hown, hb5⟩
      have XR5 := Lib.hid (XR2.out.keep hb5 (by omega))
      have HO5 := Lib.hid hown; have HB5 := Lib.hid hb5
      obtain ⟨r0, r1, _, _, _⟩ := XR5.out
      clear hown hb5
      go_wp2_with fail
      refine bodyPost_ret (v := .tuple #[.agg #[.int .i64 m, .slice ad5 d5 r5], .bool true]) (by simp [results, Tryz.results12, go_sem, r0, r1]) rfl ⟨ad5, d5, r5, rfl, ?_, ?_⟩
      · have := HB.out.size
        exact ((HO5.out.setBelow _ (by first | omega | (simp; omega))).setBelow _ (by first | omega | (simp; omega))).mono (by omega)
      · have := HB.out.size
        exact ((((HB.out.trans (HBO.out.mono (by omega))).trans (HB5.out.mono (by omega))).setCell (by first | (simp; done) | (simp; omega)) _).setCell (by first | (simp; done) | (simp; omega)) _)
end Go.Proofs.YtihfhfihladlcaaGreatDoor

/- Contracts of GraphOf, the program's and the reference's. -/
import Derived.Test.YtplbegfebnnbaaaFaces4
namespace Go.Proofs.Ytplbegfebnnbaaa
open Go.RowKit
set_option linter.unusedSimpArgs false
set_option linter.unusedVariables false

theorem iGraphOf_no (p : Int) (a : Option Addr) (n c : Nat) (xs : List Int) (w : World) (h : IntsAt w a n xs) (hcap : n ≤ c) (hno : ¬ Anti p xs) :
    Calls Try.prog 154 #[.agg #[.int .i64 p, .slice a n c]] w (RetBox2 w 0 [] false) := by
  have hx : IntsAt ((w.alloc (.cells #[.int .i64 p, .slice a n c] 27)).alloc (.cells #[.int .i64 0, .slice none 0 0] 30)) a n xs := h.keep (by repeat (first | exact Below.refl _ _ | assumption | refine Below.setCell ?_ (by first | omega | (simp; done) | (simp; omega)) _ | refine Below.alloc ?_ (by first | omega | (simp; done) | (simp; omega)) _ | apply Below.drew))
  have Hx := Lib.hid hx; have Hno := Lib.hid hno; have Hcap := Lib.hid hcap
  have xR := BoxF.new (w.alloc (.cells #[.int .i64 p, .slice a n c] 27)) (.int .i64 0) (.slice none 0 0) 30
  have XR := Lib.hid xR
  clear hx h hno hcap xR
  go_enter Try.func154, Try.ntmps154
  go_wp2_with fail
  refine (iIsComplex_any p a n c xs _ Hx.out Hcap.out false (by simp [Hno.out])).mono ?_
  rintro e w1 ⟨rfl, hb⟩
  have hbl : Below w.heap.size w w1 := Below.trans (by repeat (first | exact Below.refl _ _ | assumption | refine Below.setCell ?_ (by first | omega | (simp; done) | (simp; omega)) _ | refine Below.alloc ?_ (by first | omega | (simp; done) | (simp; omega)) _ | apply Below.drew)) (hb.mono (by simp <;> omega))
  obtain ⟨r0, r1, f0, f1, _⟩ := XR.out.keep hb (by simp)
  simp at r0 r1 f0 f1
  have hz : w.heap.size + 2 ≤ w1.heap.size := by have := hb.size; simp at this; omega
  clear hb
  go_wp2_with fail
  refine bodyPost_ret (v := .tuple #[.agg #[.int .i64 0, .slice none 0 0], .bool false]) (by simp [results, Try.results154, go_sem, r0, r1]) rfl ⟨none, 0, 0, rfl, Own.nil _ _ _, (by repeat (first | exact Below.refl _ _ | assumption | refine Below.setCell ?_ (by first | omega | (simp; done) | (simp; omega)) _ | refine Below.alloc ?_ (by first | omega | (simp; done) | (simp; omega)) _ | apply Below.drew))⟩
set_option maxRecDepth 100000 in
set_option maxHeartbeats 2000000 in
theorem iGraphOf_yes (p : Int) (a : Option Addr) (n c : Nat) (l : List Nat) (w : World) (h : IntsAt w a n (up l)) (hcap : n ≤ c) (hA : Anti p (up l)) (hl : ∀ t ∈ l, t < 64) :
    Calls Try.prog 154 #[.agg #[.int .i64 p, .slice a n c]] w (RetBox2 w p (up (ofSize l 2)) true) := by
  have hx : IntsAt ((w.alloc (.cells #[.int .i64 p, .slice a n c] 27)).alloc (.cells #[.int .i64 0, .slice none 0 0] 30)) a n (up l) := h.keep (by repeat (first | exact Below.refl _ _ | assumption | refine Below.setCell ?_ (by first | omega | (simp; done) | (simp; omega)) _ | refine Below.alloc ?_ (by first | omega | (simp; done) | (simp; omega)) _ | apply Below.drew))
  have Hx := Lib.hid hx; have HA := Lib.hid hA; have Hcap := Lib.hid hcap; have Hl := Lib.hid hl
  have xA := (BoxF.new w (.int .i64 p) (.slice a n c) 27).alloc (.cells #[.int .i64 0, .slice none 0 0] 30)
  have xR := BoxF.new (w.alloc (.cells #[.int .i64 p, .slice a n c] 27)) (.int .i64 0) (.slice none 0 0) 30
  have e2 : (w.alloc (.cells #[.int .i64 p, .slice a n c] 27)).heap.size = w.heap.size + 1 := by simp
  rw [e2] at xR
  have XR := Lib.hid xR; have XA := Lib.hid xA
  clear hx h hA hcap hl xA xR e2
  go_enter Try.func154, Try.ntmps154
  go_wp2_with fail
  refine (iIsComplex_any p a n c _ _ Hx.out Hcap.out true (by simp [HA.out])).mono ?_
  rintro e w1 ⟨rfl, hb⟩
  have HB : Hid (Below w.heap.size w w1) := Lib.hid (Below.trans (by repeat (first | exact Below.refl _ _ | assumption | refine Below.setCell ?_ (by first | omega | (simp; done) | (simp; omega)) _ | refine Below.alloc ?_ (by first | omega | (simp; done) | (simp; omega)) _ | apply Below.drew)) (hb.mono (by simp <;> omega)))
  have XR1 := Lib.hid (XR.out.keep hb (by simp))
  have XA1 := Lib.hid (XA.out.keep hb (by simp; omega))
  obtain ⟨p0, p1, _, _, _⟩ := XA1.out
  have hz : w.heap.size + 2 ≤ w1.heap.size := by have := hb.size; simp at this; omega
  have Hx1 := Lib.hid (Hx.out.keep hb)
  clear hb
  go_wp2_with fail
  have Hx2 := Lib.hid (Hx1.out.keep (Below.drew (Below.refl _ _)))
  have XA2 := Lib.hid (XA1.out.drew); have XR2 := Lib.hid (XR1.out.drew)
  have hn1 : w.heap.size + 1 ≠ w.heap.size := by omega
  have hn2 : w.heap.size ≠ w.heap.size + 1 := by omega
  have hn3 : ¬ w.heap.size = w.heap.size + 1 := by omega
  go_region_held3 (fun W => W.cell? ⟨w.heap.size, 0, none⟩ = some (.int .i64 p) ∧ W.cell? ⟨w.heap.size, 1, none⟩ = some (.slice a n c))
    (first | exact ⟨p0, p1⟩ | exact ⟨y0, y1⟩ | go_keep)
    (first
      | (go_simp; go_at_call 158; (with_reducible refine (iOfSize_yes p a n c l 2 _ Hx2.out Hcap.out HA.out Hl.out).mono ?_); rintro e w5 ⟨ad, d, r, rfl, hown, hb5⟩; have XR5 := Lib.hid (XR2.out.keep hb5 (by simp; omega)); have HO5 := Lib.hid hown; have HB5 := Lib.hid hb5; have XA5 := Lib.hid (XA2.out.keep hb5 (by simp; omega)); obtain ⟨y0, y1, _, _, _⟩ := XA5.out; obtain ⟨r0, r1, _, _, _⟩ := XR5.out; clear hb5 hown))
  all_goals (go_wp2_with fail)
  refine bodyPost_ret (v := .tuple #[.agg #[.int .i64 p, .slice ad d r], .bool true]) (by simp [results, Try.results154, go_sem, r0, r1]) rfl ⟨ad, d, r, rfl, ?_, ?_⟩
  · exact ((HO5.out.setBelow _ (by first | omega | (simp; omega))).setBelow _ (by first | omega | (simp; omega))).mono (by first | omega | (simp; omega))
  · have hB5 := HB5.out
    have hd : Below w.heap.size w1 w1.drew := (Below.refl _ _).drew
    exact ((((HB.out.trans hd).trans (hB5.mono (by first | omega | (simp; omega)))).setCell (by first | (simp; done) | (simp; omega)) _).setCell (by first | (simp; done) | (simp; omega)) _)

end Go.Proofs.Ytplbegfebnnbaaa

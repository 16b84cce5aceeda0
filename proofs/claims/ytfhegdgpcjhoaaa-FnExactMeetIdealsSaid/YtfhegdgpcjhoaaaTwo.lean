/- Contracts on two ideals: l29Two. -/
import Derived.Test.YtfhegdgpcjhoaaaIdeal2
namespace Go.Proofs.Ytfhegdgpcjhoaaa
open Go.RowKit
set_option linter.unusedSimpArgs false
set_option linter.unusedVariables false

/-- two ideals on the same points -/
def TwoP (p : Int) (xs : List Int) (q : Int) (ys : List Int) : Prop := Anti p xs ∧ Anti q ys ∧ p = q
theorem two_ways {p : Int} {xs : List Int} {q : Int} {ys : List Int} {b : Bool} (hb : b = true ↔ TwoP p xs q ys) :
    (¬ Anti p xs ∧ b = false) ∨ (Anti p xs ∧ ¬ Anti q ys ∧ b = false) ∨ (Anti p xs ∧ Anti q ys ∧ (p == q) = b) := by
  by_cases h1 : Anti p xs
  · by_cases h2 : Anti q ys
    · refine .inr (.inr ⟨h1, h2, ?_⟩)
      rw [Bool.eq_iff_iff, hb, beq_iff_eq]
      exact ⟨fun h => ⟨h1, h2, h⟩, fun h => h.2.2⟩
    · refine .inr (.inl ⟨h1, h2, ?_⟩)
      cases b
      · rfl
      · exact absurd (hb.1 rfl).2.1 h2
  · refine .inl ⟨h1, ?_⟩
    cases b
    · rfl
    · exact absurd (hb.1 rfl).1 h1

set_option maxHeartbeats 1000000 in
theorem l29Two_any (p : Int) (a : Option Addr) (n c : Nat) (xs : List Int) (q : Int) (a' : Option Addr) (n' c' : Nat) (ys : List Int) (w : World) (h : IntsAt w a n xs) (h' : IntsAt w a' n' ys) (b : Bool) (hb : b = true ↔ TwoP p xs q ys) :
    Calls Try.prog 95 #[.agg #[.int .i64 p, .slice a n c], .agg #[.int .i64 q, .slice a' n' c']] w fun e w' => e = .returned (.bool b) ∧ Below w.heap.size w w' := by
  have hx : IntsAt ((w.alloc (.cells #[.int .i64 p, .slice a n c] 51)).alloc (.cells #[.int .i64 q, .slice a' n' c'] 51)) a n xs := h.keep (by repeat (first | exact Below.refl _ _ | assumption | refine Below.setCell ?_ (by first | omega | (simp; done) | (simp; omega)) _ | refine Below.alloc ?_ (by first | omega | (simp; done) | (simp; omega)) _ | apply Below.drew))
  have hy : IntsAt ((w.alloc (.cells #[.int .i64 p, .slice a n c] 51)).alloc (.cells #[.int .i64 q, .slice a' n' c'] 51)) a' n' ys := h'.keep (by repeat (first | exact Below.refl _ _ | assumption | refine Below.setCell ?_ (by first | omega | (simp; done) | (simp; omega)) _ | refine Below.alloc ?_ (by first | omega | (simp; done) | (simp; omega)) _ | apply Below.drew))
  have Hx := Lib.hid hx; have Hy := Lib.hid hy
  clear hx hy h h'
  rcases two_ways hb with ⟨h1, rfl⟩ | ⟨h1, h2, rfl⟩ | ⟨h1, h2, hpq⟩
  · have H1 := Lib.hid h1; clear h1 hb
    go_enter Try.func95, Try.ntmps95
    go_wp2_with fail
    refine (sIsIdeal_any p a n c xs _ Hx.out false (by simp [H1.out])).mono ?_
    rintro e w1 ⟨rfl, hb⟩
    have HB : Hid (Below w.heap.size w w1) := Lib.hid (Below.trans (by repeat (first | exact Below.refl _ _ | assumption | refine Below.setCell ?_ (by first | omega | (simp; done) | (simp; omega)) _ | refine Below.alloc ?_ (by first | omega | (simp; done) | (simp; omega)) _ | apply Below.drew)) (hb.mono (by simp <;> omega)))
    clear hb
    go_wp2_with fail
    go_ret
    exact ⟨rfl, HB.out⟩
  · have H1 := Lib.hid h1; have H2 := Lib.hid h2; clear h1 h2 hb
    go_enter Try.func95, Try.ntmps95
    go_wp2_with fail
    refine (sIsIdeal_any p a n c xs _ Hx.out true (by simp [H1.out])).mono ?_
    rintro e w1 ⟨rfl, hb⟩
    obtain ⟨hc, hf⟩ := bcell hb
    have hz : w.heap.size + 2 ≤ w1.heap.size := by have := hb.size; simp at this; omega
    have Hy1 := Lib.hid (Hy.out.keep hb)
    have HB : Hid (Below w.heap.size w w1) := Lib.hid (Below.trans (by repeat (first | exact Below.refl _ _ | assumption | refine Below.setCell ?_ (by first | omega | (simp; done) | (simp; omega)) _ | refine Below.alloc ?_ (by first | omega | (simp; done) | (simp; omega)) _ | apply Below.drew)) (hb.mono (by simp <;> omega)))
    clear hb
    go_wp2_with fail
    refine (sIsIdeal_any q a' n' c' ys _ Hy1.out false (by simp [H2.out])).mono ?_
    rintro e w2 ⟨rfl, hb⟩
    have HB2 : Hid (Below w.heap.size w w2) := Lib.hid (HB.out.trans (hb.mono HB.out.size))
    clear hb
    go_wp2_with fail
    go_ret
    exact ⟨rfl, HB2.out⟩
  · have H1 := Lib.hid h1; have H2 := Lib.hid h2; clear h1 h2 hb
    go_enter Try.func95, Try.ntmps95
    go_wp2_with fail
    refine (sIsIdeal_any p a n c xs _ Hx.out true (by simp [H1.out])).mono ?_
    rintro e w1 ⟨rfl, hb⟩
    have xA := ((BoxF.new w (.int .i64 p) (.slice a n c) 51).alloc (.cells #[.int .i64 q, .slice a' n' c'] 51)).keep hb (by simp; omega)
    have xB := (BoxF.new (w.alloc (.cells #[.int .i64 p, .slice a n c] 51)) (.int .i64 q) (.slice a' n' c') 51).keep hb (by simp)
    have eB : (w.alloc (.cells #[.int .i64 p, .slice a n c] 51)).heap.size = w.heap.size + 1 := by simp
    rw [eB] at xB
    have XA := Lib.hid xA; have XB := Lib.hid xB
    have hz : w.heap.size + 2 ≤ w1.heap.size := by have := hb.size; simp at this; omega
    have Hy1 := Lib.hid (Hy.out.keep hb)
    have HB : Hid (Below w.heap.size w w1) := Lib.hid (Below.trans (by repeat (first | exact Below.refl _ _ | assumption | refine Below.setCell ?_ (by first | omega | (simp; done) | (simp; omega)) _ | refine Below.alloc ?_ (by first | omega | (simp; done) | (simp; omega)) _ | apply Below.drew)) (hb.mono (by simp <;> omega)))
    obtain ⟨a0, a1, _, _, _⟩ := xA
    obtain ⟨b0, b1, _, _, _⟩ := xB
    clear hb eB
    go_wp2_with fail
    refine (sIsIdeal_any q a' n' c' ys _ Hy1.out true (by simp [H2.out])).mono ?_
    rintro e w2 ⟨rfl, hb⟩
    have HB2 : Hid (Below w.heap.size w w2) := Lib.hid (HB.out.trans (hb.mono HB.out.size))
    obtain ⟨p0, p1, _, _, _⟩ := XA.out.keep hb (by omega)
    obtain ⟨q0, q1, _, _, _⟩ := XB.out.keep hb (by omega)
    clear hb a0 a1 b0 b1
    cases b
    · go_wp2_with fail
      go_ret
      exact ⟨rfl, HB2.out⟩
    · go_wp2_with fail
      go_ret
      exact ⟨rfl, HB2.out⟩
end Go.Proofs.Ytfhegdgpcjhoaaa

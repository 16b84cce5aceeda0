/- Contracts of FaceCounts at every argument, the program's and the reference's. -/
import Derived.Test.YtihfhfihladlcaaGreatDoorCounts2
namespace Go.Proofs.YtihfhfihladlcaaGreatDoor
set_option maxRecDepth 20000
open Go.RowKit
set_option linter.unusedSimpArgs false
set_option linter.unusedVariables false

/-- f are the face counts of (p, xs) -/
def Cnts (p : Int) (xs : List Int) (f : List Nat) : Prop := (¬ Anti p xs ∧ f = []) ∨ ∃ l, xs = up l ∧ Anti p (up l) ∧ (∀ t ∈ l, t < 64) ∧ f = cntOf (isFace l)
theorem Cnts.is (p : Int) (xs : List Int) : ∃ f, Cnts p xs f := by
  by_cases h : Anti p xs
  · obtain ⟨l, rfl, hl2, hs, _⟩ := h.nat
    exact ⟨_, .inr ⟨l, rfl, h, fun t ht => (hl2 t ht).2, rfl⟩⟩
  · exact ⟨_, .inl ⟨h, rfl⟩⟩
theorem Cnts.len {p : Int} {xs : List Int} {f : List Nat} (h : Cnts p xs f) : f.length ≤ 7 := by
  rcases h with ⟨_, rfl⟩ | ⟨l, _, _, _, rfl⟩
  · simp
  · exact cnt_len _
theorem Cnts.le {p : Int} {xs : List Int} {f : List Nat} (h : Cnts p xs f) : ∀ x ∈ f, x ≤ 64 := by
  rcases h with ⟨_, rfl⟩ | ⟨l, _, _, _, rfl⟩
  · simp
  · exact cnt_le _

theorem sCounts_no (p : Int) (a : Option Addr) (n c : Nat) (xs : List Int) (w : World) (h : IntsAt w a n xs) (hno : ¬ Anti p xs) :
    Calls Tryz.prog 60 #[.agg #[.int .i64 p, .slice a n c]] w (RetInts w []) := by
  have hx : IntsAt ((w.alloc (.cells #[.int .i64 p, .slice a n c] 32)).alloc (.cells #[] 3)) a n xs := h.keep (by repeat (first | exact Below.refl _ _ | assumption | refine Below.setCell ?_ (by first | omega | (simp; done) | (simp; omega)) _ | refine Below.alloc ?_ (by first | omega | (simp; done) | (simp; omega)) _ | apply Below.drew))
  have Hx := Lib.hid hx; have Hno := Lib.hid hno
  clear hx h hno
  go_enter Tryz.func60, Tryz.ntmps60
  go_wp2_with fail
  refine (sFacesOf_no p a n c xs _ Hx.out Hno.out).mono ?_
  rintro e w1 ⟨ad, m, d, rfl, hown, hb⟩
  have HO0 : Hid (Own 3 w1 w.heap.size (some ⟨w.heap.size + 1, 0, none⟩) 0 0 []) := Lib.hid (by
    have := (Own.empty 3 (w.alloc (.cells #[.int .i64 p, .slice a n c] 32)) w.heap.size (by simp)).keep hb
    simp only [World.size_alloc] at this; exact this)
  have HB : Hid (Below w.heap.size w w1) := Lib.hid (Below.trans (by repeat (first | exact Below.refl _ _ | assumption | refine Below.setCell ?_ (by first | omega | (simp; done) | (simp; omega)) _ | refine Below.alloc ?_ (by first | omega | (simp; done) | (simp; omega)) _ | apply Below.drew)) (hb.mono (by simp <;> omega)))
  obtain rfl : m = 0 := by have := hown.len; simpa using this.symm
  clear hb hown
  go_wp2_with fail
  go_loopw [3, 5] (fun f i wr => f = .slice (some ⟨w.heap.size + 1, 0, none⟩) 0 0 ∧ i = .int .i64 0 ∧ Below w1.heap.size w1 wr) (fun _ _ _ => 0)
  case atStart => exact ⟨rfl, rfl, Below.refl _ _⟩
  case round =>
    obtain ⟨rfl, rfl, hbr⟩ := hrel
    have HBr := Lib.hid hbr; clear hbr
    go_wp2_with fail
    go_ret
    exact ⟨_, 0, 0, rfl, HO0.out.keep HBr.out, HB.out.trans (HBr.out.mono HB.out.size)⟩
theorem sCounts_any (p : Int) (a : Option Addr) (n c : Nat) (xs : List Int) (f : List Nat) (w : World) (h : IntsAt w a n xs) (hC : Cnts p xs f) :
    Calls Tryz.prog 60 #[.agg #[.int .i64 p, .slice a n c]] w (RetInts w (up f)) := by
  rcases hC with ⟨hno, rfl⟩ | ⟨l, rfl, hA, hl, rfl⟩
  · exact sCounts_no p a n c xs w h hno
  · exact sCounts_yes p a n c l w h hA hl
end Go.Proofs.YtihfhfihladlcaaGreatDoor

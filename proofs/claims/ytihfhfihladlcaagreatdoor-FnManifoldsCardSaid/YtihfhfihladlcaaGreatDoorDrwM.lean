/- DrawEdgeComplex of the reference. -/
import Derived.Test.YtihfhfihladlcaaGreatDoorDrw7
import Derived.Test.YtihfhfihladlcaaGreatDoorDrw9
namespace Go.Proofs.YtihfhfihladlcaaGreatDoor
set_option maxRecDepth 20000
open Go.RowKit
set_option linter.unusedSimpArgs false
set_option linter.unusedVariables false

def RetCxM (w : World) (e : Ending) (w' : World) : Prop :=
  ∃ p ad n c xs, e = .returned (.agg #[.int .i64 p, .slice ad n c]) ∧ Own 3 w' w.heap.size ad n c xs ∧ (xs.length ≤ 1101 ∧ 0 ≤ p ∧ p ≤ 7) ∧ Below w.heap.size w w'
theorem drawEdgeComplex_any (a : Option Addr) (n c : Nat) (w : World) (hy : CodeAt w a n) (hn : n ≤ 1048576) :
    Calls Tryz.prog 65 #[.slice a n c] w (RetCxM w) := by
  have XR0 := Lib.hid (BoxF.new w (.int .i64 0) (.slice none 0 0) 32)
  obtain ⟨W0, hW0⟩ : ∃ W0, W0 = w.alloc (.cells #[.int .i64 0, .slice none 0 0] 32) := ⟨_, rfl⟩
  rw [← hW0] at XR0
  have Hz0 : Hid (W0.heap.size = w.heap.size + 1) := Lib.hid (by rw [hW0]; simp)
  have HB0 : Hid (Below w.heap.size w W0) := Lib.hid (by rw [hW0]; exact (by repeat (first | exact Below.refl _ _ | assumption | refine Below.setCell ?_ (by first | omega | (simp; done) | (simp; omega)) _ | refine Below.alloc ?_ (by first | omega | (simp; done) | (simp; omega)) _ | apply Below.drew)))
  have HY0 : Hid (CodeAt W0 a n) := Lib.hid (hy.keep HB0.out)
  have HW0 := Lib.hid hW0
  clear hy hW0
  go_enter Tryz.func65, Tryz.ntmps65
  go_wp2_with fail
  rw [← HW0.out]
  refine (l1New_any a n c W0 HY0.out hn).mono ?_
  rintro e w1 ⟨rfl, hb1, hc1⟩
  have hz1 : w.heap.size + 1 ≤ w1.heap.size := by have := hb1.size; have := Hz0.out; omega
  have XR1 := Lib.hid (XR0.out.keep hb1 (by have := Hz0.out; omega))
  have HB1 : Hid (Below w.heap.size w w1) := Lib.hid (HB0.out.trans (hb1.mono (by have := Hz0.out; omega)))
  obtain ⟨g, hg⟩ : ∃ g, g = W0.heap.size := ⟨_, rfl⟩
  rw [← hg] at hc1
  rw [← hg]
  have hgw : w.heap.size < g := by have := Hz0.out; omega
  have HC1 := Lib.hid hc1
  clear hb1 hc1 hg
  go_wp2_with fail
  refine (l23Draw_any g w1 HC1.out).mono ?_
  rintro e w2 ⟨v, rfl, ⟨p, ad, k, d, xs, rfl, hown, hxl, hp0, hp7⟩, hg2, hc2⟩
  have hb2 : Below w.heap.size w1 w2 := hg2.belowNew (by omega) (by omega)
  have HB2 := Lib.hid (HB1.out.trans hb2)
  have XR2 := Lib.hid (XR1.out.chg hg2 (by omega))
  have HO2 := Lib.hid hown
  clear hg2 hc2 hown hb2
  obtain ⟨r0, r1, rf0, rf1, _⟩ := XR2.out
  go_wp2_with fail
  refine bodyPost_ret (v := .agg #[.int .i64 p, .slice ad k d]) (by simp [results, Tryz.results65, go_sem, r0, r1]) rfl ⟨p, ad, k, d, xs, rfl, ?_, ⟨hxl, hp0, hp7⟩, ?_⟩
  · exact Row.mono (Row.setBelow (Row.setBelow HO2.out _ (by omega)) _ (by omega)) (by omega)
  · exact (HB2.out.setCell (by simp) _).setCell (by simp) _
end Go.Proofs.YtihfhfihladlcaaGreatDoor

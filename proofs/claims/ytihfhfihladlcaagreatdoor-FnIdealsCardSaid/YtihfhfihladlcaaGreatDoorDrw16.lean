/- The reference's drawing of two ideals: DrawSumIdeals. -/
import Derived.Deep.RegionHeld3
import Derived.Deep.DeepCutAuto
import Derived.Test.YtihfhfihladlcaaGreatDoorDrw15
namespace Go.Proofs.YtihfhfihladlcaaGreatDoor
set_option maxRecDepth 20000
open Go.RowKit
set_option linter.unusedSimpArgs false
set_option linter.unusedVariables false

set_option maxHeartbeats 1000000 in
theorem drawSumIdeals_any (a : Option Addr) (n c : Nat) (w : World) (hy : CodeAt w a n) (hn : n ≤ 1048576) :
    Calls Tryz.prog 8 #[.slice a n c] w (RetCx2 w) := by
  obtain ⟨W0, hW0⟩ : ∃ W0, W0 = (w.alloc (.cells #[.int .i64 0, .slice none 0 0] 26)).alloc (.cells #[.int .i64 0, .slice none 0 0] 26) := ⟨_, rfl⟩
  have hz0 : W0.heap.size = w.heap.size + 2 := by rw [hW0]; simp
  have XA0 : Hid (BoxF W0 w.heap.size (.int .i64 0) (.slice none 0 0)) := Lib.hid (by rw [hW0]; exact (BoxF.new _ _ _ _).alloc _)
  have XB0 : Hid (BoxF W0 (w.heap.size + 1) (.int .i64 0) (.slice none 0 0)) := Lib.hid (by
    have := BoxF.new (w.alloc (.cells #[.int .i64 0, .slice none 0 0] 26)) (.int .i64 0) (.slice none 0 0) 26
    rw [World.size_alloc] at this
    rw [hW0]; exact this)
  have HB0 : Hid (Below w.heap.size w W0) := Lib.hid (by rw [hW0]; exact (by repeat (first | exact Below.refl _ _ | assumption | refine Below.setCell ?_ (by first | omega | (simp; done) | (simp; omega)) _ | refine Below.alloc ?_ (by first | omega | (simp; done) | (simp; omega)) _ | apply Below.drew)))
  have HY0 : Hid (CodeAt W0 a n) := Lib.hid (hy.keep HB0.out)
  have HW0 := Lib.hid hW0
  clear hy hW0
  go_enter Tryz.func8, Tryz.ntmps8
  go_wp2_with fail
  rw [← HW0.out]
  refine (l29Both_any a n c W0 HY0.out hn).mono ?_
  rintro e w1 ⟨p, ad, k, d, xs, q, ad2, k2, d2, ys, rfl, own1, hxl, own2, hyl, hb1⟩
  have HB1 : Hid (Below w.heap.size w w1) := Lib.hid (HB0.out.trans (hb1.mono HB0.out.size))
  have XA1 := Lib.hid (XA0.out.keep hb1 (by omega)); have XB1 := Lib.hid (XB0.out.keep hb1 (by omega))
  have HO1 := Lib.hid own1; have HY1 := Lib.hid own2; have HX := Lib.hid hxl; have HYl := Lib.hid hyl
  have hz1 : W0.heap.size ≤ w1.heap.size := hb1.size
  obtain ⟨G, hG⟩ : ∃ G, G = w1.heap.size := ⟨_, rfl⟩
  obtain ⟨W3, hW3⟩ : ∃ W3, W3 = (w1.alloc (.cells #[.int .i64 p, .slice ad k d] 26)).alloc (.cells #[.int .i64 q, .slice ad2 k2 d2] 26) := ⟨_, rfl⟩
  have XC3 : Hid (BoxF W3 G (.int .i64 p) (.slice ad k d)) := Lib.hid (by rw [hW3, hG]; exact (BoxF.new _ _ _ _).alloc _)
  have XD3 : Hid (BoxF W3 (G + 1) (.int .i64 q) (.slice ad2 k2 d2)) := Lib.hid (by
    have := BoxF.new (w1.alloc (.cells #[.int .i64 p, .slice ad k d] 26)) (.int .i64 q) (.slice ad2 k2 d2) 26
    rw [World.size_alloc] at this
    rw [hW3, hG]; exact this)
  have XA3 : Hid (BoxF W3 w.heap.size (.int .i64 0) (.slice none 0 0)) := Lib.hid (by rw [hW3]; exact (XA1.out.alloc _).alloc _)
  have XB3 : Hid (BoxF W3 (w.heap.size + 1) (.int .i64 0) (.slice none 0 0)) := Lib.hid (by rw [hW3]; exact (XB1.out.alloc _).alloc _)
  have HB3 : Hid (Below w.heap.size w W3) := Lib.hid (by rw [hW3]; exact (HB1.out.alloc HB1.out.size _).alloc (by have := HB1.out.size; simp; omega) _)
  have HO3 : Hid (Own 3 W3 W0.heap.size ad k d xs) := Lib.hid (by rw [hW3]; exact Own.alloc (Own.alloc HO1.out _) _)
  have HY3 : Hid (Own 3 W3 W0.heap.size ad2 k2 d2 ys) := Lib.hid (by rw [hW3]; exact Own.alloc (Own.alloc HY1.out _) _)
  have HG := Lib.hid hG; have HW3 := Lib.hid hW3
  have hGw : w.heap.size + 2 ≤ G := by omega
  clear hb1 own1 own2 hxl hyl HB0 XA0 XB0 hG hW3 XA1 XB1 HO1 HY1 HB1
  go_upto_region 2 with fail
  rw [← HG.out, ← HW3.out]
  obtain ⟨r0, r1, rf0, rf1, _⟩ := XA3.out
  obtain ⟨s0, s1, sf0, sf1, _⟩ := XB3.out
  obtain ⟨c0, c1, _, _, _⟩ := XC3.out
  obtain ⟨d0, d1, _, _, _⟩ := XD3.out
  obtain ⟨e0, e1, _, _, _⟩ := (XD3.out.setOther ⟨w.heap.size, 0, none⟩ (.int .i64 p) (by simp only; omega)).setOther ⟨w.heap.size, 1, none⟩ (.slice ad k d) (by simp only; omega)
  obtain ⟨t0, t1, tf0, tf1, _⟩ := (XB3.out.setOther ⟨w.heap.size, 0, none⟩ (.int .i64 p) (by simp only; omega)).setOther ⟨w.heap.size, 1, none⟩ (.slice ad k d) (by simp only; omega)
  go_region
  all_goals (
    go_wp2_with fail
    refine bodyPost_ret (v := .tuple #[.agg #[.int .i64 p, .slice ad k d], .agg #[.int .i64 q, .slice ad2 k2 d2]]) (by simp [results, Tryz.results8, go_sem, r0, r1, s0, s1, t0, t1]) rfl ⟨p, ad, k, d, xs, q, ad2, k2, d2, ys, rfl, ?_, HX.out, ?_, HYl.out, ?_⟩
    · exact Row.mono (Row.setBelow (Row.setBelow (Row.setBelow (Row.setBelow HO3.out.drew _ (by omega)) _ (by omega)) _ (by omega)) _ (by omega)) (by omega)
    · exact Row.mono (Row.setBelow (Row.setBelow (Row.setBelow (Row.setBelow HY3.out.drew _ (by omega)) _ (by omega)) _ (by omega)) _ (by omega)) (by omega)
    · exact (((HB3.out.drew.setCell (by simp) _).setCell (by simp) _).setCell (by simp) _).setCell (by simp) _)
end Go.Proofs.YtihfhfihladlcaaGreatDoor

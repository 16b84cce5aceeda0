/- Contracts of the copies of a complex, the program's and the reference's. -/
import Derived.Test.YtnapicpeccjkoaaRunM
import Derived.Test.YtnapicpeccjkoaaPrimes
import Derived.Test.YtnapicpeccjkoaaStep
import Derived.Deep.RegionHeld3
import Derived.Deep.RegionWith
namespace Go.Proofs.Ytnapicpeccjkoaa
open Go.RowKit
set_option linter.unusedSimpArgs false
set_option linter.unusedVariables false

set_option maxRecDepth 100000 in
set_option maxHeartbeats 1000000 in
theorem iCopy_any (p : Int) (a : Option Addr) (n c : Nat) (xs : List Int) (w : World) (h : IntsAt w a n xs) (hf : Fit a n c) (hn : n < 1000000000) :
    Calls Try.prog 86 #[.agg #[.int .i64 p, .slice a n c]] w (RetBox w p xs) := by
  obtain ⟨w0, hw0⟩ : ∃ w0, w0 = (w.alloc (.cells #[.int .i64 p, .slice a n c] 27)).alloc (.cells #[.int .i64 0, .slice none 0 0] 27) := ⟨_, rfl⟩
  have hx : IntsAt w0.drew a n xs := by rw [hw0]; exact h.keep (by repeat (first | exact Below.refl _ _ | assumption | refine Below.setCell ?_ (by first | omega | (simp; done) | (simp; omega)) _ | refine Below.alloc ?_ (by first | omega | (simp; done) | (simp; omega)) _ | apply Below.drew))
  have hB : Below w.heap.size w w0 := by rw [hw0]; exact (by repeat (first | exact Below.refl _ _ | assumption | refine Below.setCell ?_ (by first | omega | (simp; done) | (simp; omega)) _ | refine Below.alloc ?_ (by first | omega | (simp; done) | (simp; omega)) _ | apply Below.drew))
  have hz0 : w0.heap.size = w.heap.size + 2 := by rw [hw0]; simp
  have xR : BoxF w0 (w.heap.size + 1) (.int .i64 0) (.slice none 0 0) := by
    rw [hw0, show w.heap.size + 1 = (w.alloc (.cells #[.int .i64 p, .slice a n c] 27)).heap.size by simp]
    exact BoxF.new _ _ _ _
  have xA : BoxF w0 w.heap.size (.int .i64 p) (.slice a n c) := by
    rw [hw0]
    exact (BoxF.new w (.int .i64 p) (.slice a n c) 27).alloc _
  have Hx := Lib.hid hx; have HB := Lib.hid hB; have XR := Lib.hid xR; have XA := Lib.hid xA; have HW0 := Lib.hid hw0; have HF := Lib.hid hf
  clear hx hB xR xA hw0 h hf
  go_enter Try.func86, Try.ntmps86
  go_wp2_with fail
  rw [← HW0.out]
  obtain ⟨p0, p1, _, _, _⟩ := XA.out
  have XRd := Lib.hid XR.out.drew; have XAd := Lib.hid XA.out.drew
  go_region_with (go_at_call 108; (with_reducible refine (clone_any a n c xs _ Hx.out HF.out hn).mono ?_); rintro e w2 ⟨ad2, n2, c2, rfl, hown2, hb2⟩; have HO2 := Lib.hid hown2; have HB2 := Lib.hid hb2; obtain ⟨y0, y1, _, _, _⟩ := XAd.out.keep hb2 (by simp; omega); obtain ⟨r0, r1, _, _, _⟩ := XRd.out.keep hb2 (by simp; omega); clear hown2 hb2)
  all_goals go_wp2_with fail
  all_goals (refine bodyPost_ret (v := .agg #[.int .i64 p, .slice ad2 n2 c2]) (by simp [results, Try.results86, go_sem, r0, r1]) rfl ⟨ad2, n2, c2, rfl, ?_, ?_⟩)
  all_goals first
    | exact ((HO2.out.setBelow _ (by first | omega | (simp; omega))).setBelow _ (by first | omega | (simp; omega))).mono (by first | omega | (simp; omega))
    | exact ((HB.out.drew.trans (HB2.out.mono (by first | omega | (simp; omega)))).setCell (by first | (simp; done) | (simp; omega)) _).setCell (by first | (simp; done) | (simp; omega)) _
set_option maxRecDepth 100000 in
set_option maxHeartbeats 1000000 in
theorem sCopy_any (p : Int) (a : Option Addr) (n c : Nat) (xs : List Int) (w : World) (h : IntsAt w a n xs) (hf : Fit a n c) (hn : n < 1000000000) :
    Calls Try.prog 85 #[.agg #[.int .i64 p, .slice a n c]] w (RetBox w p xs) := by
  obtain ⟨w0, hw0⟩ : ∃ w0, w0 = (w.alloc (.cells #[.int .i64 p, .slice a n c] 27)).alloc (.cells #[.int .i64 0, .slice none 0 0] 27) := ⟨_, rfl⟩
  have hx : IntsAt (w0.alloc (.cells #[] 3)).drew a n xs := by rw [hw0]; exact h.keep (by repeat (first | exact Below.refl _ _ | assumption | refine Below.setCell ?_ (by first | omega | (simp; done) | (simp; omega)) _ | refine Below.alloc ?_ (by first | omega | (simp; done) | (simp; omega)) _ | apply Below.drew))
  have hB : Below w.heap.size w w0 := by rw [hw0]; exact (by repeat (first | exact Below.refl _ _ | assumption | refine Below.setCell ?_ (by first | omega | (simp; done) | (simp; omega)) _ | refine Below.alloc ?_ (by first | omega | (simp; done) | (simp; omega)) _ | apply Below.drew))
  have hz0 : w0.heap.size = w.heap.size + 2 := by rw [hw0]; simp
  have xR : BoxF w0 (w.heap.size + 1) (.int .i64 0) (.slice none 0 0) := by
    rw [hw0, show w.heap.size + 1 = (w.alloc (.cells #[.int .i64 p, .slice a n c] 27)).heap.size by simp]
    exact BoxF.new _ _ _ _
  have xA : BoxF w0 w.heap.size (.int .i64 p) (.slice a n c) := by
    rw [hw0]
    exact (BoxF.new w (.int .i64 p) (.slice a n c) 27).alloc _
  have hE : Own 3 (w0.alloc (.cells #[] 3)).drew (w.heap.size + 2) (some ⟨w.heap.size + 2, 0, none⟩) 0 0 [] := by
    have := (Own.empty 3 w0 w0.heap.size (Nat.le_refl _)).drew
    rw [hz0] at this; exact this
  have Hx := Lib.hid hx; have HB := Lib.hid hB; have XR := Lib.hid xR; have XA := Lib.hid xA; have HW0 := Lib.hid hw0; have HF := Lib.hid hf; have HE := Lib.hid hE
  clear hx hB xR xA hw0 h hf hE
  go_enter Try.func85, Try.ntmps85
  go_wp2_with fail
  rw [← HW0.out]
  obtain ⟨p0, p1, _, _, _⟩ := XA.out
  have XRd := Lib.hid (XR.out.alloc (.cells #[] 3)).drew; have XAd := Lib.hid (XA.out.alloc (.cells #[] 3)).drew
  go_region_held3 (fun W => W.cell? ⟨w.heap.size, 0, none⟩ = some (.int .i64 p) ∧ W.cell? ⟨w.heap.size, 1, none⟩ = some (.slice a n c)) (first | exact ⟨p0, p1⟩ | exact ⟨y0, y1⟩ | go_keep) (first
    | (refine step_ap rfl _ _ rfl (w.heap.size + 2) _ _ _ _ rfl HE.out _ _ _ _ rfl Hx.out HF.out (by omega) (by simp; omega) ?_; intro ad2 d2 w2 hown2 hb2; have HO2 := Lib.hid hown2; have HB2 := Lib.hid hb2; obtain ⟨y0, y1, _, _, _⟩ := XAd.out.keep hb2 (by omega); obtain ⟨r0, r1, _, _, _⟩ := XRd.out.keep hb2 (by omega); clear hown2 hb2))
  all_goals go_wp2_with fail
  all_goals (refine bodyPost_ret (v := .agg #[.int .i64 p, .slice ad2 (0 + n) d2]) (by simp [results, Try.results85, go_sem, r0, r1]) rfl ⟨ad2, 0 + n, d2, rfl, ?_, ?_⟩)
  all_goals first
    | exact ((HO2.out.setBelow _ (by first | omega | (simp; omega))).setBelow _ (by first | omega | (simp; omega))).mono (by first | omega | (simp; omega))
    | (exact ((HB.out.alloc (by omega) (.cells #[] 3)).drew.trans (HB2.out.mono (by first | omega | (simp; omega)))).setCell (by first | (simp; done) | (simp; omega)) _ |>.setCell (by first | (simp; done) | (simp; omega)) _)
end Go.Proofs.Ytnapicpeccjkoaa

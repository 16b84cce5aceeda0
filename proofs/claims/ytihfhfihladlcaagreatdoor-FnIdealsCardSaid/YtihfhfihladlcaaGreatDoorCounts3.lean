/- Texts of this claim, one behind the other: what each says stands at its head. -/
import Derived.Test.YtihfhfihladlcaaGreatDoorCounts2
import Derived.Test.YtihfhfihladlcaaGreatDoorSet
/- Contracts of FaceCounts at every argument, the program's and the reference's. -/
namespace Go.Proofs.YtihfhfihladlcaaGreatDoor
set_option maxRecDepth 20000
open Go.RowKit
set_option linter.unusedSimpArgs false
set_option linter.unusedVariables false

/-- f are the face counts of (p, xs) -/
def Cnts (p : Int) (xs : List Int) (f : List Nat) : Prop := (¬ Anti p xs ∧ f = []) ∨ ∃ l, xs = up l ∧ Anti p (up l) ∧ (∀ t ∈ l, t < 64) ∧ f = cntOf (isFace l)
theorem Cnts.is (p : Int) (xs : List Int) : ∃ f, Cnts p xs f := by
  by_cases h : Anti p xs
  · obtain ⟨l, rfl, hl2, hs, _⟩ := h.nat
    exact ⟨_, .inr ⟨l, rfl, h, fun t ht => (hl2 t ht).2, rfl⟩⟩
  · exact ⟨_, .inl ⟨h, rfl⟩⟩
theorem Cnts.len {p : Int} {xs : List Int} {f : List Nat} (h : Cnts p xs f) : f.length ≤ 7 := by
  rcases h with ⟨_, rfl⟩ | ⟨l, _, _, _, rfl⟩
  · simp
  · exact cnt_len _
theorem Cnts.le {p : Int} {xs : List Int} {f : List Nat} (h : Cnts p xs f) : ∀ x ∈ f, x ≤ 64 := by
  rcases h with ⟨_, rfl⟩ | ⟨l, _, _, _, rfl⟩
  · simp
  · exact cnt_le _

theorem sCounts_no (p : Int) (a : Option Addr) (n c : Nat) (xs : List Int) (w : World) (h : IntsAt w a n xs) (hno : ¬ Anti p xs) :
    Calls Tryz.prog 60 #[.agg #[.int .i64 p, .slice a n c]] w (RetInts w []) := by
  have hx : IntsAt ((w.alloc (.cells #[.int .i64 p, .slice a n c] 32)).alloc (.cells #[] 3)) a n xs := h.keep (by repeat (first | exact Below.refl _ _ | assumption | refine Below.setCell ?_ (by first | omega | (simp; done) | (simp; omega)) _ | refine Below.alloc ?_ (by first | omega | (simp; done) | (simp; omega)) _ | apply Below.drew))
  have Hx := Lib.hid hx; have Hno := Lib.hid hno
  clear hx h hno
  go_enter Tryz.func60, Tryz.ntmps60
  go_wp2_with fail
  refine (sFacesOf_no p a n c xs _ Hx.out Hno.out).mono ?_
  rintro e w1 ⟨ad, m, d, rfl, hown, hb⟩
  have HO0 : Hid (Own 3 w1 w.heap.size (some ⟨w.heap.size + 1, 0, none⟩) 0 0 []) := Lib.hid (by
    have := (Own.empty 3 (w.alloc (.cells #[.int .i64 p, .slice a n c] 32)) w.heap.size (by simp)).keep hb
    simp only [World.size_alloc] at this; exact this)
  have HB : Hid (Below w.heap.size w w1) := Lib.hid (Below.trans (by repeat (first | exact Below.refl _ _ | assumption | refine Below.setCell ?_ (by first | omega | (simp; done) | (simp; omega)) _ | refine Below.alloc ?_ (by first | omega | (simp; done) | (simp; omega)) _ | apply Below.drew)) (hb.mono (by simp <;> omega)))
  obtain rfl : m = 0 := by have := hown.len; simpa using this.symm
  clear hb hown
  go_wp2_with fail
  go_loopw [3, 5] (fun f i wr => f = .slice (some ⟨w.heap.size + 1, 0, none⟩) 0 0 ∧ i = .int .i64 0 ∧ Below w1.heap.size w1 wr) (fun _ _ _ => 0)
  case atStart => exact ⟨rfl, rfl, Below.refl _ _⟩
  case round =>
    obtain ⟨rfl, rfl, hbr⟩ := hrel
    have HBr := Lib.hid hbr; clear hbr
    go_wp2_with fail
    go_ret
    exact ⟨_, 0, 0, rfl, HO0.out.keep HBr.out, HB.out.trans (HBr.out.mono HB.out.size)⟩
theorem sCounts_any (p : Int) (a : Option Addr) (n c : Nat) (xs : List Int) (f : List Nat) (w : World) (h : IntsAt w a n xs) (hC : Cnts p xs f) :
    Calls Tryz.prog 60 #[.agg #[.int .i64 p, .slice a n c]] w (RetInts w (up f)) := by
  rcases hC with ⟨hno, rfl⟩ | ⟨l, rfl, hA, hl, rfl⟩
  · exact sCounts_no p a n c xs w h hno
  · exact sCounts_yes p a n c l w h hA hl
end Go.Proofs.YtihfhfihladlcaaGreatDoor

/- Contracts of ChainCounts, the program's and the reference's: the repeated counts of the face counts. -/
namespace Go.Proofs.YtihfhfihladlcaaGreatDoor
set_option maxRecDepth 20000
open Go.RowKit
set_option linter.unusedSimpArgs false
set_option linter.unusedVariables false

theorem Cnts.rep {p : Int} {xs : List Int} {f : List Nat} (h : Cnts p xs f) (hn : f ≠ []) : RepOk (up f) := by
  refine ⟨?_, by rw [up_len]; exact h.len, fun i hi => ?_⟩
  · rw [up_len]; exact List.length_pos_iff.2 hn
  · rw [up_len] at hi
    have := h.le _ (nthN_mem (xs := f) (k := i) hi)
    rw [nth_up]; omega
/-- what ChainCounts returns -/
def chainL (f : List Nat) : List Nat := if f = [] then [] else repL (up f) (up f).length
theorem chainL_len {f : List Nat} (h : f.length ≤ 7) : (up (chainL f)).length ≤ 1048576 := by
  rw [up_len]; unfold chainL; split
  · simp
  · unfold repL; simp [up_len]; omega

theorem sChain_any (p : Int) (a : Option Addr) (n c : Nat) (xs : List Int) (f : List Nat) (w : World) (h : IntsAt w a n xs) (hC : Cnts p xs f) :
    Calls Tryz.prog 61 #[.agg #[.int .i64 p, .slice a n c]] w (RetInts w (up (chainL f))) := by
  have hx : IntsAt (w.alloc (.cells #[.int .i64 p, .slice a n c] 32)) a n xs := h.keep (by repeat (first | exact Below.refl _ _ | assumption | refine Below.setCell ?_ (by first | omega | (simp; done) | (simp; omega)) _ | refine Below.alloc ?_ (by first | omega | (simp; done) | (simp; omega)) _ | apply Below.drew))
  have Hx := Lib.hid hx; have HC := Lib.hid hC
  clear hx h hC
  go_enter Tryz.func61, Tryz.ntmps61
  go_wp2_with fail
  refine (sCounts_any p a n c xs f _ Hx.out HC.out).mono ?_
  rintro e w1 ⟨ad, m, d, rfl, hown, hb⟩
  have HB : Hid (Below w.heap.size w w1) := Lib.hid (Below.trans (by repeat (first | exact Below.refl _ _ | assumption | refine Below.setCell ?_ (by first | omega | (simp; done) | (simp; omega)) _ | refine Below.alloc ?_ (by first | omega | (simp; done) | (simp; omega)) _ | apply Below.drew)) (hb.mono (by simp <;> omega)))
  have HO := Lib.hid hown
  have hm : f.length = m := by have := hown.len; rwa [up_len] at this
  have hm7 : m ≤ 7 := by rw [← hm]; exact HC.out.len
  have Hm := Lib.hid hm
  clear hb hown hm
  by_cases hf : f = []
  · have e0 : chainL f = [] := by unfold chainL; rw [if_pos hf]
    obtain rfl : m = 0 := by rw [← Hm.out, hf]; rfl
    clear hf
    go_wp2_with fail
    go_ret
    exact ⟨_, 0, 0, rfl, by rw [e0]; exact Own.empty 3 _ _ HB.out.size, by have := HB.out.alloc HB.out.size (.cells #[] 3); exact this⟩
  · have e0 : chainL f = repL (up f) (up f).length := by unfold chainL; rw [if_neg hf]
    have hm0 : ((m : Int) == 0) = false := by
      have : 0 < f.length := List.length_pos_iff.2 hf
      have := Hm.out
      simp; omega
    have Hf := Lib.hid hf
    clear hf
    go_wp2_with fail
    refine (sRep_yes ad m d (up f) _ HO.out.reads (HC.out.rep Hf.out)).mono ?_
    rintro e w2 ⟨ad2, m2, d2, rfl, hown, hb⟩
    have HB2 := Lib.hid (HB.out.trans (hb.mono HB.out.size))
    have HO2 := Lib.hid (hown.mono HB.out.size)
    clear hb hown
    go_wp2_with fail
    go_ret
    exact ⟨ad2, m2, d2, rfl, by rw [e0]; exact HO2.out, HB2.out⟩
end Go.Proofs.YtihfhfihladlcaaGreatDoor

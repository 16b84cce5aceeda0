/- Contracts of ChainCounts, the program's and the reference's: the repeated counts of the face counts. -/
import Derived.Test.YtihfhfihladlcaaGreatDoorCounts3
import Derived.Test.YtihfhfihladlcaaGreatDoorRepeat
namespace Go.Proofs.YtihfhfihladlcaaGreatDoor
set_option maxRecDepth 20000
open Go.RowKit
set_option linter.unusedSimpArgs false
set_option linter.unusedVariables false

theorem Cnts.rep {p : Int} {xs : List Int} {f : List Nat} (h : Cnts p xs f) (hn : f ≠ []) : RepOk (up f) := by
  refine ⟨?_, by rw [up_len]; exact h.len, fun i hi => ?_⟩
  · rw [up_len]; exact List.length_pos_iff.2 hn
  · rw [up_len] at hi
    have := h.le _ (nthN_mem (xs := f) (k := i) hi)
    rw [nth_up]; omega
/-- what ChainCounts returns -/
def chainL (f : List Nat) : List Nat := if f = [] then [] else repL (up f) (up f).length
theorem chainL_len {f : List Nat} (h : f.length ≤ 7) : (up (chainL f)).length ≤ 1048576 := by
  rw [up_len]; unfold chainL; split
  · simp
  · unfold repL; simp [up_len]; omega

theorem sChain_any (p : Int) (a : Option Addr) (n c : Nat) (xs : List Int) (f : List Nat) (w : World) (h : IntsAt w a n xs) (hC : Cnts p xs f) :
    Calls Tryz.prog 61 #[.agg #[.int .i64 p, .slice a n c]] w (RetInts w (up (chainL f))) := by
  have hx : IntsAt (w.alloc (.cells #[.int .i64 p, .slice a n c] 32)) a n xs := h.keep (by repeat (first | exact Below.refl _ _ | assumption | refine Below.setCell ?_ (by first | omega | (simp; done) | (simp; omega)) _ | refine Below.alloc ?_ (by first | omega | (simp; done) | (simp; omega)) _ | apply Below.drew))
  have Hx := Lib.hid hx; have HC := Lib.hid hC
  clear hx h hC
  go_enter Tryz.func61, Tryz.ntmps61
  go_wp2_with fail
  refine (sCounts_any p a n c xs f _ Hx.out HC.out).mono ?_
  rintro e w1 ⟨ad, m, d, rfl, hown, hb⟩
  have HB : Hid (Below w.heap.size w w1) := Lib.hid (Below.trans (by repeat (first | exact Below.refl _ _ | assumption | refine Below.setCell ?_ (by first | omega | (simp; done) | (simp; omega)) _ | refine Below.alloc ?_ (by first | omega | (simp; done) | (simp; omega)) _ | apply Below.drew)) (hb.mono (by simp <;> omega)))
  have HO := Lib.hid hown
  have hm : f.length = m := by have := hown.len; rwa [up_len] at this
  have hm7 : m ≤ 7 := by rw [← hm]; exact HC.out.len
  have Hm := Lib.hid hm
  clear hb hown hm
  by_cases hf : f = []
  · have e0 : chainL f = [] := by unfold chainL; rw [if_pos hf]
    obtain rfl : m = 0 := by rw [← Hm.out, hf]; rfl
    clear hf
    go_wp2_with fail
    go_ret
    exact ⟨_, 0, 0, rfl, by rw [e0]; exact Own.empty 3 _ _ HB.out.size, by have := HB.out.alloc HB.out.size (.cells #[] 3); exact this⟩
  · have e0 : chainL f = repL (up f) (up f).length := by unfold chainL; rw [if_neg hf]
    have hm0 : ((m : Int) == 0) = false := by
      have : 0 < f.length := List.length_pos_iff.2 hf
      have := Hm.out
      simp; omega
    have Hf := Lib.hid hf
    clear hf
    go_wp2_with fail
    refine (sRep_yes ad m d (up f) _ HO.out.reads (HC.out.rep Hf.out)).mono ?_
    rintro e w2 ⟨ad2, m2, d2, rfl, hown, hb⟩
    have HB2 := Lib.hid (HB.out.trans (hb.mono HB.out.size))
    have HO2 := Lib.hid (hown.mono HB.out.size)
    clear hb hown
    go_wp2_with fail
    go_ret
    exact ⟨ad2, m2, d2, rfl, by rw [e0]; exact HO2.out, HB2.out⟩
end Go.Proofs.YtihfhfihladlcaaGreatDoor

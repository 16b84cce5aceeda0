/- Contracts of FacesOfSize and GraphOf, the program's and the reference's. -/
import Derived.Test.YtnapicpeccjkoaaFaces3
namespace Go.Proofs.Ytnapicpeccjkoaa
open Go.RowKit
set_option linter.unusedSimpArgs false
set_option linter.unusedVariables false

/-- the faces of so many points; none for a number below 0 -/
def ofSize (l : List Nat) (k : Int) : List Nat := if k < 0 then [] else lvlTo (isFace l) 64 k.toNat
theorem ofSize_len (l : List Nat) (k : Int) : (ofSize l k).length ≤ 64 := by
  unfold ofSize; split
  · simp
  · exact lvl_len _ _ _
theorem ofSize_filter (l : List Nat) (k : Int) : (ord (isFace l)).filter (fun s => ((sz s : Int) == k)) = ofSize l k := by
  unfold ofSize
  split
  · rw [List.filter_eq_nil_iff]
    intro s _
    simp; omega
  · rw [← ord_lvl]
    exact List.filter_congr fun s _ => by
      rw [Bool.eq_iff_iff]; simp; omega

theorem iOfSize_no (p : Int) (a : Option Addr) (n c : Nat) (xs : List Int) (k : Int) (w : World) (h : IntsAt w a n xs) (hcap : n ≤ c) (hno : ¬ Anti p xs) :
    Calls Try.prog 105 #[.agg #[.int .i64 p, .slice a n c], .int .i64 k] w (RetInts w []) := by
  have hx : IntsAt (w.alloc (.cells #[.int .i64 p, .slice a n c] 27)) a n xs := h.keep (by repeat (first | exact Below.refl _ _ | assumption | refine Below.setCell ?_ (by first | omega | (simp; done) | (simp; omega)) _ | refine Below.alloc ?_ (by first | omega | (simp; done) | (simp; omega)) _ | apply Below.drew))
  have Hx := Lib.hid hx; clear hx h
  have Hno := Lib.hid hno; clear hno
  have Hcap := Lib.hid hcap; clear hcap
  go_enter Try.func105, Try.ntmps105
  go_wp2_with fail
  refine (iIsComplex_any p a n c xs _ Hx.out Hcap.out false (by simp [Hno.out])).mono ?_
  rintro e w1 ⟨rfl, hb⟩
  have HB : Hid (Below w.heap.size w w1) := Lib.hid (Below.trans (by repeat (first | exact Below.refl _ _ | assumption | refine Below.setCell ?_ (by first | omega | (simp; done) | (simp; omega)) _ | refine Below.alloc ?_ (by first | omega | (simp; done) | (simp; omega)) _ | apply Below.drew)) (hb.mono (by simp <;> omega)))
  clear hb
  go_wp2_with fail
  go_ret
  exact ⟨none, 0, 0, rfl, Own.nil _ _ _, HB.out⟩
set_option maxHeartbeats 1000000 in
theorem iOfSize_yes (p : Int) (a : Option Addr) (n c : Nat) (l : List Nat) (k : Int) (w : World) (h : IntsAt w a n (up l)) (hcap : n ≤ c) (hA : Anti p (up l)) (hl : ∀ t ∈ l, t < 64) :
    Calls Try.prog 105 #[.agg #[.int .i64 p, .slice a n c], .int .i64 k] w (RetInts w (up (ofSize l k))) := by
  have hx : IntsAt (w.alloc (.cells #[.int .i64 p, .slice a n c] 27)) a n (up l) := h.keep (by repeat (first | exact Below.refl _ _ | assumption | refine Below.setCell ?_ (by first | omega | (simp; done) | (simp; omega)) _ | refine Below.alloc ?_ (by first | omega | (simp; done) | (simp; omega)) _ | apply Below.drew))
  have Hx := Lib.hid hx; clear hx h
  have HA := Lib.hid hA; clear hA
  have Hl := Lib.hid hl; clear hl
  have Hcap := Lib.hid hcap; clear hcap
  go_enter Try.func105, Try.ntmps105
  go_wp2_with fail
  refine (iIsComplex_any p a n c _ _ Hx.out Hcap.out true (by simp [HA.out])).mono ?_
  rintro e w1 ⟨rfl, hb⟩
  obtain ⟨hc, hf⟩ := bcell hb
  have hz : w.heap.size + 1 ≤ w1.heap.size := by have := hb.size; simp at this; omega
  have Hx1 := Lib.hid (Hx.out.keep hb)
  have HB : Hid (Below w.heap.size w w1) := Lib.hid (Below.trans (by repeat (first | exact Below.refl _ _ | assumption | refine Below.setCell ?_ (by first | omega | (simp; done) | (simp; omega)) _ | refine Below.alloc ?_ (by first | omega | (simp; done) | (simp; omega)) _ | apply Below.drew)) (hb.mono (by simp <;> omega)))
  clear hb
  have hF := faceSet_Fam l
  have hlv : ∀ j, lvlTo (faceSet l).testBit 64 j = lvlTo (isFace l) 64 j := fun j => lvl_congr (fun s hs => faceSet_bit hs) j
  obtain ⟨F, hFe⟩ : ∃ F, F = faceSet l := ⟨_, rfl⟩
  rw [← hFe] at hF hlv
  have HFe := Lib.hid hFe; have Hlv := Lib.hid hlv
  clear hFe hlv
  go_wp2_with fail
  refine (facesIn_any p a n c l _ Hx1.out Hl.out).mono ?_
  rw [← HFe.out]
  rintro e w2 ⟨rfl, hb⟩
  have HB2 := Lib.hid (HB.out.trans (hb.mono HB.out.size))
  clear hb
  go_wp2_with fail
  refine (bySize_any F _ hF).mono ?_
  rintro e w3 ⟨g, f, rfl, hgrid, hb⟩
  have HB3 := Lib.hid (HB2.out.trans (hb.mono HB2.out.size)); have HG := Lib.hid hgrid
  clear hb hgrid
  obtain ⟨N, hN⟩ : ∃ N, N = topTo F.testBit 64 := ⟨_, rfl⟩
  rw [← hN] at HG ⊢
  have HN := Lib.hid hN; clear hN
  by_cases h0 : k < 0
  · go_wp2_with fail
    go_ret
    exact ⟨none, 0, 0, rfl, by unfold ofSize; rw [if_pos h0]; exact Own.nil _ _ _, HB3.out⟩
  · obtain ⟨j, rfl⟩ := Int.eq_ofNat_of_zero_le (show 0 ≤ k by omega)
    have hof : ofSize l (j : Int) = lvlTo F.testBit 64 j := by
      unfold ofSize; rw [if_neg h0, Hlv.out]; rfl
    have Hof := Lib.hid hof; clear hof
    by_cases hj : j < N
    · have hjN : ¬ (N : Int) ≤ j := by omega
      have hj0 : (0 : Int) ≤ j := by omega
      have hjl : (j : Int) < N := by omega
      have hcell := HG.out.cell hj
      have hown := HG.out.own j hj
      obtain ⟨⟨ad, m, d⟩, hfk⟩ : ∃ x : Sl, x = f j := ⟨_, rfl⟩
      rw [← hfk] at hcell hown
      simp only [Sl.val] at hcell hown
      have HO := Lib.hid (hown.mono HB2.out.size)
      clear hfk hown
      go_wp2_with fail
      go_ret
      exact ⟨ad, m, d, rfl, by rw [Hof.out]; exact HO.out, HB3.out⟩
    · have hjN : (N : Int) ≤ j := by omega
      go_wp2_with fail
      go_ret
      refine ⟨none, 0, 0, rfl, ?_, HB3.out⟩
      rw [Hof.out, lvl_high (by have := HN.out; omega)]; exact Own.nil _ _ _

end Go.Proofs.Ytnapicpeccjkoaa

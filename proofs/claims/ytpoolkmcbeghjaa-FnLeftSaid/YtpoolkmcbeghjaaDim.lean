/- The reference's DimOf: one less than the size of a largest face. -/
import Derived.Test.YtpoolkmcbeghjaaFaces3
namespace Go.Proofs.Ytpoolkmcbeghjaa
set_option maxRecDepth 20000
open Go.RowKit
set_option linter.unusedSimpArgs false
set_option linter.unusedVariables false

theorem topTo_hit {p : Nat → Bool} : ∀ k, topTo p k = 0 ∨ ∃ s, s < k ∧ p s = true ∧ sz s + 1 = topTo p k := by
  intro k
  induction k with
  | zero => left; unfold topTo; simp
  | succ k ih =>
    rw [topTo_succ]
    by_cases h : (p k && decide (topTo p k ≤ sz k)) = true
    · rw [if_pos h]
      rw [Bool.and_eq_true] at h
      exact .inr ⟨k, by omega, h.1, rfl⟩
    · rw [if_neg h]
      rcases ih with h | ⟨s, h1, h2, h3⟩
      · exact .inl h
      · exact .inr ⟨s, by omega, h2, h3⟩
theorem sub_sz64 : ∀ a : Nat, a < 64 → ∀ b : Nat, b < 64 → sub a b = true → sz a ≤ sz b := by decide +kernel
theorem topTo_last {l : List Nat} (hs : l.Pairwise fun a b => rank a < rank b) (hl : ∀ s ∈ l, s < 64) (hn : 0 < l.length) : topTo (isFace l) 64 = sz (nthN l (l.length - 1)) + 1 := by
  have hmem : nthN l (l.length - 1) ∈ l := nthN_mem (by omega)
  have hf : isFace l (nthN l (l.length - 1)) = true := by
    unfold isFace
    exact List.any_eq_true.2 ⟨_, hmem, sub_refl _⟩
  have h1 := topTo_ge hf 64 (hl _ hmem)
  rcases topTo_hit (p := isFace l) 64 with h | ⟨s, h2, h3, h4⟩
  · omega
  · unfold isFace at h3
    obtain ⟨t, ht, hst⟩ := List.any_eq_true.1 h3
    have h5 := sub_sz64 s h2 t (hl t ht) hst
    obtain ⟨j, hj, rfl⟩ := List.mem_iff_getElem.1 ht
    have h6 : sz l[j] ≤ sz (nthN l (l.length - 1)) := by
      rw [nthN_eq (by omega)]
      rcases Nat.lt_or_ge j (l.length - 1) with h | h
      · have h7 := List.pairwise_iff_getElem.1 hs j (l.length - 1) hj (by omega) h
        have h8 := hl _ (List.getElem_mem hj)
        have h9 := hl _ (List.getElem_mem (show l.length - 1 < l.length by omega))
        unfold rank at h7
        omega
      · have e : j = l.length - 1 := by omega
        simp only [e]; exact Nat.le_refl _
    omega

/-- a complex with a face -/
def DimP (p : Int) (xs : List Int) : Prop := Anti p xs ∧ 0 < xs.length
theorem sDim_no (p : Int) (a : Option Addr) (n c : Nat) (xs : List Int) (w : World) (h : IntsAt w a n xs) (hno : ¬ DimP p xs) :
    Calls Try.prog 28 #[.agg #[.int .i64 p, .slice a n c]] w fun e w' => e = .returned (.int .i64 (-2)) ∧ Below w.heap.size w w' := by
  have hlen := h.len
  have hx : IntsAt (w.alloc (.cells #[.int .i64 p, .slice a n c] 33)) a n xs := h.keep (by repeat (first | exact Below.refl _ _ | assumption | refine Below.setCell ?_ (by first | omega | (simp; done) | (simp; omega)) _ | refine Below.alloc ?_ (by first | omega | (simp; done) | (simp; omega)) _ | apply Below.drew))
  have Hx := Lib.hid hx; clear hx h
  by_cases hA : Anti p xs
  · have hn : n = 0 := by
      rcases Nat.eq_zero_or_pos n with h | h
      · exact h
      · exact absurd ⟨hA, by omega⟩ hno
    have HA := Lib.hid hA; clear hA hno hlen
    subst hn
    go_enter Try.func28, Try.ntmps28
    go_wp2_with fail
    refine (sIsComplex_any p a 0 c xs _ Hx.out true (by simp [HA.out])).mono ?_
    rintro e w1 ⟨rfl, hb⟩
    have HB : Hid (Below w.heap.size w w1) := Lib.hid (Below.trans (by repeat (first | exact Below.refl _ _ | assumption | refine Below.setCell ?_ (by first | omega | (simp; done) | (simp; omega)) _ | refine Below.alloc ?_ (by first | omega | (simp; done) | (simp; omega)) _ | apply Below.drew)) (hb.mono (by simp <;> omega)))
    obtain ⟨hc, hf⟩ := bcell hb
    have hz : w.heap.size + 1 ≤ w1.heap.size := by have := hb.size; simp at this; omega
    clear hb
    go_wp2_with fail
    go_ret
    exact ⟨rfl, HB.out⟩
  · have HA := Lib.hid hA; clear hA hno hlen
    go_enter Try.func28, Try.ntmps28
    go_wp2_with fail
    refine (sIsComplex_any p a n c xs _ Hx.out false (by simp [HA.out])).mono ?_
    rintro e w1 ⟨rfl, hb⟩
    have HB : Hid (Below w.heap.size w w1) := Lib.hid (Below.trans (by repeat (first | exact Below.refl _ _ | assumption | refine Below.setCell ?_ (by first | omega | (simp; done) | (simp; omega)) _ | refine Below.alloc ?_ (by first | omega | (simp; done) | (simp; omega)) _ | apply Below.drew)) (hb.mono (by simp <;> omega)))
    clear hb
    go_wp2_with fail
    go_ret
    exact ⟨rfl, HB.out⟩
theorem sDim_yes (p : Int) (a : Option Addr) (n c : Nat) (l : List Nat) (w : World) (h : IntsAt w a n (up l)) (hA : Anti p (up l)) (hl : ∀ t ∈ l, t < 64) (hs : l.Pairwise fun a b => rank a < rank b) (h0 : 0 < n) :
    Calls Try.prog 28 #[.agg #[.int .i64 p, .slice a n c]] w fun e w' => e = .returned (.int .i64 ((topTo (isFace l) 64 : Int) - 2)) ∧ Below w.heap.size w w' := by
  have hsm := h.small
  have hlen : l.length = n := by rw [← h.len, up_len]
  have htop := topTo_last hs hl (by omega)
  rw [hlen] at htop
  have hx : IntsAt (w.alloc (.cells #[.int .i64 p, .slice a n c] 33)) a n (up l) := h.keep (by repeat (first | exact Below.refl _ _ | assumption | refine Below.setCell ?_ (by first | omega | (simp; done) | (simp; omega)) _ | refine Below.alloc ?_ (by first | omega | (simp; done) | (simp; omega)) _ | apply Below.drew))
  have ht64 := hl _ (nthN_mem (xs := l) (k := n - 1) (by omega))
  obtain ⟨t, hte⟩ : ∃ t, t = nthN l (n - 1) := ⟨_, rfl⟩
  rw [← hte] at htop ht64
  have Hx := Lib.hid hx; have HA := Lib.hid hA; have Hte := Lib.hid hte; have Htop := Lib.hid htop
  have hn0 : ((n : Int) == 0) = false := by simp; omega
  obtain ⟨m1, hm1⟩ : ∃ m1, m1 = n - 1 := ⟨_, rfl⟩
  have hkm : (n : Int) - 1 = (m1 : Int) := by omega
  have hm1n : m1 < n := by omega
  have hm10 : (0 : Int) ≤ m1 := by omega
  have hm1l : (m1 : Int) < n := by omega
  have Hm1 := Lib.hid hm1
  clear hx h hA hl hs hte htop hlen hm1
  go_enter Try.func28, Try.ntmps28
  go_wp2_with fail
  refine (sIsComplex_any p a n c _ _ Hx.out true (by simp [HA.out])).mono ?_
  rintro e w1 ⟨rfl, hb⟩
  have HB : Hid (Below w.heap.size w w1) := Lib.hid (Below.trans (by repeat (first | exact Below.refl _ _ | assumption | refine Below.setCell ?_ (by first | omega | (simp; done) | (simp; omega)) _ | refine Below.alloc ?_ (by first | omega | (simp; done) | (simp; omega)) _ | apply Below.drew)) (hb.mono (by simp <;> omega)))
  obtain ⟨hc, hf⟩ := bcell hb
  have hz : w.heap.size + 1 ≤ w1.heap.size := by have := hb.size; simp at this; omega
  have Hx1 := Lib.hid (Hx.out.keep hb)
  obtain ⟨b1, o1, rfl, hcc⟩ := Hx1.out.cells (by omega)
  have hcl := hcc m1 hm1n
  rw [nth_up, Hm1.out, ← Hte.out, ← Hm1.out] at hcl
  clear hb hcc
  go_wp2_with (go_at_call 78; (with_reducible refine (l2Size_any t _ ht64).mono ?_); rintro e w' ⟨rfl, rfl⟩)
  go_ret
  have hszt := sz_le t
  exact ⟨ret_int (by rw [Htop.out]; first | omega | (unfold wrap64; omega)), HB.out⟩

end Go.Proofs.Ytpoolkmcbeghjaa

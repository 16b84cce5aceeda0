/- Drawn complexes of the reference: l3Draw, l3Bent. -/
import Derived.Test.YtbdnlncpamandaaDrw3
namespace Go.Proofs.Ytbdnlncpamandaa
set_option maxRecDepth 20000
open Go.RowKit
set_option linter.unusedSimpArgs false
set_option linter.unusedVariables false

theorem Row.litStr (w : World) (B : Nat) (hB : B ≤ w.heap.size) (s0 s1 s2 s3 s4 s5 s6 s7 : ByteArray) :
    Row 9 (w.alloc (.cells #[.string s0, .string s1, .string s2, .string s3, .string s4, .string s5, .string s6, .string s7] 9)) B (some ⟨w.heap.size, 0, none⟩) 8 8 ([s0, s1, s2, s3, s4, s5, s6, s7].map Value.string) :=
  ⟨rfl, World.ownsRow_lit w #[.string s0, .string s1, .string s2, .string s3, .string s4, .string s5, .string s6, .string s7] 8 hB (by decide) (by simp)⟩

theorem pcV_any (t : ByteArray) (w : World) (ht : t.size ≤ 1000) : Calls Try.prog 128 #[.string t] w (RetCxV w) := by
  by_cases h2 : (spl 58 [] (byt t)).length = 2
  · obtain ⟨A, C, hAC⟩ : ∃ A C, spl 58 [] (byt t) = [A, C] := by
      match spl 58 [] (byt t), h2 with
      | [a, b], _ => exact ⟨a, b, rfl⟩
    exact pc_two t A C w ht hAC
  · exact pc_parts t w ht h2
theorem pc_any (t : ByteArray) (w : World) (ht : t.size ≤ 1000) : Calls Try.prog 128 #[.string t] w (RetCxB w) := (pcV_any t w ht).mono fun _ _ h => h.weak
set_option maxHeartbeats 1000000 in
theorem l3Draw_any (g : Nat) (w : World) (hc : Cur w g) :
    Calls Try.prog 96 #[.pointer (some ⟨g, 0, none⟩)] w (RetD g w (IsCx w.heap.size)) := by
  have hgl := hc.lt
  have XR0 := Lib.hid (BoxF.new w (.int .i64 0) (.slice none 0 0) 26)
  obtain ⟨W0, hW0⟩ : ∃ W0, W0 = w.alloc (.cells #[.int .i64 0, .slice none 0 0] 26) := ⟨_, rfl⟩
  rw [← hW0] at XR0
  have Hz0 : Hid (W0.heap.size = w.heap.size + 1) := Lib.hid (by rw [hW0]; simp)
  have HL := Lib.hid (IntsAt.lit8 W0 1 2 3 4 4 5 5 6)
  obtain ⟨W2, hW2⟩ : ∃ W2, W2 = W0.alloc (.cells #[.int .i64 1, .int .i64 2, .int .i64 3, .int .i64 4, .int .i64 4, .int .i64 5, .int .i64 5, .int .i64 6] 3) := ⟨_, rfl⟩
  rw [← hW2] at HL
  have HC2 : Hid (Cur W2 g) := Lib.hid (by rw [hW2, hW0]; exact (hc.alloc _).alloc _)
  have HG2 : Hid (Chg w W2 g none) := Lib.hid (by rw [hW2, hW0]; exact ((Chg.refl _ _ _).alloc _).alloc _)
  have XR2 : Hid (BoxF W2 w.heap.size (.int .i64 0) (.slice none 0 0)) := Lib.hid (by rw [hW2]; exact (XR0.out.alloc _))
  have Hz2 : Hid (W2.heap.size = w.heap.size + 2) := Lib.hid (by rw [hW2]; simp [Hz0.out])
  have HW0 := Lib.hid hW0; have HW2 := Lib.hid hW2
  rw [Hz0.out] at HL
  clear hc hW0 hW2
  go_enter Try.func96, Try.ntmps96
  go_wp2_with fail
  rw [← HW0.out, ← HW2.out]
  refine (l1PickInt_any g _ 8 8 _ W2 HC2.out HL.out (fun b hb => by cases hb; simp only; omega) (by omega) (by omega)).mono ?_
  rintro e w3 ⟨v, rfl, ⟨K9, hK9, rfl⟩, hg3, hc3⟩
  obtain ⟨m, rfl, h1, h6⟩ : ∃ K : Nat, K9 = K ∧ 1 ≤ K ∧ K ≤ 6 := by
    simp only [List.mem_cons, List.not_mem_nil, or_false] at hK9
    exact ⟨K9.toNat, by omega, by omega, by omega⟩
  have HG3 := Lib.hid (HG2.out.trans hg3); have HC3 := Lib.hid hc3
  have XR3 := Lib.hid (XR2.out.chg hg3 (by omega))
  have hz3 : w.heap.size + 1 ≤ w3.heap.size := by have := hg3.size; have := Hz2.out; omega
  clear hg3 hc3 hK9
  go_wp2_with fail
  refine (l1Below_any g 8 w3 HC3.out (by omega)).mono ?_
  rintro e w4 ⟨v, rfl, ⟨y, hy, _, rfl⟩, hg4, hc4⟩
  have hy8 : y < 8 := by have := hy (by omega); omega
  have HG4 := Lib.hid (HG3.out.trans hg4); have HC4 := Lib.hid hc4
  have XR4 := Lib.hid (XR3.out.chg hg4 (by omega))
  have hz4 : w.heap.size + 1 ≤ w4.heap.size := Nat.le_trans hz3 hg4.size
  clear hg4 hc4 hy HC3 HG3 XR3
  by_cases y0 : y = 0
  · subst y0
    go_wp2_with fail
    refine (border_any m w4).mono ?_
    rintro e w5 ⟨p, ad, n, c, xs, b, rfl, hown, hxl, hb5⟩
    have HG5 := Lib.hid (HG4.out.upto (hb5.mono (by omega))); have HC5 := Lib.hid (HC4.out.keep (hb5.mono (by have := HC4.out.lt; omega)))
    have XR5 := Lib.hid (XR4.out.keep hb5 (by omega)); have HO5 := Lib.hid hown
    have hz5 : w.heap.size + 1 ≤ w5.heap.size := Nat.le_trans hz4 hb5.size
    have XB5 := Lib.hid (BoxF.new w5 (.int .i64 p) (.slice ad n c) 26)
    have XR6 := Lib.hid (XR5.out.alloc (.cells #[.int .i64 p, .slice ad n c] 26))
    obtain ⟨b0, b1, _, _, _⟩ := XB5.out
    obtain ⟨r0, r1, f0, f1, _⟩ := XR6.out
    clear hb5 hown
    go_wp2_with fail
    refine bodyPost_ret (v := .agg #[.int .i64 p, .slice ad n c]) (by simp [results, Try.results96, go_sem, r0, r1]) rfl ⟨_, rfl, ⟨p, ad, n, c, xs, rfl, ?_, hxl⟩, ?_, ?_⟩
    · exact Row.mono (Row.setBelow (Row.setBelow (Row.alloc HO5.out _) _ (by omega)) _ (by omega)) (by omega)
    · exact ((HG5.out.alloc _).setNew _ _ (by simp)).setNew _ _ (by simp)
    · exact ((HC5.out.alloc _).setNew _ _ (by simpa using hgl)).setNew _ _ (by simpa using hgl)
  · have y0i : ((y : Int) == 0) = false := by simp; omega
    by_cases y1 : y = 1
    · subst y1
      have HS := Lib.hid (Row.litStr w4 w4.heap.size (Nat.le_refl _))
      obtain ⟨W5, hW5⟩ : ∃ W5 : World, W5 = w4 := ⟨_, rfl⟩
      clear hW5 W5
      go_wp2_with fail
      refine (l1Pick_any g w4.heap.size _ 8 8 _ _ (HC4.out.alloc _) (HS.out _ _ _ _ _ _ _ _) (by have := HC4.out.lt; omega) (by omega) (by omega)).mono ?_
      rintro e w6 ⟨v, rfl, ⟨t, ht, rfl⟩, hg6, hc6⟩
      have hts : t.size ≤ 1000 := by
        simp only [List.mem_cons, List.not_mem_nil, or_false] at ht
        rcases ht with rfl | rfl | rfl | rfl | rfl | rfl | rfl | rfl <;> decide
      have HG6 := Lib.hid ((HG4.out.alloc _).trans hg6); have HC6 := Lib.hid hc6
      have XR6 := Lib.hid ((XR4.out.alloc _).chg hg6 (by omega))
      have hz6 : w.heap.size + 1 ≤ w6.heap.size := Nat.le_trans hz4 (Nat.le_trans (by simp) hg6.size)
      clear hg6 hc6 ht HS
      go_wp2_with fail
      refine (pc_any t w6 hts).mono ?_
      rintro e w5 ⟨p, ad, n, c, xs, b, rfl, hown, hxl, hb5⟩
      have HG5 := Lib.hid (HG6.out.upto (hb5.mono (by omega))); have HC5 := Lib.hid (HC6.out.keep (hb5.mono (by have := HC6.out.lt; omega)))
      have XR5 := Lib.hid (XR6.out.keep hb5 (by omega)); have HO5 := Lib.hid hown
      have hz5 : w.heap.size + 1 ≤ w5.heap.size := Nat.le_trans hz6 hb5.size
      have XB5 := Lib.hid (BoxF.new w5 (.int .i64 p) (.slice ad n c) 26)
      have XR6 := Lib.hid (XR5.out.alloc (.cells #[.int .i64 p, .slice ad n c] 26))
      obtain ⟨b0, b1, _, _, _⟩ := XB5.out
      obtain ⟨r0, r1, f0, f1, _⟩ := XR6.out
      clear hb5 hown
      go_wp2_with fail
      refine bodyPost_ret (v := .agg #[.int .i64 p, .slice ad n c]) (by simp [results, Try.results96, go_sem, r0, r1]) rfl ⟨_, rfl, ⟨p, ad, n, c, xs, rfl, ?_, hxl⟩, ?_, ?_⟩
      · exact Row.mono (Row.setBelow (Row.setBelow (Row.alloc HO5.out _) _ (by omega)) _ (by omega)) (by omega)
      · exact ((HG5.out.alloc _).setNew _ _ (by simp)).setNew _ _ (by simp)
      · exact ((HC5.out.alloc _).setNew _ _ (by simpa using hgl)).setNew _ _ (by simpa using hgl)
    · have y1i : ((y : Int) == 1) = false := by simp; omega
      by_cases y2 : y = 2
      · subst y2
        go_wp2_with fail
        refine (l3Pure_any g m w4 HC4.out h1 h6).mono ?_
        rintro e w5 ⟨v, rfl, ⟨p, ad, n, c, xs, rfl, hown, hxl⟩, hg5, hc5⟩
        have HG5 := Lib.hid (HG4.out.trans hg5); have HC5 := Lib.hid hc5
        obtain ⟨r0, r1, f0, f1, _⟩ := XR4.out.chg hg5 (by omega)
        have HO5 := Lib.hid hown
        clear hg5 hc5 hown
        go_wp2_with fail
        refine bodyPost_ret (v := .agg #[.int .i64 p, .slice ad n c]) (by simp [results, Try.results96, go_sem, r0, r1]) rfl ⟨_, rfl, ⟨p, ad, n, c, xs, rfl, ?_, hxl⟩, ?_, ?_⟩
        · exact Row.mono (Row.setBelow (Row.setBelow HO5.out _ (by omega)) _ (by omega)) (by omega)
        · exact (HG5.out.setNew _ _ (by simp)).setNew _ _ (by simp)
        · exact (HC5.out.setNew _ _ (by simpa using hgl)).setNew _ _ (by simpa using hgl)
      · have y2i : ((y : Int) == 2) = false := by simp; omega
        by_cases y3 : y = 3
        · subst y3
          go_wp2_with fail
          refine (l3Pure_any g m w4 HC4.out h1 h6).mono ?_
          rintro e w5 ⟨v, rfl, ⟨p, ad, n, c, xs, rfl, hown, hxl⟩, hg5, hc5⟩
          have HG5 := Lib.hid (HG4.out.trans hg5); have HC5 := Lib.hid hc5
          obtain ⟨r0, r1, f0, f1, _⟩ := XR4.out.chg hg5 (by omega)
          have HO5 := Lib.hid hown
          clear hg5 hc5 hown
          go_wp2_with fail
          refine bodyPost_ret (v := .agg #[.int .i64 p, .slice ad n c]) (by simp [results, Try.results96, go_sem, r0, r1]) rfl ⟨_, rfl, ⟨p, ad, n, c, xs, rfl, ?_, hxl⟩, ?_, ?_⟩
          · exact Row.mono (Row.setBelow (Row.setBelow HO5.out _ (by omega)) _ (by omega)) (by omega)
          · exact (HG5.out.setNew _ _ (by simp)).setNew _ _ (by simp)
          · exact (HC5.out.setNew _ _ (by simpa using hgl)).setNew _ _ (by simpa using hgl)
        · have y3i : ((y : Int) == 3) = false := by simp; omega
          go_wp2_with fail
          refine (l3Size_any g m w4 HC4.out h1 h6).mono ?_
          rintro e w5 ⟨v, rfl, ⟨p, ad, n, c, xs, rfl, hown, hxl⟩, hg5, hc5⟩
          have HG5 := Lib.hid (HG4.out.trans hg5); have HC5 := Lib.hid hc5
          obtain ⟨r0, r1, f0, f1, _⟩ := XR4.out.chg hg5 (by omega)
          have HO5 := Lib.hid hown
          clear hg5 hc5 hown
          go_wp2_with fail
          refine bodyPost_ret (v := .agg #[.int .i64 p, .slice ad n c]) (by simp [results, Try.results96, go_sem, r0, r1]) rfl ⟨_, rfl, ⟨p, ad, n, c, xs, rfl, ?_, hxl⟩, ?_, ?_⟩
          · exact Row.mono (Row.setBelow (Row.setBelow HO5.out _ (by omega)) _ (by omega)) (by omega)
          · exact (HG5.out.setNew _ _ (by simp)).setNew _ _ (by simp)
          · exact (HC5.out.setNew _ _ (by simpa using hgl)).setNew _ _ (by simpa using hgl)
end Go.Proofs.Ytbdnlncpamandaa

/- The reference's drawing l23Draw: often a surface. -/
import Derived.Deep.RegionHeld3
import Derived.Test.YtihfhfihladlcaaGreatDoorDrw5
import Derived.Test.YtihfhfihladlcaaGreatDoorShuf
namespace Go.Proofs.YtihfhfihladlcaaGreatDoor
set_option maxRecDepth 20000
open Go.RowKit
set_option linter.unusedSimpArgs false
set_option linter.unusedVariables false

theorem Row.litStr7 (w : World) (B : Nat) (hB : B ≤ w.heap.size) (s0 s1 s2 s3 s4 s5 s6 : ByteArray) :
    Row 9 (w.alloc (.cells #[.string s0, .string s1, .string s2, .string s3, .string s4, .string s5, .string s6] 9)) B (some ⟨w.heap.size, 0, none⟩) 7 7 ([s0, s1, s2, s3, s4, s5, s6].map Value.string) :=
  ⟨rfl, World.ownsRow_lit w #[.string s0, .string s1, .string s2, .string s3, .string s4, .string s5, .string s6] 7 hB (by decide) (by simp)⟩
theorem Row.litStr4 (w : World) (B : Nat) (hB : B ≤ w.heap.size) (s0 s1 s2 s3 : ByteArray) :
    Row 9 (w.alloc (.cells #[.string s0, .string s1, .string s2, .string s3] 9)) B (some ⟨w.heap.size, 0, none⟩) 4 4 ([s0, s1, s2, s3].map Value.string) :=
  ⟨rfl, World.ownsRow_lit w #[.string s0, .string s1, .string s2, .string s3] 4 hB (by decide) (by simp)⟩
theorem Own.chgIf {T : Nat} {w w' : World} {g B : Nat} {a : Option Addr} {n c : Nat} {xs : List Int} (h : Own T w B a n c xs) (hg : Chg w w' g none) (hB : g < B) : Own T w' B a n c xs := h.chgW hg hB

set_option maxHeartbeats 2000000 in
theorem l23Draw_any (g : Nat) (w : World) (hc : Cur w g) :
    Calls Tryz.prog 144 #[.pointer (some ⟨g, 0, none⟩)] w (RetD g w (IsCxN 1101 w.heap.size)) := by
  have hgl := hc.lt
  have XR0 := Lib.hid (BoxF.new w (.int .i64 0) (.slice none 0 0) 32)
  obtain ⟨W0, hW0⟩ : ∃ W0, W0 = w.alloc (.cells #[.int .i64 0, .slice none 0 0] 32) := ⟨_, rfl⟩
  rw [← hW0] at XR0
  have hz0 : W0.heap.size = w.heap.size + 1 := by rw [hW0]; simp
  have HC0 : Hid (Cur W0 g) := Lib.hid (by rw [hW0]; exact (hc.alloc _))
  have HG0 : Hid (Chg w W0 g none) := Lib.hid (by rw [hW0]; exact ((Chg.refl _ _ _).alloc _))
  have HW0 := Lib.hid hW0
  clear hc hW0
  go_enter Tryz.func144, Tryz.ntmps144
  go_wp2_with fail
  rw [← HW0.out]
  refine (l1Once_any g 3 W0 HC0.out (by omega)).mono ?_
  rintro e w1 ⟨v, rfl, ⟨b, rfl⟩, hg1, hc1⟩
  have HG1 := Lib.hid (HG0.out.trans hg1)
  have HC1 := Lib.hid hc1
  have XR1 := Lib.hid (XR0.out.chg hg1 (by omega))
  have hz1 : w.heap.size + 1 ≤ w1.heap.size := by have := hg1.size; omega
  clear hg1 hc1
  cases b
  · have HS := Lib.hid (Row.litStr7 w1 w1.heap.size (Nat.le_refl _))
    go_wp2_with fail
    refine (l1Pick_any g w1.heap.size _ 7 7 _ _ (HC1.out.alloc _) (HS.out _ _ _ _ _ _ _) (by have := HC1.out.lt; omega) (by omega) (by omega)).mono ?_
    rintro e w2 ⟨v, rfl, ⟨t, ht, rfl⟩, hg2, hc2⟩
    have hts : t.size ≤ 1000 := by
      simp only [List.mem_cons, List.not_mem_nil, or_false] at ht
      rcases ht with rfl | rfl | rfl | rfl | rfl | rfl | rfl <;> decide
    have HG2 := Lib.hid ((HG1.out.alloc _).trans hg2); have HC2 := Lib.hid hc2
    have XR2 := Lib.hid ((XR1.out.alloc _).chg hg2 (by omega))
    have hz2 : w.heap.size + 1 ≤ w2.heap.size := Nat.le_trans hz1 (Nat.le_trans (by simp) hg2.size)
    clear hg2 hc2 ht HS
    go_wp2_with fail
    refine (pcV_any t w2 hts).mono ?_
    rintro e w3 ⟨p, ad, n, c, xs, b, rfl, hown, ⟨hxl, hp0, hp7, hval⟩, hb3⟩
    have HG3 := Lib.hid (HG2.out.upto (hb3.mono (by omega))); have HC3 := Lib.hid (HC2.out.keep (hb3.mono (by have := HC2.out.lt; omega)))
    have XR3 := Lib.hid (XR2.out.keep hb3 (by omega)); have HO3 := Lib.hid hown
    have hz3 : w.heap.size + 1 ≤ w3.heap.size := Nat.le_trans hz2 hb3.size
    have hz23 : w2.heap.size ≤ w3.heap.size := hb3.size
    have hg2l := HC2.out.lt
    obtain ⟨l, m, hxe, hpm, hl64, hm6⟩ : ∃ (l : List Nat) (m : Nat), xs = up l ∧ p = m ∧ (∀ t ∈ l, t < 64) ∧ m ≤ 6 := by
      rcases hval with hA | ⟨rfl, rfl⟩
      · obtain ⟨l, rfl, hl2, _, _⟩ := hA.nat
        obtain ⟨m, rfl⟩ := Int.eq_ofNat_of_zero_le hp0
        exact ⟨l, m, rfl, rfl, fun t ht => (hl2 t ht).2, by have := hA.2.1; omega⟩
      · exact ⟨[], 0, rfl, rfl, by simp, by omega⟩
    subst hxe; subst hpm
    have Hl64 := Lib.hid hl64
    obtain ⟨G, hG⟩ : ∃ G, G = w3.heap.size := ⟨_, rfl⟩
    obtain ⟨W4, hW4⟩ : ∃ W4, W4 = w3.alloc (.cells #[.int .i64 m, .slice ad n c] 32) := ⟨_, rfl⟩
    have XG4 : Hid (BoxF W4 G (.int .i64 m) (.slice ad n c)) := Lib.hid (by rw [hW4, hG]; exact BoxF.new _ _ _ _)
    have XR4 : Hid (BoxF W4 w.heap.size (.int .i64 0) (.slice none 0 0)) := Lib.hid (by rw [hW4]; exact XR3.out.alloc _)
    have HO4 : Hid (Own 3 W4 w2.heap.size ad n c (up l)) := Lib.hid (by rw [hW4]; exact HO3.out.alloc _)
    have HG4 : Hid (Chg w W4 g none) := Lib.hid (by rw [hW4]; exact HG3.out.alloc _)
    have HC4 : Hid (Cur W4 g) := Lib.hid (by rw [hW4]; exact HC3.out.alloc _)
    have hz4 : G + 1 ≤ W4.heap.size := by rw [hW4, hG]; simp
    have hGw : w.heap.size < G := by omega
    have hGz : w2.heap.size ≤ G := by omega
    have HGe := Lib.hid hG; have HW4 := Lib.hid hW4
    have hnl : n ≤ 1100 := by have := HO3.out.len; omega
    clear hb3 hown hG hW4 hval hl64
    go_wp2_with fail
    rw [← HGe.out, ← HW4.out]
    refine (l1Once_any g 2 W4 HC4.out (by omega)).mono ?_
    rintro e w5 ⟨v, rfl, ⟨b2, rfl⟩, hg5, hc5⟩
    have HG5 := Lib.hid (HG4.out.trans hg5); have HC5 := Lib.hid hc5
    have XG5 := Lib.hid (XG4.out.chg hg5 (by omega)); have XR5 := Lib.hid (XR4.out.chg hg5 (by omega))
    have HO5 := Lib.hid (Own.chgW HO4.out hg5 (by omega))
    have hz5 : G + 1 ≤ w5.heap.size := Nat.le_trans hz4 hg5.size
    clear hg5 hc5
    obtain ⟨b0, b1, _, _, _⟩ := XG5.out
    obtain ⟨r0, r1, rf0, rf1, _⟩ := XR5.out
    cases b2
    · go_wp2_with fail
      refine bodyPost_ret (v := .agg #[.int .i64 m, .slice ad n c]) (by simp [results, Tryz.results144, go_sem, r0, r1]) rfl ⟨_, rfl, ⟨m, ad, n, c, up l, rfl, ?_, by omega, hp0, hp7⟩, ?_, ?_⟩
      · exact Row.mono (Row.setBelow (Row.setBelow HO5.out _ (by omega)) _ (by omega)) (by omega)
      · exact (HG5.out.setNew _ _ (by simp)).setNew _ _ (by simp)
      · exact (HC5.out.setNew _ _ (by simpa using hgl)).setNew _ _ (by simpa using hgl)
    · clear r0 r1 rf0 rf1
      go_wp2_with fail
      go_region_held3 (fun W => W.cell? ⟨G, 0, none⟩ = some (.int .i64 m) ∧ W.cell? ⟨G, 1, none⟩ = some (.slice ad n c)) (first | exact ⟨b0, b1⟩ | exact ⟨y0, y1⟩ | exact ⟨z0, z1⟩ | (have hh := ((XG7.out.setOther ⟨w.heap.size, 0, none⟩ (.int .i64 m) (by simp only; omega)).setOther ⟨w.heap.size, 1, none⟩ (.slice aO nO cO) (by simp only; omega)); exact ⟨hh.c0, hh.c1⟩) | go_keep) (first
        | (go_simp; go_at_call 181; (with_reducible refine (l9Shuffle_any g m _ HC5.out.drew (by omega)).mono ?_); rintro e w6 ⟨v, rfl, ⟨aN, cN, N, rfl, ownN, hnd, hlt⟩, hg6, hc6⟩; have HG6 := Lib.hid (HG5.out.drew.trans hg6); have HC6 := Lib.hid hc6; have XG6 := Lib.hid (XG5.out.drew.chg hg6 (by omega)); have XR6 := Lib.hid (XR5.out.drew.chg hg6 (by omega)); have HO6 := Lib.hid (Own.chgW (Own.drew HO5.out) hg6 (by omega)); have HN6 := Lib.hid ownN; have Hnd := Lib.hid hnd; have Hlt := Lib.hid hlt; (have hz6 : G + 1 ≤ w6.heap.size := Nat.le_trans hz5 hg6.size); (obtain ⟨y0, y1, _, _, _⟩ := XG6.out); clear hg6 hc6 ownN hnd hlt)
        | (go_simp; go_at_call 192; (with_reducible refine (l9Complex_any m ad n c l aN m cN N _ HO6.out.reads HN6.out.reads Hl64.out Hnd.out (fun x hx => Nat.lt_of_lt_of_le (Hlt.out x hx) hm6) hm6 (by omega)).mono ?_); rintro e w7 ⟨aO, nO, cO, zs, rfl, ownO, hzl, hb7⟩; have HG7 := Lib.hid (HG6.out.upto (hb7.mono (by omega))); have HC7 := Lib.hid (HC6.out.keep (hb7.mono (by omega))); have XG7 := Lib.hid (XG6.out.keep hb7 (by omega)); have XR7 := Lib.hid (XR6.out.keep hb7 (by omega)); have HO7 := Lib.hid ownO; (obtain ⟨z0, z1, _, _, _⟩ := XG7.out); (obtain ⟨r0, r1, rf0, rf1, _⟩ := XR7.out); clear hb7 ownO))
      all_goals (
        go_wp2_with fail
        refine bodyPost_ret (v := .agg #[.int .i64 m, .slice aO nO cO]) (by simp [results, Tryz.results144, go_sem, r0, r1]) rfl ⟨_, rfl, ⟨m, aO, nO, cO, up zs, rfl, ?_, by rw [up_len]; omega, hp0, hp7⟩, ?_, ?_⟩
        · exact Row.mono (Row.setBelow (Row.setBelow HO7.out _ (by omega)) _ (by omega)) (by omega)
        · exact (HG7.out.setNew _ _ (by simp)).setNew _ _ (by simp)
        · exact (HC7.out.setNew _ _ (by simpa using hgl)).setNew _ _ (by simpa using hgl))
  · go_wp2_with fail
    refine (l3Bent_any g w1 HC1.out).mono ?_
    rintro e w3 ⟨v, rfl, ⟨p, ad, n, c, xs, rfl, hown, hxl, hp0, hp7⟩, hg3, hc3⟩
    have HG3 := Lib.hid (HG1.out.trans hg3)
    have XR3 := Lib.hid (XR1.out.chg hg3 (by omega))
    have HC3 := Lib.hid hc3; have HO := Lib.hid hown
    clear hg3 hc3 hown
    obtain ⟨r0, r1, rf0, rf1, _⟩ := XR3.out
    go_wp2_with fail
    refine bodyPost_ret (v := .agg #[.int .i64 p, .slice ad n c]) (by simp [results, Tryz.results144, go_sem, r0, r1]) rfl ⟨_, rfl, ⟨p, ad, n, c, xs, rfl, ?_, by omega, hp0, hp7⟩, ?_, ?_⟩
    · exact Row.mono (Row.setBelow (Row.setBelow HO.out _ (by omega)) _ (by omega)) (by omega)
    · exact (HG3.out.setNew _ _ (by simp)).setNew _ _ (by simp)
    · exact (HC3.out.setNew _ _ (by simp; omega)).setNew _ _ (by simp; omega)
end Go.Proofs.YtihfhfihladlcaaGreatDoor

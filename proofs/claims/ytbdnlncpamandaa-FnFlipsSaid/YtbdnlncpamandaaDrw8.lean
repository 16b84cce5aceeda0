/- The reference's drawings for FnDivided: l9Few, DrawSubdivideAt, DrawOntoWords, DrawChainCounts, DrawRepeatedCounts. -/
import Derived.Test.YtbdnlncpamandaaCounts3
import Derived.Test.YtbdnlncpamandaaDrw7
namespace Go.Proofs.Ytbdnlncpamandaa
set_option maxRecDepth 20000
open Go.RowKit
set_option linter.unusedSimpArgs false
set_option linter.unusedVariables false

set_option maxHeartbeats 2000000 in
theorem l9Few_any (g : Nat) (w : World) (hc : Cur w g) :
    Calls Try.prog 85 #[.pointer (some ⟨g, 0, none⟩)] w (RetD g w (IsCxN 1101 w.heap.size)) := by
  have hgl := hc.lt
  have XR0 := Lib.hid (BoxF.new w (.int .i64 0) (.slice none 0 0) 26)
  obtain ⟨W0, hW0⟩ : ∃ W0, W0 = w.alloc (.cells #[.int .i64 0, .slice none 0 0] 26) := ⟨_, rfl⟩
  rw [← hW0] at XR0
  have hz0 : W0.heap.size = w.heap.size + 1 := by rw [hW0]; simp
  have HC0 : Hid (Cur W0 g) := Lib.hid (by rw [hW0]; exact (hc.alloc _))
  have HG0 : Hid (Chg w W0 g none) := Lib.hid (by rw [hW0]; exact ((Chg.refl _ _ _).alloc _))
  have HW0 := Lib.hid hW0
  clear hc hW0
  go_enter Try.func85, Try.ntmps85
  go_wp2_with fail
  rw [← HW0.out]
  refine (l1Once_any g 10 W0 HC0.out (by omega)).mono ?_
  rintro e w1 ⟨v, rfl, ⟨b, rfl⟩, hg1, hc1⟩
  have HG1 := Lib.hid (HG0.out.trans hg1)
  have HC1 := Lib.hid hc1
  have XR1 := Lib.hid (XR0.out.chg hg1 (by omega))
  have hz1 : w.heap.size + 1 ≤ w1.heap.size := by have := hg1.size; omega
  clear hg1 hc1
  cases b
  · go_wp2_with fail
    refine (l1Below_any g 5 w1 HC1.out (by omega)).mono ?_
    rintro e w2 ⟨v, rfl, ⟨y, hy, _, rfl⟩, hg2, hc2⟩
    have hy5 : y < 5 := by have := hy (by omega); omega
    obtain ⟨m, hm⟩ : ∃ m, m = y + 1 := ⟨_, rfl⟩
    have hmi : 1 + (y : Int) = (m : Int) := by omega
    have hm1 : 1 ≤ m := by omega
    have hm6 : m ≤ 6 := by omega
    clear hm
    have HG2 := Lib.hid (HG1.out.trans hg2)
    have HC2 := Lib.hid hc2
    have XR2 := Lib.hid (XR1.out.chg hg2 (by omega))
    have hz2 : w.heap.size + 1 ≤ w2.heap.size := by have := hg2.size; omega
    clear hg2 hc2 hy
    go_wp2_with fail
    refine (l3Size_any g m w2 HC2.out (by omega) (by omega)).mono ?_
    rintro e w3 ⟨v, rfl, ⟨p, ad, n, c, xs, rfl, hown, hxl, hp0, hp7⟩, hg3, hc3⟩
    have HG3 := Lib.hid (HG2.out.trans hg3)
    have XR3 := Lib.hid (XR2.out.chg hg3 (by omega))
    have HC3 := Lib.hid hc3; have HO := Lib.hid hown
    clear hg3 hc3 hown
    obtain ⟨r0, r1, rf0, rf1, _⟩ := XR3.out
    go_wp2_with fail
    refine bodyPost_ret (v := .agg #[.int .i64 p, .slice ad n c]) (by simp [results, Try.results85, go_sem, r0, r1]) rfl ⟨_, rfl, ⟨p, ad, n, c, xs, rfl, ?_, by omega, hp0, hp7⟩, ?_, ?_⟩
    · exact Row.mono (Row.setBelow (Row.setBelow HO.out _ (by omega)) _ (by omega)) (by omega)
    · exact (HG3.out.setNew _ _ (by simp)).setNew _ _ (by simp)
    · exact (HC3.out.setNew _ _ (by simp; omega)).setNew _ _ (by simp; omega)
  · go_wp2_with fail
    refine (l3Bent_any g w1 HC1.out).mono ?_
    rintro e w3 ⟨v, rfl, ⟨p, ad, n, c, xs, rfl, hown, hxl, hp0, hp7⟩, hg3, hc3⟩
    have HG3 := Lib.hid (HG1.out.trans hg3)
    have XR3 := Lib.hid (XR1.out.chg hg3 (by omega))
    have HC3 := Lib.hid hc3; have HO := Lib.hid hown
    clear hg3 hc3 hown
    obtain ⟨r0, r1, rf0, rf1, _⟩ := XR3.out
    go_wp2_with fail
    refine bodyPost_ret (v := .agg #[.int .i64 p, .slice ad n c]) (by simp [results, Try.results85, go_sem, r0, r1]) rfl ⟨_, rfl, ⟨p, ad, n, c, xs, rfl, ?_, by omega, hp0, hp7⟩, ?_, ?_⟩
    · exact Row.mono (Row.setBelow (Row.setBelow HO.out _ (by omega)) _ (by omega)) (by omega)
    · exact (HG3.out.setNew _ _ (by simp)).setNew _ _ (by simp)
    · exact (HC3.out.setNew _ _ (by simp; omega)).setNew _ _ (by simp; omega)
theorem drawChainCounts_any (a : Option Addr) (n c : Nat) (w : World) (hy : CodeAt w a n) (hn : n ≤ 1048576) :
    Calls Try.prog 33 #[.slice a n c] w (RetCx w) := by
  have XR0 := Lib.hid (BoxF.new w (.int .i64 0) (.slice none 0 0) 26)
  obtain ⟨W0, hW0⟩ : ∃ W0, W0 = w.alloc (.cells #[.int .i64 0, .slice none 0 0] 26) := ⟨_, rfl⟩
  rw [← hW0] at XR0
  have Hz0 : Hid (W0.heap.size = w.heap.size + 1) := Lib.hid (by rw [hW0]; simp)
  have HB0 : Hid (Below w.heap.size w W0) := Lib.hid (by rw [hW0]; exact (by repeat (first | exact Below.refl _ _ | assumption | refine Below.setCell ?_ (by first | omega | (simp; done) | (simp; omega)) _ | refine Below.alloc ?_ (by first | omega | (simp; done) | (simp; omega)) _ | apply Below.drew)))
  have HY0 : Hid (CodeAt W0 a n) := Lib.hid (hy.keep HB0.out)
  have HW0 := Lib.hid hW0
  clear hy hW0
  go_enter Try.func33, Try.ntmps33
  go_wp2_with fail
  rw [← HW0.out]
  refine (l1New_any a n c W0 HY0.out hn).mono ?_
  rintro e w1 ⟨rfl, hb1, hc1⟩
  have hz1 : w.heap.size + 1 ≤ w1.heap.size := by have := hb1.size; have := Hz0.out; omega
  have XR1 := Lib.hid (XR0.out.keep hb1 (by have := Hz0.out; omega))
  have HB1 : Hid (Below w.heap.size w w1) := Lib.hid (HB0.out.trans (hb1.mono (by have := Hz0.out; omega)))
  obtain ⟨g, hg⟩ : ∃ g, g = W0.heap.size := ⟨_, rfl⟩
  rw [← hg] at hc1
  rw [← hg]
  have hgw : w.heap.size < g := by have := Hz0.out; omega
  have HC1 := Lib.hid hc1
  clear hb1 hc1 hg
  go_wp2_with fail
  refine (l3Bent_any g w1 HC1.out).mono ?_
  rintro e w2 ⟨v, rfl, ⟨p, ad, k, d, xs, rfl, hown, hxl, hp0, hp7⟩, hg2, hc2⟩
  have hb2 : Below w.heap.size w1 w2 := hg2.belowNew (by omega) (by omega)
  have HB2 := Lib.hid (HB1.out.trans hb2)
  have XR2 := Lib.hid (XR1.out.chg hg2 (by omega))
  have HO2 := Lib.hid hown
  clear hg2 hc2 hown hb2
  obtain ⟨r0, r1, rf0, rf1, _⟩ := XR2.out
  go_wp2_with fail
  refine bodyPost_ret (v := .agg #[.int .i64 p, .slice ad k d]) (by simp [results, Try.results33, go_sem, r0, r1]) rfl ⟨p, ad, k, d, xs, rfl, ?_, hxl, ?_⟩
  · exact Row.mono (Row.setBelow (Row.setBelow HO2.out _ (by omega)) _ (by omega)) (by omega)
  · exact (HB2.out.setCell (by simp) _).setCell (by simp) _
/-- two drawn numbers -/
def RetII (w : World) (e : Ending) (w' : World) : Prop := ∃ a b : Int, e = .returned (.tuple #[.int .i64 a, .int .i64 b]) ∧ (-1 ≤ a ∧ a ≤ 100 ∧ -1 ≤ b ∧ b ≤ 100) ∧ Below w.heap.size w w'
theorem drawOnto_any (a : Option Addr) (n c : Nat) (w : World) (hy : CodeAt w a n) (hn : n ≤ 1048576) :
    Calls Try.prog 32 #[.slice a n c] w (RetII w) := by
  have HY := Lib.hid hy
  clear hy
  go_enter Try.func32, Try.ntmps32
  go_wp2_with fail
  refine (l1New_any a n c w HY.out hn).mono ?_
  rintro e w1 ⟨rfl, hb1, hc1⟩
  have HB1 := Lib.hid hb1; have HC1 := Lib.hid hc1
  have hz1 : w.heap.size ≤ w1.heap.size := hb1.size
  clear hb1 hc1
  go_wp2_with fail
  refine (l1Below_any w.heap.size 10 w1 HC1.out (by omega)).mono ?_
  rintro e w2 ⟨v, rfl, ⟨y, hy, _, rfl⟩, hg2, hc2⟩
  have hy10 : y < 10 := by have := hy (by omega); omega
  have HB2 : Hid (Below w.heap.size w w2) := Lib.hid (HB1.out.trans (hg2.belowNew (Nat.le_refl _) hz1))
  have HC2 := Lib.hid hc2
  have hz2 : w.heap.size ≤ w2.heap.size := Nat.le_trans hz1 hg2.size
  clear hg2 hc2 hy
  go_wp2_with fail
  refine (l1Below_any w.heap.size 10 w2 HC2.out (by omega)).mono ?_
  rintro e w3 ⟨v, rfl, ⟨z, hz, _, rfl⟩, hg3, hc3⟩
  have hz10 : z < 10 := by have := hz (by omega); omega
  have HB3 : Hid (Below w.heap.size w w3) := Lib.hid (HB2.out.trans (hg3.belowNew (Nat.le_refl _) hz2))
  clear hg3 hc3 hz
  go_wp2_with fail
  refine bodyPost_ret (v := .tuple #[.int .i64 ((y : Int) - 1), .int .i64 ((z : Int) - 1)]) (by simp [results, Try.results32, go_sem]) rfl ?_
  exact ⟨_, _, rfl, by omega, HB3.out⟩
theorem facesOf_all (p : Int) (xs : List Int) : ∃ ys : List Int, ys.length ≤ 64 ∧ ∀ W ad n c, IntsAt W ad n xs → Calls Try.prog 44 #[.agg #[.int .i64 p, .slice ad n c]] W (RetInts W ys) := by
  by_cases h : Anti p xs
  · obtain ⟨l, rfl, hl2, hs, _⟩ := h.nat
    exact ⟨up (ord (isFace l)), by rw [up_len]; exact ord_len _, fun W ad n c hx => sFacesOf_yes p ad n c l W hx h fun t ht => (hl2 t ht).2⟩
  · exact ⟨[], by simp, fun W ad n c hx => sFacesOf_no p ad n c xs W hx h⟩
set_option maxHeartbeats 2000000 in
theorem drawSubdivide_any (a : Option Addr) (n c : Nat) (w : World) (hy : CodeAt w a n) (hn : n ≤ 1048576) :
    Calls Try.prog 29 #[.slice a n c] w (RetCxI w) := by
  have XR0 := Lib.hid (BoxF.new w (.int .i64 0) (.slice none 0 0) 26)
  obtain ⟨W0, hW0⟩ : ∃ W0, W0 = w.alloc (.cells #[.int .i64 0, .slice none 0 0] 26) := ⟨_, rfl⟩
  rw [← hW0] at XR0
  have Hz0 : Hid (W0.heap.size = w.heap.size + 1) := Lib.hid (by rw [hW0]; simp)
  have HB0 : Hid (Below w.heap.size w W0) := Lib.hid (by rw [hW0]; exact (by repeat (first | exact Below.refl _ _ | assumption | refine Below.setCell ?_ (by first | omega | (simp; done) | (simp; omega)) _ | refine Below.alloc ?_ (by first | omega | (simp; done) | (simp; omega)) _ | apply Below.drew)))
  have HY0 : Hid (CodeAt W0 a n) := Lib.hid (hy.keep HB0.out)
  have HW0 := Lib.hid hW0
  clear hy hW0
  go_enter Try.func29, Try.ntmps29
  go_wp2_with fail
  rw [← HW0.out]
  refine (l1New_any a n c W0 HY0.out hn).mono ?_
  rintro e w1 ⟨rfl, hb1, hc1⟩
  have hz1 : w.heap.size + 1 ≤ w1.heap.size := by have := hb1.size; have := Hz0.out; omega
  have XR1 := Lib.hid (XR0.out.keep hb1 (by have := Hz0.out; omega))
  have HB1 : Hid (Below w.heap.size w w1) := Lib.hid (HB0.out.trans (hb1.mono (by have := Hz0.out; omega)))
  obtain ⟨g, hg⟩ : ∃ g, g = W0.heap.size := ⟨_, rfl⟩
  rw [← hg] at hc1
  rw [← hg]
  have hgw : w.heap.size < g := by have := Hz0.out; omega
  have HC1 := Lib.hid hc1
  clear hb1 hc1 hg
  go_wp2_with fail
  refine (l9Few_any g w1 HC1.out).mono ?_
  rintro e w2 ⟨v, rfl, ⟨p, ad, k, d, xs, rfl, hown, hxl⟩, hg2, hc2⟩
  have hb2 : Below w.heap.size w1 w2 := hg2.belowNew (by omega) (by omega)
  have HB2 := Lib.hid (HB1.out.trans hb2)
  have XR2 := Lib.hid (XR1.out.chg hg2 (by omega))
  have HC2 := Lib.hid hc2
  have hz2 : w1.heap.size ≤ w2.heap.size := hg2.size
  obtain ⟨G, hG⟩ : ∃ G, G = w2.heap.size := ⟨_, rfl⟩
  have HG := Lib.hid hG
  obtain ⟨W3, hW3⟩ : ∃ W3, W3 = w2.alloc (.cells #[.int .i64 p, .slice ad k d] 26) := ⟨_, rfl⟩
  have HW3 := Lib.hid hW3
  have XG3 : Hid (BoxF W3 G (.int .i64 p) (.slice ad k d)) := Lib.hid (by rw [hW3, hG]; exact BoxF.new _ _ _ _)
  have XR3 : Hid (BoxF W3 w.heap.size (.int .i64 0) (.slice none 0 0)) := Lib.hid (by rw [hW3]; exact XR2.out.alloc _)
  have HC3 : Hid (Cur W3 g) := Lib.hid (by rw [hW3]; exact hc2.alloc _)
  have HO3 : Hid (Own 3 W3 w1.heap.size ad k d xs) := Lib.hid (by rw [hW3]; exact Own.alloc hown _)
  have HB3 : Hid (Below w.heap.size w W3) := Lib.hid (by rw [hW3]; exact HB2.out.alloc HB2.out.size _)
  have hGw : w1.heap.size ≤ G := by omega
  have hgG : g < G := by have := hc2.lt; omega
  have hg1 : g < w1.heap.size := HC1.out.lt
  have hz3 : G + 1 ≤ W3.heap.size := by rw [hW3, hG]; simp
  obtain ⟨ys, hys, hF⟩ := facesOf_all p xs
  have HF := Lib.hid hF
  clear hg2 hc2 hown hb2 hG hW3 hF
  obtain ⟨b0, b1, _, _, _⟩ := XG3.out
  go_wp2_with fail
  rw [← HG.out, ← HW3.out]
  refine (HF.out W3 ad k d HO3.out.reads).mono ?_
  rintro e w4 ⟨aF, nF, cF, rfl, ownF, hb4⟩
  have HO4 := Lib.hid (HO3.out.keep hb4); have HC4 := Lib.hid (HC3.out.keep (hb4.mono (by omega))); have HB4 := Lib.hid (HB3.out.trans (hb4.mono (by omega)))
  have XG4 := Lib.hid (XG3.out.keep hb4 (by omega)); have XR4 := Lib.hid (XR3.out.keep hb4 (by omega))
  have hz4 : W3.heap.size ≤ w4.heap.size := hb4.size
  have HL4 := Lib.hid ownF
  have hnF : nF ≤ 64 := by have := ownF.len; omega
  clear hb4 ownF b0 b1
  by_cases h0 : 0 < nF
  · have h0i : (nF : Int) > 0 := by omega
    have h0j : (0 : Int) < nF := by omega
    go_wp2_with fail
    refine (l1Once_any g 6 w4 HC4.out (by omega)).mono ?_
    rintro e w5 ⟨v, rfl, ⟨b, rfl⟩, hg5, hc5⟩
    have XG5 := Lib.hid (XG4.out.chg hg5 (by omega)); have XR5 := Lib.hid (XR4.out.chg hg5 (by omega))
    have HB5 : Hid (Below w.heap.size w w5) := Lib.hid (HB4.out.trans (hg5.belowNew (by omega) (by omega)))
    have HO5 := Lib.hid (Own.chgW HO4.out hg5 hg1); have HC5 := Lib.hid hc5
    have HL5 := Lib.hid (Own.chgW HL4.out hg5 (by omega))
    have hz5 : w4.heap.size ≤ w5.heap.size := hg5.size
    clear hg5 hc5
    obtain ⟨b0, b1, _, _, _⟩ := XG5.out
    cases b
    · obtain ⟨gF, oF, rfl, hcF⟩ := HL5.out.reads.cells h0
      have hgF := HL5.out.lt gF rfl
      have HcF := Lib.hid hcF
      clear hcF
      go_wp2_with fail
      go_region_held3 (fun W => W.cell? ⟨G, 0, none⟩ = some (.int .i64 p) ∧ W.cell? ⟨G, 1, none⟩ = some (.slice ad k d) ∧ ∀ j, j < nF → W.cell? ⟨gF, oF + j, none⟩ = some (.int .i64 (nth ys j)))
        (first | exact ⟨b0, b1, HcF.out⟩ | exact ⟨z0, z1, zL⟩ | (have hh := ((XG6.out.setOther ⟨w.heap.size, 0, none⟩ (.int .i64 p) (by simp only; omega)).setOther ⟨w.heap.size, 1, none⟩ (.slice ad k d) (by simp only; omega)); exact ⟨hh.c0, hh.c1, ((HL6.out.setBelow (i := 0) (.int .i64 p) (by omega)).setBelow (i := 1) (.slice ad k d) (by omega)).reads.cellAt⟩) | go_keep)
        (first
          | (go_simp; go_at_call 68; (with_reducible refine (l1Below_any g nF _ HC5.out.drew (by omega)).mono ?_); rintro e w6 ⟨v, rfl, ⟨x, hx, _, rfl⟩, hg6, hc6⟩; have hxn : x < nF := (by have := hx (by omega); omega); have hx0 : (0 : Int) ≤ x := (by omega); have hxi : (x : Int) < nF := (by omega); have HB6 : Hid (Below w.heap.size w w6) := Lib.hid (HB5.out.drew.trans (hg6.belowNew (by omega) HB5.out.size)); have HO6 : Hid (Own 3 w6 w1.heap.size ad k d xs) := Lib.hid (Own.chgW (Own.drew HO5.out) hg6 hg1); have HL6 := Lib.hid (Own.chgW (Own.drew HL5.out) hg6 (by omega)); have XG6 := Lib.hid (XG5.out.drew.chg hg6 (by omega)); have XR6 := Lib.hid (XR5.out.drew.chg hg6 (by omega)); obtain ⟨z0, z1, zf0, zf1, _⟩ := XG6.out; have zL := HL6.out.reads.cellAt; obtain ⟨r0, r1, f0, f1, _⟩ := XR6.out; clear hg6 hc6 hx))
      all_goals (
        go_wp2_with fail
        refine bodyPost_ret (v := .tuple #[.agg #[.int .i64 p, .slice ad k d], .int .i64 (nth ys x)]) (by simp [results, Try.results29, go_sem, r0, r1]) rfl ⟨p, ad, k, d, xs, _, rfl, Row.mono (Row.setBelow (Row.setBelow HO6.out _ (by omega)) _ (by omega)) (by omega), hxl.1, (HB6.out.setCell (by simp) _).setCell (by simp) _⟩)
    · go_wp2_with fail
      go_region_held3 (fun W => W.cell? ⟨G, 0, none⟩ = some (.int .i64 p) ∧ W.cell? ⟨G, 1, none⟩ = some (.slice ad k d))
        (first | exact ⟨b0, b1⟩ | exact ⟨z0, z1⟩ | (have hh := ((XG6.out.setOther ⟨w.heap.size, 0, none⟩ (.int .i64 p) (by simp only; omega)).setOther ⟨w.heap.size, 1, none⟩ (.slice ad k d) (by simp only; omega)); exact ⟨hh.c0, hh.c1⟩) | go_keep)
        (first
          | (go_simp; go_at_call 68; (with_reducible refine (l1Below_any g 66 _ HC5.out.drew (by omega)).mono ?_); rintro e w6 ⟨v, rfl, ⟨x, hx, _, rfl⟩, hg6, hc6⟩; have hxn : x < 66 := (by have := hx (by omega); omega); have hx0 : (0 : Int) ≤ x := (by omega); have hxi : (x : Int) < 66 := (by omega); have HB6 : Hid (Below w.heap.size w w6) := Lib.hid (HB5.out.drew.trans (hg6.belowNew (by omega) HB5.out.size)); have HO6 : Hid (Own 3 w6 w1.heap.size ad k d xs) := Lib.hid (Own.chgW (Own.drew HO5.out) hg6 hg1); have HL6 := Lib.hid (Own.chgW (Own.drew HL5.out) hg6 (by omega)); have XG6 := Lib.hid (XG5.out.drew.chg hg6 (by omega)); have XR6 := Lib.hid (XR5.out.drew.chg hg6 (by omega)); obtain ⟨z0, z1, zf0, zf1, _⟩ := XG6.out;  obtain ⟨r0, r1, f0, f1, _⟩ := XR6.out; clear hg6 hc6 hx))
      all_goals (
        go_wp2_with fail
        refine bodyPost_ret (v := .tuple #[.agg #[.int .i64 p, .slice ad k d], .int .i64 ((IntKind.i64.wrap ((x : Int) - 1)))]) (by simp [results, Try.results29, go_sem, r0, r1]) rfl ⟨p, ad, k, d, xs, _, rfl, Row.mono (Row.setBelow (Row.setBelow HO6.out _ (by omega)) _ (by omega)) (by omega), hxl.1, (HB6.out.setCell (by simp) _).setCell (by simp) _⟩)
  · obtain rfl : nF = 0 := by omega
    have h00 : ¬ ((0 : Int) > 0) := by omega
    obtain ⟨b0, b1, _, _, _⟩ := XG4.out
    go_wp2_with fail
    go_region_held3 (fun W => W.cell? ⟨G, 0, none⟩ = some (.int .i64 p) ∧ W.cell? ⟨G, 1, none⟩ = some (.slice ad k d))
      (first | exact ⟨b0, b1⟩ | exact ⟨z0, z1⟩ | (have hh := ((XG6.out.setOther ⟨w.heap.size, 0, none⟩ (.int .i64 p) (by simp only; omega)).setOther ⟨w.heap.size, 1, none⟩ (.slice ad k d) (by simp only; omega)); exact ⟨hh.c0, hh.c1⟩) | go_keep)
      (first
        | (go_simp; go_at_call 68; (with_reducible refine (l1Below_any g 66 _ HC4.out.drew (by omega)).mono ?_); rintro e w6 ⟨v, rfl, ⟨x, hx, _, rfl⟩, hg6, hc6⟩; have hxn : x < 66 := (by have := hx (by omega); omega); have hx0 : (0 : Int) ≤ x := (by omega); have hxi : (x : Int) < 66 := (by omega); have HB6 : Hid (Below w.heap.size w w6) := Lib.hid (HB4.out.drew.trans (hg6.belowNew (by omega) HB4.out.size)); have HO6 : Hid (Own 3 w6 w1.heap.size ad k d xs) := Lib.hid (Own.chgW (Own.drew HO4.out) hg6 hg1); have HL6 := Lib.hid (Own.chgW (Own.drew HL4.out) hg6 (by omega)); have XG6 := Lib.hid (XG4.out.drew.chg hg6 (by omega)); have XR6 := Lib.hid (XR4.out.drew.chg hg6 (by omega)); obtain ⟨z0, z1, zf0, zf1, _⟩ := XG6.out;  obtain ⟨r0, r1, f0, f1, _⟩ := XR6.out; clear hg6 hc6 hx))
    all_goals (
      go_wp2_with fail
      refine bodyPost_ret (v := .tuple #[.agg #[.int .i64 p, .slice ad k d], .int .i64 ((IntKind.i64.wrap ((x : Int) - 1)))]) (by simp [results, Try.results29, go_sem, r0, r1]) rfl ⟨p, ad, k, d, xs, _, rfl, Row.mono (Row.setBelow (Row.setBelow HO6.out _ (by omega)) _ (by omega)) (by omega), hxl.1, (HB6.out.setCell (by simp) _).setCell (by simp) _⟩)
theorem IntsAt.lit4 (w : World) (x0 x1 x2 x3 : Int) : IntsAt (w.alloc (.cells #[.int .i64 x0, .int .i64 x1, .int .i64 x2, .int .i64 x3] 3)) (some ⟨w.heap.size, 0, none⟩) 4 [x0, x1, x2, x3] := by
  refine ⟨rfl, by omega, fun _ => ⟨w.heap.size, 0, rfl, fun i hi => ?_⟩⟩
  rcases i with _ | _ | _ | _ | i <;> first | omega | simp [nth]
theorem Cnts.seven {p : Int} {xs : List Int} {f : List Nat} (h : Cnts p xs f) : f.length ≤ 7 := by
  rcases h with ⟨_, rfl⟩ | ⟨l, _, _, _, rfl⟩
  · simp
  · exact cnt_len _
/-- a drawn row of numbers -/
def RetRow (w : World) (e : Ending) (w' : World) : Prop := ∃ ys ad n c, e = .returned (.slice ad n c) ∧ Own 3 w' w.heap.size ad n c ys ∧ ys.length ≤ 7 ∧ Below w.heap.size w w'
set_option maxHeartbeats 2000000 in
theorem drawRepeated_any (a : Option Addr) (n c : Nat) (w : World) (hy : CodeAt w a n) (hn : n ≤ 1048576) :
    Calls Try.prog 35 #[.slice a n c] w (RetRow w) := by
  have HY := Lib.hid hy
  clear hy
  go_enter Try.func35, Try.ntmps35
  go_wp2_with fail
  refine (l1New_any a n c w HY.out hn).mono ?_
  rintro e w1 ⟨rfl, hb1, hc1⟩
  have HB1 := Lib.hid hb1; have HC1 := Lib.hid hc1
  obtain ⟨g, hg⟩ : ∃ g, g = w.heap.size := ⟨_, rfl⟩
  rw [← hg] at HC1 ⊢
  have hgw : w.heap.size ≤ g := by omega
  have Hg := Lib.hid hg
  have hz1 : g < w1.heap.size := HC1.out.lt
  clear hb1 hc1 hg
  go_wp2_with fail
  refine (l3Draw_any g w1 HC1.out).mono ?_
  rintro e w2 ⟨v, rfl, ⟨p, ad, k, d, xs, rfl, hown, hxl⟩, hg2, hc2⟩
  have HB2 : Hid (Below w.heap.size w w2) := Lib.hid (HB1.out.trans (hg2.belowNew hgw HB1.out.size))
  have HC2 := Lib.hid hc2; have HO2 := Lib.hid hown
  have hz2 : w1.heap.size ≤ w2.heap.size := hg2.size
  obtain ⟨f, hf⟩ := Cnts.is p xs
  have hf7 := hf.seven
  have HF := Lib.hid hf
  clear hg2 hc2 hown hf
  go_wp2_with fail
  refine (sCounts_any p ad k d xs f w2 HO2.out.reads HF.out).mono ?_
  rintro e w3 ⟨aF, nF, cF, rfl, ownF, hb3⟩
  have HB3 := Lib.hid (HB2.out.trans (hb3.mono HB2.out.size))
  have HC3 := Lib.hid (HC2.out.keep (hb3.mono (by omega)))
  have HL3 := Lib.hid ownF
  have hz3 : w2.heap.size ≤ w3.heap.size := hb3.size
  have hnF : nF ≤ 7 := by have := ownF.len; rw [up_len] at this; omega
  have Hfl : Hid ((up f).length ≤ 7) := Lib.hid (by rw [up_len]; exact hf7)
  clear hb3 ownF
  by_cases h0 : 0 < nF
  · have h0i : (nF : Int) > 0 := by omega
    have h0j : (0 : Int) < nF := by omega
    go_wp2_with fail
    refine (l1Once_any g 6 w3 HC3.out (by omega)).mono ?_
    rintro e w5 ⟨v, rfl, ⟨b, rfl⟩, hg5, hc5⟩
    have HB5 : Hid (Below w.heap.size w w5) := Lib.hid (HB3.out.trans (hg5.belowNew hgw HB3.out.size))
    have HC5 := Lib.hid hc5
    have HL5 := Lib.hid (Own.chgW HL3.out hg5 (by omega))
    have hz5 : w3.heap.size ≤ w5.heap.size := hg5.size
    clear hg5 hc5
    cases b
    · go_wp2_with fail
      go_ret
      exact ⟨_, _, nF, cF, rfl, HL5.out.mono (by omega), Hfl.out, HB5.out⟩
    · go_wp2_with fail
      refine (l1Below_any g nF w5 HC5.out (by omega)).mono ?_
      rintro e w6 ⟨v, rfl, ⟨x, hx, _, rfl⟩, hg6, hc6⟩
      have hxn : x < nF := by have := hx (by omega); omega
      have HB6 : Hid (Below w.heap.size w w6) := Lib.hid (HB5.out.trans (hg6.belowNew hgw HB5.out.size))
      have HC6 := Lib.hid hc6
      have HL6 := Lib.hid (Own.chgW HL5.out hg6 (by omega))
      have hz6 : w5.heap.size ≤ w6.heap.size := hg6.size
      clear hg6 hc6 hx
      go_wp2_with fail
      refine (l1PickInt_any g _ 4 4 _ _ (HC6.out.alloc _) (IntsAt.lit4 w6 _ _ _ _) (fun b hb => by cases hb; simp only; omega) (by omega) (by omega)).mono ?_
      rintro e w7 ⟨v, rfl, ⟨y, _, rfl⟩, hg7, hc7⟩
      have HB7 : Hid (Below w.heap.size w w7) := Lib.hid ((HB6.out.alloc HB6.out.size _).trans (hg7.belowNew hgw (by have := HB6.out.size; simp; omega)))
      have HL7 := Lib.hid (Own.chgW (Own.alloc HL6.out (.cells #[.int .i64 0, .int .i64 (-1), .int .i64 1000000, .int .i64 1000001] 3)) hg7 (by omega))
      clear hg7 hc7
      obtain ⟨gF, hgF, hgB, hgl, hcF, hfF⟩ := Row.cells HL7.out h0
      subst hgF
      have hcx := HL7.out.reads.cellAt x hxn
      rw [Nat.zero_add] at hcx
      have hfx := hfF x
      have hx0 : (0 : Int) ≤ x := by omega
      have hxi : (x : Int) < nF := by omega
      have HLs := Lib.hid (HL7.out.set x y)
      have HBs := Lib.hid (HB7.out.setCell (p := ⟨gF, x, none⟩) (by simp only; omega) (.int .i64 y))
      have Hfl2 : Hid (((up f).set x y).length ≤ 7) := Lib.hid (by rw [List.length_set]; exact Hfl.out)
      clear hcF hfF
      go_wp2_with fail
      go_ret
      exact ⟨_, _, nF, cF, rfl, HLs.out.mono (by omega), Hfl2.out, HBs.out⟩
  · obtain rfl : nF = 0 := by omega
    have h00 : ¬ ((0 : Int) > 0) := by omega
    go_wp2_with fail
    go_ret
    exact ⟨_, _, 0, cF, rfl, HL3.out.mono (by omega), Hfl.out, HB3.out⟩
end Go.Proofs.Ytbdnlncpamandaa

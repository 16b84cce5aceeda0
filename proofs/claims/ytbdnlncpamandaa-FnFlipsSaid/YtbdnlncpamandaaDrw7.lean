/- The drawings of the colors: l28Case, DrawColorCounts, DrawFirstColoring, DrawIsBalanced. -/
import Derived.Test.YtbdnlncpamandaaColor2
import Derived.Test.YtbdnlncpamandaaDrw5
namespace Go.Proofs.Ytbdnlncpamandaa
set_option maxRecDepth 20000
open Go.RowKit
set_option linter.unusedSimpArgs false
set_option linter.unusedVariables false

/-- a drawn complex with a list -/
def RetCxL (w : World) (e : Ending) (w' : World) : Prop := ∃ p ad n c xs ad' n' c' cs, e = .returned (.tuple #[.agg #[.int .i64 p, .slice ad n c], .slice ad' n' c']) ∧ Own 3 w' w.heap.size ad n c xs ∧ xs.length ≤ 1101 ∧ Own 3 w' w.heap.size ad' n' c' cs ∧ cs.length ≤ 1101 ∧ Below w.heap.size w w'
theorem sFirst_any (p : Int) (xs : List Int) (k : Int) : ∃ (ys : List Int) (b : Bool), ys.length ≤ 6 ∧ ∀ W ad n c, IntsAt W ad n xs → Calls Try.prog 12 #[.agg #[.int .i64 p, .slice ad n c], .int .i64 k] W (RetL2 W ys b) := by
  by_cases h : FirP p xs k
  · obtain ⟨hA, h1, h6⟩ := h
    obtain ⟨l, rfl, hl2, _, _⟩ := hA.nat
    obtain ⟨m, rfl⟩ := Int.eq_ofNat_of_zero_le (show 0 ≤ p by have := hA.1; omega)
    obtain ⟨k, rfl⟩ := Int.eq_ofNat_of_zero_le (show 0 ≤ k by omega)
    have hm : m ≤ 6 := by have := hA.2.1; omega
    have hl64 : ∀ t ∈ l, t < 64 := fun t ht => (hl2 t ht).2
    refine ⟨_, _, ?_, fun W ad n c hx => sFirst_yes m ad n c l k W hx hm (by omega) (by omega) hA hl64⟩
    rw [up_len]
    cases hc : cfind (adjB l) k m [] with
    | none => simp
    | some L => have := cfind_len hc; simp at this; simp; omega
  · exact ⟨[], false, by simp, fun W ad n c hx => sFirst_no p ad n c xs k W hx h⟩

theorem Own.first {T : Nat} {w : World} {B : Nat} {a : Option Addr} {n c : Nat} {xs : List Int} (h : Own T w B a n c xs) (hn : 0 < n) : ∃ g, a = some ⟨g, 0, none⟩ ∧ B ≤ g ∧ g < w.heap.size := by
  obtain ⟨g, hg, hB, hl, _⟩ := Row.cells h hn
  exact ⟨g, hg, hB, hl⟩
theorem IntsAt.lit2 (w : World) (x0 x1 : Int) : IntsAt (w.alloc (.cells #[.int .i64 x0, .int .i64 x1] 3)) (some ⟨w.heap.size, 0, none⟩) 2 [x0, x1] := by
  refine ⟨rfl, by omega, fun _ => ⟨_, _, rfl, fun i hi => ?_⟩⟩
  match i, hi with
  | 0, _ | 1, _ => simp [nth]
set_option maxHeartbeats 2000000 in
theorem l28Case_any (a : Option Addr) (n c : Nat) (w : World) (hy : CodeAt w a n) (hn : n ≤ 1048576) :
    Calls Try.prog 61 #[.slice a n c] w (RetCxL w) := by
  have XR0 := Lib.hid (BoxF.new w (.int .i64 0) (.slice none 0 0) 26)
  obtain ⟨W0, hW0⟩ : ∃ W0, W0 = w.alloc (.cells #[.int .i64 0, .slice none 0 0] 26) := ⟨_, rfl⟩
  rw [← hW0] at XR0
  have Hz0 : Hid (W0.heap.size = w.heap.size + 1) := Lib.hid (by rw [hW0]; simp)
  have HB0 : Hid (Below w.heap.size w W0) := Lib.hid (by rw [hW0]; exact (by repeat (first | exact Below.refl _ _ | assumption | refine Below.setCell ?_ (by first | omega | (simp; done) | (simp; omega)) _ | refine Below.alloc ?_ (by first | omega | (simp; done) | (simp; omega)) _ | apply Below.drew)))
  have HY0 : Hid (CodeAt W0 a n) := Lib.hid (hy.keep HB0.out)
  have HW0 := Lib.hid hW0
  clear hy hW0
  go_enter Try.func61, Try.ntmps61
  go_wp2_with fail
  rw [← HW0.out]
  refine (l1New_any a n c W0 HY0.out hn).mono ?_
  rintro e w1 ⟨rfl, hb1, hc1⟩
  have hz1 : w.heap.size + 1 ≤ w1.heap.size := by have := hb1.size; have := Hz0.out; omega
  have XR1 := Lib.hid (XR0.out.keep hb1 (by have := Hz0.out; omega))
  have HB1 : Hid (Below w.heap.size w w1) := Lib.hid (HB0.out.trans (hb1.mono (by have := Hz0.out; omega)))
  obtain ⟨g, hg⟩ : ∃ g, g = W0.heap.size := ⟨_, rfl⟩
  rw [← hg] at hc1
  rw [← hg]
  have hgw : w.heap.size < g := by have := Hz0.out; omega
  have HC1 := Lib.hid hc1
  clear hb1 hc1 hg
  go_wp2_with fail
  refine (l3Bent_any g w1 HC1.out).mono ?_
  rintro e w2 ⟨v, rfl, ⟨p, ad, k, d, xs, rfl, hown, hxl, hp0, hp7⟩, hg2, hc2⟩
  have hb2 : Below w.heap.size w1 w2 := hg2.belowNew (by omega) (by omega)
  have HB2 := Lib.hid (HB1.out.trans hb2)
  have XR2 := Lib.hid (XR1.out.chg hg2 (by omega))
  have hz2 : w1.heap.size ≤ w2.heap.size := hg2.size
  obtain ⟨G, hG⟩ : ∃ G, G = w2.heap.size := ⟨_, rfl⟩
  have HG := Lib.hid hG
  obtain ⟨W3, hW3⟩ : ∃ W3, W3 = w2.alloc (.cells #[.int .i64 p, .slice ad k d] 26) := ⟨_, rfl⟩
  have HW3 := Lib.hid hW3
  have XG3 : Hid (BoxF W3 G (.int .i64 p) (.slice ad k d)) := Lib.hid (by rw [hW3, hG]; exact BoxF.new _ _ _ _)
  have XR3 : Hid (BoxF W3 w.heap.size (.int .i64 0) (.slice none 0 0)) := Lib.hid (by rw [hW3]; exact XR2.out.alloc _)
  have HC3 : Hid (Cur W3 g) := Lib.hid (by rw [hW3]; exact hc2.alloc _)
  have HO3 : Hid (Own 3 W3 w1.heap.size ad k d xs) := Lib.hid (by rw [hW3]; exact Own.alloc hown _)
  have HB3 : Hid (Below w.heap.size w W3) := Lib.hid (by rw [hW3]; exact HB2.out.alloc HB2.out.size _)
  have hGw : w1.heap.size ≤ G := by omega
  have hg1 : g < w1.heap.size := HC1.out.lt
  have hz3 : Hid (W3.heap.size = G + 1) := Lib.hid (by rw [hW3, hG]; simp)
  clear hg2 hc2 hown hb2 hG hW3
  go_wp2_with fail
  rw [← HG.out, ← HW3.out]
  refine (l1Below_any g 6 W3 HC3.out (by omega)).mono ?_
  rintro e w4 ⟨v, rfl, ⟨y, hy, _, rfl⟩, hg4, hc4⟩
  have hy6 : y < 6 := by have := hy (by omega); omega
  have HB4 : Hid (Below w.heap.size w w4) := Lib.hid (HB3.out.trans (hg4.belowNew (by omega) HB3.out.size))
  have HC4 := Lib.hid hc4
  have XG4 := Lib.hid (XG3.out.chg hg4 (by omega)); have XR4 := Lib.hid (XR3.out.chg hg4 (by omega)); have HO4 := Lib.hid (HO3.out.chgW hg4 hg1)
  have hz4 : G + 1 ≤ w4.heap.size := by have := hg4.size; have := hz3.out; omega
  clear hg4 hc4 hy
  obtain ⟨b0, b1, _, _, _⟩ := XG4.out
  obtain ⟨ys, b, hyl, hF⟩ := sFirst_any p xs (1 + (y : Int))
  have HF := Lib.hid (hF w4 ad k d HO4.out.reads)
  clear hF
  go_wp2_with fail
  refine HF.out.mono ?_
  rintro e w5 ⟨ad5, n5, c5, rfl, hown5, hb5⟩
  have HB5 := Lib.hid (HB4.out.trans (hb5.mono HB4.out.size))
  have HC5 := Lib.hid (HC4.out.keep (hb5.mono (by omega)))
  have XG5 := Lib.hid (XG4.out.keep hb5 XG4.out.lt); have XR5 := Lib.hid (XR4.out.keep hb5 XR4.out.lt); have HO5 := Lib.hid (HO4.out.keep hb5)
  have HLg : Hid (∀ q, (Value.slice ad5 n5 c5).ownBlock = some q → q ≠ g) := Lib.hid (fun q hq => by have := (hown5.lt q hq).1; omega)
  have HL5 := Lib.hid (Own.mono hown5 (show w.heap.size + 1 ≤ w4.heap.size by omega))
  have hz5 : G + 1 ≤ w5.heap.size := Nat.le_trans hz4 hb5.size
  clear hb5 hown5 b0 b1 HF
  have END : ∀ (W : World) (ad' : Option Addr) (n' c' : Nat) (cs : List Int), Below w.heap.size w W → Own 3 W w1.heap.size ad k d xs → Own 3 W (w.heap.size + 1) ad' n' c' cs → cs.length ≤ 1101 →
      RetCxL w (.returned (.tuple #[.agg #[.int .i64 p, .slice ad k d], .slice ad' n' c'])) ((W.setCell ⟨w.heap.size, 0, none⟩ (.int .i64 p)).setCell ⟨w.heap.size, 1, none⟩ (.slice ad k d)) := by
    intro W ad' n' c' cs hB ho ho' hl
    exact ⟨p, ad, k, d, xs, ad', n', c', cs, rfl, Row.mono (Row.setBelow (Row.setBelow ho _ (by omega)) _ (by omega)) (by omega), hxl, Row.mono (Row.setBelow (Row.setBelow ho' _ (by omega)) _ (by omega)) (by omega), hl, (hB.setCell (by simp) _).setCell (by simp) _⟩
  have HEND := Lib.hid END
  clear END
  obtain ⟨P, hP⟩ : ∃ P : Nat, p = P := ⟨p.toNat, by omega⟩
  have hP7 : P ≤ 7 := by omega
  have HPe := Lib.hid hP
  clear hP
  have HST : Hid (Below w.heap.size w w5 ∧ Cur w5 g ∧ BoxF w5 G (.int .i64 p) (.slice ad k d) ∧ BoxF w5 w.heap.size (.int .i64 0) (.slice none 0 0) ∧ Own 3 w5 w1.heap.size ad k d xs ∧ Own 3 w5 (w.heap.size + 1) ad5 n5 c5 ys ∧ G + 1 ≤ w5.heap.size) := Lib.hid ⟨HB5.out, HC5.out, XG5.out, XR5.out, HO5.out, HL5.out, hz5⟩
  go_upto_region 5 with fail
  go_cut [29] (fun v W => (∃ z : Bool, v = .bool z) ∧ Below w.heap.size w W ∧ Cur W g ∧ BoxF W G (.int .i64 p) (.slice ad k d) ∧ BoxF W w.heap.size (.int .i64 0) (.slice none 0 0) ∧ Own 3 W w1.heap.size ad k d xs ∧ Own 3 W (w.heap.size + 1) ad5 n5 c5 ys ∧ G + 1 ≤ W.heap.size)
  case first =>
    cases b
    · go_wp2_with fail
      go_meet
      exact ⟨⟨false, rfl⟩, HST.out⟩
    · go_wp2_with fail
      refine (l1Once_any g 4 w5 HC5.out (by omega)).mono ?_
      rintro e w6 ⟨v, rfl, ⟨o, rfl⟩, hg6, hc6⟩
      have HST6 : Hid (Below w.heap.size w w6 ∧ Cur w6 g ∧ BoxF w6 G (.int .i64 p) (.slice ad k d) ∧ BoxF w6 w.heap.size (.int .i64 0) (.slice none 0 0) ∧ Own 3 w6 w1.heap.size ad k d xs ∧ Own 3 w6 (w.heap.size + 1) ad5 n5 c5 ys ∧ G + 1 ≤ w6.heap.size) := Lib.hid ⟨HB5.out.trans (hg6.belowNew (by omega) HB5.out.size), hc6, XG5.out.chg hg6 (by omega), XR5.out.chg hg6 (by omega), HO5.out.chgW hg6 hg1, hg6.row HL5.out HLg.out, Nat.le_trans hz5 hg6.size⟩
      clear hg6 hc6
      go_wp2_with fail
      go_meet
      exact ⟨⟨_, rfl⟩, HST6.out⟩
  case rest =>
    obtain ⟨⟨z, rfl⟩, hB, hC, hXG, hXR, hO, hL, hz⟩ := hcut
    have HB6 := Lib.hid hB; have HC6 := Lib.hid hC; have XG6 := Lib.hid hXG; have XR6 := Lib.hid hXR; have HO6 := Lib.hid hO; have HL6 := Lib.hid hL
    clear hB hC hXG hXR hO hL HST HB5 HC5 XG5 XR5 HO5 HL5
    obtain ⟨b0, b1, _, _, _⟩ := XG6.out
    obtain ⟨r0, r1, rf0, rf1, _⟩ := XR6.out
    cases z
    · have HE := Lib.hid (Own.empty 3 wc wc.heap.size (Nat.le_refl _))
      obtain ⟨W7, hW7⟩ : ∃ W7, W7 = wc.alloc (.cells #[] 3) := ⟨_, rfl⟩
      have HW7 := Lib.hid hW7
      rw [← hW7] at HE
      have HB7 : Hid (Below w.heap.size w W7) := Lib.hid (by rw [hW7]; exact HB6.out.alloc HB6.out.size _)
      have HC7 : Hid (Cur W7 g) := Lib.hid (by rw [hW7]; exact HC6.out.alloc _)
      have XG7 : Hid (BoxF W7 G (.int .i64 p) (.slice ad k d)) := Lib.hid (by rw [hW7]; exact XG6.out.alloc _)
      have XR7 : Hid (BoxF W7 w.heap.size (.int .i64 0) (.slice none 0 0)) := Lib.hid (by rw [hW7]; exact XR6.out.alloc _)
      have HO7 : Hid (Own 3 W7 w1.heap.size ad k d xs) := Lib.hid (by rw [hW7]; exact Own.alloc HO6.out _)
      have hz7 : G + 2 ≤ W7.heap.size := by rw [hW7]; simp; omega
      have HE7 : Hid (∃ Z, Own 3 W7 Z (some ⟨wc.heap.size, 0, none⟩) 0 0 [] ∧ G < Z ∧ Z ≤ W7.heap.size ∧ Hid (∀ q, (Value.slice ad k d).ownBlock = some q → q < Z)) := Lib.hid ⟨wc.heap.size, HE.out, by omega, by rw [hW7]; simp, Lib.hid (fun q hq => (HO6.out.lt q hq).2)⟩
      obtain ⟨Z, hE7, hGZ, hZW, hlow⟩ := HE7.out
      have HE8 := Lib.hid hE7
      clear hW7 HE hE7 HE7 HB6 HC6 XG6 XR6 HO6 HL6 b0 b1 r0 r1 rf0 rf1
      go_wp2_with fail
      rw [← HW7.out]
      go_loopw [9, 10] (fun o i wr => ∃ (I : Nat) (ao : Option Addr) (no co : Nat) (cs : List Int), I ≤ P ∧ i = .int .i64 I ∧ o = .slice ao no co ∧ no ≤ I ∧ Own 3 wr Z ao no co cs ∧ Below w.heap.size w wr ∧ Cur wr g ∧ BoxF wr G (.int .i64 p) (.slice ad k d) ∧ BoxF wr w.heap.size (.int .i64 0) (.slice none 0 0) ∧ Own 3 wr w1.heap.size ad k d xs ∧ Z ≤ wr.heap.size) (fun _ i _ => P - (intOf i).toNat)
      case atStart => exact ⟨0, _, 0, 0, [], Nat.zero_le _, rfl, rfl, Nat.le_refl _, HE8.out, HB7.out, HC7.out, XG7.out, XR7.out, HO7.out, hZW⟩
      case round =>
        obtain ⟨I, ao, no, co, cs, hI, rfl, rfl, hno, hown, hB, hC, hXG, hXR, hO, hZr⟩ := hrel
        have HBr := Lib.hid hB; have HCr := Lib.hid hC; have XGr := Lib.hid hXG; have XRr := Lib.hid hXR; have HOr := Lib.hid hO; have HLr := Lib.hid hown
        clear hB hC hXG hXR hO hown
        obtain ⟨b0, b1, _, _, _⟩ := XGr.out
        by_cases hlt : I < P
        · have hli : (I : Int) < p := by rw [HPe.out]; omega
          go_wp2_with fail
          refine (l1Below_any g 6 wr HCr.out (by omega)).mono ?_
          rintro e w8 ⟨v, rfl, ⟨x, _, _, rfl⟩, hg8, hc8⟩
          have HB8 := Lib.hid (HBr.out.trans (hg8.belowNew (by omega) HBr.out.size)); have HC8 := Lib.hid hc8
          have XG8 := Lib.hid (XGr.out.chg hg8 (by omega)); have XR8 := Lib.hid (XRr.out.chg hg8 (by omega)); have HO8 := Lib.hid (HOr.out.chgW hg8 hg1); have HL8 := Lib.hid (HLr.out.chgW hg8 (by omega))
          have hz8 : Z ≤ w8.heap.size := Nat.le_trans hZr hg8.size
          clear hg8 hc8 b0 b1
          go_wp2_with (at_builtin; refine ap rfl _ _ rfl Z _ _ _ _ _ rfl HL8.out rfl (by omega) hz8 ?_; intro ad9 d9 w9 hown9 hb9; have HO9 := Lib.hid hown9; have HB9 := Lib.hid hb9; clear hown9 hb9)
          go_roundw
          case rel => exact ⟨I + 1, ad9, no + 1, d9, _, by omega, by go_num, rfl, by omega, HO9.out, HB8.out.trans (HB9.out.mono (by omega)), HC8.out.keep (HB9.out.mono (by omega)), XG8.out.keep HB9.out hGZ, XR8.out.keep HB9.out (by omega), HO8.out.other fun q hq _ => HB9.out.block q (hlow.out q (by rw [hq]; rfl)), Nat.le_trans hz8 HB9.out.size⟩
          case measure => simp [intOf]; omega
        · have hli : ¬ ((I : Int) < p) := by rw [HPe.out]; omega
          have hcl : cs.length ≤ 1101 := by have := HLr.out.len; omega
          by_cases hno0 : no = 0
          · subst hno0
            have h0i : ¬ ((0 : Int) < ((0 : Nat) : Int)) := by omega
            obtain ⟨r0, r1, rf0, rf1, _⟩ := XRr.out
            go_wp2_with fail
            refine bodyPost_ret (v := .tuple #[.agg #[.int .i64 p, .slice ad k d], .slice ao 0 co]) (by simp [results, Try.results61, go_sem, r0, r1]) rfl ?_
            exact HEND.out _ ao 0 co cs HBr.out HOr.out (HLr.out.mono (by omega)) hcl
          · have h0i : (0 : Int) < no := by omega
            go_wp2_with fail
            refine (l1Once_any g 8 wr HCr.out (by omega)).mono ?_
            rintro e w8 ⟨v, rfl, ⟨o, rfl⟩, hg8, hc8⟩
            have HB8 := Lib.hid (HBr.out.trans (hg8.belowNew (by omega) HBr.out.size)); have HC8 := Lib.hid hc8
            have XG8 := Lib.hid (XGr.out.chg hg8 (by omega)); have XR8 := Lib.hid (XRr.out.chg hg8 (by omega)); have HO8 := Lib.hid (HOr.out.chgW hg8 hg1); have HL8 := Lib.hid (HLr.out.chgW hg8 (by omega))
            have hz8 : Z ≤ w8.heap.size := Nat.le_trans hZr hg8.size
            clear hg8 hc8 b0 b1
            obtain ⟨b0, b1, _, _, _⟩ := XG8.out
            cases o
            · obtain ⟨r0, r1, rf0, rf1, _⟩ := XR8.out
              go_wp2_with fail
              refine bodyPost_ret (v := .tuple #[.agg #[.int .i64 p, .slice ad k d], .slice ao no co]) (by simp [results, Try.results61, go_sem, r0, r1]) rfl ?_
              exact HEND.out _ ao no co cs HB8.out HO8.out (HL8.out.mono (by omega)) hcl
            · have HT := Lib.hid (IntsAt.lit2 w8 (-1) 6)
              go_wp2_with fail
              refine (l1PickInt_any g _ 2 2 _ _ (HC8.out.alloc _) HT.out (fun b hb => by cases hb; simp only; omega) (by omega) (by omega)).mono ?_
              rintro e w9 ⟨v, rfl, ⟨x, _, rfl⟩, hg9, hc9⟩
              have HB9 := Lib.hid ((HB8.out.alloc HB8.out.size _).trans (hg9.belowNew (by omega) (by have := HB8.out.size; simp; omega)))
              have XG9 := Lib.hid ((XG8.out.alloc _).chg hg9 (by omega)); have XR9 := Lib.hid ((XR8.out.alloc _).chg hg9 (by omega)); have HO9 := Lib.hid ((Own.alloc HO8.out _).chgW hg9 hg1); have HL9 := Lib.hid ((Own.alloc HL8.out _).chgW hg9 (by omega))
              clear hg9 hc9 b0 b1
              obtain ⟨gq, hgq, hZq, hql, hcq, hfq⟩ := Row.cells HL9.out (by omega)
              subst hgq
              have hf1 := hfq 0
              have hc1 := hcq 0 (by omega)
              obtain ⟨old, hold⟩ : ∃ old, w9.cell? ⟨gq, 0, none⟩ = some old := by
                rw [hc1, List.getElem?_eq_getElem (by rw [List.length_map, HL9.out.len]; omega)]; exact ⟨_, rfl⟩
              clear hcq hfq hc1
              have HS := Lib.hid (Own.set HL9.out 0 x)
              obtain ⟨WX, hWX⟩ : ∃ WX, WX = w9.setCell ⟨gq, 0, none⟩ (.int .i64 x) := ⟨_, rfl⟩
              have HWX := Lib.hid hWX
              rw [← hWX] at HS
              have HBX : Hid (Below w.heap.size w WX) := Lib.hid (by rw [hWX]; exact HB9.out.setCell (by simp only; omega) _)
              have XRX : Hid (BoxF WX w.heap.size (.int .i64 0) (.slice none 0 0)) := Lib.hid (by rw [hWX]; exact XR9.out.setOther _ _ (by simp only; omega))
              have XGX : Hid (BoxF WX G (.int .i64 p) (.slice ad k d)) := Lib.hid (by rw [hWX]; exact XG9.out.setOther _ _ (by simp only; omega))
              have HOX : Hid (Own 3 WX w1.heap.size ad k d xs) := Lib.hid (by rw [hWX]; exact Row.setOther HO9.out _ (fun e => by have := hlow.out gq (by rw [e]; rfl); omega))
              clear hWX
              have bx := XGX.out; have rx := XRX.out
              rw [HWX.out] at bx rx
              obtain ⟨b0, b1, _, _, _⟩ := bx
              obtain ⟨r0, r1, rf0, rf1, _⟩ := rx
              go_wp2_with fail
              refine bodyPost_ret (v := .tuple #[.agg #[.int .i64 p, .slice ad k d], .slice (some ⟨gq, 0, none⟩) no co]) (by simp [results, Try.results61, go_sem, r0, r1]) rfl ?_
              rw [← HWX.out]
              exact HEND.out _ _ no co _ HBX.out HOX.out (HS.out.mono (by omega)) (by rw [List.length_set]; exact hcl)
    · go_wp2_with fail
      refine bodyPost_ret (v := .tuple #[.agg #[.int .i64 p, .slice ad k d], .slice ad5 n5 c5]) (by simp [results, Try.results61, go_sem, r0, r1]) rfl ?_
      exact HEND.out _ ad5 n5 c5 ys HB6.out HO6.out HL6.out (by omega)
theorem drawColors_any (a : Option Addr) (n c : Nat) (w : World) (hy : CodeAt w a n) (hn : n ≤ 1048576) :
    Calls Try.prog 7 #[.slice a n c] w (RetCxL w) := by
  have XR0 := Lib.hid (BoxF.new w (.int .i64 0) (.slice none 0 0) 26)
  obtain ⟨W0, hW0⟩ : ∃ W0, W0 = w.alloc (.cells #[.int .i64 0, .slice none 0 0] 26) := ⟨_, rfl⟩
  rw [← hW0] at XR0
  have Hz0 : Hid (W0.heap.size = w.heap.size + 1) := Lib.hid (by rw [hW0]; simp)
  have HB0 : Hid (Below w.heap.size w W0) := Lib.hid (by rw [hW0]; exact (by repeat (first | exact Below.refl _ _ | assumption | refine Below.setCell ?_ (by first | omega | (simp; done) | (simp; omega)) _ | refine Below.alloc ?_ (by first | omega | (simp; done) | (simp; omega)) _ | apply Below.drew)))
  have HY0 : Hid (CodeAt W0 a n) := Lib.hid (hy.keep HB0.out)
  have HW0 := Lib.hid hW0
  clear hy hW0
  go_enter Try.func7, Try.ntmps7
  go_wp2_with fail
  rw [← HW0.out]
  refine (l28Case_any a n c W0 HY0.out hn).mono ?_
  rintro e w1 ⟨p, ad, k, d, xs, ad', k', d', cs, rfl, hown, hxl, hown', hcl, hb1⟩
  have HB1 := Lib.hid (HB0.out.trans (hb1.mono (by have := Hz0.out; omega)))
  have XR1 := Lib.hid ((XR0.out.keep hb1 (by have := Hz0.out; omega)).alloc (.cells #[.int .i64 p, .slice ad k d] 26))
  have HO1 := Lib.hid hown; have HP1 := Lib.hid hown'
  have hz0 : w.heap.size < W0.heap.size := by have := Hz0.out; omega
  clear hb1 hown hown'
  obtain ⟨r0, r1, rf0, rf1, _⟩ := XR1.out
  go_wp2_with fail
  refine bodyPost_ret (v := .tuple #[.agg #[.int .i64 p, .slice ad k d], .slice ad' k' d']) (by simp [results, Try.results7, go_sem, r0, r1]) rfl ⟨p, ad, k, d, xs, ad', k', d', cs, rfl, ?_, hxl, ?_, hcl, ?_⟩
  · exact Row.mono (Row.setBelow (Row.setBelow (Row.alloc HO1.out _) _ (by omega)) _ (by omega)) (by omega)
  · exact Row.mono (Row.setBelow (Row.setBelow (Row.alloc HP1.out _) _ (by omega)) _ (by omega)) (by omega)
  · exact ((HB1.out.alloc HB1.out.size _).setCell (by simp) _).setCell (by simp) _
set_option maxHeartbeats 1000000 in
theorem drawFirstColoring_any (a : Option Addr) (n c : Nat) (w : World) (hy : CodeAt w a n) (hn : n ≤ 1048576) :
    Calls Try.prog 10 #[.slice a n c] w (RetCxI w) := by
  have XR0 := Lib.hid (BoxF.new w (.int .i64 0) (.slice none 0 0) 26)
  obtain ⟨W0, hW0⟩ : ∃ W0, W0 = w.alloc (.cells #[.int .i64 0, .slice none 0 0] 26) := ⟨_, rfl⟩
  rw [← hW0] at XR0
  have Hz0 : Hid (W0.heap.size = w.heap.size + 1) := Lib.hid (by rw [hW0]; simp)
  have HB0 : Hid (Below w.heap.size w W0) := Lib.hid (by rw [hW0]; exact (by repeat (first | exact Below.refl _ _ | assumption | refine Below.setCell ?_ (by first | omega | (simp; done) | (simp; omega)) _ | refine Below.alloc ?_ (by first | omega | (simp; done) | (simp; omega)) _ | apply Below.drew)))
  have HY0 : Hid (CodeAt W0 a n) := Lib.hid (hy.keep HB0.out)
  have HW0 := Lib.hid hW0
  clear hy hW0
  go_enter Try.func10, Try.ntmps10
  go_wp2_with fail
  rw [← HW0.out]
  refine (l1New_any a n c W0 HY0.out hn).mono ?_
  rintro e w1 ⟨rfl, hb1, hc1⟩
  have hz1 : w.heap.size + 1 ≤ w1.heap.size := by have := hb1.size; have := Hz0.out; omega
  have XR1 := Lib.hid (XR0.out.keep hb1 (by have := Hz0.out; omega))
  have HB1 : Hid (Below w.heap.size w w1) := Lib.hid (HB0.out.trans (hb1.mono (by have := Hz0.out; omega)))
  obtain ⟨g, hg⟩ : ∃ g, g = W0.heap.size := ⟨_, rfl⟩
  rw [← hg] at hc1
  rw [← hg]
  have hgw : w.heap.size < g := by have := Hz0.out; omega
  have HC1 := Lib.hid hc1
  clear hb1 hc1 hg
  go_wp2_with fail
  refine (l3Bent_any g w1 HC1.out).mono ?_
  rintro e w2 ⟨v, rfl, ⟨p, ad, k, d, xs, rfl, hown, hxl⟩, hg2, hc2⟩
  have hb2 : Below w.heap.size w1 w2 := hg2.belowNew (by omega) (by omega)
  have HB2 := Lib.hid (HB1.out.trans hb2)
  have XR2 := Lib.hid (XR1.out.chg hg2 (by omega))
  have HC2 := Lib.hid hc2
  have hz2 : w1.heap.size ≤ w2.heap.size := hg2.size
  obtain ⟨G, hG⟩ : ∃ G, G = w2.heap.size := ⟨_, rfl⟩
  have HG := Lib.hid hG
  obtain ⟨W3, hW3⟩ : ∃ W3, W3 = w2.alloc (.cells #[.int .i64 p, .slice ad k d] 26) := ⟨_, rfl⟩
  have HW3 := Lib.hid hW3
  have XG3 : Hid (BoxF W3 G (.int .i64 p) (.slice ad k d)) := Lib.hid (by rw [hW3, hG]; exact BoxF.new _ _ _ _)
  have XR3 : Hid (BoxF W3 w.heap.size (.int .i64 0) (.slice none 0 0)) := Lib.hid (by rw [hW3]; exact XR2.out.alloc _)
  have HC3 : Hid (Cur W3 g) := Lib.hid (by rw [hW3]; exact hc2.alloc _)
  have HO3 : Hid (Own 3 W3 w1.heap.size ad k d xs) := Lib.hid (by rw [hW3]; exact Own.alloc hown _)
  have HB3 : Hid (Below w.heap.size w W3) := Lib.hid (by rw [hW3]; exact HB2.out.alloc HB2.out.size _)
  have hGw : w1.heap.size ≤ G := by omega
  have hgG : g < G := by have := hc2.lt; omega
  have hz3 : Hid (W3.heap.size = G + 1) := Lib.hid (by rw [hW3, hG]; simp)
  clear hg2 hc2 hown hb2 hG hW3
  obtain ⟨b0, b1, _, _, _⟩ := XG3.out
  go_wp2_with fail
  rw [← HG.out, ← HW3.out]
  go_region_held3 (fun W => W.cell? ⟨G, 0, none⟩ = some (.int .i64 p) ∧ W.cell? ⟨G, 1, none⟩ = some (.slice ad k d)) (first | exact ⟨b0, b1⟩ | exact ⟨z0, z1⟩ | (have hh := ((XG5.out.setOther ⟨w.heap.size, 0, none⟩ (.int .i64 p) (by simp only; omega)).setOther ⟨w.heap.size, 1, none⟩ (.slice ad k d) (by simp only; omega)); exact ⟨hh.c0, hh.c1⟩) | go_keep) (first
    | (go_simp; go_at_call 68; (with_reducible refine (l1Below_any g 9 _ HC3.out.drew (by omega)).mono ?_); rintro e w5 ⟨v, rfl, ⟨x, _, _, rfl⟩, hg5, hc5⟩; have HB5 : Hid (Below w.heap.size w w5) := Lib.hid (HB3.out.drew.trans (hg5.belowNew (by omega) HB3.out.size)); have HO5 : Hid (Own 3 w5 w1.heap.size ad k d xs) := Lib.hid (Own.chgW (Own.drew HO3.out) hg5 (HC1.out.lt)); have XG5 := Lib.hid (XG3.out.drew.chg hg5 (by omega)); have XR5 := Lib.hid (XR3.out.drew.chg hg5 (by omega)); obtain ⟨z0, z1, zf0, zf1, _⟩ := XG5.out; obtain ⟨r0, r1, f0, f1, _⟩ := XR5.out; clear hg5 hc5))
  all_goals (
    go_wp2_with fail
    refine bodyPost_ret (v := .tuple #[.agg #[.int .i64 p, .slice ad k d], .int .i64 (IntKind.i64.wrap ((x : Int) - 1))]) (by simp [results, Try.results10, go_sem, r0, r1]) rfl ⟨p, ad, k, d, xs, _, rfl, Row.mono (Row.setBelow (Row.setBelow HO5.out _ (by omega)) _ (by omega)) (by omega), hxl.1, (HB5.out.setCell (by simp) _).setCell (by simp) _⟩)
/-- a drawn complex alone -/
def RetCx (w : World) (e : Ending) (w' : World) : Prop := ∃ p ad n c xs, e = .returned (.agg #[.int .i64 p, .slice ad n c]) ∧ Own 3 w' w.heap.size ad n c xs ∧ xs.length ≤ 1101 ∧ Below w.heap.size w w'
theorem drawIsBalanced_any (a : Option Addr) (n c : Nat) (w : World) (hy : CodeAt w a n) (hn : n ≤ 1048576) :
    Calls Try.prog 13 #[.slice a n c] w (RetCx w) := by
  have XR0 := Lib.hid (BoxF.new w (.int .i64 0) (.slice none 0 0) 26)
  obtain ⟨W0, hW0⟩ : ∃ W0, W0 = w.alloc (.cells #[.int .i64 0, .slice none 0 0] 26) := ⟨_, rfl⟩
  rw [← hW0] at XR0
  have Hz0 : Hid (W0.heap.size = w.heap.size + 1) := Lib.hid (by rw [hW0]; simp)
  have HB0 : Hid (Below w.heap.size w W0) := Lib.hid (by rw [hW0]; exact (by repeat (first | exact Below.refl _ _ | assumption | refine Below.setCell ?_ (by first | omega | (simp; done) | (simp; omega)) _ | refine Below.alloc ?_ (by first | omega | (simp; done) | (simp; omega)) _ | apply Below.drew)))
  have HY0 : Hid (CodeAt W0 a n) := Lib.hid (hy.keep HB0.out)
  have HW0 := Lib.hid hW0
  clear hy hW0
  go_enter Try.func13, Try.ntmps13
  go_wp2_with fail
  rw [← HW0.out]
  refine (l1New_any a n c W0 HY0.out hn).mono ?_
  rintro e w1 ⟨rfl, hb1, hc1⟩
  have hz1 : w.heap.size + 1 ≤ w1.heap.size := by have := hb1.size; have := Hz0.out; omega
  have XR1 := Lib.hid (XR0.out.keep hb1 (by have := Hz0.out; omega))
  have HB1 : Hid (Below w.heap.size w w1) := Lib.hid (HB0.out.trans (hb1.mono (by have := Hz0.out; omega)))
  obtain ⟨g, hg⟩ : ∃ g, g = W0.heap.size := ⟨_, rfl⟩
  rw [← hg] at hc1
  rw [← hg]
  have hgw : w.heap.size < g := by have := Hz0.out; omega
  have HC1 := Lib.hid hc1
  clear hb1 hc1 hg
  go_wp2_with fail
  refine (l3Bent_any g w1 HC1.out).mono ?_
  rintro e w2 ⟨v, rfl, ⟨p, ad, k, d, xs, rfl, hown, hxl, hp0, hp7⟩, hg2, hc2⟩
  have hb2 : Below w.heap.size w1 w2 := hg2.belowNew (by omega) (by omega)
  have HB2 := Lib.hid (HB1.out.trans hb2)
  have XR2 := Lib.hid (XR1.out.chg hg2 (by omega))
  have HO2 := Lib.hid hown
  clear hg2 hc2 hown hb2
  obtain ⟨r0, r1, rf0, rf1, _⟩ := XR2.out
  go_wp2_with fail
  refine bodyPost_ret (v := .agg #[.int .i64 p, .slice ad k d]) (by simp [results, Try.results13, go_sem, r0, r1]) rfl ⟨p, ad, k, d, xs, rfl, ?_, hxl, ?_⟩
  · exact Row.mono (Row.setBelow (Row.setBelow HO2.out _ (by omega)) _ (by omega)) (by omega)
  · exact (HB2.out.setCell (by simp) _).setCell (by simp) _
end Go.Proofs.Ytbdnlncpamandaa

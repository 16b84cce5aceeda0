/- The reference's drawings for FnFlips: l24Case, DrawFlipAt, DrawFlipsOf, DrawFlipText. -/
import Derived.Test.YtbdnlncpamandaaCore
import Derived.Test.YtbdnlncpamandaaDrw8
import Derived.Test.YtbdnlncpamandaaDrw9
import Derived.Test.YtbdnlncpamandaaFlipS2
namespace Go.Proofs.Ytbdnlncpamandaa
set_option maxRecDepth 20000
open Go.RowKit
set_option linter.unusedSimpArgs false
set_option linter.unusedVariables false

/-- a drawn complex with two numbers -/
def RetCxII (w : World) (e : Ending) (w' : World) : Prop := ∃ p ad n c xs s t, e = .returned (.tuple #[.agg #[.int .i64 p, .slice ad n c], .int .i64 s, .int .i64 t]) ∧ Own 3 w' w.heap.size ad n c xs ∧ xs.length ≤ 1101 ∧ (-9000000000000000000 ≤ s ∧ s ≤ 9000000000000000000 ∧ -9000000000000000000 ≤ t ∧ t ≤ 9000000000000000000) ∧ Below w.heap.size w w'
theorem pairs_of {ok : Nat → Nat → Bool} {S : Nat} (hS : S ≤ 64) : ∀ x ∈ allS ok S, x.length = 2 ∧ (0 ≤ nth x 0 ∧ nth x 0 < 64) ∧ (0 ≤ nth x 1 ∧ nth x 1 < 64) := fun x hx => by
  unfold allS at hx
  obtain ⟨s, hs, hx⟩ := List.mem_flatMap.1 hx
  unfold rowT at hx
  obtain ⟨t, ht, rfl⟩ := List.mem_map.1 hx
  have h1 := List.mem_range.1 hs
  have h2 := List.mem_range.1 (List.mem_filter.1 ht).1
  refine ⟨rfl, ?_, ?_⟩
  · show 0 ≤ (s : Int) ∧ (s : Int) < 64; omega
  · show 0 ≤ (t : Int) ∧ (t : Int) < 64; omega
theorem flipsOf_all (p : Int) (xs : List Int) : ∃ L : List (List Int), L.length ≤ 4096 ∧ (∀ x ∈ L, x.length = 2 ∧ (0 ≤ nth x 0 ∧ nth x 0 < 64) ∧ (0 ≤ nth x 1 ∧ nth x 1 < 64)) ∧ ∀ W ad n c, IntsAt W ad n xs → Calls Try.prog 57 #[.agg #[.int .i64 p, .slice ad n c]] W (RetInts2 W L) := by
  by_cases h : Anti p xs
  · obtain ⟨l, rfl, hl2, hs, _⟩ := h.nat
    have hl64 : ∀ t ∈ l, t < 64 := fun t ht => (hl2 t ht).2
    have hll := sorted_len hs hl64
    refine ⟨allS (okF p l) 64, allS_len _ 64, pairs_of (Nat.le_refl _), fun W ad n c hx => ?_⟩
    exact sFlipsOf_yes p ad n c l W hx (by have := hx.len; rw [up_len] at this; omega) h hl64
  · exact ⟨[], by simp, by simp, fun W ad n c hx => sFlipsOf_no p ad n c xs W hx h⟩
theorem Own2.chgW {w w' : World} {g B U : Nat} {a : Option Addr} {n c : Nat} {L : List (List Int)} (h : Own2 w B U a n c L) (hg : Chg w w' g none) (hB : g < B) : Own2 w' B U a n c L := by
  obtain ⟨f, h⟩ := h
  exact ⟨f, h.pres fun k h1 _ h3 => hg.block k h3 (by omega) (by simp)⟩
set_option maxHeartbeats 1000000 in
/-- a number below one that may be great -/
theorem l1Big_any (g n : Nat) (w : World) (hc : Cur w g) (h0 : 0 < n) (hn : n ≤ 4096) :
    Calls Try.prog 68 #[.pointer (some ⟨g, 0, none⟩), .int .i64 n] w (RetD g w fun v _ => ∃ x : Nat, x < n ∧ v = .int .i64 x) := by
  by_cases h256 : n ≤ 256
  · refine (l1Below_any g n w hc (by omega)).mono ?_
    rintro e w' ⟨v, he, ⟨x, hx, _, hv⟩, hg, hc2⟩
    exact ⟨v, he, ⟨x, by have := hx (by omega); omega, hv⟩, hg, hc2⟩
  · have HC := Lib.hid hc
    clear hc
    go_enter Try.func68, Try.ntmps68
    go_wp2_with fail
    refine (l1Byte_any g w HC.out).mono ?_
    rintro e w1 ⟨v, rfl, ⟨x1, hx1, rfl⟩, hg1, hc1⟩
    have HG1 := Lib.hid hg1; have HC1 := Lib.hid hc1
    clear hg1 hc1
    go_wp2_with fail
    refine (l1Byte_any g w1 HC1.out).mono ?_
    rintro e w2 ⟨v, rfl, ⟨x2, hx2, rfl⟩, hg2, hc2⟩
    have HG2 := Lib.hid (HG1.out.trans hg2); have HC2 := Lib.hid hc2
    clear hg2 hc2
    go_wp2_with fail
    refine (l1Byte_any g w2 HC2.out).mono ?_
    rintro e w3 ⟨v, rfl, ⟨x3, hx3, rfl⟩, hg3, hc3⟩
    have HG3 := Lib.hid (HG2.out.trans hg3); have HC3 := Lib.hid hc3
    clear hg3 hc3
    go_wp2_with fail
    refine (l1Byte_any g w3 HC3.out).mono ?_
    rintro e w4 ⟨v, rfl, ⟨x4, hx4, rfl⟩, hg4, hc4⟩
    have HG4 := Lib.hid (HG3.out.trans hg4); have HC4 := Lib.hid hc4
    clear hg4 hc4
    obtain ⟨z, hz⟩ : ∃ z : Nat, z = x1 * 16777216 + x2 * 65536 + x3 * 256 + x4 := ⟨_, rfl⟩
    have hzi : (x1 : Int) * 16777216 + x2 * 65536 + x3 * 256 + x4 = (z : Int) := by rw [hz]; omega
    have hzb : z ≤ 4294967295 := by omega
    have hmod : Int.tmod (z : Int) n = ((z % n : Nat) : Int) := by rw [Int.ofNat_tmod]
    have hne : (n : Int) ≠ 0 := by omega
    have Hm := Lib.hid (Nat.mod_lt z h0)
    clear hz
    go_wp2_with fail
    go_ret
    exact ⟨.int .i64 ((z % n : Nat) : Int), ret_int (by simp), ⟨z % n, Hm.out, rfl⟩, HG4.out, HC4.out⟩
set_option maxHeartbeats 8000000 in
theorem l24Case_any (a : Option Addr) (n c : Nat) (w : World) (hy : CodeAt w a n) (hn : n ≤ 1048576) :
    Calls Try.prog 102 #[.slice a n c] w (RetCxII w) := by
  have XR0 := Lib.hid (BoxF.new w (.int .i64 0) (.slice none 0 0) 26)
  obtain ⟨W0, hW0⟩ : ∃ W0, W0 = w.alloc (.cells #[.int .i64 0, .slice none 0 0] 26) := ⟨_, rfl⟩
  rw [← hW0] at XR0
  have Hz0 : Hid (W0.heap.size = w.heap.size + 1) := Lib.hid (by rw [hW0]; simp)
  have HB0 : Hid (Below w.heap.size w W0) := Lib.hid (by rw [hW0]; exact (by repeat (first | exact Below.refl _ _ | assumption | refine Below.setCell ?_ (by first | omega | (simp; done) | (simp; omega)) _ | refine Below.alloc ?_ (by first | omega | (simp; done) | (simp; omega)) _ | apply Below.drew)))
  have HY0 : Hid (CodeAt W0 a n) := Lib.hid (hy.keep HB0.out)
  have HW0 := Lib.hid hW0
  clear hy hW0
  go_enter Try.func102, Try.ntmps102
  go_wp2_with fail
  rw [← HW0.out]
  refine (l1New_any a n c W0 HY0.out hn).mono ?_
  rintro e w1 ⟨rfl, hb1, hc1⟩
  have hz1 : w.heap.size + 1 ≤ w1.heap.size := by have := hb1.size; have := Hz0.out; omega
  have XR1 := Lib.hid (XR0.out.keep hb1 (by have := Hz0.out; omega))
  have HB1 : Hid (Below w.heap.size w w1) := Lib.hid (HB0.out.trans (hb1.mono (by have := Hz0.out; omega)))
  obtain ⟨g, hg⟩ : ∃ g, g = W0.heap.size := ⟨_, rfl⟩
  rw [← hg] at hc1
  rw [← hg]
  have hgw : w.heap.size < g := by have := Hz0.out; omega
  have HC1 := Lib.hid hc1
  have hgB : g < w1.heap.size := hc1.lt
  clear hb1 hc1 hg
  go_wp2_with fail
  refine (l23Draw_any g w1 HC1.out).mono ?_
  rintro e w2 ⟨v, rfl, ⟨p, ad, k, d, xs, rfl, hown, hxl, hp0, hp7⟩, hg2, hc2⟩
  have HB2 := Lib.hid (HB1.out.trans (hg2.belowNew (B := w.heap.size) (by omega) (by omega)))
  have XR2 := Lib.hid (XR1.out.chg hg2 (by omega))
  have hz2 : w1.heap.size ≤ w2.heap.size := hg2.size
  obtain ⟨G, hG⟩ : ∃ G, G = w2.heap.size := ⟨_, rfl⟩
  have HG := Lib.hid hG
  obtain ⟨W3, hW3⟩ : ∃ W3, W3 = w2.alloc (.cells #[.int .i64 p, .slice ad k d] 26) := ⟨_, rfl⟩
  have HW3 := Lib.hid hW3
  have XG3 : Hid (BoxF W3 G (.int .i64 p) (.slice ad k d)) := Lib.hid (by rw [hW3, hG]; exact BoxF.new _ _ _ _)
  have XR3 : Hid (BoxF W3 w.heap.size (.int .i64 0) (.slice none 0 0)) := Lib.hid (by rw [hW3]; exact XR2.out.alloc _)
  have HC3 : Hid (Cur W3 g) := Lib.hid (by rw [hW3]; exact hc2.alloc _)
  have HO3 : Hid (Own 3 W3 w1.heap.size ad k d xs) := Lib.hid (by rw [hW3]; exact Own.alloc hown _)
  have HB3 : Hid (Below w.heap.size w W3) := Lib.hid (by rw [hW3]; exact HB2.out.alloc HB2.out.size _)
  have hGw : w1.heap.size ≤ G := by omega
  have hz3 : G + 1 ≤ W3.heap.size := by rw [hW3, hG]; simp
  clear hg2 hc2 hown hG hW3
  go_wp2_with fail
  rw [← HG.out, ← HW3.out]
  refine (l1Once_any g 3 W3 HC3.out (by omega)).mono ?_
  rintro e wa ⟨v, rfl, ⟨b, rfl⟩, hga, hca⟩
  have XGa := Lib.hid (XG3.out.chg hga (by omega)); have XRa := Lib.hid (XR3.out.chg hga (by omega))
  have HBa : Hid (Below w.heap.size w wa) := Lib.hid (HB3.out.trans (hga.belowNew (by omega) (by omega)))
  have HOa := Lib.hid (Own.chgW HO3.out hga hgB); have HCa := Lib.hid hca
  have hza : G + 1 ≤ wa.heap.size := Nat.le_trans hz3 hga.size
  clear hga hca XG3 XR3 HB3 HO3 HC3 HB2 XR2 HB1 XR1 HC1
  cases b
  · have hzz : G + 1 ≤ wa.heap.size := hza
    obtain ⟨L, hL4, hLp, hF⟩ := flipsOf_all p xs
    have HF := Lib.hid hF; have HLp := Lib.hid hLp
    clear hF hLp
    obtain ⟨q0, q1, _, _, _⟩ := XGa.out
    go_wp2_with fail
    refine (HF.out wa ad k d HOa.out.reads).mono ?_
    rintro e w4 ⟨aF, nF, cF, rfl, ownF, hb4⟩
    have HO4 := Lib.hid (HOa.out.keep hb4); have HC4 := Lib.hid (HCa.out.keep (hb4.mono (by omega))); have HB4 := Lib.hid (HBa.out.trans (hb4.mono (by omega)))
    have XG4 := Lib.hid (XGa.out.keep hb4 (by omega)); have XR4 := Lib.hid (XRa.out.keep hb4 (by omega))
    have hz4 : wa.heap.size ≤ w4.heap.size := hb4.size
    have HL4 := Lib.hid ownF
    have HnF : Hid (L.length = nF) := Lib.hid ownF.len
    have hnF : nF ≤ 4096 := by have := HnF.out; omega
    clear hb4 ownF q0 q1
    by_cases h0 : 0 < nF
    · have h0i : (nF : Int) > 0 := by omega
      have h0j : (0 : Int) < nF := by omega
      go_wp2_with fail
      refine (l1Once_any g 5 w4 HC4.out (by omega)).mono ?_
      rintro e w5 ⟨v, rfl, ⟨b5, rfl⟩, hg5, hc5⟩
      have XG5 := Lib.hid (XG4.out.chg hg5 (by omega)); have XR5 := Lib.hid (XR4.out.chg hg5 (by omega))
      have HB5 : Hid (Below w.heap.size w w5) := Lib.hid (HB4.out.trans (hg5.belowNew (by omega) (by omega)))
      have HO5 := Lib.hid (Own.chgW HO4.out hg5 hgB); have HC5 := Lib.hid hc5
      have HL5 : Hid (Own2 w5 wa.heap.size w4.heap.size aF nF cF L) := Lib.hid (HL4.out.chgW hg5 (by omega))
      have hz5 : w4.heap.size ≤ w5.heap.size := hg5.size
      clear hg5 hc5
      cases b5
      · go_wp2_with fail
        refine (l1Big_any g nF w5 HC5.out h0 hnF).mono ?_
        rintro e w6 ⟨v, rfl, ⟨x, hx, rfl⟩, hg6, hc6⟩
        have hx0 : (0 : Int) ≤ x := by omega
        have hxi : (x : Int) < nF := by omega
        have XG6 := Lib.hid (XG5.out.chg hg6 (by omega)); have XR6 := Lib.hid (XR5.out.chg hg6 (by omega))
        have HB6 : Hid (Below w.heap.size w w6) := Lib.hid (HB5.out.trans (hg6.belowNew (by omega) (by omega)))
        have HO6 := Lib.hid (Own.chgW HO5.out hg6 hgB)
        have HL6 : Hid (Own2 w6 wa.heap.size w4.heap.size aF nF cF L) := Lib.hid (HL5.out.chgW hg6 (by omega))
        clear hg6 hc6
        obtain ⟨f, hO2⟩ := HL6.out
        obtain ⟨gF, hgF, hcF⟩ := hO2.cell hx
        have hrow := hO2.own x hx
        obtain ⟨hl2, hm0, hm1⟩ := HLp.out (nthL L x) (by rw [nthL_at (by rw [HnF.out]; exact hx)]; exact List.getElem_mem _)
        obtain ⟨⟨aM, nM, cM⟩, hfe⟩ : ∃ y, y = f x := ⟨_, rfl⟩
        rw [← hfe] at hcF hrow
        simp only [Sl.val] at hcF hrow
        have hnM : nM = 2 := by have := hrow.len; omega
        subst hnM
        subst hgF
        obtain ⟨gM, hgM, _, _, hcM, _⟩ := Row.cells hrow (by omega)
        subst hgM
        have hc0 := hcM 0 (by omega)
        have hc1 := hcM 1 (by omega)
        obtain ⟨u0, hu0⟩ : ∃ u0, u0 = nth (nthL L x) 0 := ⟨_, rfl⟩
        obtain ⟨u1, hu1⟩ : ∃ u1, u1 = nth (nthL L x) 1 := ⟨_, rfl⟩
        have e0 : ((nthL L x).map (Value.int .i64))[0]? = some (.int .i64 u0) := by rw [List.getElem?_map, List.getElem?_eq_getElem (by omega), hu0, nth_eq (by omega)]; rfl
        have e1 : ((nthL L x).map (Value.int .i64))[1]? = some (.int .i64 u1) := by rw [List.getElem?_map, List.getElem?_eq_getElem (by omega), hu1, nth_eq (by omega)]; rfl
        rw [e0] at hc0
        rw [e1] at hc1
        rw [← hu0] at hm0
        rw [← hu1] at hm1
        obtain ⟨q0, q1, _, _, _⟩ := XG6.out
        obtain ⟨r0, r1, rf0, rf1, _⟩ := XR6.out
        clear hO2 hrow hl2 hfe hcM hu0 hu1 e0 e1
        go_wp2_with fail
        go_region
        all_goals (
          go_wp2_with fail
          refine bodyPost_ret (v := .tuple #[.agg #[.int .i64 p, .slice ad k d], .int .i64 u0, .int .i64 u1]) (by simp [results, Try.results102, go_sem, r0, r1]) rfl ⟨p, ad, k, d, xs, u0, u1, rfl, ?_, by omega, by omega, ?_⟩
          · first | exact Row.mono (Row.drew (Row.setBelow (Row.setBelow HO6.out _ (by omega)) _ (by omega))) (by omega) | exact Row.mono (Row.setBelow (Row.setBelow (Row.drew HO6.out) _ (by omega)) _ (by omega)) (by omega)
          · first | exact ((HB6.out.setCell (by simp) _).setCell (by simp) _).drew | exact (HB6.out.drew.setCell (by simp) _).setCell (by simp) _)
      · obtain ⟨q0, q1, _, _, _⟩ := XG5.out
        go_wp2_with fail
        go_region_held3 (fun W => W.cell? ⟨G, 0, none⟩ = some (.int .i64 p) ∧ W.cell? ⟨G, 1, none⟩ = some (.slice ad k d)) (first | exact ⟨q0, q1⟩ | exact ⟨y0, y1⟩ | exact ⟨z0, z1⟩ | (have hh := ((XG7.out.setOther ⟨w.heap.size, 0, none⟩ (.int .i64 p) (by simp only; omega)).setOther ⟨w.heap.size, 1, none⟩ (.slice ad k d) (by simp only; omega)); exact ⟨hh.c0, hh.c1⟩) | go_keep) (first
          | (go_simp; go_at_call 68; (with_reducible refine (l1Below_any g 66 _ HC6.out (by omega)).mono ?_); rintro e w7 ⟨v, rfl, ⟨y, hy, _, rfl⟩, hg7, hc7⟩; have hy66 : y < 66 := (by have := hy (by omega); omega); have HB7 : Hid (Below w.heap.size w w7) := Lib.hid (HB6.out.trans (hg7.belowNew (by omega) HB6.out.size)); have HO7 := Lib.hid (Own.chgW HO6.out hg7 hgB); have XG7 := Lib.hid (XG6.out.chg hg7 (by omega)); have XR7 := Lib.hid (XR6.out.chg hg7 (by omega)); (obtain ⟨z0, z1, _, _, _⟩ := XG7.out); (obtain ⟨r0, r1, rf0, rf1, _⟩ := XR7.out); clear hg7 hc7 hy)
          | (go_simp; go_at_call 68; (with_reducible refine (l1Below_any g 66 _ HC5.out.drew (by omega)).mono ?_); rintro e w6 ⟨v, rfl, ⟨x, hx, _, rfl⟩, hg6, hc6⟩; have hx66 : x < 66 := (by have := hx (by omega); omega); have HB6 : Hid (Below w.heap.size w w6) := Lib.hid (HB5.out.drew.trans (hg6.belowNew (by omega) HB5.out.size)); have HO6 := Lib.hid (Own.chgW (Own.drew HO5.out) hg6 hgB); have HC6 := Lib.hid hc6; have XG6 := Lib.hid (XG5.out.drew.chg hg6 (by omega)); have XR6 := Lib.hid (XR5.out.drew.chg hg6 (by omega)); (obtain ⟨y0, y1, _, _, _⟩ := XG6.out); clear hg6 hc6 hx))
        all_goals (
          go_wp2_with fail
          have e1 : IntKind.i64.wrap ((x : Int) - 1) = (x : Int) - 1 := IntWalk.i64_in _ (by omega)
          have e2 : IntKind.i64.wrap ((y : Int) - 1) = (y : Int) - 1 := IntWalk.i64_in _ (by omega)
          refine bodyPost_ret (v := .tuple #[.agg #[.int .i64 p, .slice ad k d], .int .i64 (IntKind.i64.wrap ((x : Int) - 1)), .int .i64 (IntKind.i64.wrap ((y : Int) - 1))]) (by simp [results, Try.results102, go_sem, r0, r1]) rfl ⟨p, ad, k, d, xs, _, _, rfl, Row.mono (Row.setBelow (Row.setBelow HO7.out _ (by omega)) _ (by omega)) (by omega), by omega, by rw [e1, e2]; omega, (HB7.out.setCell (by simp) _).setCell (by simp) _⟩)
    · obtain rfl : nF = 0 := by omega
      have h00 : ¬ ((0 : Int) > 0) := by omega
      obtain ⟨q0, q1, _, _, _⟩ := XG4.out
      go_wp2_with fail
      go_region_held3 (fun W => W.cell? ⟨G, 0, none⟩ = some (.int .i64 p) ∧ W.cell? ⟨G, 1, none⟩ = some (.slice ad k d)) (first | exact ⟨q0, q1⟩ | exact ⟨y0, y1⟩ | exact ⟨z0, z1⟩ | (have hh := ((XG7.out.setOther ⟨w.heap.size, 0, none⟩ (.int .i64 p) (by simp only; omega)).setOther ⟨w.heap.size, 1, none⟩ (.slice ad k d) (by simp only; omega)); exact ⟨hh.c0, hh.c1⟩) | go_keep) (first
        | (go_simp; go_at_call 68; (with_reducible refine (l1Below_any g 66 _ HC6.out (by omega)).mono ?_); rintro e w7 ⟨v, rfl, ⟨y, hy, _, rfl⟩, hg7, hc7⟩; have hy66 : y < 66 := (by have := hy (by omega); omega); have HB7 : Hid (Below w.heap.size w w7) := Lib.hid (HB6.out.trans (hg7.belowNew (by omega) HB6.out.size)); have HO7 := Lib.hid (Own.chgW HO6.out hg7 hgB); have XG7 := Lib.hid (XG6.out.chg hg7 (by omega)); have XR7 := Lib.hid (XR6.out.chg hg7 (by omega)); (obtain ⟨z0, z1, _, _, _⟩ := XG7.out); (obtain ⟨r0, r1, rf0, rf1, _⟩ := XR7.out); clear hg7 hc7 hy)
        | (go_simp; go_at_call 68; (with_reducible refine (l1Below_any g 66 _ HC4.out.drew (by omega)).mono ?_); rintro e w6 ⟨v, rfl, ⟨x, hx, _, rfl⟩, hg6, hc6⟩; have hx66 : x < 66 := (by have := hx (by omega); omega); have HB6 : Hid (Below w.heap.size w w6) := Lib.hid (HB4.out.drew.trans (hg6.belowNew (by omega) HB4.out.size)); have HO6 := Lib.hid (Own.chgW (Own.drew HO4.out) hg6 hgB); have HC6 := Lib.hid hc6; have XG6 := Lib.hid (XG4.out.drew.chg hg6 (by omega)); have XR6 := Lib.hid (XR4.out.drew.chg hg6 (by omega)); (obtain ⟨y0, y1, _, _, _⟩ := XG6.out); clear hg6 hc6 hx))
      all_goals (
        go_wp2_with fail
        have e1 : IntKind.i64.wrap ((x : Int) - 1) = (x : Int) - 1 := IntWalk.i64_in _ (by omega)
        have e2 : IntKind.i64.wrap ((y : Int) - 1) = (y : Int) - 1 := IntWalk.i64_in _ (by omega)
        refine bodyPost_ret (v := .tuple #[.agg #[.int .i64 p, .slice ad k d], .int .i64 (IntKind.i64.wrap ((x : Int) - 1)), .int .i64 (IntKind.i64.wrap ((y : Int) - 1))]) (by simp [results, Try.results102, go_sem, r0, r1]) rfl ⟨p, ad, k, d, xs, _, _, rfl, Row.mono (Row.setBelow (Row.setBelow HO7.out _ (by omega)) _ (by omega)) (by omega), by omega, by rw [e1, e2]; omega, (HB7.out.setCell (by simp) _).setCell (by simp) _⟩)
  · have HS := Lib.hid (Row.litStr4 wa wa.heap.size (Nat.le_refl _))
    go_wp2_with fail
    refine (l1Pick_any g wa.heap.size _ 4 4 _ _ (HCa.out.alloc _) (HS.out _ _ _ _) (by omega) (by omega) (by omega)).mono ?_
    rintro e wb ⟨v, rfl, ⟨t, ht, rfl⟩, hgb, hcb⟩
    have hts : t.size ≤ 1000 := by
      simp only [List.mem_cons, List.not_mem_nil, or_false] at ht
      rcases ht with rfl | rfl | rfl | rfl <;> decide
    have HBb : Hid (Below w.heap.size w wb) := Lib.hid ((HBa.out.alloc HBa.out.size _).trans (hgb.belowNew (by omega) (by have := HBa.out.size; simp; omega)))
    have HCb := Lib.hid hcb
    have XGb := Lib.hid ((XGa.out.alloc _).chg hgb (by omega)); have XRb := Lib.hid ((XRa.out.alloc _).chg hgb (by omega))
    have hzb : G + 1 ≤ wb.heap.size := Nat.le_trans hza (Nat.le_trans (by simp) hgb.size)
    clear hgb hcb ht HS
    go_wp2_with fail
    refine (pc_any t wb hts).mono ?_
    rintro e wd ⟨p, ad, k, d, xs, b, rfl, hown, ⟨hxl, hp0, hp7⟩, hbd⟩
    have HBd := Lib.hid (HBb.out.trans (hbd.mono HBb.out.size)); have HCd := Lib.hid (HCb.out.keep (hbd.mono (by have := HCb.out.lt; omega)))
    have XGd := Lib.hid (XGb.out.keep hbd (by omega)); have XRd := Lib.hid (XRb.out.keep hbd (by omega)); have HOd := Lib.hid hown
    have hzd : G + 1 ≤ wd.heap.size := Nat.le_trans hzb hbd.size
    have hgd : g < wb.heap.size := HCb.out.lt
    clear hbd hown
    obtain ⟨q0, q1, qf0, qf1, _⟩ := XGd.out
    have hw1b : w1.heap.size ≤ wb.heap.size := by omega
    obtain ⟨We, hWe⟩ : ∃ We, We = (wd.setCell ⟨G, 0, none⟩ (.int .i64 p)).setCell ⟨G, 1, none⟩ (.slice ad k d) := ⟨_, rfl⟩
    have XGe : Hid (BoxF We G (.int .i64 p) (.slice ad k d)) := Lib.hid (by rw [hWe]; exact (XGd.out.set0 _).set1 _)
    have XRe : Hid (BoxF We w.heap.size (.int .i64 0) (.slice none 0 0)) := Lib.hid (by rw [hWe]; exact (XRd.out.setOther _ _ (by simp only; omega)).setOther _ _ (by simp only; omega))
    have HOe : Hid (Own 3 We w1.heap.size ad k d xs) := Lib.hid (by rw [hWe]; exact Row.mono (Row.setBelow (Row.setBelow HOd.out _ (by omega)) _ (by omega)) hw1b)
    have HCe : Hid (Cur We g) := Lib.hid (by rw [hWe]; exact (HCd.out.setNew _ _ (by simp only; omega)).setNew _ _ (by simp only; omega))
    have HBe : Hid (Below w.heap.size w We) := Lib.hid (by rw [hWe]; exact (HBd.out.setCell (by simp only; omega) _).setCell (by simp only; omega) _)
    have hze : G + 1 ≤ We.heap.size := by rw [hWe]; simpa using hzd
    have HWe := Lib.hid hWe
    clear hWe
    go_upto_region 5 with fail
    rw [← HWe.out]
    clear q0 q1 qf0 qf1
    obtain ⟨L, hL4, hLp, hF⟩ := flipsOf_all p xs
    have HF := Lib.hid hF; have HLp := Lib.hid hLp
    clear hF hLp
    obtain ⟨q0, q1, _, _, _⟩ := XGe.out
    go_wp2_with fail
    refine (HF.out We ad k d HOe.out.reads).mono ?_
    rintro e w4 ⟨aF, nF, cF, rfl, ownF, hb4⟩
    have HO4 := Lib.hid (HOe.out.keep hb4); have HC4 := Lib.hid (HCe.out.keep (hb4.mono (by omega))); have HB4 := Lib.hid (HBe.out.trans (hb4.mono (by omega)))
    have XG4 := Lib.hid (XGe.out.keep hb4 (by omega)); have XR4 := Lib.hid (XRe.out.keep hb4 (by omega))
    have hz4 : We.heap.size ≤ w4.heap.size := hb4.size
    have HL4 := Lib.hid ownF
    have HnF : Hid (L.length = nF) := Lib.hid ownF.len
    have hnF : nF ≤ 4096 := by have := HnF.out; omega
    clear hb4 ownF q0 q1
    by_cases h0 : 0 < nF
    · have h0i : (nF : Int) > 0 := by omega
      have h0j : (0 : Int) < nF := by omega
      go_wp2_with fail
      refine (l1Once_any g 5 w4 HC4.out (by omega)).mono ?_
      rintro e w5 ⟨v, rfl, ⟨b5, rfl⟩, hg5, hc5⟩
      have XG5 := Lib.hid (XG4.out.chg hg5 (by omega)); have XR5 := Lib.hid (XR4.out.chg hg5 (by omega))
      have HB5 : Hid (Below w.heap.size w w5) := Lib.hid (HB4.out.trans (hg5.belowNew (by omega) (by omega)))
      have HO5 := Lib.hid (Own.chgW HO4.out hg5 hgB); have HC5 := Lib.hid hc5
      have HL5 : Hid (Own2 w5 We.heap.size w4.heap.size aF nF cF L) := Lib.hid (HL4.out.chgW hg5 (by omega))
      have hz5 : w4.heap.size ≤ w5.heap.size := hg5.size
      clear hg5 hc5
      cases b5
      · go_wp2_with fail
        refine (l1Big_any g nF w5 HC5.out h0 hnF).mono ?_
        rintro e w6 ⟨v, rfl, ⟨x, hx, rfl⟩, hg6, hc6⟩
        have hx0 : (0 : Int) ≤ x := by omega
        have hxi : (x : Int) < nF := by omega
        have XG6 := Lib.hid (XG5.out.chg hg6 (by omega)); have XR6 := Lib.hid (XR5.out.chg hg6 (by omega))
        have HB6 : Hid (Below w.heap.size w w6) := Lib.hid (HB5.out.trans (hg6.belowNew (by omega) (by omega)))
        have HO6 := Lib.hid (Own.chgW HO5.out hg6 hgB)
        have HL6 : Hid (Own2 w6 We.heap.size w4.heap.size aF nF cF L) := Lib.hid (HL5.out.chgW hg6 (by omega))
        clear hg6 hc6
        obtain ⟨f, hO2⟩ := HL6.out
        obtain ⟨gF, hgF, hcF⟩ := hO2.cell hx
        have hrow := hO2.own x hx
        obtain ⟨hl2, hm0, hm1⟩ := HLp.out (nthL L x) (by rw [nthL_at (by rw [HnF.out]; exact hx)]; exact List.getElem_mem _)
        obtain ⟨⟨aM, nM, cM⟩, hfe⟩ : ∃ y, y = f x := ⟨_, rfl⟩
        rw [← hfe] at hcF hrow
        simp only [Sl.val] at hcF hrow
        have hnM : nM = 2 := by have := hrow.len; omega
        subst hnM
        subst hgF
        obtain ⟨gM, hgM, _, _, hcM, _⟩ := Row.cells hrow (by omega)
        subst hgM
        have hc0 := hcM 0 (by omega)
        have hc1 := hcM 1 (by omega)
        obtain ⟨u0, hu0⟩ : ∃ u0, u0 = nth (nthL L x) 0 := ⟨_, rfl⟩
        obtain ⟨u1, hu1⟩ : ∃ u1, u1 = nth (nthL L x) 1 := ⟨_, rfl⟩
        have e0 : ((nthL L x).map (Value.int .i64))[0]? = some (.int .i64 u0) := by rw [List.getElem?_map, List.getElem?_eq_getElem (by omega), hu0, nth_eq (by omega)]; rfl
        have e1 : ((nthL L x).map (Value.int .i64))[1]? = some (.int .i64 u1) := by rw [List.getElem?_map, List.getElem?_eq_getElem (by omega), hu1, nth_eq (by omega)]; rfl
        rw [e0] at hc0
        rw [e1] at hc1
        rw [← hu0] at hm0
        rw [← hu1] at hm1
        obtain ⟨q0, q1, _, _, _⟩ := XG6.out
        obtain ⟨r0, r1, rf0, rf1, _⟩ := XR6.out
        clear hO2 hrow hl2 hfe hcM hu0 hu1 e0 e1
        go_wp2_with fail
        go_region
        all_goals (
          go_wp2_with fail
          refine bodyPost_ret (v := .tuple #[.agg #[.int .i64 p, .slice ad k d], .int .i64 u0, .int .i64 u1]) (by simp [results, Try.results102, go_sem, r0, r1]) rfl ⟨p, ad, k, d, xs, u0, u1, rfl, ?_, by omega, by omega, ?_⟩
          · first | exact Row.mono (Row.drew (Row.setBelow (Row.setBelow HO6.out _ (by omega)) _ (by omega))) (by omega) | exact Row.mono (Row.setBelow (Row.setBelow (Row.drew HO6.out) _ (by omega)) _ (by omega)) (by omega)
          · first | exact ((HB6.out.setCell (by simp) _).setCell (by simp) _).drew | exact (HB6.out.drew.setCell (by simp) _).setCell (by simp) _)
      · obtain ⟨q0, q1, _, _, _⟩ := XG5.out
        go_wp2_with fail
        go_region_held3 (fun W => W.cell? ⟨G, 0, none⟩ = some (.int .i64 p) ∧ W.cell? ⟨G, 1, none⟩ = some (.slice ad k d)) (first | exact ⟨q0, q1⟩ | exact ⟨y0, y1⟩ | exact ⟨z0, z1⟩ | (have hh := ((XG7.out.setOther ⟨w.heap.size, 0, none⟩ (.int .i64 p) (by simp only; omega)).setOther ⟨w.heap.size, 1, none⟩ (.slice ad k d) (by simp only; omega)); exact ⟨hh.c0, hh.c1⟩) | go_keep) (first
          | (go_simp; go_at_call 68; (with_reducible refine (l1Below_any g 66 _ HC6.out (by omega)).mono ?_); rintro e w7 ⟨v, rfl, ⟨y, hy, _, rfl⟩, hg7, hc7⟩; have hy66 : y < 66 := (by have := hy (by omega); omega); have HB7 : Hid (Below w.heap.size w w7) := Lib.hid (HB6.out.trans (hg7.belowNew (by omega) HB6.out.size)); have HO7 := Lib.hid (Own.chgW HO6.out hg7 hgB); have XG7 := Lib.hid (XG6.out.chg hg7 (by omega)); have XR7 := Lib.hid (XR6.out.chg hg7 (by omega)); (obtain ⟨z0, z1, _, _, _⟩ := XG7.out); (obtain ⟨r0, r1, rf0, rf1, _⟩ := XR7.out); clear hg7 hc7 hy)
          | (go_simp; go_at_call 68; (with_reducible refine (l1Below_any g 66 _ HC5.out.drew (by omega)).mono ?_); rintro e w6 ⟨v, rfl, ⟨x, hx, _, rfl⟩, hg6, hc6⟩; have hx66 : x < 66 := (by have := hx (by omega); omega); have HB6 : Hid (Below w.heap.size w w6) := Lib.hid (HB5.out.drew.trans (hg6.belowNew (by omega) HB5.out.size)); have HO6 := Lib.hid (Own.chgW (Own.drew HO5.out) hg6 hgB); have HC6 := Lib.hid hc6; have XG6 := Lib.hid (XG5.out.drew.chg hg6 (by omega)); have XR6 := Lib.hid (XR5.out.drew.chg hg6 (by omega)); (obtain ⟨y0, y1, _, _, _⟩ := XG6.out); clear hg6 hc6 hx))
        all_goals (
          go_wp2_with fail
          have e1 : IntKind.i64.wrap ((x : Int) - 1) = (x : Int) - 1 := IntWalk.i64_in _ (by omega)
          have e2 : IntKind.i64.wrap ((y : Int) - 1) = (y : Int) - 1 := IntWalk.i64_in _ (by omega)
          refine bodyPost_ret (v := .tuple #[.agg #[.int .i64 p, .slice ad k d], .int .i64 (IntKind.i64.wrap ((x : Int) - 1)), .int .i64 (IntKind.i64.wrap ((y : Int) - 1))]) (by simp [results, Try.results102, go_sem, r0, r1]) rfl ⟨p, ad, k, d, xs, _, _, rfl, Row.mono (Row.setBelow (Row.setBelow HO7.out _ (by omega)) _ (by omega)) (by omega), by omega, by rw [e1, e2]; omega, (HB7.out.setCell (by simp) _).setCell (by simp) _⟩)
    · obtain rfl : nF = 0 := by omega
      have h00 : ¬ ((0 : Int) > 0) := by omega
      obtain ⟨q0, q1, _, _, _⟩ := XG4.out
      go_wp2_with fail
      go_region_held3 (fun W => W.cell? ⟨G, 0, none⟩ = some (.int .i64 p) ∧ W.cell? ⟨G, 1, none⟩ = some (.slice ad k d)) (first | exact ⟨q0, q1⟩ | exact ⟨y0, y1⟩ | exact ⟨z0, z1⟩ | (have hh := ((XG7.out.setOther ⟨w.heap.size, 0, none⟩ (.int .i64 p) (by simp only; omega)).setOther ⟨w.heap.size, 1, none⟩ (.slice ad k d) (by simp only; omega)); exact ⟨hh.c0, hh.c1⟩) | go_keep) (first
        | (go_simp; go_at_call 68; (with_reducible refine (l1Below_any g 66 _ HC6.out (by omega)).mono ?_); rintro e w7 ⟨v, rfl, ⟨y, hy, _, rfl⟩, hg7, hc7⟩; have hy66 : y < 66 := (by have := hy (by omega); omega); have HB7 : Hid (Below w.heap.size w w7) := Lib.hid (HB6.out.trans (hg7.belowNew (by omega) HB6.out.size)); have HO7 := Lib.hid (Own.chgW HO6.out hg7 hgB); have XG7 := Lib.hid (XG6.out.chg hg7 (by omega)); have XR7 := Lib.hid (XR6.out.chg hg7 (by omega)); (obtain ⟨z0, z1, _, _, _⟩ := XG7.out); (obtain ⟨r0, r1, rf0, rf1, _⟩ := XR7.out); clear hg7 hc7 hy)
        | (go_simp; go_at_call 68; (with_reducible refine (l1Below_any g 66 _ HC4.out.drew (by omega)).mono ?_); rintro e w6 ⟨v, rfl, ⟨x, hx, _, rfl⟩, hg6, hc6⟩; have hx66 : x < 66 := (by have := hx (by omega); omega); have HB6 : Hid (Below w.heap.size w w6) := Lib.hid (HB4.out.drew.trans (hg6.belowNew (by omega) HB4.out.size)); have HO6 := Lib.hid (Own.chgW (Own.drew HO4.out) hg6 hgB); have HC6 := Lib.hid hc6; have XG6 := Lib.hid (XG4.out.drew.chg hg6 (by omega)); have XR6 := Lib.hid (XR4.out.drew.chg hg6 (by omega)); (obtain ⟨y0, y1, _, _, _⟩ := XG6.out); clear hg6 hc6 hx))
      all_goals (
        go_wp2_with fail
        have e1 : IntKind.i64.wrap ((x : Int) - 1) = (x : Int) - 1 := IntWalk.i64_in _ (by omega)
        have e2 : IntKind.i64.wrap ((y : Int) - 1) = (y : Int) - 1 := IntWalk.i64_in _ (by omega)
        refine bodyPost_ret (v := .tuple #[.agg #[.int .i64 p, .slice ad k d], .int .i64 (IntKind.i64.wrap ((x : Int) - 1)), .int .i64 (IntKind.i64.wrap ((y : Int) - 1))]) (by simp [results, Try.results102, go_sem, r0, r1]) rfl ⟨p, ad, k, d, xs, _, _, rfl, Row.mono (Row.setBelow (Row.setBelow HO7.out _ (by omega)) _ (by omega)) (by omega), by omega, by rw [e1, e2]; omega, (HB7.out.setCell (by simp) _).setCell (by simp) _⟩)
theorem drawFlipAt_any (a : Option Addr) (n c : Nat) (w : World) (hy : CodeAt w a n) (hn : n ≤ 1048576) :
    Calls Try.prog 47 #[.slice a n c] w (RetCxII w) := by
  have XR0 := Lib.hid (BoxF.new w (.int .i64 0) (.slice none 0 0) 26)
  obtain ⟨W0, hW0⟩ : ∃ W0, W0 = w.alloc (.cells #[.int .i64 0, .slice none 0 0] 26) := ⟨_, rfl⟩
  rw [← hW0] at XR0
  have hz0 : W0.heap.size = w.heap.size + 1 := by rw [hW0]; simp
  have HB0 : Hid (Below w.heap.size w W0) := Lib.hid (by rw [hW0]; exact (by repeat (first | exact Below.refl _ _ | assumption | refine Below.setCell ?_ (by first | omega | (simp; done) | (simp; omega)) _ | refine Below.alloc ?_ (by first | omega | (simp; done) | (simp; omega)) _ | apply Below.drew)))
  have HY0 : Hid (CodeAt W0 a n) := Lib.hid (hy.keep HB0.out)
  have HW0 := Lib.hid hW0
  clear hy hW0
  go_enter Try.func47, Try.ntmps47
  go_wp2_with fail
  rw [← HW0.out]
  refine (l24Case_any a n c W0 HY0.out hn).mono ?_
  rintro e w1 ⟨p, ad, k, d, xs, s, t, rfl, hown, hxl, hst, hb1⟩
  obtain ⟨W1, hW1⟩ : ∃ W1, W1 = w1.alloc (.cells #[.int .i64 p, .slice ad k d] 26) := ⟨_, rfl⟩
  obtain ⟨G, hG⟩ : ∃ G, G = w1.heap.size := ⟨_, rfl⟩
  have hz1 : w.heap.size + 1 ≤ G := by rw [hG, ← hz0]; exact hb1.size
  have XG : Hid (BoxF W1 G (.int .i64 p) (.slice ad k d)) := Lib.hid (by rw [hW1, hG]; exact BoxF.new _ _ _ _)
  have XR : Hid (BoxF W1 w.heap.size (.int .i64 0) (.slice none 0 0)) := Lib.hid (by rw [hW1]; exact (XR0.out.keep hb1 (by omega)).alloc _)
  have HO : Hid (Own 3 W1 W0.heap.size ad k d xs) := Lib.hid (by rw [hW1]; exact Own.alloc hown _)
  have HB : Hid (Below w.heap.size w W1) := Lib.hid (by rw [hW1]; exact (HB0.out.trans (hb1.mono HB0.out.size)).alloc (by have := hb1.size; omega) _)
  have HW1 := Lib.hid hW1; have HG := Lib.hid hG
  clear hb1 hown hW1 hG
  obtain ⟨q0, q1, _, _, _⟩ := XG.out
  obtain ⟨r0, r1, rf0, rf1, _⟩ := XR.out
  have hne : ¬ G = w.heap.size := by omega
  rw [HW1.out] at q0 q1 r0 r1 rf0 rf1
  go_wp2_with fail
  rw [← HG.out, ← HW1.out]
  refine bodyPost_ret (v := .tuple #[.agg #[.int .i64 p, .slice ad k d], .int .i64 s, .int .i64 t]) (by rw [← HW1.out] at r0 r1; simp [results, Try.results47, go_sem, r0, r1]) rfl ⟨p, ad, k, d, xs, s, t, rfl, ?_, hxl, hst, ?_⟩
  · exact Row.mono (Row.setBelow (Row.setBelow HO.out _ (by omega)) _ (by omega)) (by omega)
  · exact (HB.out.setCell (by simp) _).setCell (by simp) _
theorem drawFlipsOf_any (a : Option Addr) (n c : Nat) (w : World) (hy : CodeAt w a n) (hn : n ≤ 1048576) :
    Calls Try.prog 50 #[.slice a n c] w (RetCx w) := by
  have XR0 := Lib.hid (BoxF.new w (.int .i64 0) (.slice none 0 0) 26)
  obtain ⟨W0, hW0⟩ : ∃ W0, W0 = w.alloc (.cells #[.int .i64 0, .slice none 0 0] 26) := ⟨_, rfl⟩
  rw [← hW0] at XR0
  have hz0 : W0.heap.size = w.heap.size + 1 := by rw [hW0]; simp
  have HB0 : Hid (Below w.heap.size w W0) := Lib.hid (by rw [hW0]; exact (by repeat (first | exact Below.refl _ _ | assumption | refine Below.setCell ?_ (by first | omega | (simp; done) | (simp; omega)) _ | refine Below.alloc ?_ (by first | omega | (simp; done) | (simp; omega)) _ | apply Below.drew)))
  have HY0 : Hid (CodeAt W0 a n) := Lib.hid (hy.keep HB0.out)
  have HW0 := Lib.hid hW0
  clear hy hW0
  go_enter Try.func50, Try.ntmps50
  go_wp2_with fail
  rw [← HW0.out]
  refine (l24Case_any a n c W0 HY0.out hn).mono ?_
  rintro e w1 ⟨p, ad, k, d, xs, s, t, rfl, hown, hxl, hst, hb1⟩
  obtain ⟨W1, hW1⟩ : ∃ W1, W1 = w1.alloc (.cells #[.int .i64 p, .slice ad k d] 26) := ⟨_, rfl⟩
  obtain ⟨G, hG⟩ : ∃ G, G = w1.heap.size := ⟨_, rfl⟩
  have hz1 : w.heap.size + 1 ≤ G := by rw [hG, ← hz0]; exact hb1.size
  have XG : Hid (BoxF W1 G (.int .i64 p) (.slice ad k d)) := Lib.hid (by rw [hW1, hG]; exact BoxF.new _ _ _ _)
  have XR : Hid (BoxF W1 w.heap.size (.int .i64 0) (.slice none 0 0)) := Lib.hid (by rw [hW1]; exact (XR0.out.keep hb1 (by omega)).alloc _)
  have HO : Hid (Own 3 W1 W0.heap.size ad k d xs) := Lib.hid (by rw [hW1]; exact Own.alloc hown _)
  have HB : Hid (Below w.heap.size w W1) := Lib.hid (by rw [hW1]; exact (HB0.out.trans (hb1.mono HB0.out.size)).alloc (by have := hb1.size; omega) _)
  have HW1 := Lib.hid hW1; have HG := Lib.hid hG
  clear hb1 hown hW1 hG
  obtain ⟨q0, q1, _, _, _⟩ := XG.out
  obtain ⟨r0, r1, rf0, rf1, _⟩ := XR.out
  have hne : ¬ G = w.heap.size := by omega
  rw [HW1.out] at q0 q1 r0 r1 rf0 rf1
  go_wp2_with fail
  rw [← HG.out, ← HW1.out]
  refine bodyPost_ret (v := .agg #[.int .i64 p, .slice ad k d]) (by rw [← HW1.out] at r0 r1; simp [results, Try.results50, go_sem, r0, r1]) rfl ⟨p, ad, k, d, xs, rfl, ?_, hxl, ?_⟩
  · exact Row.mono (Row.setBelow (Row.setBelow HO.out _ (by omega)) _ (by omega)) (by omega)
  · exact (HB.out.setCell (by simp) _).setCell (by simp) _
theorem drawFlipText_any (a : Option Addr) (n c : Nat) (w : World) (hy : CodeAt w a n) (hn : n ≤ 1048576) :
    Calls Try.prog 55 #[.slice a n c] w (RetII w) := by
  have HY := Lib.hid hy
  clear hy
  go_enter Try.func55, Try.ntmps55
  go_wp2_with fail
  refine (l1New_any a n c w HY.out hn).mono ?_
  rintro e w1 ⟨rfl, hb1, hc1⟩
  have HB1 := Lib.hid hb1; have HC1 := Lib.hid hc1
  have hz1 : w.heap.size ≤ w1.heap.size := hb1.size
  clear hb1 hc1
  go_wp2_with fail
  refine (l1Below_any w.heap.size 66 w1 HC1.out (by omega)).mono ?_
  rintro e w2 ⟨v, rfl, ⟨y, hy, _, rfl⟩, hg2, hc2⟩
  have hy10 : y < 66 := by have := hy (by omega); omega
  have HB2 : Hid (Below w.heap.size w w2) := Lib.hid (HB1.out.trans (hg2.belowNew (Nat.le_refl _) hz1))
  have HC2 := Lib.hid hc2
  have hz2 : w.heap.size ≤ w2.heap.size := Nat.le_trans hz1 hg2.size
  clear hg2 hc2 hy
  go_wp2_with fail
  refine (l1Below_any w.heap.size 66 w2 HC2.out (by omega)).mono ?_
  rintro e w3 ⟨v, rfl, ⟨z, hz, _, rfl⟩, hg3, hc3⟩
  have hz10 : z < 66 := by have := hz (by omega); omega
  have HB3 : Hid (Below w.heap.size w w3) := Lib.hid (HB2.out.trans (hg3.belowNew (Nat.le_refl _) hz2))
  clear hg3 hc3 hz
  go_wp2_with fail
  refine bodyPost_ret (v := .tuple #[.int .i64 ((y : Int) - 1), .int .i64 ((z : Int) - 1)]) (by simp [results, Try.results55, go_sem]) rfl ?_
  exact ⟨_, _, rfl, by omega, HB3.out⟩
end Go.Proofs.Ytbdnlncpamandaa

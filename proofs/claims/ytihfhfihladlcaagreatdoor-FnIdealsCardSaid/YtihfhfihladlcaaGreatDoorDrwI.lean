/- The reference's drawings of sets for MakeIdeal: l2Sets, DrawFromMissing, DrawMakeIdeal; DrawIdealOf. -/
import Derived.Test.YtihfhfihladlcaaGreatDoorDrw13
import Derived.Test.YtihfhfihladlcaaGreatDoorDrw3
import Derived.Test.YtihfhfihladlcaaGreatDoorDrw7
namespace Go.Proofs.YtihfhfihladlcaaGreatDoor
set_option maxRecDepth 20000
open Go.RowKit
set_option linter.unusedSimpArgs false
set_option linter.unusedVariables false

/-- a new row of numbers -/
def IsRow (N B : Nat) (v : Value) (w' : World) : Prop := ∃ ad n c xs, v = .slice ad n c ∧ Own 3 w' B ad n c xs ∧ xs.length ≤ N
theorem IntsAt.lit10 (w : World) (x0 x1 x2 x3 x4 x5 x6 x7 x8 x9 : Int) : IntsAt (w.alloc (.cells #[.int .i64 x0, .int .i64 x1, .int .i64 x2, .int .i64 x3, .int .i64 x4, .int .i64 x5, .int .i64 x6, .int .i64 x7, .int .i64 x8, .int .i64 x9] 3)) (some ⟨w.heap.size, 0, none⟩) 10 [x0, x1, x2, x3, x4, x5, x6, x7, x8, x9] := by
  refine ⟨rfl, by omega, fun _ => ⟨_, _, rfl, fun i hi => ?_⟩⟩
  match i, hi with
  | 0, _ | 1, _ | 2, _ | 3, _ | 4, _ | 5, _ | 6, _ | 7, _ | 8, _ | 9, _ => simp [nth]
set_option maxHeartbeats 1000000 in
theorem l2Sets_any (g : Nat) (w : World) (hc : Cur w g) :
    Calls Tryz.prog 171 #[.pointer (some ⟨g, 0, none⟩)] w (RetD g w (IsRow 7 w.heap.size)) := by
  have hgl := hc.lt
  obtain ⟨W1, hW1⟩ : ∃ W1, W1 = w.alloc (.cells #[] 3) := ⟨_, rfl⟩
  have HC1 : Hid (Cur W1 g) := Lib.hid (by rw [hW1]; exact hc.alloc _)
  have HG1 : Hid (Chg w W1 g none) := Lib.hid (by rw [hW1]; exact (Chg.refl _ _ _).alloc _)
  have HE1 : Hid (Own 3 W1 w.heap.size (some ⟨w.heap.size, 0, none⟩) 0 0 []) := Lib.hid (by rw [hW1]; exact Own.empty 3 w w.heap.size (Nat.le_refl _))
  have hz1 : w.heap.size ≤ W1.heap.size := by rw [hW1]; simp
  have HW1 := Lib.hid hW1
  clear hc hW1
  go_enter Tryz.func171, Tryz.ntmps171
  go_wp2_with fail
  rw [← HW1.out]
  refine (l1Below_any g 7 W1 HC1.out (by omega)).mono ?_
  rintro e w3 ⟨v, rfl, ⟨K, hK, _, rfl⟩, hg3, hc3⟩
  have hK7 : K < 7 := by have := hK (by omega); omega
  have HG3 := Lib.hid (HG1.out.trans hg3); have HC3 := Lib.hid hc3
  have HE3 := Lib.hid (HE1.out.chgW hg3 (by omega))
  have hz3 : w.heap.size ≤ w3.heap.size := by have := hg3.size; omega
  clear hg3 hc3 hK
  go_wp2_with fail
  go_loopw [3, 5] (fun o i wr => ∃ (k : Nat) (l : List Int) (ad : Option Addr) (c : Nat), k ≤ K ∧ i = .int .i64 k ∧ o = .slice ad k c ∧ Chg w wr g none ∧ Cur wr g ∧ Own 3 wr w.heap.size ad k c l ∧ w.heap.size ≤ wr.heap.size) (fun _ i _ => K - (intOf i).toNat)
  case atStart => exact ⟨0, [], _, 0, Nat.zero_le _, rfl, rfl, HG3.out, HC3.out, HE3.out, hz3⟩
  case round =>
    obtain ⟨k, l, ad, c, hk, rfl, rfl, hgr, hcr, hown, hzr⟩ := hrel
    have HGr := Lib.hid hgr; have HCr := Lib.hid hcr; have HOr := Lib.hid hown
    clear hgr hcr hown
    by_cases hlt : k < K
    · have hli : (k : Int) < K := by omega
      go_wp2_with fail
      refine (l1Below_any g 64 wr HCr.out (by omega)).mono ?_
      rintro e w5 ⟨v, rfl, ⟨s, hs, _, rfl⟩, hg4, hc4⟩
      have HG5 := Lib.hid (HGr.out.trans hg4); have HC5 := Lib.hid hc4
      have HO5 := Lib.hid (HOr.out.chgW hg4 (by omega))
      have hzr5 : w.heap.size ≤ w5.heap.size := Nat.le_trans hzr hg4.size
      clear hg4 hc4 hs
      go_wp2_with (at_builtin; refine ap rfl _ _ rfl w.heap.size _ _ _ _ _ rfl HO5.out rfl (by omega) (by omega) ?_; intro ad6 d6 w6 hown6 hb6; have HO6 := Lib.hid hown6; have HB6 := Lib.hid hb6; clear hown6 hb6)
      have hz6 : w.heap.size ≤ w6.heap.size := Nat.le_trans hzr5 HB6.out.size
      go_roundw
      case rel => exact ⟨k + 1, l ++ [(s : Int)], ad6, d6, by omega, by go_num, rfl, (HG5.out.upto (HB6.out.mono (by omega))), HC5.out.keep (HB6.out.mono (by omega)), HO6.out, hz6⟩
      case measure => simp [intOf]; omega
    · obtain rfl : k = K := by omega
      have hli : ¬ ((k : Int) < k) := by omega
      have Hll : Hid (l.length ≤ 7) := Lib.hid (by have := HOr.out.len; omega)
      by_cases h0 : k = 0
      · subst h0
        go_wp2_with fail
        go_ret
        exact ⟨_, rfl, ⟨ad, 0, c, l, rfl, HOr.out, Hll.out⟩, HGr.out, HCr.out⟩
      · have hk0 : (0 : Int) < k := by omega
        go_wp2_with fail
        refine (l1Once_any g 12 wr HCr.out (by omega)).mono ?_
        rintro e w5 ⟨v, rfl, ⟨b, rfl⟩, hg5, hc5⟩
        have HG5 := Lib.hid (HGr.out.trans hg5); have HC5 := Lib.hid hc5
        have HO5 := Lib.hid (HOr.out.chgW hg5 (by omega))
        have hzr5 : w.heap.size ≤ w5.heap.size := Nat.le_trans hzr hg5.size
        clear hg5 hc5 HGr HCr HOr
        cases b
        · go_wp2_with fail
          go_ret
          exact ⟨_, rfl, ⟨ad, k, c, l, rfl, HO5.out, Hll.out⟩, HG5.out, HC5.out⟩
        · obtain ⟨W6, hW6⟩ : ∃ W6, W6 = w5.alloc (.cells #[.int .i64 (-1), .int .i64 64, .int .i64 63] 3) := ⟨_, rfl⟩
          have HL6 : Hid (IntsAt W6 (some ⟨w5.heap.size, 0, none⟩) 3 [-1, 64, 63]) := Lib.hid (by rw [hW6]; exact IntsAt.lit3 w5 (-1) 64 63)
          have HC6 : Hid (Cur W6 g) := Lib.hid (by rw [hW6]; exact HC5.out.alloc _)
          have HG6 : Hid (Chg w W6 g none) := Lib.hid (by rw [hW6]; exact HG5.out.alloc _)
          have HO6 : Hid (Own 3 W6 w.heap.size ad k c l) := Lib.hid (by rw [hW6]; exact HO5.out.alloc _)
          have hg5l : g < w5.heap.size := HC5.out.lt
          have HW6 := Lib.hid hW6
          clear hW6 HC5 HG5 HO5
          go_wp2_with fail
          rw [← HW6.out]
          refine (l1PickInt_any g _ 3 3 _ W6 HC6.out HL6.out (fun b hb => by cases hb; simp only; omega) (by omega) (by omega)).mono ?_
          rintro e w7 ⟨v, rfl, ⟨x, hx, rfl⟩, hg7, hc7⟩
          have HG7 := Lib.hid (HG6.out.trans hg7); have HC7 := Lib.hid hc7
          have HO7 := Lib.hid (HO6.out.chgW hg7 (by omega))
          clear hg7 hc7 hx HG6 HC6 HO6
          obtain ⟨gR, rfl, hgR, hgRl, hcells, hfr⟩ := Row.cells HO7.out (by omega)
          have hx0 := hcells 0 (by omega)
          have hfr0 := hfr 0
          have hl0 : 0 < (l.map (Value.int .i64)).length := by rw [List.length_map, HO7.out.len]; omega
          rw [List.getElem?_eq_getElem hl0] at hx0
          have hgne : g < gR := by omega
          have HO8 := Lib.hid (HO7.out.set 0 x)
          have HG8 : Hid (Chg w (w7.setCell ⟨gR, 0, none⟩ (.int .i64 x)) g none) := Lib.hid (HG7.out.setNew _ _ hgR)
          have HC8 : Hid (Cur (w7.setCell ⟨gR, 0, none⟩ (.int .i64 x)) g) := Lib.hid (HC7.out.setNew _ _ hgne)
          clear hcells hfr hgne
          go_wp2_with fail
          go_ret
          exact ⟨_, rfl, ⟨_, k, c, l.set 0 x, rfl, HO8.out, by rw [List.length_set]; exact Hll.out⟩, HG8.out, HC8.out⟩
/-- a number and a new row of numbers -/
def RetNRow (w : World) (e : Ending) (w' : World) : Prop :=
  ∃ p ad n c xs, e = .returned (.tuple #[.int .i64 p, .slice ad n c]) ∧ Own 3 w' w.heap.size ad n c xs ∧ xs.length ≤ 7 ∧ Below w.heap.size w w'
set_option maxHeartbeats 2000000 in
theorem drawFromMissing_any (a : Option Addr) (n c : Nat) (w : World) (hy : CodeAt w a n) (hn : n ≤ 1048576) :
    Calls Tryz.prog 97 #[.slice a n c] w (RetNRow w) := by
  have HY := Lib.hid hy
  clear hy
  go_enter Tryz.func97, Tryz.ntmps97
  go_wp2_with fail
  refine (l1New_any a n c w HY.out hn).mono ?_
  rintro e w1 ⟨rfl, hb1, hc1⟩
  have HB1 : Hid (Below w.heap.size w w1) := Lib.hid hb1
  obtain ⟨g, hg⟩ : ∃ g, g = w.heap.size := ⟨_, rfl⟩
  have hgw : w.heap.size ≤ g := by omega
  rw [← hg] at hc1
  rw [← hg]
  have HC1 := Lib.hid hc1
  have hz1 : w.heap.size ≤ w1.heap.size := hb1.size
  clear hb1 hc1 hg
  obtain ⟨W2, hW2⟩ : ∃ W2, W2 = w1.alloc (.cells #[.int .i64 1, .int .i64 2, .int .i64 3, .int .i64 4, .int .i64 5, .int .i64 6, .int .i64 6, .int .i64 6, .int .i64 0, .int .i64 7] 3) := ⟨_, rfl⟩
  have HL2 : Hid (IntsAt W2 (some ⟨w1.heap.size, 0, none⟩) 10 [1, 2, 3, 4, 5, 6, 6, 6, 0, 7]) := Lib.hid (by rw [hW2]; exact IntsAt.lit10 w1 1 2 3 4 5 6 6 6 0 7)
  have HC2 : Hid (Cur W2 g) := Lib.hid (by rw [hW2]; exact HC1.out.alloc _)
  have HB2 : Hid (Below w.heap.size w W2) := Lib.hid (by rw [hW2]; exact HB1.out.alloc hz1 _)
  have hg1 : g < w1.heap.size := HC1.out.lt
  have hz2 : w.heap.size ≤ W2.heap.size := HB2.out.size
  have HW2 := Lib.hid hW2
  clear hW2 HB1 HC1
  go_wp2_with fail
  rw [← HW2.out]
  refine (l1PickInt_any g _ 10 10 _ W2 HC2.out HL2.out (fun b hb => by cases hb; simp only; omega) (by omega) (by omega)).mono ?_
  rintro e w3 ⟨v, rfl, ⟨p, hp, rfl⟩, hg3, hc3⟩
  have hp7 : 0 ≤ p ∧ p ≤ 7 := by simp only [List.mem_cons, List.not_mem_nil, or_false] at hp; omega
  obtain ⟨m, rfl⟩ : ∃ m : Nat, p = m := ⟨p.toNat, by omega⟩
  have hm7 : m ≤ 7 := by omega
  have HB3 := Lib.hid (HB2.out.trans (hg3.belowNew (B := w.heap.size) (by omega) (by omega)))
  have HC3 := Lib.hid hc3
  have hz3 : w.heap.size ≤ w3.heap.size := HB3.out.size
  clear hg3 hc3 hp hp7 HB2 HC2 HL2 HW2
  go_wp2_with fail
  refine (l2Sets_any g w3 HC3.out).mono ?_
  rintro e w4 ⟨v, rfl, ⟨ad, k, d, xs, rfl, hown, hxl⟩, hg4, hc4⟩
  have HB4 := Lib.hid (HB3.out.trans (hg4.belowNew (B := w.heap.size) (by omega) (by omega)))
  have HC4 := Lib.hid hc4
  have hgl3 : g < w3.heap.size := HC3.out.lt
  have HO4 := Lib.hid hown
  have hk7 : k ≤ 7 := by have := hown.len; omega
  clear hg4 hc4 hown hxl HB3 HC3
  go_wp2_with fail
  go_loopw [7] (fun i wr => ∃ (K : Nat) (ys : List Int), K ≤ k ∧ i = .int .i64 K ∧ Below w.heap.size w wr ∧ Cur wr g ∧ Own 3 wr w3.heap.size ad k d ys) (fun i _ => k - (intOf i).toNat)
  case atStart => exact ⟨0, xs, Nat.zero_le _, rfl, HB4.out, HC4.out, HO4.out⟩
  case round =>
    obtain ⟨K, ys, hK, rfl, hbr, hcr, hor⟩ := hrel
    have HBr := Lib.hid hbr; have HCr := Lib.hid hcr; have HOr := Lib.hid hor
    clear hbr hcr hor
    by_cases hlt : K < k
    · have hli : (K : Int) < k := by omega
      go_wp2_with fail
      refine (l1Once_any g 5 wr HCr.out (by omega)).mono ?_
      rintro e w5 ⟨v, rfl, ⟨b, rfl⟩, hg5, hc5⟩
      have HB5 := Lib.hid (HBr.out.trans (hg5.belowNew (B := w.heap.size) (by omega) HBr.out.size)); have HC5 := Lib.hid hc5
      have HO5 := Lib.hid (HOr.out.chgW hg5 (by omega))
      have Hyl : Hid (ys.length ≤ 7) := Lib.hid (by have := HOr.out.len; omega)
      clear hg5 hc5 HBr HCr HOr
      cases b
      · obtain ⟨gR, rfl, hgR, hgRl, hcells, hfr⟩ := Row.cells HO5.out (by omega)
        have hx0 := hcells K hlt
        have hfr0 := hfr K
        have hl0 : K < ys.length := by rw [HO5.out.len]; exact hlt
        rw [List.getElem?_map, List.getElem?_eq_getElem hl0] at hx0
        simp only [Option.map_some] at hx0
        obtain ⟨x, hx⟩ : ∃ x, x = ys[K] := ⟨_, rfl⟩
        rw [← hx] at hx0
        have hK0 : (0 : Int) ≤ K := by omega
        have hgne : g < gR := by omega
        clear hcells hfr hx
        by_cases hm : 1 ≤ m ∧ m ≤ 6
        · have hm1 : (1 : Int) ≤ m := by omega
          have hm6 : (m : Int) ≤ 6 := by omega
          by_cases hx1 : 0 < x
          · have hw1 := (pow_wrap (m : Int) (by omega) (by omega)).1
            simp only [Int.toNat_natCast] at hw1
            obtain ⟨N, hN⟩ : ∃ N : Nat, N = 2 ^ m := ⟨_, rfl⟩
            have hNi : ((2 : Int) ^ m) = N := by rw [hN]; simp
            have hN64 : N ≤ 64 := by have := pow_le64 hm.2; omega
            have hN1 : 1 ≤ N := by rw [hN]; exact Nat.one_le_two_pow
            rw [hNi] at hw1
            clear hN
            go_wp2_with fail
            go_roundw
            case rel => exact ⟨K + 1, ys.set K _, by omega, by go_num, HB5.out.setCell (by simp only; omega) _, HC5.out.setNew _ _ hgne, HO5.out.set K _⟩
            case measure => simp [intOf]; omega
          · go_wp2_with fail
            go_roundw
            case rel => exact ⟨K + 1, ys, by omega, by go_num, HB5.out, HC5.out, HO5.out⟩
            case measure => simp [intOf]; omega
        · by_cases h1 : (1 : Int) ≤ m
          · have hm6 : ¬ ((m : Int) ≤ 6) := by omega
            go_wp2_with fail
            go_roundw
            case rel => exact ⟨K + 1, ys, by omega, by go_num, HB5.out, HC5.out, HO5.out⟩
            case measure => simp [intOf]; omega
          · go_wp2_with fail
            go_roundw
            case rel => exact ⟨K + 1, ys, by omega, by go_num, HB5.out, HC5.out, HO5.out⟩
            case measure => simp [intOf]; omega
      · go_wp2_with fail
        go_ret2
        exact ⟨_, ad, k, d, ys, rfl, HO5.out.mono hz3, Hyl.out, HB5.out⟩
    · obtain rfl : K = k := by omega
      have hli : ¬ ((K : Int) < K) := by omega
      have Hyl : Hid (ys.length ≤ 7) := Lib.hid (by have := HOr.out.len; omega)
      go_wp2_with fail
      go_ret2
      exact ⟨_, ad, K, d, ys, rfl, HOr.out.mono hz3, Hyl.out, HBr.out⟩
theorem drawMakeIdeal_any (a : Option Addr) (n c : Nat) (w : World) (hy : CodeAt w a n) (hn : n ≤ 1048576) :
    Calls Tryz.prog 21 #[.slice a n c] w (RetNRow w) := by
  have HY := Lib.hid hy
  clear hy
  go_enter Tryz.func21, Tryz.ntmps21
  go_wp2_with fail
  refine (drawFromMissing_any a n c w HY.out hn).mono ?_
  rintro e w1 ⟨p, ad, k, d, xs, rfl, own, hxl, hb⟩
  have HO := Lib.hid own; have HX := Lib.hid hxl; have HB := Lib.hid hb
  clear own hxl hb
  go_wp2_with fail
  go_ret2
  exact ⟨p, ad, k, d, xs, rfl, HO.out, HX.out, HB.out⟩
theorem drawIdealOf_any (a : Option Addr) (n c : Nat) (w : World) (hy : CodeAt w a n) (hn : n ≤ 1048576) :
    Calls Tryz.prog 13 #[.slice a n c] w (RetCx w) := by
  have XR0 := Lib.hid (BoxF.new w (.int .i64 0) (.slice none 0 0) 32)
  obtain ⟨W0, hW0⟩ : ∃ W0, W0 = w.alloc (.cells #[.int .i64 0, .slice none 0 0] 32) := ⟨_, rfl⟩
  rw [← hW0] at XR0
  have Hz0 : Hid (W0.heap.size = w.heap.size + 1) := Lib.hid (by rw [hW0]; simp)
  have HB0 : Hid (Below w.heap.size w W0) := Lib.hid (by rw [hW0]; exact (by repeat (first | exact Below.refl _ _ | assumption | refine Below.setCell ?_ (by first | omega | (simp; done) | (simp; omega)) _ | refine Below.alloc ?_ (by first | omega | (simp; done) | (simp; omega)) _ | apply Below.drew)))
  have HY0 : Hid (CodeAt W0 a n) := Lib.hid (hy.keep HB0.out)
  have HW0 := Lib.hid hW0
  clear hy hW0
  go_enter Tryz.func13, Tryz.ntmps13
  go_wp2_with fail
  rw [← HW0.out]
  refine (l1New_any a n c W0 HY0.out hn).mono ?_
  rintro e w1 ⟨rfl, hb1, hc1⟩
  have hz1 : w.heap.size + 1 ≤ w1.heap.size := by have := hb1.size; have := Hz0.out; omega
  have XR1 := Lib.hid (XR0.out.keep hb1 (by have := Hz0.out; omega))
  have HB1 : Hid (Below w.heap.size w w1) := Lib.hid (HB0.out.trans (hb1.mono (by have := Hz0.out; omega)))
  obtain ⟨g, hg⟩ : ∃ g, g = W0.heap.size := ⟨_, rfl⟩
  rw [← hg] at hc1
  rw [← hg]
  have hgw : w.heap.size < g := by have := Hz0.out; omega
  have HC1 := Lib.hid hc1
  clear hb1 hc1 hg
  go_wp2_with fail
  refine (l3Bent_any g w1 HC1.out).mono ?_
  rintro e w2 ⟨v, rfl, ⟨p, ad, k, d, xs, rfl, hown, hxl, hp0, hp7⟩, hg2, hc2⟩
  have hb2 : Below w.heap.size w1 w2 := hg2.belowNew (by omega) (by omega)
  have HB2 := Lib.hid (HB1.out.trans hb2)
  have XR2 := Lib.hid (XR1.out.chg hg2 (by omega))
  have HO2 := Lib.hid hown
  clear hg2 hc2 hown hb2
  obtain ⟨r0, r1, rf0, rf1, _⟩ := XR2.out
  go_wp2_with fail
  refine bodyPost_ret (v := .agg #[.int .i64 p, .slice ad k d]) (by simp [results, Tryz.results13, go_sem, r0, r1]) rfl ⟨p, ad, k, d, xs, rfl, ?_, hxl, ?_⟩
  · exact Row.mono (Row.setBelow (Row.setBelow HO2.out _ (by omega)) _ (by omega)) (by omega)
  · exact (HB2.out.setCell (by simp) _).setCell (by simp) _
end Go.Proofs.YtihfhfihladlcaaGreatDoor

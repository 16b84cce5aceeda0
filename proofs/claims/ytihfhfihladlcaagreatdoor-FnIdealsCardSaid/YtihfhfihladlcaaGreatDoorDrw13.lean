/- Texts of this claim, one behind the other: what each says stands at its head. -/
import Derived.Test.YtihfhfihladlcaaGreatDoorDrw5
import Derived.Test.YtihfhfihladlcaaGreatDoorIdeal
/- The reference's drawing of ideals: l29Draw. -/
namespace Go.Proofs.YtihfhfihladlcaaGreatDoor
set_option maxRecDepth 20000
open Go.RowKit
set_option linter.unusedSimpArgs false
set_option linter.unusedVariables false

set_option maxHeartbeats 1000000 in
theorem l29Draw_any (g m : Nat) (w : World) (hc : Cur w g) (h1 : 1 ≤ m) (h6 : m ≤ 6) :
    Calls Tryz.prog 160 #[.pointer (some ⟨g, 0, none⟩), .int .i64 m] w (RetD g w (IsCx w.heap.size)) := by
  have hgl := hc.lt
  have XR0 := Lib.hid (BoxF.new w (.int .i64 0) (.slice none 0 0) 26)
  obtain ⟨W0, hW0⟩ : ∃ W0, W0 = w.alloc (.cells #[.int .i64 0, .slice none 0 0] 26) := ⟨_, rfl⟩
  rw [← hW0] at XR0
  have Hz0 : Hid (W0.heap.size = w.heap.size + 1) := Lib.hid (by rw [hW0]; simp)
  have HC0 : Hid (Cur W0 g) := Lib.hid (by rw [hW0]; exact hc.alloc _)
  have HG0 : Hid (Chg w W0 g none) := Lib.hid (by rw [hW0]; exact (Chg.refl _ _ _).alloc _)
  have hw1 := (pow_wrap (m : Int) (by omega) (by omega)).1
  simp only [Int.toNat_natCast] at hw1
  have hpm : 2 ^ m ≤ 64 := pow_le64 h6
  obtain ⟨N, hN⟩ : ∃ N : Nat, N = 2 ^ m := ⟨_, rfl⟩
  have hNi : ((2 : Int) ^ m) = N := by rw [hN]; simp
  have hN64 : N ≤ 64 := by omega
  have hN1 : 2 ≤ N := by rw [hN]; exact Nat.le_trans (by decide) (Nat.pow_le_pow_right (by decide) h1)
  rw [hNi] at hw1
  have HW0 := Lib.hid hW0
  clear hc hN hW0
  go_enter Tryz.func160, Tryz.ntmps160
  go_wp2_with fail
  rw [← HW0.out]
  obtain ⟨W1, hW1⟩ : ∃ W1, W1 = W0.alloc (.cells #[] 3) := ⟨_, rfl⟩
  have HE := Lib.hid (Own.empty 3 W0 W0.heap.size (Nat.le_refl _))
  rw [← hW1] at HE
  have hz1 : W1.heap.size = w.heap.size + 2 := by rw [hW1]; simp [Hz0.out]
  have HL := Lib.hid (IntsAt.lit8 W1 0 1 2 3 3 4 5 6)
  rw [hz1] at HL
  rw [← hW1]
  obtain ⟨W2, hW2⟩ : ∃ W2, W2 = W1.alloc (.cells #[.int .i64 0, .int .i64 1, .int .i64 2, .int .i64 3, .int .i64 3, .int .i64 4, .int .i64 5, .int .i64 6] 3) := ⟨_, rfl⟩
  rw [← hW2] at HL
  rw [← hW2]
  have HC2 : Hid (Cur W2 g) := Lib.hid (by rw [hW2, hW1]; exact (HC0.out.alloc _).alloc _)
  have HG2 : Hid (Chg w W2 g none) := Lib.hid (by rw [hW2, hW1]; exact (HG0.out.alloc _).alloc _)
  have XR2 : Hid (BoxF W2 w.heap.size (.int .i64 0) (.slice none 0 0)) := Lib.hid (by rw [hW2, hW1]; exact (XR0.out.alloc _).alloc _)
  have HE2 : Hid (Own 3 W2 (w.heap.size + 1) (some ⟨w.heap.size + 1, 0, none⟩) 0 0 []) := Lib.hid (by rw [hW2, ← Hz0.out]; exact HE.out.alloc _)
  have Hz2 : Hid (W2.heap.size = w.heap.size + 3) := Lib.hid (by rw [hW2]; simp [hz1])
  clear hW1 hW2 hz1 HE HG0 HC0 XR0
  refine (l1PickInt_any g _ 8 8 _ W2 HC2.out HL.out (fun b hb => by cases hb; simp only; omega) (by omega) (by omega)).mono ?_
  rintro e w3 ⟨v, rfl, ⟨K9, hK9, rfl⟩, hg3, hc3⟩
  obtain ⟨K, rfl, hK⟩ : ∃ K : Nat, K9 = K ∧ K ≤ 6 := by
    simp only [List.mem_cons, List.not_mem_nil, or_false] at hK9
    exact ⟨K9.toNat, by omega, by omega⟩
  have HG3 := Lib.hid (HG2.out.trans hg3); have HC3 := Lib.hid hc3
  have XR3 := Lib.hid (XR2.out.chg hg3 (by omega))
  have HE3 := Lib.hid (HE2.out.chgW hg3 (by omega))
  have hz3 : w.heap.size + 1 ≤ w3.heap.size := by have := hg3.size; have := Hz2.out; omega
  clear hg3 hc3 hK9
  go_wp2_with fail
  go_loopw [5, 7, 8] (fun o i _ wr => ∃ (k : Nat) (l : List Nat) (ad : Option Addr) (q c : Nat), k ≤ K ∧ i = .int .i64 k ∧ o = .slice ad q c ∧ q ≤ k ∧ (∃ z : Nat, z = 0) ∧ Chg w wr g none ∧ Cur wr g ∧ BoxF wr w.heap.size (.int .i64 0) (.slice none 0 0) ∧ Own 3 wr (w.heap.size + 1) ad q c (up l) ∧ Hid (∀ s ∈ l, s < 64) ∧ w.heap.size + 1 ≤ wr.heap.size) (fun _ i _ _ => K - (intOf i).toNat)
  case atStart => exact ⟨0, [], _, 0, 0, Nat.zero_le _, rfl, rfl, Nat.le_refl _, ⟨_, rfl⟩, HG3.out, HC3.out, XR3.out, HE3.out, Lib.hid (by simp), hz3⟩
  case round =>
    obtain ⟨k, l, ad, q, c, hk, rfl, rfl, hq, _, hgr, hcr, hxr, hown, hl, hzr⟩ := hrel
    have HGr := Lib.hid hgr; have HCr := Lib.hid hcr; have XRr := Lib.hid hxr; have HOr := Lib.hid hown
    clear hgr hcr hxr hown
    by_cases hlt : k < K
    · have hli : (k : Int) < K := by omega
      go_wp2_with fail
      refine (l1Below_any g ((N : Int) - 1) wr HCr.out (by omega)).mono ?_
      rintro e w5 ⟨v, rfl, ⟨s, hs, _, rfl⟩, hg4, hc4⟩
      have hs64 : 1 + s < 64 := by have := hs (by omega); omega
      have HSW : Hid ((1 : Int) + (s : Int) = ((1 + s : Nat) : Int)) := Lib.hid (by omega)
      have HG5 := Lib.hid (HGr.out.trans hg4); have HC5 := Lib.hid hc4
      have XR5 := Lib.hid (XRr.out.chg hg4 (by omega)); have HO5 := Lib.hid (HOr.out.chgW hg4 (by omega))
      have hzr5 : w.heap.size + 1 ≤ w5.heap.size := Nat.le_trans hzr hg4.size
      clear hg4 hc4 hs
      go_wp2_with (at_builtin; refine ap rfl _ _ rfl (w.heap.size + 1) _ _ _ _ _ rfl HO5.out rfl (by omega) (by omega) ?_; intro ad6 d6 w6 hown6 hb6; have HO6 := Lib.hid hown6; have HB6 := Lib.hid hb6; clear hown6 hb6)
      have hz6 : w.heap.size + 1 ≤ w6.heap.size := Nat.le_trans hzr5 HB6.out.size
      go_roundw
      case rel => exact ⟨k + 1, l ++ [1 + s], ad6, q + 1, d6, by omega, by go_num, rfl, by omega, ⟨_, rfl⟩, (HG5.out.upto (HB6.out.mono (by omega))), HC5.out.keep (HB6.out.mono (by omega)), XR5.out.keep HB6.out (by omega), by rw [up_append]; have := HO6.out; rw [HSW.out] at this; exact this, Lib.hid (all_snoc hl.out hs64), hz6⟩
      case measure => simp [intOf]; omega
    · have hli : ¬ ((k : Int) < K) := by omega
      go_wp2_with fail
      refine (l1Once_any g 20 wr HCr.out (by omega)).mono ?_
      rintro e w5 ⟨v, rfl, ⟨b, rfl⟩, hg5, hc5⟩
      have HG5 := Lib.hid (HGr.out.trans hg5); have HC5 := Lib.hid hc5
      have XR5 := Lib.hid (XRr.out.chg hg5 (by omega)); have HO5 := Lib.hid (HOr.out.chgW hg5 (by omega))
      have hzr5 : w.heap.size + 1 ≤ w5.heap.size := Nat.le_trans hzr hg5.size
      clear hg5 hc5 HGr HCr XRr HOr
      cases b
      · go_wp2_with fail
        refine (l29Make_any m ad q c l _ HO5.out.reads hl.out).mono ?_
        rintro e w6 ⟨ad6, n6, c6, rfl, hown6, hb6⟩
        have HG6 := Lib.hid (HG5.out.upto (hb6.mono (by omega)))
        have HC6 := Lib.hid (HC5.out.keep (hb6.mono (by omega)))
        obtain ⟨r0, r1, f0, f1, _⟩ := XR5.out.keep hb6 (by omega)
        have HO6 := Lib.hid hown6
        clear hb6 hown6
        go_wp2_with fail
        refine bodyPost_ret (v := .agg #[.int .i64 m, .slice ad6 n6 c6]) (by simp [results, Tryz.results160, go_sem, r0, r1]) rfl ⟨_, rfl, ⟨m, ad6, n6, c6, up (minL l.contains), rfl, ?_, by rw [up_len]; exact Nat.le_trans (ord_len _) (by omega), by omega, by omega⟩, ?_, ?_⟩
        · exact Row.mono ((Row.setBelow HO6.out _ (by omega)).setBelow _ (by omega)) (by omega)
        · exact (HG6.out.setNew _ _ (by simp)).setNew _ _ (by simp)
        · exact (HC6.out.setNew _ _ (by simpa using hgl)).setNew _ _ (by simpa using hgl)
      · go_wp2_with (at_builtin; refine ap rfl _ _ rfl (w.heap.size + 1) _ _ _ _ _ rfl HO5.out rfl (by omega) (by omega) ?_; intro ad7 d7 w7 hown7 hb7; have HO7 := Lib.hid hown7; have HB7 := Lib.hid hb7; clear hown7 hb7)
        have hz7 : w.heap.size + 1 ≤ w7.heap.size := Nat.le_trans hzr5 HB7.out.size
        have HG7 := Lib.hid (HG5.out.upto (HB7.out.mono (by omega))); have HC7 := Lib.hid (HC5.out.keep (HB7.out.mono (by omega))); have XR7 := Lib.hid (XR5.out.keep HB7.out (by omega))
        refine (l29Make_any m ad7 (q + 1) d7 (l ++ [0]) _ (by rw [up_append]; exact HO7.out.reads) (all_snoc hl.out (by omega))).mono ?_
        rintro e w6 ⟨ad6, n6, c6, rfl, hown6, hb6⟩
        have HG6 := Lib.hid (HG7.out.upto (hb6.mono (by omega)))
        have HC6 := Lib.hid (HC7.out.keep (hb6.mono (by omega)))
        obtain ⟨r0, r1, f0, f1, _⟩ := XR7.out.keep hb6 (by omega)
        have HO6 := Lib.hid hown6
        clear hb6 hown6
        go_wp2_with fail
        refine bodyPost_ret (v := .agg #[.int .i64 m, .slice ad6 n6 c6]) (by simp [results, Tryz.results160, go_sem, r0, r1]) rfl ⟨_, rfl, ⟨m, ad6, n6, c6, up (minL (l ++ [0]).contains), rfl, ?_, by rw [up_len]; exact Nat.le_trans (ord_len _) (by omega), by omega, by omega⟩, ?_, ?_⟩
        · exact Row.mono ((Row.setBelow HO6.out _ (by omega)).setBelow _ (by omega)) (by omega)
        · exact (HG6.out.setNew _ _ (by simp)).setNew _ _ (by simp)
        · exact (HC6.out.setNew _ _ (by simpa using hgl)).setNew _ _ (by simpa using hgl)
theorem IntsAt.lit7 (w : World) (x0 x1 x2 x3 x4 x5 x6 : Int) : IntsAt (w.alloc (.cells #[.int .i64 x0, .int .i64 x1, .int .i64 x2, .int .i64 x3, .int .i64 x4, .int .i64 x5, .int .i64 x6] 3)) (some ⟨w.heap.size, 0, none⟩) 7 [x0, x1, x2, x3, x4, x5, x6] := by
  refine ⟨rfl, by omega, fun _ => ⟨_, _, rfl, fun i hi => ?_⟩⟩
  match i, hi with
  | 0, _ | 1, _ | 2, _ | 3, _ | 4, _ | 5, _ | 6, _ => simp [nth]
set_option maxHeartbeats 1000000 in
theorem l29Bent_any (g : Nat) (w : World) (hc : Cur w g) :
    Calls Tryz.prog 159 #[.pointer (some ⟨g, 0, none⟩)] w (RetD g w (IsCxN 1101 w.heap.size)) := by
  have hgl := hc.lt
  have XR0 := Lib.hid (BoxF.new w (.int .i64 0) (.slice none 0 0) 26)
  obtain ⟨W0, hW0⟩ : ∃ W0, W0 = w.alloc (.cells #[.int .i64 0, .slice none 0 0] 26) := ⟨_, rfl⟩
  rw [← hW0] at XR0
  have Hz0 : Hid (W0.heap.size = w.heap.size + 1) := Lib.hid (by rw [hW0]; simp)
  have HC0 : Hid (Cur W0 g) := Lib.hid (by rw [hW0]; exact (hc.alloc _))
  have HG0 : Hid (Chg w W0 g none) := Lib.hid (by rw [hW0]; exact ((Chg.refl _ _ _).alloc _))
  have HW0 := Lib.hid hW0
  clear hc hW0
  go_enter Tryz.func159, Tryz.ntmps159
  have HL := Lib.hid (IntsAt.lit7 W0 1 2 3 4 4 5 6)
  rw [Hz0.out] at HL
  go_wp2_with fail
  rw [← HW0.out]
  refine (l1PickInt_any g _ 7 7 _ _ (HC0.out.alloc _) HL.out (fun b hb => by cases hb; simp only; omega) (by omega) (by omega)).mono ?_
  rintro e wP ⟨v, rfl, ⟨K9, hK9, rfl⟩, hgP, hcP⟩
  obtain ⟨K, rfl, hK1, hK6⟩ : ∃ K : Nat, K9 = K ∧ 1 ≤ K ∧ K ≤ 6 := by
    simp only [List.mem_cons, List.not_mem_nil, or_false] at hK9
    exact ⟨K9.toNat, by omega, by omega, by omega⟩
  have hgQ : Chg W0 wP g none := ((Chg.refl W0 g none).alloc _).trans hgP
  have HGQ := Lib.hid hgQ; have HCP := Lib.hid hcP
  clear hgP hcP hgQ hK9
  go_wp2_with fail
  refine (l29Draw_any g K wP HCP.out hK1 hK6).mono ?_
  rintro e w1 ⟨v, rfl, ⟨p, ad, n, c, xs, rfl, hown0, hxl⟩, hg10, hc1⟩
  have hg1 : Chg W0 w1 g none := HGQ.out.trans hg10
  have hown : Own 3 w1 W0.heap.size ad n c xs := hown0.mono HGQ.out.size
  clear hg10 hown0
  have XG0 := BoxF.new w1 (.int .i64 p) (.slice ad n c) 26
  have hne := fun k hk => (hown.lt k hk).2
  have hge := fun k hk => (hown.lt k hk).1
  have XR2 := Lib.hid ((XR0.out.chg hg1 (by omega)).alloc (.cells #[.int .i64 p, .slice ad n c] 26))
  have HO2 : Hid (Own 3 _ W0.heap.size ad n c xs) := Lib.hid (hown.alloc (.cells #[.int .i64 p, .slice ad n c] 26))
  have HG2 := Lib.hid ((HG0.out.trans hg1).alloc (.cells #[.int .i64 p, .slice ad n c] 26))
  have HC2 := Lib.hid (hc1.alloc (.cells #[.int .i64 p, .slice ad n c] 26))
  have hz1 : W0.heap.size ≤ w1.heap.size := hg1.size
  obtain ⟨G, hG⟩ : ∃ G, G = w1.heap.size := ⟨_, rfl⟩
  rw [Hz0.out, ← hG] at hz1
  rw [← hG] at XG0
  have Hne : Hid (∀ k, (Value.slice ad n c).ownBlock = some k → k < G) := Lib.hid (fun k hk => by have := hne k hk; omega)
  have Hge : Hid (∀ k, (Value.slice ad n c).ownBlock = some k → w.heap.size < k) := Lib.hid (fun k hk => by have := hge k hk; have := Hz0.out; omega)
  have XG2 := Lib.hid XG0
  have HG9 := Lib.hid hG
  have hnl : n ≤ 1100 := by have := hown.len; omega
  have Hxl := Lib.hid hxl
  obtain ⟨W2, hW2⟩ : ∃ W2, W2 = w1.alloc (.cells #[.int .i64 p, .slice ad n c] 26) := ⟨_, rfl⟩
  have HW2 := Lib.hid hW2
  have Hz2 : Hid (G + 1 ≤ W2.heap.size) := Lib.hid (by rw [hW2, hG]; simp)
  rw [Hz0.out] at HO2
  rw [← hW2] at XR2 HO2 HG2 HC2 XG2
  clear hg1 hc1 hown XG0 hne hge hW2 hG hxl
  obtain ⟨b0, b1, _, _, _⟩ := XG2.out
  go_wp2_with fail
  rw [← HG9.out, ← HW2.out]
  refine (l1Below_any g 14 W2 HC2.out (by omega)).mono ?_
  rintro e w4 ⟨v, rfl, ⟨y, hy, _, rfl⟩, hg4, hc4⟩
  have hy8 : y < 14 := by have := hy (by omega); omega
  have HG4 := Lib.hid (HG2.out.trans hg4); have HC4 := Lib.hid hc4
  have XR4 := Lib.hid (XR2.out.chg hg4 (by omega))
  have XG4 := Lib.hid (XG2.out.chg hg4 (by omega))
  have HO4 := Lib.hid (HO2.out.chgW hg4 (by omega))
  have Hz4 : Hid (G + 1 ≤ w4.heap.size) := Lib.hid (Nat.le_trans Hz2.out hg4.size)
  clear hg4 hc4 hy HC2 HG2 XR2 XG2 HO2 b0 b1
  have END : ∀ (W : World) (p : Int) (ad : Option Addr) (n c : Nat) (xs : List Int), Chg w W g none → Cur W g → BoxF W w.heap.size (.int .i64 0) (.slice none 0 0) → Own 3 W (w.heap.size + 1) ad n c xs → (xs.length ≤ 1101 ∧ 0 ≤ p ∧ p ≤ 7) →
      RetD g w (IsCxN 1101 w.heap.size) (.returned (.agg #[.int .i64 p, .slice ad n c])) ((W.setCell ⟨w.heap.size, 0, none⟩ (.int .i64 p)).setCell ⟨w.heap.size, 1, none⟩ (.slice ad n c)) := by
    intro W p ad n c xs hg hc hx ho hl
    exact ⟨_, rfl, ⟨p, ad, n, c, xs, rfl, Row.mono (Row.setBelow (Row.setBelow ho _ (by omega)) _ (by omega)) (by omega), hl⟩, (hg.setNew _ _ (by simp)).setNew _ _ (by simp), (hc.setNew _ _ (by simpa using hgl)).setNew _ _ (by simpa using hgl)⟩
  have HEND := Lib.hid END
  clear END
  by_cases y0 : y = 0
  · subst y0
    have HL := Lib.hid (IntsAt.lit3 w4 0 7 2)
    go_wp2_with fail
    refine (l1PickInt_any g _ 3 3 _ _ (HC4.out.alloc _) HL.out (fun b hb => by cases hb; have := HC4.out.lt; simp only; omega) (by omega) (by omega)).mono ?_
    rintro e w5 ⟨v, rfl, ⟨p', hp', rfl⟩, hg5, hc5⟩
    have Hp9 : Hid (0 ≤ p' ∧ p' ≤ 7) := Lib.hid (by simp only [List.mem_cons, List.not_mem_nil, or_false] at hp'; omega)
    clear hp'
    have HG5 := Lib.hid ((HG4.out.alloc _).trans hg5); have HC5 := Lib.hid hc5
    have XR5 := Lib.hid ((XR4.out.alloc _).chg hg5 (by omega))
    have XG5 := Lib.hid ((XG4.out.alloc _).chg hg5 (by omega))
    have HO5 := Lib.hid (Own.chgW (Own.alloc HO4.out _) hg5 (by omega))
    obtain ⟨b0, b1, bf0, bf1, _⟩ := XG5.out
    obtain ⟨r0, r1, f0, f1, _⟩ := XR5.out.setOther ⟨G, 0, none⟩ (.int .i64 p') (by simp only; omega)
    clear hg5 hc5
    go_wp2_with fail
    refine bodyPost_ret (v := .agg #[.int .i64 p', .slice ad n c]) (by simp [results, Tryz.results159, go_sem, r0, r1]) rfl ?_
    refine HEND.out _ p' ad n c xs (HG5.out.setNew _ _ (by simp only; omega)) (HC5.out.setNew _ _ (by simp only; omega)) (XR5.out.setOther _ _ (by simp only; omega)) (Row.setOther HO5.out _ ?_) ⟨Nat.le_succ_of_le Hxl.out.1, by have := Hp9.out; omega, by have := Hp9.out; omega⟩
    intro e; have := Hne.out G (by rw [e]; rfl); omega
  · have y0i : ((y : Int) == 0) = false := by simp; omega
    by_cases y1 : y = 1
    · subst y1
      obtain ⟨b0, b1, bf0, bf1, _⟩ := XG4.out
      have hcd := Lib.hid HC4.out.drew
      go_wp2_with fail
      go_region_law (first
        | (go_simp; go_at_call 132; (with_reducible refine (l1Below_any g 66 _ hcd.out (by omega)).mono ?_); rintro e w5 ⟨v, rfl, ⟨x, _, _, rfl⟩, hg5, hc5⟩; have HG5 := Lib.hid (HG4.out.drew.trans hg5); have HC5 := Lib.hid hc5; have XR5 := Lib.hid (XR4.out.drew.chg hg5 (by omega)); have XG5 := Lib.hid (XG4.out.drew.chg hg5 (by omega)); have HO5 := Lib.hid (HO4.out.drew.chgW hg5 (by omega)); have Hz5 : Hid (G + 1 ≤ w5.heap.size) := Lib.hid (Nat.le_trans Hz4.out hg5.size); obtain ⟨z0, z1, zf0, zf1, _⟩ := XG5.out; have HO5b : Hid (Own 3 (w5.alloc (.cells #[.int .i64 (IntKind.i64.wrap ((x : Int) - 1))] 3)) (w.heap.size + 1) ad n c xs) := Lib.hid (Own.alloc HO5.out _); have HX5b := Lib.hid (IntsAt.one w5 (IntKind.i64.wrap ((x : Int) - 1)) 3); have Hzb : Hid (w.heap.size + 1 ≤ (w5.alloc (.cells #[.int .i64 (IntKind.i64.wrap ((x : Int) - 1))] 3)).heap.size) := Lib.hid (by have := Hz5.out; simp; omega); clear hg5 hc5)
        | (refine step_ap_at rfl _ _ rfl (w.heap.size + 1) _ _ _ _ rfl HO5b.out _ _ _ _ rfl HX5b.out (Fit.one _) (by omega) Hzb.out ?_; intro ad6 d6 w6 hown6 hb6 hg6 hat6; have HO6 := Lib.hid hown6; have HN6 : Hid (∀ k, (Value.slice ad6 (n + 1) d6).ownBlock = some k → k ≠ G) := Lib.hid (fun k hk => hat6.elim (fun h => by have := Hne.out k (h ▸ hk); omega) (fun h => by rw [h] at hk; have := Hz5.out; simp at hk; omega)); have HG6 := Lib.hid ((HG5.out.alloc _).grownNew hg6 (fun k hk => by have := Hge.out k hk; omega)); have HC6 := Lib.hid ((HC5.out.alloc _).grown hg6 (fun k hk => by have := Hge.out k hk; omega)); have XR6 := Lib.hid ((XR5.out.alloc _).other hg6.size (hg6.block w.heap.size (by have := Hz5.out; simp; omega) (fun e => by have := Hge.out _ e.symm; omega))); have XG6 := Lib.hid ((XG5.out.alloc _).other hg6.size (hg6.block G (by have := Hz5.out; simp; omega) (fun e => by have := Hne.out _ e.symm; omega))); obtain ⟨z0, z1, zf0, zf1, _⟩ := XG6.out; clear hown6 hb6 hg6 hat6))
      all_goals (
        have XS := XR6.out.setOther ⟨G, 1, none⟩ (.slice ad6 (n + 1 : Nat) d6) (by simp only; omega)
        obtain ⟨r0, r1, f0, f1, _⟩ := id XS
        obtain ⟨u0, u1, _, _, _⟩ := XG6.out.set1 (.slice ad6 (n + 1 : Nat) d6)
        have XSH := Lib.hid XS
        clear XS
        go_wp2_with fail
        refine bodyPost_ret (v := .agg #[.int .i64 p, .slice ad6 (n + 1) d6]) (by simp [results, Tryz.results159, go_sem, r0, r1]) rfl ?_
        refine HEND.out _ p ad6 (n + 1) d6 _ (HG6.out.setNew _ _ (by simp only; omega)) (HC6.out.setNew _ _ (by simp only; omega)) XSH.out (Row.setOther HO6.out _ ?_) ⟨by rw [List.length_append]; have := Hxl.out.1; simp; omega, Hxl.out.2⟩
        intro e
        exact HN6.out G (by rw [e]; rfl) rfl)
    · have y1i : ((y : Int) == 1) = false := by simp; omega
      obtain ⟨b0, b1, bf0, bf1, _⟩ := XG4.out
      obtain ⟨r0, r1, f0, f1, _⟩ := XR4.out
      go_wp2_with fail
      refine bodyPost_ret (v := .agg #[.int .i64 p, .slice ad n c]) (by simp [results, Tryz.results159, go_sem, r0, r1]) rfl ?_
      exact HEND.out _ p ad n c xs HG4.out HC4.out XR4.out HO4.out ⟨Nat.le_succ_of_le Hxl.out.1, Hxl.out.2⟩
end Go.Proofs.YtihfhfihladlcaaGreatDoor

/- The reference's drawings for FnIdeals: DrawInIdeal, DrawQuotientBy. -/
namespace Go.Proofs.YtihfhfihladlcaaGreatDoor
set_option maxRecDepth 20000
open Go.RowKit
set_option linter.unusedSimpArgs false
set_option linter.unusedVariables false

set_option maxHeartbeats 1000000 in
theorem drawInIdeal_any (a : Option Addr) (n c : Nat) (w : World) (hy : CodeAt w a n) (hn : n ≤ 1048576) :
    Calls Tryz.prog 92 #[.slice a n c] w (RetCxI w) := by
  have XR0 := Lib.hid (BoxF.new w (.int .i64 0) (.slice none 0 0) 26)
  obtain ⟨W0, hW0⟩ : ∃ W0, W0 = w.alloc (.cells #[.int .i64 0, .slice none 0 0] 26) := ⟨_, rfl⟩
  rw [← hW0] at XR0
  have Hz0 : Hid (W0.heap.size = w.heap.size + 1) := Lib.hid (by rw [hW0]; simp)
  have HB0 : Hid (Below w.heap.size w W0) := Lib.hid (by rw [hW0]; exact (by repeat (first | exact Below.refl _ _ | assumption | refine Below.setCell ?_ (by first | omega | (simp; done) | (simp; omega)) _ | refine Below.alloc ?_ (by first | omega | (simp; done) | (simp; omega)) _ | apply Below.drew)))
  have HY0 : Hid (CodeAt W0 a n) := Lib.hid (hy.keep HB0.out)
  have HW0 := Lib.hid hW0
  clear hy hW0
  go_enter Tryz.func92, Tryz.ntmps92
  go_wp2_with fail
  rw [← HW0.out]
  refine (l1New_any a n c W0 HY0.out hn).mono ?_
  rintro e w1 ⟨rfl, hb1, hc1⟩
  have hz1 : w.heap.size + 1 ≤ w1.heap.size := by have := hb1.size; have := Hz0.out; omega
  have XR1 := Lib.hid (XR0.out.keep hb1 (by have := Hz0.out; omega))
  have HB1 : Hid (Below w.heap.size w w1) := Lib.hid (HB0.out.trans (hb1.mono (by have := Hz0.out; omega)))
  obtain ⟨g, hg⟩ : ∃ g, g = W0.heap.size := ⟨_, rfl⟩
  rw [← hg] at hc1
  rw [← hg]
  have hgw : w.heap.size < g := by have := Hz0.out; omega
  have HC1 := Lib.hid hc1
  clear hb1 hc1 hg
  go_wp2_with fail
  refine (l29Bent_any g w1 HC1.out).mono ?_
  rintro e w2 ⟨v, rfl, ⟨p, ad, k, d, xs, rfl, hown, hxl⟩, hg2, hc2⟩
  have hb2 : Below w.heap.size w1 w2 := hg2.belowNew (by omega) (by omega)
  have HB2 := Lib.hid (HB1.out.trans hb2)
  have XR2 := Lib.hid (XR1.out.chg hg2 (by omega))
  have HC2 := Lib.hid hc2
  have hz2 : w1.heap.size ≤ w2.heap.size := hg2.size
  obtain ⟨G, hG⟩ : ∃ G, G = w2.heap.size := ⟨_, rfl⟩
  have HG := Lib.hid hG
  obtain ⟨W3, hW3⟩ : ∃ W3, W3 = w2.alloc (.cells #[.int .i64 p, .slice ad k d] 26) := ⟨_, rfl⟩
  have HW3 := Lib.hid hW3
  have XG3 : Hid (BoxF W3 G (.int .i64 p) (.slice ad k d)) := Lib.hid (by rw [hW3, hG]; exact BoxF.new _ _ _ _)
  have XR3 : Hid (BoxF W3 w.heap.size (.int .i64 0) (.slice none 0 0)) := Lib.hid (by rw [hW3]; exact XR2.out.alloc _)
  have HC3 : Hid (Cur W3 g) := Lib.hid (by rw [hW3]; exact hc2.alloc _)
  have HO3 : Hid (Own 3 W3 w1.heap.size ad k d xs) := Lib.hid (by rw [hW3]; exact Own.alloc hown _)
  have HB3 : Hid (Below w.heap.size w W3) := Lib.hid (by rw [hW3]; exact HB2.out.alloc HB2.out.size _)
  have hGw : w1.heap.size ≤ G := by omega
  have hgG : g < G := by have := hc2.lt; omega
  have hz3 : Hid (W3.heap.size = G + 1) := Lib.hid (by rw [hW3, hG]; simp)
  clear hg2 hc2 hown hb2 hG hW3
  obtain ⟨b0, b1, _, _, _⟩ := XG3.out
  go_wp2_with fail
  rw [← HG.out, ← HW3.out]
  go_region_held3 (fun W => W.cell? ⟨G, 0, none⟩ = some (.int .i64 p) ∧ W.cell? ⟨G, 1, none⟩ = some (.slice ad k d)) (first | exact ⟨b0, b1⟩ | exact ⟨z0, z1⟩ | (have hh := ((XG5.out.setOther ⟨w.heap.size, 0, none⟩ (.int .i64 p) (by simp only; omega)).setOther ⟨w.heap.size, 1, none⟩ (.slice ad k d) (by simp only; omega)); exact ⟨hh.c0, hh.c1⟩) | go_keep) (first
    | (go_simp; go_at_call 132; (with_reducible refine (l1Below_any g 66 _ HC3.out.drew (by omega)).mono ?_); rintro e w5 ⟨v, rfl, ⟨x, hx, _, rfl⟩, hg5, hc5⟩; have hx66 : x < 66 := (by have := hx (by omega); omega); have HB5 : Hid (Below w.heap.size w w5) := Lib.hid (HB3.out.drew.trans (hg5.belowNew (by omega) HB3.out.size)); have HO5 : Hid (Own 3 w5 w1.heap.size ad k d xs) := Lib.hid (Own.chgW (Own.drew HO3.out) hg5 (HC1.out.lt)); have XG5 := Lib.hid (XG3.out.drew.chg hg5 (by omega)); have XR5 := Lib.hid (XR3.out.drew.chg hg5 (by omega)); obtain ⟨z0, z1, zf0, zf1, _⟩ := XG5.out; obtain ⟨r0, r1, f0, f1, _⟩ := XR5.out; clear hg5 hc5))
  all_goals (
    go_wp2_with fail
    refine bodyPost_ret (v := .tuple #[.agg #[.int .i64 p, .slice ad k d], .int .i64 (IntKind.i64.wrap ((x : Int) - 1))]) (by simp [results, Tryz.results92, go_sem, r0, r1]) rfl ⟨p, ad, k, d, xs, _, rfl, Row.mono (Row.setBelow (Row.setBelow HO5.out _ (by omega)) _ (by omega)) (by omega), hxl.1, (HB5.out.setCell (by simp) _).setCell (by simp) _⟩)
theorem drawQuotientBy_any (a : Option Addr) (n c : Nat) (w : World) (hy : CodeAt w a n) (hn : n ≤ 1048576) :
    Calls Tryz.prog 18 #[.slice a n c] w (RetCxI w) := by
  have XR0 := Lib.hid (BoxF.new w (.int .i64 0) (.slice none 0 0) 26)
  obtain ⟨W0, hW0⟩ : ∃ W0, W0 = w.alloc (.cells #[.int .i64 0, .slice none 0 0] 26) := ⟨_, rfl⟩
  rw [← hW0] at XR0
  have hz0 : W0.heap.size = w.heap.size + 1 := by rw [hW0]; simp
  have HB0 : Hid (Below w.heap.size w W0) := Lib.hid (by rw [hW0]; exact (by repeat (first | exact Below.refl _ _ | assumption | refine Below.setCell ?_ (by first | omega | (simp; done) | (simp; omega)) _ | refine Below.alloc ?_ (by first | omega | (simp; done) | (simp; omega)) _ | apply Below.drew)))
  have HY0 : Hid (CodeAt W0 a n) := Lib.hid (hy.keep HB0.out)
  have HW0 := Lib.hid hW0
  clear hy hW0
  go_enter Tryz.func18, Tryz.ntmps18
  go_wp2_with fail
  rw [← HW0.out]
  refine (drawInIdeal_any a n c W0 HY0.out hn).mono ?_
  rintro e w1 ⟨p, ad, k, d, xs, s, rfl, hown, hxl, hb1⟩
  obtain ⟨W1, hW1⟩ : ∃ W1, W1 = w1.alloc (.cells #[.int .i64 p, .slice ad k d] 26) := ⟨_, rfl⟩
  obtain ⟨G, hG⟩ : ∃ G, G = w1.heap.size := ⟨_, rfl⟩
  have hz1 : w.heap.size + 1 ≤ G := by rw [hG, ← hz0]; exact hb1.size
  have XG : Hid (BoxF W1 G (.int .i64 p) (.slice ad k d)) := Lib.hid (by rw [hW1, hG]; exact BoxF.new _ _ _ _)
  have XR : Hid (BoxF W1 w.heap.size (.int .i64 0) (.slice none 0 0)) := Lib.hid (by rw [hW1]; exact (XR0.out.keep hb1 (by omega)).alloc _)
  have HO : Hid (Own 3 W1 W0.heap.size ad k d xs) := Lib.hid (by rw [hW1]; exact Own.alloc hown _)
  have HB : Hid (Below w.heap.size w W1) := Lib.hid (by rw [hW1]; exact (HB0.out.trans (hb1.mono HB0.out.size)).alloc (by have := hb1.size; omega) _)
  have HW1 := Lib.hid hW1; have HG := Lib.hid hG
  clear hb1 hown hW1 hG
  obtain ⟨q0, q1, _, _, _⟩ := XG.out
  obtain ⟨r0, r1, rf0, rf1, _⟩ := XR.out
  have hne : ¬ G = w.heap.size := by omega
  rw [HW1.out] at q0 q1 r0 r1 rf0 rf1
  go_wp2_with fail
  rw [← HG.out, ← HW1.out]
  refine bodyPost_ret (v := .tuple #[.agg #[.int .i64 p, .slice ad k d], .int .i64 s]) (by rw [← HW1.out] at r0 r1; simp [results, Tryz.results18, go_sem, r0, r1]) rfl ⟨p, ad, k, d, xs, s, rfl, ?_, hxl, ?_⟩
  · exact Row.mono (Row.setBelow (Row.setBelow HO.out _ (by omega)) _ (by omega)) (by omega)
  · exact (HB.out.setCell (by simp) _).setCell (by simp) _
end Go.Proofs.YtihfhfihladlcaaGreatDoor

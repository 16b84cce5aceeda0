/- Texts of this claim, one behind the other: what each says stands at its head. -/
import Derived.Test.YtihfhfihladlcaaGreatDoorDrw2
/- Drawn complexes of the reference: l3Size, l3Pure, l3Draw, l3Bent. -/
namespace Go.Proofs.YtihfhfihladlcaaGreatDoor
set_option maxRecDepth 20000
open Go.RowKit
set_option linter.unusedSimpArgs false
set_option linter.unusedVariables false

theorem IntsAt.lit8 (w : World) (x0 x1 x2 x3 x4 x5 x6 x7 : Int) : IntsAt (w.alloc (.cells #[.int .i64 x0, .int .i64 x1, .int .i64 x2, .int .i64 x3, .int .i64 x4, .int .i64 x5, .int .i64 x6, .int .i64 x7] 3)) (some ⟨w.heap.size, 0, none⟩) 8 [x0, x1, x2, x3, x4, x5, x6, x7] := by
  refine ⟨rfl, by omega, fun _ => ⟨_, _, rfl, fun i hi => ?_⟩⟩
  match i, hi with
  | 0, _ | 1, _ | 2, _ | 3, _ | 4, _ | 5, _ | 6, _ | 7, _ => simp [nth]
theorem IntsAt.lit3 (w : World) (x0 x1 x2 : Int) : IntsAt (w.alloc (.cells #[.int .i64 x0, .int .i64 x1, .int .i64 x2] 3)) (some ⟨w.heap.size, 0, none⟩) 3 [x0, x1, x2] := by
  refine ⟨rfl, by omega, fun _ => ⟨_, _, rfl, fun i hi => ?_⟩⟩
  match i, hi with
  | 0, _ | 1, _ | 2, _ => simp [nth]
theorem all_snoc {l : List Nat} {x : Nat} (h : ∀ s ∈ l, s < 64) (hx : x < 64) : ∀ s ∈ l ++ [x], s < 64 := fun s hs => by
  rcases List.mem_append.1 hs with h1 | h1
  · exact h s h1
  · rw [List.mem_singleton.1 h1]; exact hx
theorem Own.chgW {w w' : World} {g T B : Nat} {a : Option Addr} {n c : Nat} {xs : List Int} (h : Own T w B a n c xs) (hg : Chg w w' g none) (hB : g < B) : Own T w' B a n c xs :=
  hg.row h fun k hk => by have := (Row.lt h k hk).1; omega

set_option maxHeartbeats 1000000 in
theorem l3Size_any (g m : Nat) (w : World) (hc : Cur w g) (h1 : 1 ≤ m) (h6 : m ≤ 6) :
    Calls Tryz.prog 131 #[.pointer (some ⟨g, 0, none⟩), .int .i64 m] w (RetD g w (IsCx w.heap.size)) := by
  have hgl := hc.lt
  have XR0 := Lib.hid (BoxF.new w (.int .i64 0) (.slice none 0 0) 32)
  obtain ⟨W0, hW0⟩ : ∃ W0, W0 = w.alloc (.cells #[.int .i64 0, .slice none 0 0] 32) := ⟨_, rfl⟩
  rw [← hW0] at XR0
  have Hz0 : Hid (W0.heap.size = w.heap.size + 1) := Lib.hid (by rw [hW0]; simp)
  have HC0 : Hid (Cur W0 g) := Lib.hid (by rw [hW0]; exact hc.alloc _)
  have HG0 : Hid (Chg w W0 g none) := Lib.hid (by rw [hW0]; exact (Chg.refl _ _ _).alloc _)
  have hw1 := (pow_wrap (m : Int) (by omega) (by omega)).1
  simp only [Int.toNat_natCast] at hw1
  have hpm : 2 ^ m ≤ 64 := pow_le64 h6
  obtain ⟨N, hN⟩ : ∃ N : Nat, N = 2 ^ m := ⟨_, rfl⟩
  have hNi : ((2 : Int) ^ m) = N := by rw [hN]; simp
  have hN64 : N ≤ 64 := by omega
  have hN1 : 1 ≤ N := by rw [hN]; exact Nat.one_le_two_pow
  rw [hNi] at hw1
  have HW0 := Lib.hid hW0
  clear hc hN hW0
  go_enter Tryz.func131, Tryz.ntmps131
  go_wp2_with fail
  rw [← HW0.out]
  obtain ⟨W1, hW1⟩ : ∃ W1, W1 = W0.alloc (.cells #[] 3) := ⟨_, rfl⟩
  have HE := Lib.hid (Own.empty 3 W0 W0.heap.size (Nat.le_refl _))
  rw [← hW1] at HE
  have hz1 : W1.heap.size = w.heap.size + 2 := by rw [hW1]; simp [Hz0.out]
  have HL := Lib.hid (IntsAt.lit8 W1 0 1 2 3 4 4 5 6)
  rw [hz1] at HL
  rw [← hW1]
  obtain ⟨W2, hW2⟩ : ∃ W2, W2 = W1.alloc (.cells #[.int .i64 0, .int .i64 1, .int .i64 2, .int .i64 3, .int .i64 4, .int .i64 4, .int .i64 5, .int .i64 6] 3) := ⟨_, rfl⟩
  rw [← hW2] at HL
  rw [← hW2]
  have HC2 : Hid (Cur W2 g) := Lib.hid (by rw [hW2, hW1]; exact (HC0.out.alloc _).alloc _)
  have HG2 : Hid (Chg w W2 g none) := Lib.hid (by rw [hW2, hW1]; exact (HG0.out.alloc _).alloc _)
  have XR2 : Hid (BoxF W2 w.heap.size (.int .i64 0) (.slice none 0 0)) := Lib.hid (by rw [hW2, hW1]; exact (XR0.out.alloc _).alloc _)
  have HE2 : Hid (Own 3 W2 (w.heap.size + 1) (some ⟨w.heap.size + 1, 0, none⟩) 0 0 []) := Lib.hid (by rw [hW2, ← Hz0.out]; exact HE.out.alloc _)
  have Hz2 : Hid (W2.heap.size = w.heap.size + 3) := Lib.hid (by rw [hW2]; simp [hz1])
  clear hW1 hW2 hz1 HE HG0 HC0 XR0
  refine (l1PickInt_any g _ 8 8 _ W2 HC2.out HL.out (fun b hb => by cases hb; simp only; omega) (by omega) (by omega)).mono ?_
  rintro e w3 ⟨v, rfl, ⟨K9, hK9, rfl⟩, hg3, hc3⟩
  obtain ⟨K, rfl, hK⟩ : ∃ K : Nat, K9 = K ∧ K ≤ 6 := by
    simp only [List.mem_cons, List.not_mem_nil, or_false] at hK9
    exact ⟨K9.toNat, by omega, by omega⟩
  have HG3 := Lib.hid (HG2.out.trans hg3); have HC3 := Lib.hid hc3
  have XR3 := Lib.hid (XR2.out.chg hg3 (by omega))
  have HE3 := Lib.hid (HE2.out.chgW hg3 (by omega))
  have hz3 : w.heap.size + 1 ≤ w3.heap.size := by have := hg3.size; have := Hz2.out; omega
  clear hg3 hc3 hK9
  go_wp2_with fail
  go_loopw [5, 7, 8] (fun o i _ wr => ∃ (k : Nat) (l : List Nat) (ad : Option Addr) (q c : Nat), k ≤ K ∧ i = .int .i64 k ∧ o = .slice ad q c ∧ q ≤ k ∧ (∃ z : Nat, z = 0) ∧ Chg w wr g none ∧ Cur wr g ∧ BoxF wr w.heap.size (.int .i64 0) (.slice none 0 0) ∧ Own 3 wr (w.heap.size + 1) ad q c (up l) ∧ Hid (∀ s ∈ l, s < 64) ∧ w.heap.size + 1 ≤ wr.heap.size) (fun _ i _ _ => K - (intOf i).toNat)
  case atStart => exact ⟨0, [], _, 0, 0, Nat.zero_le _, rfl, rfl, Nat.le_refl _, ⟨_, rfl⟩, HG3.out, HC3.out, XR3.out, HE3.out, Lib.hid (by simp), hz3⟩
  case round =>
    obtain ⟨k, l, ad, q, c, hk, rfl, rfl, hq, _, hgr, hcr, hxr, hown, hl, hzr⟩ := hrel
    have HGr := Lib.hid hgr; have HCr := Lib.hid hcr; have XRr := Lib.hid hxr; have HOr := Lib.hid hown
    clear hgr hcr hxr hown
    by_cases hlt : k < K
    · have hli : (k : Int) < K := by omega
      go_wp2_with fail
      refine (l1Below_any g (N : Int) wr HCr.out (by omega)).mono ?_
      rintro e w4 ⟨v, rfl, ⟨s, hs, _, rfl⟩, hg4, hc4⟩
      have hs64 : s < 64 := by have := hs (by omega); omega
      have HG4 := Lib.hid (HGr.out.trans hg4); have HC4 := Lib.hid hc4
      have XR4 := Lib.hid (XRr.out.chg hg4 (by omega)); have HO4 := Lib.hid (HOr.out.chgW hg4 (by omega))
      have hzr4 : w.heap.size + 1 ≤ w4.heap.size := Nat.le_trans hzr hg4.size
      clear hg4 hc4 hs
      go_wp2_with fail
      refine (l1Once_any g 2 w4 HC4.out (by omega)).mono ?_
      rintro e w5 ⟨v, rfl, ⟨b, rfl⟩, hg5, hc5⟩
      have HG5 := Lib.hid (HG4.out.trans hg5); have HC5 := Lib.hid hc5
      have XR5 := Lib.hid (XR4.out.chg hg5 (by omega)); have HO5 := Lib.hid (HO4.out.chgW hg5 (by omega))
      have hzr5 : w.heap.size + 1 ≤ w5.heap.size := Nat.le_trans hzr4 hg5.size
      clear hg5 hc5
      cases b
      · go_wp2_with (at_builtin; refine ap rfl _ _ rfl (w.heap.size + 1) _ _ _ _ _ rfl HO5.out rfl (by omega) (by omega) ?_; intro ad6 d6 w6 hown6 hb6; have HO6 := Lib.hid hown6; have HB6 := Lib.hid hb6; clear hown6 hb6)
        have hz6 : w.heap.size + 1 ≤ w6.heap.size := Nat.le_trans hzr5 HB6.out.size
        go_roundw
        case rel => exact ⟨k + 1, l ++ [s], ad6, q + 1, d6, by omega, by go_num, rfl, by omega, ⟨_, rfl⟩, (HG5.out.upto (HB6.out.mono (by omega))), HC5.out.keep (HB6.out.mono (by omega)), XR5.out.keep HB6.out (by omega), by rw [up_append]; exact HO6.out, Lib.hid (all_snoc hl.out hs64), hz6⟩
        case measure => simp [intOf]; omega
      · go_wp2_with fail
        refine (l1Below_any g (N : Int) w5 HC5.out (by omega)).mono ?_
        rintro e w7 ⟨v, rfl, ⟨y, hy, _, rfl⟩, hg7, hc7⟩
        have hy64 : y < 64 := by have := hy (by omega); omega
        have HG7 := Lib.hid (HG5.out.trans hg7); have HC7 := Lib.hid hc7
        have XR7 := Lib.hid (XR5.out.chg hg7 (by omega)); have HO7 := Lib.hid (HO5.out.chgW hg7 (by omega))
        have hzr7 : w.heap.size + 1 ≤ w7.heap.size := Nat.le_trans hzr5 hg7.size
        have ha := w_and s y hs64 hy64
        have hsy := and_lt64 (b := y) hs64
        clear hg7 hc7 hy HG5 HC5 XR5 HO5 hzr5
        go_wp2_with (at_builtin; refine ap rfl _ _ rfl (w.heap.size + 1) _ _ _ _ _ rfl HO7.out rfl (by omega) (by omega) ?_; intro ad6 d6 w6 hown6 hb6; have HO6 := Lib.hid hown6; have HB6 := Lib.hid hb6; clear hown6 hb6)
        have hz6 : w.heap.size + 1 ≤ w6.heap.size := Nat.le_trans hzr7 HB6.out.size
        go_roundw
        case rel => exact ⟨k + 1, l ++ [s &&& y], ad6, q + 1, d6, by omega, by go_num, rfl, by omega, ⟨_, rfl⟩, (HG7.out.upto (HB6.out.mono (by omega))), HC7.out.keep (HB6.out.mono (by omega)), XR7.out.keep HB6.out (by omega), by rw [up_append]; exact HO6.out, Lib.hid (all_snoc hl.out hsy), hz6⟩
        case measure => simp [intOf]; omega
    · have hli : ¬ ((k : Int) < K) := by omega
      go_wp2_with fail
      refine (l3Make_any m ad q c l _ HOr.out.reads hl.out).mono ?_
      rintro e w6 ⟨ad6, n6, c6, rfl, hown6, hb6⟩
      have HG6 := Lib.hid (HGr.out.upto (hb6.mono (by omega)))
      have HC6 := Lib.hid (HCr.out.keep (hb6.mono (by omega)))
      obtain ⟨r0, r1, f0, f1, _⟩ := XRr.out.keep hb6 (by omega)
      have HO6 := Lib.hid hown6
      clear hb6 hown6
      go_wp2_with fail
      refine bodyPost_ret (v := .agg #[.int .i64 m, .slice ad6 n6 c6]) (by simp [results, Tryz.results131, go_sem, r0, r1]) rfl ⟨_, rfl, ⟨m, ad6, n6, c6, up (maxL l.contains), rfl, ?_, by rw [up_len]; exact Nat.le_trans (maxL_len _) (by omega), by omega, by omega⟩, ?_, ?_⟩
      · exact Row.mono ((Row.setBelow HO6.out _ (by omega)).setBelow _ (by omega)) (by omega)
      · exact (HG6.out.setNew _ _ (by simp)).setNew _ _ (by simp)
      · exact (HC6.out.setNew _ _ (by simpa using hgl)).setNew _ _ (by simpa using hgl)

theorem lt_of_ne_le {s k : Nat} (h : s < k + 1) (hn : s ≠ k) : s < k := by omega
theorem full_sz : ∀ z, z < 6 → sz (2 ^ (z + 1) - 1) = z + 1 := by decide +kernel
set_option maxHeartbeats 1000000 in
theorem l3Pure_any (g m : Nat) (w : World) (hc : Cur w g) (h1 : 1 ≤ m) (h6 : m ≤ 6) :
    Calls Tryz.prog 199 #[.pointer (some ⟨g, 0, none⟩), .int .i64 m] w (RetD g w (IsCx w.heap.size)) := by
  have hgl := hc.lt
  have XR0 := Lib.hid (BoxF.new w (.int .i64 0) (.slice none 0 0) 32)
  obtain ⟨W0, hW0⟩ : ∃ W0, W0 = w.alloc (.cells #[.int .i64 0, .slice none 0 0] 32) := ⟨_, rfl⟩
  rw [← hW0] at XR0
  have Hz0 : Hid (W0.heap.size = w.heap.size + 1) := Lib.hid (by rw [hW0]; simp)
  have HC0 : Hid (Cur W0 g) := Lib.hid (by rw [hW0]; exact hc.alloc _)
  have HG0 : Hid (Chg w W0 g none) := Lib.hid (by rw [hW0]; exact (Chg.refl _ _ _).alloc _)
  have hw1 := (pow_wrap (m : Int) (by omega) (by omega)).1
  simp only [Int.toNat_natCast] at hw1
  have hpm : 2 ^ m ≤ 64 := pow_le64 h6
  obtain ⟨N, hN⟩ : ∃ N : Nat, N = 2 ^ m := ⟨_, rfl⟩
  have hNi : ((2 : Int) ^ m) = N := by rw [hN]; simp
  have hN64 : N ≤ 64 := by omega
  have HN := Lib.hid hN
  rw [hNi] at hw1
  have HW0 := Lib.hid hW0
  clear hc hN hW0
  go_enter Tryz.func199, Tryz.ntmps199
  go_wp2_with fail
  rw [← HW0.out]
  refine (l1Below_any g (m : Int) W0 HC0.out (by omega)).mono ?_
  rintro e w1 ⟨v, rfl, ⟨z, hz, _, rfl⟩, hg1, hc1⟩
  have hzm : z < m := by have := hz (by omega); omega
  have HG1 := Lib.hid (HG0.out.trans hg1); have HC1 := Lib.hid hc1
  have XR1 := Lib.hid (XR0.out.chg hg1 (by omega))
  have hz1 : w.heap.size + 1 ≤ w1.heap.size := by have := hg1.size; have := Hz0.out; omega
  have HE := Lib.hid (Own.empty 3 w1 (w.heap.size + 1) hz1)
  obtain ⟨W1, hW1⟩ : ∃ W1, W1 = w1.alloc (.cells #[] 3) := ⟨_, rfl⟩
  have HW1 := Lib.hid hW1
  rw [← hW1] at HE
  have XR2 : Hid (BoxF W1 w.heap.size (.int .i64 0) (.slice none 0 0)) := Lib.hid (by rw [hW1]; exact XR1.out.alloc _)
  have HG2 : Hid (Chg w W1 g none) := Lib.hid (by rw [hW1]; exact HG1.out.alloc _)
  have HC2 : Hid (Cur W1 g) := Lib.hid (by rw [hW1]; exact HC1.out.alloc _)
  have hz2 : w.heap.size + 1 ≤ W1.heap.size := by rw [hW1]; simp; omega
  clear hg1 hc1 hz hW1
  go_wp2_with fail
  rw [← HW1.out]
  go_loopw [6, 7] (fun o i wr => ∃ (k : Nat) (l : List Nat) (ad : Option Addr) (q c : Nat), k ≤ N ∧ i = .int .i64 k ∧ o = .slice ad q c ∧ q ≤ k ∧ Chg w wr g none ∧ Cur wr g ∧ BoxF wr w.heap.size (.int .i64 0) (.slice none 0 0) ∧ Own 3 wr (w.heap.size + 1) ad q c (up l) ∧ Hid (∀ s ∈ l, s < 64) ∧ w.heap.size + 1 ≤ wr.heap.size ∧ Hid (∀ s, s < k → sz s = z + 1 → s ∈ l)) (fun _ i _ => N - (intOf i).toNat)
  case atStart => exact ⟨0, [], _, 0, 0, Nat.zero_le _, rfl, rfl, Nat.le_refl _, HG2.out, HC2.out, XR2.out, HE.out, Lib.hid (by simp), hz2, Lib.hid (fun s hs => absurd hs (Nat.not_lt_zero _))⟩
  case round =>
    obtain ⟨k, l, ad, q, c, hk, rfl, rfl, hq, hgr, hcr, hxr, hown, hl, hzr, hmem⟩ := hrel
    have HGr := Lib.hid hgr; have HCr := Lib.hid hcr; have XRr := Lib.hid hxr; have HOr := Lib.hid hown
    clear hgr hcr hxr hown
    by_cases hlt : k < N
    · have hli : (k : Int) < N := by omega
      by_cases hsz : sz k = z + 1
      · have hszi : ((sz k : Int) == 1 + (z : Int)) = true := by simp; omega
        go_wp2_with (first | (go_at_call 138; (with_reducible refine (l2Size_any k _ (by omega)).mono ?_); rintro e w' ⟨rfl, rfl⟩) | (at_builtin; refine ap rfl _ _ rfl (w.heap.size + 1) _ _ _ _ _ rfl HOr.out rfl (by omega) (by omega) ?_; intro ad6 d6 w6 hown6 hb6; have HO6 := Lib.hid hown6; have HB6 := Lib.hid hb6; clear hown6 hb6))
        have hz6 : w.heap.size + 1 ≤ w6.heap.size := Nat.le_trans hzr HB6.out.size
        go_roundw
        case rel => exact ⟨k + 1, l ++ [k], ad6, q + 1, d6, by omega, by go_num, rfl, by omega, (HGr.out.upto (HB6.out.mono (by omega))), HCr.out.keep (HB6.out.mono (by omega)), XRr.out.keep HB6.out (by omega), by rw [up_append]; exact HO6.out, Lib.hid (all_snoc hl.out (by omega)), hz6, Lib.hid (fun s hs he => by
          by_cases h : s < k
          · exact List.mem_append_left _ (hmem.out s h he)
          · exact List.mem_append_right _ (by simp; omega))⟩
        case measure => simp [intOf]; omega
      · have hszi : ((sz k : Int) == 1 + (z : Int)) = false := by simp; omega
        go_wp2_with (go_at_call 138; (with_reducible refine (l2Size_any k _ (by omega)).mono ?_); rintro e w' ⟨rfl, rfl⟩)
        go_roundw
        case rel => exact ⟨k + 1, l, ad, q, c, by omega, by go_num, rfl, by omega, HGr.out, HCr.out, XRr.out, HOr.out, hl, hzr, Lib.hid (fun s hs he => hmem.out s (lt_of_ne_le hs (fun h => hsz (h ▸ he))) he)⟩
        case measure => simp [intOf]; omega
    · obtain rfl : k = N := by omega
      have hli : ¬ ((k : Int) < k) := by omega
      have hl0 : 0 < l.length := List.length_pos_of_mem (hmem.out (2 ^ (z + 1) - 1) (by have := Nat.pow_le_pow_right (n := 2) (by omega) (show z + 1 ≤ m by omega); have := Nat.one_le_two_pow (n := z + 1); rw [HN.out]; omega) (full_sz z (by omega)))
      have hlq : l.length = q := by have := HOr.out.len; rwa [up_len] at this
      have hE := Lib.hid (Own.empty 3 wr wr.heap.size (Nat.le_refl _))
      obtain ⟨W4, hW4⟩ : ∃ W4, W4 = wr.alloc (.cells #[] 3) := ⟨_, rfl⟩
      have HW4 := Lib.hid hW4
      rw [← hW4] at hE
      have XR4 : Hid (BoxF W4 w.heap.size (.int .i64 0) (.slice none 0 0)) := Lib.hid (by rw [hW4]; exact XRr.out.alloc _)
      have HG4 : Hid (Chg w W4 g none) := Lib.hid (by rw [hW4]; exact HGr.out.alloc _)
      have HC4 : Hid (Cur W4 g) := Lib.hid (by rw [hW4]; exact HCr.out.alloc _)
      have HO4 : Hid (Own 3 W4 (w.heap.size + 1) ad q c (up l)) := Lib.hid (by rw [hW4]; exact HOr.out.alloc _)
      have hne4 : Hid (∀ k, (Value.slice ad q c).ownBlock = some k → k < wr.heap.size) := Lib.hid (fun k hk => (HOr.out.lt k hk).2)
      have hz4' : W4.heap.size = wr.heap.size + 1 := by rw [hW4]; simp
      obtain ⟨Z, hZ⟩ : ∃ Z, Z = wr.heap.size := ⟨_, rfl⟩
      have HZ := Lib.hid hZ
      have Hz4 : Hid (W4.heap.size = Z + 1) := Lib.hid (by omega)
      rw [← hZ] at hE hne4
      have hZw : w.heap.size + 1 ≤ Z := by omega
      clear hW4 hz4' HGr HCr XRr HOr hzr hZ
      go_wp2_with fail
      rw [← HW4.out]
      refine (l1Below_any g 7 W4 HC4.out (by omega)).mono ?_
      rintro e w5 ⟨v, rfl, ⟨y, hy, _, rfl⟩, hg5, hc5⟩
      have hy7 : y < 7 := by have := hy (by omega); omega
      have HG5 := Lib.hid (HG4.out.trans hg5); have HC5 := Lib.hid hc5
      have XR5 := Lib.hid (XR4.out.chg hg5 (by omega)); have HO5 := Lib.hid (HO4.out.chgW hg5 (by omega))
      have HE5 := Lib.hid (hE.out.chgW hg5 (by omega))
      have hz5 : Z ≤ w5.heap.size := by have := hg5.size; have := Hz4.out; omega
      clear hg5 hc5 hy
      rw [← HZ.out]
      obtain ⟨Y, hY⟩ : ∃ Y : Nat, Y = 1 + y := ⟨_, rfl⟩
      have hYi : (1 : Int) + y = Y := by omega
      have hY7 : Y ≤ 7 := by omega
      clear hY
      go_wp2_with fail
      go_loopw [8, 10] (fun o i wr => ∃ (k : Nat) (l' : List Nat) (ad' : Option Addr) (q' c' : Nat), k ≤ Y ∧ i = .int .i64 k ∧ o = .slice ad' q' c' ∧ q' ≤ k ∧ Chg w wr g none ∧ Cur wr g ∧ BoxF wr w.heap.size (.int .i64 0) (.slice none 0 0) ∧ Own 3 wr (w.heap.size + 1) ad q c (up l) ∧ Own 3 wr Z ad' q' c' (up l') ∧ Hid (∀ s ∈ l', s < 64) ∧ Z ≤ wr.heap.size) (fun _ i _ => Y - (intOf i).toNat)
      case atStart => exact ⟨0, [], _, 0, 0, Nat.zero_le _, rfl, rfl, Nat.le_refl _, HG5.out, HC5.out, XR5.out, HO5.out, HE5.out, Lib.hid (by simp), hz5⟩
      case round =>
        obtain ⟨j, l', ad', q', c', hj, rfl, rfl, hq', hgr, hcr, hxr, hown, hown', hl', hzr⟩ := hrel
        have HGr := Lib.hid hgr; have HCr := Lib.hid hcr; have XRr := Lib.hid hxr; have HOr := Lib.hid hown; have HPr := Lib.hid hown'
        clear hgr hcr hxr hown hown'
        by_cases hlj : j < Y
        · have hji : (j : Int) < Y := by omega
          go_wp2_with fail
          refine (l1Below_any g (q : Int) _ HCr.out (by omega)).mono ?_
          rintro e w7 ⟨v, rfl, ⟨x, hx, _, rfl⟩, hg7, hc7⟩
          have hxq : x < q := by have := hx (by omega); omega
          have HG7 := Lib.hid (HGr.out.trans hg7); have HC7 := Lib.hid hc7
          have XR7 := Lib.hid (XRr.out.chg hg7 (by omega)); have HO7 := Lib.hid (HOr.out.chgW hg7 (by omega)); have HP7 := Lib.hid (HPr.out.chgW hg7 (by omega))
          have hz7 : Z ≤ w7.heap.size := Nat.le_trans hzr hg7.size
          obtain ⟨b, off, rfl, hcell⟩ := HO7.out.reads.cells (by omega)
          have hcx := hcell x hxq
          rw [nth_up] at hcx
          have hxi : (x : Int) < q := by omega
          have hxl : nthN l x < 64 := hl.out _ (nthN_mem (by omega))
          clear hg7 hc7 hx hcell
          go_wp2_with (at_builtin; refine ap rfl _ _ rfl Z _ _ _ _ _ rfl HP7.out rfl (by omega) (by omega) ?_; intro ad8 d8 w8 hown8 hb8; have HO8 := Lib.hid hown8; have HB8 := Lib.hid hb8; clear hown8 hb8)
          go_roundw
          case rel => exact ⟨j + 1, l' ++ [nthN l x], ad8, q' + 1, d8, by omega, by go_num, rfl, by omega, (HG7.out.upto (HB8.out.mono (by omega))), HC7.out.keep (HB8.out.mono (by omega)), XR7.out.keep HB8.out (by omega), HO7.out.other fun k hk _ => HB8.out.block k (hne4.out k (by rw [hk]; rfl)), by rw [up_append]; exact HO8.out, Lib.hid (all_snoc hl'.out hxl), Nat.le_trans hz7 HB8.out.size⟩
          case measure => simp [intOf]; omega
        · have hji : ¬ ((j : Int) < Y) := by omega
          go_wp2_with fail
          refine (l3Make_any m ad' q' c' l' _ HPr.out.reads hl'.out).mono ?_
          rintro e w6 ⟨ad6, n6, c6, rfl, hown6, hb6⟩
          have HG6 := Lib.hid (HGr.out.upto (hb6.mono (by omega)))
          have HC6 := Lib.hid (HCr.out.keep (hb6.mono (by omega)))
          obtain ⟨r0, r1, f0, f1, _⟩ := XRr.out.keep hb6 (by omega)
          have HO6 := Lib.hid hown6
          clear hb6 hown6
          go_wp2_with fail
          refine bodyPost_ret (v := .agg #[.int .i64 m, .slice ad6 n6 c6]) (by simp [results, Tryz.results199, go_sem, r0, r1]) rfl ⟨_, rfl, ⟨m, ad6, n6, c6, up (maxL l'.contains), rfl, ?_, by rw [up_len]; exact Nat.le_trans (maxL_len _) (by omega), by omega, by omega⟩, ?_, ?_⟩
          · exact Row.mono ((Row.setBelow HO6.out _ (by omega)).setBelow _ (by omega)) (by omega)
          · exact (HG6.out.setNew _ _ (by simp)).setNew _ _ (by simp)
          · exact (HC6.out.setNew _ _ (by simpa using hgl)).setNew _ _ (by simpa using hgl)
end Go.Proofs.YtihfhfihladlcaaGreatDoor

/- Drawn complexes of the reference: l3Draw, l3Bent. -/
namespace Go.Proofs.YtihfhfihladlcaaGreatDoor
set_option maxRecDepth 20000
open Go.RowKit
set_option linter.unusedSimpArgs false
set_option linter.unusedVariables false

theorem Row.litStr (w : World) (B : Nat) (hB : B ≤ w.heap.size) (s0 s1 s2 s3 s4 s5 s6 s7 : ByteArray) :
    Row 9 (w.alloc (.cells #[.string s0, .string s1, .string s2, .string s3, .string s4, .string s5, .string s6, .string s7] 9)) B (some ⟨w.heap.size, 0, none⟩) 8 8 ([s0, s1, s2, s3, s4, s5, s6, s7].map Value.string) :=
  ⟨rfl, World.ownsRow_lit w #[.string s0, .string s1, .string s2, .string s3, .string s4, .string s5, .string s6, .string s7] 8 hB (by decide) (by simp)⟩

theorem pcV_any (t : ByteArray) (w : World) (ht : t.size ≤ 1000) : Calls Tryz.prog 191 #[.string t] w (RetCxV w) := by
  by_cases h2 : (spl 58 [] (byt t)).length = 2
  · obtain ⟨A, C, hAC⟩ : ∃ A C, spl 58 [] (byt t) = [A, C] := by
      match spl 58 [] (byt t), h2 with
      | [a, b], _ => exact ⟨a, b, rfl⟩
    exact pc_two t A C w ht hAC
  · exact pc_parts t w ht h2
theorem pc_any (t : ByteArray) (w : World) (ht : t.size ≤ 1000) : Calls Tryz.prog 191 #[.string t] w (RetCxB w) := (pcV_any t w ht).mono fun _ _ h => h.weak
set_option maxHeartbeats 1000000 in
theorem l3Draw_any (g : Nat) (w : World) (hc : Cur w g) :
    Calls Tryz.prog 166 #[.pointer (some ⟨g, 0, none⟩)] w (RetD g w (IsCx w.heap.size)) := by
  have hgl := hc.lt
  have XR0 := Lib.hid (BoxF.new w (.int .i64 0) (.slice none 0 0) 32)
  obtain ⟨W0, hW0⟩ : ∃ W0, W0 = w.alloc (.cells #[.int .i64 0, .slice none 0 0] 32) := ⟨_, rfl⟩
  rw [← hW0] at XR0
  have Hz0 : Hid (W0.heap.size = w.heap.size + 1) := Lib.hid (by rw [hW0]; simp)
  have HL := Lib.hid (IntsAt.lit8 W0 1 2 3 4 4 5 5 6)
  obtain ⟨W2, hW2⟩ : ∃ W2, W2 = W0.alloc (.cells #[.int .i64 1, .int .i64 2, .int .i64 3, .int .i64 4, .int .i64 4, .int .i64 5, .int .i64 5, .int .i64 6] 3) := ⟨_, rfl⟩
  rw [← hW2] at HL
  have HC2 : Hid (Cur W2 g) := Lib.hid (by rw [hW2, hW0]; exact (hc.alloc _).alloc _)
  have HG2 : Hid (Chg w W2 g none) := Lib.hid (by rw [hW2, hW0]; exact ((Chg.refl _ _ _).alloc _).alloc _)
  have XR2 : Hid (BoxF W2 w.heap.size (.int .i64 0) (.slice none 0 0)) := Lib.hid (by rw [hW2]; exact (XR0.out.alloc _))
  have Hz2 : Hid (W2.heap.size = w.heap.size + 2) := Lib.hid (by rw [hW2]; simp [Hz0.out])
  have HW0 := Lib.hid hW0; have HW2 := Lib.hid hW2
  rw [Hz0.out] at HL
  clear hc hW0 hW2
  go_enter Tryz.func166, Tryz.ntmps166
  go_wp2_with fail
  rw [← HW0.out, ← HW2.out]
  refine (l1PickInt_any g _ 8 8 _ W2 HC2.out HL.out (fun b hb => by cases hb; simp only; omega) (by omega) (by omega)).mono ?_
  rintro e w3 ⟨v, rfl, ⟨K9, hK9, rfl⟩, hg3, hc3⟩
  obtain ⟨m, rfl, h1, h6⟩ : ∃ K : Nat, K9 = K ∧ 1 ≤ K ∧ K ≤ 6 := by
    simp only [List.mem_cons, List.not_mem_nil, or_false] at hK9
    exact ⟨K9.toNat, by omega, by omega, by omega⟩
  have HG3 := Lib.hid (HG2.out.trans hg3); have HC3 := Lib.hid hc3
  have XR3 := Lib.hid (XR2.out.chg hg3 (by omega))
  have hz3 : w.heap.size + 1 ≤ w3.heap.size := by have := hg3.size; have := Hz2.out; omega
  clear hg3 hc3 hK9
  go_wp2_with fail
  refine (l1Below_any g 8 w3 HC3.out (by omega)).mono ?_
  rintro e w4 ⟨v, rfl, ⟨y, hy, _, rfl⟩, hg4, hc4⟩
  have hy8 : y < 8 := by have := hy (by omega); omega
  have HG4 := Lib.hid (HG3.out.trans hg4); have HC4 := Lib.hid hc4
  have XR4 := Lib.hid (XR3.out.chg hg4 (by omega))
  have hz4 : w.heap.size + 1 ≤ w4.heap.size := Nat.le_trans hz3 hg4.size
  clear hg4 hc4 hy HC3 HG3 XR3
  by_cases y0 : y = 0
  · subst y0
    go_wp2_with fail
    refine (border_any m w4).mono ?_
    rintro e w5 ⟨p, ad, n, c, xs, b, rfl, hown, hxl, hb5⟩
    have HG5 := Lib.hid (HG4.out.upto (hb5.mono (by omega))); have HC5 := Lib.hid (HC4.out.keep (hb5.mono (by have := HC4.out.lt; omega)))
    have XR5 := Lib.hid (XR4.out.keep hb5 (by omega)); have HO5 := Lib.hid hown
    have hz5 : w.heap.size + 1 ≤ w5.heap.size := Nat.le_trans hz4 hb5.size
    have XB5 := Lib.hid (BoxF.new w5 (.int .i64 p) (.slice ad n c) 32)
    have XR6 := Lib.hid (XR5.out.alloc (.cells #[.int .i64 p, .slice ad n c] 32))
    obtain ⟨b0, b1, _, _, _⟩ := XB5.out
    obtain ⟨r0, r1, f0, f1, _⟩ := XR6.out
    clear hb5 hown
    go_wp2_with fail
    refine bodyPost_ret (v := .agg #[.int .i64 p, .slice ad n c]) (by simp [results, Tryz.results166, go_sem, r0, r1]) rfl ⟨_, rfl, ⟨p, ad, n, c, xs, rfl, ?_, hxl⟩, ?_, ?_⟩
    · exact Row.mono (Row.setBelow (Row.setBelow (Row.alloc HO5.out _) _ (by omega)) _ (by omega)) (by omega)
    · exact ((HG5.out.alloc _).setNew _ _ (by simp)).setNew _ _ (by simp)
    · exact ((HC5.out.alloc _).setNew _ _ (by simpa using hgl)).setNew _ _ (by simpa using hgl)
  · have y0i : ((y : Int) == 0) = false := by simp; omega
    by_cases y1 : y = 1
    · subst y1
      have HS := Lib.hid (Row.litStr w4 w4.heap.size (Nat.le_refl _))
      obtain ⟨W5, hW5⟩ : ∃ W5 : World, W5 = w4 := ⟨_, rfl⟩
      clear hW5 W5
      go_wp2_with fail
      refine (l1Pick_any g w4.heap.size _ 8 8 _ _ (HC4.out.alloc _) (HS.out _ _ _ _ _ _ _ _) (by have := HC4.out.lt; omega) (by omega) (by omega)).mono ?_
      rintro e w6 ⟨v, rfl, ⟨t, ht, rfl⟩, hg6, hc6⟩
      have hts : t.size ≤ 1000 := by
        simp only [List.mem_cons, List.not_mem_nil, or_false] at ht
        rcases ht with rfl | rfl | rfl | rfl | rfl | rfl | rfl | rfl <;> decide
      have HG6 := Lib.hid ((HG4.out.alloc _).trans hg6); have HC6 := Lib.hid hc6
      have XR6 := Lib.hid ((XR4.out.alloc _).chg hg6 (by omega))
      have hz6 : w.heap.size + 1 ≤ w6.heap.size := Nat.le_trans hz4 (Nat.le_trans (by simp) hg6.size)
      clear hg6 hc6 ht HS
      go_wp2_with fail
      refine (pc_any t w6 hts).mono ?_
      rintro e w5 ⟨p, ad, n, c, xs, b, rfl, hown, hxl, hb5⟩
      have HG5 := Lib.hid (HG6.out.upto (hb5.mono (by omega))); have HC5 := Lib.hid (HC6.out.keep (hb5.mono (by have := HC6.out.lt; omega)))
      have XR5 := Lib.hid (XR6.out.keep hb5 (by omega)); have HO5 := Lib.hid hown
      have hz5 : w.heap.size + 1 ≤ w5.heap.size := Nat.le_trans hz6 hb5.size
      have XB5 := Lib.hid (BoxF.new w5 (.int .i64 p) (.slice ad n c) 32)
      have XR6 := Lib.hid (XR5.out.alloc (.cells #[.int .i64 p, .slice ad n c] 32))
      obtain ⟨b0, b1, _, _, _⟩ := XB5.out
      obtain ⟨r0, r1, f0, f1, _⟩ := XR6.out
      clear hb5 hown
      go_wp2_with fail
      refine bodyPost_ret (v := .agg #[.int .i64 p, .slice ad n c]) (by simp [results, Tryz.results166, go_sem, r0, r1]) rfl ⟨_, rfl, ⟨p, ad, n, c, xs, rfl, ?_, hxl⟩, ?_, ?_⟩
      · exact Row.mono (Row.setBelow (Row.setBelow (Row.alloc HO5.out _) _ (by omega)) _ (by omega)) (by omega)
      · exact ((HG5.out.alloc _).setNew _ _ (by simp)).setNew _ _ (by simp)
      · exact ((HC5.out.alloc _).setNew _ _ (by simpa using hgl)).setNew _ _ (by simpa using hgl)
    · have y1i : ((y : Int) == 1) = false := by simp; omega
      by_cases y2 : y = 2
      · subst y2
        go_wp2_with fail
        refine (l3Pure_any g m w4 HC4.out h1 h6).mono ?_
        rintro e w5 ⟨v, rfl, ⟨p, ad, n, c, xs, rfl, hown, hxl⟩, hg5, hc5⟩
        have HG5 := Lib.hid (HG4.out.trans hg5); have HC5 := Lib.hid hc5
        obtain ⟨r0, r1, f0, f1, _⟩ := XR4.out.chg hg5 (by omega)
        have HO5 := Lib.hid hown
        clear hg5 hc5 hown
        go_wp2_with fail
        refine bodyPost_ret (v := .agg #[.int .i64 p, .slice ad n c]) (by simp [results, Tryz.results166, go_sem, r0, r1]) rfl ⟨_, rfl, ⟨p, ad, n, c, xs, rfl, ?_, hxl⟩, ?_, ?_⟩
        · exact Row.mono (Row.setBelow (Row.setBelow HO5.out _ (by omega)) _ (by omega)) (by omega)
        · exact (HG5.out.setNew _ _ (by simp)).setNew _ _ (by simp)
        · exact (HC5.out.setNew _ _ (by simpa using hgl)).setNew _ _ (by simpa using hgl)
      · have y2i : ((y : Int) == 2) = false := by simp; omega
        by_cases y3 : y = 3
        · subst y3
          go_wp2_with fail
          refine (l3Pure_any g m w4 HC4.out h1 h6).mono ?_
          rintro e w5 ⟨v, rfl, ⟨p, ad, n, c, xs, rfl, hown, hxl⟩, hg5, hc5⟩
          have HG5 := Lib.hid (HG4.out.trans hg5); have HC5 := Lib.hid hc5
          obtain ⟨r0, r1, f0, f1, _⟩ := XR4.out.chg hg5 (by omega)
          have HO5 := Lib.hid hown
          clear hg5 hc5 hown
          go_wp2_with fail
          refine bodyPost_ret (v := .agg #[.int .i64 p, .slice ad n c]) (by simp [results, Tryz.results166, go_sem, r0, r1]) rfl ⟨_, rfl, ⟨p, ad, n, c, xs, rfl, ?_, hxl⟩, ?_, ?_⟩
          · exact Row.mono (Row.setBelow (Row.setBelow HO5.out _ (by omega)) _ (by omega)) (by omega)
          · exact (HG5.out.setNew _ _ (by simp)).setNew _ _ (by simp)
          · exact (HC5.out.setNew _ _ (by simpa using hgl)).setNew _ _ (by simpa using hgl)
        · have y3i : ((y : Int) == 3) = false := by simp; omega
          go_wp2_with fail
          refine (l3Size_any g m w4 HC4.out h1 h6).mono ?_
          rintro e w5 ⟨v, rfl, ⟨p, ad, n, c, xs, rfl, hown, hxl⟩, hg5, hc5⟩
          have HG5 := Lib.hid (HG4.out.trans hg5); have HC5 := Lib.hid hc5
          obtain ⟨r0, r1, f0, f1, _⟩ := XR4.out.chg hg5 (by omega)
          have HO5 := Lib.hid hown
          clear hg5 hc5 hown
          go_wp2_with fail
          refine bodyPost_ret (v := .agg #[.int .i64 p, .slice ad n c]) (by simp [results, Tryz.results166, go_sem, r0, r1]) rfl ⟨_, rfl, ⟨p, ad, n, c, xs, rfl, ?_, hxl⟩, ?_, ?_⟩
          · exact Row.mono (Row.setBelow (Row.setBelow HO5.out _ (by omega)) _ (by omega)) (by omega)
          · exact (HG5.out.setNew _ _ (by simp)).setNew _ _ (by simp)
          · exact (HC5.out.setNew _ _ (by simpa using hgl)).setNew _ _ (by simpa using hgl)
end Go.Proofs.YtihfhfihladlcaaGreatDoor

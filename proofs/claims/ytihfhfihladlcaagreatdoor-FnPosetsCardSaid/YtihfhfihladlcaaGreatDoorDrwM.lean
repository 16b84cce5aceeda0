/- Texts of this claim, one behind the other: what each says stands at its head. -/
import Derived.Deep.RegionHeld3
import Derived.Test.YtihfhfihladlcaaGreatDoorCore
import Derived.Test.YtihfhfihladlcaaGreatDoorDrw5
import Derived.Test.YtihfhfihladlcaaGreatDoorDrw7
import Derived.Test.YtihfhfihladlcaaGreatDoorDrw9
import Derived.Test.YtihfhfihladlcaaGreatDoorShuf
/- DrawEdgeComplex of the reference. -/
namespace Go.Proofs.YtihfhfihladlcaaGreatDoor
set_option maxRecDepth 20000
open Go.RowKit
set_option linter.unusedSimpArgs false
set_option linter.unusedVariables false

def RetCxM (w : World) (e : Ending) (w' : World) : Prop :=
  ∃ p ad n c xs, e = .returned (.agg #[.int .i64 p, .slice ad n c]) ∧ Own 3 w' w.heap.size ad n c xs ∧ (xs.length ≤ 1101 ∧ 0 ≤ p ∧ p ≤ 7) ∧ Below w.heap.size w w'
theorem drawEdgeComplex_any (a : Option Addr) (n c : Nat) (w : World) (hy : CodeAt w a n) (hn : n ≤ 1048576) :
    Calls Tryz.prog 65 #[.slice a n c] w (RetCxM w) := by
  have XR0 := Lib.hid (BoxF.new w (.int .i64 0) (.slice none 0 0) 32)
  obtain ⟨W0, hW0⟩ : ∃ W0, W0 = w.alloc (.cells #[.int .i64 0, .slice none 0 0] 32) := ⟨_, rfl⟩
  rw [← hW0] at XR0
  have Hz0 : Hid (W0.heap.size = w.heap.size + 1) := Lib.hid (by rw [hW0]; simp)
  have HB0 : Hid (Below w.heap.size w W0) := Lib.hid (by rw [hW0]; exact (by repeat (first | exact Below.refl _ _ | assumption | refine Below.setCell ?_ (by first | omega | (simp; done) | (simp; omega)) _ | refine Below.alloc ?_ (by first | omega | (simp; done) | (simp; omega)) _ | apply Below.drew)))
  have HY0 : Hid (CodeAt W0 a n) := Lib.hid (hy.keep HB0.out)
  have HW0 := Lib.hid hW0
  clear hy hW0
  go_enter Tryz.func65, Tryz.ntmps65
  go_wp2_with fail
  rw [← HW0.out]
  refine (l1New_any a n c W0 HY0.out hn).mono ?_
  rintro e w1 ⟨rfl, hb1, hc1⟩
  have hz1 : w.heap.size + 1 ≤ w1.heap.size := by have := hb1.size; have := Hz0.out; omega
  have XR1 := Lib.hid (XR0.out.keep hb1 (by have := Hz0.out; omega))
  have HB1 : Hid (Below w.heap.size w w1) := Lib.hid (HB0.out.trans (hb1.mono (by have := Hz0.out; omega)))
  obtain ⟨g, hg⟩ : ∃ g, g = W0.heap.size := ⟨_, rfl⟩
  rw [← hg] at hc1
  rw [← hg]
  have hgw : w.heap.size < g := by have := Hz0.out; omega
  have HC1 := Lib.hid hc1
  clear hb1 hc1 hg
  go_wp2_with fail
  refine (l23Draw_any g w1 HC1.out).mono ?_
  rintro e w2 ⟨v, rfl, ⟨p, ad, k, d, xs, rfl, hown, hxl, hp0, hp7⟩, hg2, hc2⟩
  have hb2 : Below w.heap.size w1 w2 := hg2.belowNew (by omega) (by omega)
  have HB2 := Lib.hid (HB1.out.trans hb2)
  have XR2 := Lib.hid (XR1.out.chg hg2 (by omega))
  have HO2 := Lib.hid hown
  clear hg2 hc2 hown hb2
  obtain ⟨r0, r1, rf0, rf1, _⟩ := XR2.out
  go_wp2_with fail
  refine bodyPost_ret (v := .agg #[.int .i64 p, .slice ad k d]) (by simp [results, Tryz.results65, go_sem, r0, r1]) rfl ⟨p, ad, k, d, xs, rfl, ?_, ⟨hxl, hp0, hp7⟩, ?_⟩
  · exact Row.mono (Row.setBelow (Row.setBelow HO2.out _ (by omega)) _ (by omega)) (by omega)
  · exact (HB2.out.setCell (by simp) _).setCell (by simp) _
end Go.Proofs.YtihfhfihladlcaaGreatDoor

/- The reference's drawings of orders: l26Draw, l26Bent, DrawOrderComplex. -/
namespace Go.Proofs.YtihfhfihladlcaaGreatDoor
set_option maxRecDepth 20000
open Go.RowKit
set_option linter.unusedSimpArgs false
set_option linter.unusedVariables false

/-- an order as drawn: as many sets as points -/
def IsPos (B : Nat) (v : Value) (w' : World) : Prop := ∃ (m : Nat) (ad : Option Addr) (n c : Nat) (xs : List Int) (p : Int), v = .agg #[.int .i64 p, .slice ad n c] ∧ Own 3 w' B ad n c xs ∧ xs.length ≤ 6 ∧ 0 ≤ p ∧ p ≤ 7
def IsPos1 (B : Nat) (v : Value) (w' : World) : Prop := ∃ (m : Nat) (b c : Nat) (xs : List Int), v = .agg #[.int .i64 m, .slice (some ⟨b, 0, none⟩) m c] ∧ Own 3 w' B (some ⟨b, 0, none⟩) m c xs ∧ 1 ≤ m ∧ m ≤ 6
set_option maxHeartbeats 4000000 in
theorem l26Draw_any (g : Nat) (w : World) (hc : Cur w g) :
    Calls Tryz.prog 123 #[.pointer (some ⟨g, 0, none⟩)] w (RetD g w (IsPos1 w.heap.size)) := by
  have hgl := hc.lt
  have XR0 := Lib.hid (BoxF.new w (.int .i64 0) (.slice none 0 0) 59)
  obtain ⟨W0, hW0⟩ : ∃ W0, W0 = w.alloc (.cells #[.int .i64 0, .slice none 0 0] 59) := ⟨_, rfl⟩
  rw [← hW0] at XR0
  have hz0 : W0.heap.size = w.heap.size + 1 := by rw [hW0]; simp
  have HC0 : Hid (Cur W0 g) := Lib.hid (by rw [hW0]; exact (hc.alloc _))
  have HG0 : Hid (Chg w W0 g none) := Lib.hid (by rw [hW0]; exact ((Chg.refl _ _ _).alloc _))
  have HW0 := Lib.hid hW0
  clear hc hW0
  go_enter Tryz.func123, Tryz.ntmps123
  go_wp2_with fail
  rw [← HW0.out]
  refine (l1Below_any g 6 W0 HC0.out (by omega)).mono ?_
  rintro e w1 ⟨v, rfl, ⟨K, hK, _, rfl⟩, hg1, hc1⟩
  have hK6 : K < 6 := by have := hK (by omega); omega
  obtain ⟨m, hm⟩ : ∃ m, m = K + 1 := ⟨_, rfl⟩
  have hm1 : 1 ≤ m := by omega
  have hm6 : m ≤ 6 := by omega
  have hmi : (1 : Int) + K = m := by omega
  have XR1 := Lib.hid (XR0.out.chg hg1 (by omega))
  have HG1 := Lib.hid (HG0.out.trans hg1)
  have hz1 : w.heap.size + 1 ≤ w1.heap.size := by have := hg1.size; omega
  obtain ⟨P, hP⟩ : ∃ P, P = w1.heap.size := ⟨_, rfl⟩
  obtain ⟨W2, hW2⟩ : ∃ W2, W2 = w1.alloc (.cells #[.int .i64 m, .slice none 0 0] 59) := ⟨_, rfl⟩
  have XP2 : Hid (BoxF W2 P (.int .i64 m) (.slice none 0 0)) := Lib.hid (by rw [hW2, hP]; exact BoxF.new _ _ _ _)
  have XR2 : Hid (BoxF W2 w.heap.size (.int .i64 0) (.slice none 0 0)) := Lib.hid (by rw [hW2]; exact XR1.out.alloc _)
  have HC2 : Hid (Cur W2 g) := Lib.hid (by rw [hW2]; exact hc1.alloc _)
  have HG2 : Hid (Chg w W2 g none) := Lib.hid (by rw [hW2]; exact HG1.out.alloc _)
  have hz2 : W2.heap.size = P + 1 := by rw [hW2, hP]; simp
  have hRP : w.heap.size < P := by omega
  have HPe := Lib.hid hP; have HW2 := Lib.hid hW2
  clear hg1 hc1 hK hP hW2 hm
  go_wp2_with fail
  rw [← HPe.out, ← HW2.out]
  refine (l9Shuffle_any g m W2 HC2.out (by omega)).mono ?_
  rintro e w3 ⟨v, rfl, ⟨aN, cN, N, rfl, hownN, hnd, hlt⟩, hg3, hc3⟩
  have HG3 := Lib.hid (HG2.out.trans hg3); have HC3 := Lib.hid hc3
  have XP3 := Lib.hid (XP2.out.chg hg3 (by omega)); have XR3 := Lib.hid (XR2.out.chg hg3 (by omega))
  have HN3 := Lib.hid hownN; have HLt := Lib.hid hlt
  have hz3 : W2.heap.size ≤ w3.heap.size := hg3.size
  clear hg3 hc3 hownN hnd hlt
  go_wp2_with (at_make; refine mk_ints rfl _ _ rfl _ rfl rfl m rfl (by omega) ?_; intro gb w4 hown4 hb4; have HO4 := Lib.hid hown4; have HN4 := Lib.hid (HN3.out.keep hb4); have HG4 := Lib.hid (HG3.out.upto (hb4.mono (by omega))); have HC4 := Lib.hid (HC3.out.keep (hb4.mono (by have := HC3.out.lt; omega))); have XP4 := Lib.hid (XP3.out.keep hb4 (by omega)); have XR4 := Lib.hid (XR3.out.keep hb4 (by omega)); have hz4 : w3.heap.size ≤ w4.heap.size := hb4.size; clear hown4 hb4)
  have hgb : w3.heap.size ≤ gb := (HO4.out.lt gb rfl).1
  have HNl : Hid (N.length = m) := Lib.hid (by have := HN4.out.len; rwa [up_len] at this)
  have hgP : g < P := by omega
  go_loopw [7, 8, 9] (fun i _ _ wr => ∃ (I : Nat) (xs : List Int), I ≤ m ∧ i = .int .i64 I ∧ Own 3 wr w3.heap.size (some ⟨gb, 0, none⟩) m m xs ∧ Own 3 wr W2.heap.size aN m cN (up N) ∧ Chg w wr g none ∧ Cur wr g ∧ BoxF wr P (.int .i64 m) (.slice none 0 0) ∧ BoxF wr w.heap.size (.int .i64 0) (.slice none 0 0) ∧ w3.heap.size ≤ wr.heap.size) (fun i _ _ _ => m - (intOf i).toNat)
  case atStart => exact ⟨0, _, Nat.zero_le _, rfl, HO4.out, HN4.out, HG4.out, HC4.out, XP4.out, XR4.out, hz4⟩
  case round =>
    clear HO4 HN4 HG4 HC4 XP4 XR4
    obtain ⟨wo, rfl⟩ : ∃ x : World, x = wr := ⟨_, rfl⟩
    obtain ⟨I, xs, hI, rfl, hown, hownN, hchg, hcur, hxp, hxr, hsz⟩ := hrel
    have HO := Lib.hid hown; have HN := Lib.hid hownN; have HG := Lib.hid hchg; have HC := Lib.hid hcur; have XP := Lib.hid hxp; have XR := Lib.hid hxr
    clear hown hownN hchg hcur hxp hxr
    by_cases hIm : I < m
    · have hIi : (I : Int) < m := by omega
      go_wp2_with fail
      go_loopw [8, 9] (fun s k wr => ∃ (k0 : Nat) (z : Int), k0 ≤ I ∧ k = .int .i64 k0 ∧ s = .int .i64 z ∧ Chg wo wr g none ∧ Cur wr g) (fun _ k _ => I - (intOf k).toNat)
      case atStart => exact ⟨0, 0, Nat.zero_le _, rfl, rfl, Chg.refl _ _ _, HC.out⟩
      case round =>
        obtain ⟨wi, rfl⟩ : ∃ x : World, x = wr := ⟨_, rfl⟩
        obtain ⟨k0, z, hk, rfl, rfl, hgi, hci⟩ := hrel
        have HGi := Lib.hid hgi; have HCi := Lib.hid hci
        clear hgi hci
        by_cases hkI : k0 < I
        · have hki : (k0 : Int) < I := by omega
          go_wp2_with fail
          refine (l1Once_any g 3 wi HCi.out (by omega)).mono ?_
          rintro e w5 ⟨v, rfl, ⟨b, rfl⟩, hg5, hc5⟩
          have HG5 := Lib.hid (HGi.out.trans hg5); have HC5 := Lib.hid hc5
          clear hg5 hc5
          cases b
          · go_wp2_with fail
            go_roundw
            case rel => exact ⟨k0 + 1, z, by omega, by go_num, rfl, HG5.out, HC5.out⟩
            case measure => simp [intOf]; omega
          · have HN5 := Lib.hid (Own.chgW HN.out HG5.out (by omega))
            have HO5 := Lib.hid (Own.chgW HO.out HG5.out (by omega))
            obtain ⟨gN, rfl, _, _, hcN, _⟩ := Row.cells HN5.out (by omega)
            obtain ⟨gO, hgO, _, _, hcO, _⟩ := Row.cells HO5.out (by omega)
            simp only [Option.some.injEq, Addr.mk.injEq, and_true] at hgO
            subst hgO
            obtain ⟨x, hx⟩ : ∃ x, x = nthN N k0 := ⟨_, rfl⟩
            have hxm : x < m := by rw [hx]; exact HLt.out _ (nthN_mem (by rw [HNl.out]; omega))
            have hck : w5.cell? ⟨gN, k0, none⟩ = some (.int .i64 (x : Int)) := by
              rw [hcN k0 (by omega), List.getElem?_map, hx]
              rw [List.getElem?_eq_getElem (by rw [up_len, HNl.out]; omega)]
              simp only [Option.map_some]
              rw [← nth_eq (by rw [up_len, HNl.out]; omega), nth_up]
            obtain ⟨y, hy⟩ : ∃ y, y = nth xs x := ⟨_, rfl⟩
            have hxl : xs.length = m := HO5.out.len
            have hcx : w5.cell? ⟨gb, x, none⟩ = some (.int .i64 y) := by
              rw [hcO x hxm, List.getElem?_map, List.getElem?_eq_getElem (by omega), hy]
              simp only [Option.map_some]
              rw [nth_eq (by omega)]
            have hk0 : (0 : Int) ≤ k0 := by omega
            have hkm : (k0 : Int) < m := by omega
            have hx0 : (0 : Int) ≤ x := by omega
            have hxmi : (x : Int) < m := by omega
            have hvx : IntKind.u64.wrap (x : Int) = (x : Int) := by rw [IntKind.wrap_u64]; omega
            have hmx : min x 64 = x := by omega
            clear hcN hcO hx hy HN5 HO5
            go_wp2_with fail
            go_quiet (fail)
            go_wp2_with fail
            go_roundw
            case rel => exact ⟨k0 + 1, _, by omega, by go_num, rfl, HG5.out.upto (below_drewN (Below.refl _ _) _), HC5.out.keep (below_drewN (Below.refl _ _) _)⟩
            case measure => simp [intOf]; omega
        · obtain rfl : k0 = I := by omega
          have hII : ¬ ((k0 : Int) < k0) := by omega
          have HNi := Lib.hid (Own.chgW HN.out HGi.out (by omega))
          have HOi := Lib.hid (Own.chgW HO.out HGi.out (by omega))
          have XPi := Lib.hid (XP.out.chg HGi.out (by omega)); have XRi := Lib.hid (XR.out.chg HGi.out (by omega))
          have hzi : w3.heap.size ≤ wi.heap.size := Nat.le_trans hsz HGi.out.size
          have HG6 := Lib.hid (HG.out.trans HGi.out)
          obtain ⟨gN, rfl, _, _, hcN, _⟩ := Row.cells HNi.out (by omega)
          obtain ⟨gO, hgO, _, hgOl, hcO, hfr⟩ := Row.cells HOi.out (by omega)
          simp only [Option.some.injEq, Addr.mk.injEq, and_true] at hgO
          subst hgO
          obtain ⟨x, hx⟩ : ∃ x, x = nthN N k0 := ⟨_, rfl⟩
          have hxm : x < m := by rw [hx]; exact HLt.out _ (nthN_mem (by rw [HNl.out]; omega))
          have hck : wi.cell? ⟨gN, k0, none⟩ = some (.int .i64 (x : Int)) := by
            rw [hcN k0 (by omega), List.getElem?_map, hx]
            rw [List.getElem?_eq_getElem (by rw [up_len, HNl.out]; omega)]
            simp only [Option.map_some]
            rw [← nth_eq (by rw [up_len, HNl.out]; omega), nth_up]
          have hxl : xs.length = m := HOi.out.len
          have hcx : wi.cell? ⟨gb, x, none⟩ = some (.int .i64 (nth xs x)) := by
            rw [hcO x hxm, List.getElem?_map, List.getElem?_eq_getElem (by omega)]
            simp only [Option.map_some]
            rw [nth_eq (by omega)]
          have hfx := hfr x
          have hk0 : (0 : Int) ≤ k0 := by omega
          have hkm : (k0 : Int) < m := by omega
          have hx0 : (0 : Int) ≤ x := by omega
          have hxmi : (x : Int) < m := by omega
          have hwr : w.heap.size ≤ gb := by omega
          have HO7 : Hid (Own 3 (wi.setCell ⟨gb, x, none⟩ (.int .i64 z)) w3.heap.size (some ⟨gb, 0, none⟩) m m (xs.set x z)) := Lib.hid (HOi.out.set x z)
          have HN7 : Hid (Own 3 (wi.setCell ⟨gb, x, none⟩ (.int .i64 z)) W2.heap.size (some ⟨gN, 0, none⟩) m cN (up N)) := Lib.hid (by
            refine Row.setOther HNi.out _ ?_
            intro e
            have e1 : gN = gb := by simpa using e
            have := (HN3.out.lt gN (by rfl)).2
            omega)
          have HG7 : Hid (Chg w (wi.setCell ⟨gb, x, none⟩ (.int .i64 z)) g none) := Lib.hid (HG6.out.setNew _ _ hwr)
          have HC7 : Hid (Cur (wi.setCell ⟨gb, x, none⟩ (.int .i64 z)) g) := Lib.hid (HCi.out.setNew _ _ (by simp only; omega))
          have XP7 : Hid (BoxF (wi.setCell ⟨gb, x, none⟩ (.int .i64 z)) P (.int .i64 m) (.slice none 0 0)) := Lib.hid (XPi.out.setOther _ _ (by simp only; omega))
          have XR7 : Hid (BoxF (wi.setCell ⟨gb, x, none⟩ (.int .i64 z)) w.heap.size (.int .i64 0) (.slice none 0 0)) := Lib.hid (XRi.out.setOther _ _ (by simp only; omega))
          clear hcN hcO hx hfr
          go_wp2_with fail
          go_roundw
          case rel => exact ⟨k0 + 1, xs.set x z, by omega, by go_num, HO7.out, HN7.out, HG7.out, HC7.out, XP7.out, XR7.out, by simpa using hzi⟩
          case measure => simp [intOf]; omega
    · obtain rfl : I = m := by omega
      have hII : ¬ ((I : Int) < I) := by omega
      obtain ⟨p0, p1, pf0, pf1, pl⟩ := XP.out
      obtain ⟨r0, r1, rf0, rf1, rl⟩ := XR.out
      have hne : P ≠ w.heap.size := by omega
      go_wp2_with fail
      refine bodyPost_ret (v := .agg #[.int .i64 I, .slice (some ⟨gb, 0, none⟩) I I]) (by simp [results, Tryz.results123, go_sem, p0, p1, r0, r1, hne, Ne.symm hne]) rfl ⟨_, rfl, ⟨I, gb, I, xs, rfl, ?_, hm1, hm6⟩, ?_, ?_⟩
      · exact Row.mono (Row.setBelow (Row.setBelow (Row.setBelow HO.out _ (by omega)) _ (by omega)) _ (by omega)) (by omega)
      · exact ((HG.out.setNew _ _ (by simp only; omega)).setNew _ _ (by simp)).setNew _ _ (by simp)
      · exact ((HC.out.setNew _ _ (by simp only; omega)).setNew _ _ (by simpa using hgl)).setNew _ _ (by simpa using hgl)
set_option maxHeartbeats 4000000 in
theorem l26Bent_any (g : Nat) (w : World) (hc : Cur w g) :
    Calls Tryz.prog 116 #[.pointer (some ⟨g, 0, none⟩)] w (RetD g w (IsPos w.heap.size)) := by
  have hgl := hc.lt
  have XR0 := Lib.hid (BoxF.new w (.int .i64 0) (.slice none 0 0) 59)
  obtain ⟨W0, hW0⟩ : ∃ W0, W0 = w.alloc (.cells #[.int .i64 0, .slice none 0 0] 59) := ⟨_, rfl⟩
  rw [← hW0] at XR0
  have Hz0 : Hid (W0.heap.size = w.heap.size + 1) := Lib.hid (by rw [hW0]; simp)
  have HC0 : Hid (Cur W0 g) := Lib.hid (by rw [hW0]; exact (hc.alloc _))
  have HG0 : Hid (Chg w W0 g none) := Lib.hid (by rw [hW0]; exact ((Chg.refl _ _ _).alloc _))
  have HW0 := Lib.hid hW0
  clear hc hW0
  go_enter Tryz.func116, Tryz.ntmps116
  go_wp2_with fail
  rw [← HW0.out]
  refine (l26Draw_any g W0 HC0.out).mono ?_
  rintro e w1 ⟨v, rfl, ⟨m, b, c, xs, rfl, hown, hm1, hm6⟩, hg1, hc1⟩
  have hne := (hown.lt b rfl).2
  have hge := (hown.lt b rfl).1
  obtain ⟨G, hG⟩ : ∃ G, G = w1.heap.size := ⟨_, rfl⟩
  obtain ⟨W2, hW2⟩ : ∃ W2, W2 = w1.alloc (.cells #[.int .i64 m, .slice (some ⟨b, 0, none⟩) m c] 59) := ⟨_, rfl⟩
  have HC2 : Hid (Cur W2 g) := Lib.hid (by rw [hW2]; exact hc1.alloc _)
  have HG2 : Hid (Chg w W2 g none) := Lib.hid (by rw [hW2]; exact (HG0.out.trans hg1).alloc _)
  have XR2 : Hid (BoxF W2 w.heap.size (.int .i64 0) (.slice none 0 0)) := Lib.hid (by rw [hW2]; exact (XR0.out.chg hg1 (by omega)).alloc _)
  have XG2 : Hid (BoxF W2 G (.int .i64 m) (.slice (some ⟨b, 0, none⟩) m c)) := Lib.hid (by rw [hW2, hG]; exact BoxF.new _ _ _ _)
  have HO2 : Hid (Own 3 W2 (w.heap.size + 1) (some ⟨b, 0, none⟩) m c xs) := Lib.hid (by rw [hW2, ← Hz0.out]; exact hown.alloc _)
  have hbG : b < G := by omega
  have hbw : w.heap.size + 1 ≤ b := by have := Hz0.out; omega
  have hz1 : W0.heap.size ≤ w1.heap.size := hg1.size
  have Hz2 : Hid (G + 1 ≤ W2.heap.size) := Lib.hid (by rw [hW2, hG]; simp)
  have hwG : w.heap.size < G := by have := Hz0.out; omega
  have hxl : xs.length = m := hown.len
  have hgG : g < G := by omega
  have HG9 := Lib.hid hG; have HW2 := Lib.hid hW2
  clear hg1 hc1 hown hne hge hW2 hG hz1
  go_wp2_with fail
  rw [← HG9.out, ← HW2.out]
  refine (l1Below_any g 12 W2 HC2.out (by omega)).mono ?_
  rintro e w4 ⟨v, rfl, ⟨y, hy, _, rfl⟩, hg4, hc4⟩
  have hy8 : y < 12 := by have := hy (by omega); omega
  have HG4 := Lib.hid (HG2.out.trans hg4); have HC4 := Lib.hid hc4
  have XR4 := Lib.hid (XR2.out.chg hg4 (by omega))
  have XG4 := Lib.hid (XG2.out.chg hg4 (by omega))
  have HO4 := Lib.hid (HO2.out.chgW hg4 (by omega))
  have Hz4 : Hid (G + 1 ≤ w4.heap.size) := Lib.hid (Nat.le_trans Hz2.out hg4.size)
  clear hg4 hc4 hy HC2 HG2 XR2 XG2 HO2
  have END : ∀ (W : World) (p : Int) (xs : List Int), Chg w W g none → Cur W g → BoxF W w.heap.size (.int .i64 0) (.slice none 0 0) → Own 3 W (w.heap.size + 1) (some ⟨b, 0, none⟩) m c xs → (xs.length ≤ 6 ∧ 0 ≤ p ∧ p ≤ 7) →
      RetD g w (IsPos w.heap.size) (.returned (.agg #[.int .i64 p, .slice (some ⟨b, 0, none⟩) m c])) ((W.setCell ⟨w.heap.size, 0, none⟩ (.int .i64 p)).setCell ⟨w.heap.size, 1, none⟩ (.slice (some ⟨b, 0, none⟩) m c)) := by
    intro W p xs hg hc hx ho hl
    exact ⟨_, rfl, ⟨m, _, m, c, xs, p, rfl, Row.mono (Row.setBelow (Row.setBelow ho _ (by omega)) _ (by omega)) (by omega), hl⟩, (hg.setNew _ _ (by simp)).setNew _ _ (by simp), (hc.setNew _ _ (by simpa using hgl)).setNew _ _ (by simpa using hgl)⟩
  have HEND := Lib.hid END
  clear END
  by_cases y0 : y = 0
  · subst y0
    have HL := Lib.hid (IntsAt.lit3 w4 0 7 2)
    go_wp2_with fail
    refine (l1PickInt_any g _ 3 3 _ _ (HC4.out.alloc _) HL.out (fun b hb => by cases hb; have := HC4.out.lt; simp only; omega) (by omega) (by omega)).mono ?_
    rintro e w5 ⟨v, rfl, ⟨p', hp', rfl⟩, hg5, hc5⟩
    have Hp9 : Hid (0 ≤ p' ∧ p' ≤ 7) := Lib.hid (by simp only [List.mem_cons, List.not_mem_nil, or_false] at hp'; omega)
    clear hp'
    have HG5 := Lib.hid ((HG4.out.alloc _).trans hg5); have HC5 := Lib.hid hc5
    have XR5 := Lib.hid ((XR4.out.alloc _).chg hg5 (by omega))
    have XG5 := Lib.hid ((XG4.out.alloc _).chg hg5 (by omega))
    have HO5 := Lib.hid (Own.chgW (Own.alloc HO4.out _) hg5 (by omega))
    obtain ⟨b0, b1, bf0, bf1, _⟩ := XG5.out
    obtain ⟨r0, r1, f0, f1, _⟩ := XR5.out.setOther ⟨G, 0, none⟩ (.int .i64 p') (by simp only; omega)
    clear hg5 hc5
    go_wp2_with fail
    refine bodyPost_ret (v := .agg #[.int .i64 p', .slice (some ⟨b, 0, none⟩) m c]) (by simp [results, Tryz.results116, go_sem, r0, r1]) rfl ?_
    refine HEND.out _ p' xs (HG5.out.setNew _ _ (by simp only; omega)) (HC5.out.setNew _ _ (by simp only; omega)) (XR5.out.setOther _ _ (by simp only; omega)) (Row.setOther HO5.out _ ?_) ⟨by omega, Hp9.out.1, Hp9.out.2⟩
    intro e
    have h2 : b = G := by injection e with e1; injection e1
    omega
  · have y0i : ((y : Int) == 0) = false := by simp; omega
    by_cases y1 : y = 1
    · subst y1
      obtain ⟨b0, b1, bf0, bf1, _⟩ := XG4.out
      have hcd := Lib.hid HC4.out.drew
      have hm0 : 0 < m := hm1
      go_wp2_with fail
      go_region_law (first
        | (go_simp; go_at_call 132; (with_reducible refine (l1Below_any g 66 _ hcd.out (by omega)).mono ?_); rintro e w5 ⟨v, rfl, ⟨x, _, _, rfl⟩, hg5, hc5⟩; have HG5 := Lib.hid (HG4.out.drew.trans hg5); have HC5 := Lib.hid hc5; have XR5 := Lib.hid (XR4.out.drew.chg hg5 (by omega)); have XG5 := Lib.hid (XG4.out.drew.chg hg5 (by omega)); have HO5 := Lib.hid (HO4.out.drew.chgW hg5 (by omega)); have Hz5 : Hid (G + 1 ≤ w5.heap.size) := Lib.hid (Nat.le_trans Hz4.out hg5.size); (obtain ⟨z0, z1, zf0, zf1, _⟩ := XG5.out); (obtain ⟨gO, hgO, _, _, hcO, hfr⟩ := Row.cells HO5.out (by omega)); (simp only [Option.some.injEq, Addr.mk.injEq, and_true] at hgO); (subst hgO); have hx0 := hcO 0 (by omega); (rw [List.getElem?_map, List.getElem?_eq_getElem (by omega)] at hx0); have hfr0 := hfr 0; clear hg5 hc5 hcO hfr))
      all_goals (
        obtain ⟨z0, z1, zf0, zf1, _⟩ := XG5.out.setOther ⟨b, 0, none⟩ (.int .i64 ((x : Int) - 1)) (by simp only; omega)
        have XS := XR5.out.setOther ⟨b, 0, none⟩ (.int .i64 ((x : Int) - 1)) (by simp only; omega)
        obtain ⟨r0, r1, f0, f1, _⟩ := id XS
        obtain ⟨q0, q1, qf0, qf1, _⟩ := XR5.out
        have XSH := Lib.hid XS
        clear XS
        go_wp2_with fail
        refine bodyPost_ret (v := .agg #[.int .i64 m, .slice (some ⟨b, 0, none⟩) m c]) (by simp [results, Tryz.results116, go_sem, r0, r1]) rfl ?_
        exact HEND.out _ m _ (HG5.out.setNew _ _ (by simp only; omega)) (HC5.out.setNew _ _ (by simp only; omega)) XSH.out (HO5.out.set 0 _) ⟨by rw [List.length_set]; omega, by omega, by omega⟩)
    · have y1i : ((y : Int) == 1) = false := by simp; omega
      obtain ⟨b0, b1, bf0, bf1, _⟩ := XG4.out
      obtain ⟨r0, r1, f0, f1, _⟩ := XR4.out
      go_wp2_with fail
      refine bodyPost_ret (v := .agg #[.int .i64 m, .slice (some ⟨b, 0, none⟩) m c]) (by simp [results, Tryz.results116, go_sem, r0, r1]) rfl ?_
      exact HEND.out _ m xs HG4.out HC4.out XR4.out HO4.out ⟨by omega, by omega, by omega⟩
def RetPosM (w : World) (e : Ending) (w' : World) : Prop :=
  ∃ p ad n c xs, e = .returned (.agg #[.int .i64 p, .slice ad n c]) ∧ Own 3 w' w.heap.size ad n c xs ∧ (xs.length ≤ 6 ∧ 0 ≤ p ∧ p ≤ 7) ∧ Below w.heap.size w w'
theorem drawOrderComplex_any (a : Option Addr) (n c : Nat) (w : World) (hy : CodeAt w a n) (hn : n ≤ 1048576) :
    Calls Tryz.prog 42 #[.slice a n c] w (RetPosM w) := by
  have XR0 := Lib.hid (BoxF.new w (.int .i64 0) (.slice none 0 0) 59)
  obtain ⟨W0, hW0⟩ : ∃ W0, W0 = w.alloc (.cells #[.int .i64 0, .slice none 0 0] 59) := ⟨_, rfl⟩
  rw [← hW0] at XR0
  have Hz0 : Hid (W0.heap.size = w.heap.size + 1) := Lib.hid (by rw [hW0]; simp)
  have HB0 : Hid (Below w.heap.size w W0) := Lib.hid (by rw [hW0]; exact (by repeat (first | exact Below.refl _ _ | assumption | refine Below.setCell ?_ (by first | omega | (simp; done) | (simp; omega)) _ | refine Below.alloc ?_ (by first | omega | (simp; done) | (simp; omega)) _ | apply Below.drew)))
  have HY0 : Hid (CodeAt W0 a n) := Lib.hid (hy.keep HB0.out)
  have HW0 := Lib.hid hW0
  clear hy hW0
  go_enter Tryz.func42, Tryz.ntmps42
  go_wp2_with fail
  rw [← HW0.out]
  refine (l1New_any a n c W0 HY0.out hn).mono ?_
  rintro e w1 ⟨rfl, hb1, hc1⟩
  have hz1 : w.heap.size + 1 ≤ w1.heap.size := by have := hb1.size; have := Hz0.out; omega
  have XR1 := Lib.hid (XR0.out.keep hb1 (by have := Hz0.out; omega))
  have HB1 : Hid (Below w.heap.size w w1) := Lib.hid (HB0.out.trans (hb1.mono (by have := Hz0.out; omega)))
  obtain ⟨g, hg⟩ : ∃ g, g = W0.heap.size := ⟨_, rfl⟩
  rw [← hg] at hc1
  rw [← hg]
  have hgw : w.heap.size < g := by have := Hz0.out; omega
  have HC1 := Lib.hid hc1
  clear hb1 hc1 hg
  go_wp2_with fail
  refine (l26Bent_any g w1 HC1.out).mono ?_
  rintro e w2 ⟨v, rfl, ⟨_, ad, k, d, xs, p, rfl, hown, hxl, hp0, hp7⟩, hg2, hc2⟩
  have hb2 : Below w.heap.size w1 w2 := hg2.belowNew (by omega) (by omega)
  have HB2 := Lib.hid (HB1.out.trans hb2)
  have XR2 := Lib.hid (XR1.out.chg hg2 (by omega))
  have HO2 := Lib.hid hown
  clear hg2 hc2 hown hb2
  obtain ⟨r0, r1, rf0, rf1, _⟩ := XR2.out
  go_wp2_with fail
  refine bodyPost_ret (v := .agg #[.int .i64 p, .slice ad k d]) (by simp [results, Tryz.results42, go_sem, r0, r1]) rfl ⟨p, ad, k, d, xs, rfl, ?_, ⟨hxl, hp0, hp7⟩, ?_⟩
  · exact Row.mono (Row.setBelow (Row.setBelow HO2.out _ (by omega)) _ (by omega)) (by omega)
  · exact (HB2.out.setCell (by simp) _).setCell (by simp) _
theorem drawFacePoset_any (a : Option Addr) (n c : Nat) (w : World) (hy : CodeAt w a n) (hn : n ≤ 1048576) :
    Calls Tryz.prog 50 #[.slice a n c] w (RetCxM w) := by
  have XR0 := Lib.hid (BoxF.new w (.int .i64 0) (.slice none 0 0) 32)
  obtain ⟨W0, hW0⟩ : ∃ W0, W0 = w.alloc (.cells #[.int .i64 0, .slice none 0 0] 32) := ⟨_, rfl⟩
  rw [← hW0] at XR0
  have Hz0 : Hid (W0.heap.size = w.heap.size + 1) := Lib.hid (by rw [hW0]; simp)
  have HB0 : Hid (Below w.heap.size w W0) := Lib.hid (by rw [hW0]; exact (by repeat (first | exact Below.refl _ _ | assumption | refine Below.setCell ?_ (by first | omega | (simp; done) | (simp; omega)) _ | refine Below.alloc ?_ (by first | omega | (simp; done) | (simp; omega)) _ | apply Below.drew)))
  have HY0 : Hid (CodeAt W0 a n) := Lib.hid (hy.keep HB0.out)
  have HW0 := Lib.hid hW0
  clear hy hW0
  go_enter Tryz.func50, Tryz.ntmps50
  go_wp2_with fail
  rw [← HW0.out]
  refine (l1New_any a n c W0 HY0.out hn).mono ?_
  rintro e w1 ⟨rfl, hb1, hc1⟩
  have hz1 : w.heap.size + 1 ≤ w1.heap.size := by have := hb1.size; have := Hz0.out; omega
  have XR1 := Lib.hid (XR0.out.keep hb1 (by have := Hz0.out; omega))
  have HB1 : Hid (Below w.heap.size w w1) := Lib.hid (HB0.out.trans (hb1.mono (by have := Hz0.out; omega)))
  obtain ⟨g, hg⟩ : ∃ g, g = W0.heap.size := ⟨_, rfl⟩
  rw [← hg] at hc1
  rw [← hg]
  have hgw : w.heap.size < g := by have := Hz0.out; omega
  have HC1 := Lib.hid hc1
  clear hb1 hc1 hg
  go_wp2_with fail
  refine (l1Once_any g 6 w1 HC1.out (by omega)).mono ?_
  rintro e w4 ⟨v, rfl, ⟨b, rfl⟩, hg4, hc4⟩
  have HB4 := Lib.hid (HB1.out.trans (hg4.belowNew (by omega) (by omega) : Below w.heap.size w1 w4))
  have XR4 := Lib.hid (XR1.out.chg hg4 (by omega))
  have HC4 := Lib.hid hc4
  have hz4 : w.heap.size + 1 ≤ w4.heap.size := Nat.le_trans hz1 hg4.size
  clear hg4 hc4 HB1 XR1 HC1
  cases b
  · go_wp2_with fail
    refine (l1Below_any g 3 w4 HC4.out (by omega)).mono ?_
    rintro e w5 ⟨v, rfl, ⟨K, hK, _, rfl⟩, hg5, hc5⟩
    have hK3 : K < 3 := by have := hK (by omega); omega
    have HB5 := Lib.hid (HB4.out.trans (hg5.belowNew (by omega) (by omega) : Below w.heap.size w4 w5))
    have XR5 := Lib.hid (XR4.out.chg hg5 (by omega))
    have HC5 := Lib.hid hc5
    obtain ⟨m, hm⟩ : ∃ m, m = K + 1 := ⟨_, rfl⟩
    have hmi : (1 : Int) + K = m := by omega
    have hm1 : 1 ≤ m := by omega
    have hm6 : m ≤ 6 := by omega
    have hz5 : w.heap.size + 1 ≤ w5.heap.size := Nat.le_trans hz4 hg5.size
    clear hg5 hc5 hK hm
    go_wp2_with fail
    refine (l3Size_any g m w5 HC5.out hm1 hm6).mono ?_
    rintro e w2 ⟨v, rfl, ⟨p, ad, k, d, xs, rfl, hown, hxl, hp0, hp7⟩, hg2, hc2⟩
    have hb2 : Below w.heap.size w5 w2 := hg2.belowNew (by omega) (by omega)
    have HB2 := Lib.hid (HB5.out.trans hb2)
    have XR2 := Lib.hid (XR5.out.chg hg2 (by omega))
    have HO2 := Lib.hid hown
    clear hg2 hc2 hown hb2
    obtain ⟨r0, r1, rf0, rf1, _⟩ := XR2.out
    go_wp2_with fail
    refine bodyPost_ret (v := .agg #[.int .i64 p, .slice ad k d]) (by simp [results, Tryz.results50, go_sem, r0, r1]) rfl ⟨p, ad, k, d, xs, rfl, ?_, ⟨by omega, hp0, hp7⟩, ?_⟩
    · exact Row.mono (Row.setBelow (Row.setBelow HO2.out _ (by omega)) _ (by omega)) (by omega)
    · exact (HB2.out.setCell (by simp) _).setCell (by simp) _
  · go_wp2_with fail
    refine (l3Bent_any g w4 HC4.out).mono ?_
    rintro e w2 ⟨v, rfl, ⟨p, ad, k, d, xs, rfl, hown, hxl, hp0, hp7⟩, hg2, hc2⟩
    have hb2 : Below w.heap.size w4 w2 := hg2.belowNew (by omega) (by omega)
    have HB2 := Lib.hid (HB4.out.trans hb2)
    have XR2 := Lib.hid (XR4.out.chg hg2 (by omega))
    have HO2 := Lib.hid hown
    clear hg2 hc2 hown hb2
    obtain ⟨r0, r1, rf0, rf1, _⟩ := XR2.out
    go_wp2_with fail
    refine bodyPost_ret (v := .agg #[.int .i64 p, .slice ad k d]) (by simp [results, Tryz.results50, go_sem, r0, r1]) rfl ⟨p, ad, k, d, xs, rfl, ?_, ⟨by omega, hp0, hp7⟩, ?_⟩
    · exact Row.mono (Row.setBelow (Row.setBelow HO2.out _ (by omega)) _ (by omega)) (by omega)
    · exact (HB2.out.setCell (by simp) _).setCell (by simp) _
set_option maxHeartbeats 2000000 in
theorem l1Turned_any (g B : Nat) (s : ByteArray) (a : Option Addr) (n c : Nat) (S : List ByteArray) (w : World) (hc : Cur w g) (hx : Row 9 w B a n c (S.map Value.string)) (hg : g < B) (h0 : 0 < n) (hn : n ≤ 256) (hs : s.size ≤ 200) (hS : ∀ x ∈ S, x.size = 1) :
    Calls Tryz.prog 122 #[.pointer (some ⟨g, 0, none⟩), .string s, .slice a n c] w (RetD g w fun v _ => ∃ x : ByteArray, x.size ≤ 201 ∧ v = .string x) := by
  have HC := Lib.hid hc; have HX := Lib.hid hx; have HSz := Lib.hid hS
  clear hc hx hS
  have hs1 : ((s.size : Int) + 1) ≤ 256 := by omega
  go_enter Tryz.func122, Tryz.ntmps122
  go_wp2_with fail
  refine (l1Below_any g ((s.size : Int) + 1) w HC.out hs1).mono ?_
  rintro e w1 ⟨v, rfl, ⟨x, hx, _, rfl⟩, hg1, hc1⟩
  have hxs : x ≤ s.size := by have := hx (by omega); omega
  have HG1 := Lib.hid hg1; have HC1 := Lib.hid hc1
  have HX1 := Lib.hid (hg1.row HX.out fun k hk => by have := (HX.out.lt k hk).1; omega)
  have hx0 : (0 : Int) ≤ x := by omega
  have hxi : (x : Int) ≤ s.size := by omega
  clear hg1 hc1 hx
  go_wp2_with fail
  refine (l1Below_any g 6 w1 HC1.out (by omega)).mono ?_
  rintro e w2 ⟨v, rfl, ⟨y, hy, _, rfl⟩, hg2, hc2⟩
  have HG2 := Lib.hid (HG1.out.trans hg2); have HC2 := Lib.hid hc2
  have HX2 := Lib.hid (hg2.row HX1.out fun k hk => by have := (HX1.out.lt k hk).1; omega)
  clear hg2 hc2 hy
  have ha : (s.extract 0 x).size = x := by rw [ByteArray.size_extract]; omega
  have hb : (s.extract x s.size).size = s.size - x := by rw [ByteArray.size_extract]; omega
  by_cases y0 : y = 0
  · subst y0
    have hcd := Lib.hid HC2.out.drew
    have HXd := Lib.hid (HX2.out.drew)
    go_wp2_with fail
    go_region_held3 (fun _ => True) (first | trivial | go_keep) (first
      | (go_simp; go_at_call 180; (with_reducible refine (l1Pick_any g B a n c S _ hcd.out HXd.out hg h0 hn).mono ?_); rintro e w5 ⟨v, rfl, ⟨D, hD, rfl⟩, hg5, hc5⟩; have HG5 := Lib.hid (HG2.out.drew.trans hg5); have HC5 := Lib.hid hc5; have hD1 := HSz.out D hD; have hq1 : ¬ (9223372036854775807 < x + 1) := (by omega); have hq2 : ¬ (9223372036854775807 < x + 1 + (s.size - x)) := (by omega); clear hg5 hc5))
    all_goals (go_wp2_with fail; go_ret)
    all_goals exact ⟨_, rfl, ⟨_, by simp [ByteArray.size_append, ha, hb, hD1]; omega, rfl⟩, HG5.out, HC5.out⟩
  · have y0i : ((y : Int) == 0) = false := by simp; omega
    by_cases y1 : y = 1
    · subst y1
      go_wp2_with fail
      go_ret
      exact ⟨_, rfl, ⟨_, by rw [ha]; omega, rfl⟩, HG2.out, HC2.out⟩
    · have y1i : ((y : Int) == 1) = false := by simp; omega
      go_wp2_with fail
      go_ret
      exact ⟨_, rfl, ⟨_, by omega, rfl⟩, HG2.out, HC2.out⟩
end Go.Proofs.YtihfhfihladlcaaGreatDoor

/- Drawn complexes of the reference: BorderComplex, ParseComplex, l3Size, l3Pure: each returns some complex of few facets, or what is none. -/
import Derived.Test.YtihfhfihladlcaaGreatDoorDrw
import Derived.Test.YtihfhfihladlcaaGreatDoorIdeal
import Derived.Test.YtihfhfihladlcaaGreatDoorStr3
import Derived.Test.YtihfhfihladlcaaGreatDoorStr6
namespace Go.Proofs.YtihfhfihladlcaaGreatDoor
set_option maxRecDepth 20000
open Go.RowKit
set_option linter.unusedSimpArgs false
set_option linter.unusedVariables false

/-- a complex, or what looks like one, in new memory; its list is short -/
def IsCxN (N B : Nat) (v : Value) (w' : World) : Prop := ∃ p ad n c xs, v = .agg #[.int .i64 p, .slice ad n c] ∧ Own 3 w' B ad n c xs ∧ xs.length ≤ N ∧ 0 ≤ p ∧ p ≤ 7
def IsCx (B : Nat) (v : Value) (w' : World) : Prop := IsCxN 1100 B v w'
/-- the same, with a bool behind it -/
def RetCxB (w : World) (e : Ending) (w' : World) : Prop := ∃ p ad n c xs b, e = .returned (.tuple #[.agg #[.int .i64 p, .slice ad n c], .bool b]) ∧ Own 3 w' w.heap.size ad n c xs ∧ (xs.length ≤ 1100 ∧ 0 ≤ p ∧ p ≤ 7) ∧ Below w.heap.size w w'

theorem maxL_len (p : Nat → Bool) : (maxL p).length ≤ 64 := ord_len _
theorem up_range_succ (k : Nat) : up (List.range k) ++ [(k : Int)] = up (List.range (k + 1)) := by rw [List.range_succ, up_append]; rfl
theorem border_any (n : Int) (w : World) : Calls Tryz.prog 198 #[.int .i64 n] w (RetCxB w) := by
  have XR0 := Lib.hid (BoxF.new w (.int .i64 0) (.slice none 0 0) 32)
  by_cases hn : 1 ≤ n ∧ n ≤ 6
  · obtain ⟨m, rfl⟩ := Int.eq_ofNat_of_zero_le (show 0 ≤ n by omega)
    have h1 : 1 ≤ m := by omega
    have h6 : m ≤ 6 := by omega
    have hw1 := (pow_wrap (m : Int) (by omega) (by omega)).1
    have hw2 := (pow_wrap (m : Int) (by omega) (by omega)).2
    simp only [Int.toNat_natCast] at hw1 hw2
    obtain ⟨N, hN⟩ : ∃ N : Nat, N = 2 ^ m - 1 := ⟨_, rfl⟩
    have hpm : 2 ^ m ≤ 64 := pow_le64 h6
    have hp1 : 1 ≤ 2 ^ m := Nat.one_le_two_pow
    have hNi : ((2 : Int) ^ m - 1) = N := by rw [hN]; have : ((2 ^ m : Nat) : Int) = (2 : Int) ^ m := by simp
                                             omega
    have hN64 : N ≤ 63 := by omega
    rw [hNi] at hw2
    clear hN
    go_enter Tryz.func198, Tryz.ntmps198
    go_wp2_with (go_at_call 110; (with_reducible refine (l1In_yes (m : Int) 1 6 _ (by omega) (by omega)).mono ?_); rintro e w' ⟨rfl, rfl⟩)
    obtain ⟨W0, hW0⟩ : ∃ W0, W0 = w.alloc (.cells #[.int .i64 0, .slice none 0 0] 32) := ⟨_, rfl⟩
    rw [← hW0] at XR0
    have Hz0 : Hid (W0.heap.size = w.heap.size + 1) := Lib.hid (by rw [hW0]; simp)
    have hzl : w.heap.size < W0.heap.size := by rw [Hz0.out]; omega
    have HB0 : Hid (Below w.heap.size w W0) := Lib.hid (by rw [hW0]; exact (by repeat (first | exact Below.refl _ _ | assumption | refine Below.setCell ?_ (by first | omega | (simp; done) | (simp; omega)) _ | refine Below.alloc ?_ (by first | omega | (simp; done) | (simp; omega)) _ | apply Below.drew)))
    have HE := Lib.hid (Own.empty 3 W0 W0.heap.size (Nat.le_refl _))
    rw [← hW0]
    have HbE : Hid (Below W0.heap.size W0 (W0.alloc (.cells #[] 3))) := Lib.hid (by repeat (first | exact Below.refl _ _ | assumption | refine Below.setCell ?_ (by first | omega | (simp; done) | (simp; omega)) _ | refine Below.alloc ?_ (by first | omega | (simp; done) | (simp; omega)) _ | apply Below.drew))
    clear hW0
    go_loopw [4, 5] (fun o i wr => ∃ (k : Nat) (ad : Option Addr) (q c : Nat), k ≤ N ∧ i = .int .i64 k ∧ o = .slice ad q c ∧ q ≤ k ∧ Own 3 wr W0.heap.size ad q c (up (List.range k)) ∧ Below W0.heap.size W0 wr) (fun _ i _ => N - (intOf i).toNat)
    case atStart => exact ⟨0, _, 0, 0, Nat.zero_le _, rfl, rfl, Nat.le_refl _, by rw [← Hz0.out]; exact HE.out, HbE.out⟩
    case round =>
      obtain ⟨k, ad, q, c, hk, rfl, rfl, hq, hown, hbl⟩ := hrel
      have HO := Lib.hid hown; have HB := Lib.hid hbl
      have hzr : W0.heap.size ≤ wr.heap.size := hbl.size
      clear hown hbl
      by_cases hlt : k < N
      · have hli : (k : Int) < N := by omega
        go_wp2_with (at_builtin; refine ap rfl _ _ rfl W0.heap.size _ _ _ _ _ rfl HO.out rfl (by omega) hzr ?_; intro ad5 d5 w5 hown5 hb5; have HO5 := Lib.hid hown5; have HB5 := Lib.hid (HB.out.trans hb5); clear hown5 hb5)
        go_roundw
        case rel => exact ⟨k + 1, ad5, q + 1, d5, by omega, by go_num, rfl, by omega, by rw [← up_range_succ]; exact HO5.out, HB5.out⟩
        case measure => simp [intOf]; omega
      · have hli : ¬ ((k : Int) < N) := by omega
        go_wp2_with fail
        refine (l3Make_any m ad q c (List.range k) _ HO.out.reads (fun s hs => by have := List.mem_range.1 hs; omega)).mono ?_
        rintro e w6 ⟨ad6, n6, c6, rfl, hown6, hb6⟩
        have HBw := Lib.hid (HB0.out.trans (HB.out.trans (hb6.mono hzr) |>.mono (by omega)))
        obtain ⟨r0, r1, f0, f1, _⟩ := (XR0.out.keep HB.out (by omega)).keep hb6 (by omega)
        have HO6 := Lib.hid hown6
        clear hb6 hown6
        go_wp2_with fail
        refine bodyPost_ret (v := .tuple #[.agg #[.int .i64 m, .slice ad6 n6 c6], .bool true]) (by simp [results, Tryz.results198, go_sem, r0, r1]) rfl ⟨m, ad6, n6, c6, up (maxL (List.range k).contains), true, rfl, ?_, ⟨by rw [up_len]; exact Nat.le_trans (maxL_len _) (by omega), by omega, by omega⟩, ?_⟩
        · exact Row.mono ((Row.setBelow HO6.out _ (by omega)).setBelow _ (by omega)) (by omega)
        · exact (HBw.out.setCell (by simp) _).setCell (by simp) _
  · go_enter Tryz.func198, Tryz.ntmps198
    go_wp2_with (go_at_call 110; (with_reducible refine (l1In_no n 1 6 _ hn).mono ?_); rintro e w' ⟨rfl, rfl⟩)
    obtain ⟨r0, r1, f0, f1, _⟩ := XR0.out
    go_wp2_with fail
    refine bodyPost_ret (v := .tuple #[.agg #[.int .i64 0, .slice none 0 0], .bool false]) (by simp [results, Tryz.results198, go_sem, r0, r1]) rfl ⟨0, none, 0, 0, [], false, rfl, Own.nil _ _ _, ⟨by simp, by omega, by omega⟩, (by repeat (first | exact Below.refl _ _ | assumption | refine Below.setCell ?_ (by first | omega | (simp; done) | (simp; omega)) _ | refine Below.alloc ?_ (by first | omega | (simp; done) | (simp; omega)) _ | apply Below.drew))⟩
/-- .. and that is one, or the empty one of no points -/
def RetCxV (w : World) (e : Ending) (w' : World) : Prop := ∃ p ad n c xs b, e = .returned (.tuple #[.agg #[.int .i64 p, .slice ad n c], .bool b]) ∧ Own 3 w' w.heap.size ad n c xs ∧ (xs.length ≤ 1100 ∧ 0 ≤ p ∧ p ≤ 7 ∧ (Anti p xs ∨ (p = 0 ∧ xs = []))) ∧ Below w.heap.size w w'
theorem RetCxV.weak {w : World} {e : Ending} {w' : World} (h : RetCxV w e w') : RetCxB w e w' := by
  obtain ⟨p, ad, n, c, xs, b, h1, h2, ⟨h3, h4, h5, _⟩, h6⟩ := h
  exact ⟨p, ad, n, c, xs, b, h1, h2, ⟨h3, h4, h5⟩, h6⟩

theorem pc_parts (t : ByteArray) (w : World) (ht : t.size ≤ 1000) (h : (spl 58 [] (byt t)).length ≠ 2) :
    Calls Tryz.prog 191 #[.string t] w (RetCxV w) := by
  have Ht : Hid (t.size ≤ 1048576) := Lib.hid (by omega); have H := Lib.hid h
  have XR0 := Lib.hid (BoxF.new w (.int .i64 0) (.slice none 0 0) 32)
  clear ht h
  go_enter Tryz.func191, Tryz.ntmps191
  go_wp2_with fail
  refine (sSplit_any t 58 58 rfl _ Ht.out).mono ?_
  rintro e w1 ⟨adp, np, cp, S, rfl, hrowp, hS, hb1⟩
  have XR1 := Lib.hid (XR0.out.keep hb1 (by simp))
  have HB1 : Hid (Below w.heap.size w w1) := Lib.hid (Below.trans (by repeat (first | exact Below.refl _ _ | assumption | refine Below.setCell ?_ (by first | omega | (simp; done) | (simp; omega)) _ | refine Below.alloc ?_ (by first | omega | (simp; done) | (simp; omega)) _ | apply Below.drew)) (hb1.mono (by simp)))
  have hnp : np ≠ 2 := by
    have h1 := H.out
    rw [← hS, List.length_map] at h1
    have h2 := hrowp.len
    rw [List.length_map] at h2; omega
  have hne : ((np : Int) != 2) = true := by simp; omega
  clear hb1 hrowp hS
  obtain ⟨r0, r1, f0, f1, _⟩ := XR1.out
  go_wp2_with fail
  refine bodyPost_ret (v := .tuple #[.agg #[.int .i64 0, .slice none 0 0], .bool false]) (by simp [results, Tryz.results191, go_sem, r0, r1]) rfl ⟨0, none, 0, 0, [], false, rfl, Own.nil _ _ _, ⟨by simp, by omega, by omega, .inr ⟨rfl, rfl⟩⟩, ?_⟩
  first | exact (HB1.out.setCell (by simp) _).setCell (by simp) _ | exact HB1.out

theorem bool_of (P : Prop) : ∃ b : Bool, b = true ↔ P := by
  by_cases h : P
  · exact ⟨true, by simp [h]⟩
  · exact ⟨false, by simp [h]⟩
set_option maxHeartbeats 1000000 in
theorem pc_two (t : ByteArray) (A C : List UInt8) (w : World) (ht : t.size ≤ 1000) (hsp : spl 58 [] (byt t) = [A, C]) :
    Calls Tryz.prog 191 #[.string t] w (RetCxV w) := by
  have Ht : Hid (t.size ≤ 1048576) := Lib.hid (by omega); have Ht0 := Lib.hid ht; have Hsp := Lib.hid hsp
  have XR0 := Lib.hid (BoxF.new w (.int .i64 0) (.slice none 0 0) 32)
  clear ht hsp
  go_enter Tryz.func191, Tryz.ntmps191
  go_wp2_with fail
  refine (sSplit_any t 58 58 rfl _ Ht.out).mono ?_
  rintro e w1 ⟨ad1, n1, c1, S, rfl, hrow1, hS, hb1⟩
  rw [Hsp.out] at hS
  obtain ⟨x0, x1, rfl⟩ : ∃ x0 x1, S = [x0, x1] := by
    have := congrArg List.length hS
    match S, this with
    | [a, b], _ => exact ⟨a, b, rfl⟩
  simp only [List.map_cons, List.map_nil, List.cons.injEq, and_true] at hS
  have hn1 : n1 = 2 := by have := hrow1.len; simpa using this.symm
  subst hn1
  have HX0 := Lib.hid hS.1; have HX1 := Lib.hid hS.2
  have hAC : A.length ≤ 1000 ∧ C.length ≤ 1000 := by
    have := spl_two (byt t) [] Hsp.out
    obtain ⟨a', h1, h2⟩ := this
    have h3 := Ht0.out
    rw [← byt_len, h2] at h3; simp at h3 h1; subst h1; omega
  have HC := Lib.hid hAC.2
  have hx0s : x0.size ≤ 1048576 := by rw [← byt_len, HX0.out]; omega
  have hx1s : x1.size ≤ 1048576 := by rw [← byt_len, HX1.out]; omega
  have hz1 : w.heap.size + 1 ≤ w1.heap.size := by have := hb1.size; simpa using this
  have XR1 := Lib.hid (XR0.out.keep hb1 (by simp))
  have HB1 : Hid (Below w.heap.size w w1) := Lib.hid (Below.trans (by repeat (first | exact Below.refl _ _ | assumption | refine Below.setCell ?_ (by first | omega | (simp; done) | (simp; omega)) _ | refine Below.alloc ?_ (by first | omega | (simp; done) | (simp; omega)) _ | apply Below.drew)) (hb1.mono (by simp)))
  have HR1 := Lib.hid hrow1
  obtain ⟨g1, hg1, _, hg1l, hcell, _⟩ := hrow1.cells (by omega)
  subst hg1
  have hc0 := hcell 0 (by omega)
  simp only [List.map_cons, List.map_nil, List.getElem?_cons_zero, List.getElem?_cons_succ] at hc0
  clear hb1 hrow1 hS hcell hAC
  go_wp2_with fail
  refine (sPint_any x0 w1 hx0s).mono ?_
  rintro e w2 ⟨n, ok, rfl, hq, hb2⟩
  have XR2 := Lib.hid (XR1.out.keep hb2 (by omega))
  have HB2 : Hid (Below w.heap.size w w2) := Lib.hid (HB1.out.trans (hb2.mono (by omega)))
  have hz2 : w1.heap.size ≤ w2.heap.size := hb2.size
  have HR2 := Lib.hid (HR1.out.keep hb2)
  clear hb2 hq hc0
  have XG0 := BoxF.new w2 (.int .i64 n) (.slice none 0 0) 32
  obtain ⟨g9, hg9, _, _, hcell2, _⟩ := (HR2.out.alloc (.cells #[.int .i64 n, .slice none 0 0] 32)).cells (by omega)
  have hc3 := hcell2 1 (by omega)
  simp only [Option.some.injEq, Addr.mk.injEq, and_true] at hg9
  subst hg9
  simp only [List.map_cons, List.map_nil, List.getElem?_cons_zero, List.getElem?_cons_succ] at hc3
  obtain ⟨G, hG⟩ : ∃ G, G = w2.heap.size := ⟨_, rfl⟩
  have hGw : w.heap.size < G := by omega
  have HG := Lib.hid hG
  have HR3 := Lib.hid (HR2.out.alloc (.cells #[.int .i64 n, .slice none 0 0] 32))
  have XG3 := Lib.hid XG0
  clear XG0 hcell2 hG
  go_wp2_with fail
  refine (sSplit_any x1 44 44 rfl _ hx1s).mono ?_
  rintro e wp ⟨adp, np, cp, S, rfl, hrowp, hS, hbp⟩
  have hw4' : (w2.alloc (.cells #[.int .i64 n, .slice none 0 0] 32)).heap.size = G + 1 := by rw [HG.out]; simp
  have XG := Lib.hid (XG3.out.keep hbp (by simp))
  have hzp : G + 1 ≤ wp.heap.size := by rw [← hw4']; exact hbp.size
  have XR := Lib.hid ((XR2.out.alloc (.cells #[.int .i64 n, .slice none 0 0] 32)).keep hbp (by simp; omega))
  have HBp : Hid (Below w.heap.size w wp) := Lib.hid ((HB2.out.alloc HB2.out.size _).trans (hbp.mono (by simp; omega)))
  have HRp := Lib.hid (HR3.out.keep hbp)
  have hg1G : g1 < G := by rw [HG.out]; omega
  rw [hw4'] at hrowp
  rw [HX1.out] at hS
  have HP := Lib.hid hrowp; have HPS := Lib.hid (part_size hS (show C.length ≤ 1048576 by have := HC.out; omega))
  have hnp : np ≤ 1001 := by
    have h1 := spl_count 44 C []
    have h2 := HC.out
    have h3 := hrowp.len
    rw [← hS, List.length_map] at h1; simp at h3; omega
  rw [← HG.out] at XG
  rw [← HG.out]
  have hem : ∃ b : Bool, (x1.toList != []) = b := ⟨_, rfl⟩
  obtain ⟨bne, hbne⟩ := hem
  have hem2 : x1.toList.isEmpty = !bne := by rw [← hbne]; cases x1.toList <;> rfl
  clear hbp hrowp hS hc3
  go_wp2_with fail
  go_loopw [9, 10, 11] (fun i _ _ wr => ∃ (I : Nat) (xs : List Int) (ad : Option Addr) (k d : Nat), I ≤ np ∧ i = .int .i64 I ∧ Chg wp wr G none ∧ BoxF wr G (.int .i64 n) (.slice ad k d) ∧ Own 3 wr wp.heap.size ad k d xs ∧ k ≤ I) (fun i _ _ _ => np - (intOf i).toNat)
  case atStart => exact ⟨0, [], none, 0, 0, Nat.zero_le _, rfl, Chg.refl _ _ _, XG.out, Own.nil _ _ _, Nat.le_refl _⟩
  case round =>
    obtain ⟨I, xs, ad, k, d, hI, rfl, hchg, hbx, hown, hk⟩ := hrel
    have HC := Lib.hid hchg; have XGr := Lib.hid hbx; have HO := Lib.hid hown
    have hzr : wp.heap.size ≤ wr.heap.size := hchg.size
    have XRr := Lib.hid (XR.out.chg hchg (by omega))
    obtain ⟨g8, hg8, _, _, hcell8, _⟩ := (hchg.row HRp.out (fun k hk => by simp [Value.ownBlock] at hk; omega)).cells (by omega)
    have hc8 := hcell8 1 (by omega)
    simp only [Option.some.injEq, Addr.mk.injEq, and_true] at hg8
    subst hg8
    simp only [List.map_cons, List.map_nil, List.getElem?_cons_zero, List.getElem?_cons_succ] at hc8
    have Hend : ∀ (K : Act → World → Prop), True := fun _ => trivial
    clear hchg hbx hown Hend hcell8
    by_cases hgo : I < np ∧ bne = true
    · obtain ⟨hlt, rfl⟩ := hgo
      have hrow : Row 9 wr (G + 1) adp np cp (S.map Value.string) := HP.out.other fun g hg hgl => HC.out.block g hgl (by have := (HP.out.lt g (by rw [hg]; rfl)).1; omega) (by simp)
      obtain ⟨gp, hIS, hga, hcell⟩ := strs_cell hrow hlt
      subst hga
      have hxs := HPS.out I hIS
      obtain ⟨x, hx⟩ : ∃ x, x = S[I] := ⟨_, rfl⟩
      rw [← hx] at hcell hxs
      obtain ⟨o, ho⟩ : ∃ o, o = psv (byt x) := ⟨_, rfl⟩
      have hps := sPset_any x wr hxs
      rw [← ho] at hps
      have Hps := Lib.hid hps
      have hIn : (I : Int) < np := by omega
      clear hps ho hx hrow
      obtain ⟨g0, g1', _, _, _⟩ := XGr.out
      go_wp2_with fail
      refine Hps.out.mono ?_
      rintro e w5 ⟨rfl, hb5⟩
      have HB5 := Lib.hid hb5
      have HC5 := Lib.hid (HC.out.upto (hb5.mono (by omega)))
      have hz5 : wr.heap.size ≤ w5.heap.size := hb5.size
      have XG5 := Lib.hid (XGr.out.keep hb5 (by omega))
      have XR5 := Lib.hid (XRr.out.keep hb5 (by omega))
      have HO5 : Hid (Own 3 w5 wp.heap.size ad k d xs) := Lib.hid (HO.out.keep hb5)
      clear hb5 g0 g1'
      cases o with
      | none =>
        obtain ⟨r0, r1, f0, f1, _⟩ := XR5.out
        have hn1 : (none : Option Nat).isSome = false := rfl
        have Hbl : Hid (Below w.heap.size w w5) := Lib.hid (HBp.out.trans (HC5.out.lowOf (by omega) (by omega)))
        go_wp2_with fail
        refine bodyPost_ret (v := .tuple #[.agg #[.int .i64 0, .slice none 0 0], .bool false]) (by simp [results, Tryz.results191, go_sem, r0, r1]) rfl ⟨0, none, 0, 0, [], false, rfl, Own.nil _ _ _, ⟨by simp, by omega, by omega, .inr ⟨rfl, rfl⟩⟩, ?_⟩
        first | exact (Hbl.out.setCell (by simp) _).setCell (by simp) _ | exact Hbl.out
      | some s =>
        have hn1 : (some s).isSome = true := rfl
        obtain ⟨g0, g1', gf0, gf1, _⟩ := XG5.out
        go_wp2_with (at_builtin; refine ap rfl _ _ rfl wp.heap.size _ _ _ _ _ rfl HO5.out rfl (by omega) (by omega) ?_; intro ad6 d6 w6 hown6 hb6; have HO6 := Lib.hid hown6; have HB6 := Lib.hid hb6; have XG6 := Lib.hid (XG5.out.other hb6.size (hb6.block G (by omega))); obtain ⟨y0, y1, yf0, yf1, _⟩ := XG6.out; clear hown6 hb6)
        go_roundw
        case rel => exact ⟨I + 1, _, ad6, k + 1, d6, by omega, by go_num, (HC5.out.upto HB6.out).setAny 1 _, XG6.out.set1 _, Row.setBelow HO6.out _ (by omega), by omega⟩
        case measure => simp [intOf]; omega
    · obtain ⟨b, hb⟩ := bool_of (Anti n xs)
      have hBw : Hid (Below w.heap.size w wr) := Lib.hid (HBp.out.trans (HC.out.lowOf (by omega) (by omega)))
      have hcs := sIsComplex_any n ad k d xs wr HO.out.reads b hb
      have Hcs := Lib.hid hcs
      have hxl : xs.length ≤ 1100 := by rw [HO.out.len]; omega
      obtain ⟨g0, g1', gf0, gf1, _⟩ := XGr.out
      have HbA := Lib.hid hb
      clear hcs hb
      have hstop : (¬ (I : Int) < np) ∨ ((I : Int) < np ∧ bne = false) := by
        by_cases h : I < np
        · right; refine ⟨by omega, ?_⟩
          cases hb : bne
          · rfl
          · exact absurd ⟨h, hb⟩ hgo
        · left; omega
      clear hgo
      rcases hstop with hli | ⟨hli, rfl⟩
      · clear hbne hem2 hc8
        cases ok
        · obtain ⟨r0, r1, rf0, rf1, _⟩ := XRr.out
          go_wp2_with fail
          refine bodyPost_ret (v := .tuple #[.agg #[.int .i64 0, .slice none 0 0], .bool false]) (by simp [results, Tryz.results191, go_sem, r0, r1]) rfl ⟨0, none, 0, 0, [], false, rfl, Own.nil _ _ _, ⟨by simp, by omega, by omega, .inr ⟨rfl, rfl⟩⟩, ?_⟩
          first | exact (hBw.out.setCell (by simp) _).setCell (by simp) _ | exact hBw.out
        · go_wp2_with fail
          refine Hcs.out.mono ?_
          rintro e w6 ⟨rfl, hb6⟩
          obtain ⟨r0, r1, rf0, rf1, _⟩ := XRr.out.keep hb6 (by omega)
          obtain ⟨y0, y1, yf0, yf1, _⟩ := XGr.out.keep hb6 (by omega)
          have HBw6 := Lib.hid (hBw.out.trans (hb6.mono (by omega)))
          have HO6 : Hid (Own 3 w6 wp.heap.size ad k d xs) := Lib.hid (HO.out.keep hb6)
          clear hb6 g0 g1' gf0 gf1
          cases b
          · go_wp2_with fail
            refine bodyPost_ret (v := .tuple #[.agg #[.int .i64 0, .slice none 0 0], .bool false]) (by simp [results, Tryz.results191, go_sem, r0, r1]) rfl ⟨0, none, 0, 0, [], false, rfl, Own.nil _ _ _, ⟨by simp, by omega, by omega, .inr ⟨rfl, rfl⟩⟩, ?_⟩
            exact (HBw6.out.setCell (by simp) _).setCell (by simp) _
          · go_wp2_with fail
            refine bodyPost_ret (v := .tuple #[.agg #[.int .i64 n, .slice ad k d], .bool true]) (by simp [results, Tryz.results191, go_sem, r0, r1]) rfl ⟨n, ad, k, d, xs, true, rfl, ?_, ⟨hxl, by have := (HbA.out.1 (by simp)).1; omega, by have := (HbA.out.1 (by simp)).2.1; omega, .inl (HbA.out.1 (by simp))⟩, ?_⟩
            · exact Row.mono ((Row.setBelow HO6.out _ (by omega)).setBelow _ (by omega)) (by omega)
            · exact (HBw6.out.setCell (by simp) _).setCell (by simp) _
      · simp only [Bool.not_false] at hem2
        cases ok
        · obtain ⟨r0, r1, rf0, rf1, _⟩ := XRr.out
          go_wp2_with fail
          refine bodyPost_ret (v := .tuple #[.agg #[.int .i64 0, .slice none 0 0], .bool false]) (by simp [results, Tryz.results191, go_sem, r0, r1]) rfl ⟨0, none, 0, 0, [], false, rfl, Own.nil _ _ _, ⟨by simp, by omega, by omega, .inr ⟨rfl, rfl⟩⟩, ?_⟩
          first | exact (hBw.out.setCell (by simp) _).setCell (by simp) _ | exact hBw.out
        · go_wp2_with fail
          refine Hcs.out.mono ?_
          rintro e w6 ⟨rfl, hb6⟩
          obtain ⟨r0, r1, rf0, rf1, _⟩ := XRr.out.keep hb6 (by omega)
          obtain ⟨y0, y1, yf0, yf1, _⟩ := XGr.out.keep hb6 (by omega)
          have HBw6 := Lib.hid (hBw.out.trans (hb6.mono (by omega)))
          have HO6 : Hid (Own 3 w6 wp.heap.size ad k d xs) := Lib.hid (HO.out.keep hb6)
          clear hb6 g0 g1' gf0 gf1 hc8
          cases b
          · go_wp2_with fail
            refine bodyPost_ret (v := .tuple #[.agg #[.int .i64 0, .slice none 0 0], .bool false]) (by simp [results, Tryz.results191, go_sem, r0, r1]) rfl ⟨0, none, 0, 0, [], false, rfl, Own.nil _ _ _, ⟨by simp, by omega, by omega, .inr ⟨rfl, rfl⟩⟩, ?_⟩
            exact (HBw6.out.setCell (by simp) _).setCell (by simp) _
          · go_wp2_with fail
            refine bodyPost_ret (v := .tuple #[.agg #[.int .i64 n, .slice ad k d], .bool true]) (by simp [results, Tryz.results191, go_sem, r0, r1]) rfl ⟨n, ad, k, d, xs, true, rfl, ?_, ⟨hxl, by have := (HbA.out.1 (by simp)).1; omega, by have := (HbA.out.1 (by simp)).2.1; omega, .inl (HbA.out.1 (by simp))⟩, ?_⟩
            · exact Row.mono ((Row.setBelow HO6.out _ (by omega)).setBelow _ (by omega)) (by omega)
            · exact (HBw6.out.setCell (by simp) _).setCell (by simp) _
end Go.Proofs.YtihfhfihladlcaaGreatDoor

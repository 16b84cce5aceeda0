/- Contracts of ParsePoset, the program's and the reference's. -/
import Derived.Test.YtihfhfihladlcaaGreatDoorCore
import Derived.Test.YtihfhfihladlcaaGreatDoorPoset2
import Derived.Test.YtihfhfihladlcaaGreatDoorStr2
import Derived.Test.YtihfhfihladlcaaGreatDoorStr3
namespace Go.Proofs.YtihfhfihladlcaaGreatDoor
set_option maxRecDepth 20000
open Go.RowKit
set_option linter.unusedSimpArgs false
set_option linter.unusedVariables false

theorem part_size {S : List ByteArray} {b : UInt8} {r : List UInt8} {N : Nat} (h : S.map byt = spl b [] r) (hr : r.length ≤ N) : ∀ i (hi : i < S.length), S[i].size ≤ N := fun i hi => by
  have hm : byt S[i] ∈ spl b [] r := by rw [← h]; exact List.mem_map_of_mem (List.getElem_mem hi)
  have := spl_part r [] _ hm
  rw [byt_len] at this; simp at this; omega
theorem strs_cell {w : World} {B : Nat} {a : Option Addr} {n c : Nat} {S : List ByteArray} (h : Row 9 w B a n c (S.map Value.string)) {i : Nat} (hi : i < n) :
    ∃ g, ∃ h : i < S.length, a = some ⟨g, 0, none⟩ ∧ w.cell? ⟨g, i, none⟩ = some (.string S[i]) := by
  obtain ⟨g, hg, _, _, hc, _⟩ := h.cells (by omega)
  have hl : S.length = n := by have := h.len; simpa using this
  refine ⟨g, by omega, hg, ?_⟩
  rw [hc i hi, List.getElem?_map, List.getElem?_eq_getElem (by omega)]; rfl
theorem poset_none {n : Int} {V : Option (List Nat)} {b : Bool} {C : Prop} (hb : b = true ↔ C ∧ ∃ L, V = some L ∧ PosetP n (up L)) (h : V = none) : b = false := by
  cases b
  · rfl
  · obtain ⟨_, L, hL, _⟩ := hb.1 rfl
    rw [h] at hL; cases hL

theorem iPP_no (t : ByteArray) (w : World) (ht : t.size ≤ 1048576) (h : ∀ m r, ¬ HeadP (byt t) m r) :
    Calls Tryz.prog 48 #[.string t] w (RetBox2 w 0 [] false) := by
  have Ht := Lib.hid ht; have H := Lib.hid h
  have XR := Lib.hid (BoxF.new w (.int .i64 0) (.slice none 0 0) 59)
  clear ht h
  go_enter Tryz.func48, Tryz.ntmps48
  go_wp2_with fail
  refine (iHead_no t _ Ht.out H.out).mono ?_
  rintro e w1 ⟨rfl, rfl⟩
  obtain ⟨r0, r1, f0, f1, _⟩ := XR.out
  go_wp2_with fail
  refine bodyPost_ret (v := .tuple #[.agg #[.int .i64 0, .slice none 0 0], .bool false]) (by simp [results, Tryz.results48, go_sem]) rfl ⟨none, 0, 0, rfl, Own.nil _ _ _, (by repeat (first | exact Below.refl _ _ | assumption | refine Below.setCell ?_ (by first | omega | (simp; done) | (simp; omega)) _ | refine Below.alloc ?_ (by first | omega | (simp; done) | (simp; omega)) _ | apply Below.drew))⟩
set_option maxHeartbeats 1000000 in
theorem iPP_head (t : ByteArray) (m : Nat) (r : List UInt8) (V : Option (List Nat)) (b : Bool) (w : World) (ht : t.size ≤ 1048576) (h : HeadP (byt t) m r) (hv : V = allP (spl 44 [] r)) (hb : b = true ↔ True ∧ ∃ L, V = some L ∧ PosetP m (up L)) :
    Calls Tryz.prog 48 #[.string t] w (RetBox2 w (if b then m else 0) (if b then up (V.getD []) else []) b) := by
  have hrl : r.length ≤ 1048576 := by have := h.size; omega
  have Ht := Lib.hid ht; have H := Lib.hid h; have Hb := Lib.hid hb
  have XR0 := Lib.hid (BoxF.new w (.int .i64 0) (.slice none 0 0) 59)
  obtain ⟨P9, hP9⟩ : ∃ P : Int, P = if b then (m : Int) else 0 := ⟨_, rfl⟩
  obtain ⟨L9, hL9⟩ : ∃ L : List Int, L = if b then up (V.getD []) else [] := ⟨_, rfl⟩
  rw [← hP9, ← hL9]
  have HP9 := Lib.hid hP9; have HL9 := Lib.hid hL9
  clear hP9 hL9
  obtain ⟨M, hM⟩ : ∃ M : Int, M = m := ⟨_, rfl⟩
  have HM := Lib.hid hM
  rw [← hM] at Hb HP9
  clear ht h hb hM
  go_enter Tryz.func48, Tryz.ntmps48
  go_wp2_with fail
  refine (iHead_yes t m r _ Ht.out H.out).mono ?_
  rintro e w1 ⟨t', rfl, ht', hb1⟩
  rw [← HM.out]
  have hz1 : w.heap.size + 1 ≤ w1.heap.size := by have := hb1.size; simpa using this
  have XR1 := Lib.hid (XR0.out.keep hb1 (by simp))
  have HB1 : Hid (Below w.heap.size w w1) := Lib.hid (Below.trans (by repeat (first | exact Below.refl _ _ | assumption | refine Below.setCell ?_ (by first | omega | (simp; done) | (simp; omega)) _ | refine Below.alloc ?_ (by first | omega | (simp; done) | (simp; omega)) _ | apply Below.drew)) (hb1.mono (by simp)))
  have ht2 : t'.size ≤ 1048576 := by rw [← byt_len, ht']; exact hrl
  have HT' := Lib.hid ht'; have Ht2 := Lib.hid ht2
  clear hb1 ht' ht2
  go_wp2_with fail
  refine (iSplit_any t' 44 44 rfl _ Ht2.out).mono ?_
  rintro e wp ⟨adp, np, cp, S, rfl, hrowp, hS, hbp⟩
  have XG0 := BoxF.new w1 (.int .i64 M) (.slice none 0 0) 59
  have XG := Lib.hid (XG0.keep hbp (by simp))
  obtain ⟨G, hG⟩ : ∃ G, G = w1.heap.size := ⟨_, rfl⟩
  obtain ⟨w4, hw4⟩ : ∃ w4, w4 = (w1.alloc (.cells #[.int .i64 M, .slice none 0 0] 59)).heap.size := ⟨_, rfl⟩
  have hw4' : w4 = G + 1 := by rw [hw4, hG]; simp
  have hzp : G + 1 ≤ wp.heap.size := by have := hbp.size; simp at this; omega
  have XR := Lib.hid ((XR1.out.alloc (.cells #[.int .i64 M, .slice none 0 0] 59)).keep hbp (by simp; omega))
  have HBp : Hid (Below w.heap.size w wp) := Lib.hid ((HB1.out.alloc HB1.out.size _).trans (hbp.mono (by simp; omega)))
  rw [← hw4] at hrowp
  rw [HT'.out] at hS
  have HP := Lib.hid hrowp; have HPS := Lib.hid (part_size hS hrl)
  have HSn : Hid (S.length = np) := Lib.hid (by have := hrowp.len; simpa using this)
  have HV : Hid (V = allP (S.map byt)) := Lib.hid (by rw [hv, hS])
  have hnp : np ≤ 1048577 := by
    have h1 := spl_count 44 r []
    rw [← hS, List.length_map, HSn.out] at h1; omega
  rw [← hG] at XG
  rw [← hG]
  have hGw : w.heap.size < G := by omega
  clear hbp hrowp hS XG0 hw4 hv hG
  go_wp2_with fail
  go_loopw [9, 10, 11, 26] (fun _ _ _ i wr => ∃ (I : Nat) (l : List Nat) (ad : Option Addr) (k d : Nat), I ≤ np ∧ i = .int .i64 I ∧ Chg wp wr G none ∧ BoxF wr G (.int .i64 M) (.slice ad k d) ∧ Own 3 wr wp.heap.size ad k d (up l) ∧ k ≤ I ∧ Hid (allP ((S.map byt).take I) = some l)) (fun _ _ _ i _ => np - (intOf i).toNat)
  case atStart => exact ⟨0, [], none, 0, 0, Nat.zero_le _, rfl, Chg.refl _ _ _, XG.out, Own.nil _ _ _, Nat.le_refl _, Lib.hid rfl⟩
  case round =>
    obtain ⟨I, l, ad, k, d, hI, rfl, hchg, hbx, hown, hk, hall⟩ := hrel
    have HC := Lib.hid hchg; have XGr := Lib.hid hbx; have HO := Lib.hid hown
    have hzr : wp.heap.size ≤ wr.heap.size := hchg.size
    have XRr := Lib.hid (XR.out.chg hchg (by omega))
    clear hchg hbx hown
    by_cases hlt : I < np
    · have hrow : Row 9 wr w4 adp np cp (S.map Value.string) := HP.out.other fun g hg hgl => HC.out.block g hgl (by have := (HP.out.lt g (by rw [hg]; rfl)).1; omega) (by simp)
      obtain ⟨gp, hIS, hga, hcell⟩ := strs_cell hrow hlt
      subst hga
      have hxs := HPS.out I hIS
      obtain ⟨x, hx⟩ : ∃ x, x = S[I] := ⟨_, rfl⟩
      rw [← hx] at hcell hxs
      obtain ⟨o, ho⟩ : ∃ o, o = psv (byt x) := ⟨_, rfl⟩
      have hnx := allP_next (L := S.map byt) (k := I) (by rw [List.length_map]; exact hIS) hall.out (o := o) (by rw [ho, hx, List.getElem_map])
      have hps := iPset_any x wr hxs
      rw [← ho] at hps
      have Hnx := Lib.hid hnx; have Hps := Lib.hid hps
      have hIn : (I : Int) < np := by omega
      clear hnx hps ho hx hrow
      obtain ⟨g0, g1, _, _, _⟩ := XGr.out
      go_wp2_with fail
      refine Hps.out.mono ?_
      rintro e w5 ⟨rfl, hb5⟩
      have HB5 := Lib.hid hb5
      have HC5 := Lib.hid (HC.out.upto (hb5.mono (by omega)))
      have hz5 : wr.heap.size ≤ w5.heap.size := hb5.size
      have XG5 := Lib.hid (XGr.out.keep hb5 (by omega))
      have XR5 := Lib.hid (XRr.out.keep hb5 (by omega))
      have HO5 : Hid (Own 3 w5 wp.heap.size ad k d (up l)) := Lib.hid (HO.out.keep hb5)
      clear hb5 g0 g1
      cases o with
      | none =>
        have hV : V = none := by rw [HV.out]; exact Hnx.out.2 rfl
        have hbf := poset_none Hb.out hV
        obtain rfl : P9 = 0 := by rw [HP9.out, hbf]; rfl
        obtain rfl : L9 = [] := by rw [HL9.out, hbf]; rfl
        subst hbf
        obtain ⟨r0, r1, f0, f1, _⟩ := XR5.out
        have hn1 : (none : Option Nat).isSome = false := rfl
        have Hbl : Hid (Below w.heap.size w w5) := Lib.hid (HBp.out.trans (HC5.out.lowOf (by omega) (by omega)))
        go_wp2_with fail
        refine bodyPost_ret (v := .tuple #[.agg #[.int .i64 0, .slice none 0 0], .bool false]) (by simp [results, Tryz.results48, go_sem, r0, r1]) rfl ⟨none, 0, 0, rfl, Own.nil _ _ _, ?_⟩
        first | exact (Hbl.out.setCell (by simp) _).setCell (by simp) _ | exact Hbl.out
      | some s =>
        have hn1 : (some s).isSome = true := rfl
        have Hsn := Lib.hid (Hnx.out.1 s rfl)
        obtain ⟨g0, g1, gf0, gf1, _⟩ := XG5.out
        go_wp2_with (at_builtin; refine ap rfl _ _ rfl wp.heap.size _ _ _ _ _ rfl HO5.out rfl (by omega) (by omega) ?_; intro ad6 d6 w6 hown6 hb6; have HO6 := Lib.hid hown6; have HB6 := Lib.hid hb6; have XG6 := Lib.hid (XG5.out.other hb6.size (hb6.block G (by omega))); obtain ⟨y0, y1, yf0, yf1, _⟩ := XG6.out; clear hown6 hb6)
        go_roundw
        case rel =>
          refine ⟨I + 1, l ++ [s], ad6, k + 1, d6, by omega, by go_num, (HC5.out.upto HB6.out).setAny 1 _, XG6.out.set1 _, ?_, by omega, Hsn⟩
          exact Row.setBelow (by have := HO6.out; unfold up at this ⊢; rw [List.map_append]; exact this) _ (by omega)
        case measure => simp [intOf]; omega
    · obtain rfl : I = np := by omega
      have hV : V = some l := by
        rw [HV.out, ← hall.out, List.take_of_length_le (by rw [List.length_map, HSn.out]; omega)]
      have hBw : Hid (Below w.heap.size w wr) := Lib.hid (HBp.out.trans (HC.out.lowOf (by omega) (by omega)))
      have Hb2 := Lib.hid (Hb.out)
      subst hV
      obtain ⟨g0, g1, gf0, gf1, _⟩ := XGr.out
      go_wp2_with fail
      refine (iIsPoset_any M ad k d (up l) wr HO.out.reads b (by rw [Hb2.out]; simp)).mono ?_
      rintro e w6 ⟨rfl, hb6⟩
      have HB6 := Lib.hid hb6
      obtain ⟨r0, r1, rf0, rf1, _⟩ := XRr.out.keep hb6 (by omega)
      obtain ⟨y0, y1, yf0, yf1, _⟩ := XGr.out.keep hb6 (by omega)
      have HBw6 := Lib.hid (hBw.out.trans (hb6.mono (by omega)))
      have HO6 : Hid (Own 3 w6 wp.heap.size ad k d (up l)) := Lib.hid (HO.out.keep hb6)
      clear hb6 g0 g1 gf0 gf1
      cases b
      · obtain rfl : P9 = 0 := by rw [HP9.out]; rfl
        obtain rfl : L9 = [] := by rw [HL9.out]; rfl
        go_wp2_with fail
        refine bodyPost_ret (v := .tuple #[.agg #[.int .i64 0, .slice none 0 0], .bool false]) (by simp [results, Tryz.results48, go_sem, r0, r1]) rfl ⟨none, 0, 0, rfl, Own.nil _ _ _, ?_⟩
        exact (HBw6.out.setCell (by simp) _).setCell (by simp) _
      · obtain rfl : P9 = M := by rw [HP9.out]; rfl
        obtain rfl : L9 = up l := by rw [HL9.out]; rfl
        go_wp2_with fail
        refine bodyPost_ret (v := .tuple #[.agg #[.int .i64 P9, .slice ad k d], .bool true]) (by simp [results, Tryz.results48, go_sem, r0, r1]) rfl ⟨ad, k, d, rfl, ?_, ?_⟩
        · exact Row.mono ((Row.setBelow HO6.out _ (by omega)).setBelow _ (by omega)) (by omega)
        · exact (HBw6.out.setCell (by simp) _).setCell (by simp) _
end Go.Proofs.YtihfhfihladlcaaGreatDoor

/- Texts of this claim, one behind the other: what each says stands at its head. -/
import Derived.BigQuiet
import Derived.Lib.Strings
import Derived.Deep.AppendSrc
import Derived.Lib.Join
import Derived.Test.YtihfhfihladlcaaGreatDoorCore
import Derived.Test.YtihfhfihladlcaaGreatDoorSet
/- Contracts of the reference's functions that put a list of sets in order and take its greatest or its least sets; and of the program's MinimalSets. -/
namespace Go.Proofs.YtihfhfihladlcaaGreatDoor
set_option maxRecDepth 20000
open Go.RowKit
set_option linter.unusedSimpArgs false

/-- The table of the sets of a list. -/
def hasV (l : List Nat) : List Value := (List.range 64).map fun t => .bool (l.contains t)
theorem hasV_nil : hasV [] = List.replicate 64 (.bool false) := by kernel_rfl
theorem hasV_at (l : List Nat) (t : Nat) (ht : t < 64) : (hasV l)[t]? = some (.bool (l.contains t)) := by
  unfold hasV; rw [List.getElem?_map, List.getElem?_range ht]; rfl
theorem hasV_snoc (l : List Nat) (s : Nat) : (hasV l).set s (.bool true) = hasV (l ++ [s]) := by
  apply List.ext_getElem?
  intro i
  rw [List.getElem?_set]
  have hlen : (hasV l).length = 64 := by simp [hasV]
  rw [hlen]
  by_cases hi : i < 64
  · rw [hasV_at _ _ hi, hasV_at _ _ hi]
    by_cases h : s = i
    · subst h; simp [hi]
    · rw [if_neg h]
      have : (l ++ [s]).contains i = l.contains i := by
        rw [Bool.eq_iff_iff]; simp; exact fun e => absurd e.symm h
      rw [this]
  · have : (hasV (l ++ [s]))[i]? = none := by rw [List.getElem?_eq_none]; simp [hasV]; omega
    rw [this]
    have h0 : (hasV l)[i]? = none := by rw [List.getElem?_eq_none]; omega
    rw [h0]
    by_cases h : s = i
    · subst h; simp [hi]
    · simp [h]

set_option maxHeartbeats 1000000 in
theorem l2Order_any (a : Option Addr) (n c : Nat) (l : List Nat) (w : World) (h : IntsAt w a n (up l)) (hl : ∀ s ∈ l, s < 64) :
    Calls Tryz.prog 109 #[.slice a n c] w (RetInts w (up (ord l.contains))) := by
  have hn := h.small
  have hlen := Lib.hid h.len
  go_enter Tryz.func109, Tryz.ntmps109
  go_wp2_with (at_make; refine mk_bools rfl _ _ rfl _ rfl rfl 64 rfl (by omega) ?_; intro g w1 hrow hb1)
  have h1 := h.keep hb1
  go_loopw [4] (fun i wr => ∃ k : Nat, k ≤ n ∧ i = .int .i64 k ∧ Below w.heap.size w wr ∧ Row 4 wr w.heap.size (some ⟨g, 0, none⟩) 64 64 (hasV (l.take k))) (fun i _ => n - (intOf i).toNat)
  case atStart => exact ⟨0, Nat.zero_le _, rfl, hb1, by rw [List.take_zero, hasV_nil]; exact hrow⟩
  case round =>
    obtain ⟨k, hk, rfl, hb, hr⟩ := hrel
    have hx := h.keep hb
    by_cases hlt : k < n
    · obtain ⟨b, off, rfl, hc⟩ := hx.cells (by omega)
      have hck := hc k hlt
      rw [nth_up] at hck
      have hlk : k < l.length := by rw [← up_len, hlen.out]; exact hlt
      have h64 : nthN l k < 64 := hl _ (nthN_mem hlk)
      obtain ⟨g', hg', hB, hgl, hcell, hfr⟩ := hr.cells (by omega)
      simp only [Option.some.injEq, Addr.mk.injEq, and_true] at hg'
      subst hg'
      have hc1 := (hcell _ h64).trans (hasV_at _ _ h64)
      have hf1 := hfr (nthN l k)
      clear hl hc hcell hfr h h1 hx
      go_wp2
      go_roundw
      case rel =>
        refine ⟨k + 1, by omega, by go_num, hb.setCell hB _, ?_⟩
        rw [nthN_take _ _ hlk, ← hasV_snoc]
        exact hr.set _ _
      case measure => simp [intOf]; omega
    · obtain rfl : k = n := by omega
      rw [List.take_of_length_le (by rw [← up_len, hlen.out]; omega)] at hr
      clear hx h1 h hb1 hrow
      have hw := hb.size
      have HB := Lib.hid hb; clear hb
      go_wp2_with fail
      obtain ⟨w0, rfl⟩ : ∃ w0 : World, w0 = wr := ⟨_, rfl⟩
      obtain ⟨B2, hB2⟩ : ∃ B2, B2 = w0.heap.size := ⟨_, rfl⟩
      have HB2 := Lib.hid hB2
      have hB3 : w.heap.size ≤ B2 := by omega
      have hB4 : B2 ≤ w0.heap.size := by omega
      have hlit : Row 4 (w0.alloc (.cells #[] 3)) w.heap.size (some ⟨g, 0, none⟩) 64 64 (hasV l) := hr.alloc _
      have hown0 : Own 3 (w0.alloc (.cells #[] 3)) B2 (some ⟨w0.heap.size, 0, none⟩) 0 0 [] := Own.empty _ _ _ hB4
      have hgB : g < B2 := by rw [hB2]; exact (hr.lt g rfl).2
      clear hB2
      go_loopw [5, 6, 7] (fun v j _ wx => ∃ J : Nat, J ≤ 7 ∧ j = .int .i64 J ∧ Below B2 (w0.alloc (.cells #[] 3)) wx ∧ ∃ ad n c, n ≤ 64 * J ∧ v = .slice ad n c ∧ Own 3 wx B2 ad n c (up (ordTo l.contains J 0))) (fun _ j _ _ => 7 - (intOf j).toNat)
      case atStart => exact ⟨0, Nat.zero_le _, rfl, Below.refl _ _, _, 0, 0, by omega, rfl, hown0⟩
      case round =>
        obtain ⟨J, hJ, rfl, hb, ad, m, c', hm, rfl, hown⟩ := hrel
        by_cases hlt : J < 7
        · obtain ⟨wo, rfl⟩ : ∃ wo : World, wo = wr := ⟨_, rfl⟩
          have hJ6 : (J : Int) ≤ 6 := by omega
          go_wp2_with fail
          go_loopw [5, 7] (fun v s wy => ∃ S : Nat, S ≤ 64 ∧ s = .int .i64 S ∧ Below B2 (w0.alloc (.cells #[] 3)) wy ∧ ∃ ad n c, n ≤ 64 * J + S ∧ v = .slice ad n c ∧ Own 3 wy B2 ad n c (up (ordTo l.contains J S))) (fun _ s _ => 64 - (intOf s).toNat)
          case atStart => exact ⟨0, Nat.zero_le _, rfl, hb, ad, m, c', by omega, rfl, hown⟩
          case round =>
            obtain ⟨S, hS, rfl, hb, ad, m, c', hm, rfl, hown⟩ := hrel
            have hsz := hb.size
            have hbz : B2 ≤ wr.heap.size := by simp at hsz; omega
            have hr3 : Row 4 wr w.heap.size (some ⟨g, 0, none⟩) 64 64 (hasV l) := hlit.other fun q hq _ => hb.block q (by simp only [Option.some.injEq, Addr.mk.injEq, and_true] at hq; omega)
            by_cases hlt2 : S < 64
            · obtain ⟨g', hg', hB, hgl, hcell, hfr⟩ := hr3.cells (by omega)
              simp only [Option.some.injEq, Addr.mk.injEq, and_true] at hg'
              subst hg'
              have hc1 := (hcell _ hlt2).trans (hasV_at _ _ hlt2)
              clear hr3 hcell hfr hlit hr hl
              cases hcs : l.contains S
              · rw [hcs] at hc1
                have hno : ordTo l.contains J (S + 1) = ordTo l.contains J S := ordTo_no (by rw [hcs]; rfl)
                have Hno := Lib.hid hno; clear hno hcs
                go_wp2
                go_roundw
                case rel => exact ⟨S + 1, by omega, by go_num, hb, ad, m, c', by omega, rfl, by rw [Hno.out]; exact hown⟩
                case measure => simp [intOf]; omega
              · rw [hcs] at hc1
                cases hsj : ((sz S : Int) == (J : Int))
                · have hno : ordTo l.contains J (S + 1) = ordTo l.contains J S := ordTo_no (by rw [hcs]; simp at hsj ⊢; omega)
                  have Hno := Lib.hid hno; clear hno hcs
                  go_wp2_with (go_at_call 138; (with_reducible refine (l2Size_any S _ hlt2).mono ?_); rintro e w' ⟨rfl, rfl⟩)
                  go_roundw
                  case rel => exact ⟨S + 1, by omega, by go_num, hb, ad, m, c', by omega, rfl, by rw [Hno.out]; exact hown⟩
                  case measure => simp [intOf]; omega
                · have hno : ordTo l.contains J (S + 1) = ordTo l.contains J S ++ [S] := ordTo_yes (by rw [hcs]; simp at hsj ⊢; omega)
                  have Hno := Lib.hid hno; clear hno hcs
                  go_wp2_with (first | (go_at_call 138; (with_reducible refine (l2Size_any S _ hlt2).mono ?_); rintro e w' ⟨rfl, rfl⟩) | (at_builtin; refine ap rfl _ _ rfl B2 _ _ _ _ _ rfl hown rfl (by omega) hbz ?_; intro ad' c2 w' hown' hb'))
                  go_roundw
                  case rel => exact ⟨S + 1, by omega, by go_num, hb.trans hb', ad', m + 1, c2, by omega, rfl, by rw [Hno.out, up_append]; exact hown'⟩
                  case measure => simp [intOf]; omega
            · obtain rfl : S = 64 := by omega
              have hnx := Lib.hid (ordTo_next l.contains J)
              clear hr hr3 hlit hl
              go_wp2
              go_roundw
              case rel => exact ⟨J + 1, by omega, by go_num, hb, ad, m, c', by omega, rfl, by rw [← hnx.out]; exact hown⟩
              case measure => simp [intOf]; omega
        · obtain rfl : J = 7 := by omega
          have hfin := Lib.hid (ordTo_end l.contains)
          clear hr hlit hl
          go_wp2
          go_ret
          refine ⟨ad, m, c', rfl, ?_, ?_⟩
          · rw [← hfin.out]; exact hown.mono hB3
          · exact (HB.out.trans ((Below.refl _ _).alloc hw _)).trans (hb.mono hB3)

theorem castBeq (a b : Nat) : ((a : Int) == (b : Int)) = (a == b) := by rw [Bool.eq_iff_iff]; simp; omega
theorem castBne (a b : Nat) : ((a : Int) != (b : Int)) = (a != b) := by unfold bne; rw [castBeq]

set_option maxHeartbeats 1000000 in
theorem l2Extreme_any (a : Option Addr) (n c : Nat) (l : List Nat) (g : Bool) (w : World) (h : IntsAt w a n (up l)) (hl : ∀ s ∈ l, s < 64) :
    Calls Tryz.prog 165 #[.slice a n c, .bool g] w (RetInts w (up (extL g l.contains))) := by
  have Hh := Lib.hid h; clear h
  have Hl := Lib.hid hl; clear hl
  go_enter Tryz.func165, Tryz.ntmps165
  go_wp2_with (go_at_call 109; (with_reducible refine (l2Order_any a n c l _ Hh.out Hl.out).mono ?_); rintro e w1 ⟨la, ln, lc, rfl, hown1, hb1⟩)
  obtain ⟨L, hL⟩ : ∃ L, L = ord l.contains := ⟨_, rfl⟩
  rw [← hL] at hown1
  have HL64 := Lib.hid (show ∀ s ∈ L, s < 64 by rw [hL]; exact ord_lt)
  have hLlen : L.length ≤ 64 := by rw [hL]; exact ord_len _
  have HL := Lib.hid hL; clear hL
  have hln : L.length = ln := by rw [← up_len]; exact hown1.len
  have h64 : ln ≤ 64 := by omega
  have Hln := Lib.hid hln; clear hln hLlen
  have hr1 := hown1.reads
  have Hb1 := Lib.hid hb1
  have hsz1 := hb1.size
  clear hb1
  obtain ⟨B2, hB2⟩ : ∃ B2, B2 = w1.heap.size := ⟨_, rfl⟩
  have hB4 : B2 ≤ w1.heap.size := by omega
  have hown0 : Own 3 (w1.alloc (.cells #[] 3)) B2 (some ⟨w1.heap.size, 0, none⟩) 0 0 [] := Own.empty _ _ _ hB4
  have HB2 := Lib.hid hB2; clear hB2
  go_loopw [6, 7, 8, 9, 10, 11] (fun v i _ _ _ _ wr => ∃ k : Nat, k ≤ ln ∧ i = .int .i64 k ∧ Below B2 (w1.alloc (.cells #[] 3)) wr ∧ ∃ ad n c, n ≤ k ∧ v = .slice ad n c ∧ Own 3 wr B2 ad n c (up (extTo g L k))) (fun _ i _ _ _ _ _ => ln - (intOf i).toNat)
  case atStart => exact ⟨0, Nat.zero_le _, rfl, Below.refl _ _, _, 0, 0, Nat.le_refl _, rfl, hown0⟩
  case round =>
    obtain ⟨k, hk, rfl, hb, ad, m, c', hm, rfl, hown⟩ := hrel
    have hbw : Below w1.heap.size w1 wr := ((Below.refl _ w1).alloc (Nat.le_refl _) _).trans (by rw [← HB2.out]; exact hb)
    have hr := hr1.keep hbw
    have hsz := hbw.size
    rw [← HB2.out] at hsz
    by_cases hlt : k < ln
    · obtain ⟨b, off, rfl, hc⟩ := hr.cells (by omega)
      have hck := hc k hlt
      rw [nth_up] at hck
      have hlk : k < L.length := by rw [Hln.out]; exact hlt
      obtain ⟨s, hs⟩ : ∃ s, s = nthN L k := ⟨_, rfl⟩
      have hs64 : s < 64 := by rw [hs]; exact HL64.out _ (nthN_mem hlk)
      rw [← hs] at hck
      have Hs := Lib.hid hs; clear hs
      have Hc := Lib.hid hc; clear hc hr hr1 hown1 hown0 hbw
      go_wp2_with fail
      go_loop [8, 9, 10, 11] (fun f j _ _ => ∃ q : Nat, q ≤ ln ∧ j = .int .i64 q ∧ f = .bool (fineTo g L s q)) (fun _ j _ _ => ln - (intOf j).toNat)
      case atStart => exact ⟨0, Nat.zero_le _, rfl, rfl⟩
      case round =>
        obtain ⟨q, hq, rfl, rfl⟩ := hrel
        by_cases hlt2 : q < ln
        · have hcq := Hc.out q hlt2
          rw [nth_up] at hcq
          have hqL : q < L.length := by rw [Hln.out]; exact hlt2
          obtain ⟨t, ht⟩ : ∃ t, t = nthN L q := ⟨_, rfl⟩
          have ht64 : t < 64 := by rw [ht]; exact HL64.out _ (nthN_mem hqL)
          rw [← ht] at hcq
          have hsucc := Lib.hid (show fineTo g L s (q + 1) = (fineTo g L s q && !bad g s t) by rw [fineTo_succ g L s q hqL, ht])
          clear ht
          cases g
          · cases h1 : ((s : Int) != (t : Int))
            · go_wp2
              go_round
              case rel => exact ⟨q + 1, by omega, by go_num, by rw [hsucc.out]; unfold bad; rw [castBne] at h1; simp [h1]⟩
              case measure => simp [intOf]; omega
            · cases h2 : (((s &&& t : Nat) : Int) == (t : Int))
              · go_wp2
                go_round
                case rel => exact ⟨q + 1, by omega, by go_num, by rw [hsucc.out]; unfold bad; rw [castBeq] at h2; simp [h2]⟩
                case measure => simp [intOf]; omega
              · go_wp2
                go_round
                case rel => exact ⟨q + 1, by omega, by go_num, by rw [hsucc.out]; unfold bad; rw [castBeq] at h2; rw [castBne] at h1; simp [h1, h2]⟩
                case measure => simp [intOf]; omega
          · cases h1 : ((s : Int) != (t : Int))
            · go_wp2
              go_round
              case rel => exact ⟨q + 1, by omega, by go_num, by rw [hsucc.out]; unfold bad; rw [castBne] at h1; simp [h1]⟩
              case measure => simp [intOf]; omega
            · cases h2 : (((s &&& t : Nat) : Int) == (s : Int))
              · go_wp2
                go_round
                case rel => exact ⟨q + 1, by omega, by go_num, by rw [hsucc.out]; unfold bad; rw [castBeq] at h2; simp [h2]⟩
                case measure => simp [intOf]; omega
              · go_wp2
                go_round
                case rel => exact ⟨q + 1, by omega, by go_num, by rw [hsucc.out]; unfold bad; rw [castBeq] at h2; rw [castBne] at h1; simp [h1, h2]⟩
                case measure => simp [intOf]; omega
        · obtain rfl : q = ln := by omega
          cases hf : fineTo g L s q
          · have Hno := Lib.hid (extTo_no (g := g) (l := L) hlk (by rw [← Hs.out, Hln.out]; exact hf))
            go_wp2
            go_roundw
            case rel => exact ⟨k + 1, by omega, by go_num, hb, ad, m, c', by omega, rfl, by rw [Hno.out]; exact hown⟩
            case measure => simp [intOf]; omega
          · have Hno := Lib.hid (extTo_yes (g := g) (l := L) hlk (by rw [← Hs.out, Hln.out]; exact hf))
            go_wp2_with (at_builtin; refine ap rfl _ _ rfl B2 _ _ _ _ _ rfl hown rfl (by omega) hsz ?_; intro ad' c2 w' hown' hb')
            go_roundw
            case rel => exact ⟨k + 1, by omega, by go_num, hb.trans hb', ad', m + 1, c2, by omega, rfl, by rw [Hno.out, up_append, ← Hs.out]; exact hown'⟩
            case measure => simp [intOf]; omega
    · obtain rfl : k = ln := by omega
      clear hr hr1 hown1 hown0
      go_wp2
      go_ret
      refine ⟨ad, m, c', rfl, ?_, ?_⟩
      · rw [← Hln.out, HL.out, extTo_ord] at hown
        exact hown.mono (by rw [HB2.out]; exact hsz1)
      · exact Hb1.out.trans (hbw.mono hsz1)

theorem MinimalSets_yes (a : Option Addr) (n c : Nat) (l : List Nat) (w : World) (h : IntsAt w a n (up l)) (hl : ∀ s ∈ l, s < 64) :
    Calls Tryz.prog 99 #[.slice a n c] w (RetInts w (up (minL l.contains))) := by
  have Hh := Lib.hid h; clear h
  have Hl := Lib.hid hl; clear hl
  have hF := fam_Fam l.contains
  go_enter Tryz.func99, Tryz.ntmps99
  go_wp2_with (first | (go_at_call 172; (with_reducible refine (familyOf_yes a n c l _ Hh.out Hl.out).mono ?_); rintro e w' ⟨rfl, rfl⟩) | (go_at_call 163; (with_reducible refine (minimalIn_any _ _ hF).mono ?_); rintro e w1 ⟨la, ln, lc, rfl, hown1, hb1⟩))
  go_ret
  refine ⟨la, ln, lc, rfl, ?_, hb1⟩
  rw [minL_congr fun s hs => fam_at hs] at hown1
  exact hown1

end Go.Proofs.YtihfhfihladlcaaGreatDoor

/- Texts: parting at a byte, sets out of texts. Plain laws and contracts, the program's and the reference's. -/
namespace Go.Proofs.YtihfhfihladlcaaGreatDoor
set_option maxRecDepth 20000
open Go.RowKit
set_option linter.unusedSimpArgs false
set_option linter.unusedVariables false

/-- the bytes of a string -/
def byt (t : ByteArray) : List UInt8 := t.data.toList
theorem byt_len (t : ByteArray) : (byt t).length = t.size := (Lib.size_eq t).symm
theorem byt_at (t : ByteArray) (k : Nat) (h : k < t.size) : ∃ h', (byt t)[k]'h' = t[k] := ⟨by rw [byt_len]; exact h, rfl⟩
theorem byt_extract (t : ByteArray) (a b : Nat) : byt (t.extract a b) = ((byt t).take b).drop a := by
  unfold byt; rw [Lib.extract_data, List.drop_take]
theorem byt_drop (t : ByteArray) (k : Nat) (h : k < t.size) : (byt t).drop k = t[k] :: (byt t).drop (k + 1) := by
  obtain ⟨h', e⟩ := byt_at t k h
  exact List.drop_eq_getElem_cons h'
theorem byt_take (t : ByteArray) (k : Nat) (h : k < t.size) : (byt t).take (k + 1) = (byt t).take k ++ [t[k]] := by
  obtain ⟨h', e⟩ := byt_at t k h
  exact List.take_succ_eq_append_getElem h'
theorem byt_inj {s t : ByteArray} (h : byt s = byt t) : s = t := ByteArray.ext (Array.toList_inj.1 h)

/-- the parts of the bytes that follow, where cur is the part begun -/
def spl (b : UInt8) : List UInt8 → List UInt8 → List (List UInt8)
  | cur, [] => [cur]
  | cur, x :: r => if x = b then cur :: spl b [] r else spl b (cur ++ [x]) r
/-- .. after I bytes, the part begun at S -/
def splAt (b : UInt8) (t : ByteArray) (S I : Nat) : List (List UInt8) := spl b (((byt t).take I).drop S) ((byt t).drop I)
theorem splAt_zero (b : UInt8) (t : ByteArray) : splAt b t 0 0 = spl b [] (byt t) := rfl
theorem splAt_yes {b : UInt8} {t : ByteArray} {S I : Nat} (h : I < t.size) (hb : t[I] = b) : splAt b t S I = byt (t.extract S I) :: splAt b t (I + 1) (I + 1) := by
  unfold splAt
  rw [byt_drop t I h, spl, if_pos hb, byt_extract]
  congr 2
  rw [List.drop_eq_nil_of_le]; simp
  omega
theorem splAt_no {b : UInt8} {t : ByteArray} {S I : Nat} (h : I < t.size) (hs : S ≤ I) (hb : t[I] ≠ b) : splAt b t S I = splAt b t S (I + 1) := by
  unfold splAt
  rw [byt_drop t I h, spl, if_neg hb, byt_take t I h, List.drop_append_of_le_length]
  rw [List.length_take, byt_len]; omega
theorem splAt_end {b : UInt8} {t : ByteArray} {S I : Nat} (h : I = t.size) : splAt b t S I = [byt (t.extract S I)] := by
  unfold splAt
  have e : (byt t).drop I = [] := List.drop_eq_nil_of_le (by rw [byt_len]; omega)
  rw [e, byt_extract]; rfl
theorem spl_count (b : UInt8) : ∀ (r cur : List UInt8), (spl b cur r).length ≤ r.length + 1
  | [], cur => by simp [spl]
  | x :: r, cur => by
    unfold spl
    split
    · have := spl_count b r []; simp; omega
    · have := spl_count b r (cur ++ [x]); simp; omega
theorem u8_beq (x b : UInt8) (v : Int) (hv : v = (b.toNat : Int)) : ((x.toNat : Int) == v) = true ↔ x = b := by
  rw [hv, beq_iff_eq, Int.natCast_inj, UInt8.toNat_inj]
theorem u8_eq {x b : UInt8} {v : Int} (hv : v = (b.toNat : Int)) (h : x = b) : ((x.toNat : Int) == v) = true := (u8_beq x b v hv).2 h
theorem u8_ne {x b : UInt8} {v : Int} (hv : v = (b.toNat : Int)) (h : x ≠ b) : ((x.toNat : Int) == v) = false := by
  cases hb : ((x.toNat : Int) == v)
  · rfl
  · exact absurd ((u8_beq x b v hv).1 hb) h

theorem infoStr : (Tryz.prog.info? 9).map (fun i => (i.zero, i.size, i.bytes)) = some (some (.string ByteArray.empty), 1, 16) := by kernel_rfl
/-- append of one text to a row of texts of the call's own -/
theorem ap_str {ops : Array Oper} {rest : List Oper} {o : Oper} {a : Act} {Q : Exit → Act → World → Prop} {w0 : World} (hgd : o.guard = none) (s x : Operand)
    (ho : o.op = .call { callee := .builtin .append, args := #[s, x], argTypes := #[99, 99] })
    (B : Nat) (ad : Option Addr) (n c : Nat) (L : List ByteArray) (y : ByteArray) (hs : a.eval s = .slice ad n c) (hown : Row 9 w0 B ad n c (L.map Value.string))
    (hx : a.eval x = .slice (some ⟨w0.heap.size, 0, none⟩) 1 1) (hn : n < 1099511627776) (hB : B ≤ w0.heap.size)
    (h : ∀ ad' c' w', Row 9 w' B ad' (n + 1) c' ((L ++ [y]).map Value.string) → Below B w0 w' → wpList Tryz.prog ops Q rest (a.put o.dst (.slice ad' (n + 1 : Nat) c')) w') :
    wpList Tryz.prog ops Q (o :: rest) a (w0.alloc (.cells #[.string y] 9)) :=
  ap_row Tryz.underlying99 infoStr rfl hgd s x ho B ad n c _ _ hs hown hx rfl hn (by omega) hB fun ad' c' w' h1 h2 h3 => h ad' c' w' (by rw [List.map_append]; exact h1) h2
/-- a row of texts, new -/
def RetStrs (w : World) (L : List (List UInt8)) (e : Ending) (w' : World) : Prop :=
  ∃ ad n c, ∃ S : List ByteArray, e = .returned (.slice ad n c) ∧ Row 9 w' w.heap.size ad n c (S.map Value.string) ∧ S.map byt = L ∧ Below w.heap.size w w'

set_option maxHeartbeats 400000 in
theorem iSplit_any (t : ByteArray) (b : UInt8) (v : Int) (hv : v = (b.toNat : Int)) (w : World) (ht : t.size ≤ 1048576) :
    Calls Tryz.prog 125 #[.string t, .int .u8 v] w (RetStrs w (spl b [] (byt t))) := by
  have HV := Lib.hid hv; clear hv
  go_enter Tryz.func125, Tryz.ntmps125
  go_wp2_with fail
  go_loopw [5, 6, 7] (fun o s i wr => ∃ (S I : Nat) (L : List ByteArray), S ≤ I ∧ I ≤ t.size ∧ i = .int .i64 I ∧ s = .int .i64 S ∧ Hid (spl b [] (byt t) = L.map byt ++ splAt b t S I) ∧ Below w.heap.size w wr ∧ ∃ ad k d, o = .slice ad k d ∧ k ≤ I ∧ Row 9 wr w.heap.size ad k d (L.map Value.string)) (fun _ _ i _ => t.size - (intOf i).toNat)
  case atStart => exact ⟨0, 0, [], Nat.le_refl _, Nat.zero_le _, rfl, rfl, Lib.hid rfl, Below.refl _ _, none, 0, 0, rfl, Nat.le_refl _, Row.nil _ _ _⟩
  case round =>
    obtain ⟨S, I, L, hS, hI, rfl, rfl, hL, hbr, ad, k, d, rfl, hk, hrow⟩ := hrel
    have HBr := Lib.hid hbr; have HR := Lib.hid hrow
    have hzr : w.heap.size ≤ wr.heap.size := hbr.size
    clear hbr hrow
    by_cases hlt : I < t.size
    · by_cases hb : t[I] = b
      · have hq := u8_eq HV.out hb
        have Hy := Lib.hid (splAt_yes (S := S) hlt hb)
        clear hb
        go_wp2_with (at_builtin; refine ap_str rfl _ _ rfl w.heap.size _ _ _ _ _ rfl HR.out rfl (by omega) hzr ?_; intro ad5 d5 w5 hrow5 hb5; have HR5 := Lib.hid hrow5; have HB5 := Lib.hid (HBr.out.trans hb5); clear hrow5 hb5)
        go_roundw
        case rel => exact ⟨I + 1, I + 1, _, by omega, by omega, by go_num, by go_num, Lib.hid (by rw [hL.out, Hy.out]; simp), HB5.out, ad5, k + 1, d5, rfl, by omega, HR5.out⟩
        case measure => simp [intOf]; omega
      · have hq := u8_ne HV.out hb
        have Hn := Lib.hid (splAt_no hlt hS hb)
        clear hb
        go_wp2_with fail
        go_roundw
        case rel => exact ⟨S, I + 1, L, by omega, by omega, by go_num, rfl, Lib.hid (by rw [hL.out, Hn.out]), HBr.out, ad, k, d, rfl, by omega, HR.out⟩
        case measure => simp [intOf]; omega
    · obtain rfl : I = t.size := by omega
      have He := Lib.hid (splAt_end (b := b) (t := t) (S := S) rfl)
      go_wp2_with (at_builtin; refine ap_str rfl _ _ rfl w.heap.size _ _ _ _ _ rfl HR.out rfl (by omega) hzr ?_; intro ad5 d5 w5 hrow5 hb5; have HR5 := Lib.hid hrow5; have HB5 := Lib.hid (HBr.out.trans hb5); clear hrow5 hb5)
      go_ret
      exact ⟨ad5, k + 1, d5, _, rfl, HR5.out, by rw [hL.out, He.out]; simp, HB5.out⟩
set_option maxHeartbeats 400000 in
theorem sSplit_any (t : ByteArray) (b : UInt8) (v : Int) (hv : v = (b.toNat : Int)) (w : World) (ht : t.size ≤ 1048576) :
    Calls Tryz.prog 127 #[.string t, .int .u8 v] w (RetStrs w (spl b [] (byt t))) := by
  have HV := Lib.hid hv; clear hv
  have HE : Hid (Row 9 (w.alloc (.cells #[] 9)) w.heap.size (some ⟨w.heap.size, 0, none⟩) 0 0 (([] : List ByteArray).map Value.string)) := Lib.hid ⟨rfl, World.ownsRow_made w #[] 0 (Nat.le_refl _) (by decide) (by simp)⟩
  go_enter Tryz.func127, Tryz.ntmps127
  go_wp2_with fail
  go_loopw [5, 6, 7] (fun o s i wr => ∃ (S I : Nat) (L : List ByteArray), I ≤ t.size + 1 ∧ i = .int .i64 I ∧ s = .int .i64 S ∧ ((S ≤ I ∧ I ≤ t.size ∧ Hid (spl b [] (byt t) = L.map byt ++ splAt b t S I)) ∨ (I = t.size + 1 ∧ Hid (spl b [] (byt t) = L.map byt))) ∧ Below w.heap.size w wr ∧ ∃ ad k d, o = .slice ad k d ∧ k ≤ I ∧ Row 9 wr w.heap.size ad k d (L.map Value.string)) (fun _ _ i _ => t.size + 1 - (intOf i).toNat)
  case atStart => exact ⟨0, 0, [], Nat.zero_le _, rfl, rfl, .inl ⟨Nat.zero_le _, Nat.zero_le _, Lib.hid rfl⟩, (by repeat (first | exact Below.refl _ _ | assumption | refine Below.setCell ?_ (by first | omega | (simp; done) | (simp; omega)) _ | refine Below.alloc ?_ (by first | omega | (simp; done) | (simp; omega)) _ | apply Below.drew)), _, 0, 0, rfl, Nat.le_refl _, HE.out⟩
  case round =>
    obtain ⟨S, I, L, hI, rfl, rfl, hL, hbr, ad, k, d, rfl, hk, hrow⟩ := hrel
    have HBr := Lib.hid hbr; have HR := Lib.hid hrow
    have hzr : w.heap.size ≤ wr.heap.size := hbr.size
    clear hbr hrow
    rcases hL with ⟨hS, hI, hL⟩ | ⟨hI, hL⟩
    · by_cases hlt : I < t.size
      · have hle : (I : Int) ≤ t.size := by omega
        have hne : ((I : Int) == t.size) = false := by simp; omega
        by_cases hb : t[I] = b
        · have hq := u8_eq HV.out hb
          have Hy := Lib.hid (splAt_yes (S := S) hlt hb)
          clear hb
          go_wp2_with (at_builtin; refine ap_str rfl _ _ rfl w.heap.size _ _ _ _ _ rfl HR.out rfl (by omega) hzr ?_; intro ad5 d5 w5 hrow5 hb5; have HR5 := Lib.hid hrow5; have HB5 := Lib.hid (HBr.out.trans hb5); clear hrow5 hb5)
          go_roundw
          case rel => exact ⟨I + 1, I + 1, _, by omega, by go_num, by go_num, .inl ⟨by omega, by omega, Lib.hid (by rw [hL.out, Hy.out]; simp)⟩, HB5.out, ad5, k + 1, d5, rfl, by omega, HR5.out⟩
          case measure => simp [intOf]; omega
        · have hq := u8_ne HV.out hb
          have Hn := Lib.hid (splAt_no hlt hS hb)
          clear hb
          go_wp2_with fail
          go_roundw
          case rel => exact ⟨S, I + 1, L, by omega, by go_num, rfl, .inl ⟨by omega, by omega, Lib.hid (by rw [hL.out, Hn.out])⟩, HBr.out, ad, k, d, rfl, by omega, HR.out⟩
          case measure => simp [intOf]; omega
      · obtain rfl : I = t.size := by omega
        have He := Lib.hid (splAt_end (b := b) (t := t) (S := S) rfl)
        go_wp2_with (at_builtin; refine ap_str rfl _ _ rfl w.heap.size _ _ _ _ _ rfl HR.out rfl (by omega) hzr ?_; intro ad5 d5 w5 hrow5 hb5; have HR5 := Lib.hid hrow5; have HB5 := Lib.hid (HBr.out.trans hb5); clear hrow5 hb5)
        go_roundw
        case rel => exact ⟨t.size + 1, t.size + 1, _, by omega, by go_num, by go_num, .inr ⟨rfl, Lib.hid (by rw [hL.out, He.out]; simp)⟩, HB5.out, ad5, k + 1, d5, rfl, by omega, HR5.out⟩
        case measure => simp [intOf]
    · subst hI
      have hle : ¬ (((t.size + 1 : Nat) : Int) ≤ t.size) := by omega
      go_wp2_with fail
      go_ret
      exact ⟨ad, k, d, _, rfl, HR.out, hL.out.symm, HBr.out⟩
end Go.Proofs.YtihfhfihladlcaaGreatDoor

/- Contracts of the functions that write sets as texts: the program's and the reference's. -/
namespace Go.Proofs.YtihfhfihladlcaaGreatDoor
set_option maxRecDepth 20000
open Go.RowKit
set_option linter.unusedSimpArgs false

/-- A string of these bytes. -/
def str (l : List UInt8) : ByteArray := ⟨l.toArray⟩
theorem str_append (l m : List UInt8) : str l ++ str m = str (l ++ m) := by
  apply ByteArray.ext
  simp [str]
theorem str_size (l : List UInt8) : (str l).size = l.length := by simp [str, ByteArray.size]
theorem str_inj {l m : List UInt8} (h : str l = str m) : l = m := by
  have := congrArg (fun b => b.data.toList) h
  simpa [str] using this

/-- The letter of a point. -/
def letter (i : Nat) : UInt8 := UInt8.ofNat (97 + i)
theorem letter_nat {i : Nat} (h : i < 6) : (letter i).toNat = 97 + i := by unfold letter; rw [UInt8.toNat_ofNat']; omega
def lettersTo (s k : Nat) : List UInt8 := (ptsTo s k).map letter
/-- The text of a set. -/
def setText (s : Nat) : List UInt8 := if s = 0 then [45] else (pts s).map letter
theorem lettersTo_yes {s k : Nat} (h : s.testBit k = true) : lettersTo s (k + 1) = lettersTo s k ++ [letter k] := by unfold lettersTo; rw [ptsTo_yes h, List.map_append]; rfl
theorem lettersTo_no {s k : Nat} (h : s.testBit k = false) : lettersTo s (k + 1) = lettersTo s k := by unfold lettersTo; rw [ptsTo_no h]
theorem lettersTo_len (s k : Nat) : (lettersTo s k).length ≤ k := by unfold lettersTo; rw [List.length_map]; exact ptsTo_len s k
theorem setText_len (s : Nat) : (setText s).length ≤ 6 := by
  unfold setText pts
  split
  · simp
  · exact lettersTo_len s 6
theorem abc : ∀ k, k < 6 → ({ data := #[97, 98, 99, 100, 101, 102] } : ByteArray).extract k (k + 1) = str [letter k] := by decide +kernel

set_option maxHeartbeats 400000 in
theorem sSetText_yes (s : Nat) (w : World) (hs : s < 64) :
    Calls Tryz.prog 185 #[.int .i64 s] w fun e w' => e = .returned (.string (str (setText s))) ∧ w = w' := by
  by_cases h0 : s = 0
  · subst h0
    go_enter Tryz.func185, Tryz.ntmps185
    go_wp2_with (go_at_call 110; (with_reducible refine (l1In_yes 0 0 63 _ (by omega) (by omega)).mono ?_); rintro e w' ⟨rfl, rfl⟩)
    go_ret
    exact ⟨rfl, rfl⟩
  · have H0 := Lib.hid h0
    have hz : ((s : Int) == 0) = false := by simp; omega
    clear h0
    go_enter Tryz.func185, Tryz.ntmps185
    go_wp2_with (go_at_call 110; (with_reducible refine (l1In_set s _ hs).mono ?_); rintro e w' ⟨rfl, rfl⟩)
    go_loop [3, 4] (fun v i => ∃ (k : Nat) (t : ByteArray), k ≤ 6 ∧ i = .int .i64 k ∧ v = .string t ∧ t.size ≤ k ∧ Hid (t = str (lettersTo s k))) (fun _ i => 6 - (intOf i).toNat)
    case atStart => exact ⟨0, _, Nat.zero_le _, rfl, rfl, Nat.le_refl _, Lib.hid rfl⟩
    case round =>
      obtain ⟨k, t, hk, rfl, rfl, hsz, ht⟩ := hrel
      by_cases hlt : k < 6
      · cases hb : s.testBit k
        · go_wp2
          go_round
          case rel => exact ⟨k + 1, _, by omega, by go_num, rfl, by omega, Lib.hid (by rw [lettersTo_no hb]; exact ht.out)⟩
          case measure => simp [intOf]; omega
        · have Habc := Lib.hid (abc k hlt)
          go_wp2
          go_round
          case rel =>
            refine ⟨k + 1, _, by omega, by go_num, rfl, ?_, Lib.hid ?_⟩
            · rw [ht.out, Habc.out, str_append, str_size, ← lettersTo_yes hb]; exact lettersTo_len _ _
            · rw [ht.out, Habc.out, str_append, lettersTo_yes hb]
          case measure => simp [intOf]; omega
      · obtain rfl : k = 6 := by omega
        go_wp2
        go_ret
        refine ⟨?_, rfl⟩
        have e : setText s = lettersTo s 6 := by unfold setText; rw [if_neg H0.out]; rfl
        rw [e, ← ht.out]; rfl

set_option maxHeartbeats 400000 in
theorem iSetText_yes (s : Nat) (w : World) (hs : s < 64) :
    Calls Tryz.prog 175 #[.int .i64 s] w fun e w' => e = .returned (.string (str (setText s))) ∧ Below w.heap.size w w' := by
  by_cases h0 : s = 0
  · subst h0
    go_enter Tryz.func175, Tryz.ntmps175
    go_wp2_with (go_at_call 93; (with_reducible refine (IsSet60 _).mono ?_); rintro e w' ⟨rfl, rfl⟩)
    go_ret
    exact ⟨rfl, Below.refl _ _⟩
  · have H0 := Lib.hid h0
    have hz : ((s : Int) == 0) = false := by simp; omega
    clear h0
    go_enter Tryz.func175, Tryz.ntmps175
    go_wp2_with (first | (go_at_call 93; (with_reducible refine (IsSet6 s _ hs).mono ?_); rintro e w' ⟨rfl, rfl⟩) | (at_make; refine mk_bytes0 rfl _ _ rfl _ rfl rfl 6 rfl (by omega) ?_; intro g w1 hrow hb1) | (go_at_call 117; (with_reducible refine (PointsOf_any s _ hs).mono ?_); rintro e w2 ⟨la, ln, lc, rfl, hl, hb2⟩))
    have hrow2 := hrow.keep hb2
    have hgl := (hrow.lt g rfl).2
    have hgw := (hrow.lt g rfl).1
    have hln : (pts s).length = ln := by rw [← up_len]; exact hl.len
    have hln6 : ln ≤ 6 := by rw [← hln]; exact ptsTo_len s 6
    have Hln := Lib.hid hln
    have Hb : Hid (Below w.heap.size w w2) := Lib.hid (hb1.trans (hb2.mono hb1.size))
    have Hrow := Lib.hid hrow2
    clear hln hrow hrow2 hb1 hb2
    go_loopw [3, 5, 15] (fun v _ i wr => ∃ k : Nat, k ≤ ln ∧ i = .int .i64 k ∧ Below w.heap.size w2 wr ∧ Own 3 wr w1.heap.size la ln lc (up (pts s)) ∧ v = .slice (some ⟨g, 0, none⟩) k 6 ∧ Row 5 wr w.heap.size (some ⟨g, 0, none⟩) k 6 (bval (((pts s).take k).map letter))) (fun _ _ i _ => ln - (intOf i).toNat)
    case atStart => exact ⟨0, Nat.zero_le _, rfl, Below.refl _ _, hl, rfl, Hrow.out⟩
    case round =>
      clear hl
      obtain ⟨k, hk, rfl, hb, hl, rfl, hown⟩ := hrel
      by_cases hlt : k < ln
      · obtain ⟨b, off, rfl, hc⟩ := hl.reads.cells (by omega)
        have hck := hc k hlt
        rw [nth_up] at hck
        have hkp : k < (pts s).length := by rw [Hln.out]; exact hlt
        obtain ⟨i, hi⟩ : ∃ i, i = nthN (pts s) k := ⟨_, rfl⟩
        have hi6 : i < 6 := by rw [hi]; exact pts_lt _ (nthN_mem hkp)
        rw [← hi] at hck
        have hst := Lib.hid (show bval (((pts s).take (k + 1)).map letter) = bval (((pts s).take k).map letter ++ [letter i]) by rw [nthN_take _ _ hkp, List.map_append, hi]; rfl)
        have hlet := letter_nat hi6
        have Hlet := Lib.hid (show (97 + (i : Int)) = ((letter i).toNat : Int) by omega)
        clear hi hc hlet
        go_wp2_with (at_builtin; refine ap_bytefit rfl _ _ rfl w.heap.size g _ _ _ _ (letter i) Hlet.out rfl hown rfl (by omega) ?_; intro w' hown' hg')
        go_roundw
        case rel => exact ⟨k + 1, by omega, by go_num, hb.grown hg' (by have := hb.size; have := Hb.out.size; omega) (fun k hk => by cases hk; exact hgw), hl.grown hg' (fun k hk => by cases hk; exact hgl), rfl, by rw [hst.out]; exact hown'⟩
        case measure => simp [intOf]; omega
      · obtain rfl : k = ln := by omega
        have hrun := run_str hown
        clear hl
        go_wp2
        go_ret
        refine ⟨?_, Hb.out.trans hb⟩
        have e : setText s = ((pts s).take k).map letter := by
          unfold setText; rw [if_neg H0.out, List.take_of_length_le (by rw [Hln.out]; omega)]
        rw [e, List.map_take]; rfl


end Go.Proofs.YtihfhfihladlcaaGreatDoor

/- append of a text to a row of bytes of the call's own. -/
namespace Go.Proofs.YtihfhfihladlcaaGreatDoor
set_option maxRecDepth 20000
open Go.RowKit
set_option linter.unusedSimpArgs false
set_option linter.unusedVariables false

/-- a row written over from o on -/
theorem Row.setCells {T B g n c : Nat} : ∀ (vs us : List Value) (o : Nat) (w : World), Row T w B (some ⟨g, 0, none⟩) n c us → o + vs.length ≤ n → Row T (w.setCells g o vs) B (some ⟨g, 0, none⟩) n c (us.take o ++ vs ++ us.drop (o + vs.length)) := by
  intro vs
  induction vs with
  | nil => intro us o w h _; simpa [World.setCells] using h
  | cons v vs ih =>
    intro us o w h hl
    rw [List.length_cons] at hl
    have h1 := ih (us.set o v) (o + 1) (w.setCell ⟨g, o, none⟩ v) (h.set o v) (by omega)
    have hul : us.length = n := h.len
    have e : (us.set o v).take (o + 1) ++ vs ++ (us.set o v).drop (o + 1 + vs.length) = us.take o ++ (v :: vs) ++ us.drop (o + (v :: vs).length) := by
      rw [List.take_succ_eq_append_getElem (by rw [List.length_set]; omega), List.getElem_set_self, List.take_set_of_le (Nat.le_refl _), List.drop_set_of_lt (by omega), List.length_cons, show o + 1 + vs.length = o + (vs.length + 1) by omega]
      simp
    rw [e] at h1
    exact h1
theorem byteCells_byt (t : ByteArray) : byteCells t = bval t.data.toList := by
  unfold byteCells bval
  rfl
theorem run_ap_text {W : World} (B ty g n c : Nat) (l : List UInt8) (hown : Row 5 W B (some ⟨g, 0, none⟩) n c (bval l)) (t : ByteArray) (hn : n + t.size < 1099511627776) (hB : B ≤ W.heap.size) :
    ∃ g' c' w', (Builtin.append_ #[22, 9] ty #[.slice (some ⟨g, 0, none⟩) n c, .string t]).run Tryz.prog W = .ok (.slice (some ⟨g', 0, none⟩) (n + t.size : Nat) c') w' ∧ Row 5 w' B (some ⟨g', 0, none⟩) (n + t.size) c' (bval (l ++ t.data.toList)) ∧ Below B W w' := by
  obtain ⟨i, hi, hz0, hz1, hz2⟩ := info_parts infoByte
  have hsrc : Src Tryz.prog i.size 9 (.string t) t.size (byteCells t) W := by rw [hz1]; exact Src.ofString W Tryz.underlying9 t
  have hll : (bval l).length = n := hown.len
  have hbl : (byteCells t).length = t.size := byteCells_length t
  rcases hown.row.2 with ⟨h0, _⟩ | ⟨g1, cap, cur, he, hbg, hg, hnc, hcm, hcs, htake⟩
  · cases h0
  · cases he
    rw [Nat.mul_one] at hcs htake
    by_cases hroom : n + t.size ≤ c
    · have hext : Row 5 W B (some ⟨g, 0, none⟩) (n + t.size) c (cur.toList.take (n + t.size)) :=
        ⟨by rw [List.length_take, Array.length_toList]; omega, by rw [List.length_take, Array.length_toList]; omega, .inr ⟨g, c, cur, rfl, hbg, hg, hroom, hcm, by rw [Nat.mul_one]; exact hcs, by rw [Nat.mul_one]⟩⟩
      have hset := Row.setCells (byteCells t) _ n W hext (by rw [hbl]; exact Nat.le_refl _)
      have e : (cur.toList.take (n + t.size)).take n ++ byteCells t ++ (cur.toList.take (n + t.size)).drop (n + (byteCells t).length) = bval (l ++ t.data.toList) := by
        rw [List.take_take, Nat.min_eq_left (by omega), htake, hbl, List.drop_eq_nil_of_le (by rw [List.length_take]; omega), List.append_nil, byteCells_byt]
        unfold bval
        rw [List.map_append]
      rw [e] at hset
      have hcells : ∀ j, j < (byteCells t).length → (W.cell? ⟨g, 0 + n * i.size + j, none⟩).isSome = true ∧ W.frozen? ⟨g, 0 + n * i.size + j, none⟩ = false := fun j hj => by
        rw [hbl] at hj
        obtain ⟨g9, hg9, _, _, hc, hf⟩ := hext.cells (by omega)
        cases hg9
        rw [hz1, Nat.mul_one, Nat.zero_add]
        refine ⟨?_, hf (n + j)⟩
        rw [hc (n + j) (by omega), List.getElem?_eq_getElem (by rw [List.length_take, Array.length_toList]; omega)]; rfl
      have hr := run_append_room_src (P := Tryz.prog) W 22 9 ty 5 i Tryz.underlying22 hi g 0 n c (.string t) t.size (byteCells t) hsrc hroom (fun j hj => (hcells j hj).1) (fun j hj => (hcells j hj).2)
      rw [hz1, Nat.mul_one, Nat.zero_add] at hr
      refine ⟨g, c, _, hr, hset, ?_⟩
      have hsz : (W.setCells g n (byteCells t)).heap.size = W.heap.size := by
        have : ∀ (vs : List Value) (o : Nat) (w : World), (w.setCells g o vs).heap.size = w.heap.size := by
          intro vs
          induction vs with
          | nil => intro o w; rfl
          | cons v vs ih => intro o w; simp [World.setCells, ih]
        exact this _ _ _
      have hbe : ∀ (vs : List Value) (o : Nat) (w : World), Below B W w → Below B W (w.setCells g o vs) := by
        intro vs
        induction vs with
        | nil => intro o w h; exact h
        | cons v vs ih => intro o w h; exact ih _ _ (h.setCell hbg _)
      exact hbe _ _ _ (Below.refl _ _)
    · have holds : ∀ j u, (bval l)[j]? = some u → W.drew.cell? ((⟨g, 0, none⟩ : Addr).add j) = some u := hown.drew.row.cells (g := g) rfl
      have hold : (Builtin.firstCells i.size n (.slice (some ⟨g, 0, none⟩) n c)).run Tryz.prog W.drew = .ok (bval l).toArray W.drew := by
        rw [hz1]
        exact run_firstCells_some W.drew 1 n ⟨g, 0, none⟩ n c (bval l) (by rw [hll, Nat.mul_one]) holds
      have hr := run_append_grow_src (P := Tryz.prog) W 22 9 ty 5 i (.int .u8 0) Tryz.underlying22 hi hz0 (some ⟨g, 0, none⟩) n c (bval l) hold (.string t) t.size (byteCells t) hsrc (by omega) (by omega) (growslice_fits (by omega) (by rw [hz2]; omega))
      refine ⟨W.heap.size, _, _, hr, ?_, ?_⟩
      · have hge := grownCap_ge W (n + t.size) c 5
        have hcm2 : grownCap W (n + t.size) c 5 ≤ maxLen := grownCap_le_maxLen W (n + t.size) c 5 (by unfold maxLen; omega)
        have hlen : (bval (l ++ t.data.toList)).length = n + t.size := by
          unfold bval at hll ⊢
          rw [List.map_append, List.length_append, hll, ← hbl, byteCells_byt]; rfl
        have happ : bval l ++ byteCells t = bval (l ++ t.data.toList) := by
          rw [byteCells_byt]; unfold bval; rw [List.map_append]
        refine ⟨hlen, by rw [hlen, Nat.mul_one], .inr ⟨W.heap.size, _, _, rfl, hB, heap_alloc_new W.drew _, hge, hcm2, ?_, ?_⟩⟩
        · rw [happ]
          simp only [Array.size_append, List.size_toArray, size_zeroCells]
          rw [hlen]
          simp [Value.cells]
          omega
        · rw [happ]
          simp only [Array.toList_append, Nat.mul_one]
          rw [← hlen]
          exact List.take_left
      · exact ((Below.refl _ _).drew).alloc hB _
end Go.Proofs.YtihfhfihladlcaaGreatDoor

/- Join of the reference, and SetsText of both. -/
namespace Go.Proofs.YtihfhfihladlcaaGreatDoor
set_option maxRecDepth 20000
open Go.RowKit
set_option linter.unusedSimpArgs false
set_option linter.unusedVariables false

theorem ap_text {ops : Array Oper} {rest : List Oper} {o : Oper} {a : Act} {Q : Exit → Act → World → Prop} {W : World} (hgd : o.guard = none) (s x : Operand)
    (ho : o.op = .call { callee := .builtin .append, args := #[s, x], argTypes := #[22, 9] })
    (B g n c : Nat) (l : List UInt8) (t : ByteArray) (hs : a.eval s = .slice (some ⟨g, 0, none⟩) n c) (hown : Row 5 W B (some ⟨g, 0, none⟩) n c (bval l))
    (hx : a.eval x = .string t) (hn : n + t.size < 1099511627776) (hB : B ≤ W.heap.size)
    (h : ∀ g' c' w', Row 5 w' B (some ⟨g', 0, none⟩) (n + t.size) c' (bval (l ++ t.data.toList)) → Below B W w' → wpList Tryz.prog ops Q rest (a.put o.dst (.slice (some ⟨g', 0, none⟩) (n + t.size : Nat) c')) w') :
    wpList Tryz.prog ops Q (o :: rest) a W := by
  refine wpList_plain hgd fun K hK => ?_
  obtain ⟨g', c', w', hr, h1, h2⟩ := run_ap_text B o.type g n c l hown t hn hB
  unfold Oper.wp execOp
  simp only [ho, resolve, invoke, builtin, Sem.run_bind, Sem.run_pure, Result.andThen_ok, List.map_toArray, List.map_cons, List.map_nil, hs, hx, hr]
  exact hK _ _ (h _ _ _ h1 h2)
theorem strs_at {w : World} {B : Nat} {a : Option Addr} {n c : Nat} {S : List ByteArray} (h : Row 9 w B a n c (S.map Value.string)) {i : Nat} (hi : i < n) :
    ∃ g, ∃ h : i < S.length, a = some ⟨g, 0, none⟩ ∧ w.cell? ⟨g, i, none⟩ = some (.string S[i]) := by
  obtain ⟨g, hg, _, _, hc, _⟩ := h.cells (by omega)
  have hl : S.length = n := by have := h.len; simpa using this
  refine ⟨g, by omega, hg, ?_⟩
  rw [hc i hi, List.getElem?_map, List.getElem?_eq_getElem (by omega)]; rfl
/-- the texts with commas between -/
def comma (L : List (List UInt8)) : List UInt8 := Lib.join L [44]
theorem comma_snoc {L : List (List UInt8)} (hL : L ≠ []) (x : List UInt8) : comma (L ++ [x]) = comma L ++ [44] ++ x := by
  cases L with
  | nil => exact absurd rfl hL
  | cons y r =>
    unfold comma
    rw [List.cons_append, Lib.join_cons, Lib.join_cons]
    unfold Lib.joinTail
    simp [List.append_assoc]
theorem comma_one (x : List UInt8) : comma [x] = x := Lib.join_one x _

set_option maxHeartbeats 400000 in
theorem sJoin_any (a : Option Addr) (n c B : Nat) (S : List ByteArray) (w : World) (h : Row 9 w B a n c (S.map Value.string)) (hn : n ≤ 1000) (hS : ∀ s ∈ S, s.size ≤ 6) :
    Calls Tryz.prog 186 #[.slice a n c, .string ⟨#[44]⟩] w fun e w' => e = .returned (.string ⟨(comma (S.map (·.data.toList))).toArray⟩) ∧ Below w.heap.size w w' := by
  have Hh := Lib.hid h
  have hlen : Hid (S.length = n) := Lib.hid (by have := h.len; simpa using this)
  have HS := Lib.hid hS
  have HE : Hid (Row 5 (w.alloc (.cells #[] 5)) w.heap.size (some ⟨w.heap.size, 0, none⟩) 0 0 (bval [])) := Lib.hid ⟨rfl, World.ownsRow_made w #[] 0 (Nat.le_refl _) (by decide) (by simp)⟩
  clear h hS
  go_enter Tryz.func186, Tryz.ntmps186
  go_wp2_with fail
  go_loopw [5, 6] (fun o i wr => ∃ (I g k d : Nat), I ≤ n ∧ i = .int .i64 I ∧ o = .slice (some ⟨g, 0, none⟩) k d ∧ k ≤ 7 * I ∧ Row 5 wr w.heap.size (some ⟨g, 0, none⟩) k d (bval (comma ((S.take I).map (·.data.toList)))) ∧ Below w.heap.size w wr) (fun _ i _ => n - (intOf i).toNat)
  case atStart => exact ⟨0, _, 0, 0, Nat.zero_le _, rfl, rfl, Nat.le_refl _, HE.out, (by repeat (first | exact Below.refl _ _ | assumption | refine Below.setCell ?_ (by first | omega | (simp; done) | (simp; omega)) _ | refine Below.alloc ?_ (by first | omega | (simp; done) | (simp; omega)) _ | apply Below.drew))⟩
  case round =>
    obtain ⟨I, g, k, d, hI, rfl, rfl, hk, hrow, hbr⟩ := hrel
    have HR := Lib.hid hrow; have HBr := Lib.hid hbr
    have hzr : w.heap.size ≤ wr.heap.size := hbr.size
    clear hrow hbr
    by_cases hlt : I < n
    · have hrs : Row 9 wr B a n c (S.map Value.string) := Hh.out.keep HBr.out
      obtain ⟨gp, hIS, hga, hcell⟩ := strs_at hrs hlt
      subst hga
      obtain ⟨x, hx⟩ : ∃ x, x = S[I] := ⟨_, rfl⟩
      rw [← hx] at hcell
      have hx6 : x.size ≤ 6 := by rw [hx]; exact HS.out _ (List.getElem_mem _)
      have htk : (S.take (I + 1)).map (·.data.toList) = (S.take I).map (·.data.toList) ++ [x.data.toList] := by
        rw [List.take_succ_eq_append_getElem hIS, List.map_append, hx]; rfl
      have Htk := Lib.hid htk
      have hIi : (I : Int) < n := by omega
      have Hlow : Hid (gp < w.heap.size) := Lib.hid (Hh.out.lt gp rfl).2
      clear hx htk hrs
      by_cases hI0 : I = 0
      · subst hI0
        have Hc : Hid (comma ((S.take (0 + 1)).map (·.data.toList)) = comma ((S.take 0).map (·.data.toList)) ++ x.data.toList) := Lib.hid (by rw [Htk.out]; simp [comma_one, comma, Lib.join_nil, Lib.join_one])
        go_wp2_with (at_builtin; refine ap_text rfl _ _ rfl w.heap.size _ _ _ _ _ rfl HR.out rfl (by omega) hzr ?_; intro g5 c5 w5 hrow5 hb5; have HR5 := Lib.hid hrow5; have HB5 := Lib.hid (HBr.out.trans hb5); clear hrow5 hb5)
        go_roundw
        case rel => exact ⟨1, g5, k + x.size, c5, by omega, by go_num, rfl, by omega, by rw [show (1 : Nat) = 0 + 1 from rfl, Hc.out]; exact HR5.out, HB5.out⟩
        case measure => simp [intOf]; omega
      · have hIp : (0 : Int) < I := by omega
        have Hc : Hid (comma ((S.take (I + 1)).map (·.data.toList)) = comma ((S.take I).map (·.data.toList)) ++ [44] ++ x.data.toList) := Lib.hid (by
          rw [Htk.out]
          exact comma_snoc (fun e => by have := congrArg List.length e; rw [List.length_map, List.length_take, List.length_nil] at this; omega) _)
        go_wp2_with (first
          | (at_builtin; refine ap_text rfl _ _ rfl w.heap.size _ _ _ _ ⟨#[44]⟩ rfl HR.out rfl (by have : (⟨#[44]⟩ : ByteArray).size = 1 := rfl; omega) hzr ?_; intro g5 c5 w5 hrow5 hb5; have HR5 : Hid (Row 5 w5 w.heap.size (some ⟨g5, 0, none⟩) (k + 1) c5 (bval (comma ((S.take I).map (·.data.toList)) ++ [44]))) := Lib.hid hrow5; have HB5 := Lib.hid (HBr.out.trans hb5); have hz5 : w.heap.size ≤ w5.heap.size := HB5.out.size; have hcell5 : w5.cell? ⟨gp, I, none⟩ = some (.string x) := (hb5.cell (p := ⟨gp, I, none⟩) (Hlow.out)).trans hcell; clear hrow5 hb5)
          | (at_builtin; refine ap_text rfl _ _ rfl w.heap.size _ _ _ _ x rfl HR5.out rfl (by have : (⟨#[44]⟩ : ByteArray).size = 1 := rfl; omega) hz5 ?_; intro g6 c6 w6 hrow6 hb6; have HR6 := Lib.hid hrow6; have HB6 := Lib.hid (HB5.out.trans hb6); clear hrow6 hb6))
        go_roundw
        case rel => exact ⟨I + 1, g6, k + 1 + x.size, c6, by omega, by go_num, rfl, by omega, by rw [Hc.out]; exact HR6.out, HB6.out⟩
        case measure => simp [intOf]; omega
    · obtain rfl : I = n := by omega
      have hIi : ¬ ((I : Int) < I) := by omega
      have hall : S.take I = S := List.take_of_length_le (by rw [hlen.out]; exact Nat.le_refl _)
      have hr := run_str HR.out
      rw [hall] at hr
      clear hall
      go_wp2_with fail
      go_ret
      exact ⟨rfl, HBr.out⟩

/-- the texts of sets, with commas -/
def setsText (l : List Nat) : List UInt8 := comma (l.map setText)
def setBA (s : Nat) : ByteArray := str (setText s)
theorem setBA_list (s : Nat) : (setBA s).data.toList = setText s := by simp [setBA, str]
theorem setBA_size (s : Nat) : (setBA s).size ≤ 6 := by unfold setBA; rw [str_size]; exact setText_len s
theorem setsBA (l : List Nat) : comma ((l.map setBA).map (·.data.toList)) = setsText l := by
  unfold setsText
  rw [List.map_map]
  exact congrArg comma (List.map_congr_left fun s _ => setBA_list s)

theorem infoText : (Tryz.prog.info? 9).map (fun i => (i.zero, i.size, i.bytes)) = some (some (.string ByteArray.empty), 1, 16) := by kernel_rfl
theorem ap_strs {ops : Array Oper} {rest : List Oper} {o : Oper} {a : Act} {Q : Exit → Act → World → Prop} {w0 : World} (hgd : o.guard = none) (s x : Operand)
    (ho : o.op = .call { callee := .builtin .append, args := #[s, x], argTypes := #[99, 99] })
    (B : Nat) (ad : Option Addr) (n c : Nat) (L : List ByteArray) (y : ByteArray) (hs : a.eval s = .slice ad n c) (hown : Row 9 w0 B ad n c (L.map Value.string))
    (hx : a.eval x = .slice (some ⟨w0.heap.size, 0, none⟩) 1 1) (hn : n < 1099511627776) (hB : B ≤ w0.heap.size)
    (h : ∀ ad' c' w', Row 9 w' B ad' (n + 1) c' ((L ++ [y]).map Value.string) → Below B w0 w' → wpList Tryz.prog ops Q rest (a.put o.dst (.slice ad' (n + 1 : Nat) c')) w') :
    wpList Tryz.prog ops Q (o :: rest) a (w0.alloc (.cells #[.string y] 9)) :=
  ap_row Tryz.underlying99 infoText rfl hgd s x ho B ad n c _ _ hs hown hx rfl hn (by omega) hB fun ad' c' w' h1 h2 h3 => h ad' c' w' (by rw [List.map_append]; exact h1) h2

set_option maxHeartbeats 400000 in
theorem sSetsText_any (a : Option Addr) (n c : Nat) (l : List Nat) (w : World) (h : IntsAt w a n (up l)) (hn : n ≤ 1000) (hl : ∀ t ∈ l, t < 64) :
    Calls Tryz.prog 137 #[.slice a n c] w fun e w' => e = .returned (.string (str (setsText l))) ∧ Below w.heap.size w w' := by
  have Hh := Lib.hid h
  have hlen : Hid (l.length = n) := Lib.hid (by have := h.len; rwa [up_len] at this)
  have Hl := Lib.hid hl
  have HE : Hid (Row 9 (w.alloc (.cells #[] 9)) w.heap.size (some ⟨w.heap.size, 0, none⟩) 0 0 (([] : List ByteArray).map Value.string)) := Lib.hid ⟨rfl, World.ownsRow_made w #[] 0 (Nat.le_refl _) (by decide) (by simp)⟩
  clear h hl
  go_enter Tryz.func137, Tryz.ntmps137
  go_wp2_with fail
  go_loopw [3, 4] (fun o i wr => ∃ (I k d : Nat) (ad : Option Addr), I ≤ n ∧ i = .int .i64 I ∧ o = .slice ad k d ∧ k = I ∧ Row 9 wr w.heap.size ad k d (((l.take I).map setBA).map Value.string) ∧ Below w.heap.size w wr) (fun _ i _ => n - (intOf i).toNat)
  case atStart => exact ⟨0, 0, 0, _, Nat.zero_le _, rfl, rfl, rfl, HE.out, (by repeat (first | exact Below.refl _ _ | assumption | refine Below.setCell ?_ (by first | omega | (simp; done) | (simp; omega)) _ | refine Below.alloc ?_ (by first | omega | (simp; done) | (simp; omega)) _ | apply Below.drew))⟩
  case round =>
    obtain ⟨I, k, d, ad, hI, rfl, rfl, hk, hrow, hbr⟩ := hrel
    subst hk
    have HR := Lib.hid hrow; have HBr := Lib.hid hbr
    have hzr : w.heap.size ≤ wr.heap.size := hbr.size
    clear hrow hbr
    by_cases hlt : k < n
    · obtain ⟨b, off, rfl, hc⟩ := (Hh.out.keep HBr.out).cells (by omega)
      have hck := hc k hlt
      rw [nth_up] at hck
      have hIl : k < l.length := by rw [hlen.out]; exact hlt
      obtain ⟨t, ht⟩ : ∃ t, t = nthN l k := ⟨_, rfl⟩
      rw [← ht] at hck
      have ht64 : t < 64 := by rw [ht]; exact Hl.out _ (nthN_mem hIl)
      have Htk : Hid ((l.take (k + 1)).map setBA = (l.take k).map setBA ++ [str (setText t)]) := Lib.hid (by rw [nthN_take _ _ hIl, List.map_append, ← ht]; rfl)
      have hIi : (k : Int) < n := by omega
      clear hc ht
      go_wp2_with (first | (go_at_call 185; (with_reducible refine (sSetText_yes t _ ht64).mono ?_); rintro e w' ⟨rfl, rfl⟩) | (at_builtin; refine ap_strs rfl _ _ rfl w.heap.size _ _ _ _ _ rfl HR.out rfl (by omega) hzr ?_; intro ad5 d5 w5 hrow5 hb5; have HR5 := Lib.hid hrow5; have HB5 := Lib.hid (HBr.out.trans hb5); clear hrow5 hb5))
      go_roundw
      case rel => exact ⟨k + 1, k + 1, d5, ad5, by omega, by go_num, rfl, rfl, by rw [Htk.out]; exact HR5.out, HB5.out⟩
      case measure => simp [intOf]; omega
    · obtain rfl : k = n := by omega
      have hIi : ¬ ((k : Int) < k) := by omega
      have hall : l.take k = l := List.take_of_length_le (by rw [hlen.out]; exact Nat.le_refl _)
      have hR := HR.out
      rw [hall] at hR
      have HRl := Lib.hid hR
      clear hall hR
      go_wp2_with fail
      refine (sJoin_any ad k d _ _ wr HRl.out hn (fun s hs => by obtain ⟨t, _, rfl⟩ := List.mem_map.1 hs; exact setBA_size t)).mono ?_
      rw [setsBA]
      rintro e w6 ⟨rfl, hb6⟩
      have HB6 := Lib.hid (HBr.out.trans (hb6.mono hzr))
      clear hb6
      go_wp2_with fail
      go_ret
      exact ⟨rfl, HB6.out⟩
end Go.Proofs.YtihfhfihladlcaaGreatDoor

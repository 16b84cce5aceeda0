/- Texts of this claim, one behind the other: what each says stands at its head. -/
import Derived.BigQuiet
import Derived.Lib.Strings
import Derived.Test.YtihfhfihladlcaaGreatDoorSet
/- Contracts of the reference's functions that put a list of sets in order and take its greatest or its least sets; and of the program's MinimalSets. -/
namespace Go.Proofs.YtihfhfihladlcaaGreatDoor
set_option maxRecDepth 20000
open Go.RowKit
set_option linter.unusedSimpArgs false

/-- The table of the sets of a list. -/
def hasV (l : List Nat) : List Value := (List.range 64).map fun t => .bool (l.contains t)
theorem hasV_nil : hasV [] = List.replicate 64 (.bool false) := by kernel_rfl
theorem hasV_at (l : List Nat) (t : Nat) (ht : t < 64) : (hasV l)[t]? = some (.bool (l.contains t)) := by
  unfold hasV; rw [List.getElem?_map, List.getElem?_range ht]; rfl
theorem hasV_snoc (l : List Nat) (s : Nat) : (hasV l).set s (.bool true) = hasV (l ++ [s]) := by
  apply List.ext_getElem?
  intro i
  rw [List.getElem?_set]
  have hlen : (hasV l).length = 64 := by simp [hasV]
  rw [hlen]
  by_cases hi : i < 64
  · rw [hasV_at _ _ hi, hasV_at _ _ hi]
    by_cases h : s = i
    · subst h; simp [hi]
    · rw [if_neg h]
      have : (l ++ [s]).contains i = l.contains i := by
        rw [Bool.eq_iff_iff]; simp; exact fun e => absurd e.symm h
      rw [this]
  · have : (hasV (l ++ [s]))[i]? = none := by rw [List.getElem?_eq_none]; simp [hasV]; omega
    rw [this]
    have h0 : (hasV l)[i]? = none := by rw [List.getElem?_eq_none]; omega
    rw [h0]
    by_cases h : s = i
    · subst h; simp [hi]
    · simp [h]

set_option maxHeartbeats 1000000 in
theorem l2Order_any (a : Option Addr) (n c : Nat) (l : List Nat) (w : World) (h : IntsAt w a n (up l)) (hl : ∀ s ∈ l, s < 64) :
    Calls Tryz.prog 109 #[.slice a n c] w (RetInts w (up (ord l.contains))) := by
  have hn := h.small
  have hlen := Lib.hid h.len
  go_enter Tryz.func109, Tryz.ntmps109
  go_wp2_with (at_make; refine mk_bools rfl _ _ rfl _ rfl rfl 64 rfl (by omega) ?_; intro g w1 hrow hb1)
  have h1 := h.keep hb1
  go_loopw [4] (fun i wr => ∃ k : Nat, k ≤ n ∧ i = .int .i64 k ∧ Below w.heap.size w wr ∧ Row 4 wr w.heap.size (some ⟨g, 0, none⟩) 64 64 (hasV (l.take k))) (fun i _ => n - (intOf i).toNat)
  case atStart => exact ⟨0, Nat.zero_le _, rfl, hb1, by rw [List.take_zero, hasV_nil]; exact hrow⟩
  case round =>
    obtain ⟨k, hk, rfl, hb, hr⟩ := hrel
    have hx := h.keep hb
    by_cases hlt : k < n
    · obtain ⟨b, off, rfl, hc⟩ := hx.cells (by omega)
      have hck := hc k hlt
      rw [nth_up] at hck
      have hlk : k < l.length := by rw [← up_len, hlen.out]; exact hlt
      have h64 : nthN l k < 64 := hl _ (nthN_mem hlk)
      obtain ⟨g', hg', hB, hgl, hcell, hfr⟩ := hr.cells (by omega)
      simp only [Option.some.injEq, Addr.mk.injEq, and_true] at hg'
      subst hg'
      have hc1 := (hcell _ h64).trans (hasV_at _ _ h64)
      have hf1 := hfr (nthN l k)
      clear hl hc hcell hfr h h1 hx
      go_wp2
      go_roundw
      case rel =>
        refine ⟨k + 1, by omega, by go_num, hb.setCell hB _, ?_⟩
        rw [nthN_take _ _ hlk, ← hasV_snoc]
        exact hr.set _ _
      case measure => simp [intOf]; omega
    · obtain rfl : k = n := by omega
      rw [List.take_of_length_le (by rw [← up_len, hlen.out]; omega)] at hr
      clear hx h1 h hb1 hrow
      have hw := hb.size
      have HB := Lib.hid hb; clear hb
      go_wp2_with fail
      obtain ⟨w0, rfl⟩ : ∃ w0 : World, w0 = wr := ⟨_, rfl⟩
      obtain ⟨B2, hB2⟩ : ∃ B2, B2 = w0.heap.size := ⟨_, rfl⟩
      have HB2 := Lib.hid hB2
      have hB3 : w.heap.size ≤ B2 := by omega
      have hB4 : B2 ≤ w0.heap.size := by omega
      have hlit : Row 4 (w0.alloc (.cells #[] 3)) w.heap.size (some ⟨g, 0, none⟩) 64 64 (hasV l) := hr.alloc _
      have hown0 : Own 3 (w0.alloc (.cells #[] 3)) B2 (some ⟨w0.heap.size, 0, none⟩) 0 0 [] := Own.empty _ _ _ hB4
      have hgB : g < B2 := by rw [hB2]; exact (hr.lt g rfl).2
      clear hB2
      go_loopw [5, 6, 7] (fun v j _ wx => ∃ J : Nat, J ≤ 7 ∧ j = .int .i64 J ∧ Below B2 (w0.alloc (.cells #[] 3)) wx ∧ ∃ ad n c, n ≤ 64 * J ∧ v = .slice ad n c ∧ Own 3 wx B2 ad n c (up (ordTo l.contains J 0))) (fun _ j _ _ => 7 - (intOf j).toNat)
      case atStart => exact ⟨0, Nat.zero_le _, rfl, Below.refl _ _, _, 0, 0, by omega, rfl, hown0⟩
      case round =>
        obtain ⟨J, hJ, rfl, hb, ad, m, c', hm, rfl, hown⟩ := hrel
        by_cases hlt : J < 7
        · obtain ⟨wo, rfl⟩ : ∃ wo : World, wo = wr := ⟨_, rfl⟩
          have hJ6 : (J : Int) ≤ 6 := by omega
          go_wp2_with fail
          go_loopw [5, 7] (fun v s wy => ∃ S : Nat, S ≤ 64 ∧ s = .int .i64 S ∧ Below B2 (w0.alloc (.cells #[] 3)) wy ∧ ∃ ad n c, n ≤ 64 * J + S ∧ v = .slice ad n c ∧ Own 3 wy B2 ad n c (up (ordTo l.contains J S))) (fun _ s _ => 64 - (intOf s).toNat)
          case atStart => exact ⟨0, Nat.zero_le _, rfl, hb, ad, m, c', by omega, rfl, hown⟩
          case round =>
            obtain ⟨S, hS, rfl, hb, ad, m, c', hm, rfl, hown⟩ := hrel
            have hsz := hb.size
            have hbz : B2 ≤ wr.heap.size := by simp at hsz; omega
            have hr3 : Row 4 wr w.heap.size (some ⟨g, 0, none⟩) 64 64 (hasV l) := hlit.other fun q hq _ => hb.block q (by simp only [Option.some.injEq, Addr.mk.injEq, and_true] at hq; omega)
            by_cases hlt2 : S < 64
            · obtain ⟨g', hg', hB, hgl, hcell, hfr⟩ := hr3.cells (by omega)
              simp only [Option.some.injEq, Addr.mk.injEq, and_true] at hg'
              subst hg'
              have hc1 := (hcell _ hlt2).trans (hasV_at _ _ hlt2)
              clear hr3 hcell hfr hlit hr hl
              cases hcs : l.contains S
              · rw [hcs] at hc1
                have hno : ordTo l.contains J (S + 1) = ordTo l.contains J S := ordTo_no (by rw [hcs]; rfl)
                have Hno := Lib.hid hno; clear hno hcs
                go_wp2
                go_roundw
                case rel => exact ⟨S + 1, by omega, by go_num, hb, ad, m, c', by omega, rfl, by rw [Hno.out]; exact hown⟩
                case measure => simp [intOf]; omega
              · rw [hcs] at hc1
                cases hsj : ((sz S : Int) == (J : Int))
                · have hno : ordTo l.contains J (S + 1) = ordTo l.contains J S := ordTo_no (by rw [hcs]; simp at hsj ⊢; omega)
                  have Hno := Lib.hid hno; clear hno hcs
                  go_wp2_with (go_at_call 138; (with_reducible refine (l2Size_any S _ hlt2).mono ?_); rintro e w' ⟨rfl, rfl⟩)
                  go_roundw
                  case rel => exact ⟨S + 1, by omega, by go_num, hb, ad, m, c', by omega, rfl, by rw [Hno.out]; exact hown⟩
                  case measure => simp [intOf]; omega
                · have hno : ordTo l.contains J (S + 1) = ordTo l.contains J S ++ [S] := ordTo_yes (by rw [hcs]; simp at hsj ⊢; omega)
                  have Hno := Lib.hid hno; clear hno hcs
                  go_wp2_with (first | (go_at_call 138; (with_reducible refine (l2Size_any S _ hlt2).mono ?_); rintro e w' ⟨rfl, rfl⟩) | (at_builtin; refine ap rfl _ _ rfl B2 _ _ _ _ _ rfl hown rfl (by omega) hbz ?_; intro ad' c2 w' hown' hb'))
                  go_roundw
                  case rel => exact ⟨S + 1, by omega, by go_num, hb.trans hb', ad', m + 1, c2, by omega, rfl, by rw [Hno.out, up_append]; exact hown'⟩
                  case measure => simp [intOf]; omega
            · obtain rfl : S = 64 := by omega
              have hnx := Lib.hid (ordTo_next l.contains J)
              clear hr hr3 hlit hl
              go_wp2
              go_roundw
              case rel => exact ⟨J + 1, by omega, by go_num, hb, ad, m, c', by omega, rfl, by rw [← hnx.out]; exact hown⟩
              case measure => simp [intOf]; omega
        · obtain rfl : J = 7 := by omega
          have hfin := Lib.hid (ordTo_end l.contains)
          clear hr hlit hl
          go_wp2
          go_ret
          refine ⟨ad, m, c', rfl, ?_, ?_⟩
          · rw [← hfin.out]; exact hown.mono hB3
          · exact (HB.out.trans ((Below.refl _ _).alloc hw _)).trans (hb.mono hB3)

theorem castBeq (a b : Nat) : ((a : Int) == (b : Int)) = (a == b) := by rw [Bool.eq_iff_iff]; simp; omega
theorem castBne (a b : Nat) : ((a : Int) != (b : Int)) = (a != b) := by unfold bne; rw [castBeq]

set_option maxHeartbeats 1000000 in
theorem l2Extreme_any (a : Option Addr) (n c : Nat) (l : List Nat) (g : Bool) (w : World) (h : IntsAt w a n (up l)) (hl : ∀ s ∈ l, s < 64) :
    Calls Tryz.prog 165 #[.slice a n c, .bool g] w (RetInts w (up (extL g l.contains))) := by
  have Hh := Lib.hid h; clear h
  have Hl := Lib.hid hl; clear hl
  go_enter Tryz.func165, Tryz.ntmps165
  go_wp2_with (go_at_call 109; (with_reducible refine (l2Order_any a n c l _ Hh.out Hl.out).mono ?_); rintro e w1 ⟨la, ln, lc, rfl, hown1, hb1⟩)
  obtain ⟨L, hL⟩ : ∃ L, L = ord l.contains := ⟨_, rfl⟩
  rw [← hL] at hown1
  have HL64 := Lib.hid (show ∀ s ∈ L, s < 64 by rw [hL]; exact ord_lt)
  have hLlen : L.length ≤ 64 := by rw [hL]; exact ord_len _
  have HL := Lib.hid hL; clear hL
  have hln : L.length = ln := by rw [← up_len]; exact hown1.len
  have h64 : ln ≤ 64 := by omega
  have Hln := Lib.hid hln; clear hln hLlen
  have hr1 := hown1.reads
  have Hb1 := Lib.hid hb1
  have hsz1 := hb1.size
  clear hb1
  obtain ⟨B2, hB2⟩ : ∃ B2, B2 = w1.heap.size := ⟨_, rfl⟩
  have hB4 : B2 ≤ w1.heap.size := by omega
  have hown0 : Own 3 (w1.alloc (.cells #[] 3)) B2 (some ⟨w1.heap.size, 0, none⟩) 0 0 [] := Own.empty _ _ _ hB4
  have HB2 := Lib.hid hB2; clear hB2
  go_loopw [6, 7, 8, 9, 10, 11] (fun v i _ _ _ _ wr => ∃ k : Nat, k ≤ ln ∧ i = .int .i64 k ∧ Below B2 (w1.alloc (.cells #[] 3)) wr ∧ ∃ ad n c, n ≤ k ∧ v = .slice ad n c ∧ Own 3 wr B2 ad n c (up (extTo g L k))) (fun _ i _ _ _ _ _ => ln - (intOf i).toNat)
  case atStart => exact ⟨0, Nat.zero_le _, rfl, Below.refl _ _, _, 0, 0, Nat.le_refl _, rfl, hown0⟩
  case round =>
    obtain ⟨k, hk, rfl, hb, ad, m, c', hm, rfl, hown⟩ := hrel
    have hbw : Below w1.heap.size w1 wr := ((Below.refl _ w1).alloc (Nat.le_refl _) _).trans (by rw [← HB2.out]; exact hb)
    have hr := hr1.keep hbw
    have hsz := hbw.size
    rw [← HB2.out] at hsz
    by_cases hlt : k < ln
    · obtain ⟨b, off, rfl, hc⟩ := hr.cells (by omega)
      have hck := hc k hlt
      rw [nth_up] at hck
      have hlk : k < L.length := by rw [Hln.out]; exact hlt
      obtain ⟨s, hs⟩ : ∃ s, s = nthN L k := ⟨_, rfl⟩
      have hs64 : s < 64 := by rw [hs]; exact HL64.out _ (nthN_mem hlk)
      rw [← hs] at hck
      have Hs := Lib.hid hs; clear hs
      have Hc := Lib.hid hc; clear hc hr hr1 hown1 hown0 hbw
      go_wp2_with fail
      go_loop [8, 9, 10, 11] (fun f j _ _ => ∃ q : Nat, q ≤ ln ∧ j = .int .i64 q ∧ f = .bool (fineTo g L s q)) (fun _ j _ _ => ln - (intOf j).toNat)
      case atStart => exact ⟨0, Nat.zero_le _, rfl, rfl⟩
      case round =>
        obtain ⟨q, hq, rfl, rfl⟩ := hrel
        by_cases hlt2 : q < ln
        · have hcq := Hc.out q hlt2
          rw [nth_up] at hcq
          have hqL : q < L.length := by rw [Hln.out]; exact hlt2
          obtain ⟨t, ht⟩ : ∃ t, t = nthN L q := ⟨_, rfl⟩
          have ht64 : t < 64 := by rw [ht]; exact HL64.out _ (nthN_mem hqL)
          rw [← ht] at hcq
          have hsucc := Lib.hid (show fineTo g L s (q + 1) = (fineTo g L s q && !bad g s t) by rw [fineTo_succ g L s q hqL, ht])
          clear ht
          cases g
          · cases h1 : ((s : Int) != (t : Int))
            · go_wp2
              go_round
              case rel => exact ⟨q + 1, by omega, by go_num, by rw [hsucc.out]; unfold bad; rw [castBne] at h1; simp [h1]⟩
              case measure => simp [intOf]; omega
            · cases h2 : (((s &&& t : Nat) : Int) == (t : Int))
              · go_wp2
                go_round
                case rel => exact ⟨q + 1, by omega, by go_num, by rw [hsucc.out]; unfold bad; rw [castBeq] at h2; simp [h2]⟩
                case measure => simp [intOf]; omega
              · go_wp2
                go_round
                case rel => exact ⟨q + 1, by omega, by go_num, by rw [hsucc.out]; unfold bad; rw [castBeq] at h2; rw [castBne] at h1; simp [h1, h2]⟩
                case measure => simp [intOf]; omega
          · cases h1 : ((s : Int) != (t : Int))
            · go_wp2
              go_round
              case rel => exact ⟨q + 1, by omega, by go_num, by rw [hsucc.out]; unfold bad; rw [castBne] at h1; simp [h1]⟩
              case measure => simp [intOf]; omega
            · cases h2 : (((s &&& t : Nat) : Int) == (s : Int))
              · go_wp2
                go_round
                case rel => exact ⟨q + 1, by omega, by go_num, by rw [hsucc.out]; unfold bad; rw [castBeq] at h2; simp [h2]⟩
                case measure => simp [intOf]; omega
              · go_wp2
                go_round
                case rel => exact ⟨q + 1, by omega, by go_num, by rw [hsucc.out]; unfold bad; rw [castBeq] at h2; rw [castBne] at h1; simp [h1, h2]⟩
                case measure => simp [intOf]; omega
        · obtain rfl : q = ln := by omega
          cases hf : fineTo g L s q
          · have Hno := Lib.hid (extTo_no (g := g) (l := L) hlk (by rw [← Hs.out, Hln.out]; exact hf))
            go_wp2
            go_roundw
            case rel => exact ⟨k + 1, by omega, by go_num, hb, ad, m, c', by omega, rfl, by rw [Hno.out]; exact hown⟩
            case measure => simp [intOf]; omega
          · have Hno := Lib.hid (extTo_yes (g := g) (l := L) hlk (by rw [← Hs.out, Hln.out]; exact hf))
            go_wp2_with (at_builtin; refine ap rfl _ _ rfl B2 _ _ _ _ _ rfl hown rfl (by omega) hsz ?_; intro ad' c2 w' hown' hb')
            go_roundw
            case rel => exact ⟨k + 1, by omega, by go_num, hb.trans hb', ad', m + 1, c2, by omega, rfl, by rw [Hno.out, up_append, ← Hs.out]; exact hown'⟩
            case measure => simp [intOf]; omega
    · obtain rfl : k = ln := by omega
      clear hr hr1 hown1 hown0
      go_wp2
      go_ret
      refine ⟨ad, m, c', rfl, ?_, ?_⟩
      · rw [← Hln.out, HL.out, extTo_ord] at hown
        exact hown.mono (by rw [HB2.out]; exact hsz1)
      · exact Hb1.out.trans (hbw.mono hsz1)

theorem MinimalSets_yes (a : Option Addr) (n c : Nat) (l : List Nat) (w : World) (h : IntsAt w a n (up l)) (hl : ∀ s ∈ l, s < 64) :
    Calls Tryz.prog 99 #[.slice a n c] w (RetInts w (up (minL l.contains))) := by
  have Hh := Lib.hid h; clear h
  have Hl := Lib.hid hl; clear hl
  have hF := fam_Fam l.contains
  go_enter Tryz.func99, Tryz.ntmps99
  go_wp2_with (first | (go_at_call 172; (with_reducible refine (familyOf_yes a n c l _ Hh.out Hl.out).mono ?_); rintro e w' ⟨rfl, rfl⟩) | (go_at_call 163; (with_reducible refine (minimalIn_any _ _ hF).mono ?_); rintro e w1 ⟨la, ln, lc, rfl, hown1, hb1⟩))
  go_ret
  refine ⟨la, ln, lc, rfl, ?_, hb1⟩
  rw [minL_congr fun s hs => fam_at hs] at hown1
  exact hown1

end Go.Proofs.YtihfhfihladlcaaGreatDoor

/- Texts: parting at a byte, sets out of texts. Plain laws and contracts, the program's and the reference's. -/
namespace Go.Proofs.YtihfhfihladlcaaGreatDoor
set_option maxRecDepth 20000
open Go.RowKit
set_option linter.unusedSimpArgs false
set_option linter.unusedVariables false

/-- the bytes of a string -/
def byt (t : ByteArray) : List UInt8 := t.data.toList
theorem byt_len (t : ByteArray) : (byt t).length = t.size := (Lib.size_eq t).symm
theorem byt_at (t : ByteArray) (k : Nat) (h : k < t.size) : ∃ h', (byt t)[k]'h' = t[k] := ⟨by rw [byt_len]; exact h, rfl⟩
theorem byt_extract (t : ByteArray) (a b : Nat) : byt (t.extract a b) = ((byt t).take b).drop a := by
  unfold byt; rw [Lib.extract_data, List.drop_take]
theorem byt_drop (t : ByteArray) (k : Nat) (h : k < t.size) : (byt t).drop k = t[k] :: (byt t).drop (k + 1) := by
  obtain ⟨h', e⟩ := byt_at t k h
  exact List.drop_eq_getElem_cons h'
theorem byt_take (t : ByteArray) (k : Nat) (h : k < t.size) : (byt t).take (k + 1) = (byt t).take k ++ [t[k]] := by
  obtain ⟨h', e⟩ := byt_at t k h
  exact List.take_succ_eq_append_getElem h'
theorem byt_inj {s t : ByteArray} (h : byt s = byt t) : s = t := ByteArray.ext (Array.toList_inj.1 h)

/-- the parts of the bytes that follow, where cur is the part begun -/
def spl (b : UInt8) : List UInt8 → List UInt8 → List (List UInt8)
  | cur, [] => [cur]
  | cur, x :: r => if x = b then cur :: spl b [] r else spl b (cur ++ [x]) r
/-- .. after I bytes, the part begun at S -/
def splAt (b : UInt8) (t : ByteArray) (S I : Nat) : List (List UInt8) := spl b (((byt t).take I).drop S) ((byt t).drop I)
theorem splAt_zero (b : UInt8) (t : ByteArray) : splAt b t 0 0 = spl b [] (byt t) := rfl
theorem splAt_yes {b : UInt8} {t : ByteArray} {S I : Nat} (h : I < t.size) (hb : t[I] = b) : splAt b t S I = byt (t.extract S I) :: splAt b t (I + 1) (I + 1) := by
  unfold splAt
  rw [byt_drop t I h, spl, if_pos hb, byt_extract]
  congr 2
  rw [List.drop_eq_nil_of_le]; simp
  omega
theorem splAt_no {b : UInt8} {t : ByteArray} {S I : Nat} (h : I < t.size) (hs : S ≤ I) (hb : t[I] ≠ b) : splAt b t S I = splAt b t S (I + 1) := by
  unfold splAt
  rw [byt_drop t I h, spl, if_neg hb, byt_take t I h, List.drop_append_of_le_length]
  rw [List.length_take, byt_len]; omega
theorem splAt_end {b : UInt8} {t : ByteArray} {S I : Nat} (h : I = t.size) : splAt b t S I = [byt (t.extract S I)] := by
  unfold splAt
  have e : (byt t).drop I = [] := List.drop_eq_nil_of_le (by rw [byt_len]; omega)
  rw [e, byt_extract]; rfl
theorem spl_count (b : UInt8) : ∀ (r cur : List UInt8), (spl b cur r).length ≤ r.length + 1
  | [], cur => by simp [spl]
  | x :: r, cur => by
    unfold spl
    split
    · have := spl_count b r []; simp; omega
    · have := spl_count b r (cur ++ [x]); simp; omega
theorem u8_beq (x b : UInt8) (v : Int) (hv : v = (b.toNat : Int)) : ((x.toNat : Int) == v) = true ↔ x = b := by
  rw [hv, beq_iff_eq, Int.natCast_inj, UInt8.toNat_inj]
theorem u8_eq {x b : UInt8} {v : Int} (hv : v = (b.toNat : Int)) (h : x = b) : ((x.toNat : Int) == v) = true := (u8_beq x b v hv).2 h
theorem u8_ne {x b : UInt8} {v : Int} (hv : v = (b.toNat : Int)) (h : x ≠ b) : ((x.toNat : Int) == v) = false := by
  cases hb : ((x.toNat : Int) == v)
  · rfl
  · exact absurd ((u8_beq x b v hv).1 hb) h

theorem infoStr : (Tryz.prog.info? 9).map (fun i => (i.zero, i.size, i.bytes)) = some (some (.string ByteArray.empty), 1, 16) := by kernel_rfl
/-- append of one text to a row of texts of the call's own -/
theorem ap_str {ops : Array Oper} {rest : List Oper} {o : Oper} {a : Act} {Q : Exit → Act → World → Prop} {w0 : World} (hgd : o.guard = none) (s x : Operand)
    (ho : o.op = .call { callee := .builtin .append, args := #[s, x], argTypes := #[99, 99] })
    (B : Nat) (ad : Option Addr) (n c : Nat) (L : List ByteArray) (y : ByteArray) (hs : a.eval s = .slice ad n c) (hown : Row 9 w0 B ad n c (L.map Value.string))
    (hx : a.eval x = .slice (some ⟨w0.heap.size, 0, none⟩) 1 1) (hn : n < 1099511627776) (hB : B ≤ w0.heap.size)
    (h : ∀ ad' c' w', Row 9 w' B ad' (n + 1) c' ((L ++ [y]).map Value.string) → Below B w0 w' → wpList Tryz.prog ops Q rest (a.put o.dst (.slice ad' (n + 1 : Nat) c')) w') :
    wpList Tryz.prog ops Q (o :: rest) a (w0.alloc (.cells #[.string y] 9)) :=
  ap_row Tryz.underlying99 infoStr rfl hgd s x ho B ad n c _ _ hs hown hx rfl hn (by omega) hB fun ad' c' w' h1 h2 h3 => h ad' c' w' (by rw [List.map_append]; exact h1) h2
/-- a row of texts, new -/
def RetStrs (w : World) (L : List (List UInt8)) (e : Ending) (w' : World) : Prop :=
  ∃ ad n c, ∃ S : List ByteArray, e = .returned (.slice ad n c) ∧ Row 9 w' w.heap.size ad n c (S.map Value.string) ∧ S.map byt = L ∧ Below w.heap.size w w'

set_option maxHeartbeats 400000 in
theorem iSplit_any (t : ByteArray) (b : UInt8) (v : Int) (hv : v = (b.toNat : Int)) (w : World) (ht : t.size ≤ 1048576) :
    Calls Tryz.prog 125 #[.string t, .int .u8 v] w (RetStrs w (spl b [] (byt t))) := by
  have HV := Lib.hid hv; clear hv
  go_enter Tryz.func125, Tryz.ntmps125
  go_wp2_with fail
  go_loopw [5, 6, 7] (fun o s i wr => ∃ (S I : Nat) (L : List ByteArray), S ≤ I ∧ I ≤ t.size ∧ i = .int .i64 I ∧ s = .int .i64 S ∧ Hid (spl b [] (byt t) = L.map byt ++ splAt b t S I) ∧ Below w.heap.size w wr ∧ ∃ ad k d, o = .slice ad k d ∧ k ≤ I ∧ Row 9 wr w.heap.size ad k d (L.map Value.string)) (fun _ _ i _ => t.size - (intOf i).toNat)
  case atStart => exact ⟨0, 0, [], Nat.le_refl _, Nat.zero_le _, rfl, rfl, Lib.hid rfl, Below.refl _ _, none, 0, 0, rfl, Nat.le_refl _, Row.nil _ _ _⟩
  case round =>
    obtain ⟨S, I, L, hS, hI, rfl, rfl, hL, hbr, ad, k, d, rfl, hk, hrow⟩ := hrel
    have HBr := Lib.hid hbr; have HR := Lib.hid hrow
    have hzr : w.heap.size ≤ wr.heap.size := hbr.size
    clear hbr hrow
    by_cases hlt : I < t.size
    · by_cases hb : t[I] = b
      · have hq := u8_eq HV.out hb
        have Hy := Lib.hid (splAt_yes (S := S) hlt hb)
        clear hb
        go_wp2_with (at_builtin; refine ap_str rfl _ _ rfl w.heap.size _ _ _ _ _ rfl HR.out rfl (by omega) hzr ?_; intro ad5 d5 w5 hrow5 hb5; have HR5 := Lib.hid hrow5; have HB5 := Lib.hid (HBr.out.trans hb5); clear hrow5 hb5)
        go_roundw
        case rel => exact ⟨I + 1, I + 1, _, by omega, by omega, by go_num, by go_num, Lib.hid (by rw [hL.out, Hy.out]; simp), HB5.out, ad5, k + 1, d5, rfl, by omega, HR5.out⟩
        case measure => simp [intOf]; omega
      · have hq := u8_ne HV.out hb
        have Hn := Lib.hid (splAt_no hlt hS hb)
        clear hb
        go_wp2_with fail
        go_roundw
        case rel => exact ⟨S, I + 1, L, by omega, by omega, by go_num, rfl, Lib.hid (by rw [hL.out, Hn.out]), HBr.out, ad, k, d, rfl, by omega, HR.out⟩
        case measure => simp [intOf]; omega
    · obtain rfl : I = t.size := by omega
      have He := Lib.hid (splAt_end (b := b) (t := t) (S := S) rfl)
      go_wp2_with (at_builtin; refine ap_str rfl _ _ rfl w.heap.size _ _ _ _ _ rfl HR.out rfl (by omega) hzr ?_; intro ad5 d5 w5 hrow5 hb5; have HR5 := Lib.hid hrow5; have HB5 := Lib.hid (HBr.out.trans hb5); clear hrow5 hb5)
      go_ret
      exact ⟨ad5, k + 1, d5, _, rfl, HR5.out, by rw [hL.out, He.out]; simp, HB5.out⟩
set_option maxHeartbeats 400000 in
theorem sSplit_any (t : ByteArray) (b : UInt8) (v : Int) (hv : v = (b.toNat : Int)) (w : World) (ht : t.size ≤ 1048576) :
    Calls Tryz.prog 127 #[.string t, .int .u8 v] w (RetStrs w (spl b [] (byt t))) := by
  have HV := Lib.hid hv; clear hv
  have HE : Hid (Row 9 (w.alloc (.cells #[] 9)) w.heap.size (some ⟨w.heap.size, 0, none⟩) 0 0 (([] : List ByteArray).map Value.string)) := Lib.hid ⟨rfl, World.ownsRow_made w #[] 0 (Nat.le_refl _) (by decide) (by simp)⟩
  go_enter Tryz.func127, Tryz.ntmps127
  go_wp2_with fail
  go_loopw [5, 6, 7] (fun o s i wr => ∃ (S I : Nat) (L : List ByteArray), I ≤ t.size + 1 ∧ i = .int .i64 I ∧ s = .int .i64 S ∧ ((S ≤ I ∧ I ≤ t.size ∧ Hid (spl b [] (byt t) = L.map byt ++ splAt b t S I)) ∨ (I = t.size + 1 ∧ Hid (spl b [] (byt t) = L.map byt))) ∧ Below w.heap.size w wr ∧ ∃ ad k d, o = .slice ad k d ∧ k ≤ I ∧ Row 9 wr w.heap.size ad k d (L.map Value.string)) (fun _ _ i _ => t.size + 1 - (intOf i).toNat)
  case atStart => exact ⟨0, 0, [], Nat.zero_le _, rfl, rfl, .inl ⟨Nat.zero_le _, Nat.zero_le _, Lib.hid rfl⟩, (by repeat (first | exact Below.refl _ _ | assumption | refine Below.setCell ?_ (by first | omega | (simp; done) | (simp; omega)) _ | refine Below.alloc ?_ (by first | omega | (simp; done) | (simp; omega)) _ | apply Below.drew)), _, 0, 0, rfl, Nat.le_refl _, HE.out⟩
  case round =>
    obtain ⟨S, I, L, hI, rfl, rfl, hL, hbr, ad, k, d, rfl, hk, hrow⟩ := hrel
    have HBr := Lib.hid hbr; have HR := Lib.hid hrow
    have hzr : w.heap.size ≤ wr.heap.size := hbr.size
    clear hbr hrow
    rcases hL with ⟨hS, hI, hL⟩ | ⟨hI, hL⟩
    · by_cases hlt : I < t.size
      · have hle : (I : Int) ≤ t.size := by omega
        have hne : ((I : Int) == t.size) = false := by simp; omega
        by_cases hb : t[I] = b
        · have hq := u8_eq HV.out hb
          have Hy := Lib.hid (splAt_yes (S := S) hlt hb)
          clear hb
          go_wp2_with (at_builtin; refine ap_str rfl _ _ rfl w.heap.size _ _ _ _ _ rfl HR.out rfl (by omega) hzr ?_; intro ad5 d5 w5 hrow5 hb5; have HR5 := Lib.hid hrow5; have HB5 := Lib.hid (HBr.out.trans hb5); clear hrow5 hb5)
          go_roundw
          case rel => exact ⟨I + 1, I + 1, _, by omega, by go_num, by go_num, .inl ⟨by omega, by omega, Lib.hid (by rw [hL.out, Hy.out]; simp)⟩, HB5.out, ad5, k + 1, d5, rfl, by omega, HR5.out⟩
          case measure => simp [intOf]; omega
        · have hq := u8_ne HV.out hb
          have Hn := Lib.hid (splAt_no hlt hS hb)
          clear hb
          go_wp2_with fail
          go_roundw
          case rel => exact ⟨S, I + 1, L, by omega, by go_num, rfl, .inl ⟨by omega, by omega, Lib.hid (by rw [hL.out, Hn.out])⟩, HBr.out, ad, k, d, rfl, by omega, HR.out⟩
          case measure => simp [intOf]; omega
      · obtain rfl : I = t.size := by omega
        have He := Lib.hid (splAt_end (b := b) (t := t) (S := S) rfl)
        go_wp2_with (at_builtin; refine ap_str rfl _ _ rfl w.heap.size _ _ _ _ _ rfl HR.out rfl (by omega) hzr ?_; intro ad5 d5 w5 hrow5 hb5; have HR5 := Lib.hid hrow5; have HB5 := Lib.hid (HBr.out.trans hb5); clear hrow5 hb5)
        go_roundw
        case rel => exact ⟨t.size + 1, t.size + 1, _, by omega, by go_num, by go_num, .inr ⟨rfl, Lib.hid (by rw [hL.out, He.out]; simp)⟩, HB5.out, ad5, k + 1, d5, rfl, by omega, HR5.out⟩
        case measure => simp [intOf]
    · subst hI
      have hle : ¬ (((t.size + 1 : Nat) : Int) ≤ t.size) := by omega
      go_wp2_with fail
      go_ret
      exact ⟨ad, k, d, _, rfl, HR.out, hL.out.symm, HBr.out⟩
end Go.Proofs.YtihfhfihladlcaaGreatDoor

/- Texts of this claim, one behind the other: what each says stands at its head. -/
import Derived.Deep.RegionWith
import Derived.Deep.DeepCutAuto
import Derived.Test.YtbdnlncpamandaaCore
import Derived.Test.YtbdnlncpamandaaSet
/- Contracts of the reference's functions that put a list of sets in order and take its greatest or its least sets; and of the program's MinimalSets. -/
namespace Go.Proofs.Ytbdnlncpamandaa
set_option maxRecDepth 20000
open Go.RowKit
set_option linter.unusedSimpArgs false

/-- The table of the sets of a list. -/
def hasV (l : List Nat) : List Value := (List.range 64).map fun t => .bool (l.contains t)
theorem hasV_nil : hasV [] = List.replicate 64 (.bool false) := by kernel_rfl
theorem hasV_at (l : List Nat) (t : Nat) (ht : t < 64) : (hasV l)[t]? = some (.bool (l.contains t)) := by
  unfold hasV; rw [List.getElem?_map, List.getElem?_range ht]; rfl
theorem hasV_snoc (l : List Nat) (s : Nat) : (hasV l).set s (.bool true) = hasV (l ++ [s]) := by
  apply List.ext_getElem?
  intro i
  rw [List.getElem?_set]
  have hlen : (hasV l).length = 64 := by simp [hasV]
  rw [hlen]
  by_cases hi : i < 64
  · rw [hasV_at _ _ hi, hasV_at _ _ hi]
    by_cases h : s = i
    · subst h; simp [hi]
    · rw [if_neg h]
      have : (l ++ [s]).contains i = l.contains i := by
        rw [Bool.eq_iff_iff]; simp; exact fun e => absurd e.symm h
      rw [this]
  · have : (hasV (l ++ [s]))[i]? = none := by rw [List.getElem?_eq_none]; simp [hasV]; omega
    rw [this]
    have h0 : (hasV l)[i]? = none := by rw [List.getElem?_eq_none]; omega
    rw [h0]
    by_cases h : s = i
    · subst h; simp [hi]
    · simp [h]

set_option maxHeartbeats 1000000 in
theorem l2Order_any (a : Option Addr) (n c : Nat) (l : List Nat) (w : World) (h : IntsAt w a n (up l)) (hl : ∀ s ∈ l, s < 64) :
    Calls Try.prog 98 #[.slice a n c] w (RetInts w (up (ord l.contains))) := by
  have hn := h.small
  have hlen := Lib.hid h.len
  go_enter Try.func98, Try.ntmps98
  go_wp2_with (at_make; refine mk_bools rfl _ _ rfl _ rfl rfl 64 rfl (by omega) ?_; intro g w1 hrow hb1)
  have h1 := h.keep hb1
  go_loopw [4] (fun i wr => ∃ k : Nat, k ≤ n ∧ i = .int .i64 k ∧ Below w.heap.size w wr ∧ Row 4 wr w.heap.size (some ⟨g, 0, none⟩) 64 64 (hasV (l.take k))) (fun i _ => n - (intOf i).toNat)
  case atStart => exact ⟨0, Nat.zero_le _, rfl, hb1, by rw [List.take_zero, hasV_nil]; exact hrow⟩
  case round =>
    obtain ⟨k, hk, rfl, hb, hr⟩ := hrel
    have hx := h.keep hb
    by_cases hlt : k < n
    · obtain ⟨b, off, rfl, hc⟩ := hx.cells (by omega)
      have hck := hc k hlt
      rw [nth_up] at hck
      have hlk : k < l.length := by rw [← up_len, hlen.out]; exact hlt
      have h64 : nthN l k < 64 := hl _ (nthN_mem hlk)
      obtain ⟨g', hg', hB, hgl, hcell, hfr⟩ := hr.cells (by omega)
      simp only [Option.some.injEq, Addr.mk.injEq, and_true] at hg'
      subst hg'
      have hc1 := (hcell _ h64).trans (hasV_at _ _ h64)
      have hf1 := hfr (nthN l k)
      clear hl hc hcell hfr h h1 hx
      go_wp2
      go_roundw
      case rel =>
        refine ⟨k + 1, by omega, by go_num, hb.setCell hB _, ?_⟩
        rw [nthN_take _ _ hlk, ← hasV_snoc]
        exact hr.set _ _
      case measure => simp [intOf]; omega
    · obtain rfl : k = n := by omega
      rw [List.take_of_length_le (by rw [← up_len, hlen.out]; omega)] at hr
      clear hx h1 h hb1 hrow
      have hw := hb.size
      have HB := Lib.hid hb; clear hb
      go_wp2_with fail
      obtain ⟨w0, rfl⟩ : ∃ w0 : World, w0 = wr := ⟨_, rfl⟩
      obtain ⟨B2, hB2⟩ : ∃ B2, B2 = w0.heap.size := ⟨_, rfl⟩
      have HB2 := Lib.hid hB2
      have hB3 : w.heap.size ≤ B2 := by omega
      have hB4 : B2 ≤ w0.heap.size := by omega
      have hlit : Row 4 (w0.alloc (.cells #[] 3)) w.heap.size (some ⟨g, 0, none⟩) 64 64 (hasV l) := hr.alloc _
      have hown0 : Own 3 (w0.alloc (.cells #[] 3)) B2 (some ⟨w0.heap.size, 0, none⟩) 0 0 [] := Own.empty _ _ _ hB4
      have hgB : g < B2 := by rw [hB2]; exact (hr.lt g rfl).2
      clear hB2
      go_loopw [5, 6, 7] (fun v j _ wx => ∃ J : Nat, J ≤ 7 ∧ j = .int .i64 J ∧ Below B2 (w0.alloc (.cells #[] 3)) wx ∧ ∃ ad n c, n ≤ 64 * J ∧ v = .slice ad n c ∧ Own 3 wx B2 ad n c (up (ordTo l.contains J 0))) (fun _ j _ _ => 7 - (intOf j).toNat)
      case atStart => exact ⟨0, Nat.zero_le _, rfl, Below.refl _ _, _, 0, 0, by omega, rfl, hown0⟩
      case round =>
        obtain ⟨J, hJ, rfl, hb, ad, m, c', hm, rfl, hown⟩ := hrel
        by_cases hlt : J < 7
        · obtain ⟨wo, rfl⟩ : ∃ wo : World, wo = wr := ⟨_, rfl⟩
          have hJ6 : (J : Int) ≤ 6 := by omega
          go_wp2_with fail
          go_loopw [5, 7] (fun v s wy => ∃ S : Nat, S ≤ 64 ∧ s = .int .i64 S ∧ Below B2 (w0.alloc (.cells #[] 3)) wy ∧ ∃ ad n c, n ≤ 64 * J + S ∧ v = .slice ad n c ∧ Own 3 wy B2 ad n c (up (ordTo l.contains J S))) (fun _ s _ => 64 - (intOf s).toNat)
          case atStart => exact ⟨0, Nat.zero_le _, rfl, hb, ad, m, c', by omega, rfl, hown⟩
          case round =>
            obtain ⟨S, hS, rfl, hb, ad, m, c', hm, rfl, hown⟩ := hrel
            have hsz := hb.size
            have hbz : B2 ≤ wr.heap.size := by simp at hsz; omega
            have hr3 : Row 4 wr w.heap.size (some ⟨g, 0, none⟩) 64 64 (hasV l) := hlit.other fun q hq _ => hb.block q (by simp only [Option.some.injEq, Addr.mk.injEq, and_true] at hq; omega)
            by_cases hlt2 : S < 64
            · obtain ⟨g', hg', hB, hgl, hcell, hfr⟩ := hr3.cells (by omega)
              simp only [Option.some.injEq, Addr.mk.injEq, and_true] at hg'
              subst hg'
              have hc1 := (hcell _ hlt2).trans (hasV_at _ _ hlt2)
              clear hr3 hcell hfr hlit hr hl
              cases hcs : l.contains S
              · rw [hcs] at hc1
                have hno : ordTo l.contains J (S + 1) = ordTo l.contains J S := ordTo_no (by rw [hcs]; rfl)
                have Hno := Lib.hid hno; clear hno hcs
                go_wp2
                go_roundw
                case rel => exact ⟨S + 1, by omega, by go_num, hb, ad, m, c', by omega, rfl, by rw [Hno.out]; exact hown⟩
                case measure => simp [intOf]; omega
              · rw [hcs] at hc1
                cases hsj : ((sz S : Int) == (J : Int))
                · have hno : ordTo l.contains J (S + 1) = ordTo l.contains J S := ordTo_no (by rw [hcs]; simp at hsj ⊢; omega)
                  have Hno := Lib.hid hno; clear hno hcs
                  go_wp2_with (go_at_call 74; (with_reducible refine (l2Size_any S _ hlt2).mono ?_); rintro e w' ⟨rfl, rfl⟩)
                  go_roundw
                  case rel => exact ⟨S + 1, by omega, by go_num, hb, ad, m, c', by omega, rfl, by rw [Hno.out]; exact hown⟩
                  case measure => simp [intOf]; omega
                · have hno : ordTo l.contains J (S + 1) = ordTo l.contains J S ++ [S] := ordTo_yes (by rw [hcs]; simp at hsj ⊢; omega)
                  have Hno := Lib.hid hno; clear hno hcs
                  go_wp2_with (first | (go_at_call 74; (with_reducible refine (l2Size_any S _ hlt2).mono ?_); rintro e w' ⟨rfl, rfl⟩) | (at_builtin; refine ap rfl _ _ rfl B2 _ _ _ _ _ rfl hown rfl (by omega) hbz ?_; intro ad' c2 w' hown' hb'))
                  go_roundw
                  case rel => exact ⟨S + 1, by omega, by go_num, hb.trans hb', ad', m + 1, c2, by omega, rfl, by rw [Hno.out, up_append]; exact hown'⟩
                  case measure => simp [intOf]; omega
            · obtain rfl : S = 64 := by omega
              have hnx := Lib.hid (ordTo_next l.contains J)
              clear hr hr3 hlit hl
              go_wp2
              go_roundw
              case rel => exact ⟨J + 1, by omega, by go_num, hb, ad, m, c', by omega, rfl, by rw [← hnx.out]; exact hown⟩
              case measure => simp [intOf]; omega
        · obtain rfl : J = 7 := by omega
          have hfin := Lib.hid (ordTo_end l.contains)
          clear hr hlit hl
          go_wp2
          go_ret
          refine ⟨ad, m, c', rfl, ?_, ?_⟩
          · rw [← hfin.out]; exact hown.mono hB3
          · exact (HB.out.trans ((Below.refl _ _).alloc hw _)).trans (hb.mono hB3)

theorem castBeq (a b : Nat) : ((a : Int) == (b : Int)) = (a == b) := by rw [Bool.eq_iff_iff]; simp; omega
theorem castBne (a b : Nat) : ((a : Int) != (b : Int)) = (a != b) := by unfold bne; rw [castBeq]

set_option maxHeartbeats 1000000 in
theorem l2Extreme_any (a : Option Addr) (n c : Nat) (l : List Nat) (g : Bool) (w : World) (h : IntsAt w a n (up l)) (hl : ∀ s ∈ l, s < 64) :
    Calls Try.prog 125 #[.slice a n c, .bool g] w (RetInts w (up (extL g l.contains))) := by
  have Hh := Lib.hid h; clear h
  have Hl := Lib.hid hl; clear hl
  go_enter Try.func125, Try.ntmps125
  go_wp2_with (go_at_call 98; (with_reducible refine (l2Order_any a n c l _ Hh.out Hl.out).mono ?_); rintro e w1 ⟨la, ln, lc, rfl, hown1, hb1⟩)
  obtain ⟨L, hL⟩ : ∃ L, L = ord l.contains := ⟨_, rfl⟩
  rw [← hL] at hown1
  have HL64 := Lib.hid (show ∀ s ∈ L, s < 64 by rw [hL]; exact ord_lt)
  have hLlen : L.length ≤ 64 := by rw [hL]; exact ord_len _
  have HL := Lib.hid hL; clear hL
  have hln : L.length = ln := by rw [← up_len]; exact hown1.len
  have h64 : ln ≤ 64 := by omega
  have Hln := Lib.hid hln; clear hln hLlen
  have hr1 := hown1.reads
  have Hb1 := Lib.hid hb1
  have hsz1 := hb1.size
  clear hb1
  obtain ⟨B2, hB2⟩ : ∃ B2, B2 = w1.heap.size := ⟨_, rfl⟩
  have hB4 : B2 ≤ w1.heap.size := by omega
  have hown0 : Own 3 (w1.alloc (.cells #[] 3)) B2 (some ⟨w1.heap.size, 0, none⟩) 0 0 [] := Own.empty _ _ _ hB4
  have HB2 := Lib.hid hB2; clear hB2
  go_loopw [6, 7, 8, 9, 10, 11] (fun v i _ _ _ _ wr => ∃ k : Nat, k ≤ ln ∧ i = .int .i64 k ∧ Below B2 (w1.alloc (.cells #[] 3)) wr ∧ ∃ ad n c, n ≤ k ∧ v = .slice ad n c ∧ Own 3 wr B2 ad n c (up (extTo g L k))) (fun _ i _ _ _ _ _ => ln - (intOf i).toNat)
  case atStart => exact ⟨0, Nat.zero_le _, rfl, Below.refl _ _, _, 0, 0, Nat.le_refl _, rfl, hown0⟩
  case round =>
    obtain ⟨k, hk, rfl, hb, ad, m, c', hm, rfl, hown⟩ := hrel
    have hbw : Below w1.heap.size w1 wr := ((Below.refl _ w1).alloc (Nat.le_refl _) _).trans (by rw [← HB2.out]; exact hb)
    have hr := hr1.keep hbw
    have hsz := hbw.size
    rw [← HB2.out] at hsz
    by_cases hlt : k < ln
    · obtain ⟨b, off, rfl, hc⟩ := hr.cells (by omega)
      have hck := hc k hlt
      rw [nth_up] at hck
      have hlk : k < L.length := by rw [Hln.out]; exact hlt
      obtain ⟨s, hs⟩ : ∃ s, s = nthN L k := ⟨_, rfl⟩
      have hs64 : s < 64 := by rw [hs]; exact HL64.out _ (nthN_mem hlk)
      rw [← hs] at hck
      have Hs := Lib.hid hs; clear hs
      have Hc := Lib.hid hc; clear hc hr hr1 hown1 hown0 hbw
      go_wp2_with fail
      go_loop [8, 9, 10, 11] (fun f j _ _ => ∃ q : Nat, q ≤ ln ∧ j = .int .i64 q ∧ f = .bool (fineTo g L s q)) (fun _ j _ _ => ln - (intOf j).toNat)
      case atStart => exact ⟨0, Nat.zero_le _, rfl, rfl⟩
      case round =>
        obtain ⟨q, hq, rfl, rfl⟩ := hrel
        by_cases hlt2 : q < ln
        · have hcq := Hc.out q hlt2
          rw [nth_up] at hcq
          have hqL : q < L.length := by rw [Hln.out]; exact hlt2
          obtain ⟨t, ht⟩ : ∃ t, t = nthN L q := ⟨_, rfl⟩
          have ht64 : t < 64 := by rw [ht]; exact HL64.out _ (nthN_mem hqL)
          rw [← ht] at hcq
          have hsucc := Lib.hid (show fineTo g L s (q + 1) = (fineTo g L s q && !bad g s t) by rw [fineTo_succ g L s q hqL, ht])
          clear ht
          cases g
          · cases h1 : ((s : Int) != (t : Int))
            · go_wp2
              go_round
              case rel => exact ⟨q + 1, by omega, by go_num, by rw [hsucc.out]; unfold bad; rw [castBne] at h1; simp [h1]⟩
              case measure => simp [intOf]; omega
            · cases h2 : (((s &&& t : Nat) : Int) == (t : Int))
              · go_wp2
                go_round
                case rel => exact ⟨q + 1, by omega, by go_num, by rw [hsucc.out]; unfold bad; rw [castBeq] at h2; simp [h2]⟩
                case measure => simp [intOf]; omega
              · go_wp2
                go_round
                case rel => exact ⟨q + 1, by omega, by go_num, by rw [hsucc.out]; unfold bad; rw [castBeq] at h2; rw [castBne] at h1; simp [h1, h2]⟩
                case measure => simp [intOf]; omega
          · cases h1 : ((s : Int) != (t : Int))
            · go_wp2
              go_round
              case rel => exact ⟨q + 1, by omega, by go_num, by rw [hsucc.out]; unfold bad; rw [castBne] at h1; simp [h1]⟩
              case measure => simp [intOf]; omega
            · cases h2 : (((s &&& t : Nat) : Int) == (s : Int))
              · go_wp2
                go_round
                case rel => exact ⟨q + 1, by omega, by go_num, by rw [hsucc.out]; unfold bad; rw [castBeq] at h2; simp [h2]⟩
                case measure => simp [intOf]; omega
              · go_wp2
                go_round
                case rel => exact ⟨q + 1, by omega, by go_num, by rw [hsucc.out]; unfold bad; rw [castBeq] at h2; rw [castBne] at h1; simp [h1, h2]⟩
                case measure => simp [intOf]; omega
        · obtain rfl : q = ln := by omega
          cases hf : fineTo g L s q
          · have Hno := Lib.hid (extTo_no (g := g) (l := L) hlk (by rw [← Hs.out, Hln.out]; exact hf))
            go_wp2
            go_roundw
            case rel => exact ⟨k + 1, by omega, by go_num, hb, ad, m, c', by omega, rfl, by rw [Hno.out]; exact hown⟩
            case measure => simp [intOf]; omega
          · have Hno := Lib.hid (extTo_yes (g := g) (l := L) hlk (by rw [← Hs.out, Hln.out]; exact hf))
            go_wp2_with (at_builtin; refine ap rfl _ _ rfl B2 _ _ _ _ _ rfl hown rfl (by omega) hsz ?_; intro ad' c2 w' hown' hb')
            go_roundw
            case rel => exact ⟨k + 1, by omega, by go_num, hb.trans hb', ad', m + 1, c2, by omega, rfl, by rw [Hno.out, up_append, ← Hs.out]; exact hown'⟩
            case measure => simp [intOf]; omega
    · obtain rfl : k = ln := by omega
      clear hr hr1 hown1 hown0
      go_wp2
      go_ret
      refine ⟨ad, m, c', rfl, ?_, ?_⟩
      · rw [← Hln.out, HL.out, extTo_ord] at hown
        exact hown.mono (by rw [HB2.out]; exact hsz1)
      · exact Hb1.out.trans (hbw.mono hsz1)


end Go.Proofs.Ytbdnlncpamandaa

/- Contracts of the functions on orders of points: what IsPoset answers, the program's and the reference's. -/
namespace Go.Proofs.Ytbdnlncpamandaa
set_option maxRecDepth 20000
open Go.RowKit
set_option linter.unusedSimpArgs false

/-- what is asked of each point alone -/
def OkPt (p : Int) (xs : List Int) (i : Nat) : Prop := ∃ t : Nat, nth xs i = t ∧ t < 2 ^ p.toNat ∧ t.testBit i = false
theorem okPt_cases {p : Int} (h1 : 1 ≤ p) (h6 : p ≤ 6) (xs : List Int) (i : Nat) : (isSetB p (nth xs i) = false ∧ ¬ OkPt p xs i) ∨ ∃ t : Nat, nth xs i = t ∧ t < 64 ∧ t < 2 ^ p.toNat ∧ isSetB p (nth xs i) = true ∧ (OkPt p xs i ↔ t.testBit i = false) := by
  obtain ⟨m, rfl⟩ := Int.eq_ofNat_of_zero_le (show 0 ≤ p by omega)
  cases h : isSetB (m : Int) (nth xs i)
  · refine .inl ⟨rfl, ?_⟩
    rintro ⟨t, ht, hlt, _⟩
    have : isSetB (m : Int) (nth xs i) = true := isSet_iff.2 ⟨by omega, t, ht, by simpa using hlt⟩
    rw [h] at this; cases this
  · obtain ⟨hm, t, ht, hlt⟩ := isSet_iff.1 h
    have := pow_le64 hm
    refine .inr ⟨t, ht, by omega, by simpa using hlt, rfl, ?_⟩
    constructor
    · rintro ⟨t', ht', _, hb⟩
      rw [ht] at ht'
      have : t = t' := by omega
      rw [this]; exact hb
    · intro hb; exact ⟨t, ht, by simpa using hlt, hb⟩

theorem below_box {w wr : World} {o : Obj} (hb : Below (w.heap.size + 1) (w.alloc o) wr) (n : Nat) : Below w.heap.size w (wr.drewN n) := below_drewN (box_below hb) n


end Go.Proofs.Ytbdnlncpamandaa

/- Contracts of the functions that write sets as texts: the program's and the reference's. -/
namespace Go.Proofs.Ytbdnlncpamandaa
set_option maxRecDepth 20000
open Go.RowKit
set_option linter.unusedSimpArgs false

/-- A string of these bytes. -/
def str (l : List UInt8) : ByteArray := ⟨l.toArray⟩
theorem str_append (l m : List UInt8) : str l ++ str m = str (l ++ m) := by
  apply ByteArray.ext
  simp [str]
theorem str_size (l : List UInt8) : (str l).size = l.length := by simp [str, ByteArray.size]
theorem str_inj {l m : List UInt8} (h : str l = str m) : l = m := by
  have := congrArg (fun b => b.data.toList) h
  simpa [str] using this

/-- The letter of a point. -/
def letter (i : Nat) : UInt8 := UInt8.ofNat (97 + i)
theorem letter_nat {i : Nat} (h : i < 6) : (letter i).toNat = 97 + i := by unfold letter; rw [UInt8.toNat_ofNat']; omega
def lettersTo (s k : Nat) : List UInt8 := (ptsTo s k).map letter
/-- The text of a set. -/
def setText (s : Nat) : List UInt8 := if s = 0 then [45] else (pts s).map letter
theorem lettersTo_yes {s k : Nat} (h : s.testBit k = true) : lettersTo s (k + 1) = lettersTo s k ++ [letter k] := by unfold lettersTo; rw [ptsTo_yes h, List.map_append]; rfl
theorem lettersTo_no {s k : Nat} (h : s.testBit k = false) : lettersTo s (k + 1) = lettersTo s k := by unfold lettersTo; rw [ptsTo_no h]
theorem lettersTo_len (s k : Nat) : (lettersTo s k).length ≤ k := by unfold lettersTo; rw [List.length_map]; exact ptsTo_len s k
theorem setText_len (s : Nat) : (setText s).length ≤ 6 := by
  unfold setText pts
  split
  · simp
  · exact lettersTo_len s 6
theorem abc : ∀ k, k < 6 → ({ data := #[97, 98, 99, 100, 101, 102] } : ByteArray).extract k (k + 1) = str [letter k] := by decide +kernel

set_option maxHeartbeats 400000 in
theorem sSetText_yes (s : Nat) (w : World) (hs : s < 64) :
    Calls Try.prog 114 #[.int .i64 s] w fun e w' => e = .returned (.string (str (setText s))) ∧ w = w' := by
  by_cases h0 : s = 0
  · subst h0
    go_enter Try.func114, Try.ntmps114
    go_wp2_with (go_at_call 72; (with_reducible refine (l1In_yes 0 0 63 _ (by omega) (by omega)).mono ?_); rintro e w' ⟨rfl, rfl⟩)
    go_ret
    exact ⟨rfl, rfl⟩
  · have H0 := Lib.hid h0
    have hz : ((s : Int) == 0) = false := by simp; omega
    clear h0
    go_enter Try.func114, Try.ntmps114
    go_wp2_with (go_at_call 72; (with_reducible refine (l1In_set s _ hs).mono ?_); rintro e w' ⟨rfl, rfl⟩)
    go_loop [3, 4] (fun v i => ∃ (k : Nat) (t : ByteArray), k ≤ 6 ∧ i = .int .i64 k ∧ v = .string t ∧ t.size ≤ k ∧ Hid (t = str (lettersTo s k))) (fun _ i => 6 - (intOf i).toNat)
    case atStart => exact ⟨0, _, Nat.zero_le _, rfl, rfl, Nat.le_refl _, Lib.hid rfl⟩
    case round =>
      obtain ⟨k, t, hk, rfl, rfl, hsz, ht⟩ := hrel
      by_cases hlt : k < 6
      · cases hb : s.testBit k
        · go_wp2
          go_round
          case rel => exact ⟨k + 1, _, by omega, by go_num, rfl, by omega, Lib.hid (by rw [lettersTo_no hb]; exact ht.out)⟩
          case measure => simp [intOf]; omega
        · have Habc := Lib.hid (abc k hlt)
          go_wp2
          go_round
          case rel =>
            refine ⟨k + 1, _, by omega, by go_num, rfl, ?_, Lib.hid ?_⟩
            · rw [ht.out, Habc.out, str_append, str_size, ← lettersTo_yes hb]; exact lettersTo_len _ _
            · rw [ht.out, Habc.out, str_append, lettersTo_yes hb]
          case measure => simp [intOf]; omega
      · obtain rfl : k = 6 := by omega
        go_wp2
        go_ret
        refine ⟨?_, rfl⟩
        have e : setText s = lettersTo s 6 := by unfold setText; rw [if_neg H0.out]; rfl
        rw [e, ← ht.out]; rfl

set_option maxHeartbeats 400000 in
theorem iSetText_yes (s : Nat) (w : World) (hs : s < 64) :
    Calls Try.prog 113 #[.int .i64 s] w fun e w' => e = .returned (.string (str (setText s))) ∧ Below w.heap.size w w' := by
  by_cases h0 : s = 0
  · subst h0
    go_enter Try.func113, Try.ntmps113
    go_wp2_with (go_at_call 112; (with_reducible refine (IsSet60 _).mono ?_); rintro e w' ⟨rfl, rfl⟩)
    go_ret
    exact ⟨rfl, Below.refl _ _⟩
  · have H0 := Lib.hid h0
    have hz : ((s : Int) == 0) = false := by simp; omega
    clear h0
    go_enter Try.func113, Try.ntmps113
    go_wp2_with (first | (go_at_call 112; (with_reducible refine (IsSet6 s _ hs).mono ?_); rintro e w' ⟨rfl, rfl⟩) | (at_make; refine mk_bytes0 rfl _ _ rfl _ rfl rfl 6 rfl (by omega) ?_; intro g w1 hrow hb1) | (go_at_call 80; (with_reducible refine (PointsOf_any s _ hs).mono ?_); rintro e w2 ⟨la, ln, lc, rfl, hl, hb2⟩))
    have hrow2 := hrow.keep hb2
    have hgl := (hrow.lt g rfl).2
    have hgw := (hrow.lt g rfl).1
    have hln : (pts s).length = ln := by rw [← up_len]; exact hl.len
    have hln6 : ln ≤ 6 := by rw [← hln]; exact ptsTo_len s 6
    have Hln := Lib.hid hln
    have Hb : Hid (Below w.heap.size w w2) := Lib.hid (hb1.trans (hb2.mono hb1.size))
    have Hrow := Lib.hid hrow2
    clear hln hrow hrow2 hb1 hb2
    go_loopw [3, 5, 15] (fun v _ i wr => ∃ k : Nat, k ≤ ln ∧ i = .int .i64 k ∧ Below w.heap.size w2 wr ∧ Own 3 wr w1.heap.size la ln lc (up (pts s)) ∧ v = .slice (some ⟨g, 0, none⟩) k 6 ∧ Row 5 wr w.heap.size (some ⟨g, 0, none⟩) k 6 (bval (((pts s).take k).map letter))) (fun _ _ i _ => ln - (intOf i).toNat)
    case atStart => exact ⟨0, Nat.zero_le _, rfl, Below.refl _ _, hl, rfl, Hrow.out⟩
    case round =>
      clear hl
      obtain ⟨k, hk, rfl, hb, hl, rfl, hown⟩ := hrel
      by_cases hlt : k < ln
      · obtain ⟨b, off, rfl, hc⟩ := hl.reads.cells (by omega)
        have hck := hc k hlt
        rw [nth_up] at hck
        have hkp : k < (pts s).length := by rw [Hln.out]; exact hlt
        obtain ⟨i, hi⟩ : ∃ i, i = nthN (pts s) k := ⟨_, rfl⟩
        have hi6 : i < 6 := by rw [hi]; exact pts_lt _ (nthN_mem hkp)
        rw [← hi] at hck
        have hst := Lib.hid (show bval (((pts s).take (k + 1)).map letter) = bval (((pts s).take k).map letter ++ [letter i]) by rw [nthN_take _ _ hkp, List.map_append, hi]; rfl)
        have hlet := letter_nat hi6
        have Hlet := Lib.hid (show (97 + (i : Int)) = ((letter i).toNat : Int) by omega)
        clear hi hc hlet
        go_wp2_with (at_builtin; refine ap_bytefit rfl _ _ rfl w.heap.size g _ _ _ _ (letter i) Hlet.out rfl hown rfl (by omega) ?_; intro w' hown' hg')
        go_roundw
        case rel => exact ⟨k + 1, by omega, by go_num, hb.grown hg' (by have := hb.size; have := Hb.out.size; omega) (fun k hk => by cases hk; exact hgw), hl.grown hg' (fun k hk => by cases hk; exact hgl), rfl, by rw [hst.out]; exact hown'⟩
        case measure => simp [intOf]; omega
      · obtain rfl : k = ln := by omega
        have hrun := run_str hown
        clear hl
        go_wp2
        go_ret
        refine ⟨?_, Hb.out.trans hb⟩
        have e : setText s = ((pts s).take k).map letter := by
          unfold setText; rw [if_neg H0.out, List.take_of_length_le (by rw [Hln.out]; omega)]
        rw [e, List.map_take]; rfl

/-- the text of a flip -/
def flipText (s t : Int) : ByteArray := if isSetB 6 s = true ∧ isSetB 6 t = true then str (setText s.toNat) ++ str [62] ++ str (setText t.toNat) else str []
theorem sFlipText_any (s t : Int) (w : World) :
    Calls Try.prog 59 #[.int .i64 s, .int .i64 t] w fun e w' => e = .returned (.string (flipText s t)) ∧ w = w' := by
  cases h1 : isSetB 6 s
  · have e : flipText s t = str [] := by unfold flipText; rw [if_neg (by simp [h1])]
    have E := Lib.hid e; clear e
    rw [← in63] at h1
    go_enter Try.func59, Try.ntmps59
    go_wp2_with (go_at_call 72; (with_reducible refine (l1In_any s 0 63 _).mono ?_); rintro e w' ⟨rfl, rfl⟩)
    go_ret
    exact ⟨by rw [E.out]; rfl, rfl⟩
  · cases h2 : isSetB 6 t
    · have e : flipText s t = str [] := by unfold flipText; rw [if_neg (by simp [h2])]
      have E := Lib.hid e; clear e
      rw [← in63] at h1 h2
      go_enter Try.func59, Try.ntmps59
      go_wp2_with (first | (go_at_call 72; (with_reducible refine (l1In_any s 0 63 _).mono ?_); rintro e w' ⟨rfl, rfl⟩) | (go_at_call 72; (with_reducible refine (l1In_any t 0 63 _).mono ?_); rintro e w' ⟨rfl, rfl⟩))
      go_ret
      exact ⟨by rw [E.out]; rfl, rfl⟩
    · have e : flipText s t = str (setText s.toNat) ++ str [62] ++ str (setText t.toNat) := by unfold flipText; rw [if_pos ⟨h1, h2⟩]
      have E := Lib.hid e; clear e
      obtain ⟨a, ha, rfl⟩ := isSet6_iff.1 h1
      obtain ⟨b, hb, rfl⟩ := isSet6_iff.1 h2
      simp only [Int.toNat_natCast] at E
      have l1 := setText_len a
      have l2 := setText_len b
      rw [← str_size] at l1 l2
      clear h1 h2
      go_enter Try.func59, Try.ntmps59
      go_wp2_with (first | (go_at_call 72; (with_reducible refine (l1In_set a _ ha).mono ?_); rintro e w' ⟨rfl, rfl⟩) | (go_at_call 72; (with_reducible refine (l1In_set b _ hb).mono ?_); rintro e w' ⟨rfl, rfl⟩) | (go_at_call 114; (with_reducible refine (sSetText_yes a _ ha).mono ?_); rintro e w' ⟨rfl, rfl⟩) | (go_at_call 114; (with_reducible refine (sSetText_yes b _ hb).mono ?_); rintro e w' ⟨rfl, rfl⟩))
      go_ret
      exact ⟨by rw [E.out]; rfl, rfl⟩
theorem iFlipText_any (s t : Int) (w : World) :
    Calls Try.prog 58 #[.int .i64 s, .int .i64 t] w fun e w' => e = .returned (.string (flipText s t)) ∧ Below w.heap.size w w' := by
  cases h1 : isSetB 6 s
  · have e : flipText s t = str [] := by unfold flipText; rw [if_neg (by simp [h1])]
    have E := Lib.hid e; clear e
    go_enter Try.func58, Try.ntmps58
    go_wp2_with (go_at_call 112; (with_reducible refine (IsSet_any 6 s _).mono ?_); rintro e w' ⟨rfl, rfl⟩)
    go_ret
    exact ⟨by rw [E.out]; rfl, Below.refl _ _⟩
  · cases h2 : isSetB 6 t
    · have e : flipText s t = str [] := by unfold flipText; rw [if_neg (by simp [h2])]
      have E := Lib.hid e; clear e
      go_enter Try.func58, Try.ntmps58
      go_wp2_with (first | (go_at_call 112; (with_reducible refine (IsSet_any 6 s _).mono ?_); rintro e w' ⟨rfl, rfl⟩) | (go_at_call 112; (with_reducible refine (IsSet_any 6 t _).mono ?_); rintro e w' ⟨rfl, rfl⟩))
      go_ret
      exact ⟨by rw [E.out]; rfl, Below.refl _ _⟩
    · have e : flipText s t = str (setText s.toNat) ++ str [62] ++ str (setText t.toNat) := by unfold flipText; rw [if_pos ⟨h1, h2⟩]
      have E := Lib.hid e; clear e
      obtain ⟨a, ha, rfl⟩ := isSet6_iff.1 h1
      obtain ⟨b, hb, rfl⟩ := isSet6_iff.1 h2
      simp only [Int.toNat_natCast] at E
      have l1 := setText_len a
      have l2 := setText_len b
      rw [← str_size] at l1 l2
      clear h1 h2
      go_enter Try.func58, Try.ntmps58
      go_wp2_with (first | (go_at_call 112; (with_reducible refine (IsSet6 a _ ha).mono ?_); rintro e w' ⟨rfl, rfl⟩) | (go_at_call 112; (with_reducible refine (IsSet6 b _ hb).mono ?_); rintro e w' ⟨rfl, rfl⟩) | (go_at_call 113; (with_reducible refine (iSetText_yes a _ ha).mono ?_); rintro e w1 ⟨rfl, hb1⟩) | (go_at_call 113; (with_reducible refine (iSetText_yes b _ hb).mono ?_); rintro e w2 ⟨rfl, hb2⟩))
      go_ret
      exact ⟨by rw [E.out]; rfl, hb1.trans (hb2.mono hb1.size)⟩

end Go.Proofs.Ytbdnlncpamandaa

/- Contracts of DualPoset, the program's and the reference's: the order turned over. -/
namespace Go.Proofs.Ytbdnlncpamandaa
set_option maxRecDepth 20000
open Go.RowKit
set_option linter.unusedSimpArgs false

/-- the sets of a list of numbers that are known to be sets -/
def nats (xs : List Int) : List Nat := xs.map Int.toNat
theorem nats_len (xs : List Int) : (nats xs).length = xs.length := by simp [nats]
theorem poset_nats {p : Int} {xs : List Int} (h : PosetP p xs) : xs = up (nats xs) := by
  apply List.ext_getElem?
  intro i
  unfold up nats
  rw [List.getElem?_map, List.getElem?_map]
  rcases Nat.lt_or_ge i xs.length with hi | hi
  · rw [List.getElem?_eq_getElem hi]
    obtain ⟨t, ht, _⟩ := h.2.2.2.1 i hi
    rw [nth_eq hi] at ht
    simp [ht]
  · rw [List.getElem?_eq_none hi]; rfl
theorem poset_lt {p : Int} {xs : List Int} (h : PosetP p xs) : ∀ k, k < xs.length → nthN (nats xs) k < 2 ^ xs.length ∧ nthN (nats xs) k < 64 := by
  intro k hk
  obtain ⟨t, ht, hlt, _⟩ := h.2.2.2.1 k hk
  have e : nthN (nats xs) k = t := by
    unfold nthN nats
    rw [List.getD_eq_getElem?_getD, List.getElem?_map, List.getElem?_eq_getElem hk]
    rw [nth_eq hk] at ht
    simp [ht]
  have h3 := h.2.2.1
  have hp : p.toNat = xs.length := by omega
  rw [hp] at hlt
  have := pow_le64 (m := xs.length) (by have := h.2.1; omega)
  rw [e]; exact ⟨hlt, by omega⟩
theorem poset_len {p : Int} {xs : List Int} (h : PosetP p xs) : xs.length ≤ 6 := by have := h.2.1; have := h.2.2.1; omega


end Go.Proofs.Ytbdnlncpamandaa

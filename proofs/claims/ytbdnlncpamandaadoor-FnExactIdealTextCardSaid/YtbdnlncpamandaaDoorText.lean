/- Contracts of the functions that write sets as texts: the program's and the reference's. -/
import Derived.Test.YtbdnlncpamandaaDoorSet3
namespace Go.Proofs.YtbdnlncpamandaaDoor
set_option maxRecDepth 20000
open Go.RowKit
set_option linter.unusedSimpArgs false

/-- A string of these bytes. -/
def str (l : List UInt8) : ByteArray := ⟨l.toArray⟩
theorem str_append (l m : List UInt8) : str l ++ str m = str (l ++ m) := by
  apply ByteArray.ext
  simp [str]
theorem str_size (l : List UInt8) : (str l).size = l.length := by simp [str, ByteArray.size]
theorem str_inj {l m : List UInt8} (h : str l = str m) : l = m := by
  have := congrArg (fun b => b.data.toList) h
  simpa [str] using this

/-- The letter of a point. -/
def letter (i : Nat) : UInt8 := UInt8.ofNat (97 + i)
theorem letter_nat {i : Nat} (h : i < 6) : (letter i).toNat = 97 + i := by unfold letter; rw [UInt8.toNat_ofNat']; omega
def lettersTo (s k : Nat) : List UInt8 := (ptsTo s k).map letter
/-- The text of a set. -/
def setText (s : Nat) : List UInt8 := if s = 0 then [45] else (pts s).map letter
theorem lettersTo_yes {s k : Nat} (h : s.testBit k = true) : lettersTo s (k + 1) = lettersTo s k ++ [letter k] := by unfold lettersTo; rw [ptsTo_yes h, List.map_append]; rfl
theorem lettersTo_no {s k : Nat} (h : s.testBit k = false) : lettersTo s (k + 1) = lettersTo s k := by unfold lettersTo; rw [ptsTo_no h]
theorem lettersTo_len (s k : Nat) : (lettersTo s k).length ≤ k := by unfold lettersTo; rw [List.length_map]; exact ptsTo_len s k
theorem setText_len (s : Nat) : (setText s).length ≤ 6 := by
  unfold setText pts
  split
  · simp
  · exact lettersTo_len s 6
theorem abc : ∀ k, k < 6 → ({ data := #[97, 98, 99, 100, 101, 102] } : ByteArray).extract k (k + 1) = str [letter k] := by decide +kernel

set_option maxHeartbeats 400000 in
theorem sSetText_yes (s : Nat) (w : World) (hs : s < 64) :
    Calls Tryd.prog 26 #[.int .i64 s] w fun e w' => e = .returned (.string (str (setText s))) ∧ w = w' := by
  by_cases h0 : s = 0
  · subst h0
    go_enter Tryd.func26, Tryd.ntmps26
    go_wp2_with (go_at_call 25; (with_reducible refine (l1In_yes 0 0 63 _ (by omega) (by omega)).mono ?_); rintro e w' ⟨rfl, rfl⟩)
    go_ret
    exact ⟨rfl, rfl⟩
  · have H0 := Lib.hid h0
    have hz : ((s : Int) == 0) = false := by simp; omega
    clear h0
    go_enter Tryd.func26, Tryd.ntmps26
    go_wp2_with (go_at_call 25; (with_reducible refine (l1In_set s _ hs).mono ?_); rintro e w' ⟨rfl, rfl⟩)
    go_loop [3, 4] (fun v i => ∃ (k : Nat) (t : ByteArray), k ≤ 6 ∧ i = .int .i64 k ∧ v = .string t ∧ t.size ≤ k ∧ Hid (t = str (lettersTo s k))) (fun _ i => 6 - (intOf i).toNat)
    case atStart => exact ⟨0, _, Nat.zero_le _, rfl, rfl, Nat.le_refl _, Lib.hid rfl⟩
    case round =>
      obtain ⟨k, t, hk, rfl, rfl, hsz, ht⟩ := hrel
      by_cases hlt : k < 6
      · cases hb : s.testBit k
        · go_wp2
          go_round
          case rel => exact ⟨k + 1, _, by omega, by go_num, rfl, by omega, Lib.hid (by rw [lettersTo_no hb]; exact ht.out)⟩
          case measure => simp [intOf]; omega
        · have Habc := Lib.hid (abc k hlt)
          go_wp2
          go_round
          case rel =>
            refine ⟨k + 1, _, by omega, by go_num, rfl, ?_, Lib.hid ?_⟩
            · rw [ht.out, Habc.out, str_append, str_size, ← lettersTo_yes hb]; exact lettersTo_len _ _
            · rw [ht.out, Habc.out, str_append, lettersTo_yes hb]
          case measure => simp [intOf]; omega
      · obtain rfl : k = 6 := by omega
        go_wp2
        go_ret
        refine ⟨?_, rfl⟩
        have e : setText s = lettersTo s 6 := by unfold setText; rw [if_neg H0.out]; rfl
        rw [e, ← ht.out]; rfl

set_option maxHeartbeats 400000 in
theorem iSetText_yes (s : Nat) (w : World) (hs : s < 64) :
    Calls Tryd.prog 21 #[.int .i64 s] w fun e w' => e = .returned (.string (str (setText s))) ∧ Below w.heap.size w w' := by
  by_cases h0 : s = 0
  · subst h0
    go_enter Tryd.func21, Tryd.ntmps21
    go_wp2_with (go_at_call 28; (with_reducible refine (IsSet60 _).mono ?_); rintro e w' ⟨rfl, rfl⟩)
    go_ret
    exact ⟨rfl, Below.refl _ _⟩
  · have H0 := Lib.hid h0
    have hz : ((s : Int) == 0) = false := by simp; omega
    clear h0
    go_enter Tryd.func21, Tryd.ntmps21
    go_wp2_with (first | (go_at_call 28; (with_reducible refine (IsSet6 s _ hs).mono ?_); rintro e w' ⟨rfl, rfl⟩) | (at_make; refine mk_bytes0 rfl _ _ rfl _ rfl rfl 6 rfl (by omega) ?_; intro g w1 hrow hb1) | (go_at_call 31; (with_reducible refine (PointsOf_any s _ hs).mono ?_); rintro e w2 ⟨la, ln, lc, rfl, hl, hb2⟩))
    have hrow2 := hrow.keep hb2
    have hgl := (hrow.lt g rfl).2
    have hgw := (hrow.lt g rfl).1
    have hln : (pts s).length = ln := by rw [← up_len]; exact hl.len
    have hln6 : ln ≤ 6 := by rw [← hln]; exact ptsTo_len s 6
    have Hln := Lib.hid hln
    have Hb : Hid (Below w.heap.size w w2) := Lib.hid (hb1.trans (hb2.mono hb1.size))
    have Hrow := Lib.hid hrow2
    clear hln hrow hrow2 hb1 hb2
    go_loopw [3, 5, 15] (fun v _ i wr => ∃ k : Nat, k ≤ ln ∧ i = .int .i64 k ∧ Below w.heap.size w2 wr ∧ Own 3 wr w1.heap.size la ln lc (up (pts s)) ∧ v = .slice (some ⟨g, 0, none⟩) k 6 ∧ Row 5 wr w.heap.size (some ⟨g, 0, none⟩) k 6 (bval (((pts s).take k).map letter))) (fun _ _ i _ => ln - (intOf i).toNat)
    case atStart => exact ⟨0, Nat.zero_le _, rfl, Below.refl _ _, hl, rfl, Hrow.out⟩
    case round =>
      clear hl
      obtain ⟨k, hk, rfl, hb, hl, rfl, hown⟩ := hrel
      by_cases hlt : k < ln
      · obtain ⟨b, off, rfl, hc⟩ := hl.reads.cells (by omega)
        have hck := hc k hlt
        rw [nth_up] at hck
        have hkp : k < (pts s).length := by rw [Hln.out]; exact hlt
        obtain ⟨i, hi⟩ : ∃ i, i = nthN (pts s) k := ⟨_, rfl⟩
        have hi6 : i < 6 := by rw [hi]; exact pts_lt _ (nthN_mem hkp)
        rw [← hi] at hck
        have hst := Lib.hid (show bval (((pts s).take (k + 1)).map letter) = bval (((pts s).take k).map letter ++ [letter i]) by rw [nthN_take _ _ hkp, List.map_append, hi]; rfl)
        have hlet := letter_nat hi6
        have Hlet := Lib.hid (show (97 + (i : Int)) = ((letter i).toNat : Int) by omega)
        clear hi hc hlet
        go_wp2_with (at_builtin; refine ap_bytefit rfl _ _ rfl w.heap.size g _ _ _ _ (letter i) Hlet.out rfl hown rfl (by omega) ?_; intro w' hown' hg')
        go_roundw
        case rel => exact ⟨k + 1, by omega, by go_num, hb.grown hg' (by have := hb.size; have := Hb.out.size; omega) (fun k hk => by cases hk; exact hgw), hl.grown hg' (fun k hk => by cases hk; exact hgl), rfl, by rw [hst.out]; exact hown'⟩
        case measure => simp [intOf]; omega
      · obtain rfl : k = ln := by omega
        have hrun := run_str hown
        clear hl
        go_wp2
        go_ret
        refine ⟨?_, Hb.out.trans hb⟩
        have e : setText s = ((pts s).take k).map letter := by
          unfold setText; rw [if_neg H0.out, List.take_of_length_le (by rw [Hln.out]; omega)]
        rw [e, List.map_take]; rfl


end Go.Proofs.YtbdnlncpamandaaDoor

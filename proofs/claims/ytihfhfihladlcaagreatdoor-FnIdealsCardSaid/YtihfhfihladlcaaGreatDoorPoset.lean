/- Contracts of the functions on orders of points: what IsPoset answers, the program's and the reference's. -/
import Derived.Test.YtihfhfihladlcaaGreatDoorSet3
namespace Go.Proofs.YtihfhfihladlcaaGreatDoor
set_option maxRecDepth 20000
open Go.RowKit
set_option linter.unusedSimpArgs false

/-- what is asked of each point alone -/
def OkPt (p : Int) (xs : List Int) (i : Nat) : Prop := ∃ t : Nat, nth xs i = t ∧ t < 2 ^ p.toNat ∧ t.testBit i = false
theorem okPt_cases {p : Int} (h1 : 1 ≤ p) (h6 : p ≤ 6) (xs : List Int) (i : Nat) : (isSetB p (nth xs i) = false ∧ ¬ OkPt p xs i) ∨ ∃ t : Nat, nth xs i = t ∧ t < 64 ∧ t < 2 ^ p.toNat ∧ isSetB p (nth xs i) = true ∧ (OkPt p xs i ↔ t.testBit i = false) := by
  obtain ⟨m, rfl⟩ := Int.eq_ofNat_of_zero_le (show 0 ≤ p by omega)
  cases h : isSetB (m : Int) (nth xs i)
  · refine .inl ⟨rfl, ?_⟩
    rintro ⟨t, ht, hlt, _⟩
    have : isSetB (m : Int) (nth xs i) = true := isSet_iff.2 ⟨by omega, t, ht, by simpa using hlt⟩
    rw [h] at this; cases this
  · obtain ⟨hm, t, ht, hlt⟩ := isSet_iff.1 h
    have := pow_le64 hm
    refine .inr ⟨t, ht, by omega, by simpa using hlt, rfl, ?_⟩
    constructor
    · rintro ⟨t', ht', _, hb⟩
      rw [ht] at ht'
      have : t = t' := by omega
      rw [this]; exact hb
    · intro hb; exact ⟨t, ht, by simpa using hlt, hb⟩

theorem below_box {w wr : World} {o : Obj} (hb : Below (w.heap.size + 1) (w.alloc o) wr) (n : Nat) : Below w.heap.size w (wr.drewN n) := below_drewN (box_below hb) n
theorem posetNo {p : Int} {xs : List Int} {b : Bool} (hb : b = true ↔ PosetP p xs) (h : ¬ PosetP p xs) : b = false := by
  cases b
  · rfl
  · exact absurd (hb.1 rfl) h
/-- the points i and k as IsPoset asks of them -/
def OkTwo (xs : List Int) (i k : Nat) : Prop := (nth xs k).toNat.testBit i = true → sub (nth xs i).toNat (nth xs k).toNat = true
set_option maxHeartbeats 2000000 in
theorem sIsPoset_any (p : Int) (a : Option Addr) (n c : Nat) (xs : List Int) (w : World) (h : IntsAt w a n xs) (b : Bool) (hb : b = true ↔ PosetP p xs) :
    Calls Tryz.prog 57 #[.agg #[.int .i64 p, .slice a n c]] w fun e w' => e = .returned (.bool b) ∧ Below w.heap.size w w' := by
  have hn := h.small
  have hlen := Lib.hid h.len
  have Hh := Lib.hid h; clear h
  have Hb := Lib.hid hb; clear hb
  by_cases h1 : 1 ≤ p ∧ p ≤ 6
  · obtain ⟨hp1, hp6⟩ := h1
    by_cases h2 : (n : Int) = p
    · subst h2
      have hnn : ((n : Int) != (n : Int)) = false := by simp
      go_enter Tryz.func57, Tryz.ntmps57
      go_wp2_with (go_at_call 110; (with_reducible refine (l1In_yes (n : Int) 1 6 _ hp1 hp6).mono ?_); rintro e w' ⟨rfl, rfl⟩)
      go_loopw [3] (fun i wr => ∃ k : Nat, k ≤ n ∧ i = .int .i64 k ∧ Below (w.heap.size + 1) (w.alloc (.cells #[.int .i64 n, .slice a n c] 59)) wr ∧ Hid (∀ j, j < k → OkPt n xs j)) (fun i _ => n - (intOf i).toNat)
      case atStart => exact ⟨0, Nat.zero_le _, rfl, Below.refl _ _, Lib.hid (fun j hj => absurd hj (Nat.not_lt_zero _))⟩
      case round =>
        obtain ⟨k, hk, rfl, hbl, hok⟩ := hrel
        obtain ⟨hc0, hc1⟩ := box2 hbl
        by_cases hlt : k < n
        · obtain ⟨b1, o1, rfl, hc⟩ := (Hh.out.box hbl).cells (by omega)
          have hck := hc k hlt
          have hk0 : (0 : Int) ≤ k := by omega
          have hkn : (k : Int) < n := by omega
          clear hc
          rcases okPt_cases hp1 hp6 xs k with ⟨hs, hno⟩ | ⟨t, ht, ht64, htp, hs, hiff⟩
          · have hbf : b = false := posetNo Hb.out fun hP => hno (hP.2.2.2.1 k (by rw [hlen.out]; exact hlt))
            subst hbf
            clear hno
            go_wp2_with fail
            go_quiet ((go_at_call 36; exact ql (sIsSet_is _ _ _ _ hs)))
            go_wp2_with fail
            go_ret
            exact ⟨rfl, below_box hbl _⟩
          · rw [ht] at hck
            rw [ht] at hs
            have Ht := Lib.hid ht
            have Hiff := Lib.hid hiff
            clear ht hiff
            cases htb : t.testBit k
            · go_wp2_with fail
              go_quiet ((go_at_call 36; exact ql (sIsSet_is _ _ _ _ hs)))
              go_wp2_with fail
              go_roundw
              case rel =>
                refine ⟨k + 1, by omega, by go_num, below_drewN hbl _, Lib.hid fun j hj => ?_⟩
                rcases Nat.lt_or_ge j k with h | h
                · exact hok.out j h
                · obtain rfl : j = k := by omega
                  exact Hiff.out.2 htb
              case measure => simp [intOf]; omega
            · have hbf : b = false := posetNo Hb.out fun hP => by
                have := Hiff.out.1 (hP.2.2.2.1 k (by rw [hlen.out]; exact hlt))
                rw [htb] at this; cases this
              subst hbf
              go_wp2_with fail
              go_quiet ((go_at_call 36; exact ql (sIsSet_is _ _ _ _ hs)))
              go_wp2_with fail
              go_ret
              exact ⟨rfl, below_box hbl _⟩
        · obtain rfl : k = n := by omega
          have Hc0 := Lib.hid hc0; have Hc1 := Lib.hid hc1
          go_wp2_with fail
          have hnat : ∀ i, i < k → ∃ t : Nat, nth xs i = t ∧ t < 64 ∧ t.testBit i = false := fun i hi => by
            obtain ⟨t, h1, h2, h3⟩ := hok.out i hi
            have := pow_le64 (m := k) (by omega)
            exact ⟨t, h1, by simpa using Nat.lt_of_lt_of_le h2 (by simpa using this), h3⟩
          have Hnat := Lib.hid hnat; clear hnat
          have hb0 := Lib.hid hbl
          clear hbl hc0 hc1
          go_loopw [4, 5] (fun i _ wr => ∃ I : Nat, I ≤ k ∧ i = .int .i64 I ∧ Below (w.heap.size + 1) (w.alloc (.cells #[.int .i64 k, .slice a k c] 59)) wr ∧ Hid (∀ i, i < I → ∀ j, j < k → OkTwo xs i j)) (fun i _ _ => k - (intOf i).toNat)
          case atStart => exact ⟨0, Nat.zero_le _, rfl, hb0.out, Lib.hid (fun j hj => absurd hj (Nat.not_lt_zero _))⟩
          case round =>
            obtain ⟨I, hI, rfl, hbl, hok2⟩ := hrel
            obtain ⟨hc0, hc1⟩ := box2 hbl
            by_cases hlt2 : I < k
            · obtain ⟨s, hs, hs64, hsb⟩ := Hnat.out I hlt2
              have hIk : (I : Int) < (k : Int) := by omega
              obtain ⟨wo, rfl⟩ : ∃ wo : World, wo = wr := ⟨_, rfl⟩
              go_wp2_with fail
              have hb1 := Lib.hid hbl
              clear hbl hc0 hc1
              go_loopw [5] (fun j wr => ∃ J : Nat, J ≤ k ∧ j = .int .i64 J ∧ Below (w.heap.size + 1) (w.alloc (.cells #[.int .i64 k, .slice a k c] 59)) wr ∧ Hid (∀ j, j < J → OkTwo xs I j)) (fun j _ => k - (intOf j).toNat)
              case atStart => exact ⟨0, Nat.zero_le _, rfl, hb1.out, Lib.hid (fun j hj => absurd hj (Nat.not_lt_zero _))⟩
              case round =>
                obtain ⟨J, hJ, rfl, hbl, hok3⟩ := hrel
                obtain ⟨hc0, hc1⟩ := box2 hbl
                by_cases hlt3 : J < k
                · obtain ⟨t, ht, ht64, htb⟩ := Hnat.out J hlt3
                  obtain ⟨b1, o1, rfl, hc⟩ := (Hh.out.box hbl).cells (by omega)
                  have hcI := hc I hlt2
                  have hcJ := hc J hlt3
                  rw [hs] at hcI
                  rw [ht] at hcJ
                  have hJ0 : (0 : Int) ≤ J := by omega
                  have hJn : (J : Int) < k := by omega
                  have hI0 : (0 : Int) ≤ I := by omega
                  have Hs := Lib.hid hs; have Ht := Lib.hid ht
                  clear hc hs ht
                  cases hbit : t.testBit I
                  · go_wp2_with fail
                    go_quiet (fail)
                    go_wp2_with fail
                    go_roundw
                    case rel =>
                      refine ⟨J + 1, by omega, by go_num, below_drewN hbl _, Lib.hid fun j hj => ?_⟩
                      rcases Nat.lt_or_ge j J with h | h
                      · exact hok3.out j h
                      · obtain rfl : j = J := by omega
                        unfold OkTwo
                        rw [Ht.out]
                        intro h; simp [hbit] at h
                    case measure => simp [intOf]; omega
                  · cases hsub : (((t &&& s : Nat) : Int) != (s : Int))
                    · go_wp2_with fail
                      go_quiet (fail)
                      go_wp2_with fail
                      go_roundw
                      case rel =>
                        refine ⟨J + 1, by omega, by go_num, below_drewN hbl _, Lib.hid fun j hj => ?_⟩
                        rcases Nat.lt_or_ge j J with h | h
                        · exact hok3.out j h
                        · obtain rfl : j = J := by omega
                          unfold OkTwo
                          rw [Ht.out, Hs.out]
                          intro _
                          rw [castBne] at hsub
                          unfold sub
                          rw [Nat.and_comm]
                          simpa using hsub
                      case measure => simp [intOf]; omega
                    · have hbf : b = false := posetNo Hb.out fun hP => by
                        have := hP.2.2.2.2 I (by rw [hlen.out]; exact hlt2) J (by rw [hlen.out]; exact hlt3) (by rw [Ht.out]; exact hbit)
                        rw [Ht.out, Hs.out] at this
                        unfold sub at this
                        rw [Nat.and_comm] at this
                        rw [castBne] at hsub
                        simp at this hsub
                        exact hsub this
                      subst hbf
                      go_wp2_with fail
                      go_quiet (fail)
                      go_wp2_with fail
                      go_ret
                      exact ⟨rfl, below_box hbl _⟩
                · obtain rfl : J = k := by omega
                  have hJJ : ¬ ((J : Int) < (J : Int)) := by omega
                  go_wp2_with fail
                  go_roundw
                  case rel =>
                    refine ⟨I + 1, by omega, by go_num, hbl, Lib.hid fun i hi => ?_⟩
                    rcases Nat.lt_or_ge i I with h | h
                    · exact hok2.out i h
                    · obtain rfl : i = I := by omega
                      exact hok3.out
                  case measure => simp [intOf]; omega
            · obtain rfl : I = k := by omega
              have hbt : b = true := Hb.out.2 ⟨hp1, hp6, by rw [hlen.out], fun i hi => hok.out i (by rw [hlen.out] at hi; exact hi), fun i hi j hj => hok2.out i (by rw [hlen.out] at hi; exact hi) j (by rw [hlen.out] at hj; exact hj)⟩
              subst hbt
              have hII : ¬ ((I : Int) < (I : Int)) := by omega
              go_wp2_with fail
              go_ret
              exact ⟨rfl, box_below hbl⟩
    · have hbf : b = false := posetNo Hb.out fun hP => h2 (by rw [← hP.2.2.1, hlen.out])
      subst hbf
      have hnn : ((n : Int) != p) = true := by simp [h2]
      clear h2
      go_enter Tryz.func57, Tryz.ntmps57
      go_wp2_with (go_at_call 110; (with_reducible refine (l1In_yes p 1 6 _ hp1 hp6).mono ?_); rintro e w' ⟨rfl, rfl⟩)
      go_ret
      exact ⟨rfl, (Below.refl _ _).alloc (Nat.le_refl _) _⟩
  · have hbf : b = false := posetNo Hb.out fun hP => h1 ⟨hP.1, hP.2.1⟩
    subst hbf
    go_enter Tryz.func57, Tryz.ntmps57
    go_wp2_with (go_at_call 110; (with_reducible refine (l1In_no p 1 6 _ h1).mono ?_); rintro e w' ⟨rfl, rfl⟩)
    go_ret
    exact ⟨rfl, (Below.refl _ _).alloc (Nat.le_refl _) _⟩

set_option maxHeartbeats 2000000 in
theorem iIsPoset_any (p : Int) (a : Option Addr) (n c : Nat) (xs : List Int) (w : World) (h : IntsAt w a n xs) (b : Bool) (hb : b = true ↔ PosetP p xs) :
    Calls Tryz.prog 56 #[.agg #[.int .i64 p, .slice a n c]] w fun e w' => e = .returned (.bool b) ∧ Below w.heap.size w w' := by
  have hn := h.small
  have hlen := Lib.hid h.len
  have Hh := Lib.hid h; clear h
  have Hb := Lib.hid hb; clear hb
  by_cases h1 : p < 1
  · have hbf : b = false := posetNo Hb.out fun hP => by have := hP.1; omega
    subst hbf
    go_enter Tryz.func56, Tryz.ntmps56
    go_wp2_with fail
    go_ret
    exact ⟨rfl, (Below.refl _ _).alloc (Nat.le_refl _) _⟩
  by_cases h1' : 6 < p
  · have hbf : b = false := posetNo Hb.out fun hP => by have := hP.2.1; omega
    subst hbf
    go_enter Tryz.func56, Tryz.ntmps56
    go_wp2_with fail
    go_ret
    exact ⟨rfl, (Below.refl _ _).alloc (Nat.le_refl _) _⟩
  have hp1 : 1 ≤ p := by omega
  have hp6 : p ≤ 6 := by omega
  by_cases h2 : (n : Int) = p
  · subst h2
    have hnn : ((n : Int) != (n : Int)) = false := by simp
    clear h1 h1'
    go_enter Tryz.func56, Tryz.ntmps56
    go_wp2_with fail
    go_loopw [3, 4, 28] (fun _ _ i wr => ∃ k : Nat, k ≤ n ∧ i = .int .i64 k ∧ Below (w.heap.size + 1) (w.alloc (.cells #[.int .i64 n, .slice a n c] 59)) wr ∧ Hid (∀ j, j < k → OkPt n xs j)) (fun _ _ i _ => n - (intOf i).toNat)
    case atStart => exact ⟨0, Nat.zero_le _, rfl, Below.refl _ _, Lib.hid (fun j hj => absurd hj (Nat.not_lt_zero _))⟩
    case round =>
      obtain ⟨k, hk, rfl, hbl, hok⟩ := hrel
      obtain ⟨hc0, hc1⟩ := box2 hbl
      by_cases hlt : k < n
      · obtain ⟨b1, o1, rfl, hc⟩ := (Hh.out.box hbl).cells (by omega)
        have hck := hc k hlt
        have hk0 : (0 : Int) ≤ k := by omega
        have hkn : (k : Int) < n := by omega
        clear hc
        rcases okPt_cases hp1 hp6 xs k with ⟨hs, hno⟩ | ⟨t, ht, ht64, htp, hs, hiff⟩
        · have hbf : b = false := posetNo Hb.out fun hP => hno (hP.2.2.2.1 k (by rw [hlen.out]; exact hlt))
          subst hbf
          clear hno
          go_wp2_with (go_at_call 93; (with_reducible refine (IsSet_is _ _ _ _ hs).mono ?_); rintro e w' ⟨rfl, rfl⟩)
          go_ret
          exact ⟨rfl, box_below hbl⟩
        · rw [ht] at hck
          rw [ht] at hs
          have Ht := Lib.hid ht
          have Hiff := Lib.hid hiff
          clear ht hiff
          cases htb : t.testBit k
          · go_wp2_with (go_at_call 93; (with_reducible refine (IsSet_is _ _ _ _ hs).mono ?_); rintro e w' ⟨rfl, rfl⟩)
            go_roundw
            case rel =>
              refine ⟨k + 1, by omega, by go_num, hbl, Lib.hid fun j hj => ?_⟩
              rcases Nat.lt_or_ge j k with h | h
              · exact hok.out j h
              · obtain rfl : j = k := by omega
                exact Hiff.out.2 htb
            case measure => simp [intOf]; omega
          · have hbf : b = false := posetNo Hb.out fun hP => by
              have := Hiff.out.1 (hP.2.2.2.1 k (by rw [hlen.out]; exact hlt))
              rw [htb] at this; cases this
            subst hbf
            go_wp2_with (go_at_call 93; (with_reducible refine (IsSet_is _ _ _ _ hs).mono ?_); rintro e w' ⟨rfl, rfl⟩)
            go_ret
            exact ⟨rfl, box_below hbl⟩
      · obtain rfl : k = n := by omega
        have hkk : ¬ ((k : Int) < (k : Int)) := by omega
        go_wp2_with fail
        have hnat : ∀ i, i < k → ∃ t : Nat, nth xs i = t ∧ t < 64 ∧ t < 2 ^ k ∧ t.testBit i = false := fun i hi => by
          obtain ⟨t, h1, h2, h3⟩ := hok.out i hi
          have := pow_le64 (m := k) (by omega)
          exact ⟨t, h1, by simpa using Nat.lt_of_lt_of_le h2 (by simpa using this), by simpa using h2, h3⟩
        have Hnat := Lib.hid hnat; clear hnat
        have hb0 := Lib.hid hbl
        clear hbl hc0 hc1
        go_loopw [6, 8, 50] (fun _ _ i wr => ∃ I : Nat, I ≤ k ∧ i = .int .i64 I ∧ Below (w.heap.size + 1) (w.alloc (.cells #[.int .i64 k, .slice a k c] 59)) wr ∧ Hid (∀ j, j < I → ∀ i, i < k → OkTwo xs i j)) (fun _ _ i _ => k - (intOf i).toNat)
        case atStart => exact ⟨0, Nat.zero_le _, rfl, hb0.out, Lib.hid (fun j hj => absurd hj (Nat.not_lt_zero _))⟩
        case round =>
          obtain ⟨I, hI, rfl, hbl, hok2⟩ := hrel
          by_cases hlt2 : I < k
          · obtain ⟨s, hs, hs64, hsp, hsb⟩ := Hnat.out I hlt2
            obtain ⟨b1, o1, rfl, hc⟩ := (Hh.out.box hbl).cells (by omega)
            have hcI := hc I hlt2
            rw [hs] at hcI
            have Hs := Lib.hid hs
            clear hs hc
            have Hbl := Lib.hid hbl; clear hbl
            go_wp2_with (go_at_call 117; (with_reducible refine (PointsOf_any s _ hs64).mono ?_); rintro e w2 ⟨la, ln, lc, rfl, hl, hb2⟩)
            have hsz := Hbl.out.size
            have hbl2 : Below (w.heap.size + 1) (w.alloc (.cells #[.int .i64 k, .slice (some ⟨b1, o1, none⟩) k c] 59)) w2 := Hbl.out.trans (hb2.mono (by simpa using hsz))
            obtain ⟨hc0, hc1⟩ := box2 hbl2
            have hcw := (Hh.out.box hbl2).cellAt
            have Hcw := Lib.hid hcw; clear hcw
            have Hbl2 := Lib.hid hbl2; clear hbl2 hb2
            have hlr := hl.reads
            have hlp : (pts s).length = ln := by rw [← up_len]; exact hl.len
            have Hlp := Lib.hid hlp; clear hl hlp
            have hlsm := hlr.small
            go_loop [8, 57] (fun _ i => ∃ J : Nat, J ≤ ln ∧ i = .int .i64 J ∧ Hid (∀ q, q < J → sub (nth xs (nthN (pts s) q)).toNat s = true)) (fun _ i => ln - (intOf i).toNat)
            case atStart => exact ⟨0, Nat.zero_le _, rfl, Lib.hid (fun j hj => absurd hj (Nat.not_lt_zero _))⟩
            case round =>
              obtain ⟨J, hJ, rfl, hok3⟩ := hrel
              by_cases hlt3 : J < ln
              · obtain ⟨b3, o3, rfl, hc3⟩ := hlr.cells (by omega)
                have hcJ := hc3 J hlt3
                rw [nth_up] at hcJ
                have hJp : J < (pts s).length := by rw [Hlp.out]; exact hlt3
                obtain ⟨j, hj⟩ : ∃ j, j = nthN (pts s) J := ⟨_, rfl⟩
                have hjm : j ∈ pts s := by rw [hj]; exact nthN_mem hJp
                have hjb := (mem_pts.1 hjm).2
                have hjk : j < k := by
                  rcases Nat.lt_or_ge j k with h | h
                  · exact h
                  · rw [Nat.testBit_lt_two_pow (Nat.lt_of_lt_of_le hsp (Nat.pow_le_pow_right (n := 2) (by omega) h))] at hjb; cases hjb
                obtain ⟨t, ht, ht64, _, _⟩ := Hnat.out j hjk
                have hct := Hcw.out j hjk
                rw [← hj] at hcJ
                rw [ht] at hct
                have Ht := Lib.hid ht; have Hj := Lib.hid hj; have Hjb := Lib.hid hjb
                clear hc3 ht hj hjm hjb hlr
                cases hz : (((sdiff t s : Nat) : Int) != 0)
                · go_wp2_with fail
                  go_round
                  case rel =>
                    refine ⟨J + 1, by omega, by go_num, Lib.hid fun q hq => ?_⟩
                    rcases Nat.lt_or_ge q J with h | h
                    · exact hok3.out q h
                    · obtain rfl : q = J := by omega
                      rw [← Hj.out, Ht.out]
                      refine (sdiff_sub (a := t) ht64 hs64).1 ?_
                      simp at hz
                      simpa using hz
                  case measure => simp [intOf]; omega
                · have hbf : b = false := posetNo Hb.out fun hP => by
                    have := hP.2.2.2.2 j (by rw [hlen.out]; exact hjk) I (by rw [hlen.out]; exact hlt2) (by rw [Hs.out]; exact Hjb.out)
                    rw [Ht.out, Hs.out] at this
                    have := (sdiff_sub (a := t) (b := s) ht64 hs64).2 (by simpa using this)
                    rw [this] at hz
                    simp at hz
                  subst hbf
                  go_wp2_with fail
                  go_ret
                  exact ⟨rfl, box_below Hbl2.out⟩
              · obtain rfl : J = ln := by omega
                have hJJ : ¬ ((J : Int) < (J : Int)) := by omega
                clear hlr
                go_wp2_with fail
                go_roundw
                case rel =>
                  refine ⟨I + 1, by omega, by go_num, Hbl2.out, Lib.hid fun j hj => ?_⟩
                  rcases Nat.lt_or_ge j I with h | h
                  · exact hok2.out j h
                  · obtain rfl : j = I := by omega
                    intro i hi
                    unfold OkTwo
                    rw [Hs.out]
                    intro hbit
                    have hm : i ∈ pts s := mem_pts.2 ⟨by omega, by simpa using hbit⟩
                    obtain ⟨q, hq, hqe⟩ := List.getElem_of_mem hm
                    have := hok3.out q (by rw [← Hlp.out]; exact hq)
                    rw [nthN_eq hq, hqe] at this
                    simpa using this
                case measure => simp [intOf]; omega
          · obtain rfl : I = k := by omega
            have hbt : b = true := Hb.out.2 ⟨hp1, hp6, by rw [hlen.out], fun i hi => hok.out i (by rw [hlen.out] at hi; exact hi), fun i hi j hj => hok2.out j (by rw [hlen.out] at hj; exact hj) i (by rw [hlen.out] at hi; exact hi)⟩
            subst hbt
            have hII : ¬ ((I : Int) < (I : Int)) := by omega
            go_wp2_with fail
            go_ret
            exact ⟨rfl, box_below hbl⟩
  · have hbf : b = false := posetNo Hb.out fun hP => h2 (by rw [← hP.2.2.1, hlen.out])
    subst hbf
    have hnn : ((n : Int) != p) = true := by simp [h2]
    clear h2
    go_enter Tryz.func56, Tryz.ntmps56
    go_wp2_with fail
    go_ret
    exact ⟨rfl, (Below.refl _ _).alloc (Nat.le_refl _) _⟩

end Go.Proofs.YtihfhfihladlcaaGreatDoor

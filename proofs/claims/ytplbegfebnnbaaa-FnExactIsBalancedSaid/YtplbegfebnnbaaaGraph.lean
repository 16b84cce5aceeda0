/- Contracts of what IsGraph answers, the program's and the reference's. -/
import Derived.Test.YtplbegfebnnbaaaAnti
namespace Go.Proofs.Ytplbegfebnnbaaa
open Go.RowKit
set_option linter.unusedSimpArgs false

/-- what is asked of the edge at j -/
def EdgeOk (p : Int) (xs : List Int) (j : Nat) : Prop :=
  isSetB p (nth xs j) = true ∧ sz (nth xs j).toNat = 2 ∧ (0 < j → nth xs (j - 1) < nth xs j)
/-- what IsGraph asks -/
def GraphP (p : Int) (xs : List Int) : Prop := 1 ≤ p ∧ p ≤ 6 ∧ ∀ j, j < xs.length → EdgeOk p xs j
theorem graphNo {p : Int} {xs : List Int} {b : Bool} (hb : b = true ↔ GraphP p xs) (h : ¬ GraphP p xs) : b = false := by
  cases b
  · rfl
  · exact absurd (hb.1 rfl) h
theorem graph_dec (p : Int) (xs : List Int) : ∃ b : Bool, b = true ↔ GraphP p xs := by
  by_cases h : GraphP p xs
  · exact ⟨true, by simp [h]⟩
  · exact ⟨false, by simp [h]⟩

set_option maxHeartbeats 4000000 in
theorem sIsGraph_any (p : Int) (a : Option Addr) (n c : Nat) (xs : List Int) (w : World) (h : IntsAt w a n xs) (b : Bool) (hb : b = true ↔ GraphP p xs) :
    Calls Try.prog 64 #[.agg #[.int .i64 p, .slice a n c]] w fun e w' => e = .returned (.bool b) ∧ Below w.heap.size w w' := by
  have hn := h.small
  have hlen := Lib.hid h.len
  have Hh := Lib.hid h; clear h
  have Hb := Lib.hid hb; clear hb
  go_enter Try.func64, Try.ntmps64
  go_wp2_with fail
  go_loopw [3] (fun i wr => ∃ k : Nat, k ≤ n ∧ i = .int .i64 k ∧ Below (w.heap.size + 1) (w.alloc (.cells #[.int .i64 p, .slice a n c] 30)) wr ∧ Hid (∀ j, j < k → EdgeOk p xs j)) (fun i _ => n - (intOf i).toNat)
  case atStart => exact ⟨0, Nat.zero_le _, rfl, Below.refl _ _, Lib.hid (fun j hj => absurd hj (Nat.not_lt_zero _))⟩
  case round =>
    obtain ⟨k, hk, rfl, hbl, hok⟩ := hrel
    obtain ⟨hc0, hc1⟩ := box2 hbl
    by_cases hlt : k < n
    · obtain ⟨b1, o1, rfl, hc⟩ := (Hh.out.box hbl).cells (by omega)
      have hck := hc k hlt
      have hk0 : (0 : Int) ≤ k := by omega
      have hkn : (k : Int) < n := by omega
      have Hbl := Lib.hid hbl
      have Hc := Lib.hid hc
      clear hbl hc
      have hno : ¬ EdgeOk p xs k → b = false := fun hne => graphNo Hb.out fun hP => hne (hP.2.2 k (by rw [hlen.out]; exact hlt))
      have Hno := Lib.hid hno; clear hno
      cases hs : isSetB p (nth xs k)
      · have hbf : b = false := Hno.out fun hP => by have := hP.1; rw [hs] at this; cases this
        subst hbf
        go_wp2_with fail
        go_quiet ((go_at_call 121; exact ql (sIsSet_is _ _ _ _ hs)))
        go_wp2_with fail
        go_ret
        exact ⟨rfl, below_box Hbl.out _⟩
      · obtain ⟨t, hte, ht64⟩ := isSet_lt hs
        have Hs := Lib.hid hs
        have Hte := Lib.hid hte
        rw [hte] at hck
        rw [hte] at hs
        clear hte
        cases hz : (((sz t : Nat) : Int) != 2)
        · have hz2 : sz t = 2 := by simp at hz; omega
          have Hz := Lib.hid hz2; clear hz2
          by_cases hpos : ¬ 0 < k
          · go_wp2_with fail
            go_quiet (first | (go_at_call 121; exact ql (sIsSet_is _ _ _ _ hs)) | (go_at_call 122; exact ql (l2Size_any t _ ht64)))
            go_wp2_with fail
            go_roundw
            case rel =>
              refine ⟨k + 1, by omega, by go_num, below_drewN Hbl.out _, Lib.hid fun j hj => ?_⟩
              obtain rfl : j = k := by omega
              exact ⟨Hs.out, by rw [Hte.out, Int.toNat_natCast]; exact Hz.out, fun h => by omega⟩
            case measure => simp [intOf]; omega
          · obtain ⟨m, hm⟩ : ∃ m, k = m + 1 := ⟨k - 1, by omega⟩
            have hkm : (k : Int) - 1 = m := by omega
            have hpos' : 0 < k := by omega
            have hm1 : k - 1 = m := by omega
            have Hm1 := Lib.hid hm1
            have hm0 : (0 : Int) ≤ m := by omega
            have hmn : (m : Int) < n := by omega
            obtain ⟨s, hse, hs64⟩ := isSet_lt (hok.out m (by omega)).1
            have hcm := Hc.out m (by omega)
            have Hse := Lib.hid hse
            rw [hse] at hcm
            clear hpos hm hm1 hse
            by_cases hst : t ≤ s
            · have hbf : b = false := Hno.out fun hP => by
                have := hP.2.2 (by omega)
                rw [Hm1.out, Hse.out, Hte.out] at this; omega
              subst hbf
              go_wp2_with fail
              go_quiet (first | (go_at_call 121; exact ql (sIsSet_is _ _ _ _ hs)) | (go_at_call 122; exact ql (l2Size_any t _ ht64)))
              go_wp2_with fail
              go_ret
              exact ⟨rfl, below_box Hbl.out _⟩
            · have Hst := Lib.hid hst
              go_wp2_with fail
              go_quiet (first | (go_at_call 121; exact ql (sIsSet_is _ _ _ _ hs)) | (go_at_call 122; exact ql (l2Size_any t _ ht64)))
              go_wp2_with fail
              go_roundw
              case rel =>
                refine ⟨k + 1, by omega, by go_num, below_drewN Hbl.out _, Lib.hid fun j hj => ?_⟩
                rcases Nat.lt_or_ge j k with h | h
                · exact hok.out j h
                · obtain rfl : j = k := by omega
                  refine ⟨Hs.out, by rw [Hte.out, Int.toNat_natCast]; exact Hz.out, fun _ => ?_⟩
                  have := Hst.out
                  rw [Hm1.out, Hse.out, Hte.out]; omega
              case measure => simp [intOf]; omega
        · have hbf : b = false := Hno.out fun hP => by
            have := hP.2.1
            rw [Hte.out, Int.toNat_natCast] at this
            rw [this] at hz; simp at hz
          subst hbf
          go_wp2_with fail
          go_quiet (first | (go_at_call 121; exact ql (sIsSet_is _ _ _ _ hs)) | (go_at_call 122; exact ql (l2Size_any t _ ht64)))
          go_wp2_with fail
          go_ret
          exact ⟨rfl, below_box Hbl.out _⟩
    · obtain rfl : k = n := by omega
      have hkk : ¬ ((k : Int) < k) := by omega
      by_cases hp : 1 ≤ p ∧ p ≤ 6
      · have hbt : b = true := Hb.out.2 ⟨hp.1, hp.2, fun j hj => hok.out j (by rw [hlen.out] at hj; exact hj)⟩
        subst hbt
        go_wp2_with (go_at_call 65; (with_reducible refine (l1In_yes p 1 6 _ hp.1 hp.2).mono ?_); rintro e w' ⟨rfl, rfl⟩)
        go_ret
        exact ⟨rfl, box_below hbl⟩
      · have hbf : b = false := graphNo Hb.out fun hP => hp ⟨hP.1, hP.2.1⟩
        subst hbf
        go_wp2_with (go_at_call 65; (with_reducible refine (l1In_no p 1 6 _ hp).mono ?_); rintro e w' ⟨rfl, rfl⟩)
        go_ret
        exact ⟨rfl, box_below hbl⟩

set_option maxHeartbeats 4000000 in
theorem iIsGraph_any (p : Int) (a : Option Addr) (n c : Nat) (xs : List Int) (w : World) (h : IntsAt w a n xs) (b : Bool) (hb : b = true ↔ GraphP p xs) :
    Calls Try.prog 68 #[.agg #[.int .i64 p, .slice a n c]] w fun e w' => e = .returned (.bool b) ∧ Below w.heap.size w w' := by
  have hn := h.small
  have hlen := Lib.hid h.len
  have hx : IntsAt (w.alloc (.cells #[.int .i64 p, .slice a n c] 30)) a n xs := h.keep (by repeat (first | exact Below.refl _ _ | assumption | refine Below.setCell ?_ (by first | omega | (simp; done) | (simp; omega)) _ | refine Below.alloc ?_ (by first | omega | (simp; done) | (simp; omega)) _ | apply Below.drew))
  have Hh := Lib.hid hx; clear hx h
  have Hb := Lib.hid hb; clear hb
  by_cases h1 : p < 1
  · have hbf : b = false := graphNo Hb.out fun hP => by have := hP.1; omega
    subst hbf
    go_enter Try.func68, Try.ntmps68
    go_wp2
    go_ret
    exact ⟨rfl, (by repeat (first | exact Below.refl _ _ | assumption | refine Below.setCell ?_ (by first | omega | (simp; done) | (simp; omega)) _ | refine Below.alloc ?_ (by first | omega | (simp; done) | (simp; omega)) _ | apply Below.drew))⟩
  by_cases h2 : 6 < p
  · have hbf : b = false := graphNo Hb.out fun hP => by have := hP.2.1; omega
    subst hbf
    go_enter Try.func68, Try.ntmps68
    go_wp2
    go_ret
    exact ⟨rfl, (by repeat (first | exact Below.refl _ _ | assumption | refine Below.setCell ?_ (by first | omega | (simp; done) | (simp; omega)) _ | refine Below.alloc ?_ (by first | omega | (simp; done) | (simp; omega)) _ | apply Below.drew))⟩
  go_enter Try.func68, Try.ntmps68
  go_wp2_with fail
  go_loop [3, 4, 16] (fun _ _ i => ∃ k : Nat, k ≤ n ∧ i = .int .i64 k ∧ Hid (∀ j, j < k → EdgeOk p xs j)) (fun _ _ i => n - (intOf i).toNat)
  case atStart => exact ⟨0, Nat.zero_le _, rfl, Lib.hid (fun j hj => absurd hj (Nat.not_lt_zero _))⟩
  case round =>
    obtain ⟨k, hk, rfl, hok⟩ := hrel
    by_cases hlt : k < n
    · obtain ⟨b1, o1, rfl, hc⟩ := Hh.out.cells (by omega)
      have hck := hc k hlt
      have Hc := Lib.hid hc; clear hc
      have hno : ¬ EdgeOk p xs k → b = false := fun hne => graphNo Hb.out fun hP => hne (hP.2.2 k (by rw [hlen.out]; exact hlt))
      have Hno := Lib.hid hno; clear hno
      cases hs : isSetB p (nth xs k)
      · have hbf : b = false := Hno.out fun hP => by have := hP.1; rw [hs] at this; cases this
        subst hbf
        go_wp2_with (go_at_call 123; (with_reducible refine (IsSet_is _ _ _ _ hs).mono ?_); rintro e w' ⟨rfl, rfl⟩)
        go_ret
        exact ⟨rfl, (by repeat (first | exact Below.refl _ _ | assumption | refine Below.setCell ?_ (by first | omega | (simp; done) | (simp; omega)) _ | refine Below.alloc ?_ (by first | omega | (simp; done) | (simp; omega)) _ | apply Below.drew))⟩
      · obtain ⟨t, hte, ht64⟩ := isSet_lt hs
        have Hs := Lib.hid hs
        have Hte := Lib.hid hte
        rw [hte] at hck
        rw [hte] at hs
        clear hte
        cases hz : (((sz t : Nat) : Int) != 2)
        · have hz2 : sz t = 2 := by simp at hz; omega
          have Hz := Lib.hid hz2; clear hz2
          by_cases hpos : ¬ 0 < k
          · go_wp2_with (first | (go_at_call 123; (with_reducible refine (IsSet_is _ _ _ _ hs).mono ?_); rintro e w' ⟨rfl, rfl⟩) | (go_at_call 124; (with_reducible refine (SizeOf_any t _ ht64).mono ?_); rintro e w' ⟨rfl, rfl⟩))
            go_round
            case rel =>
              refine ⟨k + 1, by omega, by go_num, Lib.hid fun j hj => ?_⟩
              obtain rfl : j = k := by omega
              exact ⟨Hs.out, by rw [Hte.out, Int.toNat_natCast]; exact Hz.out, fun h => by omega⟩
            case measure => simp [intOf]; omega
          · obtain ⟨m, hm⟩ : ∃ m, k = m + 1 := ⟨k - 1, by omega⟩
            have hkm : (k : Int) - 1 = m := by omega
            have hpos' : 0 < k := by omega
            have hm1 : k - 1 = m := by omega
            have Hm1 := Lib.hid hm1
            have hmn : m < n := by omega
            obtain ⟨s, hse, hs64⟩ := isSet_lt (hok.out m (by omega)).1
            have hsz := (hok.out m (by omega)).2.1
            rw [hse, Int.toNat_natCast] at hsz
            have hcm := Hc.out m (by omega)
            have Hse := Lib.hid hse
            have hbe : befB s t = decide (s < t) := by rw [befB_eq s t hs64 ht64, hsz, Hz.out]; simp
            have Hbe := Lib.hid hbe
            rw [hse] at hcm
            clear hpos hm hm1 hse hsz hbe
            cases hst : befB s t
            · have hbf : b = false := Hno.out fun hP => by
                have := hP.2.2 (by omega)
                rw [Hm1.out, Hse.out, Hte.out] at this
                rw [Hbe.out] at hst; simp at hst; omega
              subst hbf
              go_wp2_with (first | (go_at_call 123; (with_reducible refine (IsSet_is _ _ _ _ hs).mono ?_); rintro e w' ⟨rfl, rfl⟩) | (go_at_call 124; (with_reducible refine (SizeOf_any t _ ht64).mono ?_); rintro e w' ⟨rfl, rfl⟩) | (go_at_call 125; (with_reducible refine (BeforeSet_any s t _ hs64 ht64).mono ?_); rintro e w' ⟨rfl, rfl⟩))
              go_ret
              exact ⟨rfl, (by repeat (first | exact Below.refl _ _ | assumption | refine Below.setCell ?_ (by first | omega | (simp; done) | (simp; omega)) _ | refine Below.alloc ?_ (by first | omega | (simp; done) | (simp; omega)) _ | apply Below.drew))⟩
            · have Hst := Lib.hid hst
              go_wp2_with (first | (go_at_call 123; (with_reducible refine (IsSet_is _ _ _ _ hs).mono ?_); rintro e w' ⟨rfl, rfl⟩) | (go_at_call 124; (with_reducible refine (SizeOf_any t _ ht64).mono ?_); rintro e w' ⟨rfl, rfl⟩) | (go_at_call 125; (with_reducible refine (BeforeSet_any s t _ hs64 ht64).mono ?_); rintro e w' ⟨rfl, rfl⟩))
              go_round
              case rel =>
                refine ⟨k + 1, by omega, by go_num, Lib.hid fun j hj => ?_⟩
                rcases Nat.lt_or_ge j k with h | h
                · exact hok.out j h
                · obtain rfl : j = k := by omega
                  refine ⟨Hs.out, by rw [Hte.out, Int.toNat_natCast]; exact Hz.out, fun _ => ?_⟩
                  have := Hst.out
                  rw [Hbe.out] at this
                  rw [Hm1.out, Hse.out, Hte.out]; simp at this; omega
              case measure => simp [intOf]; omega
        · have hbf : b = false := Hno.out fun hP => by
            have := hP.2.1
            rw [Hte.out, Int.toNat_natCast] at this
            rw [this] at hz; simp at hz
          subst hbf
          go_wp2_with (first | (go_at_call 123; (with_reducible refine (IsSet_is _ _ _ _ hs).mono ?_); rintro e w' ⟨rfl, rfl⟩) | (go_at_call 124; (with_reducible refine (SizeOf_any t _ ht64).mono ?_); rintro e w' ⟨rfl, rfl⟩))
          go_ret
          exact ⟨rfl, (by repeat (first | exact Below.refl _ _ | assumption | refine Below.setCell ?_ (by first | omega | (simp; done) | (simp; omega)) _ | refine Below.alloc ?_ (by first | omega | (simp; done) | (simp; omega)) _ | apply Below.drew))⟩
    · obtain rfl : k = n := by omega
      have hkk : ¬ ((k : Int) < k) := by omega
      have hbt : b = true := Hb.out.2 ⟨by omega, by omega, fun j hj => hok.out j (by rw [hlen.out] at hj; exact hj)⟩
      subst hbt
      go_wp2_with fail
      go_ret
      exact ⟨rfl, (by repeat (first | exact Below.refl _ _ | assumption | refine Below.setCell ?_ (by first | omega | (simp; done) | (simp; omega)) _ | refine Below.alloc ?_ (by first | omega | (simp; done) | (simp; omega)) _ | apply Below.drew))⟩
end Go.Proofs.Ytplbegfebnnbaaa

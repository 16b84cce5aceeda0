/- Texts of this claim, one behind the other: what each says stands at its head. -/
import Derived.Deep.DeepCutAuto
import Derived.Test.YtihfhfihladlcaaGreatDoorPoset
/- Contracts of the antichain tests: the program's isAntichain, the reference's IsComplex, and what wraps them. -/
namespace Go.Proofs.YtihfhfihladlcaaGreatDoor
set_option maxRecDepth 20000
open Go.RowKit
set_option linter.unusedSimpArgs false

/-- what is asked of the element at j -/
def StepOk (p : Int) (xs : List Int) (j : Nat) : Prop :=
  isSetB p (nth xs j) = true ∧ (0 < j → befB (nth xs (j - 1)).toNat (nth xs j).toNat = true) ∧ ∀ i, i < j → sub (nth xs i).toNat (nth xs j).toNat = false
/-- what isAntichain asks -/
def Anti (p : Int) (xs : List Int) : Prop := 1 ≤ p ∧ p ≤ 6 ∧ ∀ j, j < xs.length → StepOk p xs j
theorem isSet_lt {p x : Int} (h : isSetB p x = true) : ∃ t : Nat, x = t ∧ t < 64 := by
  obtain ⟨_, t, _, h1, _, _, h2⟩ := isSet_nat h
  exact ⟨t, h1, h2⟩
theorem antiNo {p : Int} {xs : List Int} {b : Bool} (hb : b = true ↔ Anti p xs) (h : ¬ Anti p xs) : b = false := by
  cases b
  · rfl
  · exact absurd (hb.1 rfl) h
theorem Anti.nat {p : Int} {xs : List Int} (h : Anti p xs) : ∃ l : List Nat, xs = up l ∧ (∀ s ∈ l, s < 2 ^ p.toNat ∧ s < 64) ∧ l.Pairwise (fun a b => rank a < rank b) ∧ l.Pairwise fun a b => sub a b = false := by
  refine ⟨xs.map Int.toNat, ?_, ?_, ?_, ?_⟩
  · apply List.ext_getElem (by simp [up])
    intro i h1 h2
    obtain ⟨m, t, hm, ht, _⟩ := isSet_nat (h.2.2 i h1).1
    have hx : nth xs i = xs[i] := by unfold nth; simp [h1]
    rw [hx] at ht
    simp [up]; omega
  · intro s hs
    obtain ⟨x, hx, rfl⟩ := List.mem_map.1 hs
    obtain ⟨i, hi, rfl⟩ := List.mem_iff_getElem.1 hx
    obtain ⟨m, t, hm, ht, _, h2, h3⟩ := isSet_nat (h.2.2 i hi).1
    have hx : nth xs i = xs[i] := by unfold nth; simp [hi]
    rw [hx] at ht
    rw [ht, hm]; simpa using ⟨h2, h3⟩
  · rw [List.pairwise_iff_getElem]
    intro i j hi hj hij
    simp only [List.length_map] at hi hj
    have aux : ∀ d i, i + d + 1 < xs.length → rank (nth xs i).toNat < rank (nth xs (i + d + 1)).toNat := by
      intro d
      induction d with
      | zero =>
        intro i hi
        have := (h.2.2 (i + 1) hi).2.1 (by omega)
        unfold befB at this
        simpa using this
      | succ d ih =>
        intro i hi
        have h1 := ih i (by omega)
        have := (h.2.2 (i + d + 1 + 1) hi).2.1 (by omega)
        unfold befB at this
        have h2 : rank (nth xs (i + d + 1)).toNat < rank (nth xs (i + d + 1 + 1)).toNat := by simpa using this
        have e : i + (d + 1) + 1 = i + d + 1 + 1 := by omega
        rw [e]; omega
    have := aux (j - i - 1) i (by omega)
    have e : i + (j - i - 1) + 1 = j := by omega
    rw [e] at this
    have hxi : nth xs i = xs[i] := by unfold nth; simp [hi]
    have hxj : nth xs j = xs[j] := by unfold nth; simp [hj]
    rw [hxi, hxj] at this
    simpa using this
  · rw [List.pairwise_iff_getElem]
    intro i j hi hj hij
    simp only [List.length_map] at hi hj
    have := (h.2.2 j hj).2.2 i hij
    have hxi : nth xs i = xs[i] := by unfold nth; simp [hi]
    have hxj : nth xs j = xs[j] := by unfold nth; simp [hj]
    rw [hxi, hxj] at this
    simpa using this

set_option maxHeartbeats 2000000 in
theorem isAnti_any (p : Int) (a : Option Addr) (n c : Nat) (xs : List Int) (w : World) (h : IntsAt w a n xs) (hcap : n ≤ c) (b : Bool) (hb : b = true ↔ Anti p xs) :
    Calls Tryz.prog 107 #[.int .i64 p, .slice a n c] w fun e w' => e = .returned (.bool b) ∧ w = w' := by
  have hn := h.small
  have hlen := Lib.hid h.len
  have Hh := Lib.hid h; clear h
  have Hb := Lib.hid hb; clear hb
  by_cases h1 : p < 1
  · have hbf : b = false := antiNo Hb.out fun hP => by have := hP.1; omega
    subst hbf
    go_enter Tryz.func107, Tryz.ntmps107
    go_wp2
    go_ret
    exact ⟨rfl, rfl⟩
  by_cases h2 : 6 < p
  · have hbf : b = false := antiNo Hb.out fun hP => by have := hP.2.1; omega
    subst hbf
    go_enter Tryz.func107, Tryz.ntmps107
    go_wp2
    go_ret
    exact ⟨rfl, rfl⟩
  go_enter Tryz.func107, Tryz.ntmps107
  go_wp2_with fail
  go_loop [5, 6, 19] (fun _ _ i => ∃ k : Nat, k ≤ n ∧ i = .int .i64 k ∧ Hid (∀ j, j < k → isSetB p (nth xs j) = true ∧ (0 < j → befB (nth xs (j - 1)).toNat (nth xs j).toNat = true))) (fun _ _ i => n - (intOf i).toNat)
  case atStart => exact ⟨0, Nat.zero_le _, rfl, Lib.hid (fun j hj => absurd hj (Nat.not_lt_zero _))⟩
  case round =>
    obtain ⟨k, hk, rfl, hok⟩ := hrel
    by_cases hlt : k < n
    · obtain ⟨b1, o1, rfl, hc⟩ := Hh.out.cells (by omega)
      have hck := hc k hlt
      have Hc := Lib.hid hc; clear hc
      cases hs : isSetB p (nth xs k)
      · have hbf : b = false := antiNo Hb.out fun hP => by have := (hP.2.2 k (by rw [hlen.out]; exact hlt)).1; rw [hs] at this; cases this
        subst hbf
        go_wp2_with (go_at_call 93; (with_reducible refine (IsSet_is _ _ _ _ hs).mono ?_); rintro e w' ⟨rfl, rfl⟩)
        go_ret
        exact ⟨rfl, rfl⟩
      · by_cases hpos : ¬ (0 : Int) < k
        · have Hs := Lib.hid hs
          go_wp2_with (go_at_call 93; (with_reducible refine (IsSet_is _ _ _ _ hs).mono ?_); rintro e w' ⟨rfl, rfl⟩)
          go_round
          case rel =>
            refine ⟨k + 1, by omega, by go_num, Lib.hid fun j hj => ?_⟩
            obtain rfl : j = k := by omega
            exact ⟨Hs.out, fun h => by omega⟩
          case measure => simp [intOf]; omega
        · obtain ⟨m, hm⟩ : ∃ m, k = m + 1 := ⟨k - 1, by omega⟩
          have hkm : (k : Int) - 1 = m := by omega
          have hpos' : (0 : Int) < k := by omega
          have Hm := Lib.hid hm
          have hmn : m < n := by omega
          clear hpos
          obtain ⟨s, hse, hs64⟩ := isSet_lt (hok.out m (by have := Hm.out; omega)).1
          obtain ⟨t, hte, ht64⟩ := isSet_lt hs
          have hcm := Hc.out m (by omega)
          have Hs := Lib.hid hs
          have Hse := Lib.hid hse; have Hte := Lib.hid hte
          rw [hse] at hcm
          rw [hte] at hck
          rw [hte] at hs
          have hm1 : k - 1 = m := by omega
          have Hm1 := Lib.hid hm1
          clear hse hte hm hm1
          cases hbf0 : befB s t
          · have hbf : b = false := antiNo Hb.out fun hP => by
              have := (hP.2.2 k (by rw [hlen.out]; exact hlt)).2.1 (by omega)
              rw [Hm1.out, Hse.out, Hte.out, Int.toNat_natCast, Int.toNat_natCast, hbf0] at this; cases this
            subst hbf
            go_wp2_with (go_at_call 93; (with_reducible refine (IsSet_is _ _ _ _ hs).mono ?_); rintro e w' ⟨rfl, rfl⟩)
            go_wp2_with (go_at_call 177; (with_reducible refine (BeforeSet_any s t _ hs64 ht64).mono ?_); rintro e w' ⟨rfl, rfl⟩)
            go_ret
            exact ⟨rfl, rfl⟩
          · go_wp2_with (go_at_call 93; (with_reducible refine (IsSet_is _ _ _ _ hs).mono ?_); rintro e w' ⟨rfl, rfl⟩)
            go_wp2_with (go_at_call 177; (with_reducible refine (BeforeSet_any s t _ hs64 ht64).mono ?_); rintro e w' ⟨rfl, rfl⟩)
            go_round
            case rel =>
              refine ⟨k + 1, by omega, by go_num, Lib.hid fun j hj => ?_⟩
              rcases Nat.lt_or_ge j k with h | h
              · exact hok.out j h
              · obtain rfl : j = k := by omega
                refine ⟨Hs.out, fun _ => ?_⟩
                rw [Hm1.out, Hse.out, Hte.out, Int.toNat_natCast, Int.toNat_natCast]; exact hbf0
            case measure => simp [intOf]; omega
    · obtain rfl : k = n := by omega
      have hkk : ¬ ((k : Int) < k) := by omega
      go_wp2_with fail
      have hnat : ∀ i, i < k → ∃ t : Nat, nth xs i = t ∧ t < 64 := fun i hi => by
        exact isSet_lt (hok.out i hi).1
      have Hnat := Lib.hid hnat; clear hnat
      go_loop [7, 8, 10, 43, 53] (fun _ _ _ i _ => ∃ I : Nat, I ≤ k ∧ i = .int .i64 I ∧ Hid (∀ i, i < I → ∀ j, i < j → j < k → sub (nth xs i).toNat (nth xs j).toNat = false)) (fun _ _ _ i _ => k - (intOf i).toNat)
      case atStart => exact ⟨0, Nat.zero_le _, rfl, Lib.hid (fun j hj => absurd hj (Nat.not_lt_zero _))⟩
      case round =>
        obtain ⟨I, hI, rfl, hok2⟩ := hrel
        by_cases hlt2 : I < k
        · obtain ⟨b1, o1, rfl, hc⟩ := Hh.out.cells (by omega)
          have hcI := hc I hlt2
          obtain ⟨s, hs, hs64⟩ := Hnat.out I hlt2
          have Hs := Lib.hid hs
          rw [hs] at hcI
          have Hc := Lib.hid hc; clear hc hs
          have Hcap := Lib.hid hcap; clear hcap
          go_wp2_with fail
          case inl =>
            rename_i hcI'
            have hM0 : ¬ (I : Int) + 1 < k := by have := Hcap.out; omega
            have hM1 : k - (I + 1) = 0 := by omega
            have Hc1 := Lib.hid h
            go_loop [10, 53] (fun _ j => ∃ J : Nat, J = 0 ∧ j = .int .i64 J) (fun _ _ => 0)
            case atStart => exact ⟨0, rfl, rfl⟩
            case round =>
              obtain ⟨J, hJ0, rfl⟩ := hrel
              have hnn : ¬ (J : Int) < ((k - (I + 1) : Nat) : Int) := by omega
              go_wp2_with fail
              go_round
              case rel =>
                refine ⟨_, _, _, _, _, ⟨I + 1, by omega, rfl, Lib.hid fun i hi j hj hjk => ?_⟩, rfl, rfl, rfl, rfl, by simp⟩
                rcases Nat.lt_or_ge i I with h | h
                · exact hok2.out i h j hj hjk
                · exfalso; have := Hc1.out; have := Hcap.out; omega
              case measure => simp [intOf]; omega
          case inr =>
            obtain ⟨M, hM⟩ : ∃ M, k - (I + 1) = M := ⟨_, rfl⟩
            have HM := Lib.hid hM
            clear h
            go_loop [10, 53] (fun _ j => ∃ J : Nat, J ≤ M ∧ j = .int .i64 J ∧ Hid (∀ j, I < j → j < I + 1 + J → sub s (nth xs j).toNat = false)) (fun _ j => M - (intOf j).toNat)
            case atStart => exact ⟨0, Nat.zero_le _, rfl, Lib.hid fun j h1 h2 => by omega⟩
            case round =>
              obtain ⟨J, hJ, rfl, hok3⟩ := hrel
              by_cases hlt3 : J < M
              · have hcJ := Hc.out (I + 1 + J) (by omega)
                obtain ⟨t, ht, ht64⟩ := Hnat.out (I + 1 + J) (by omega)
                have Ht := Lib.hid ht
                rw [ht, ← Nat.add_assoc] at hcJ
                have hJM : (J : Int) < M := by omega
                clear ht
                cases hst : (((sdiff s t : Nat) : Int) == 0)
                · go_wp2_with fail
                  go_round
                  case rel =>
                    refine ⟨J + 1, by omega, by go_num, Lib.hid fun j h1 h2 => ?_⟩
                    rcases Nat.lt_or_ge j (I + 1 + J) with h | h
                    · exact hok3.out j h1 h
                    · obtain rfl : j = I + 1 + J := by omega
                      rw [Ht.out, Int.toNat_natCast, ← sdiff_zero hs64 ht64]; exact hst
                  case measure => simp [intOf]; omega
                · rw [sdiff_zero hs64 ht64] at hst
                  have hbf : b = false := antiNo Hb.out fun hP => by
                    have := (hP.2.2 (I + 1 + J) (by rw [hlen.out]; omega)).2.2 I (by omega)
                    rw [Ht.out, Hs.out, Int.toNat_natCast, Int.toNat_natCast, hst] at this; cases this
                  subst hbf
                  rw [← sdiff_zero hs64 ht64] at hst
                  go_wp2_with fail
                  go_ret
                  exact ⟨rfl, rfl⟩
              · obtain rfl : J = M := by omega
                have hJJ : ¬ ((J : Int) < J) := by omega
                go_wp2_with fail
                go_round
                case rel =>
                  refine ⟨I + 1, by omega, by go_num, Lib.hid fun i hi j hj hjk => ?_⟩
                  rcases Nat.lt_or_ge i I with h | h
                  · exact hok2.out i h j hj hjk
                  · obtain rfl : i = I := by omega
                    rw [Hs.out, Int.toNat_natCast]
                    exact hok3.out j hj (by have := HM.out; omega)
                case measure => simp [intOf]; omega
        · obtain rfl : I = k := by omega
          have hkk : ¬ ((I : Int) < I) := by omega
          have hbt : b = true := Hb.out.2 ⟨by omega, by omega, fun j hj => ⟨(hok.out j (by rw [hlen.out] at hj; exact hj)).1, (hok.out j (by rw [hlen.out] at hj; exact hj)).2, fun i hi => hok2.out i (by rw [hlen.out] at hj; omega) j hi (by rw [hlen.out] at hj; exact hj)⟩⟩
          subst hbt
          go_wp2_with fail
          go_ret
          exact ⟨rfl, rfl⟩

set_option maxHeartbeats 4000000 in
theorem sIsComplex_any (p : Int) (a : Option Addr) (n c : Nat) (xs : List Int) (w : World) (h : IntsAt w a n xs) (b : Bool) (hb : b = true ↔ Anti p xs) :
    Calls Tryz.prog 88 #[.agg #[.int .i64 p, .slice a n c]] w fun e w' => e = .returned (.bool b) ∧ Below w.heap.size w w' := by
  have hn := h.small
  have hlen := Lib.hid h.len
  have Hh := Lib.hid h; clear h
  have Hb := Lib.hid hb; clear hb
  go_enter Tryz.func88, Tryz.ntmps88
  go_wp2_with fail
  go_loopw [3, 4] (fun i _ wr => ∃ k : Nat, k ≤ n ∧ i = .int .i64 k ∧ Below (w.heap.size + 1) (w.alloc (.cells #[.int .i64 p, .slice a n c] 32)) wr ∧ Hid (∀ j, j < k → StepOk p xs j)) (fun i _ _ => n - (intOf i).toNat)
  case atStart => exact ⟨0, Nat.zero_le _, rfl, Below.refl _ _, Lib.hid (fun j hj => absurd hj (Nat.not_lt_zero _))⟩
  case round =>
    obtain ⟨k, hk, rfl, hbl, hok⟩ := hrel
    obtain ⟨hc0, hc1⟩ := box2 hbl
    by_cases hlt : k < n
    · obtain ⟨b1, o1, rfl, hc⟩ := (Hh.out.box hbl).cells (by omega)
      have hck := hc k hlt
      have hk0 : (0 : Int) ≤ k := by omega
      have hkn : (k : Int) < n := by omega
      have Hbl := Lib.hid hbl
      have Hc := Lib.hid hc
      clear hbl hc
      obtain ⟨wo, rfl⟩ : ∃ wo : World, wo = wr := ⟨_, rfl⟩
      go_wp2_with fail
      go_cut [39] (fun v W => ∃ bad : Bool, v = .bool bad ∧ Below wo.heap.size wo W ∧ Hid (bad = false → isSetB p (nth xs k) = true ∧ (0 < k → befB (nth xs (k - 1)).toNat (nth xs k).toNat = true)) ∧ Hid (bad = true → ¬ StepOk p xs k))
      case first =>
        cases hs : isSetB p (nth xs k)
        · have Hs := Lib.hid hs
          go_wp2_with fail
          go_quiet ((go_at_call 36; exact ql (sIsSet_is _ _ _ _ hs)))
          go_wp2_with fail
          go_meet
          exact ⟨true, rfl, below_drewN (Below.refl _ _) _, Lib.hid fun h => by simp at h, Lib.hid fun _ hP => by have := hP.1; rw [Hs.out] at this; cases this⟩
        · obtain ⟨t, hte, ht64⟩ := isSet_lt hs
          have Hs := Lib.hid hs
          have Hte := Lib.hid hte
          rw [hte] at hck
          rw [hte] at hs
          clear hte
          by_cases hpos : ¬ 0 < k
          · go_wp2_with fail
            go_quiet ((go_at_call 36; exact ql (sIsSet_is _ _ _ _ hs)))
            go_wp2_with fail
            go_meet
            exact ⟨false, rfl, below_drewN (Below.refl _ _) _, Lib.hid fun _ => ⟨Hs.out, fun h => by omega⟩, Lib.hid fun h => by cases h⟩
          · obtain ⟨m, hm⟩ : ∃ m, k = m + 1 := ⟨k - 1, by omega⟩
            have hkm : (k : Int) - 1 = m := by omega
            have hpos' : 0 < k := by omega
            have hm1 : k - 1 = m := by omega
            have Hm1 := Lib.hid hm1
            have hm0 : (0 : Int) ≤ m := by omega
            have hmn : (m : Int) < n := by omega
            obtain ⟨s, hse, hs64⟩ := isSet_lt (hok.out m (by omega)).1
            have hcm := Hc.out m (by omega)
            have Hse := Lib.hid hse
            rw [hse] at hcm
            clear hpos hm hm1 hse
            cases hbf0 : befB s t
            · have Hbf := Lib.hid hbf0
              go_wp2_with fail
              go_quiet (first | (go_at_call 36; exact ql (sIsSet_is _ _ _ _ hs)) | (go_at_call 169; exact ql (l2Before_any s t _ hs64 ht64)))
              go_wp2_with fail
              go_meet
              refine ⟨true, rfl, below_drewN (Below.refl _ _) _, Lib.hid fun h => by (simp at h), Lib.hid fun _ hP => ?_⟩
              have := hP.2.1 (by omega)
              rw [Hm1.out, Hse.out, Hte.out, Int.toNat_natCast, Int.toNat_natCast, Hbf.out] at this; cases this
            · have Hbf := Lib.hid hbf0
              go_wp2_with fail
              go_quiet (first | (go_at_call 36; exact ql (sIsSet_is _ _ _ _ hs)) | (go_at_call 169; exact ql (l2Before_any s t _ hs64 ht64)))
              go_wp2_with fail
              go_meet
              refine ⟨false, rfl, below_drewN (Below.refl _ _) _, Lib.hid fun _ => ⟨Hs.out, fun _ => ?_⟩, Lib.hid fun h => by cases h⟩
              rw [Hm1.out, Hse.out, Hte.out, Int.toNat_natCast, Int.toNat_natCast, Hbf.out]
      case rest =>
        obtain ⟨bad, rfl, hbc, hgood, hbad⟩ := hcut
        have hbl := Hbl.out.trans (hbc.mono (by simpa using Hbl.out.size))
        have Hh2 := Lib.hid (Hh.out.box hbl)
        obtain ⟨hc0', hc1'⟩ := box2 hbl
        have Hbl2 := Lib.hid hbl
        clear hbc hbl hck
        cases bad
        · have hstep := hgood.out rfl
          obtain ⟨t, hte, ht64⟩ := isSet_lt hstep.1
          have Hstep := Lib.hid hstep
          have Hte := Lib.hid hte
          clear hte hstep hgood hbad
          clear hc0 hc1
          obtain ⟨wz, rfl⟩ : ∃ wz : World, wz = wc := ⟨_, rfl⟩
          go_wp2_with fail
          go_loopw [4] (fun j wr => ∃ I : Nat, I ≤ k ∧ j = .int .i64 I ∧ Below (w.heap.size + 1) (w.alloc (.cells #[.int .i64 p, .slice (some ⟨b1, o1, none⟩) n c] 32)) wr ∧ Hid (∀ i, i < I → sub (nth xs i).toNat t = false)) (fun j _ => k - (intOf j).toNat)
          case atStart => exact ⟨0, Nat.zero_le _, rfl, Hbl2.out, Lib.hid fun i hi => absurd hi (Nat.not_lt_zero _)⟩
          case round =>
            clear hc0' hc1'
            obtain ⟨I, hI, rfl, hbl, hok2⟩ := hrel
            obtain ⟨hc0, hc1⟩ := box2 hbl
            by_cases hlt2 : I < k
            · obtain ⟨b2, o2, he, hc⟩ := (Hh.out.box hbl).cells (by omega)
              obtain ⟨rfl, rfl⟩ : b1 = b2 ∧ o1 = o2 := by simpa using he
              obtain ⟨s, hse, hs64⟩ := isSet_lt (hok.out I hlt2).1
              have hck := hc k hlt
              have hcI := hc I (by omega)
              have Hse := Lib.hid hse
              rw [Hte.out] at hck
              rw [hse] at hcI
              have hI0 : (0 : Int) ≤ I := by omega
              have hIn : (I : Int) < n := by omega
              have hIk : (I : Int) < k := by omega
              have Hbl3 := Lib.hid hbl
              clear hc hse he hbl
              cases hst : (((s &&& t : Nat) : Int) == s)
              · go_wp2_with fail
                go_quiet (fail)
                go_wp2_with fail
                go_roundw
                case rel =>
                  refine ⟨I + 1, by omega, by go_num, below_drewN Hbl3.out _, Lib.hid fun i hi => ?_⟩
                  rcases Nat.lt_or_ge i I with h | h
                  · exact hok2.out i h
                  · obtain rfl : i = I := by omega
                    rw [Hse.out, Int.toNat_natCast]; rw [castBeq] at hst; exact hst
                case measure => simp [intOf]; omega
              · have hbf : b = false := antiNo Hb.out fun hP => by
                  have := (hP.2.2 k (by rw [hlen.out]; exact hlt)).2.2 I hlt2
                  rw [Hse.out, Hte.out, Int.toNat_natCast, Int.toNat_natCast] at this
                  rw [castBeq] at hst
                  unfold sub at this
                  rw [hst] at this; cases this
                subst hbf
                go_wp2_with fail
                go_quiet (fail)
                go_wp2_with fail
                go_ret
                exact ⟨rfl, below_box Hbl3.out _⟩
            · obtain rfl : I = k := by omega
              have hII : ¬ ((I : Int) < I) := by omega
              go_wp2_with fail
              go_roundw
              case rel =>
                refine ⟨I + 1, by omega, by go_num, hbl, Lib.hid fun j hj => ?_⟩
                rcases Nat.lt_or_ge j I with h | h
                · exact hok.out j h
                · obtain rfl : j = I := by omega
                  exact ⟨Hstep.out.1, Hstep.out.2, fun i hi => by rw [Hte.out, Int.toNat_natCast]; exact hok2.out i hi⟩
              case measure => simp [intOf]; omega
        · have hbf : b = false := antiNo Hb.out fun hP => hbad.out rfl (hP.2.2 k (by rw [hlen.out]; exact hlt))
          subst hbf
          go_wp2_with fail
          go_ret
          exact ⟨rfl, box_below Hbl2.out⟩
    · obtain rfl : k = n := by omega
      have hkk : ¬ ((k : Int) < k) := by omega
      by_cases hp : 1 ≤ p ∧ p ≤ 6
      · have hbt : b = true := Hb.out.2 ⟨hp.1, hp.2, fun j hj => hok.out j (by rw [hlen.out] at hj; exact hj)⟩
        subst hbt
        go_wp2_with (go_at_call 110; (with_reducible refine (l1In_yes p 1 6 _ hp.1 hp.2).mono ?_); rintro e w' ⟨rfl, rfl⟩)
        go_ret
        exact ⟨rfl, box_below hbl⟩
      · have hbf : b = false := antiNo Hb.out fun hP => hp ⟨hP.1, hP.2.1⟩
        subst hbf
        go_wp2_with (go_at_call 110; (with_reducible refine (l1In_no p 1 6 _ hp).mono ?_); rintro e w' ⟨rfl, rfl⟩)
        go_ret
        exact ⟨rfl, box_below hbl⟩
end Go.Proofs.YtihfhfihladlcaaGreatDoor

/- Contracts of what IsGraph answers, the program's and the reference's. -/
namespace Go.Proofs.YtihfhfihladlcaaGreatDoor
set_option maxRecDepth 20000
open Go.RowKit
set_option linter.unusedSimpArgs false

/-- what is asked of the edge at j -/
def EdgeOk (p : Int) (xs : List Int) (j : Nat) : Prop :=
  isSetB p (nth xs j) = true ∧ sz (nth xs j).toNat = 2 ∧ (0 < j → nth xs (j - 1) < nth xs j)
/-- what IsGraph asks -/
def GraphP (p : Int) (xs : List Int) : Prop := 1 ≤ p ∧ p ≤ 6 ∧ ∀ j, j < xs.length → EdgeOk p xs j
theorem graphNo {p : Int} {xs : List Int} {b : Bool} (hb : b = true ↔ GraphP p xs) (h : ¬ GraphP p xs) : b = false := by
  cases b
  · rfl
  · exact absurd (hb.1 rfl) h
theorem graph_dec (p : Int) (xs : List Int) : ∃ b : Bool, b = true ↔ GraphP p xs := by
  by_cases h : GraphP p xs
  · exact ⟨true, by simp [h]⟩
  · exact ⟨false, by simp [h]⟩


end Go.Proofs.YtihfhfihladlcaaGreatDoor

/- Contracts of what wraps the antichain tests. -/
namespace Go.Proofs.YtihfhfihladlcaaGreatDoor
set_option maxRecDepth 20000
open Go.RowKit
set_option linter.unusedSimpArgs false
theorem anti_dec (p : Int) (xs : List Int) : ∃ b : Bool, b = true ↔ Anti p xs := by
  by_cases h : Anti p xs
  · exact ⟨true, by simp [h]⟩
  · exact ⟨false, by simp [h]⟩
theorem sIsIdeal_any (p : Int) (a : Option Addr) (n c : Nat) (xs : List Int) (w : World) (h : IntsAt w a n xs) (b : Bool) (hb : b = true ↔ Anti p xs) :
    Calls Tryz.prog 32 #[.agg #[.int .i64 p, .slice a n c]] w fun e w' => e = .returned (.bool b) ∧ Below w.heap.size w w' := by
  have Hb := Lib.hid hb; clear hb
  have hx : IntsAt (w.alloc (.cells #[.int .i64 p, .slice a n c] 26)) a n xs := h.keep (by repeat (first | exact Below.refl _ _ | assumption | refine Below.setCell ?_ (by first | omega | (simp; done) | (simp; omega)) _ | refine Below.alloc ?_ (by first | omega | (simp; done) | (simp; omega)) _ | apply Below.drew))
  have Hx := Lib.hid hx; clear hx h
  go_enter Tryz.func32, Tryz.ntmps32
  go_wp2_with fail
  refine (sIsComplex_any p a n c xs _ Hx.out b Hb.out).mono ?_
  rintro e w1 ⟨rfl, hb⟩
  have HB : Hid (Below w.heap.size w w1) := Lib.hid (Below.trans (by repeat (first | exact Below.refl _ _ | assumption | refine Below.setCell ?_ (by first | omega | (simp; done) | (simp; omega)) _ | refine Below.alloc ?_ (by first | omega | (simp; done) | (simp; omega)) _ | apply Below.drew)) (hb.mono (by simp)))
  clear hb
  go_wp2_with fail
  go_ret
  exact ⟨rfl, HB.out⟩
theorem iIsIdeal_any (p : Int) (a : Option Addr) (n c : Nat) (xs : List Int) (w : World) (h : IntsAt w a n xs) (hcap : n ≤ c) (b : Bool) (hb : b = true ↔ Anti p xs) :
    Calls Tryz.prog 31 #[.agg #[.int .i64 p, .slice a n c]] w fun e w' => e = .returned (.bool b) ∧ Below w.heap.size w w' := by
  have Hb := Lib.hid hb; clear hb
  have Hcap := Lib.hid hcap; clear hcap
  have hx : IntsAt (w.alloc (.cells #[.int .i64 p, .slice a n c] 26)) a n xs := h.keep (by repeat (first | exact Below.refl _ _ | assumption | refine Below.setCell ?_ (by first | omega | (simp; done) | (simp; omega)) _ | refine Below.alloc ?_ (by first | omega | (simp; done) | (simp; omega)) _ | apply Below.drew))
  have Hx := Lib.hid hx; clear hx h
  go_enter Tryz.func31, Tryz.ntmps31
  go_wp2_with fail
  refine (isAnti_any p a n c xs _ Hx.out Hcap.out b Hb.out).mono ?_
  rintro e w1 ⟨rfl, rfl⟩
  go_wp2_with fail
  go_ret
  exact ⟨rfl, (by repeat (first | exact Below.refl _ _ | assumption | refine Below.setCell ?_ (by first | omega | (simp; done) | (simp; omega)) _ | refine Below.alloc ?_ (by first | omega | (simp; done) | (simp; omega)) _ | apply Below.drew))⟩
theorem iIsComplex_any (p : Int) (a : Option Addr) (n c : Nat) (xs : List Int) (w : World) (h : IntsAt w a n xs) (hcap : n ≤ c) (b : Bool) (hb : b = true ↔ Anti p xs) :
    Calls Tryz.prog 86 #[.agg #[.int .i64 p, .slice a n c]] w fun e w' => e = .returned (.bool b) ∧ Below w.heap.size w w' := by
  have Hb := Lib.hid hb; clear hb
  have Hcap := Lib.hid hcap; clear hcap
  have hx : IntsAt (w.alloc (.cells #[.int .i64 p, .slice a n c] 32)) a n xs := h.keep (by repeat (first | exact Below.refl _ _ | assumption | refine Below.setCell ?_ (by first | omega | (simp; done) | (simp; omega)) _ | refine Below.alloc ?_ (by first | omega | (simp; done) | (simp; omega)) _ | apply Below.drew))
  have Hx := Lib.hid hx; clear hx h
  go_enter Tryz.func86, Tryz.ntmps86
  go_wp2_with fail
  refine (isAnti_any p a n c xs _ Hx.out Hcap.out b Hb.out).mono ?_
  rintro e w1 ⟨rfl, rfl⟩
  go_wp2_with fail
  go_ret
  exact ⟨rfl, (by repeat (first | exact Below.refl _ _ | assumption | refine Below.setCell ?_ (by first | omega | (simp; done) | (simp; omega)) _ | refine Below.alloc ?_ (by first | omega | (simp; done) | (simp; omega)) _ | apply Below.drew))⟩
end Go.Proofs.YtihfhfihladlcaaGreatDoor

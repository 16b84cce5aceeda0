/- Contracts of what makes complexes and ideals out of sets: areSetsOf, l3Make, l29Make, MakeComplex, MakeIdeal. -/
import Derived.Test.YthijccgbkmappaaIdeal
import Derived.Test.YthijccgbkmappaaHelpS
namespace Go.Proofs.Ythijccgbkmappaa
open Go.RowKit
set_option linter.unusedSimpArgs false

/-- what MakeComplex asks -/
def SetsOk (p : Int) (xs : List Int) : Prop := 1 ≤ p ∧ p ≤ 6 ∧ xs.length ≤ 64 ∧ ∀ i, i < xs.length → isSetB p (nth xs i) = true
theorem setsNo {p : Int} {xs : List Int} {b : Bool} (hb : b = true ↔ SetsOk p xs) (h : ¬ SetsOk p xs) : b = false := by
  cases b
  · rfl
  · exact absurd (hb.1 rfl) h
theorem SetsOk.nat {p : Int} {xs : List Int} (h : SetsOk p xs) : ∃ l : List Nat, xs = up l ∧ (∀ s ∈ l, s < 2 ^ p.toNat) ∧ ∀ s ∈ l, s < 64 := by
  have aux : ∀ s ∈ xs.map Int.toNat, s < 2 ^ p.toNat ∧ s < 64 := by
    intro s hs
    obtain ⟨x, hx, rfl⟩ := List.mem_map.1 hs
    obtain ⟨i, hi, rfl⟩ := List.mem_iff_getElem.1 hx
    obtain ⟨m, t, hm, ht, _, h2, h3⟩ := isSet_nat (h.2.2.2 i hi)
    rw [nth_eq hi] at ht
    rw [ht, hm]; simpa using ⟨h2, h3⟩
  refine ⟨xs.map Int.toNat, ?_, fun s hs => (aux s hs).1, fun s hs => (aux s hs).2⟩
  apply List.ext_getElem (by simp [up])
  intro i h1 h2
  obtain ⟨m, t, hm, ht, _⟩ := isSet_nat (h.2.2.2 i h1)
  rw [nth_eq h1] at ht
  simp [up]; omega

set_option maxHeartbeats 1000000 in
theorem areSets_any (p : Int) (a : Option Addr) (n c : Nat) (xs : List Int) (w : World) (h : IntsAt w a n xs) (b : Bool) (hb : b = true ↔ SetsOk p xs) :
    Calls Try.prog 82 #[.int .i64 p, .slice a n c] w fun e w' => e = .returned (.bool b) ∧ w = w' := by
  have hn := h.small
  have hlen := Lib.hid h.len
  have Hh := Lib.hid h; clear h
  have Hb := Lib.hid hb; clear hb
  by_cases h1 : p < 1
  · have hbf : b = false := setsNo Hb.out fun hP => by have := hP.1; omega
    subst hbf
    go_enter Try.func82, Try.ntmps82
    go_wp2
    go_ret
    exact ⟨rfl, rfl⟩
  by_cases h2 : 6 < p
  · have hbf : b = false := setsNo Hb.out fun hP => by have := hP.2.1; omega
    subst hbf
    go_enter Try.func82, Try.ntmps82
    go_wp2
    go_ret
    exact ⟨rfl, rfl⟩
  by_cases h3 : (64 : Int) < n
  · have hbf : b = false := setsNo Hb.out fun hP => by have := hP.2.2.1; have := hlen.out; omega
    subst hbf
    go_enter Try.func82, Try.ntmps82
    go_wp2
    go_ret
    exact ⟨rfl, rfl⟩
  go_enter Try.func82, Try.ntmps82
  go_wp2_with fail
  go_loop [6, 20] (fun _ i => ∃ k : Nat, k ≤ n ∧ i = .int .i64 k ∧ Hid (∀ j, j < k → isSetB p (nth xs j) = true)) (fun _ i => n - (intOf i).toNat)
  case atStart => exact ⟨0, Nat.zero_le _, rfl, Lib.hid fun j hj => absurd hj (Nat.not_lt_zero _)⟩
  case round =>
    obtain ⟨k, hk, rfl, hok⟩ := hrel
    by_cases hlt : k < n
    · obtain ⟨b1, o1, rfl, hc⟩ := Hh.out.cells (by omega)
      have hck := hc k hlt
      clear hc
      cases hs : isSetB p (nth xs k)
      · have hbf : b = false := setsNo Hb.out fun hP => by have := hP.2.2.2 k (by rw [hlen.out]; exact hlt); rw [hs] at this; cases this
        subst hbf
        go_wp2_with (go_at_call 61; (with_reducible refine (IsSet_is _ _ _ _ hs).mono ?_); rintro e w' ⟨rfl, rfl⟩)
        go_ret
        exact ⟨rfl, rfl⟩
      · have Hs := Lib.hid hs
        go_wp2_with (go_at_call 61; (with_reducible refine (IsSet_is _ _ _ _ hs).mono ?_); rintro e w' ⟨rfl, rfl⟩)
        go_round
        case rel =>
          refine ⟨k + 1, by omega, by go_num, Lib.hid fun j hj => ?_⟩
          rcases Nat.lt_or_ge j k with h | h
          · exact hok.out j h
          · obtain rfl : j = k := by omega
            exact Hs.out
        case measure => simp [intOf]; omega
    · obtain rfl : k = n := by omega
      have hbt : b = true := Hb.out.2 ⟨by omega, by omega, by rw [hlen.out]; omega, fun j hj => hok.out j (by rw [hlen.out] at hj; exact hj)⟩
      subst hbt
      go_wp2_with fail
      go_ret
      exact ⟨rfl, rfl⟩

theorem l29Make_any (p : Int) (a : Option Addr) (n c : Nat) (l : List Nat) (w : World) (h : IntsAt w a n (up l)) (hl : ∀ s ∈ l, s < 64) :
    Calls Try.prog 81 #[.int .i64 p, .slice a n c] w (RetBox w p (up (minL l.contains))) := by
  have hx : IntsAt (w.alloc (.cells #[.int .i64 0, .slice none 0 0] 53)) a n (up l) := h.keep (by repeat (first | exact Below.refl _ _ | assumption | refine Below.setCell ?_ (by first | omega | (simp; done) | (simp; omega)) _ | refine Below.alloc ?_ (by first | omega | (simp; done) | (simp; omega)) _ | apply Below.drew))
  have Hx := Lib.hid hx; clear hx h
  have Hl := Lib.hid hl; clear hl
  go_enter Try.func81, Try.ntmps81
  go_wp2_with fail
  refine (l2Extreme_any a n c l false _ Hx.out Hl.out).mono ?_
  rintro e w1 ⟨ad, m, d, rfl, hown, hb⟩
  obtain ⟨hc, hf⟩ := bcell hb
  have hz : w.heap.size + 1 ≤ w1.heap.size := by have := hb.size; simp at this; omega
  have hbl : Below w.heap.size w w1 := Below.trans (by repeat (first | exact Below.refl _ _ | assumption | refine Below.setCell ?_ (by first | omega | (simp; done) | (simp; omega)) _ | refine Below.alloc ?_ (by first | omega | (simp; done) | (simp; omega)) _ | apply Below.drew)) (hb.mono (by simp))
  have ho : Own 3 w1 (w.heap.size + 1) ad m d _ := hown.mono (by simp)
  go_wp2_with fail
  refine bodyPost_ret (v := .agg #[.int .i64 p, .slice ad m d]) (by simp [results, Try.results81, go_sem, hc, hz]) rfl ⟨ad, m, d, rfl, ?_, (by repeat (first | exact Below.refl _ _ | assumption | refine Below.setCell ?_ (by first | omega | (simp; done) | (simp; omega)) _ | refine Below.alloc ?_ (by first | omega | (simp; done) | (simp; omega)) _ | apply Below.drew))⟩
  exact ((ho.setBelow _ (by omega)).setBelow _ (by omega)).mono (by omega)
theorem l3Make_any (p : Int) (a : Option Addr) (n c : Nat) (l : List Nat) (w : World) (h : IntsAt w a n (up l)) (hl : ∀ s ∈ l, s < 64) :
    Calls Try.prog 86 #[.int .i64 p, .slice a n c] w (RetBox w p (up (maxL l.contains))) := by
  have hx : IntsAt (w.alloc (.cells #[.int .i64 0, .slice none 0 0] 75)) a n (up l) := h.keep (by repeat (first | exact Below.refl _ _ | assumption | refine Below.setCell ?_ (by first | omega | (simp; done) | (simp; omega)) _ | refine Below.alloc ?_ (by first | omega | (simp; done) | (simp; omega)) _ | apply Below.drew))
  have Hx := Lib.hid hx; clear hx h
  have Hl := Lib.hid hl; clear hl
  go_enter Try.func86, Try.ntmps86
  go_wp2_with fail
  refine (l2Extreme_any a n c l true _ Hx.out Hl.out).mono ?_
  rintro e w1 ⟨ad, m, d, rfl, hown, hb⟩
  obtain ⟨hc, hf⟩ := bcell hb
  have hz : w.heap.size + 1 ≤ w1.heap.size := by have := hb.size; simp at this; omega
  have hbl : Below w.heap.size w w1 := Below.trans (by repeat (first | exact Below.refl _ _ | assumption | refine Below.setCell ?_ (by first | omega | (simp; done) | (simp; omega)) _ | refine Below.alloc ?_ (by first | omega | (simp; done) | (simp; omega)) _ | apply Below.drew)) (hb.mono (by simp))
  have ho : Own 3 w1 (w.heap.size + 1) ad m d _ := hown.mono (by simp)
  go_wp2_with fail
  refine bodyPost_ret (v := .agg #[.int .i64 p, .slice ad m d]) (by simp [results, Try.results86, go_sem, hc, hz]) rfl ⟨ad, m, d, rfl, ?_, (by repeat (first | exact Below.refl _ _ | assumption | refine Below.setCell ?_ (by first | omega | (simp; done) | (simp; omega)) _ | refine Below.alloc ?_ (by first | omega | (simp; done) | (simp; omega)) _ | apply Below.drew))⟩
  exact ((ho.setBelow _ (by omega)).setBelow _ (by omega)).mono (by omega)

set_option maxHeartbeats 1000000 in
theorem sMakeComplex_no (p : Int) (a : Option Addr) (n c : Nat) (xs : List Int) (w : World) (h : IntsAt w a n xs) (hno : ¬ SetsOk p xs) :
    Calls Try.prog 80 #[.int .i64 p, .slice a n c] w (RetBox2 w 0 [] false) := by
  have hn := h.small
  have hlen := Lib.hid h.len
  have hx : IntsAt (w.alloc (.cells #[.int .i64 0, .slice none 0 0] 75)) a n xs := h.keep (by repeat (first | exact Below.refl _ _ | assumption | refine Below.setCell ?_ (by first | omega | (simp; done) | (simp; omega)) _ | refine Below.alloc ?_ (by first | omega | (simp; done) | (simp; omega)) _ | apply Below.drew))
  have Hh := Lib.hid hx; clear hx h
  have Hno := Lib.hid hno; clear hno
  go_enter Try.func80, Try.ntmps80
  go_wp2_with fail
  go_loop [6] (fun i => ∃ k : Nat, k ≤ n ∧ i = .int .i64 k ∧ Hid (∀ j, j < k → isSetB p (nth xs j) = true)) (fun i => n - (intOf i).toNat)
  case atStart => exact ⟨0, Nat.zero_le _, rfl, Lib.hid fun j hj => absurd hj (Nat.not_lt_zero _)⟩
  case round =>
    obtain ⟨k, hk, rfl, hok⟩ := hrel
    by_cases hlt : k < n
    · obtain ⟨b1, o1, rfl, hc⟩ := Hh.out.cells (by omega)
      have hck := hc k hlt
      clear hc
      cases hs : isSetB p (nth xs k)
      · go_wp2_with (go_at_call 64; (with_reducible refine (sIsSet_is _ _ _ _ hs).mono ?_); rintro e w' ⟨rfl, rfl⟩)
        refine bodyPost_ret (v := .tuple #[.agg #[.int .i64 0, .slice none 0 0], .bool false]) (by simp [results, Try.results80, go_sem]) rfl ⟨none, 0, 0, rfl, Own.nil _ _ _, (by repeat (first | exact Below.refl _ _ | assumption | refine Below.setCell ?_ (by first | omega | (simp; done) | (simp; omega)) _ | refine Below.alloc ?_ (by first | omega | (simp; done) | (simp; omega)) _ | apply Below.drew))⟩
      · have Hs := Lib.hid hs
        go_wp2_with (go_at_call 64; (with_reducible refine (sIsSet_is _ _ _ _ hs).mono ?_); rintro e w' ⟨rfl, rfl⟩)
        go_round
        case rel =>
          refine ⟨k + 1, by omega, by go_num, Lib.hid fun j hj => ?_⟩
          rcases Nat.lt_or_ge j k with h | h
          · exact hok.out j h
          · obtain rfl : j = k := by omega
            exact Hs.out
        case measure => simp [intOf]; omega
    · obtain rfl : k = n := by omega
      have hkk : ¬ ((k : Int) < k) := by omega
      by_cases hp : 1 ≤ p ∧ p ≤ 6
      · have h64 : (64 : Int) < k := by
          rcases Nat.lt_or_ge 64 k with h | h
          · omega
          · exact absurd ⟨hp.1, hp.2, by rw [hlen.out]; exact h, fun j hj => hok.out j (by rw [hlen.out] at hj; exact hj)⟩ Hno.out
        go_wp2_with (go_at_call 58; (with_reducible refine (l1In_yes p 1 6 _ hp.1 hp.2).mono ?_); rintro e w' ⟨rfl, rfl⟩)
        refine bodyPost_ret (v := .tuple #[.agg #[.int .i64 0, .slice none 0 0], .bool false]) (by simp [results, Try.results80, go_sem]) rfl ⟨none, 0, 0, rfl, Own.nil _ _ _, (by repeat (first | exact Below.refl _ _ | assumption | refine Below.setCell ?_ (by first | omega | (simp; done) | (simp; omega)) _ | refine Below.alloc ?_ (by first | omega | (simp; done) | (simp; omega)) _ | apply Below.drew))⟩
      · go_wp2_with (go_at_call 58; (with_reducible refine (l1In_no p 1 6 _ hp).mono ?_); rintro e w' ⟨rfl, rfl⟩)
        refine bodyPost_ret (v := .tuple #[.agg #[.int .i64 0, .slice none 0 0], .bool false]) (by simp [results, Try.results80, go_sem]) rfl ⟨none, 0, 0, rfl, Own.nil _ _ _, (by repeat (first | exact Below.refl _ _ | assumption | refine Below.setCell ?_ (by first | omega | (simp; done) | (simp; omega)) _ | refine Below.alloc ?_ (by first | omega | (simp; done) | (simp; omega)) _ | apply Below.drew))⟩
set_option maxHeartbeats 1000000 in
theorem sMakeComplex_yes (p : Int) (a : Option Addr) (n c : Nat) (l : List Nat) (w : World) (h : IntsAt w a n (up l)) (hl : ∀ s ∈ l, s < 64) (hok : SetsOk p (up l)) :
    Calls Try.prog 80 #[.int .i64 p, .slice a n c] w (RetBox2 w p (up (maxL l.contains)) true) := by
  have hn := h.small
  have hlen := Lib.hid h.len
  have hx : IntsAt (w.alloc (.cells #[.int .i64 0, .slice none 0 0] 75)) a n (up l) := h.keep (by repeat (first | exact Below.refl _ _ | assumption | refine Below.setCell ?_ (by first | omega | (simp; done) | (simp; omega)) _ | refine Below.alloc ?_ (by first | omega | (simp; done) | (simp; omega)) _ | apply Below.drew))
  have Hh := Lib.hid hx; clear hx h
  have Hok := Lib.hid hok
  have Hl := Lib.hid hl; clear hl
  have hp := hok.1; have hp6 := hok.2.1
  have h64 : ¬ (64 : Int) < n := by have := hok.2.2.1; rw [hlen.out] at this; omega
  clear hok
  go_enter Try.func80, Try.ntmps80
  go_wp2_with fail
  go_loop [6] (fun i => ∃ k : Nat, k ≤ n ∧ i = .int .i64 k) (fun i => n - (intOf i).toNat)
  case atStart => exact ⟨0, Nat.zero_le _, rfl⟩
  case round =>
    obtain ⟨k, hk, rfl⟩ := hrel
    by_cases hlt : k < n
    · obtain ⟨b1, o1, rfl, hc⟩ := Hh.out.cells (by omega)
      have hck := hc k hlt
      clear hc
      have hs := Hok.out.2.2.2 k (by rw [hlen.out]; exact hlt)
      go_wp2_with (go_at_call 64; (with_reducible refine (sIsSet_is _ _ _ _ hs).mono ?_); rintro e w' ⟨rfl, rfl⟩)
      go_round
      case rel => exact ⟨k + 1, by omega, by go_num⟩
      case measure => simp [intOf]; omega
    · obtain rfl : k = n := by omega
      have hkk : ¬ ((k : Int) < k) := by omega
      go_wp2_with (go_at_call 58; (with_reducible refine (l1In_yes p 1 6 _ hp hp6).mono ?_); rintro e w' ⟨rfl, rfl⟩)
      refine (l3Make_any p a k c l _ Hh.out Hl.out).mono ?_
      rintro e w1 ⟨ad, m, d, rfl, hown, hb⟩
      obtain ⟨hc, hf⟩ := bcell hb
      have hz : w.heap.size + 1 ≤ w1.heap.size := by have := hb.size; simp at this; omega
      have hbl : Below w.heap.size w w1 := Below.trans (by repeat (first | exact Below.refl _ _ | assumption | refine Below.setCell ?_ (by first | omega | (simp; done) | (simp; omega)) _ | refine Below.alloc ?_ (by first | omega | (simp; done) | (simp; omega)) _ | apply Below.drew)) (hb.mono (by simp))
      have ho : Own 3 w1 (w.heap.size + 1) ad m d _ := hown.mono (by simp)
      go_wp2_with fail
      refine bodyPost_ret (v := .tuple #[.agg #[.int .i64 p, .slice ad m d], .bool true]) (by simp [results, Try.results80, go_sem, hc, hz]) rfl ⟨ad, m, d, rfl, ?_, (by repeat (first | exact Below.refl _ _ | assumption | refine Below.setCell ?_ (by first | omega | (simp; done) | (simp; omega)) _ | refine Below.alloc ?_ (by first | omega | (simp; done) | (simp; omega)) _ | apply Below.drew))⟩
      exact ((ho.setBelow _ (by omega)).setBelow _ (by omega)).mono (by omega)

theorem iMakeIdeal_no (p : Int) (a : Option Addr) (n c : Nat) (xs : List Int) (w : World) (h : IntsAt w a n xs) (hno : ¬ SetsOk p xs) :
    Calls Try.prog 55 #[.int .i64 p, .slice a n c] w (RetBox2 w 0 [] false) := by
  have hx : IntsAt (w.alloc (.cells #[.int .i64 0, .slice none 0 0] 53)) a n xs := h.keep (by repeat (first | exact Below.refl _ _ | assumption | refine Below.setCell ?_ (by first | omega | (simp; done) | (simp; omega)) _ | refine Below.alloc ?_ (by first | omega | (simp; done) | (simp; omega)) _ | apply Below.drew))
  have Hh := Lib.hid hx; clear hx h
  have Hno := Lib.hid hno; clear hno
  go_enter Try.func55, Try.ntmps55
  go_wp2_with (go_at_call 82; (with_reducible refine (areSets_any p a n c xs _ Hh.out false (by simp [Hno.out])).mono ?_); rintro e w' ⟨rfl, rfl⟩)
  refine bodyPost_ret (v := .tuple #[.agg #[.int .i64 0, .slice none 0 0], .bool false]) (by simp [results, Try.results55, go_sem]) rfl ⟨none, 0, 0, rfl, Own.nil _ _ _, (by repeat (first | exact Below.refl _ _ | assumption | refine Below.setCell ?_ (by first | omega | (simp; done) | (simp; omega)) _ | refine Below.alloc ?_ (by first | omega | (simp; done) | (simp; omega)) _ | apply Below.drew))⟩
theorem iMakeIdeal_yes (p : Int) (a : Option Addr) (n c : Nat) (l : List Nat) (w : World) (h : IntsAt w a n (up l)) (hl : ∀ s ∈ l, s < 64) (hok : SetsOk p (up l)) :
    Calls Try.prog 55 #[.int .i64 p, .slice a n c] w (RetBox2 w p (up (minL l.contains)) true) := by
  have hx : IntsAt (w.alloc (.cells #[.int .i64 0, .slice none 0 0] 53)) a n (up l) := h.keep (by repeat (first | exact Below.refl _ _ | assumption | refine Below.setCell ?_ (by first | omega | (simp; done) | (simp; omega)) _ | refine Below.alloc ?_ (by first | omega | (simp; done) | (simp; omega)) _ | apply Below.drew))
  have Hh := Lib.hid hx; clear hx h
  have Hok := Lib.hid hok; clear hok
  have Hl := Lib.hid hl; clear hl
  go_enter Try.func55, Try.ntmps55
  go_wp2_with (go_at_call 82; (with_reducible refine (areSets_any p a n c _ _ Hh.out true (by simp [Hok.out])).mono ?_); rintro e w' ⟨rfl, rfl⟩)
  refine (MinimalSets_yes a n c l _ Hh.out Hl.out).mono ?_
  rintro e w1 ⟨ad, m, d, rfl, hown, hb⟩
  obtain ⟨hc, hf⟩ := bcell hb
  have hz : w.heap.size + 1 ≤ w1.heap.size := by have := hb.size; simp at this; omega
  have hbl : Below w.heap.size w w1 := Below.trans (by repeat (first | exact Below.refl _ _ | assumption | refine Below.setCell ?_ (by first | omega | (simp; done) | (simp; omega)) _ | refine Below.alloc ?_ (by first | omega | (simp; done) | (simp; omega)) _ | apply Below.drew)) (hb.mono (by simp))
  have ho : Own 3 w1 (w.heap.size + 1) ad m d _ := hown.mono (by simp)
  go_wp2_with fail
  refine bodyPost_ret (v := .tuple #[.agg #[.int .i64 p, .slice ad m d], .bool true]) (by simp [results, Try.results55, go_sem, hc, hz]) rfl ⟨ad, m, d, rfl, ?_, (by repeat (first | exact Below.refl _ _ | assumption | refine Below.setCell ?_ (by first | omega | (simp; done) | (simp; omega)) _ | refine Below.alloc ?_ (by first | omega | (simp; done) | (simp; omega)) _ | apply Below.drew))⟩
  exact ((ho.setBelow _ (by omega)).setBelow _ (by omega)).mono (by omega)

theorem sMakeIdeal_no (p : Int) (a : Option Addr) (n c : Nat) (xs : List Int) (w : World) (h : IntsAt w a n xs) (hno : ¬ SetsOk p xs) :
    Calls Try.prog 54 #[.int .i64 p, .slice a n c] w (RetBox2 w 0 [] false) := by
  have hx : IntsAt (w.alloc (.cells #[.int .i64 0, .slice none 0 0] 53)) a n xs := h.keep (by repeat (first | exact Below.refl _ _ | assumption | refine Below.setCell ?_ (by first | omega | (simp; done) | (simp; omega)) _ | refine Below.alloc ?_ (by first | omega | (simp; done) | (simp; omega)) _ | apply Below.drew))
  have Hh := Lib.hid hx; clear hx h
  have Hno := Lib.hid hno; clear hno
  go_enter Try.func54, Try.ntmps54
  go_wp2_with fail
  refine (sMakeComplex_no p a n c xs _ Hh.out Hno.out).mono ?_
  rintro e w1 ⟨ad, m, d, rfl, hown, hb⟩
  clear hown
  have xR := ((BoxF.new w (.int .i64 0) (.slice none 0 0) 53).keep hb (by simp)).alloc (.cells #[.int .i64 0, .slice ad m d] 75)
  obtain ⟨q0, q1, f0, f1, _⟩ := xR
  have hz : w.heap.size + 1 ≤ w1.heap.size := by have := hb.size; simp at this; omega
  have hbl : Below w.heap.size w w1 := Below.trans (by repeat (first | exact Below.refl _ _ | assumption | refine Below.setCell ?_ (by first | omega | (simp; done) | (simp; omega)) _ | refine Below.alloc ?_ (by first | omega | (simp; done) | (simp; omega)) _ | apply Below.drew)) (hb.mono (by simp))
  clear hb
  go_wp2_with fail
  refine bodyPost_ret (v := .tuple #[.agg #[.int .i64 0, .slice none 0 0], .bool false]) (by simp [results, Try.results54, go_sem, q0, q1]) rfl ⟨none, 0, 0, rfl, Own.nil _ _ _, (by repeat (first | exact Below.refl _ _ | assumption | refine Below.setCell ?_ (by first | omega | (simp; done) | (simp; omega)) _ | refine Below.alloc ?_ (by first | omega | (simp; done) | (simp; omega)) _ | apply Below.drew))⟩
theorem sMakeIdeal_yes (p : Int) (a : Option Addr) (n c : Nat) (l : List Nat) (w : World) (h : IntsAt w a n (up l)) (hl : ∀ s ∈ l, s < 64) (hok : SetsOk p (up l)) :
    Calls Try.prog 54 #[.int .i64 p, .slice a n c] w (RetBox2 w p (up (minL l.contains)) true) := by
  have hx : IntsAt (w.alloc (.cells #[.int .i64 0, .slice none 0 0] 53)) a n (up l) := h.keep (by repeat (first | exact Below.refl _ _ | assumption | refine Below.setCell ?_ (by first | omega | (simp; done) | (simp; omega)) _ | refine Below.alloc ?_ (by first | omega | (simp; done) | (simp; omega)) _ | apply Below.drew))
  have Hh := Lib.hid hx; clear hx h
  have Hok := Lib.hid hok; clear hok
  have Hl := Lib.hid hl; clear hl
  go_enter Try.func54, Try.ntmps54
  go_wp2_with fail
  refine (sMakeComplex_yes p a n c l _ Hh.out Hl.out Hok.out).mono ?_
  rintro e w1 ⟨ad, m, d, rfl, hown, hb⟩
  clear hown
  have xR1 := ((BoxF.new w (.int .i64 0) (.slice none 0 0) 53).keep hb (by simp)).alloc (.cells #[.int .i64 p, .slice ad m d] 75)
  have hz : w.heap.size + 1 ≤ w1.heap.size := by have := hb.size; simp at this; omega
  have hbl : Below w.heap.size w w1 := Below.trans (by repeat (first | exact Below.refl _ _ | assumption | refine Below.setCell ?_ (by first | omega | (simp; done) | (simp; omega)) _ | refine Below.alloc ?_ (by first | omega | (simp; done) | (simp; omega)) _ | apply Below.drew)) (hb.mono (by simp))
  have hx2 : IntsAt (w1.alloc (.cells #[.int .i64 p, .slice ad m d] 75)) a n (up l) := (Hh.out.keep hb).keep (by repeat (first | exact Below.refl _ _ | assumption | refine Below.setCell ?_ (by first | omega | (simp; done) | (simp; omega)) _ | refine Below.alloc ?_ (by first | omega | (simp; done) | (simp; omega)) _ | apply Below.drew))
  have Hh2 := Lib.hid hx2; clear hx2 hb
  go_wp2_with fail
  refine (l29Make_any p a n c l _ Hh2.out Hl.out).mono ?_
  rintro e w2 ⟨ad2, m2, d2, rfl, hown, hb⟩
  obtain ⟨q0, q1, f0, f1, _⟩ := xR1.keep hb (by simp; omega)
  have hz2 : w1.heap.size + 1 ≤ w2.heap.size := by have := hb.size; simp at this; omega
  have hbl2 : Below w.heap.size w w2 := hbl.trans (Below.trans (by repeat (first | exact Below.refl _ _ | assumption | refine Below.setCell ?_ (by first | omega | (simp; done) | (simp; omega)) _ | refine Below.alloc ?_ (by first | omega | (simp; done) | (simp; omega)) _ | apply Below.drew)) (hb.mono (by simp; omega)))
  clear xR1
  have ho : Own 3 w2 (w1.heap.size + 1) ad2 m2 d2 _ := hown.mono (by simp)
  clear hown hb
  go_wp2_with fail
  refine bodyPost_ret (v := .tuple #[.agg #[.int .i64 p, .slice ad2 m2 d2], .bool true]) (by simp [results, Try.results54, go_sem, q0, q1]) rfl ⟨ad2, m2, d2, rfl, ?_, (by repeat (first | exact Below.refl _ _ | assumption | refine Below.setCell ?_ (by first | omega | (simp; done) | (simp; omega)) _ | refine Below.alloc ?_ (by first | omega | (simp; done) | (simp; omega)) _ | apply Below.drew))⟩
  exact ((ho.setBelow _ (by omega)).setBelow _ (by omega)).mono (by omega)
end Go.Proofs.Ythijccgbkmappaa

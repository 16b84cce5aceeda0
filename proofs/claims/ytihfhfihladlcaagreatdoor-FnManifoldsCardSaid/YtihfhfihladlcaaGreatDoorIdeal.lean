/- Texts of this claim, one behind the other: what each says stands at its head. -/
import Derived.Deep.RegionHeld3
import Derived.Deep.DeepCutAuto
import Derived.Test.YtihfhfihladlcaaGreatDoorAnti
import Derived.Test.YtihfhfihladlcaaGreatDoorBase
import Derived.Test.YtihfhfihladlcaaGreatDoorCore
/- Contracts of InIdeal and what it calls, the program's and the reference's. -/
namespace Go.Proofs.YtihfhfihladlcaaGreatDoor
set_option maxRecDepth 20000
open Go.RowKit
set_option linter.unusedSimpArgs false

theorem any_no {l : List Nat} {f : Nat → Bool} (h : ∀ j, j < l.length → f (nthN l j) = false) : l.any f = false := by
  rw [List.any_eq_false]
  intro x hx
  obtain ⟨i, hi, rfl⟩ := List.mem_iff_getElem.1 hx
  have := h i hi
  rw [nthN_eq hi] at this
  simp [this]
theorem any_yes {l : List Nat} {f : Nat → Bool} {j : Nat} (hj : j < l.length) (h : f (nthN l j) = true) : l.any f = true :=
  List.any_eq_true.2 ⟨_, nthN_mem hj, h⟩

theorem iAvoids_any (s : Nat) (a : Option Addr) (n c : Nat) (l : List Nat) (w : World) (h : IntsAt w a n (up l)) (hs : s < 64) (hl : ∀ t ∈ l, t < 64) (b : Bool) (hb : l.any (sub · s) = b) :
    Calls Tryz.prog 96 #[.int .i64 s, .slice a n c] w fun e w' => e = .returned (.bool (!b)) ∧ w = w' := by
  have hn := h.small
  have hlen : l.length = n := by rw [← h.len, up_len]
  have Hlen := Lib.hid hlen; clear hlen
  have Hl := Lib.hid hl; clear hl
  have Hb := Lib.hid hb; clear hb
  have Hh := Lib.hid h; clear h
  go_enter Tryz.func96, Tryz.ntmps96
  go_wp2_with fail
  go_loop [6, 9] (fun _ i => ∃ k : Nat, k ≤ n ∧ i = .int .i64 k ∧ Hid (∀ j, j < k → sub (nthN l j) s = false)) (fun _ i => n - (intOf i).toNat)
  case atStart => exact ⟨0, Nat.zero_le _, rfl, Lib.hid fun j hj => absurd hj (Nat.not_lt_zero _)⟩
  case round =>
    obtain ⟨k, hk, rfl, hok⟩ := hrel
    by_cases hlt : k < n
    · obtain ⟨b1, o1, rfl, hc⟩ := Hh.out.cells (by omega)
      have hck := hc k hlt
      rw [nth_up] at hck
      have ht := Hl.out _ (nthN_mem (xs := l) (k := k) (by rw [Hlen.out]; exact hlt))
      obtain ⟨t, hte⟩ : ∃ t, t = nthN l k := ⟨_, rfl⟩
      rw [← hte] at hck ht
      have Hte := Lib.hid hte
      clear hc hte
      cases hst : (((sdiff t s : Nat) : Int) == 0)
      · go_wp2_with fail
        go_round
        case rel =>
          refine ⟨k + 1, by omega, by go_num, Lib.hid fun j hj => ?_⟩
          rcases Nat.lt_or_ge j k with h | h
          · exact hok.out j h
          · obtain rfl : j = k := by omega
            rw [← Hte.out, ← sdiff_zero ht hs]; exact hst
        case measure => simp [intOf]; omega
      · have hbt : b = true := by
          rw [← Hb.out]; exact any_yes (j := k) (by rw [Hlen.out]; exact hlt) (by rw [← Hte.out, ← sdiff_zero ht hs]; exact hst)
        subst hbt
        go_wp2_with fail
        go_ret
        exact ⟨rfl, rfl⟩
    · obtain rfl : k = n := by omega
      have hbt : b = false := by rw [← Hb.out]; exact any_no fun j hj => hok.out j (by rw [← Hlen.out]; exact hj)
      subst hbt
      go_wp2_with fail
      go_ret
      exact ⟨rfl, rfl⟩


/-- what InIdeal asks -/
def InP (p : Int) (xs : List Int) (s : Int) : Prop := Anti p xs ∧ isSetB p s = true ∧ (xs.map Int.toNat).any (sub · s.toNat) = true
theorem in_dec (p : Int) (xs : List Int) (s : Int) : ∃ b : Bool, b = true ↔ InP p xs s := by
  by_cases h : InP p xs s
  · exact ⟨true, by simp [h]⟩
  · exact ⟨false, by simp [h]⟩
theorem up_toNat (l : List Nat) : (up l).map Int.toNat = l := by
  unfold up; rw [List.map_map]
  apply List.ext_getElem (by simp)
  intro i h1 h2
  simp
/-- the three ways InIdeal goes -/
theorem in_ways {p : Int} {xs : List Int} {s : Int} {b : Bool} (hb : b = true ↔ InP p xs s) :
    (¬ Anti p xs ∧ b = false) ∨ (Anti p xs ∧ isSetB p s = false ∧ b = false) ∨ (Anti p xs ∧ isSetB p s = true ∧ ∃ (l : List Nat) (t : Nat), xs = up l ∧ s = t ∧ t < 64 ∧ (∀ u ∈ l, u < 64) ∧ l.any (sub · t) = b) := by
  by_cases h1 : Anti p xs
  · cases h2 : isSetB p s
    · refine .inr (.inl ⟨h1, rfl, ?_⟩)
      cases b
      · rfl
      · have := (hb.1 rfl).2.1; rw [h2] at this; cases this
    · obtain ⟨l, hx, hl, _⟩ := h1.nat
      obtain ⟨t, ht, ht64⟩ := isSet_lt h2
      refine .inr (.inr ⟨h1, rfl, l, t, hx, ht, ht64, fun u hu => (hl u hu).2, ?_⟩)
      have e : b = true ↔ l.any (sub · t) = true := by
        rw [hb]; unfold InP
        rw [hx, up_toNat, ht, Int.toNat_natCast]
        rw [ht] at h2
        rw [hx] at h1
        exact ⟨fun h => h.2.2, fun h => ⟨h1, h2, h⟩⟩
      rw [Bool.eq_iff_iff]; exact e.symm
  · refine .inl ⟨h1, ?_⟩
    cases b
    · rfl
    · exact absurd (hb.1 rfl).1 h1

set_option maxHeartbeats 1000000 in
theorem iInIdeal_any (p : Int) (a : Option Addr) (n c : Nat) (xs : List Int) (s : Int) (w : World) (h : IntsAt w a n xs) (hcap : n ≤ c) (b : Bool) (hb : b = true ↔ InP p xs s) :
    Calls Tryz.prog 35 #[.agg #[.int .i64 p, .slice a n c], .int .i64 s] w fun e w' => e = .returned (.bool b) ∧ Below w.heap.size w w' := by
  have hx : IntsAt (w.alloc (.cells #[.int .i64 p, .slice a n c] 26)) a n xs := h.keep (by repeat (first | exact Below.refl _ _ | assumption | refine Below.setCell ?_ (by first | omega | (simp; done) | (simp; omega)) _ | refine Below.alloc ?_ (by first | omega | (simp; done) | (simp; omega)) _ | apply Below.drew))
  have Hx := Lib.hid hx; clear hx h
  have Hcap := Lib.hid hcap; clear hcap
  rcases in_ways hb with ⟨h1, rfl⟩ | ⟨h1, h2, rfl⟩ | ⟨h1, h2, l, t, rfl, rfl, ht64, hl, hbb⟩
  · have H1 := Lib.hid h1; clear h1 hb
    go_enter Tryz.func35, Tryz.ntmps35
    go_wp2_with fail
    refine (iIsIdeal_any p a n c xs _ Hx.out Hcap.out false (by simp [H1.out])).mono ?_
    rintro e w1 ⟨rfl, hb⟩
    have HB : Hid (Below w.heap.size w w1) := Lib.hid (Below.trans (by repeat (first | exact Below.refl _ _ | assumption | refine Below.setCell ?_ (by first | omega | (simp; done) | (simp; omega)) _ | refine Below.alloc ?_ (by first | omega | (simp; done) | (simp; omega)) _ | apply Below.drew)) (hb.mono (by simp)))
    clear hb
    go_wp2_with fail
    go_ret
    exact ⟨rfl, HB.out⟩
  · have H1 := Lib.hid h1; clear h1 hb
    go_enter Tryz.func35, Tryz.ntmps35
    go_wp2_with fail
    refine (iIsIdeal_any p a n c xs _ Hx.out Hcap.out true (by simp [H1.out])).mono ?_
    rintro e w1 ⟨rfl, hb⟩
    obtain ⟨hc, hf⟩ := bcell hb
    have hz : w.heap.size + 1 ≤ w1.heap.size := by have := hb.size; simp at this; omega
    have HB : Hid (Below w.heap.size w w1) := Lib.hid (Below.trans (by repeat (first | exact Below.refl _ _ | assumption | refine Below.setCell ?_ (by first | omega | (simp; done) | (simp; omega)) _ | refine Below.alloc ?_ (by first | omega | (simp; done) | (simp; omega)) _ | apply Below.drew)) (hb.mono (by simp)))
    clear hb
    go_wp2_with (go_at_call 93; (with_reducible refine (IsSet_is _ _ _ _ h2).mono ?_); rintro e w' ⟨rfl, rfl⟩)
    go_ret
    exact ⟨rfl, HB.out⟩
  · have H1 := Lib.hid h1; clear h1 hb
    have Hl := Lib.hid hl; clear hl
    have Hbb := Lib.hid hbb; clear hbb
    go_enter Tryz.func35, Tryz.ntmps35
    go_wp2_with fail
    refine (iIsIdeal_any p a n c _ _ Hx.out Hcap.out true (by simp [H1.out])).mono ?_
    rintro e w1 ⟨rfl, hb⟩
    obtain ⟨hc, hf⟩ := bcell hb
    have hz : w.heap.size + 1 ≤ w1.heap.size := by have := hb.size; simp at this; omega
    have Hx1 := Lib.hid (Hx.out.keep hb)
    have HB : Hid (Below w.heap.size w w1) := Lib.hid (Below.trans (by repeat (first | exact Below.refl _ _ | assumption | refine Below.setCell ?_ (by first | omega | (simp; done) | (simp; omega)) _ | refine Below.alloc ?_ (by first | omega | (simp; done) | (simp; omega)) _ | apply Below.drew)) (hb.mono (by simp)))
    clear hb
    go_wp2_with (first | (go_at_call 93; (with_reducible refine (IsSet_is _ _ _ _ h2).mono ?_); rintro e w' ⟨rfl, rfl⟩) | (go_at_call 96; (with_reducible refine (iAvoids_any t a n c l _ Hx1.out ht64 Hl.out b Hbb.out).mono ?_); rintro e w' ⟨rfl, rfl⟩))
    go_ret
    exact ⟨ret_bool (by simp), HB.out⟩

end Go.Proofs.YtihfhfihladlcaaGreatDoor

/- Contracts of what makes complexes and ideals out of sets: areSetsOf, l3Make, l29Make, MakeComplex, MakeIdeal. -/
namespace Go.Proofs.YtihfhfihladlcaaGreatDoor
set_option maxRecDepth 20000
open Go.RowKit
set_option linter.unusedSimpArgs false

/-- what MakeComplex asks -/
def SetsOk (p : Int) (xs : List Int) : Prop := 1 ≤ p ∧ p ≤ 6 ∧ xs.length ≤ 64 ∧ ∀ i, i < xs.length → isSetB p (nth xs i) = true
theorem setsNo {p : Int} {xs : List Int} {b : Bool} (hb : b = true ↔ SetsOk p xs) (h : ¬ SetsOk p xs) : b = false := by
  cases b
  · rfl
  · exact absurd (hb.1 rfl) h
theorem SetsOk.nat {p : Int} {xs : List Int} (h : SetsOk p xs) : ∃ l : List Nat, xs = up l ∧ (∀ s ∈ l, s < 2 ^ p.toNat) ∧ ∀ s ∈ l, s < 64 := by
  have aux : ∀ s ∈ xs.map Int.toNat, s < 2 ^ p.toNat ∧ s < 64 := by
    intro s hs
    obtain ⟨x, hx, rfl⟩ := List.mem_map.1 hs
    obtain ⟨i, hi, rfl⟩ := List.mem_iff_getElem.1 hx
    obtain ⟨m, t, hm, ht, _, h2, h3⟩ := isSet_nat (h.2.2.2 i hi)
    rw [nth_eq hi] at ht
    rw [ht, hm]; simpa using ⟨h2, h3⟩
  refine ⟨xs.map Int.toNat, ?_, fun s hs => (aux s hs).1, fun s hs => (aux s hs).2⟩
  apply List.ext_getElem (by simp [up])
  intro i h1 h2
  obtain ⟨m, t, hm, ht, _⟩ := isSet_nat (h.2.2.2 i h1)
  rw [nth_eq h1] at ht
  simp [up]; omega

set_option maxHeartbeats 1000000 in
theorem areSets_any (p : Int) (a : Option Addr) (n c : Nat) (xs : List Int) (w : World) (h : IntsAt w a n xs) (b : Bool) (hb : b = true ↔ SetsOk p xs) :
    Calls Tryz.prog 98 #[.int .i64 p, .slice a n c] w fun e w' => e = .returned (.bool b) ∧ w = w' := by
  have hn := h.small
  have hlen := Lib.hid h.len
  have Hh := Lib.hid h; clear h
  have Hb := Lib.hid hb; clear hb
  by_cases h1 : p < 1
  · have hbf : b = false := setsNo Hb.out fun hP => by have := hP.1; omega
    subst hbf
    go_enter Tryz.func98, Tryz.ntmps98
    go_wp2
    go_ret
    exact ⟨rfl, rfl⟩
  by_cases h2 : 6 < p
  · have hbf : b = false := setsNo Hb.out fun hP => by have := hP.2.1; omega
    subst hbf
    go_enter Tryz.func98, Tryz.ntmps98
    go_wp2
    go_ret
    exact ⟨rfl, rfl⟩
  by_cases h3 : (64 : Int) < n
  · have hbf : b = false := setsNo Hb.out fun hP => by have := hP.2.2.1; have := hlen.out; omega
    subst hbf
    go_enter Tryz.func98, Tryz.ntmps98
    go_wp2
    go_ret
    exact ⟨rfl, rfl⟩
  go_enter Tryz.func98, Tryz.ntmps98
  go_wp2_with fail
  go_loop [6, 20] (fun _ i => ∃ k : Nat, k ≤ n ∧ i = .int .i64 k ∧ Hid (∀ j, j < k → isSetB p (nth xs j) = true)) (fun _ i => n - (intOf i).toNat)
  case atStart => exact ⟨0, Nat.zero_le _, rfl, Lib.hid fun j hj => absurd hj (Nat.not_lt_zero _)⟩
  case round =>
    obtain ⟨k, hk, rfl, hok⟩ := hrel
    by_cases hlt : k < n
    · obtain ⟨b1, o1, rfl, hc⟩ := Hh.out.cells (by omega)
      have hck := hc k hlt
      clear hc
      cases hs : isSetB p (nth xs k)
      · have hbf : b = false := setsNo Hb.out fun hP => by have := hP.2.2.2 k (by rw [hlen.out]; exact hlt); rw [hs] at this; cases this
        subst hbf
        go_wp2_with (go_at_call 93; (with_reducible refine (IsSet_is _ _ _ _ hs).mono ?_); rintro e w' ⟨rfl, rfl⟩)
        go_ret
        exact ⟨rfl, rfl⟩
      · have Hs := Lib.hid hs
        go_wp2_with (go_at_call 93; (with_reducible refine (IsSet_is _ _ _ _ hs).mono ?_); rintro e w' ⟨rfl, rfl⟩)
        go_round
        case rel =>
          refine ⟨k + 1, by omega, by go_num, Lib.hid fun j hj => ?_⟩
          rcases Nat.lt_or_ge j k with h | h
          · exact hok.out j h
          · obtain rfl : j = k := by omega
            exact Hs.out
        case measure => simp [intOf]; omega
    · obtain rfl : k = n := by omega
      have hbt : b = true := Hb.out.2 ⟨by omega, by omega, by rw [hlen.out]; omega, fun j hj => hok.out j (by rw [hlen.out] at hj; exact hj)⟩
      subst hbt
      go_wp2_with fail
      go_ret
      exact ⟨rfl, rfl⟩

theorem l29Make_any (p : Int) (a : Option Addr) (n c : Nat) (l : List Nat) (w : World) (h : IntsAt w a n (up l)) (hl : ∀ s ∈ l, s < 64) :
    Calls Tryz.prog 83 #[.int .i64 p, .slice a n c] w (RetBox w p (up (minL l.contains))) := by
  have hx : IntsAt (w.alloc (.cells #[.int .i64 0, .slice none 0 0] 26)) a n (up l) := h.keep (by repeat (first | exact Below.refl _ _ | assumption | refine Below.setCell ?_ (by first | omega | (simp; done) | (simp; omega)) _ | refine Below.alloc ?_ (by first | omega | (simp; done) | (simp; omega)) _ | apply Below.drew))
  have Hx := Lib.hid hx; clear hx h
  have Hl := Lib.hid hl; clear hl
  go_enter Tryz.func83, Tryz.ntmps83
  go_wp2_with fail
  refine (l2Extreme_any a n c l false _ Hx.out Hl.out).mono ?_
  rintro e w1 ⟨ad, m, d, rfl, hown, hb⟩
  obtain ⟨hc, hf⟩ := bcell hb
  have hz : w.heap.size + 1 ≤ w1.heap.size := by have := hb.size; simp at this; omega
  have hbl : Below w.heap.size w w1 := Below.trans (by repeat (first | exact Below.refl _ _ | assumption | refine Below.setCell ?_ (by first | omega | (simp; done) | (simp; omega)) _ | refine Below.alloc ?_ (by first | omega | (simp; done) | (simp; omega)) _ | apply Below.drew)) (hb.mono (by simp))
  have ho : Own 3 w1 (w.heap.size + 1) ad m d _ := hown.mono (by simp)
  go_wp2_with fail
  refine bodyPost_ret (v := .agg #[.int .i64 p, .slice ad m d]) (by simp [results, Tryz.results83, go_sem, hc, hz]) rfl ⟨ad, m, d, rfl, ?_, (by repeat (first | exact Below.refl _ _ | assumption | refine Below.setCell ?_ (by first | omega | (simp; done) | (simp; omega)) _ | refine Below.alloc ?_ (by first | omega | (simp; done) | (simp; omega)) _ | apply Below.drew))⟩
  exact ((ho.setBelow _ (by omega)).setBelow _ (by omega)).mono (by omega)
theorem l3Make_any (p : Int) (a : Option Addr) (n c : Nat) (l : List Nat) (w : World) (h : IntsAt w a n (up l)) (hl : ∀ s ∈ l, s < 64) :
    Calls Tryz.prog 121 #[.int .i64 p, .slice a n c] w (RetBox w p (up (maxL l.contains))) := by
  have hx : IntsAt (w.alloc (.cells #[.int .i64 0, .slice none 0 0] 32)) a n (up l) := h.keep (by repeat (first | exact Below.refl _ _ | assumption | refine Below.setCell ?_ (by first | omega | (simp; done) | (simp; omega)) _ | refine Below.alloc ?_ (by first | omega | (simp; done) | (simp; omega)) _ | apply Below.drew))
  have Hx := Lib.hid hx; clear hx h
  have Hl := Lib.hid hl; clear hl
  go_enter Tryz.func121, Tryz.ntmps121
  go_wp2_with fail
  refine (l2Extreme_any a n c l true _ Hx.out Hl.out).mono ?_
  rintro e w1 ⟨ad, m, d, rfl, hown, hb⟩
  obtain ⟨hc, hf⟩ := bcell hb
  have hz : w.heap.size + 1 ≤ w1.heap.size := by have := hb.size; simp at this; omega
  have hbl : Below w.heap.size w w1 := Below.trans (by repeat (first | exact Below.refl _ _ | assumption | refine Below.setCell ?_ (by first | omega | (simp; done) | (simp; omega)) _ | refine Below.alloc ?_ (by first | omega | (simp; done) | (simp; omega)) _ | apply Below.drew)) (hb.mono (by simp))
  have ho : Own 3 w1 (w.heap.size + 1) ad m d _ := hown.mono (by simp)
  go_wp2_with fail
  refine bodyPost_ret (v := .agg #[.int .i64 p, .slice ad m d]) (by simp [results, Tryz.results121, go_sem, hc, hz]) rfl ⟨ad, m, d, rfl, ?_, (by repeat (first | exact Below.refl _ _ | assumption | refine Below.setCell ?_ (by first | omega | (simp; done) | (simp; omega)) _ | refine Below.alloc ?_ (by first | omega | (simp; done) | (simp; omega)) _ | apply Below.drew))⟩
  exact ((ho.setBelow _ (by omega)).setBelow _ (by omega)).mono (by omega)

set_option maxHeartbeats 1000000 in
theorem sMakeComplex_no (p : Int) (a : Option Addr) (n c : Nat) (xs : List Int) (w : World) (h : IntsAt w a n xs) (hno : ¬ SetsOk p xs) :
    Calls Tryz.prog 100 #[.int .i64 p, .slice a n c] w (RetBox2 w 0 [] false) := by
  have hn := h.small
  have hlen := Lib.hid h.len
  have hx : IntsAt (w.alloc (.cells #[.int .i64 0, .slice none 0 0] 32)) a n xs := h.keep (by repeat (first | exact Below.refl _ _ | assumption | refine Below.setCell ?_ (by first | omega | (simp; done) | (simp; omega)) _ | refine Below.alloc ?_ (by first | omega | (simp; done) | (simp; omega)) _ | apply Below.drew))
  have Hh := Lib.hid hx; clear hx h
  have Hno := Lib.hid hno; clear hno
  go_enter Tryz.func100, Tryz.ntmps100
  go_wp2_with fail
  go_loop [6] (fun i => ∃ k : Nat, k ≤ n ∧ i = .int .i64 k ∧ Hid (∀ j, j < k → isSetB p (nth xs j) = true)) (fun i => n - (intOf i).toNat)
  case atStart => exact ⟨0, Nat.zero_le _, rfl, Lib.hid fun j hj => absurd hj (Nat.not_lt_zero _)⟩
  case round =>
    obtain ⟨k, hk, rfl, hok⟩ := hrel
    by_cases hlt : k < n
    · obtain ⟨b1, o1, rfl, hc⟩ := Hh.out.cells (by omega)
      have hck := hc k hlt
      clear hc
      cases hs : isSetB p (nth xs k)
      · go_wp2_with (go_at_call 36; (with_reducible refine (sIsSet_is _ _ _ _ hs).mono ?_); rintro e w' ⟨rfl, rfl⟩)
        refine bodyPost_ret (v := .tuple #[.agg #[.int .i64 0, .slice none 0 0], .bool false]) (by simp [results, Tryz.results100, go_sem]) rfl ⟨none, 0, 0, rfl, Own.nil _ _ _, (by repeat (first | exact Below.refl _ _ | assumption | refine Below.setCell ?_ (by first | omega | (simp; done) | (simp; omega)) _ | refine Below.alloc ?_ (by first | omega | (simp; done) | (simp; omega)) _ | apply Below.drew))⟩
      · have Hs := Lib.hid hs
        go_wp2_with (go_at_call 36; (with_reducible refine (sIsSet_is _ _ _ _ hs).mono ?_); rintro e w' ⟨rfl, rfl⟩)
        go_round
        case rel =>
          refine ⟨k + 1, by omega, by go_num, Lib.hid fun j hj => ?_⟩
          rcases Nat.lt_or_ge j k with h | h
          · exact hok.out j h
          · obtain rfl : j = k := by omega
            exact Hs.out
        case measure => simp [intOf]; omega
    · obtain rfl : k = n := by omega
      have hkk : ¬ ((k : Int) < k) := by omega
      by_cases hp : 1 ≤ p ∧ p ≤ 6
      · have h64 : (64 : Int) < k := by
          rcases Nat.lt_or_ge 64 k with h | h
          · omega
          · exact absurd ⟨hp.1, hp.2, by rw [hlen.out]; exact h, fun j hj => hok.out j (by rw [hlen.out] at hj; exact hj)⟩ Hno.out
        go_wp2_with (go_at_call 110; (with_reducible refine (l1In_yes p 1 6 _ hp.1 hp.2).mono ?_); rintro e w' ⟨rfl, rfl⟩)
        refine bodyPost_ret (v := .tuple #[.agg #[.int .i64 0, .slice none 0 0], .bool false]) (by simp [results, Tryz.results100, go_sem]) rfl ⟨none, 0, 0, rfl, Own.nil _ _ _, (by repeat (first | exact Below.refl _ _ | assumption | refine Below.setCell ?_ (by first | omega | (simp; done) | (simp; omega)) _ | refine Below.alloc ?_ (by first | omega | (simp; done) | (simp; omega)) _ | apply Below.drew))⟩
      · go_wp2_with (go_at_call 110; (with_reducible refine (l1In_no p 1 6 _ hp).mono ?_); rintro e w' ⟨rfl, rfl⟩)
        refine bodyPost_ret (v := .tuple #[.agg #[.int .i64 0, .slice none 0 0], .bool false]) (by simp [results, Tryz.results100, go_sem]) rfl ⟨none, 0, 0, rfl, Own.nil _ _ _, (by repeat (first | exact Below.refl _ _ | assumption | refine Below.setCell ?_ (by first | omega | (simp; done) | (simp; omega)) _ | refine Below.alloc ?_ (by first | omega | (simp; done) | (simp; omega)) _ | apply Below.drew))⟩
set_option maxHeartbeats 1000000 in
theorem sMakeComplex_yes (p : Int) (a : Option Addr) (n c : Nat) (l : List Nat) (w : World) (h : IntsAt w a n (up l)) (hl : ∀ s ∈ l, s < 64) (hok : SetsOk p (up l)) :
    Calls Tryz.prog 100 #[.int .i64 p, .slice a n c] w (RetBox2 w p (up (maxL l.contains)) true) := by
  have hn := h.small
  have hlen := Lib.hid h.len
  have hx : IntsAt (w.alloc (.cells #[.int .i64 0, .slice none 0 0] 32)) a n (up l) := h.keep (by repeat (first | exact Below.refl _ _ | assumption | refine Below.setCell ?_ (by first | omega | (simp; done) | (simp; omega)) _ | refine Below.alloc ?_ (by first | omega | (simp; done) | (simp; omega)) _ | apply Below.drew))
  have Hh := Lib.hid hx; clear hx h
  have Hok := Lib.hid hok
  have Hl := Lib.hid hl; clear hl
  have hp := hok.1; have hp6 := hok.2.1
  have h64 : ¬ (64 : Int) < n := by have := hok.2.2.1; rw [hlen.out] at this; omega
  clear hok
  go_enter Tryz.func100, Tryz.ntmps100
  go_wp2_with fail
  go_loop [6] (fun i => ∃ k : Nat, k ≤ n ∧ i = .int .i64 k) (fun i => n - (intOf i).toNat)
  case atStart => exact ⟨0, Nat.zero_le _, rfl⟩
  case round =>
    obtain ⟨k, hk, rfl⟩ := hrel
    by_cases hlt : k < n
    · obtain ⟨b1, o1, rfl, hc⟩ := Hh.out.cells (by omega)
      have hck := hc k hlt
      clear hc
      have hs := Hok.out.2.2.2 k (by rw [hlen.out]; exact hlt)
      go_wp2_with (go_at_call 36; (with_reducible refine (sIsSet_is _ _ _ _ hs).mono ?_); rintro e w' ⟨rfl, rfl⟩)
      go_round
      case rel => exact ⟨k + 1, by omega, by go_num⟩
      case measure => simp [intOf]; omega
    · obtain rfl : k = n := by omega
      have hkk : ¬ ((k : Int) < k) := by omega
      go_wp2_with (go_at_call 110; (with_reducible refine (l1In_yes p 1 6 _ hp hp6).mono ?_); rintro e w' ⟨rfl, rfl⟩)
      refine (l3Make_any p a k c l _ Hh.out Hl.out).mono ?_
      rintro e w1 ⟨ad, m, d, rfl, hown, hb⟩
      obtain ⟨hc, hf⟩ := bcell hb
      have hz : w.heap.size + 1 ≤ w1.heap.size := by have := hb.size; simp at this; omega
      have hbl : Below w.heap.size w w1 := Below.trans (by repeat (first | exact Below.refl _ _ | assumption | refine Below.setCell ?_ (by first | omega | (simp; done) | (simp; omega)) _ | refine Below.alloc ?_ (by first | omega | (simp; done) | (simp; omega)) _ | apply Below.drew)) (hb.mono (by simp))
      have ho : Own 3 w1 (w.heap.size + 1) ad m d _ := hown.mono (by simp)
      go_wp2_with fail
      refine bodyPost_ret (v := .tuple #[.agg #[.int .i64 p, .slice ad m d], .bool true]) (by simp [results, Tryz.results100, go_sem, hc, hz]) rfl ⟨ad, m, d, rfl, ?_, (by repeat (first | exact Below.refl _ _ | assumption | refine Below.setCell ?_ (by first | omega | (simp; done) | (simp; omega)) _ | refine Below.alloc ?_ (by first | omega | (simp; done) | (simp; omega)) _ | apply Below.drew))⟩
      exact ((ho.setBelow _ (by omega)).setBelow _ (by omega)).mono (by omega)

theorem iMakeIdeal_no (p : Int) (a : Option Addr) (n c : Nat) (xs : List Int) (w : World) (h : IntsAt w a n xs) (hno : ¬ SetsOk p xs) :
    Calls Tryz.prog 22 #[.int .i64 p, .slice a n c] w (RetBox2 w 0 [] false) := by
  have hx : IntsAt (w.alloc (.cells #[.int .i64 0, .slice none 0 0] 26)) a n xs := h.keep (by repeat (first | exact Below.refl _ _ | assumption | refine Below.setCell ?_ (by first | omega | (simp; done) | (simp; omega)) _ | refine Below.alloc ?_ (by first | omega | (simp; done) | (simp; omega)) _ | apply Below.drew))
  have Hh := Lib.hid hx; clear hx h
  have Hno := Lib.hid hno; clear hno
  go_enter Tryz.func22, Tryz.ntmps22
  go_wp2_with (go_at_call 98; (with_reducible refine (areSets_any p a n c xs _ Hh.out false (by simp [Hno.out])).mono ?_); rintro e w' ⟨rfl, rfl⟩)
  refine bodyPost_ret (v := .tuple #[.agg #[.int .i64 0, .slice none 0 0], .bool false]) (by simp [results, Tryz.results22, go_sem]) rfl ⟨none, 0, 0, rfl, Own.nil _ _ _, (by repeat (first | exact Below.refl _ _ | assumption | refine Below.setCell ?_ (by first | omega | (simp; done) | (simp; omega)) _ | refine Below.alloc ?_ (by first | omega | (simp; done) | (simp; omega)) _ | apply Below.drew))⟩
theorem iMakeIdeal_yes (p : Int) (a : Option Addr) (n c : Nat) (l : List Nat) (w : World) (h : IntsAt w a n (up l)) (hl : ∀ s ∈ l, s < 64) (hok : SetsOk p (up l)) :
    Calls Tryz.prog 22 #[.int .i64 p, .slice a n c] w (RetBox2 w p (up (minL l.contains)) true) := by
  have hx : IntsAt (w.alloc (.cells #[.int .i64 0, .slice none 0 0] 26)) a n (up l) := h.keep (by repeat (first | exact Below.refl _ _ | assumption | refine Below.setCell ?_ (by first | omega | (simp; done) | (simp; omega)) _ | refine Below.alloc ?_ (by first | omega | (simp; done) | (simp; omega)) _ | apply Below.drew))
  have Hh := Lib.hid hx; clear hx h
  have Hok := Lib.hid hok; clear hok
  have Hl := Lib.hid hl; clear hl
  go_enter Tryz.func22, Tryz.ntmps22
  go_wp2_with (go_at_call 98; (with_reducible refine (areSets_any p a n c _ _ Hh.out true (by simp [Hok.out])).mono ?_); rintro e w' ⟨rfl, rfl⟩)
  refine (MinimalSets_yes a n c l _ Hh.out Hl.out).mono ?_
  rintro e w1 ⟨ad, m, d, rfl, hown, hb⟩
  obtain ⟨hc, hf⟩ := bcell hb
  have hz : w.heap.size + 1 ≤ w1.heap.size := by have := hb.size; simp at this; omega
  have hbl : Below w.heap.size w w1 := Below.trans (by repeat (first | exact Below.refl _ _ | assumption | refine Below.setCell ?_ (by first | omega | (simp; done) | (simp; omega)) _ | refine Below.alloc ?_ (by first | omega | (simp; done) | (simp; omega)) _ | apply Below.drew)) (hb.mono (by simp))
  have ho : Own 3 w1 (w.heap.size + 1) ad m d _ := hown.mono (by simp)
  go_wp2_with fail
  refine bodyPost_ret (v := .tuple #[.agg #[.int .i64 p, .slice ad m d], .bool true]) (by simp [results, Tryz.results22, go_sem, hc, hz]) rfl ⟨ad, m, d, rfl, ?_, (by repeat (first | exact Below.refl _ _ | assumption | refine Below.setCell ?_ (by first | omega | (simp; done) | (simp; omega)) _ | refine Below.alloc ?_ (by first | omega | (simp; done) | (simp; omega)) _ | apply Below.drew))⟩
  exact ((ho.setBelow _ (by omega)).setBelow _ (by omega)).mono (by omega)

theorem sMakeIdeal_no (p : Int) (a : Option Addr) (n c : Nat) (xs : List Int) (w : World) (h : IntsAt w a n xs) (hno : ¬ SetsOk p xs) :
    Calls Tryz.prog 23 #[.int .i64 p, .slice a n c] w (RetBox2 w 0 [] false) := by
  have hx : IntsAt (w.alloc (.cells #[.int .i64 0, .slice none 0 0] 26)) a n xs := h.keep (by repeat (first | exact Below.refl _ _ | assumption | refine Below.setCell ?_ (by first | omega | (simp; done) | (simp; omega)) _ | refine Below.alloc ?_ (by first | omega | (simp; done) | (simp; omega)) _ | apply Below.drew))
  have Hh := Lib.hid hx; clear hx h
  have Hno := Lib.hid hno; clear hno
  go_enter Tryz.func23, Tryz.ntmps23
  go_wp2_with fail
  refine (sMakeComplex_no p a n c xs _ Hh.out Hno.out).mono ?_
  rintro e w1 ⟨ad, m, d, rfl, hown, hb⟩
  clear hown
  have xR := ((BoxF.new w (.int .i64 0) (.slice none 0 0) 26).keep hb (by simp)).alloc (.cells #[.int .i64 0, .slice ad m d] 32)
  obtain ⟨q0, q1, f0, f1, _⟩ := xR
  have hz : w.heap.size + 1 ≤ w1.heap.size := by have := hb.size; simp at this; omega
  have hbl : Below w.heap.size w w1 := Below.trans (by repeat (first | exact Below.refl _ _ | assumption | refine Below.setCell ?_ (by first | omega | (simp; done) | (simp; omega)) _ | refine Below.alloc ?_ (by first | omega | (simp; done) | (simp; omega)) _ | apply Below.drew)) (hb.mono (by simp))
  clear hb
  go_wp2_with fail
  refine bodyPost_ret (v := .tuple #[.agg #[.int .i64 0, .slice none 0 0], .bool false]) (by simp [results, Tryz.results23, go_sem, q0, q1]) rfl ⟨none, 0, 0, rfl, Own.nil _ _ _, (by repeat (first | exact Below.refl _ _ | assumption | refine Below.setCell ?_ (by first | omega | (simp; done) | (simp; omega)) _ | refine Below.alloc ?_ (by first | omega | (simp; done) | (simp; omega)) _ | apply Below.drew))⟩
theorem sMakeIdeal_yes (p : Int) (a : Option Addr) (n c : Nat) (l : List Nat) (w : World) (h : IntsAt w a n (up l)) (hl : ∀ s ∈ l, s < 64) (hok : SetsOk p (up l)) :
    Calls Tryz.prog 23 #[.int .i64 p, .slice a n c] w (RetBox2 w p (up (minL l.contains)) true) := by
  have hx : IntsAt (w.alloc (.cells #[.int .i64 0, .slice none 0 0] 26)) a n (up l) := h.keep (by repeat (first | exact Below.refl _ _ | assumption | refine Below.setCell ?_ (by first | omega | (simp; done) | (simp; omega)) _ | refine Below.alloc ?_ (by first | omega | (simp; done) | (simp; omega)) _ | apply Below.drew))
  have Hh := Lib.hid hx; clear hx h
  have Hok := Lib.hid hok; clear hok
  have Hl := Lib.hid hl; clear hl
  go_enter Tryz.func23, Tryz.ntmps23
  go_wp2_with fail
  refine (sMakeComplex_yes p a n c l _ Hh.out Hl.out Hok.out).mono ?_
  rintro e w1 ⟨ad, m, d, rfl, hown, hb⟩
  clear hown
  have xR1 := ((BoxF.new w (.int .i64 0) (.slice none 0 0) 26).keep hb (by simp)).alloc (.cells #[.int .i64 p, .slice ad m d] 32)
  have hz : w.heap.size + 1 ≤ w1.heap.size := by have := hb.size; simp at this; omega
  have hbl : Below w.heap.size w w1 := Below.trans (by repeat (first | exact Below.refl _ _ | assumption | refine Below.setCell ?_ (by first | omega | (simp; done) | (simp; omega)) _ | refine Below.alloc ?_ (by first | omega | (simp; done) | (simp; omega)) _ | apply Below.drew)) (hb.mono (by simp))
  have hx2 : IntsAt (w1.alloc (.cells #[.int .i64 p, .slice ad m d] 32)) a n (up l) := (Hh.out.keep hb).keep (by repeat (first | exact Below.refl _ _ | assumption | refine Below.setCell ?_ (by first | omega | (simp; done) | (simp; omega)) _ | refine Below.alloc ?_ (by first | omega | (simp; done) | (simp; omega)) _ | apply Below.drew))
  have Hh2 := Lib.hid hx2; clear hx2 hb
  go_wp2_with fail
  refine (l29Make_any p a n c l _ Hh2.out Hl.out).mono ?_
  rintro e w2 ⟨ad2, m2, d2, rfl, hown, hb⟩
  obtain ⟨q0, q1, f0, f1, _⟩ := xR1.keep hb (by simp; omega)
  have hz2 : w1.heap.size + 1 ≤ w2.heap.size := by have := hb.size; simp at this; omega
  have hbl2 : Below w.heap.size w w2 := hbl.trans (Below.trans (by repeat (first | exact Below.refl _ _ | assumption | refine Below.setCell ?_ (by first | omega | (simp; done) | (simp; omega)) _ | refine Below.alloc ?_ (by first | omega | (simp; done) | (simp; omega)) _ | apply Below.drew)) (hb.mono (by simp; omega)))
  clear xR1
  have ho : Own 3 w2 (w1.heap.size + 1) ad2 m2 d2 _ := hown.mono (by simp)
  clear hown hb
  go_wp2_with fail
  refine bodyPost_ret (v := .tuple #[.agg #[.int .i64 p, .slice ad2 m2 d2], .bool true]) (by simp [results, Tryz.results23, go_sem, q0, q1]) rfl ⟨ad2, m2, d2, rfl, ?_, (by repeat (first | exact Below.refl _ _ | assumption | refine Below.setCell ?_ (by first | omega | (simp; done) | (simp; omega)) _ | refine Below.alloc ?_ (by first | omega | (simp; done) | (simp; omega)) _ | apply Below.drew))⟩
  exact ((ho.setBelow _ (by omega)).setBelow _ (by omega)).mono (by omega)
end Go.Proofs.YtihfhfihladlcaaGreatDoor

/- Contracts of the reference's l7From and l8Covers: the sets that contain none of others; the sets that meet all of others. -/
namespace Go.Proofs.YtihfhfihladlcaaGreatDoor
set_option maxRecDepth 20000
open Go.RowKit
set_option linter.unusedSimpArgs false
set_option linter.unusedVariables false

/-- the sets below N with q -/
def lst (q : Nat → Bool) (N : Nat) : List Nat := (List.range N).filter q
theorem lst_no {q : Nat → Bool} {I : Nat} (h : q I = false) : lst q (I + 1) = lst q I := by unfold lst; rw [List.range_succ, List.filter_append]; simp [h]
theorem lst_yes {q : Nat → Bool} {I : Nat} (h : q I = true) : lst q (I + 1) = lst q I ++ [I] := by unfold lst; rw [List.range_succ, List.filter_append]; simp [h]
theorem lst_len (q : Nat → Bool) (N : Nat) : (lst q N).length ≤ N := by unfold lst; exact Nat.le_trans (List.length_filter_le _ _) (by simp)
theorem mem_lst {q : Nat → Bool} {N s : Nat} : s ∈ lst q N ↔ s < N ∧ q s = true := by unfold lst; simp
theorem lst_has (q : Nat → Bool) (N s : Nat) : (lst q N).contains s = (decide (s < N) && q s) := by
  rw [Bool.eq_iff_iff, List.contains_iff_mem, mem_lst]; simp
theorem take_any {l : List Nat} {f : Nat → Bool} {J : Nat} (h : J < l.length) : (l.take (J + 1)).any f = ((l.take J).any f || f (nthN l J)) := by
  rw [nthN_take l J h, List.any_append]; simp
theorem take_all {l : List Nat} {f : Nat → Bool} {J : Nat} (h : J < l.length) : (l.take (J + 1)).all f = ((l.take J).all f && f (nthN l J)) := by
  rw [nthN_take l J h, List.all_append]; simp
theorem w_nsub (t s : Nat) : (((t &&& s : Nat) : Int) != (t : Int)) = !sub t s := by
  unfold bne sub; rw [castBeq]
/-- the sets below N that contain none of l -/
def apart (l : List Nat) (N s : Nat) : Bool := decide (s < N) && !l.any (sub · s)
/-- the sets below N that meet all of l -/
def meets (l : List Nat) (N s : Nat) : Bool := decide (s < N) && l.all fun g => s &&& g != 0

set_option maxHeartbeats 1000000 in
theorem l7From_any (m : Nat) (a : Option Addr) (n c : Nat) (l : List Nat) (w : World) (h : IntsAt w a n (up l)) (hm : m ≤ 6) (hl : ∀ t ∈ l, t < 64) :
    Calls Tryz.prog 91 #[.int .i64 m, .slice a n c] w (RetBox w m (up (maxL (apart l (2 ^ m))))) := by
  have hm8 : m < 8 := by omega
  have hn := h.small
  have hlen : l.length = n := by rw [← h.len, up_len]
  have Hlen := Lib.hid hlen; clear hlen
  have Hl := Lib.hid hl; clear hl
  have hx : IntsAt (w.alloc (.cells #[.int .i64 0, .slice none 0 0] 32)) a n (up l) := h.keep (by repeat (first | exact Below.refl _ _ | assumption | refine Below.setCell ?_ (by first | omega | (simp; done) | (simp; omega)) _ | refine Below.alloc ?_ (by first | omega | (simp; done) | (simp; omega)) _ | apply Below.drew))
  have Hx := Lib.hid hx; clear hx h
  obtain ⟨N, hN⟩ : ∃ N, N = 2 ^ m := ⟨_, rfl⟩
  have hN64 : N ≤ 64 := by rw [hN]; exact pow_le64 hm
  have hNe : (2 : Int) ^ m = (N : Int) := by rw [hN]; norm_cast
  rw [← hN]
  have HN := Lib.hid hN; clear hN
  obtain ⟨q, hq⟩ : ∃ q : Nat → Bool, q = fun s => !l.any (sub · s) := ⟨_, rfl⟩
  have hL : maxL (apart l N) = maxL (lst q N).contains := maxL_congr fun s _ => by rw [lst_has, hq]; rfl
  rw [hL]
  have Hq := Lib.hid (show ∀ s, q s = !l.any (sub · s) from fun s => by rw [hq]); clear hq hL
  go_enter Tryz.func91, Tryz.ntmps91
  go_wp2_with fail
  go_loopw [5, 6] (fun s i wr => ∃ I : Nat, I ≤ N ∧ i = .int .i64 I ∧ Below (w.heap.size + 1) (w.alloc (.cells #[.int .i64 0, .slice none 0 0] 32)) wr ∧ ∃ ad k d, s = .slice ad k d ∧ k ≤ I ∧ Own 3 wr (w.heap.size + 1) ad k d (up (lst q I))) (fun _ i _ => N - (intOf i).toNat)
  case atStart => exact ⟨0, Nat.zero_le _, rfl, (by repeat (first | exact Below.refl _ _ | assumption | refine Below.setCell ?_ (by first | omega | (simp; done) | (simp; omega)) _ | refine Below.alloc ?_ (by first | omega | (simp; done) | (simp; omega)) _ | apply Below.drew)), _, 0, 0, rfl, Nat.le_refl _, by have := Own.empty 3 (w.alloc (.cells #[.int .i64 0, .slice none 0 0] 32)) (w.heap.size + 1) (by simp); simp only [World.size_alloc] at this; exact this⟩
  case round =>
    obtain ⟨wo, rfl⟩ : ∃ x : World, x = wr := ⟨_, rfl⟩
    obtain ⟨I, hI, rfl, hb, ad, k, d, rfl, hk, hown⟩ := hrel
    have hzr : w.heap.size + 1 ≤ wo.heap.size := by have := hb.size; simpa using this
    have HB := Lib.hid hb; have HO := Lib.hid hown
    have Hx2 := Lib.hid (Hx.out.keep (by simpa using hb))
    clear hb hown
    by_cases hlt : I < N
    · have hlt' : (I : Int) < 2 ^ m := by rw [hNe]; omega
      have hI64 : I < 64 := by omega
      go_wp2_with fail
      go_loopw [7, 8] (fun f j wi => ∃ J : Nat, J ≤ n ∧ j = .int .i64 J ∧ f = .bool (!(l.take J).any (sub · I)) ∧ Below wo.heap.size wo wi) (fun _ j _ => n - (intOf j).toNat)
      case atStart => exact ⟨0, Nat.zero_le _, rfl, by simp, Below.refl _ _⟩
      case round =>
        obtain ⟨J, hJ, rfl, rfl, hbi⟩ := hrel
        by_cases hjt : J < n
        · have Hx3 := Lib.hid (Hx2.out.keep hbi)
          obtain ⟨b1, o1, rfl, hc⟩ := Hx3.out.cells (by omega)
          have hck := hc J hjt
          rw [nth_up] at hck
          have hk0 : (0 : Int) ≤ J := by omega
          have hkn : (J : Int) < n := by omega
          have ht := Hl.out _ (nthN_mem (xs := l) (k := J) (by rw [Hlen.out]; exact hjt))
          have hnew := take_any (l := l) (f := (sub · I)) (J := J) (by rw [Hlen.out]; exact hjt)
          have hst := w_nsub (nthN l J) I
          obtain ⟨t, hte⟩ : ∃ t, t = nthN l J := ⟨_, rfl⟩
          rw [← hte] at hck ht hnew hst
          obtain ⟨sb, hsb⟩ : ∃ sb, sb = !sub t I := ⟨_, rfl⟩
          replace hnew : (!(l.take (J + 1)).any (sub · I)) = (!(l.take J).any (sub · I) && !sub t I) := by rw [hnew, Bool.not_or]
          rw [← hsb] at hnew hst
          obtain ⟨ob, hob⟩ : ∃ ob, ob = !(l.take J).any (sub · I) := ⟨_, rfl⟩
          rw [← hob] at hnew
          rw [← hob]
          have Hnew := Lib.hid hnew
          have HBI := Lib.hid hbi
          clear hc hte hsb hob hnew hbi
          cases ob
          · go_wp2_with fail
            go_quiet (fail)
            go_wp2_with fail
            go_roundw
            case rel => exact ⟨J + 1, by omega, by go_num, by rw [Hnew.out]; rfl, below_drewN HBI.out _⟩
            case measure => simp [intOf]; omega
          · cases sb
            · go_wp2_with fail
              go_quiet (fail)
              go_wp2_with fail
              go_roundw
              case rel => exact ⟨J + 1, by omega, by go_num, by rw [Hnew.out]; rfl, below_drewN HBI.out _⟩
              case measure => simp [intOf]; omega
            · go_wp2_with fail
              go_quiet (fail)
              go_wp2_with fail
              go_roundw
              case rel => exact ⟨J + 1, by omega, by go_num, by rw [Hnew.out]; rfl, below_drewN HBI.out _⟩
              case measure => simp [intOf]; omega
        · obtain rfl : J = n := by omega
          have hjj : ¬ ((J : Int) < J) := by omega
          have HO2 := Lib.hid (HO.out.keep hbi)
          have HB2 := Lib.hid (HB.out.trans (hbi.mono hzr))
          have hzi : w.heap.size + 1 ≤ wr.heap.size := by have := hbi.size; omega
          rw [← Hlen.out, List.take_length, ← Hq.out I, Hlen.out]
          clear hbi
          cases hqI : q I
          · have HqI := Lib.hid hqI; clear hqI
            go_wp2_with fail
            go_roundw
            case rel => exact ⟨I + 1, by omega, by go_num, HB2.out, ad, k, d, rfl, by omega, by rw [lst_no HqI.out]; exact HO2.out⟩
            case measure => simp [intOf]; omega
          · have HqI := Lib.hid hqI; clear hqI
            go_wp2_with (at_builtin; refine ap rfl _ _ rfl (w.heap.size + 1) _ _ _ _ _ rfl HO2.out rfl (by omega) hzi ?_; intro ad' d' w' hown' hb'; have HO3 := Lib.hid hown'; have HB3 := Lib.hid hb'; clear hown' hb')
            go_roundw
            case rel => exact ⟨I + 1, by omega, by go_num, HB2.out.trans HB3.out, ad', k + 1, d', rfl, by omega, by rw [lst_yes HqI.out, up_append]; exact HO3.out⟩
            case measure => simp [intOf]; omega
    · obtain rfl : I = N := by omega
      have hii : ¬ ((I : Int) < 2 ^ m) := by rw [hNe]; omega
      have hl64 : ∀ s ∈ lst q I, s < 64 := fun s hs => by have := (mem_lst.1 hs).1; omega
      have Hl64 := Lib.hid hl64; clear hl64
      go_wp2_with fail
      refine (l3Make_any m ad k d (lst q I) _ HO.out.reads Hl64.out).mono ?_
      rintro e w1 ⟨ad1, m1, d1, rfl, hown, hb⟩
      have hbl := HB.out.trans (hb.mono hzr)
      obtain ⟨hc, hf⟩ := bcell hbl
      have hz : w.heap.size + 1 ≤ w1.heap.size := by have := hb.size; omega
      have hbw : Below w.heap.size w w1 := box_below hbl
      have ho : Own 3 w1 (w.heap.size + 1) ad1 m1 d1 _ := hown.mono hzr
      clear hb hown
      go_wp2_with fail
      refine bodyPost_ret (v := .agg #[.int .i64 m, .slice ad1 m1 d1]) (by simp [results, Tryz.results91, go_sem, hc, hz]) rfl ⟨ad1, m1, d1, rfl, ?_, (by repeat (first | exact Below.refl _ _ | assumption | refine Below.setCell ?_ (by first | omega | (simp; done) | (simp; omega)) _ | refine Below.alloc ?_ (by first | omega | (simp; done) | (simp; omega)) _ | apply Below.drew))⟩
      exact ((ho.setBelow _ (by omega)).setBelow _ (by omega)).mono (by omega)

set_option maxHeartbeats 1000000 in
theorem l8Covers_any (m : Nat) (a : Option Addr) (n c : Nat) (l : List Nat) (w : World) (h : IntsAt w a n (up l)) (hm : m ≤ 6) (hl : ∀ t ∈ l, t < 64) :
    Calls Tryz.prog 103 #[.int .i64 m, .slice a n c] w (RetInts w (up (minL (meets l (2 ^ m))))) := by
  have hm8 : m < 8 := by omega
  have hn := h.small
  have hlen : l.length = n := by rw [← h.len, up_len]
  have Hlen := Lib.hid hlen; clear hlen
  have Hl := Lib.hid hl; clear hl
  have Hx := Lib.hid h; clear h
  obtain ⟨N, hN⟩ : ∃ N, N = 2 ^ m := ⟨_, rfl⟩
  have hN64 : N ≤ 64 := by rw [hN]; exact pow_le64 hm
  have hNe : (2 : Int) ^ m = (N : Int) := by rw [hN]; norm_cast
  rw [← hN]
  have HN := Lib.hid hN; clear hN
  obtain ⟨q, hq⟩ : ∃ q : Nat → Bool, q = fun s => l.all fun g => s &&& g != 0 := ⟨_, rfl⟩
  have hL : minL (meets l N) = minL (lst q N).contains := minL_congr fun s _ => by rw [lst_has, hq]; rfl
  rw [hL]
  have Hq := Lib.hid (show ∀ s, q s = l.all fun g => s &&& g != 0 from fun s => by rw [hq]); clear hq hL
  go_enter Tryz.func103, Tryz.ntmps103
  go_wp2_with fail
  go_loopw [5, 6] (fun s i wr => ∃ I : Nat, I ≤ N ∧ i = .int .i64 I ∧ Below w.heap.size w wr ∧ ∃ ad k d, s = .slice ad k d ∧ k ≤ I ∧ Own 3 wr w.heap.size ad k d (up (lst q I))) (fun _ i _ => N - (intOf i).toNat)
  case atStart => exact ⟨0, Nat.zero_le _, rfl, (by repeat (first | exact Below.refl _ _ | assumption | refine Below.setCell ?_ (by first | omega | (simp; done) | (simp; omega)) _ | refine Below.alloc ?_ (by first | omega | (simp; done) | (simp; omega)) _ | apply Below.drew)), _, 0, 0, rfl, Nat.le_refl _, Own.empty _ _ _ (by first | exact Nat.le_refl _ | simp)⟩
  case round =>
    obtain ⟨I, hI, rfl, hb, ad, k, d, rfl, hk, hown⟩ := hrel
    have hzr : w.heap.size ≤ wr.heap.size := hb.size
    have HB := Lib.hid hb; have HO := Lib.hid hown
    have Hx2 := Lib.hid (Hx.out.keep hb)
    clear hb hown
    by_cases hlt : I < N
    · have hlt' : (I : Int) < 2 ^ m := by rw [hNe]; omega
      have hI64 : I < 64 := by omega
      go_wp2_with fail
      go_loop [7, 8] (fun f j => ∃ J : Nat, J ≤ n ∧ j = .int .i64 J ∧ f = .bool ((l.take J).all fun g => I &&& g != 0)) (fun _ j => n - (intOf j).toNat)
      case atStart => exact ⟨0, Nat.zero_le _, rfl, by simp⟩
      case round =>
        obtain ⟨J, hJ, rfl, rfl⟩ := hrel
        by_cases hjt : J < n
        · obtain ⟨b1, o1, rfl, hc⟩ := Hx2.out.cells (by omega)
          have hck := hc J hjt
          rw [nth_up] at hck
          have hk0 : (0 : Int) ≤ J := by omega
          have hkn : (J : Int) < n := by omega
          have ht := Hl.out _ (nthN_mem (xs := l) (k := J) (by rw [Hlen.out]; exact hjt))
          have hnew := take_all (l := l) (f := fun g => I &&& g != 0) (J := J) (by rw [Hlen.out]; exact hjt)
          obtain ⟨t, hte⟩ : ∃ t, t = nthN l J := ⟨_, rfl⟩
          rw [← hte] at hck ht hnew
          have hst : (((I &&& t : Nat) : Int) != 0) = (I &&& t != 0) := by unfold bne; rw [show (0 : Int) = ((0 : Nat) : Int) from rfl, castBeq]
          obtain ⟨sb, hsb⟩ : ∃ sb, sb = (I &&& t != 0) := ⟨_, rfl⟩
          try simp only [] at hnew
          rw [← hsb] at hnew hst
          obtain ⟨ob, hob⟩ : ∃ ob, ob = (l.take J).all fun g => I &&& g != 0 := ⟨_, rfl⟩
          rw [← hob] at hnew
          rw [← hob]
          have Hnew := Lib.hid hnew
          clear hc hte hsb hob hnew
          cases ob
          · go_wp2_with fail
            go_round
            case rel => exact ⟨J + 1, by omega, by go_num, by rw [Hnew.out]; rfl⟩
            case measure => simp [intOf]; omega
          · cases sb
            · go_wp2_with fail
              go_round
              case rel => exact ⟨J + 1, by omega, by go_num, by rw [Hnew.out]; rfl⟩
              case measure => simp [intOf]; omega
            · go_wp2_with fail
              go_round
              case rel => exact ⟨J + 1, by omega, by go_num, by rw [Hnew.out]; rfl⟩
              case measure => simp [intOf]; omega
        · obtain rfl : J = n := by omega
          have hjj : ¬ ((J : Int) < J) := by omega
          rw [← Hlen.out, List.take_length, ← Hq.out I, Hlen.out]
          cases hqI : q I
          · have HqI := Lib.hid hqI; clear hqI
            go_wp2_with fail
            go_roundw
            case rel => exact ⟨I + 1, by omega, by go_num, HB.out, ad, k, d, rfl, by omega, by rw [lst_no HqI.out]; exact HO.out⟩
            case measure => simp [intOf]; omega
          · have HqI := Lib.hid hqI; clear hqI
            go_wp2_with (at_builtin; refine ap rfl _ _ rfl w.heap.size _ _ _ _ _ rfl HO.out rfl (by omega) hzr ?_; intro ad' d' w' hown' hb'; have HO3 := Lib.hid hown'; have HB3 := Lib.hid hb'; clear hown' hb')
            go_roundw
            case rel => exact ⟨I + 1, by omega, by go_num, HB.out.trans HB3.out, ad', k + 1, d', rfl, by omega, by rw [lst_yes HqI.out, up_append]; exact HO3.out⟩
            case measure => simp [intOf]; omega
    · obtain rfl : I = N := by omega
      have hii : ¬ ((I : Int) < 2 ^ m) := by rw [hNe]; omega
      have hl64 : ∀ s ∈ lst q I, s < 64 := fun s hs => by have := (mem_lst.1 hs).1; omega
      have Hl64 := Lib.hid hl64; clear hl64
      go_wp2_with fail
      refine (l2Extreme_any ad k d (lst q I) false _ HO.out.reads Hl64.out).mono ?_
      rintro e w1 ⟨ad1, m1, d1, rfl, hown, hb⟩
      have HB5 := Lib.hid hb; have HO5 := Lib.hid hown
      clear hb hown
      go_wp2_with fail
      go_ret
      exact ⟨ad1, m1, d1, rfl, HO5.out.mono hzr, HB.out.trans (HB5.out.mono hzr)⟩
end Go.Proofs.YtihfhfihladlcaaGreatDoor

/- Contracts of isPairwise, l27Joined and IsChordal, the program's and the reference's. -/
namespace Go.Proofs.YtihfhfihladlcaaGreatDoor
set_option maxRecDepth 20000
open Go.RowKit
set_option linter.unusedSimpArgs false
set_option linter.unusedVariables false

theorem find_at {l : List Nat} {p : Nat → Bool} {J : Nat} (hJ : J < l.length) (h0 : ∀ j, j < J → p (nthN l j) = false) (h1 : p (nthN l J) = true) : l.find? p = some (nthN l J) := by
  rw [List.find?_eq_some_iff_getElem]
  refine ⟨h1, J, hJ, nthN_eq hJ |>.symm, fun j hj => ?_⟩
  have := h0 j hj
  rw [nthN_eq (by omega)] at this
  simp [this]
theorem find_none {l : List Nat} {p : Nat → Bool} (h0 : ∀ j, j < l.length → p (nthN l j) = false) : l.find? p = none := by
  rw [List.find?_eq_none]
  intro x hx
  obtain ⟨j, hj, rfl⟩ := List.mem_iff_getElem.1 hx
  have := h0 j hj
  rw [nthN_eq hj] at this
  simp [this]

/-- the points may be taken away, one by one -/
def chordW (good : Nat → Nat → Bool) : Nat → Nat → Bool
  | 0, _ => true
  | f + 1, left => if left = 0 then true else ((pts left).find? (good left)).elim false fun i => chordW good f (sdiff left (2 ^ i))
theorem sdiff_less : ∀ x : Nat, x < 64 → ∀ i : Nat, i < 6 → x.testBit i = true → sdiff x (2 ^ i) < x := by decide +kernel
theorem find_pts (good : Nat → Bool) (left : Nat) : (pts left).find? good = (List.range 6).find? fun i => left.testBit i && good i := by
  unfold pts ptsTo
  rw [List.find?_filter]
  congr 1
  funext i
  cases left.testBit i <;> cases good i <;> rfl
/-- the same for the points below m -/
theorem find_range {good : Nat → Bool} {left m : Nat} (hm : m ≤ 6) (hl : left < 2 ^ m) : ((List.range m).find? fun i => left.testBit i && good i) = (pts left).find? good := by
  rw [find_pts]
  have e : List.range 6 = List.range m ++ (List.range (6 - m)).map (m + ·) := by
    rw [← List.range_add]; congr 1; omega
  rw [e, List.find?_append]
  have : ((List.range (6 - m)).map (m + ·)).find? (fun i => left.testBit i && good i) = none := by
    rw [List.find?_eq_none]
    intro x hx
    obtain ⟨i, _, rfl⟩ := List.mem_map.1 hx
    have : left.testBit (m + i) = false := Nat.testBit_lt_two_pow (Nat.lt_of_lt_of_le hl (Nat.pow_le_pow_right (by omega) (by omega)))
    simp [this]
  rw [this]; simp
theorem scan_succ (p : Nat → Bool) (I : Nat) (h : (List.range I).find? p = none) : (List.range (I + 1)).find? p = if p I then some I else none := by
  rw [List.range_succ, List.find?_append, h]
  simp [List.find?_cons]
  cases p I <;> rfl

theorem isPairwise_any (s : Nat) (a : Option Addr) (n c : Nat) (nl : List Nat) (w : World) (h : IntsAt w a n (up nl)) (hs : s < 64) (hn : ∀ i, i < 6 → s.testBit i = true → i < n) (hl : ∀ t ∈ nl, t < 64) (b : Bool) (hb : pairB (nthN nl) s = b) :
    Calls Tryz.prog 119 #[.int .i64 s, .slice a n c] w fun e w' => e = .returned (.bool b) ∧ Below w.heap.size w w' := by
  have hsm := h.small
  have hlen : nl.length = n := by rw [← h.len, up_len]
  have Hlen := Lib.hid hlen; clear hlen
  have Hx := Lib.hid h; have Hn := Lib.hid hn; have Hl := Lib.hid hl; have Hb := Lib.hid hb
  clear h hn hl hb
  go_enter Tryz.func119, Tryz.ntmps119
  go_wp2_with fail
  refine (PointsOf_any s _ hs).mono ?_
  rintro e w1 ⟨ad, m, d, rfl, hown, hb⟩
  have HB := Lib.hid hb
  have Hx1 := Lib.hid (Hx.out.keep hb)
  obtain ⟨P, hP⟩ : ∃ P, P = pts s := ⟨_, rfl⟩
  rw [← hP] at hown
  have HP := Lib.hid hP
  have HO := Lib.hid hown
  have hPl : P.length = m := by have := hown.len; rwa [up_len] at this
  have hm6 : m ≤ 6 := by rw [← hPl, hP]; exact ptsTo_len _ _
  have HPl := Lib.hid hPl
  clear hb hown hP hPl
  go_wp2_with fail
  go_loop [6, 10] (fun _ i => ∃ k : Nat, k ≤ m ∧ i = .int .i64 k ∧ Hid (∀ j, j < k → sub s (nthN nl (nthN P j) ||| 2 ^ nthN P j) = true)) (fun _ i => m - (intOf i).toNat)
  case atStart => exact ⟨0, Nat.zero_le _, rfl, Lib.hid fun j hj => absurd hj (Nat.not_lt_zero _)⟩
  case round =>
    obtain ⟨k, hk, rfl, hok⟩ := hrel
    by_cases hlt : k < m
    · obtain ⟨b1, o1, rfl, hc⟩ := HO.out.reads.cells (by omega)
      have hck := hc k hlt
      rw [nth_up] at hck
      have hmem : nthN P k ∈ P := nthN_mem (by rw [HPl.out]; exact hlt)
      rw [HP.out] at hmem
      obtain ⟨hi6, hib⟩ := mem_pts.1 hmem
      rw [← HP.out] at hi6 hib
      obtain ⟨i, hie⟩ : ∃ i, i = nthN P k := ⟨_, rfl⟩
      rw [← hie] at hck hi6 hib
      have Hie := Lib.hid hie
      have hin := Hn.out i hi6 hib
      obtain ⟨b2, o2, rfl, hc2⟩ := Hx1.out.cells (by omega)
      have hci := hc2 i hin
      rw [nth_up] at hci
      have hu := Hl.out _ (nthN_mem (xs := nl) (k := i) (by rw [Hlen.out]; exact hin))
      obtain ⟨u, hue⟩ : ∃ u, u = nthN nl i := ⟨_, rfl⟩
      rw [← hue] at hci hu
      have Hue := Lib.hid hue
      have hor := w_or6bit u i hu hi6
      have hshl := w_shl6 i (by omega)
      have hub : u ||| 2 ^ i < 64 := or_lt64 hu (bit_lt64 hi6)
      have hand := w_andNot s (u ||| 2 ^ i) hs hub
      have hz := sdiff_zero hs hub
      clear hc hc2 hie hue hmem hib
      have hk0 : (0 : Int) ≤ i := by omega
      have hkn : (i : Int) < n := by omega
      cases hst : (((sdiff s (u ||| 2 ^ i) : Nat) : Int) == 0)
      · have hst' : (((sdiff s (u ||| 2 ^ i) : Nat) : Int) != 0) = true := by unfold bne; rw [hst]; rfl
        have hbf : b = false := by
          rw [← Hb.out]
          unfold pairB
          rw [List.all_eq_false]
          refine ⟨i, by rw [← HP.out, Hie.out]; exact nthN_mem (by rw [HPl.out]; exact hlt), ?_⟩
          rw [← Hue.out, ← hz, hst]; simp
        subst hbf
        go_wp2_with fail
        go_ret
        exact ⟨rfl, HB.out⟩
      · have hst' : (((sdiff s (u ||| 2 ^ i) : Nat) : Int) != 0) = false := by unfold bne; rw [hst]; rfl
        have Hst := Lib.hid hst
        go_wp2_with fail
        go_round
        case rel =>
          refine ⟨k + 1, by omega, by go_num, Lib.hid fun j hj => ?_⟩
          rcases Nat.lt_or_ge j k with h | h
          · exact hok.out j h
          · obtain rfl : j = k := by omega
            rw [← Hie.out, ← Hue.out, ← hz]; exact Hst.out
        case measure => simp [intOf]; omega
    · obtain rfl : k = m := by omega
      have hbt : b = true := by
        rw [← Hb.out]
        unfold pairB
        rw [List.all_eq_true]
        intro x hx
        rw [← HP.out] at hx
        obtain ⟨j, hj, rfl⟩ := List.mem_iff_getElem.1 hx
        have := hok.out j (by rw [← HPl.out]; exact hj)
        rwa [nthN_eq hj] at this
      subst hbt
      go_wp2_with fail
      go_ret
      exact ⟨rfl, HB.out⟩

end Go.Proofs.YtihfhfihladlcaaGreatDoor

/- Contracts of IsChordal, the program's and the reference's. -/
namespace Go.Proofs.YtihfhfihladlcaaGreatDoor
set_option maxRecDepth 20000
open Go.RowKit
set_option linter.unusedSimpArgs false
set_option linter.unusedVariables false

/-- the neighbours of i among the points left are joined -/
def gd (l : List Nat) (left i : Nat) : Bool := pairB (nbs l) (nbs l i &&& left)
theorem nbTo_all (l : List Nat) (i : Nat) : nbTo l i l.length = nbs l i := by unfold nbTo nbs; rw [List.take_length]
theorem nbs_lt {l : List Nat} (hl : ∀ t ∈ l, t < 64) (i : Nat) : nbs l i < 64 := by rw [← nbTo_all]; exact nbTo_lt hl i _ (Nat.le_refl _)
theorem bit_lt {s m i : Nat} (hs : s < 2 ^ m) (h : s.testBit i = true) : i < m := by
  rcases Nat.lt_or_ge i m with h' | h'
  · exact h'
  · rw [Nat.testBit_lt_two_pow (Nat.lt_of_lt_of_le hs (Nat.pow_le_pow_right (by omega) h'))] at h; cases h
/-- the table of the neighbours -/
def nbRow (l : List Nat) (m : Nat) : List Nat := (List.range m).map fun j => nbTo l j l.length
theorem nbRow_at {l : List Nat} {m i : Nat} (hi : i < m) : nthN (nbRow l m) i = nbs l i := by
  unfold nbRow
  rw [nthN_eq (by simpa using hi)]
  simp [nbTo_all]
theorem pairB_row {l : List Nat} {m s : Nat} (hs : s < 2 ^ m) : pairB (nthN (nbRow l m)) s = pairB (nbs l) s := by
  unfold pairB
  rw [Bool.eq_iff_iff, List.all_eq_true, List.all_eq_true]
  constructor
  · intro h i hi
    have := h i hi
    rwa [nbRow_at (bit_lt hs (mem_pts.1 hi).2)] at this
  · intro h i hi
    have := h i hi
    rwa [nbRow_at (bit_lt hs (mem_pts.1 hi).2)]


end Go.Proofs.YtihfhfihladlcaaGreatDoor

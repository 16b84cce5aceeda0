/- Texts of this claim, one behind the other: what each says stands at its head. -/
import Derived.Test.YtihfhfihladlcaaGreatDoorAnti
import Derived.Test.YtihfhfihladlcaaGreatDoorCore
/- Contracts of InIdeal and what it calls, the program's and the reference's. -/
namespace Go.Proofs.YtihfhfihladlcaaGreatDoor
set_option maxRecDepth 20000
open Go.RowKit
set_option linter.unusedSimpArgs false

theorem any_no {l : List Nat} {f : Nat → Bool} (h : ∀ j, j < l.length → f (nthN l j) = false) : l.any f = false := by
  rw [List.any_eq_false]
  intro x hx
  obtain ⟨i, hi, rfl⟩ := List.mem_iff_getElem.1 hx
  have := h i hi
  rw [nthN_eq hi] at this
  simp [this]
theorem any_yes {l : List Nat} {f : Nat → Bool} {j : Nat} (hj : j < l.length) (h : f (nthN l j) = true) : l.any f = true :=
  List.any_eq_true.2 ⟨_, nthN_mem hj, h⟩

theorem iAvoids_any (s : Nat) (a : Option Addr) (n c : Nat) (l : List Nat) (w : World) (h : IntsAt w a n (up l)) (hs : s < 64) (hl : ∀ t ∈ l, t < 64) (b : Bool) (hb : l.any (sub · s) = b) :
    Calls Tryz.prog 96 #[.int .i64 s, .slice a n c] w fun e w' => e = .returned (.bool (!b)) ∧ w = w' := by
  have hn := h.small
  have hlen : l.length = n := by rw [← h.len, up_len]
  have Hlen := Lib.hid hlen; clear hlen
  have Hl := Lib.hid hl; clear hl
  have Hb := Lib.hid hb; clear hb
  have Hh := Lib.hid h; clear h
  go_enter Tryz.func96, Tryz.ntmps96
  go_wp2_with fail
  go_loop [6, 9] (fun _ i => ∃ k : Nat, k ≤ n ∧ i = .int .i64 k ∧ Hid (∀ j, j < k → sub (nthN l j) s = false)) (fun _ i => n - (intOf i).toNat)
  case atStart => exact ⟨0, Nat.zero_le _, rfl, Lib.hid fun j hj => absurd hj (Nat.not_lt_zero _)⟩
  case round =>
    obtain ⟨k, hk, rfl, hok⟩ := hrel
    by_cases hlt : k < n
    · obtain ⟨b1, o1, rfl, hc⟩ := Hh.out.cells (by omega)
      have hck := hc k hlt
      rw [nth_up] at hck
      have ht := Hl.out _ (nthN_mem (xs := l) (k := k) (by rw [Hlen.out]; exact hlt))
      obtain ⟨t, hte⟩ : ∃ t, t = nthN l k := ⟨_, rfl⟩
      rw [← hte] at hck ht
      have Hte := Lib.hid hte
      clear hc hte
      cases hst : (((sdiff t s : Nat) : Int) == 0)
      · go_wp2_with fail
        go_round
        case rel =>
          refine ⟨k + 1, by omega, by go_num, Lib.hid fun j hj => ?_⟩
          rcases Nat.lt_or_ge j k with h | h
          · exact hok.out j h
          · obtain rfl : j = k := by omega
            rw [← Hte.out, ← sdiff_zero ht hs]; exact hst
        case measure => simp [intOf]; omega
      · have hbt : b = true := by
          rw [← Hb.out]; exact any_yes (j := k) (by rw [Hlen.out]; exact hlt) (by rw [← Hte.out, ← sdiff_zero ht hs]; exact hst)
        subst hbt
        go_wp2_with fail
        go_ret
        exact ⟨rfl, rfl⟩
    · obtain rfl : k = n := by omega
      have hbt : b = false := by rw [← Hb.out]; exact any_no fun j hj => hok.out j (by rw [← Hlen.out]; exact hj)
      subst hbt
      go_wp2_with fail
      go_ret
      exact ⟨rfl, rfl⟩


/-- what InIdeal asks -/
def InP (p : Int) (xs : List Int) (s : Int) : Prop := Anti p xs ∧ isSetB p s = true ∧ (xs.map Int.toNat).any (sub · s.toNat) = true
theorem in_dec (p : Int) (xs : List Int) (s : Int) : ∃ b : Bool, b = true ↔ InP p xs s := by
  by_cases h : InP p xs s
  · exact ⟨true, by simp [h]⟩
  · exact ⟨false, by simp [h]⟩
theorem up_toNat (l : List Nat) : (up l).map Int.toNat = l := by
  unfold up; rw [List.map_map]
  apply List.ext_getElem (by simp)
  intro i h1 h2
  simp
/-- the three ways InIdeal goes -/
theorem in_ways {p : Int} {xs : List Int} {s : Int} {b : Bool} (hb : b = true ↔ InP p xs s) :
    (¬ Anti p xs ∧ b = false) ∨ (Anti p xs ∧ isSetB p s = false ∧ b = false) ∨ (Anti p xs ∧ isSetB p s = true ∧ ∃ (l : List Nat) (t : Nat), xs = up l ∧ s = t ∧ t < 64 ∧ (∀ u ∈ l, u < 64) ∧ l.any (sub · t) = b) := by
  by_cases h1 : Anti p xs
  · cases h2 : isSetB p s
    · refine .inr (.inl ⟨h1, rfl, ?_⟩)
      cases b
      · rfl
      · have := (hb.1 rfl).2.1; rw [h2] at this; cases this
    · obtain ⟨l, hx, hl, _⟩ := h1.nat
      obtain ⟨t, ht, ht64⟩ := isSet_lt h2
      refine .inr (.inr ⟨h1, rfl, l, t, hx, ht, ht64, fun u hu => (hl u hu).2, ?_⟩)
      have e : b = true ↔ l.any (sub · t) = true := by
        rw [hb]; unfold InP
        rw [hx, up_toNat, ht, Int.toNat_natCast]
        rw [ht] at h2
        rw [hx] at h1
        exact ⟨fun h => h.2.2, fun h => ⟨h1, h2, h⟩⟩
      rw [Bool.eq_iff_iff]; exact e.symm
  · refine .inl ⟨h1, ?_⟩
    cases b
    · rfl
    · exact absurd (hb.1 rfl).1 h1

set_option maxHeartbeats 1000000 in
theorem iInIdeal_any (p : Int) (a : Option Addr) (n c : Nat) (xs : List Int) (s : Int) (w : World) (h : IntsAt w a n xs) (hcap : n ≤ c) (b : Bool) (hb : b = true ↔ InP p xs s) :
    Calls Tryz.prog 35 #[.agg #[.int .i64 p, .slice a n c], .int .i64 s] w fun e w' => e = .returned (.bool b) ∧ Below w.heap.size w w' := by
  have hx : IntsAt (w.alloc (.cells #[.int .i64 p, .slice a n c] 26)) a n xs := h.keep (by repeat (first | exact Below.refl _ _ | assumption | refine Below.setCell ?_ (by first | omega | (simp; done) | (simp; omega)) _ | refine Below.alloc ?_ (by first | omega | (simp; done) | (simp; omega)) _ | apply Below.drew))
  have Hx := Lib.hid hx; clear hx h
  have Hcap := Lib.hid hcap; clear hcap
  rcases in_ways hb with ⟨h1, rfl⟩ | ⟨h1, h2, rfl⟩ | ⟨h1, h2, l, t, rfl, rfl, ht64, hl, hbb⟩
  · have H1 := Lib.hid h1; clear h1 hb
    go_enter Tryz.func35, Tryz.ntmps35
    go_wp2_with fail
    refine (iIsIdeal_any p a n c xs _ Hx.out Hcap.out false (by simp [H1.out])).mono ?_
    rintro e w1 ⟨rfl, hb⟩
    have HB : Hid (Below w.heap.size w w1) := Lib.hid (Below.trans (by repeat (first | exact Below.refl _ _ | assumption | refine Below.setCell ?_ (by first | omega | (simp; done) | (simp; omega)) _ | refine Below.alloc ?_ (by first | omega | (simp; done) | (simp; omega)) _ | apply Below.drew)) (hb.mono (by simp)))
    clear hb
    go_wp2_with fail
    go_ret
    exact ⟨rfl, HB.out⟩
  · have H1 := Lib.hid h1; clear h1 hb
    go_enter Tryz.func35, Tryz.ntmps35
    go_wp2_with fail
    refine (iIsIdeal_any p a n c xs _ Hx.out Hcap.out true (by simp [H1.out])).mono ?_
    rintro e w1 ⟨rfl, hb⟩
    obtain ⟨hc, hf⟩ := bcell hb
    have hz : w.heap.size + 1 ≤ w1.heap.size := by have := hb.size; simp at this; omega
    have HB : Hid (Below w.heap.size w w1) := Lib.hid (Below.trans (by repeat (first | exact Below.refl _ _ | assumption | refine Below.setCell ?_ (by first | omega | (simp; done) | (simp; omega)) _ | refine Below.alloc ?_ (by first | omega | (simp; done) | (simp; omega)) _ | apply Below.drew)) (hb.mono (by simp)))
    clear hb
    go_wp2_with (go_at_call 93; (with_reducible refine (IsSet_is _ _ _ _ h2).mono ?_); rintro e w' ⟨rfl, rfl⟩)
    go_ret
    exact ⟨rfl, HB.out⟩
  · have H1 := Lib.hid h1; clear h1 hb
    have Hl := Lib.hid hl; clear hl
    have Hbb := Lib.hid hbb; clear hbb
    go_enter Tryz.func35, Tryz.ntmps35
    go_wp2_with fail
    refine (iIsIdeal_any p a n c _ _ Hx.out Hcap.out true (by simp [H1.out])).mono ?_
    rintro e w1 ⟨rfl, hb⟩
    obtain ⟨hc, hf⟩ := bcell hb
    have hz : w.heap.size + 1 ≤ w1.heap.size := by have := hb.size; simp at this; omega
    have Hx1 := Lib.hid (Hx.out.keep hb)
    have HB : Hid (Below w.heap.size w w1) := Lib.hid (Below.trans (by repeat (first | exact Below.refl _ _ | assumption | refine Below.setCell ?_ (by first | omega | (simp; done) | (simp; omega)) _ | refine Below.alloc ?_ (by first | omega | (simp; done) | (simp; omega)) _ | apply Below.drew)) (hb.mono (by simp)))
    clear hb
    go_wp2_with (first | (go_at_call 93; (with_reducible refine (IsSet_is _ _ _ _ h2).mono ?_); rintro e w' ⟨rfl, rfl⟩) | (go_at_call 96; (with_reducible refine (iAvoids_any t a n c l _ Hx1.out ht64 Hl.out b Hbb.out).mono ?_); rintro e w' ⟨rfl, rfl⟩))
    go_ret
    exact ⟨ret_bool (by simp), HB.out⟩

end Go.Proofs.YtihfhfihladlcaaGreatDoor

/- Contracts of what makes complexes and ideals out of sets: areSetsOf, l3Make, l29Make, MakeComplex, MakeIdeal. -/
namespace Go.Proofs.YtihfhfihladlcaaGreatDoor
set_option maxRecDepth 20000
open Go.RowKit
set_option linter.unusedSimpArgs false

/-- what MakeComplex asks -/
def SetsOk (p : Int) (xs : List Int) : Prop := 1 ≤ p ∧ p ≤ 6 ∧ xs.length ≤ 64 ∧ ∀ i, i < xs.length → isSetB p (nth xs i) = true
theorem setsNo {p : Int} {xs : List Int} {b : Bool} (hb : b = true ↔ SetsOk p xs) (h : ¬ SetsOk p xs) : b = false := by
  cases b
  · rfl
  · exact absurd (hb.1 rfl) h
theorem SetsOk.nat {p : Int} {xs : List Int} (h : SetsOk p xs) : ∃ l : List Nat, xs = up l ∧ (∀ s ∈ l, s < 2 ^ p.toNat) ∧ ∀ s ∈ l, s < 64 := by
  have aux : ∀ s ∈ xs.map Int.toNat, s < 2 ^ p.toNat ∧ s < 64 := by
    intro s hs
    obtain ⟨x, hx, rfl⟩ := List.mem_map.1 hs
    obtain ⟨i, hi, rfl⟩ := List.mem_iff_getElem.1 hx
    obtain ⟨m, t, hm, ht, _, h2, h3⟩ := isSet_nat (h.2.2.2 i hi)
    rw [nth_eq hi] at ht
    rw [ht, hm]; simpa using ⟨h2, h3⟩
  refine ⟨xs.map Int.toNat, ?_, fun s hs => (aux s hs).1, fun s hs => (aux s hs).2⟩
  apply List.ext_getElem (by simp [up])
  intro i h1 h2
  obtain ⟨m, t, hm, ht, _⟩ := isSet_nat (h.2.2.2 i h1)
  rw [nth_eq h1] at ht
  simp [up]; omega

set_option maxHeartbeats 1000000 in
theorem areSets_any (p : Int) (a : Option Addr) (n c : Nat) (xs : List Int) (w : World) (h : IntsAt w a n xs) (b : Bool) (hb : b = true ↔ SetsOk p xs) :
    Calls Tryz.prog 98 #[.int .i64 p, .slice a n c] w fun e w' => e = .returned (.bool b) ∧ w = w' := by
  have hn := h.small
  have hlen := Lib.hid h.len
  have Hh := Lib.hid h; clear h
  have Hb := Lib.hid hb; clear hb
  by_cases h1 : p < 1
  · have hbf : b = false := setsNo Hb.out fun hP => by have := hP.1; omega
    subst hbf
    go_enter Tryz.func98, Tryz.ntmps98
    go_wp2
    go_ret
    exact ⟨rfl, rfl⟩
  by_cases h2 : 6 < p
  · have hbf : b = false := setsNo Hb.out fun hP => by have := hP.2.1; omega
    subst hbf
    go_enter Tryz.func98, Tryz.ntmps98
    go_wp2
    go_ret
    exact ⟨rfl, rfl⟩
  by_cases h3 : (64 : Int) < n
  · have hbf : b = false := setsNo Hb.out fun hP => by have := hP.2.2.1; have := hlen.out; omega
    subst hbf
    go_enter Tryz.func98, Tryz.ntmps98
    go_wp2
    go_ret
    exact ⟨rfl, rfl⟩
  go_enter Tryz.func98, Tryz.ntmps98
  go_wp2_with fail
  go_loop [6, 20] (fun _ i => ∃ k : Nat, k ≤ n ∧ i = .int .i64 k ∧ Hid (∀ j, j < k → isSetB p (nth xs j) = true)) (fun _ i => n - (intOf i).toNat)
  case atStart => exact ⟨0, Nat.zero_le _, rfl, Lib.hid fun j hj => absurd hj (Nat.not_lt_zero _)⟩
  case round =>
    obtain ⟨k, hk, rfl, hok⟩ := hrel
    by_cases hlt : k < n
    · obtain ⟨b1, o1, rfl, hc⟩ := Hh.out.cells (by omega)
      have hck := hc k hlt
      clear hc
      cases hs : isSetB p (nth xs k)
      · have hbf : b = false := setsNo Hb.out fun hP => by have := hP.2.2.2 k (by rw [hlen.out]; exact hlt); rw [hs] at this; cases this
        subst hbf
        go_wp2_with (go_at_call 93; (with_reducible refine (IsSet_is _ _ _ _ hs).mono ?_); rintro e w' ⟨rfl, rfl⟩)
        go_ret
        exact ⟨rfl, rfl⟩
      · have Hs := Lib.hid hs
        go_wp2_with (go_at_call 93; (with_reducible refine (IsSet_is _ _ _ _ hs).mono ?_); rintro e w' ⟨rfl, rfl⟩)
        go_round
        case rel =>
          refine ⟨k + 1, by omega, by go_num, Lib.hid fun j hj => ?_⟩
          rcases Nat.lt_or_ge j k with h | h
          · exact hok.out j h
          · obtain rfl : j = k := by omega
            exact Hs.out
        case measure => simp [intOf]; omega
    · obtain rfl : k = n := by omega
      have hbt : b = true := Hb.out.2 ⟨by omega, by omega, by rw [hlen.out]; omega, fun j hj => hok.out j (by rw [hlen.out] at hj; exact hj)⟩
      subst hbt
      go_wp2_with fail
      go_ret
      exact ⟨rfl, rfl⟩

theorem l29Make_any (p : Int) (a : Option Addr) (n c : Nat) (l : List Nat) (w : World) (h : IntsAt w a n (up l)) (hl : ∀ s ∈ l, s < 64) :
    Calls Tryz.prog 83 #[.int .i64 p, .slice a n c] w (RetBox w p (up (minL l.contains))) := by
  have hx : IntsAt (w.alloc (.cells #[.int .i64 0, .slice none 0 0] 26)) a n (up l) := h.keep (by repeat (first | exact Below.refl _ _ | assumption | refine Below.setCell ?_ (by first | omega | (simp; done) | (simp; omega)) _ | refine Below.alloc ?_ (by first | omega | (simp; done) | (simp; omega)) _ | apply Below.drew))
  have Hx := Lib.hid hx; clear hx h
  have Hl := Lib.hid hl; clear hl
  go_enter Tryz.func83, Tryz.ntmps83
  go_wp2_with fail
  refine (l2Extreme_any a n c l false _ Hx.out Hl.out).mono ?_
  rintro e w1 ⟨ad, m, d, rfl, hown, hb⟩
  obtain ⟨hc, hf⟩ := bcell hb
  have hz : w.heap.size + 1 ≤ w1.heap.size := by have := hb.size; simp at this; omega
  have hbl : Below w.heap.size w w1 := Below.trans (by repeat (first | exact Below.refl _ _ | assumption | refine Below.setCell ?_ (by first | omega | (simp; done) | (simp; omega)) _ | refine Below.alloc ?_ (by first | omega | (simp; done) | (simp; omega)) _ | apply Below.drew)) (hb.mono (by simp))
  have ho : Own 3 w1 (w.heap.size + 1) ad m d _ := hown.mono (by simp)
  go_wp2_with fail
  refine bodyPost_ret (v := .agg #[.int .i64 p, .slice ad m d]) (by simp [results, Tryz.results83, go_sem, hc, hz]) rfl ⟨ad, m, d, rfl, ?_, (by repeat (first | exact Below.refl _ _ | assumption | refine Below.setCell ?_ (by first | omega | (simp; done) | (simp; omega)) _ | refine Below.alloc ?_ (by first | omega | (simp; done) | (simp; omega)) _ | apply Below.drew))⟩
  exact ((ho.setBelow _ (by omega)).setBelow _ (by omega)).mono (by omega)
theorem l3Make_any (p : Int) (a : Option Addr) (n c : Nat) (l : List Nat) (w : World) (h : IntsAt w a n (up l)) (hl : ∀ s ∈ l, s < 64) :
    Calls Tryz.prog 121 #[.int .i64 p, .slice a n c] w (RetBox w p (up (maxL l.contains))) := by
  have hx : IntsAt (w.alloc (.cells #[.int .i64 0, .slice none 0 0] 32)) a n (up l) := h.keep (by repeat (first | exact Below.refl _ _ | assumption | refine Below.setCell ?_ (by first | omega | (simp; done) | (simp; omega)) _ | refine Below.alloc ?_ (by first | omega | (simp; done) | (simp; omega)) _ | apply Below.drew))
  have Hx := Lib.hid hx; clear hx h
  have Hl := Lib.hid hl; clear hl
  go_enter Tryz.func121, Tryz.ntmps121
  go_wp2_with fail
  refine (l2Extreme_any a n c l true _ Hx.out Hl.out).mono ?_
  rintro e w1 ⟨ad, m, d, rfl, hown, hb⟩
  obtain ⟨hc, hf⟩ := bcell hb
  have hz : w.heap.size + 1 ≤ w1.heap.size := by have := hb.size; simp at this; omega
  have hbl : Below w.heap.size w w1 := Below.trans (by repeat (first | exact Below.refl _ _ | assumption | refine Below.setCell ?_ (by first | omega | (simp; done) | (simp; omega)) _ | refine Below.alloc ?_ (by first | omega | (simp; done) | (simp; omega)) _ | apply Below.drew)) (hb.mono (by simp))
  have ho : Own 3 w1 (w.heap.size + 1) ad m d _ := hown.mono (by simp)
  go_wp2_with fail
  refine bodyPost_ret (v := .agg #[.int .i64 p, .slice ad m d]) (by simp [results, Tryz.results121, go_sem, hc, hz]) rfl ⟨ad, m, d, rfl, ?_, (by repeat (first | exact Below.refl _ _ | assumption | refine Below.setCell ?_ (by first | omega | (simp; done) | (simp; omega)) _ | refine Below.alloc ?_ (by first | omega | (simp; done) | (simp; omega)) _ | apply Below.drew))⟩
  exact ((ho.setBelow _ (by omega)).setBelow _ (by omega)).mono (by omega)

set_option maxHeartbeats 1000000 in
theorem sMakeComplex_no (p : Int) (a : Option Addr) (n c : Nat) (xs : List Int) (w : World) (h : IntsAt w a n xs) (hno : ¬ SetsOk p xs) :
    Calls Tryz.prog 100 #[.int .i64 p, .slice a n c] w (RetBox2 w 0 [] false) := by
  have hn := h.small
  have hlen := Lib.hid h.len
  have hx : IntsAt (w.alloc (.cells #[.int .i64 0, .slice none 0 0] 32)) a n xs := h.keep (by repeat (first | exact Below.refl _ _ | assumption | refine Below.setCell ?_ (by first | omega | (simp; done) | (simp; omega)) _ | refine Below.alloc ?_ (by first | omega | (simp; done) | (simp; omega)) _ | apply Below.drew))
  have Hh := Lib.hid hx; clear hx h
  have Hno := Lib.hid hno; clear hno
  go_enter Tryz.func100, Tryz.ntmps100
  go_wp2_with fail
  go_loop [6] (fun i => ∃ k : Nat, k ≤ n ∧ i = .int .i64 k ∧ Hid (∀ j, j < k → isSetB p (nth xs j) = true)) (fun i => n - (intOf i).toNat)
  case atStart => exact ⟨0, Nat.zero_le _, rfl, Lib.hid fun j hj => absurd hj (Nat.not_lt_zero _)⟩
  case round =>
    obtain ⟨k, hk, rfl, hok⟩ := hrel
    by_cases hlt : k < n
    · obtain ⟨b1, o1, rfl, hc⟩ := Hh.out.cells (by omega)
      have hck := hc k hlt
      clear hc
      cases hs : isSetB p (nth xs k)
      · go_wp2_with (go_at_call 36; (with_reducible refine (sIsSet_is _ _ _ _ hs).mono ?_); rintro e w' ⟨rfl, rfl⟩)
        refine bodyPost_ret (v := .tuple #[.agg #[.int .i64 0, .slice none 0 0], .bool false]) (by simp [results, Tryz.results100, go_sem]) rfl ⟨none, 0, 0, rfl, Own.nil _ _ _, (by repeat (first | exact Below.refl _ _ | assumption | refine Below.setCell ?_ (by first | omega | (simp; done) | (simp; omega)) _ | refine Below.alloc ?_ (by first | omega | (simp; done) | (simp; omega)) _ | apply Below.drew))⟩
      · have Hs := Lib.hid hs
        go_wp2_with (go_at_call 36; (with_reducible refine (sIsSet_is _ _ _ _ hs).mono ?_); rintro e w' ⟨rfl, rfl⟩)
        go_round
        case rel =>
          refine ⟨k + 1, by omega, by go_num, Lib.hid fun j hj => ?_⟩
          rcases Nat.lt_or_ge j k with h | h
          · exact hok.out j h
          · obtain rfl : j = k := by omega
            exact Hs.out
        case measure => simp [intOf]; omega
    · obtain rfl : k = n := by omega
      have hkk : ¬ ((k : Int) < k) := by omega
      by_cases hp : 1 ≤ p ∧ p ≤ 6
      · have h64 : (64 : Int) < k := by
          rcases Nat.lt_or_ge 64 k with h | h
          · omega
          · exact absurd ⟨hp.1, hp.2, by rw [hlen.out]; exact h, fun j hj => hok.out j (by rw [hlen.out] at hj; exact hj)⟩ Hno.out
        go_wp2_with (go_at_call 110; (with_reducible refine (l1In_yes p 1 6 _ hp.1 hp.2).mono ?_); rintro e w' ⟨rfl, rfl⟩)
        refine bodyPost_ret (v := .tuple #[.agg #[.int .i64 0, .slice none 0 0], .bool false]) (by simp [results, Tryz.results100, go_sem]) rfl ⟨none, 0, 0, rfl, Own.nil _ _ _, (by repeat (first | exact Below.refl _ _ | assumption | refine Below.setCell ?_ (by first | omega | (simp; done) | (simp; omega)) _ | refine Below.alloc ?_ (by first | omega | (simp; done) | (simp; omega)) _ | apply Below.drew))⟩
      · go_wp2_with (go_at_call 110; (with_reducible refine (l1In_no p 1 6 _ hp).mono ?_); rintro e w' ⟨rfl, rfl⟩)
        refine bodyPost_ret (v := .tuple #[.agg #[.int .i64 0, .slice none 0 0], .bool false]) (by simp [results, Tryz.results100, go_sem]) rfl ⟨none, 0, 0, rfl, Own.nil _ _ _, (by repeat (first | exact Below.refl _ _ | assumption | refine Below.setCell ?_ (by first | omega | (simp; done) | (simp; omega)) _ | refine Below.alloc ?_ (by first | omega | (simp; done) | (simp; omega)) _ | apply Below.drew))⟩
set_option maxHeartbeats 1000000 in
theorem sMakeComplex_yes (p : Int) (a : Option Addr) (n c : Nat) (l : List Nat) (w : World) (h : IntsAt w a n (up l)) (hl : ∀ s ∈ l, s < 64) (hok : SetsOk p (up l)) :
    Calls Tryz.prog 100 #[.int .i64 p, .slice a n c] w (RetBox2 w p (up (maxL l.contains)) true) := by
  have hn := h.small
  have hlen := Lib.hid h.len
  have hx : IntsAt (w.alloc (.cells #[.int .i64 0, .slice none 0 0] 32)) a n (up l) := h.keep (by repeat (first | exact Below.refl _ _ | assumption | refine Below.setCell ?_ (by first | omega | (simp; done) | (simp; omega)) _ | refine Below.alloc ?_ (by first | omega | (simp; done) | (simp; omega)) _ | apply Below.drew))
  have Hh := Lib.hid hx; clear hx h
  have Hok := Lib.hid hok
  have Hl := Lib.hid hl; clear hl
  have hp := hok.1; have hp6 := hok.2.1
  have h64 : ¬ (64 : Int) < n := by have := hok.2.2.1; rw [hlen.out] at this; omega
  clear hok
  go_enter Tryz.func100, Tryz.ntmps100
  go_wp2_with fail
  go_loop [6] (fun i => ∃ k : Nat, k ≤ n ∧ i = .int .i64 k) (fun i => n - (intOf i).toNat)
  case atStart => exact ⟨0, Nat.zero_le _, rfl⟩
  case round =>
    obtain ⟨k, hk, rfl⟩ := hrel
    by_cases hlt : k < n
    · obtain ⟨b1, o1, rfl, hc⟩ := Hh.out.cells (by omega)
      have hck := hc k hlt
      clear hc
      have hs := Hok.out.2.2.2 k (by rw [hlen.out]; exact hlt)
      go_wp2_with (go_at_call 36; (with_reducible refine (sIsSet_is _ _ _ _ hs).mono ?_); rintro e w' ⟨rfl, rfl⟩)
      go_round
      case rel => exact ⟨k + 1, by omega, by go_num⟩
      case measure => simp [intOf]; omega
    · obtain rfl : k = n := by omega
      have hkk : ¬ ((k : Int) < k) := by omega
      go_wp2_with (go_at_call 110; (with_reducible refine (l1In_yes p 1 6 _ hp hp6).mono ?_); rintro e w' ⟨rfl, rfl⟩)
      refine (l3Make_any p a k c l _ Hh.out Hl.out).mono ?_
      rintro e w1 ⟨ad, m, d, rfl, hown, hb⟩
      obtain ⟨hc, hf⟩ := bcell hb
      have hz : w.heap.size + 1 ≤ w1.heap.size := by have := hb.size; simp at this; omega
      have hbl : Below w.heap.size w w1 := Below.trans (by repeat (first | exact Below.refl _ _ | assumption | refine Below.setCell ?_ (by first | omega | (simp; done) | (simp; omega)) _ | refine Below.alloc ?_ (by first | omega | (simp; done) | (simp; omega)) _ | apply Below.drew)) (hb.mono (by simp))
      have ho : Own 3 w1 (w.heap.size + 1) ad m d _ := hown.mono (by simp)
      go_wp2_with fail
      refine bodyPost_ret (v := .tuple #[.agg #[.int .i64 p, .slice ad m d], .bool true]) (by simp [results, Tryz.results100, go_sem, hc, hz]) rfl ⟨ad, m, d, rfl, ?_, (by repeat (first | exact Below.refl _ _ | assumption | refine Below.setCell ?_ (by first | omega | (simp; done) | (simp; omega)) _ | refine Below.alloc ?_ (by first | omega | (simp; done) | (simp; omega)) _ | apply Below.drew))⟩
      exact ((ho.setBelow _ (by omega)).setBelow _ (by omega)).mono (by omega)

theorem iMakeIdeal_no (p : Int) (a : Option Addr) (n c : Nat) (xs : List Int) (w : World) (h : IntsAt w a n xs) (hno : ¬ SetsOk p xs) :
    Calls Tryz.prog 22 #[.int .i64 p, .slice a n c] w (RetBox2 w 0 [] false) := by
  have hx : IntsAt (w.alloc (.cells #[.int .i64 0, .slice none 0 0] 26)) a n xs := h.keep (by repeat (first | exact Below.refl _ _ | assumption | refine Below.setCell ?_ (by first | omega | (simp; done) | (simp; omega)) _ | refine Below.alloc ?_ (by first | omega | (simp; done) | (simp; omega)) _ | apply Below.drew))
  have Hh := Lib.hid hx; clear hx h
  have Hno := Lib.hid hno; clear hno
  go_enter Tryz.func22, Tryz.ntmps22
  go_wp2_with (go_at_call 98; (with_reducible refine (areSets_any p a n c xs _ Hh.out false (by simp [Hno.out])).mono ?_); rintro e w' ⟨rfl, rfl⟩)
  refine bodyPost_ret (v := .tuple #[.agg #[.int .i64 0, .slice none 0 0], .bool false]) (by simp [results, Tryz.results22, go_sem]) rfl ⟨none, 0, 0, rfl, Own.nil _ _ _, (by repeat (first | exact Below.refl _ _ | assumption | refine Below.setCell ?_ (by first | omega | (simp; done) | (simp; omega)) _ | refine Below.alloc ?_ (by first | omega | (simp; done) | (simp; omega)) _ | apply Below.drew))⟩
theorem iMakeIdeal_yes (p : Int) (a : Option Addr) (n c : Nat) (l : List Nat) (w : World) (h : IntsAt w a n (up l)) (hl : ∀ s ∈ l, s < 64) (hok : SetsOk p (up l)) :
    Calls Tryz.prog 22 #[.int .i64 p, .slice a n c] w (RetBox2 w p (up (minL l.contains)) true) := by
  have hx : IntsAt (w.alloc (.cells #[.int .i64 0, .slice none 0 0] 26)) a n (up l) := h.keep (by repeat (first | exact Below.refl _ _ | assumption | refine Below.setCell ?_ (by first | omega | (simp; done) | (simp; omega)) _ | refine Below.alloc ?_ (by first | omega | (simp; done) | (simp; omega)) _ | apply Below.drew))
  have Hh := Lib.hid hx; clear hx h
  have Hok := Lib.hid hok; clear hok
  have Hl := Lib.hid hl; clear hl
  go_enter Tryz.func22, Tryz.ntmps22
  go_wp2_with (go_at_call 98; (with_reducible refine (areSets_any p a n c _ _ Hh.out true (by simp [Hok.out])).mono ?_); rintro e w' ⟨rfl, rfl⟩)
  refine (MinimalSets_yes a n c l _ Hh.out Hl.out).mono ?_
  rintro e w1 ⟨ad, m, d, rfl, hown, hb⟩
  obtain ⟨hc, hf⟩ := bcell hb
  have hz : w.heap.size + 1 ≤ w1.heap.size := by have := hb.size; simp at this; omega
  have hbl : Below w.heap.size w w1 := Below.trans (by repeat (first | exact Below.refl _ _ | assumption | refine Below.setCell ?_ (by first | omega | (simp; done) | (simp; omega)) _ | refine Below.alloc ?_ (by first | omega | (simp; done) | (simp; omega)) _ | apply Below.drew)) (hb.mono (by simp))
  have ho : Own 3 w1 (w.heap.size + 1) ad m d _ := hown.mono (by simp)
  go_wp2_with fail
  refine bodyPost_ret (v := .tuple #[.agg #[.int .i64 p, .slice ad m d], .bool true]) (by simp [results, Tryz.results22, go_sem, hc, hz]) rfl ⟨ad, m, d, rfl, ?_, (by repeat (first | exact Below.refl _ _ | assumption | refine Below.setCell ?_ (by first | omega | (simp; done) | (simp; omega)) _ | refine Below.alloc ?_ (by first | omega | (simp; done) | (simp; omega)) _ | apply Below.drew))⟩
  exact ((ho.setBelow _ (by omega)).setBelow _ (by omega)).mono (by omega)

theorem sMakeIdeal_no (p : Int) (a : Option Addr) (n c : Nat) (xs : List Int) (w : World) (h : IntsAt w a n xs) (hno : ¬ SetsOk p xs) :
    Calls Tryz.prog 23 #[.int .i64 p, .slice a n c] w (RetBox2 w 0 [] false) := by
  have hx : IntsAt (w.alloc (.cells #[.int .i64 0, .slice none 0 0] 26)) a n xs := h.keep (by repeat (first | exact Below.refl _ _ | assumption | refine Below.setCell ?_ (by first | omega | (simp; done) | (simp; omega)) _ | refine Below.alloc ?_ (by first | omega | (simp; done) | (simp; omega)) _ | apply Below.drew))
  have Hh := Lib.hid hx; clear hx h
  have Hno := Lib.hid hno; clear hno
  go_enter Tryz.func23, Tryz.ntmps23
  go_wp2_with fail
  refine (sMakeComplex_no p a n c xs _ Hh.out Hno.out).mono ?_
  rintro e w1 ⟨ad, m, d, rfl, hown, hb⟩
  clear hown
  have xR := ((BoxF.new w (.int .i64 0) (.slice none 0 0) 26).keep hb (by simp)).alloc (.cells #[.int .i64 0, .slice ad m d] 32)
  obtain ⟨q0, q1, f0, f1, _⟩ := xR
  have hz : w.heap.size + 1 ≤ w1.heap.size := by have := hb.size; simp at this; omega
  have hbl : Below w.heap.size w w1 := Below.trans (by repeat (first | exact Below.refl _ _ | assumption | refine Below.setCell ?_ (by first | omega | (simp; done) | (simp; omega)) _ | refine Below.alloc ?_ (by first | omega | (simp; done) | (simp; omega)) _ | apply Below.drew)) (hb.mono (by simp))
  clear hb
  go_wp2_with fail
  refine bodyPost_ret (v := .tuple #[.agg #[.int .i64 0, .slice none 0 0], .bool false]) (by simp [results, Tryz.results23, go_sem, q0, q1]) rfl ⟨none, 0, 0, rfl, Own.nil _ _ _, (by repeat (first | exact Below.refl _ _ | assumption | refine Below.setCell ?_ (by first | omega | (simp; done) | (simp; omega)) _ | refine Below.alloc ?_ (by first | omega | (simp; done) | (simp; omega)) _ | apply Below.drew))⟩
theorem sMakeIdeal_yes (p : Int) (a : Option Addr) (n c : Nat) (l : List Nat) (w : World) (h : IntsAt w a n (up l)) (hl : ∀ s ∈ l, s < 64) (hok : SetsOk p (up l)) :
    Calls Tryz.prog 23 #[.int .i64 p, .slice a n c] w (RetBox2 w p (up (minL l.contains)) true) := by
  have hx : IntsAt (w.alloc (.cells #[.int .i64 0, .slice none 0 0] 26)) a n (up l) := h.keep (by repeat (first | exact Below.refl _ _ | assumption | refine Below.setCell ?_ (by first | omega | (simp; done) | (simp; omega)) _ | refine Below.alloc ?_ (by first | omega | (simp; done) | (simp; omega)) _ | apply Below.drew))
  have Hh := Lib.hid hx; clear hx h
  have Hok := Lib.hid hok; clear hok
  have Hl := Lib.hid hl; clear hl
  go_enter Tryz.func23, Tryz.ntmps23
  go_wp2_with fail
  refine (sMakeComplex_yes p a n c l _ Hh.out Hl.out Hok.out).mono ?_
  rintro e w1 ⟨ad, m, d, rfl, hown, hb⟩
  clear hown
  have xR1 := ((BoxF.new w (.int .i64 0) (.slice none 0 0) 26).keep hb (by simp)).alloc (.cells #[.int .i64 p, .slice ad m d] 32)
  have hz : w.heap.size + 1 ≤ w1.heap.size := by have := hb.size; simp at this; omega
  have hbl : Below w.heap.size w w1 := Below.trans (by repeat (first | exact Below.refl _ _ | assumption | refine Below.setCell ?_ (by first | omega | (simp; done) | (simp; omega)) _ | refine Below.alloc ?_ (by first | omega | (simp; done) | (simp; omega)) _ | apply Below.drew)) (hb.mono (by simp))
  have hx2 : IntsAt (w1.alloc (.cells #[.int .i64 p, .slice ad m d] 32)) a n (up l) := (Hh.out.keep hb).keep (by repeat (first | exact Below.refl _ _ | assumption | refine Below.setCell ?_ (by first | omega | (simp; done) | (simp; omega)) _ | refine Below.alloc ?_ (by first | omega | (simp; done) | (simp; omega)) _ | apply Below.drew))
  have Hh2 := Lib.hid hx2; clear hx2 hb
  go_wp2_with fail
  refine (l29Make_any p a n c l _ Hh2.out Hl.out).mono ?_
  rintro e w2 ⟨ad2, m2, d2, rfl, hown, hb⟩
  obtain ⟨q0, q1, f0, f1, _⟩ := xR1.keep hb (by simp; omega)
  have hz2 : w1.heap.size + 1 ≤ w2.heap.size := by have := hb.size; simp at this; omega
  have hbl2 : Below w.heap.size w w2 := hbl.trans (Below.trans (by repeat (first | exact Below.refl _ _ | assumption | refine Below.setCell ?_ (by first | omega | (simp; done) | (simp; omega)) _ | refine Below.alloc ?_ (by first | omega | (simp; done) | (simp; omega)) _ | apply Below.drew)) (hb.mono (by simp; omega)))
  clear xR1
  have ho : Own 3 w2 (w1.heap.size + 1) ad2 m2 d2 _ := hown.mono (by simp)
  clear hown hb
  go_wp2_with fail
  refine bodyPost_ret (v := .tuple #[.agg #[.int .i64 p, .slice ad2 m2 d2], .bool true]) (by simp [results, Tryz.results23, go_sem, q0, q1]) rfl ⟨ad2, m2, d2, rfl, ?_, (by repeat (first | exact Below.refl _ _ | assumption | refine Below.setCell ?_ (by first | omega | (simp; done) | (simp; omega)) _ | refine Below.alloc ?_ (by first | omega | (simp; done) | (simp; omega)) _ | apply Below.drew))⟩
  exact ((ho.setBelow _ (by omega)).setBelow _ (by omega)).mono (by omega)
end Go.Proofs.YtihfhfihladlcaaGreatDoor

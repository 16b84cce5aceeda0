/- Contracts of what makes complexes and ideals out of sets: areSetsOf, l3Make, l29Make, MakeComplex, MakeIdeal. -/
import Derived.Test.YtpoolkmcbeghjaaIdeal
import Derived.Test.YtpoolkmcbeghjaaHelpS
namespace Go.Proofs.Ytpoolkmcbeghjaa
set_option maxRecDepth 20000
open Go.RowKit
set_option linter.unusedSimpArgs false

/-- what MakeComplex asks -/
def SetsOk (p : Int) (xs : List Int) : Prop := 1 ≤ p ∧ p ≤ 6 ∧ xs.length ≤ 64 ∧ ∀ i, i < xs.length → isSetB p (nth xs i) = true
theorem setsNo {p : Int} {xs : List Int} {b : Bool} (hb : b = true ↔ SetsOk p xs) (h : ¬ SetsOk p xs) : b = false := by
  cases b
  · rfl
  · exact absurd (hb.1 rfl) h
theorem SetsOk.nat {p : Int} {xs : List Int} (h : SetsOk p xs) : ∃ l : List Nat, xs = up l ∧ (∀ s ∈ l, s < 2 ^ p.toNat) ∧ ∀ s ∈ l, s < 64 := by
  have aux : ∀ s ∈ xs.map Int.toNat, s < 2 ^ p.toNat ∧ s < 64 := by
    intro s hs
    obtain ⟨x, hx, rfl⟩ := List.mem_map.1 hs
    obtain ⟨i, hi, rfl⟩ := List.mem_iff_getElem.1 hx
    obtain ⟨m, t, hm, ht, _, h2, h3⟩ := isSet_nat (h.2.2.2 i hi)
    rw [nth_eq hi] at ht
    rw [ht, hm]; simpa using ⟨h2, h3⟩
  refine ⟨xs.map Int.toNat, ?_, fun s hs => (aux s hs).1, fun s hs => (aux s hs).2⟩
  apply List.ext_getElem (by simp [up])
  intro i h1 h2
  obtain ⟨m, t, hm, ht, _⟩ := isSet_nat (h.2.2.2 i h1)
  rw [nth_eq h1] at ht
  simp [up]; omega


theorem l3Make_any (p : Int) (a : Option Addr) (n c : Nat) (l : List Nat) (w : World) (h : IntsAt w a n (up l)) (hl : ∀ s ∈ l, s < 64) :
    Calls Try.prog 123 #[.int .i64 p, .slice a n c] w (RetBox w p (up (maxL l.contains))) := by
  have hx : IntsAt (w.alloc (.cells #[.int .i64 0, .slice none 0 0] 33)) a n (up l) := h.keep (by repeat (first | exact Below.refl _ _ | assumption | refine Below.setCell ?_ (by first | omega | (simp; done) | (simp; omega)) _ | refine Below.alloc ?_ (by first | omega | (simp; done) | (simp; omega)) _ | apply Below.drew))
  have Hx := Lib.hid hx; clear hx h
  have Hl := Lib.hid hl; clear hl
  go_enter Try.func123, Try.ntmps123
  go_wp2_with fail
  refine (l2Extreme_any a n c l true _ Hx.out Hl.out).mono ?_
  rintro e w1 ⟨ad, m, d, rfl, hown, hb⟩
  obtain ⟨hc, hf⟩ := bcell hb
  have hz : w.heap.size + 1 ≤ w1.heap.size := by have := hb.size; simp at this; omega
  have hbl : Below w.heap.size w w1 := Below.trans (by repeat (first | exact Below.refl _ _ | assumption | refine Below.setCell ?_ (by first | omega | (simp; done) | (simp; omega)) _ | refine Below.alloc ?_ (by first | omega | (simp; done) | (simp; omega)) _ | apply Below.drew)) (hb.mono (by simp))
  have ho : Own 3 w1 (w.heap.size + 1) ad m d _ := hown.mono (by simp)
  go_wp2_with fail
  refine bodyPost_ret (v := .agg #[.int .i64 p, .slice ad m d]) (by simp [results, Try.results123, go_sem, hc, hz]) rfl ⟨ad, m, d, rfl, ?_, (by repeat (first | exact Below.refl _ _ | assumption | refine Below.setCell ?_ (by first | omega | (simp; done) | (simp; omega)) _ | refine Below.alloc ?_ (by first | omega | (simp; done) | (simp; omega)) _ | apply Below.drew))⟩
  exact ((ho.setBelow _ (by omega)).setBelow _ (by omega)).mono (by omega)



end Go.Proofs.Ytpoolkmcbeghjaa

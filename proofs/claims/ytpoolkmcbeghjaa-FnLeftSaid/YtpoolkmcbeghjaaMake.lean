/- Texts of this claim, one behind the other: what each says stands at its head. -/
import Derived.Test.YtpoolkmcbeghjaaHelp
import Derived.Test.YtpoolkmcbeghjaaIdeal
import Derived.Test.YtpoolkmcbeghjaaMath2
/- Contracts of what makes complexes and ideals out of sets: areSetsOf, l3Make, l29Make, MakeComplex, MakeIdeal. -/
namespace Go.Proofs.Ytpoolkmcbeghjaa
set_option maxRecDepth 20000
open Go.RowKit
set_option linter.unusedSimpArgs false

/-- what MakeComplex asks -/
def SetsOk (p : Int) (xs : List Int) : Prop := 1 ≤ p ∧ p ≤ 6 ∧ xs.length ≤ 64 ∧ ∀ i, i < xs.length → isSetB p (nth xs i) = true
theorem setsNo {p : Int} {xs : List Int} {b : Bool} (hb : b = true ↔ SetsOk p xs) (h : ¬ SetsOk p xs) : b = false := by
  cases b
  · rfl
  · exact absurd (hb.1 rfl) h
theorem SetsOk.nat {p : Int} {xs : List Int} (h : SetsOk p xs) : ∃ l : List Nat, xs = up l ∧ (∀ s ∈ l, s < 2 ^ p.toNat) ∧ ∀ s ∈ l, s < 64 := by
  have aux : ∀ s ∈ xs.map Int.toNat, s < 2 ^ p.toNat ∧ s < 64 := by
    intro s hs
    obtain ⟨x, hx, rfl⟩ := List.mem_map.1 hs
    obtain ⟨i, hi, rfl⟩ := List.mem_iff_getElem.1 hx
    obtain ⟨m, t, hm, ht, _, h2, h3⟩ := isSet_nat (h.2.2.2 i hi)
    rw [nth_eq hi] at ht
    rw [ht, hm]; simpa using ⟨h2, h3⟩
  refine ⟨xs.map Int.toNat, ?_, fun s hs => (aux s hs).1, fun s hs => (aux s hs).2⟩
  apply List.ext_getElem (by simp [up])
  intro i h1 h2
  obtain ⟨m, t, hm, ht, _⟩ := isSet_nat (h.2.2.2 i h1)
  rw [nth_eq h1] at ht
  simp [up]; omega


theorem l3Make_any (p : Int) (a : Option Addr) (n c : Nat) (l : List Nat) (w : World) (h : IntsAt w a n (up l)) (hl : ∀ s ∈ l, s < 64) :
    Calls Try.prog 123 #[.int .i64 p, .slice a n c] w (RetBox w p (up (maxL l.contains))) := by
  have hx : IntsAt (w.alloc (.cells #[.int .i64 0, .slice none 0 0] 33)) a n (up l) := h.keep (by repeat (first | exact Below.refl _ _ | assumption | refine Below.setCell ?_ (by first | omega | (simp; done) | (simp; omega)) _ | refine Below.alloc ?_ (by first | omega | (simp; done) | (simp; omega)) _ | apply Below.drew))
  have Hx := Lib.hid hx; clear hx h
  have Hl := Lib.hid hl; clear hl
  go_enter Try.func123, Try.ntmps123
  go_wp2_with fail
  refine (l2Extreme_any a n c l true _ Hx.out Hl.out).mono ?_
  rintro e w1 ⟨ad, m, d, rfl, hown, hb⟩
  obtain ⟨hc, hf⟩ := bcell hb
  have hz : w.heap.size + 1 ≤ w1.heap.size := by have := hb.size; simp at this; omega
  have hbl : Below w.heap.size w w1 := Below.trans (by repeat (first | exact Below.refl _ _ | assumption | refine Below.setCell ?_ (by first | omega | (simp; done) | (simp; omega)) _ | refine Below.alloc ?_ (by first | omega | (simp; done) | (simp; omega)) _ | apply Below.drew)) (hb.mono (by simp))
  have ho : Own 3 w1 (w.heap.size + 1) ad m d _ := hown.mono (by simp)
  go_wp2_with fail
  refine bodyPost_ret (v := .agg #[.int .i64 p, .slice ad m d]) (by simp [results, Try.results123, go_sem, hc, hz]) rfl ⟨ad, m, d, rfl, ?_, (by repeat (first | exact Below.refl _ _ | assumption | refine Below.setCell ?_ (by first | omega | (simp; done) | (simp; omega)) _ | refine Below.alloc ?_ (by first | omega | (simp; done) | (simp; omega)) _ | apply Below.drew))⟩
  exact ((ho.setBelow _ (by omega)).setBelow _ (by omega)).mono (by omega)



end Go.Proofs.Ytpoolkmcbeghjaa

/- Contracts of the reference's l7From and l8Covers: the sets that contain none of others; the sets that meet all of others. -/
namespace Go.Proofs.Ytpoolkmcbeghjaa
set_option maxRecDepth 20000
open Go.RowKit
set_option linter.unusedSimpArgs false
set_option linter.unusedVariables false

/-- the sets below N with q -/
def lst (q : Nat → Bool) (N : Nat) : List Nat := (List.range N).filter q
theorem lst_no {q : Nat → Bool} {I : Nat} (h : q I = false) : lst q (I + 1) = lst q I := by unfold lst; rw [List.range_succ, List.filter_append]; simp [h]
theorem lst_yes {q : Nat → Bool} {I : Nat} (h : q I = true) : lst q (I + 1) = lst q I ++ [I] := by unfold lst; rw [List.range_succ, List.filter_append]; simp [h]
theorem lst_len (q : Nat → Bool) (N : Nat) : (lst q N).length ≤ N := by unfold lst; exact Nat.le_trans (List.length_filter_le _ _) (by simp)
theorem mem_lst {q : Nat → Bool} {N s : Nat} : s ∈ lst q N ↔ s < N ∧ q s = true := by unfold lst; simp
theorem lst_has (q : Nat → Bool) (N s : Nat) : (lst q N).contains s = (decide (s < N) && q s) := by
  rw [Bool.eq_iff_iff, List.contains_iff_mem, mem_lst]; simp
theorem take_any {l : List Nat} {f : Nat → Bool} {J : Nat} (h : J < l.length) : (l.take (J + 1)).any f = ((l.take J).any f || f (nthN l J)) := by
  rw [nthN_take l J h, List.any_append]; simp
theorem take_all {l : List Nat} {f : Nat → Bool} {J : Nat} (h : J < l.length) : (l.take (J + 1)).all f = ((l.take J).all f && f (nthN l J)) := by
  rw [nthN_take l J h, List.all_append]; simp
theorem w_nsub (t s : Nat) : (((t &&& s : Nat) : Int) != (t : Int)) = !sub t s := by
  unfold bne sub; rw [castBeq]
/-- the sets below N that contain none of l -/
def apart (l : List Nat) (N s : Nat) : Bool := decide (s < N) && !l.any (sub · s)
/-- the sets below N that meet all of l -/
def meets (l : List Nat) (N s : Nat) : Bool := decide (s < N) && l.all fun g => s &&& g != 0


end Go.Proofs.Ytpoolkmcbeghjaa

/- Contracts of NeighborsOf and neighborsIn, the program's and the reference's. -/
import Derived.Test.YtikehbbggdmcfaaGraph
import Derived.Test.YtikehbbggdmcfaaHelp
namespace Go.Proofs.Ytikehbbggdmcfaa
open Go.RowKit
set_option linter.unusedSimpArgs false
set_option linter.unusedVariables false

/-- the neighbours of point i over the first k edges -/
def nbTo (l : List Nat) (i k : Nat) : Nat := (l.take k).foldl (fun acc e => if e.testBit i then acc ||| sdiff e (2 ^ i) else acc) 0
theorem nbTo_zero (l : List Nat) (i : Nat) : nbTo l i 0 = 0 := by simp [nbTo]
theorem nbTo_yes {l : List Nat} {i k : Nat} (hk : k < l.length) (h : (nthN l k).testBit i = true) : nbTo l i (k + 1) = nbTo l i k ||| sdiff (nthN l k) (2 ^ i) := by
  unfold nbTo; rw [nthN_take l k hk, List.foldl_append]; simp [h]
theorem nbTo_no {l : List Nat} {i k : Nat} (hk : k < l.length) (h : (nthN l k).testBit i = false) : nbTo l i (k + 1) = nbTo l i k := by
  unfold nbTo; rw [nthN_take l k hk, List.foldl_append]; simp [h]
theorem nbTo_lt {l : List Nat} (hl : ∀ t ∈ l, t < 64) (i : Nat) : ∀ k, k ≤ l.length → nbTo l i k < 64 := by
  intro k
  induction k with
  | zero => intro _; rw [nbTo_zero]; omega
  | succ k ih =>
    intro hk
    cases h : (nthN l k).testBit i
    · rw [nbTo_no (by omega) h]; exact ih (by omega)
    · rw [nbTo_yes (by omega) h]; exact or_lt64 (ih (by omega)) (sdiff_lt (hl _ (nthN_mem (by omega))))
/-- the table of neighbours, its first I rows done and K edges of the next -/
def nbTab (l : List Nat) (p I K : Nat) : List Nat := (List.range p).map fun j => if j < I then nbTo l j l.length else if j = I then nbTo l j K else 0
theorem nbTab_len (l : List Nat) (p I K : Nat) : (nbTab l p I K).length = p := by simp [nbTab]
theorem nbTab_zero (l : List Nat) (p : Nat) : nbTab l p 0 0 = List.replicate p 0 := by
  apply List.ext_getElem (by simp [nbTab])
  intro i h1 h2
  simp [nbTab, nbTo_zero]
theorem nbTab_at (l : List Nat) (p I K : Nat) (hI : I < p) : nthN (nbTab l p I K) I = nbTo l I K := by
  rw [nthN_eq (by rw [nbTab_len]; exact hI)]; simp [nbTab]
theorem nbTab_no {l : List Nat} {p I K : Nat} (hK : K < l.length) (h : (nthN l K).testBit I = false) : nbTab l p I (K + 1) = nbTab l p I K := by
  unfold nbTab
  apply List.map_congr_left
  intro j _
  by_cases hj : j = I
  · subst hj; simp [nbTo_no hK h]
  · simp [hj]
theorem nbTab_set {l : List Nat} {p I K : Nat} (hI : I < p) (hK : K < l.length) (h : (nthN l K).testBit I = true) : (nbTab l p I K).set I (nbTo l I K ||| sdiff (nthN l K) (2 ^ I)) = nbTab l p I (K + 1) := by
  apply List.ext_getElem (by simp [nbTab])
  intro i h1 h2
  rw [List.getElem_set]
  by_cases hi : I = i
  · subst hi; simp [nbTab, nbTo_yes hK h]
  · have hi' : ¬ i = I := fun e => hi e.symm
    simp [nbTab, hi, hi']
theorem nbTab_next (l : List Nat) (p I : Nat) : nbTab l p I l.length = nbTab l p (I + 1) 0 := by
  unfold nbTab
  apply List.map_congr_left
  intro j _
  rcases Nat.lt_trichotomy j I with h | h | h
  · simp [h, Nat.lt_succ_of_lt h]
  · subst h; simp
  · have h1 : ¬ j < I := by omega
    have h2 : ¬ j = I := by omega
    have h3 : ¬ j < I + 1 := by omega
    simp [h1, h2, h3, nbTo_zero]
theorem nbTab_end (l : List Nat) (p : Nat) (hi : (nbTab l p p 0).length = p) : nbTab l p p 0 = (List.range p).map fun j => nbTo l j l.length := by
  unfold nbTab
  apply List.map_congr_left
  intro j hj
  simp at hj
  simp [hj]
theorem w_subbit : ∀ e : Nat, e < 64 → ∀ i : Nat, i < 6 → e.testBit i = true → IntKind.i64.wrap ((e : Int) - 2 ^ i) = ((sdiff e (2 ^ i) : Nat) : Int) := by decide +kernel
theorem w_andNotbit (a s : Nat) (ha : a < 64) (hs : s < 6) : bits .andNot .i64 (a : Int) (2 ^ s) = ((sdiff a (2 ^ s) : Nat) : Int) := by
  have e : ((2 : Int) ^ s) = ((2 ^ s : Nat) : Int) := by norm_cast
  rw [e]; exact w_andNot a _ ha (bit_lt64 hs)
attribute [go_sem] w_andNotbit

theorem GraphP.nat {p : Int} {xs : List Int} (h : GraphP p xs) : ∃ l : List Nat, xs = up l ∧ (∀ s ∈ l, s < 2 ^ p.toNat ∧ s < 64) ∧ (∀ s ∈ l, sz s = 2) ∧ l.Pairwise (· < ·) := by
  have hat : ∀ i (hi : i < xs.length), ∃ t : Nat, xs[i] = t ∧ t < 2 ^ p.toNat ∧ t < 64 ∧ sz t = 2 := by
    intro i hi
    obtain ⟨m, t, hm, ht, _, h2, h3⟩ := isSet_nat (h.2.2 i hi).1
    have hz := (h.2.2 i hi).2.1
    rw [ht, Int.toNat_natCast] at hz
    rw [nth_eq hi] at ht
    exact ⟨t, ht, by rw [hm]; simpa using h2, h3, hz⟩
  refine ⟨xs.map Int.toNat, ?_, ?_, ?_, ?_⟩
  · apply List.ext_getElem (by simp [up])
    intro i h1 h2
    obtain ⟨t, ht, _⟩ := hat i h1
    simp [up]; omega
  · intro s hs
    obtain ⟨x, hx, rfl⟩ := List.mem_map.1 hs
    obtain ⟨i, hi, rfl⟩ := List.mem_iff_getElem.1 hx
    obtain ⟨t, ht, h2, h3, _⟩ := hat i hi
    rw [ht, Int.toNat_natCast]; exact ⟨h2, h3⟩
  · intro s hs
    obtain ⟨x, hx, rfl⟩ := List.mem_map.1 hs
    obtain ⟨i, hi, rfl⟩ := List.mem_iff_getElem.1 hx
    obtain ⟨t, ht, _, _, h3⟩ := hat i hi
    rw [ht, Int.toNat_natCast]; exact h3
  · rw [List.pairwise_iff_getElem]
    intro i j hi hj hij
    simp only [List.length_map] at hi hj
    have aux : ∀ d i, i + d + 1 < xs.length → nth xs i < nth xs (i + d + 1) := by
      intro d
      induction d with
      | zero =>
        intro i hi
        exact (h.2.2 (i + 1) hi).2.2 (by omega)
      | succ d ih =>
        intro i hi
        have h1 := ih i (by omega)
        have h2 := (h.2.2 (i + d + 1 + 1) hi).2.2 (by omega)
        have h3 : nth xs (i + d + 1) < nth xs (i + d + 1 + 1) := by simpa using h2
        have e : i + (d + 1) + 1 = i + d + 1 + 1 := by omega
        rw [e]; omega
    have := aux (j - i - 1) i (by omega)
    have e : i + (j - i - 1) + 1 = j := by omega
    rw [e, nth_eq hi, nth_eq hj] at this
    obtain ⟨s, hs, _⟩ := hat i hi
    obtain ⟨t, ht, _⟩ := hat j hj
    simp only [List.getElem_map]
    omega


/-- what NeighborsOf returns -/
def nbOf (p : Int) (l : List Nat) (i : Int) : Nat := if 0 ≤ i ∧ i < p then nbTo l i.toNat l.length else 0


end Go.Proofs.Ytikehbbggdmcfaa

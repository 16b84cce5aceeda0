/- Texts of this claim, one behind the other: what each says stands at its head. -/
import Derived.Deep.RegionWith
import Derived.Deep.DeepCutAuto
import Derived.Test.YtihfhfihladlcaaGreatDoorAnti
import Derived.Test.YtihfhfihladlcaaGreatDoorCore
import Derived.Test.YtihfhfihladlcaaGreatDoorSet3
/- Contracts of NeighborsOf and neighborsIn, the program's and the reference's. -/
namespace Go.Proofs.YtihfhfihladlcaaGreatDoor
set_option maxRecDepth 20000
open Go.RowKit
set_option linter.unusedSimpArgs false
set_option linter.unusedVariables false

/-- the neighbours of point i over the first k edges -/
def nbTo (l : List Nat) (i k : Nat) : Nat := (l.take k).foldl (fun acc e => if e.testBit i then acc ||| sdiff e (2 ^ i) else acc) 0
theorem nbTo_zero (l : List Nat) (i : Nat) : nbTo l i 0 = 0 := by simp [nbTo]
theorem nbTo_yes {l : List Nat} {i k : Nat} (hk : k < l.length) (h : (nthN l k).testBit i = true) : nbTo l i (k + 1) = nbTo l i k ||| sdiff (nthN l k) (2 ^ i) := by
  unfold nbTo; rw [nthN_take l k hk, List.foldl_append]; simp [h]
theorem nbTo_no {l : List Nat} {i k : Nat} (hk : k < l.length) (h : (nthN l k).testBit i = false) : nbTo l i (k + 1) = nbTo l i k := by
  unfold nbTo; rw [nthN_take l k hk, List.foldl_append]; simp [h]
theorem nbTo_lt {l : List Nat} (hl : ∀ t ∈ l, t < 64) (i : Nat) : ∀ k, k ≤ l.length → nbTo l i k < 64 := by
  intro k
  induction k with
  | zero => intro _; rw [nbTo_zero]; omega
  | succ k ih =>
    intro hk
    cases h : (nthN l k).testBit i
    · rw [nbTo_no (by omega) h]; exact ih (by omega)
    · rw [nbTo_yes (by omega) h]; exact or_lt64 (ih (by omega)) (sdiff_lt (hl _ (nthN_mem (by omega))))
/-- the table of neighbours, its first I rows done and K edges of the next -/
def nbTab (l : List Nat) (p I K : Nat) : List Nat := (List.range p).map fun j => if j < I then nbTo l j l.length else if j = I then nbTo l j K else 0
theorem nbTab_len (l : List Nat) (p I K : Nat) : (nbTab l p I K).length = p := by simp [nbTab]
theorem nbTab_zero (l : List Nat) (p : Nat) : nbTab l p 0 0 = List.replicate p 0 := by
  apply List.ext_getElem (by simp [nbTab])
  intro i h1 h2
  simp [nbTab, nbTo_zero]
theorem nbTab_at (l : List Nat) (p I K : Nat) (hI : I < p) : nthN (nbTab l p I K) I = nbTo l I K := by
  rw [nthN_eq (by rw [nbTab_len]; exact hI)]; simp [nbTab]
theorem nbTab_no {l : List Nat} {p I K : Nat} (hK : K < l.length) (h : (nthN l K).testBit I = false) : nbTab l p I (K + 1) = nbTab l p I K := by
  unfold nbTab
  apply List.map_congr_left
  intro j _
  by_cases hj : j = I
  · subst hj; simp [nbTo_no hK h]
  · simp [hj]
theorem nbTab_set {l : List Nat} {p I K : Nat} (hI : I < p) (hK : K < l.length) (h : (nthN l K).testBit I = true) : (nbTab l p I K).set I (nbTo l I K ||| sdiff (nthN l K) (2 ^ I)) = nbTab l p I (K + 1) := by
  apply List.ext_getElem (by simp [nbTab])
  intro i h1 h2
  rw [List.getElem_set]
  by_cases hi : I = i
  · subst hi; simp [nbTab, nbTo_yes hK h]
  · have hi' : ¬ i = I := fun e => hi e.symm
    simp [nbTab, hi, hi']
theorem nbTab_next (l : List Nat) (p I : Nat) : nbTab l p I l.length = nbTab l p (I + 1) 0 := by
  unfold nbTab
  apply List.map_congr_left
  intro j _
  rcases Nat.lt_trichotomy j I with h | h | h
  · simp [h, Nat.lt_succ_of_lt h]
  · subst h; simp
  · have h1 : ¬ j < I := by omega
    have h2 : ¬ j = I := by omega
    have h3 : ¬ j < I + 1 := by omega
    simp [h1, h2, h3, nbTo_zero]
theorem nbTab_end (l : List Nat) (p : Nat) (hi : (nbTab l p p 0).length = p) : nbTab l p p 0 = (List.range p).map fun j => nbTo l j l.length := by
  unfold nbTab
  apply List.map_congr_left
  intro j hj
  simp at hj
  simp [hj]
theorem w_subbit : ∀ e : Nat, e < 64 → ∀ i : Nat, i < 6 → e.testBit i = true → IntKind.i64.wrap ((e : Int) - 2 ^ i) = ((sdiff e (2 ^ i) : Nat) : Int) := by decide +kernel
theorem w_andNotbit (a s : Nat) (ha : a < 64) (hs : s < 6) : bits .andNot .i64 (a : Int) (2 ^ s) = ((sdiff a (2 ^ s) : Nat) : Int) := by
  have e : ((2 : Int) ^ s) = ((2 ^ s : Nat) : Int) := by norm_cast
  rw [e]; exact w_andNot a _ ha (bit_lt64 hs)
attribute [go_sem] w_andNotbit

theorem GraphP.nat {p : Int} {xs : List Int} (h : GraphP p xs) : ∃ l : List Nat, xs = up l ∧ (∀ s ∈ l, s < 2 ^ p.toNat ∧ s < 64) ∧ (∀ s ∈ l, sz s = 2) ∧ l.Pairwise (· < ·) := by
  have hat : ∀ i (hi : i < xs.length), ∃ t : Nat, xs[i] = t ∧ t < 2 ^ p.toNat ∧ t < 64 ∧ sz t = 2 := by
    intro i hi
    obtain ⟨m, t, hm, ht, _, h2, h3⟩ := isSet_nat (h.2.2 i hi).1
    have hz := (h.2.2 i hi).2.1
    rw [ht, Int.toNat_natCast] at hz
    rw [nth_eq hi] at ht
    exact ⟨t, ht, by rw [hm]; simpa using h2, h3, hz⟩
  refine ⟨xs.map Int.toNat, ?_, ?_, ?_, ?_⟩
  · apply List.ext_getElem (by simp [up])
    intro i h1 h2
    obtain ⟨t, ht, _⟩ := hat i h1
    simp [up]; omega
  · intro s hs
    obtain ⟨x, hx, rfl⟩ := List.mem_map.1 hs
    obtain ⟨i, hi, rfl⟩ := List.mem_iff_getElem.1 hx
    obtain ⟨t, ht, h2, h3, _⟩ := hat i hi
    rw [ht, Int.toNat_natCast]; exact ⟨h2, h3⟩
  · intro s hs
    obtain ⟨x, hx, rfl⟩ := List.mem_map.1 hs
    obtain ⟨i, hi, rfl⟩ := List.mem_iff_getElem.1 hx
    obtain ⟨t, ht, _, _, h3⟩ := hat i hi
    rw [ht, Int.toNat_natCast]; exact h3
  · rw [List.pairwise_iff_getElem]
    intro i j hi hj hij
    simp only [List.length_map] at hi hj
    have aux : ∀ d i, i + d + 1 < xs.length → nth xs i < nth xs (i + d + 1) := by
      intro d
      induction d with
      | zero =>
        intro i hi
        exact (h.2.2 (i + 1) hi).2.2 (by omega)
      | succ d ih =>
        intro i hi
        have h1 := ih i (by omega)
        have h2 := (h.2.2 (i + d + 1 + 1) hi).2.2 (by omega)
        have h3 : nth xs (i + d + 1) < nth xs (i + d + 1 + 1) := by simpa using h2
        have e : i + (d + 1) + 1 = i + d + 1 + 1 := by omega
        rw [e]; omega
    have := aux (j - i - 1) i (by omega)
    have e : i + (j - i - 1) + 1 = j := by omega
    rw [e, nth_eq hi, nth_eq hj] at this
    obtain ⟨s, hs, _⟩ := hat i hi
    obtain ⟨t, ht, _⟩ := hat j hj
    simp only [List.getElem_map]
    omega


/-- what NeighborsOf returns -/
def nbOf (p : Int) (l : List Nat) (i : Int) : Nat := if 0 ≤ i ∧ i < p then nbTo l i.toNat l.length else 0


end Go.Proofs.YtihfhfihladlcaaGreatDoor

/- Contracts of OtherGraph, the program's and the reference's. -/
namespace Go.Proofs.YtihfhfihladlcaaGreatDoor
set_option maxRecDepth 20000
open Go.RowKit
set_option linter.unusedSimpArgs false
set_option linter.unusedVariables false

/-- a set of two points that is no edge -/
def othQ (l : List Nat) (s : Nat) : Bool := decide (sz s = 2) && !l.contains s
def othL (l : List Nat) (k : Nat) : List Nat := (List.range k).filter (othQ l)
theorem othL_yes {l : List Nat} {k : Nat} (h : othQ l k = true) : othL l (k + 1) = othL l k ++ [k] := by unfold othL; rw [List.range_succ, List.filter_append]; simp [h]
theorem othL_no {l : List Nat} {k : Nat} (h : othQ l k = false) : othL l (k + 1) = othL l k := by unfold othL; rw [List.range_succ, List.filter_append]; simp [h]
theorem othL_len (l : List Nat) (k : Nat) : (othL l k).length ≤ k := by unfold othL; exact Nat.le_trans (List.length_filter_le _ _) (by simp)
theorem oth_ord (l : List Nat) (m : Nat) (hm : m ≤ 6) : ord (fun s => decide (s < 2 ^ m) && othQ l s) = othL l (2 ^ m) := by
  have h64 : 2 ^ m ≤ 64 := pow_le64 hm
  have hsort : (othL l (2 ^ m)).Pairwise fun a b => rank a < rank b := by
    unfold othL
    have h1 : ((List.range (2 ^ m)).filter (othQ l)).Pairwise (· < ·) := List.Pairwise.filter _ List.pairwise_lt_range
    refine List.Pairwise.imp_of_mem ?_ h1
    intro a b ha hb hab
    have ha2 := (List.mem_filter.1 ha).2
    have hb2 := (List.mem_filter.1 hb).2
    unfold othQ at ha2 hb2
    simp at ha2 hb2
    unfold rank
    omega
  rw [← ord_of_sorted hsort (fun s hs => by
    unfold othL at hs
    have := List.mem_range.1 (List.mem_filter.1 hs).1
    omega)]
  apply ord_congr
  intro s hs
  rw [Bool.eq_iff_iff]
  unfold othL
  simp

theorem l2Has_any (a : Option Addr) (n c : Nat) (l : List Nat) (s : Nat) (w : World) (h : IntsAt w a n (up l)) :
    Calls Tryz.prog 153 #[.slice a n c, .int .i64 s] w fun e w' => e = .returned (.bool (l.contains s)) ∧ w = w' := by
  have hn := h.small
  have hlen : l.length = n := by rw [← h.len, up_len]
  have Hlen := Lib.hid hlen; clear hlen
  have Hh := Lib.hid h; clear h
  obtain ⟨b, hb⟩ : ∃ b, b = l.contains s := ⟨_, rfl⟩
  have Hb := Lib.hid hb
  rw [← hb]
  clear hb
  go_enter Tryz.func153, Tryz.ntmps153
  go_wp2_with fail
  go_loop [5] (fun i => ∃ k : Nat, k ≤ n ∧ i = .int .i64 k ∧ Hid (∀ j, j < k → nthN l j ≠ s)) (fun i => n - (intOf i).toNat)
  case atStart => exact ⟨0, Nat.zero_le _, rfl, Lib.hid fun j hj => absurd hj (Nat.not_lt_zero _)⟩
  case round =>
    obtain ⟨k, hk, rfl, hok⟩ := hrel
    by_cases hlt : k < n
    · obtain ⟨b1, o1, rfl, hc⟩ := Hh.out.cells (by omega)
      have hck := hc k hlt
      rw [nth_up] at hck
      obtain ⟨t, hte⟩ : ∃ t, t = nthN l k := ⟨_, rfl⟩
      rw [← hte] at hck
      have Hte := Lib.hid hte
      clear hc hte
      cases hst : ((t : Int) == (s : Int))
      · go_wp2_with fail
        go_round
        case rel =>
          refine ⟨k + 1, by omega, by go_num, Lib.hid fun j hj => ?_⟩
          rcases Nat.lt_or_ge j k with h | h
          · exact hok.out j h
          · obtain rfl : j = k := by omega
            rw [← Hte.out]
            rw [castBeq] at hst; simpa using hst
        case measure => simp [intOf]; omega
      · have hbt : b = true := by
          rw [castBeq] at hst
          rw [Hb.out, List.contains_iff_mem]
          have : t = s := by simpa using hst
          rw [← this, Hte.out]
          exact nthN_mem (by rw [Hlen.out]; exact hlt)
        subst hbt
        go_wp2_with fail
        go_ret
        exact ⟨rfl, rfl⟩
    · obtain rfl : k = n := by omega
      have hbt : b = false := by
        rw [Hb.out, ← Bool.not_eq_true, List.contains_iff_mem]
        intro hm
        obtain ⟨i, hi, he⟩ := List.mem_iff_getElem.1 hm
        exact hok.out i (by rw [← Hlen.out]; exact hi) (by rw [nthN_eq hi]; exact he)
      subst hbt
      have hkk : ¬ ((k : Int) < k) := by omega
      go_wp2_with fail
      go_ret
      exact ⟨rfl, rfl⟩


end Go.Proofs.YtihfhfihladlcaaGreatDoor

/- Texts of this claim, one behind the other: what each says stands at its head. -/
import Derived.Deep.RegionHeld3
import Derived.Deep.DeepCutAuto
import Derived.Test.YtihfhfihladlcaaGreatDoorBase
import Derived.Test.YtihfhfihladlcaaGreatDoorFrom
import Derived.Test.YtihfhfihladlcaaGreatDoorNeigh
/- Contracts of isPairwise, l27Joined and IsChordal, the program's and the reference's. -/
namespace Go.Proofs.YtihfhfihladlcaaGreatDoor
set_option maxRecDepth 20000
open Go.RowKit
set_option linter.unusedSimpArgs false
set_option linter.unusedVariables false

theorem find_at {l : List Nat} {p : Nat → Bool} {J : Nat} (hJ : J < l.length) (h0 : ∀ j, j < J → p (nthN l j) = false) (h1 : p (nthN l J) = true) : l.find? p = some (nthN l J) := by
  rw [List.find?_eq_some_iff_getElem]
  refine ⟨h1, J, hJ, nthN_eq hJ |>.symm, fun j hj => ?_⟩
  have := h0 j hj
  rw [nthN_eq (by omega)] at this
  simp [this]
theorem find_none {l : List Nat} {p : Nat → Bool} (h0 : ∀ j, j < l.length → p (nthN l j) = false) : l.find? p = none := by
  rw [List.find?_eq_none]
  intro x hx
  obtain ⟨j, hj, rfl⟩ := List.mem_iff_getElem.1 hx
  have := h0 j hj
  rw [nthN_eq hj] at this
  simp [this]

/-- the points may be taken away, one by one -/
def chordW (good : Nat → Nat → Bool) : Nat → Nat → Bool
  | 0, _ => true
  | f + 1, left => if left = 0 then true else ((pts left).find? (good left)).elim false fun i => chordW good f (sdiff left (2 ^ i))
theorem sdiff_less : ∀ x : Nat, x < 64 → ∀ i : Nat, i < 6 → x.testBit i = true → sdiff x (2 ^ i) < x := by decide +kernel
theorem find_pts (good : Nat → Bool) (left : Nat) : (pts left).find? good = (List.range 6).find? fun i => left.testBit i && good i := by
  unfold pts ptsTo
  rw [List.find?_filter]
  congr 1
  funext i
  cases left.testBit i <;> cases good i <;> rfl
/-- the same for the points below m -/
theorem find_range {good : Nat → Bool} {left m : Nat} (hm : m ≤ 6) (hl : left < 2 ^ m) : ((List.range m).find? fun i => left.testBit i && good i) = (pts left).find? good := by
  rw [find_pts]
  have e : List.range 6 = List.range m ++ (List.range (6 - m)).map (m + ·) := by
    rw [← List.range_add]; congr 1; omega
  rw [e, List.find?_append]
  have : ((List.range (6 - m)).map (m + ·)).find? (fun i => left.testBit i && good i) = none := by
    rw [List.find?_eq_none]
    intro x hx
    obtain ⟨i, _, rfl⟩ := List.mem_map.1 hx
    have : left.testBit (m + i) = false := Nat.testBit_lt_two_pow (Nat.lt_of_lt_of_le hl (Nat.pow_le_pow_right (by omega) (by omega)))
    simp [this]
  rw [this]; simp
theorem scan_succ (p : Nat → Bool) (I : Nat) (h : (List.range I).find? p = none) : (List.range (I + 1)).find? p = if p I then some I else none := by
  rw [List.range_succ, List.find?_append, h]
  simp [List.find?_cons]
  cases p I <;> rfl

theorem isPairwise_any (s : Nat) (a : Option Addr) (n c : Nat) (nl : List Nat) (w : World) (h : IntsAt w a n (up nl)) (hs : s < 64) (hn : ∀ i, i < 6 → s.testBit i = true → i < n) (hl : ∀ t ∈ nl, t < 64) (b : Bool) (hb : pairB (nthN nl) s = b) :
    Calls Tryz.prog 119 #[.int .i64 s, .slice a n c] w fun e w' => e = .returned (.bool b) ∧ Below w.heap.size w w' := by
  have hsm := h.small
  have hlen : nl.length = n := by rw [← h.len, up_len]
  have Hlen := Lib.hid hlen; clear hlen
  have Hx := Lib.hid h; have Hn := Lib.hid hn; have Hl := Lib.hid hl; have Hb := Lib.hid hb
  clear h hn hl hb
  go_enter Tryz.func119, Tryz.ntmps119
  go_wp2_with fail
  refine (PointsOf_any s _ hs).mono ?_
  rintro e w1 ⟨ad, m, d, rfl, hown, hb⟩
  have HB := Lib.hid hb
  have Hx1 := Lib.hid (Hx.out.keep hb)
  obtain ⟨P, hP⟩ : ∃ P, P = pts s := ⟨_, rfl⟩
  rw [← hP] at hown
  have HP := Lib.hid hP
  have HO := Lib.hid hown
  have hPl : P.length = m := by have := hown.len; rwa [up_len] at this
  have hm6 : m ≤ 6 := by rw [← hPl, hP]; exact ptsTo_len _ _
  have HPl := Lib.hid hPl
  clear hb hown hP hPl
  go_wp2_with fail
  go_loop [6, 10] (fun _ i => ∃ k : Nat, k ≤ m ∧ i = .int .i64 k ∧ Hid (∀ j, j < k → sub s (nthN nl (nthN P j) ||| 2 ^ nthN P j) = true)) (fun _ i => m - (intOf i).toNat)
  case atStart => exact ⟨0, Nat.zero_le _, rfl, Lib.hid fun j hj => absurd hj (Nat.not_lt_zero _)⟩
  case round =>
    obtain ⟨k, hk, rfl, hok⟩ := hrel
    by_cases hlt : k < m
    · obtain ⟨b1, o1, rfl, hc⟩ := HO.out.reads.cells (by omega)
      have hck := hc k hlt
      rw [nth_up] at hck
      have hmem : nthN P k ∈ P := nthN_mem (by rw [HPl.out]; exact hlt)
      rw [HP.out] at hmem
      obtain ⟨hi6, hib⟩ := mem_pts.1 hmem
      rw [← HP.out] at hi6 hib
      obtain ⟨i, hie⟩ : ∃ i, i = nthN P k := ⟨_, rfl⟩
      rw [← hie] at hck hi6 hib
      have Hie := Lib.hid hie
      have hin := Hn.out i hi6 hib
      obtain ⟨b2, o2, rfl, hc2⟩ := Hx1.out.cells (by omega)
      have hci := hc2 i hin
      rw [nth_up] at hci
      have hu := Hl.out _ (nthN_mem (xs := nl) (k := i) (by rw [Hlen.out]; exact hin))
      obtain ⟨u, hue⟩ : ∃ u, u = nthN nl i := ⟨_, rfl⟩
      rw [← hue] at hci hu
      have Hue := Lib.hid hue
      have hor := w_or6bit u i hu hi6
      have hshl := w_shl6 i (by omega)
      have hub : u ||| 2 ^ i < 64 := or_lt64 hu (bit_lt64 hi6)
      have hand := w_andNot s (u ||| 2 ^ i) hs hub
      have hz := sdiff_zero hs hub
      clear hc hc2 hie hue hmem hib
      have hk0 : (0 : Int) ≤ i := by omega
      have hkn : (i : Int) < n := by omega
      cases hst : (((sdiff s (u ||| 2 ^ i) : Nat) : Int) == 0)
      · have hst' : (((sdiff s (u ||| 2 ^ i) : Nat) : Int) != 0) = true := by unfold bne; rw [hst]; rfl
        have hbf : b = false := by
          rw [← Hb.out]
          unfold pairB
          rw [List.all_eq_false]
          refine ⟨i, by rw [← HP.out, Hie.out]; exact nthN_mem (by rw [HPl.out]; exact hlt), ?_⟩
          rw [← Hue.out, ← hz, hst]; simp
        subst hbf
        go_wp2_with fail
        go_ret
        exact ⟨rfl, HB.out⟩
      · have hst' : (((sdiff s (u ||| 2 ^ i) : Nat) : Int) != 0) = false := by unfold bne; rw [hst]; rfl
        have Hst := Lib.hid hst
        go_wp2_with fail
        go_round
        case rel =>
          refine ⟨k + 1, by omega, by go_num, Lib.hid fun j hj => ?_⟩
          rcases Nat.lt_or_ge j k with h | h
          · exact hok.out j h
          · obtain rfl : j = k := by omega
            rw [← Hie.out, ← Hue.out, ← hz]; exact Hst.out
        case measure => simp [intOf]; omega
    · obtain rfl : k = m := by omega
      have hbt : b = true := by
        rw [← Hb.out]
        unfold pairB
        rw [List.all_eq_true]
        intro x hx
        rw [← HP.out] at hx
        obtain ⟨j, hj, rfl⟩ := List.mem_iff_getElem.1 hx
        have := hok.out j (by rw [← HPl.out]; exact hj)
        rwa [nthN_eq hj] at this
      subst hbt
      go_wp2_with fail
      go_ret
      exact ⟨rfl, HB.out⟩

end Go.Proofs.YtihfhfihladlcaaGreatDoor

/- Contracts of IsChordal, the program's and the reference's. -/
namespace Go.Proofs.YtihfhfihladlcaaGreatDoor
set_option maxRecDepth 20000
open Go.RowKit
set_option linter.unusedSimpArgs false
set_option linter.unusedVariables false

/-- the neighbours of i among the points left are joined -/
def gd (l : List Nat) (left i : Nat) : Bool := pairB (nbs l) (nbs l i &&& left)
theorem nbTo_all (l : List Nat) (i : Nat) : nbTo l i l.length = nbs l i := by unfold nbTo nbs; rw [List.take_length]
theorem nbs_lt {l : List Nat} (hl : ∀ t ∈ l, t < 64) (i : Nat) : nbs l i < 64 := by rw [← nbTo_all]; exact nbTo_lt hl i _ (Nat.le_refl _)
theorem bit_lt {s m i : Nat} (hs : s < 2 ^ m) (h : s.testBit i = true) : i < m := by
  rcases Nat.lt_or_ge i m with h' | h'
  · exact h'
  · rw [Nat.testBit_lt_two_pow (Nat.lt_of_lt_of_le hs (Nat.pow_le_pow_right (by omega) h'))] at h; cases h
/-- the table of the neighbours -/
def nbRow (l : List Nat) (m : Nat) : List Nat := (List.range m).map fun j => nbTo l j l.length
theorem nbRow_at {l : List Nat} {m i : Nat} (hi : i < m) : nthN (nbRow l m) i = nbs l i := by
  unfold nbRow
  rw [nthN_eq (by simpa using hi)]
  simp [nbTo_all]
theorem pairB_row {l : List Nat} {m s : Nat} (hs : s < 2 ^ m) : pairB (nthN (nbRow l m)) s = pairB (nbs l) s := by
  unfold pairB
  rw [Bool.eq_iff_iff, List.all_eq_true, List.all_eq_true]
  constructor
  · intro h i hi
    have := h i hi
    rwa [nbRow_at (bit_lt hs (mem_pts.1 hi).2)] at this
  · intro h i hi
    have := h i hi
    rwa [nbRow_at (bit_lt hs (mem_pts.1 hi).2)]


end Go.Proofs.YtihfhfihladlcaaGreatDoor

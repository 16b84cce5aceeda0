/- Plain laws of the colour counts: a set's colours, the tally of a list by a mark below 64, and the alternating sums over subsets in two orders. -/
import Derived.Test.YtnapicpeccjkoaaColor5
import Derived.Test.YtnapicpeccjkoaaMath4
namespace Go.Proofs.Ytnapicpeccjkoaa
open Go.RowKit
set_option linter.unusedSimpArgs false
set_option linter.unusedVariables false

/-- the colours of the points of s below k -/
def rcTo (cs : List Int) (s : Nat) : Nat → Nat
  | 0 => 0
  | k + 1 => if s.testBit k then rcTo cs s k ||| 2 ^ (nth cs k).toNat else rcTo cs s k
theorem rcTo_yes {cs : List Int} {s k : Nat} (h : s.testBit k = true) : rcTo cs s (k + 1) = rcTo cs s k ||| 2 ^ (nth cs k).toNat := by simp [rcTo, h]
theorem rcTo_no {cs : List Int} {s k : Nat} (h : s.testBit k = false) : rcTo cs s (k + 1) = rcTo cs s k := by simp [rcTo, h]
theorem rcTo_lt {cs : List Int} (h : ∀ i, i < cs.length → 0 ≤ nth cs i ∧ nth cs i ≤ 5) (s : Nat) : ∀ k, k ≤ cs.length → rcTo cs s k < 64 := by
  intro k
  induction k with
  | zero => intro _; unfold rcTo; omega
  | succ k ih =>
    intro hk
    have h1 := h k (by omega)
    cases hb : s.testBit k with
    | true => rw [rcTo_yes hb]; exact or_lt64 (ih (by omega)) (bit_lt64 (by omega))
    | false => rw [rcTo_no hb]; exact ih (by omega)
/-- the colours of a set -/
def rcOf (cs : List Int) (s : Nat) : Nat := rcTo cs s cs.length

/-- how often each mark below 64 occurs -/
def tly (g : Nat → Nat) (L : List Nat) : List Nat := (List.range 64).map fun v => (L.filter fun s => g s == v).length
theorem tly_len (g : Nat → Nat) (L : List Nat) : (tly g L).length = 64 := by simp [tly]
theorem tly_nil (g : Nat → Nat) : tly g [] = List.replicate 64 0 := by kernel_rfl
theorem tly_at {g : Nat → Nat} {L : List Nat} {k : Nat} (hk : k < 64) : nthN (tly g L) k = (L.filter fun s => g s == k).length := by
  rw [nthN_eq (by rw [tly_len]; exact hk)]
  simp [tly]
theorem tly_le {g : Nat → Nat} {L : List Nat} (hL : L.length ≤ 64) (k : Nat) : nthN (tly g L) k ≤ 64 := by
  by_cases hk : k < 64
  · rw [tly_at hk]; exact Nat.le_trans (List.length_filter_le _ _) hL
  · have : nthN (tly g L) k = 0 := by
      unfold nthN
      rw [List.getD_eq_getElem?_getD, List.getElem?_eq_none (by rw [tly_len]; omega)]; rfl
    omega
theorem tly_add {g : Nat → Nat} {L : List Nat} {u : Nat} (hu : g u < 64) : (tly g L).set (g u) (nthN (tly g L) (g u) + 1) = tly g (L ++ [u]) := by
  apply List.ext_getElem (by simp [tly])
  intro i h1 h2
  rw [List.getElem_set]
  by_cases hi : g u = i
  · subst hi
    rw [if_pos rfl, tly_at hu]
    simp [tly, List.filter_append]
  · rw [if_neg hi]
    have : (g u == i) = false := by simp; exact hi
    simp [tly, List.filter_append, this]
theorem up_set (L : List Nat) (i v : Nat) : (up L).set i ((v : Nat) : Int) = up (L.set i v) := by unfold up; rw [List.map_set]

/-- the colour counts of a complex -/
def colC (l : List Nat) (cs : List Int) : List Nat := tly (rcOf cs) (ord (isFace l))

/-! ### The alternating sums -/
/-- f at t with the sign of what s has besides t -/
def alt (f : List Nat) (s t : Nat) : Int := if sz (sdiff s t) % 2 = 1 then -(nthN f t : Int) else (nthN f t : Int)
theorem alt_bd {f : List Nat} (hf : ∀ k, nthN f k ≤ 64) (s t : Nat) : -64 ≤ alt f s t ∧ alt f s t ≤ 64 := by
  have := hf t
  unfold alt; split <;> omega
def altSum (f : List Nat) (s : Nat) (L : List Nat) : Int := (L.map (alt f s)).sum
theorem altSum_snoc (f : List Nat) (s : Nat) (L : List Nat) (t : Nat) : altSum f s (L ++ [t]) = altSum f s L + alt f s t := by unfold altSum; simp
theorem altSum_bd {f : List Nat} (hf : ∀ k, nthN f k ≤ 64) (s : Nat) (L : List Nat) : -(64 * (L.length : Int)) ≤ altSum f s L ∧ altSum f s L ≤ 64 * (L.length : Int) := by
  induction L with
  | nil => simp [altSum]
  | cons x L ih =>
    have := alt_bd hf s x
    have e : altSum f s (x :: L) = alt f s x + altSum f s L := by unfold altSum; simp
    rw [e, List.length_cons]
    omega
theorem altSum_perm {f : List Nat} {s : Nat} {L M : List Nat} (h : L.Perm M) : altSum f s L = altSum f s M := by
  unfold altSum
  induction h with
  | nil => rfl
  | cons x _ ih => simp only [List.map_cons, List.sum_cons, ih]
  | swap x y l => simp only [List.map_cons, List.sum_cons]; omega
  | trans _ _ ih1 ih2 => rw [ih1, ih2]
/-- the subsets of s below k -/
def lowTo (s k : Nat) : List Nat := (List.range k).filter fun t => sub t s
theorem lowTo_yes {s k : Nat} (h : sub k s = true) : lowTo s (k + 1) = lowTo s k ++ [k] := by unfold lowTo; rw [List.range_succ, List.filter_append]; simp [h]
theorem lowTo_no {s k : Nat} (h : sub k s = false) : lowTo s (k + 1) = lowTo s k := by unfold lowTo; rw [List.range_succ, List.filter_append]; simp [h]
theorem lowTo_len (s k : Nat) : (lowTo s k).length ≤ k := by unfold lowTo; exact Nat.le_trans (List.length_filter_le _ _) (by simp)
theorem ord_low_all : ((List.range 64).all fun s => (ord fun t => sub t s).isPerm (lowTo s (s + 1))) = true := by decide +kernel
theorem ord_low {s : Nat} (hs : s < 64) : (ord fun t => sub t s).Perm (lowTo s (s + 1)) := List.isPerm_iff.1 (List.all_eq_true.1 ord_low_all s (List.mem_range.2 hs))
/-- the numbers of ColorH for the sets below k -/
def chTo (f : List Nat) (k : Nat) : List Int := (List.range k).map fun s => altSum f s (lowTo s (s + 1))
theorem chTo_succ (f : List Nat) (k : Nat) : chTo f (k + 1) = chTo f k ++ [altSum f k (lowTo k (k + 1))] := by unfold chTo; rw [List.range_succ, List.map_append]; rfl
theorem chTo_len (f : List Nat) (k : Nat) : (chTo f k).length = k := by simp [chTo]
/-- the row of 64 while the program fills it: done below k, 0 behind -/
def chRow (f : List Nat) (k : Nat) : List Int := (List.range 64).map fun s => if s < k then altSum f s (lowTo s (s + 1)) else 0
theorem chRow_len (f : List Nat) (k : Nat) : (chRow f k).length = 64 := by simp [chRow]
theorem chRow_zero (f : List Nat) : chRow f 0 = List.replicate 64 0 := by kernel_rfl
theorem chRow_all (f : List Nat) : chRow f 64 = chTo f 64 := by
  unfold chRow chTo
  exact List.map_congr_left fun s hs => by rw [if_pos (List.mem_range.1 hs)]
/-- .. and with a value at k -/
def chAt (f : List Nat) (k : Nat) (v : Int) : List Int := (chRow f k).set k v
theorem chAt_zero {f : List Nat} {k : Nat} (hk : k < 64) : chAt f k 0 = chRow f k := by
  unfold chAt
  apply List.ext_getElem (by simp)
  intro i h1 h2
  rw [List.getElem_set]
  split
  · rename_i h; subst h; simp [chRow]
  · rfl
theorem chAt_nth {f : List Nat} {k : Nat} {v : Int} (hk : k < 64) : nth (chAt f k v) k = v := by
  rw [nth_eq (by unfold chAt; rw [List.length_set, chRow_len]; exact hk)]
  unfold chAt; simp
theorem chAt_set (f : List Nat) (k : Nat) (v u : Int) : (chAt f k v).set k u = chAt f k u := by unfold chAt; simp
theorem chAt_done {f : List Nat} {k : Nat} (hk : k < 64) : chAt f k (altSum f k (lowTo k (k + 1))) = chRow f (k + 1) := by
  unfold chAt
  apply List.ext_getElem (by simp [chRow])
  intro i h1 h2
  rw [List.getElem_set]
  simp only [chRow, List.getElem_map, List.getElem_range]
  by_cases h : k = i
  · subst h; rw [if_pos rfl, if_pos (by omega)]
  · rw [if_neg h]
    by_cases h2 : i < k
    · rw [if_pos h2, if_pos (by omega)]
    · rw [if_neg h2, if_neg (by omega)]
end Go.Proofs.Ytnapicpeccjkoaa

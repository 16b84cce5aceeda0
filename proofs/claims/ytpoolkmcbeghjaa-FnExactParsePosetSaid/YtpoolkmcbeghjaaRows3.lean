/- Contracts of the laws' functions over lists of lists: compare, mark, read back. -/
import Derived.Test.YtpoolkmcbeghjaaRows2
import Derived.Deep.DeepCutAuto
namespace Go.Proofs.Ytpoolkmcbeghjaa
set_option maxRecDepth 20000
open Go.RowKit
set_option linter.unusedSimpArgs false
set_option linter.unusedVariables false

/-- how many numbers the first k lists hold -/
def totTo (L : List (List Int)) : Nat → Nat
  | 0 => 0
  | k + 1 => totTo L k + (nthL L k).length
theorem totTo_le {L : List (List Int)} {M : Nat} (h : ∀ x ∈ L, x.length ≤ M) : ∀ k, k ≤ L.length → totTo L k ≤ k * M := by
  intro k
  induction k with
  | zero => intro _; simp [totTo]
  | succ k ih =>
    intro hk
    have h1 := ih (by omega)
    have h2 : (nthL L k).length ≤ M := h _ (by rw [nthL_at (by omega)]; exact List.getElem_mem (by omega))
    unfold totTo
    rw [Nat.succ_mul]; omega
theorem totTo_up (L : List (List Int)) : ∀ k j, k ≤ j → totTo L k ≤ totTo L j := by
  intro k j h
  induction h with
  | refl => exact Nat.le_refl _
  | @step m _ ih =>
    show totTo L k ≤ totTo L m + (nthL L m).length
    omega
def tot2 (L : List (List Int)) : Nat := totTo L L.length
/-- the lists marked with the numbers from s on, up to the k-th -/
def mk2 (L : List (List Int)) (s k : Nat) : List (List Int) := (List.range L.length).map fun i => if i < k then marks (s + totTo L i) (nthL L i).length else nthL L i
theorem mk2_len (L : List (List Int)) (s k : Nat) : (mk2 L s k).length = L.length := by simp [mk2]
theorem mk2_at {L : List (List Int)} {s k i : Nat} (h : i < L.length) : nthL (mk2 L s k) i = if i < k then marks (s + totTo L i) (nthL L i).length else nthL L i := by
  rw [nthL_at (by rw [mk2_len]; exact h)]; simp [mk2]
theorem mk2_zero (L : List (List Int)) (s : Nat) : mk2 L s 0 = L := by
  apply List.ext_getElem (by rw [mk2_len])
  intro i h1 h2
  rw [← nthL_at h1, ← nthL_at h2, mk2_at h2, if_neg (Nat.not_lt_zero _)]


end Go.Proofs.Ytpoolkmcbeghjaa

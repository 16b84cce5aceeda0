/- Contracts of FirstColoring and LeastColors, the program's and the reference's. -/
import Derived.Test.YtnapicpeccjkoaaColor2
import Derived.Test.YtnapicpeccjkoaaGraphOf
namespace Go.Proofs.Ytnapicpeccjkoaa
open Go.RowKit
set_option linter.unusedSimpArgs false
set_option linter.unusedVariables false

def adjB (l : List Nat) (i j : Nat) : Bool := isFace l (pr i j)
theorem adj_nbs {l : List Nat} {m i j : Nat} (hm : m ≤ 6) (hi : i < m) (hj : j < i) : (nbs (ofSize l 2) i).testBit j = adjB l i j := by
  have hE : ∀ t ∈ ofSize l 2, t < 64 ∧ isFace l t = true ∧ sz t = 2 := fun t ht => by
    unfold ofSize at ht
    rw [if_neg (by omega)] at ht
    exact mem_lvl.1 ht
  have h := nbs_pr (l := ofSize l 2) (i := i) (j := j) (by omega) (by omega) (fun t ht => (hE t ht).1) (fun t ht => (hE t ht).2.2)
  rw [Bool.eq_iff_iff, h]
  unfold adjB
  constructor
  · intro h; exact (hE _ h.2).2.1
  · intro h'
    refine ⟨by omega, ?_⟩
    unfold ofSize
    rw [if_neg (by omega)]
    exact mem_lvl.2 ⟨pr_lt (by omega) (by omega), h', pr_sz i (by omega) j (by omega) (by omega)⟩
theorem ofSize_lt {l : List Nat} : ∀ t ∈ ofSize l 2, t < 64 := fun t ht => by
  unfold ofSize at ht
  rw [if_neg (by omega)] at ht
  exact (mem_lvl.1 ht).1
/-- what FirstColoring hands back -/
def RetL2 (w : World) (ys : List Int) (b : Bool) (e : Ending) (w' : World) : Prop :=
  ∃ ad n c, e = .returned (.tuple #[.slice ad n c, .bool b]) ∧ Own 3 w' w.heap.size ad n c ys ∧ Below w.heap.size w w'
def FirP (p : Int) (xs : List Int) (k : Int) : Prop := Anti p xs ∧ 1 ≤ k ∧ k ≤ 6


end Go.Proofs.Ytnapicpeccjkoaa

/- Texts of this claim, one behind the other: what each says stands at its head. -/
import Derived.Deep.DeepCutAuto
import Derived.Test.YtihfhfihladlcaaGreatDoorChord
import Derived.Test.YtihfhfihladlcaaGreatDoorCore
import Derived.Test.YtihfhfihladlcaaGreatDoorFaces2
/- The search for a coloring: the program's colorFrom and the reference's l28Find. -/
namespace Go.Proofs.YtihfhfihladlcaaGreatDoor
set_option maxRecDepth 20000
open Go.RowKit
set_option linter.unusedSimpArgs false
set_option linter.unusedVariables false

/-- the colour x is free for the point behind h -/
def freeFor (adj : Nat → Nat → Bool) (h : List Nat) (x : Nat) : Bool := (List.range h.length).all fun j => !(adj h.length j && nthN h j == x)
/-- the first coloring that begins with h -/
def cfind (adj : Nat → Nat → Bool) (k : Nat) : Nat → List Nat → Option (List Nat)
  | 0, h => some h
  | r + 1, h => (List.range k).findSome? fun x => if freeFor adj h x then cfind adj k r (h ++ [x]) else none
theorem fs_at {α : Type} {f : Nat → Option α} {k X : Nat} {y : α} (h0 : ∀ x, x < X → f x = none) (hX : X < k) (h1 : f X = some y) : (List.range k).findSome? f = some y := by
  have e : List.range k = List.range X ++ (List.range (k - X)).map (X + ·) := by rw [← List.range_add]; congr 1; omega
  rw [e, List.findSome?_append]
  have h2 : (List.range X).findSome? f = none := by
    rw [List.findSome?_eq_none_iff]
    intro x hx; exact h0 x (List.mem_range.1 hx)
  rw [h2]
  obtain ⟨d, hd⟩ : ∃ d, k - X = d + 1 := ⟨k - X - 1, by omega⟩
  rw [hd, List.range_succ_eq_map]
  simp [h1]
theorem fs_none {α : Type} {f : Nat → Option α} {k : Nat} (h0 : ∀ x, x < k → f x = none) : (List.range k).findSome? f = none := by
  rw [List.findSome?_eq_none_iff]
  intro x hx; exact h0 x (List.mem_range.1 hx)
theorem cfind_len {adj : Nat → Nat → Bool} {k : Nat} : ∀ {r : Nat} {h L : List Nat}, cfind adj k r h = some L → L.length = h.length + r := by
  intro r
  induction r with
  | zero => intro h L e; unfold cfind at e; injection e with e; subst e; simp
  | succ r ih =>
    intro h L e
    unfold cfind at e
    obtain ⟨x, _, hx⟩ := List.exists_of_findSome?_eq_some e
    split at hx
    · have := ih hx; simp at this; omega
    · cases hx
/-- What a search hands back: the list and whether there is one. -/
def RetFind (w : World) (B : Nat) (res : Option (List Nat)) (e : Ending) (w' : World) : Prop :=
  ∃ ad n c, e = .returned (.tuple #[.slice ad n c, .bool res.isSome]) ∧ Own 3 w' B ad n c (up (res.getD [])) ∧ Below w.heap.size w w'

end Go.Proofs.YtihfhfihladlcaaGreatDoor

/- The program's colorFrom. -/
namespace Go.Proofs.YtihfhfihladlcaaGreatDoor
set_option maxRecDepth 20000
open Go.RowKit
set_option linter.unusedSimpArgs false
set_option linter.unusedVariables false

theorem take_set_succ {cs : List Nat} {i x : Nat} (hi : i < cs.length) : (cs.set i x).take (i + 1) = cs.take i ++ [x] := by
  apply List.ext_getElem
  · simp; omega
  · intro j h1 h2
    rw [List.getElem_take, List.getElem_set]
    by_cases hij : i = j
    · subst hij
      rw [if_pos rfl, List.getElem_append_right (by simp; omega)]
      simp
    · have hj : j < i := by simp at h1; omega
      rw [if_neg hij, List.getElem_append_left (by simp; omega), List.getElem_take]
end Go.Proofs.YtihfhfihladlcaaGreatDoor

/- Contracts of FirstColoring and LeastColors, the program's and the reference's. -/
namespace Go.Proofs.YtihfhfihladlcaaGreatDoor
set_option maxRecDepth 20000
open Go.RowKit
set_option linter.unusedSimpArgs false
set_option linter.unusedVariables false

def adjB (l : List Nat) (i j : Nat) : Bool := isFace l (pr i j)
theorem adj_nbs {l : List Nat} {m i j : Nat} (hm : m ≤ 6) (hi : i < m) (hj : j < i) : (nbs (ofSize l 2) i).testBit j = adjB l i j := by
  have hE : ∀ t ∈ ofSize l 2, t < 64 ∧ isFace l t = true ∧ sz t = 2 := fun t ht => by
    unfold ofSize at ht
    rw [if_neg (by omega)] at ht
    exact mem_lvl.1 ht
  have h := nbs_pr (l := ofSize l 2) (i := i) (j := j) (by omega) (by omega) (fun t ht => (hE t ht).1) (fun t ht => (hE t ht).2.2)
  rw [Bool.eq_iff_iff, h]
  unfold adjB
  constructor
  · intro h; exact (hE _ h.2).2.1
  · intro h'
    refine ⟨by omega, ?_⟩
    unfold ofSize
    rw [if_neg (by omega)]
    exact mem_lvl.2 ⟨pr_lt (by omega) (by omega), h', pr_sz i (by omega) j (by omega) (by omega)⟩
theorem ofSize_lt {l : List Nat} : ∀ t ∈ ofSize l 2, t < 64 := fun t ht => by
  unfold ofSize at ht
  rw [if_neg (by omega)] at ht
  exact (mem_lvl.1 ht).1
/-- what FirstColoring hands back -/
def RetL2 (w : World) (ys : List Int) (b : Bool) (e : Ending) (w' : World) : Prop :=
  ∃ ad n c, e = .returned (.tuple #[.slice ad n c, .bool b]) ∧ Own 3 w' w.heap.size ad n c ys ∧ Below w.heap.size w w'
def FirP (p : Int) (xs : List Int) (k : Int) : Prop := Anti p xs ∧ 1 ≤ k ∧ k ≤ 6


end Go.Proofs.YtihfhfihladlcaaGreatDoor

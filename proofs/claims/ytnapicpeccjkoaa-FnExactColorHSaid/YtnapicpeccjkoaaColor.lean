/- The search for a coloring: the program's colorFrom and the reference's l28Find. -/
import Derived.Test.YtnapicpeccjkoaaFaces4
import Derived.Test.YtnapicpeccjkoaaChord2
import Derived.Test.YtnapicpeccjkoaaStep2
import Derived.Deep.DeepCutAuto
namespace Go.Proofs.Ytnapicpeccjkoaa
open Go.RowKit
set_option linter.unusedSimpArgs false
set_option linter.unusedVariables false

/-- the colour x is free for the point behind h -/
def freeFor (adj : Nat → Nat → Bool) (h : List Nat) (x : Nat) : Bool := (List.range h.length).all fun j => !(adj h.length j && nthN h j == x)
/-- the first coloring that begins with h -/
def cfind (adj : Nat → Nat → Bool) (k : Nat) : Nat → List Nat → Option (List Nat)
  | 0, h => some h
  | r + 1, h => (List.range k).findSome? fun x => if freeFor adj h x then cfind adj k r (h ++ [x]) else none
theorem fs_at {α : Type} {f : Nat → Option α} {k X : Nat} {y : α} (h0 : ∀ x, x < X → f x = none) (hX : X < k) (h1 : f X = some y) : (List.range k).findSome? f = some y := by
  have e : List.range k = List.range X ++ (List.range (k - X)).map (X + ·) := by rw [← List.range_add]; congr 1; omega
  rw [e, List.findSome?_append]
  have h2 : (List.range X).findSome? f = none := by
    rw [List.findSome?_eq_none_iff]
    intro x hx; exact h0 x (List.mem_range.1 hx)
  rw [h2]
  obtain ⟨d, hd⟩ : ∃ d, k - X = d + 1 := ⟨k - X - 1, by omega⟩
  rw [hd, List.range_succ_eq_map]
  simp [h1]
theorem fs_none {α : Type} {f : Nat → Option α} {k : Nat} (h0 : ∀ x, x < k → f x = none) : (List.range k).findSome? f = none := by
  rw [List.findSome?_eq_none_iff]
  intro x hx; exact h0 x (List.mem_range.1 hx)
theorem cfind_len {adj : Nat → Nat → Bool} {k : Nat} : ∀ {r : Nat} {h L : List Nat}, cfind adj k r h = some L → L.length = h.length + r := by
  intro r
  induction r with
  | zero => intro h L e; unfold cfind at e; injection e with e; subst e; simp
  | succ r ih =>
    intro h L e
    unfold cfind at e
    obtain ⟨x, _, hx⟩ := List.exists_of_findSome?_eq_some e
    split at hx
    · have := ih hx; simp at this; omega
    · cases hx
/-- What a search hands back: the list and whether there is one. -/
def RetFind (w : World) (B : Nat) (res : Option (List Nat)) (e : Ending) (w' : World) : Prop :=
  ∃ ad n c, e = .returned (.tuple #[.slice ad n c, .bool res.isSome]) ∧ Own 3 w' B ad n c (up (res.getD [])) ∧ Below w.heap.size w w'

end Go.Proofs.Ytnapicpeccjkoaa

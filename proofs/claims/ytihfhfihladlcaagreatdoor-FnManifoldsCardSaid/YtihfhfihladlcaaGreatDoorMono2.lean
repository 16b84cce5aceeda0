/- Contracts of the program's addMonomials and of MonomialsOf, the program's and the reference's. -/
import Derived.Deep.RegionHeld3
import Derived.Deep.RegionLaw
import Derived.Test.YtihfhfihladlcaaGreatDoorCore
import Derived.Test.YtihfhfihladlcaaGreatDoorFaces
import Derived.Test.YtihfhfihladlcaaGreatDoorIdeal2
namespace Go.Proofs.YtihfhfihladlcaaGreatDoor
set_option maxRecDepth 20000
open Go.RowKit
set_option linter.unusedSimpArgs false
set_option linter.unusedVariables false

theorem Own2.set {w : World} {B U g : Nat} {a : Option Addr} {n c : Nat} {L : List (List Int)} (h : Own2 w B U a n c L) (hg : g < B) (v : Value) : Own2 (w.setCell ⟨g, 0, none⟩ v) B U a n c L := by
  obtain ⟨f, h⟩ := h
  exact ⟨f, h.pres fun k h1 _ _ => Below.heap_setCell _ _ _ _ (fun e => by simp only at e; omega)⟩

/-- the append of a row to a list of lists, as a step in a region that draws its order -/
theorem step_apl {ops : Array Oper} {o : Oper} {a : Act} {W : World} {K : Act → World → Prop} {Q : Exit → Act → World → Prop} {E : Prop} (hgd : o.guard = none) (s x : Operand)
    (ho : o.op = .call { callee := .builtin .append, args := #[s, x], argTypes := #[113, 113] })
    (B : Nat) (ad : Option Addr) (n c : Nat) (vs : List Value) (y : Value) (hs : a.eval s = .slice ad n c) (hown : Row 24 W B ad n c vs) (hy : y.oneCell' = true)
    (hx : a.eval x = .slice (some ⟨W.heap.size, 0, none⟩) 1 1) (hn : n < 1099511627776) (hB : B ≤ W.heap.size)
    (hK : ∀ ad' c' w', Row 24 w' B ad' (n + 1) c' (vs ++ [y]) → (W.alloc (.cells #[y] 24)).grownBy w' (Value.slice ad n c).ownBlock → (∀ b, ad' = some b → (∃ d, ad = some d ∧ b.block = d.block) ∨ (W.alloc (.cells #[y] 24)).heap.size ≤ b.block) → K (a.put o.dst (.slice ad' (n + 1 : Nat) c')) w') :
    if Region.wanted o (yielded ops a.tmps) = true then Oper.wp Tryz.prog o a (W.alloc (.cells #[y] 24)) K Q else E := by
  have hw : Region.wanted o (yielded ops a.tmps) = true := by simp [Region.wanted, hgd]
  rw [if_pos hw]
  obtain ⟨ad', c', w', hrun, h1, h2, h3⟩ := run_ap_l (W := W.alloc (.cells #[y] 24)) B o.type ad n c vs (hown.alloc _) ⟨W.heap.size, 0, none⟩ y (by rw [World.cell?_alloc_at _ _ _ _ rfl]; rfl) hy hn (by simp; omega)
  unfold Oper.wp
  simp only [execOp, ho, resolve, invoke, builtin, Sem.run_bind, Sem.run_pure, Result.andThen_ok, List.map_toArray, List.map_cons, List.map_nil, hs, hx, hrun]
  exact hK _ _ _ h1 h2 h3

end Go.Proofs.YtihfhfihladlcaaGreatDoor

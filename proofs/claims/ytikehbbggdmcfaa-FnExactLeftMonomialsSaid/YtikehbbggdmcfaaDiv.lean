/- Contracts of HasFace and of SubdivideAt, the program's and the reference's. -/
import Derived.Test.YtikehbbggdmcfaaFlipAt
namespace Go.Proofs.Ytikehbbggdmcfaa
open Go.RowKit
set_option linter.unusedSimpArgs false
set_option linter.unusedVariables false

/-- append of two numbers to a row of the call's own -/
theorem ap_two {ops : Array Oper} {rest : List Oper} {o : Oper} {a : Act} {Q : Exit → Act → World → Prop} {w0 : World} (hgd : o.guard = none) (s x : Operand)
    (ho : o.op = .call { callee := .builtin .append, args := #[s, x], argTypes := #[22, 22] })
    (B : Nat) (ad : Option Addr) (n c : Nat) (xs : List Int) (y1 y2 : Int) (hs : a.eval s = .slice ad n c) (hown : Own 3 w0 B ad n c xs)
    (hx : a.eval x = .slice (some ⟨w0.heap.size, 0, none⟩) 2 2) (hn : n < 1099511627776) (hB : B ≤ w0.heap.size)
    (h : ∀ ad' c' w', Own 3 w' B ad' (n + 2) c' (xs ++ [y1, y2]) → Below B w0 w' → wpList Try.prog ops Q rest (a.put o.dst (.slice ad' (n + 2 : Nat) c')) w') :
    wpList Try.prog ops Q (o :: rest) a (w0.alloc (.cells #[.int .i64 y1, .int .i64 y2] 3)) := by
  obtain ⟨i0, hi, hz0, hz1, hz2⟩ := info_parts infoInt
  refine wpList_append_own _ hgd s x 22 ho B 3 i0 (.int .i64 0) 1 8 Try.underlying22 hi hz0 hz1 hz2 rfl (by decide) _ n _ hs (hown.row.alloc _) ⟨w0.heap.size, 0, none⟩ 2 2 [.int .i64 y1, .int .i64 y2] hx rfl ?_ ?_ ?_ ?_ ?_ ?_
  · intro j u hj
    match j, hj with
    | 0, hj => simp at hj; subst hj; simp [Addr.add]
    | 1, hj => simp at hj; subst hj; simp [Addr.add]
  · intro u hu
    simp at hu
    rcases hu with rfl | rfl <;> rfl
  · unfold maxLen; omega
  · omega
  · simp; omega
  · intro v' w' hown' hgrow _
    have hl := hown.lt
    have hg0 : w0.grownBy w' (Value.slice ad n c).ownBlock :=
      ⟨hgrow.os, hgrow.tape, hgrow.output, by have := hgrow.size; simp at this; omega, fun k hk hne => (hgrow.block k (by simp; omega) hne).trans (Below.heap_alloc _ _ _ hk)⟩
    have hb : Below B w0 w' := (Below.refl B w0).grown hg0 hB (fun k hk => (hl k hk).1)
    have hv : ∃ ad' c', v' = .slice ad' (n + 2) c' := by
      rcases hown'.2 with ⟨_, h0⟩ | ⟨g, cap, cur, hv, _⟩
      · omega
      · exact ⟨_, _, hv⟩
    obtain ⟨ad', c', rfl⟩ := hv
    exact h ad' c' w' ⟨by rw [List.length_map, List.length_append, hown.len]; rfl, by unfold Own at *; rw [List.map_append]; exact hown'⟩ hb

/-- a face of a complex -/
def HasP (p : Int) (xs : List Int) (s : Int) : Prop := ∃ (l : List Nat) (u : Nat), xs = up l ∧ Anti p (up l) ∧ s = u ∧ u < 64 ∧ isFace l u = true
theorem HasP.anti {p : Int} {xs : List Int} {s : Int} (h : HasP p xs s) : Anti p xs := by obtain ⟨l, u, rfl, h, _⟩ := h; exact h
theorem HasP.iff {p : Int} {l : List Nat} {u : Nat} (hA : Anti p (up l)) (hu : u < 64) : HasP p (up l) u ↔ isFace l u = true := by
  constructor
  · rintro ⟨l', u', h1, _, h2, _, h⟩
    have := up_inj h1; subst this
    obtain rfl : u = u' := by omega
    exact h
  · intro h; exact ⟨l, u, rfl, hA, rfl, hu, h⟩
theorem isFace_lt {l : List Nat} {N s : Nat} (h : isFace l s = true) (hl : ∀ t ∈ l, t < N) : s < N := by
  obtain ⟨f, hf, hs⟩ := isFace_iff.1 h
  exact sub_lt hs (hl f hf)

end Go.Proofs.Ytikehbbggdmcfaa

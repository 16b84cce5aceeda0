/- The append of a whole list as a step, telling what else it leaves alone. -/
import Derived.Test.YtpoolkmcbeghjaaStep
namespace Go.Proofs.Ytpoolkmcbeghjaa
open Go.RowKit
set_option linter.unusedSimpArgs false
set_option linter.unusedVariables false

theorem run_ap_g {W : World} (B ty : Nat) (ad : Option Addr) (n c : Nat) (xs : List Int) (hown : Own 3 W B ad n c xs) (ad2 : Option Addr) (m d : Nat) (ys : List Int) (hx : IntsAt W ad2 m ys) (hf : Fit ad2 m d)
    (hn : n + m < 1099511627776) (hB : B ≤ W.heap.size) :
    ∃ ad' c' w', (Builtin.append_ #[22, 22] ty #[.slice ad n c, .slice ad2 m d]).run Try.prog W = .ok (.slice ad' (n + m : Nat) c') w' ∧ Own 3 w' B ad' (n + m) c' (xs ++ ys) ∧ Below B W w' ∧ W.grownBy w' (Value.slice ad n c).ownBlock := by
  obtain ⟨i0, hi, hz0, hz1, hz2⟩ := info_parts infoInt
  cases ad2 with
  | none =>
    have hd := hf.nil rfl
    have hm : m = 0 := by have := hf.cap; omega
    subst hm; subst hd
    have hys : ys = [] := List.eq_nil_of_length_eq_zero hx.len
    subst hys
    exact ⟨ad, c, W, run_append_owned_none (P := Try.prog) (w := W) B 22 ty 3 i0 1 Try.underlying22 hi _ n _ hown.row, by simpa using hown, Below.refl _ _, ⟨rfl, rfl, rfl, Nat.le_refl _, fun _ _ _ => rfl⟩⟩
  | some g =>
    have hnews : ∀ j u, (ys.map (Value.int .i64))[j]? = some u → W.cell? (g.add j) = some u := by
      intro j u hj
      have hlt : j < m := by
        rw [← hx.len]
        have := List.getElem?_eq_some_iff.1 hj
        obtain ⟨h, _⟩ := this
        simpa using h
      obtain ⟨b, off, hg, hc⟩ := hx.cells (by omega)
      cases hg
      rw [WideShapes.add_plain]
      rw [hc j hlt]
      rw [List.getElem?_map, List.getElem?_eq_getElem (by rw [hx.len]; exact hlt)] at hj
      rw [nth_eq (by rw [hx.len]; exact hlt)]
      exact hj
    have h1 : ∀ u ∈ ys.map (Value.int .i64), u.oneCell' = true := by
      intro u hu
      obtain ⟨x, _, rfl⟩ := List.mem_map.1 hu
      rfl
    obtain ⟨v', w', hr, h2, h3, h4, h5⟩ := run_append_own_at (P := Try.prog) W B 22 ty 3 i0 (.int .i64 0) 1 8 Try.underlying22 hi hz0 hz1 hz2 rfl (by decide) (.slice ad n c) n _ hown.row g m d (ys.map (Value.int .i64)) (by simp [hx.len]) hnews h1 (by unfold maxLen; omega) (by omega) hB
    have hl := hown.lt
    have hb : Below B W w' := (Below.refl B W).grown h3 hB (fun k hk => (hl k hk).1)
    have hv : ∃ ad' c', v' = .slice ad' (n + m) c' := by
      rcases h2.2 with ⟨hv, h0⟩ | ⟨g, cap, cur, hv, _⟩
      · exact ⟨none, 0, by rw [hv, h0]⟩
      · exact ⟨_, _, hv⟩
    obtain ⟨ad', c', rfl⟩ := hv
    exact ⟨ad', c', w', hr, ⟨by simp [hown.len, hx.len], by rw [List.map_append]; exact h2⟩, hb, h3⟩

theorem step_ap_g {ops : Array Oper} {o : Oper} {a : Act} {W : World} {K : Act → World → Prop} {Q : Exit → Act → World → Prop} {E : Prop} (hgd : o.guard = none) (s x : Operand)
    (ho : o.op = .call { callee := .builtin .append, args := #[s, x], argTypes := #[22, 22] })
    (B : Nat) (ad : Option Addr) (n c : Nat) (xs : List Int) (hs : a.eval s = .slice ad n c) (hown : Own 3 W B ad n c xs)
    (ad2 : Option Addr) (m d : Nat) (ys : List Int) (hx : a.eval x = .slice ad2 m d) (hy : IntsAt W ad2 m ys) (hf : Fit ad2 m d)
    (hn : n + m < 1099511627776) (hB : B ≤ W.heap.size)
    (hK : ∀ ad' c' w', Own 3 w' B ad' (n + m) c' (xs ++ ys) → Below B W w' → W.grownBy w' (Value.slice ad n c).ownBlock → K (a.put o.dst (.slice ad' (n + m : Nat) c')) w') :
    if Region.wanted o (yielded ops a.tmps) = true then Oper.wp Try.prog o a W K Q else E := by
  have hw : Region.wanted o (yielded ops a.tmps) = true := by simp [Region.wanted, hgd]
  rw [if_pos hw]
  obtain ⟨ad', c', w', hrun, h1, h2, h3⟩ := run_ap_g B o.type ad n c xs hown ad2 m d ys hy hf hn hB
  unfold Oper.wp
  simp only [execOp, ho, resolve, invoke, builtin, Sem.run_bind, Sem.run_pure, Result.andThen_ok, List.map_toArray, List.map_cons, List.map_nil, hs, hx, hrun]
  exact hK _ _ _ h1 h2 h3

theorem IntsAt.grown {w w' : World} {row : Option Nat} {a : Option Addr} {n : Nat} {xs : List Int} (h : IntsAt w a n xs) (hg : w.grownBy w' row) (hne : ∀ b, a = some b → row ≠ some b.block) : IntsAt w' a n xs := by
  refine ⟨h.len, h.small, fun hn => ?_⟩
  obtain ⟨b, off, ha, hc⟩ := h.cells hn
  refine ⟨b, off, ha, fun i hi => ?_⟩
  have hlt : b < w.heap.size := World.block_lt_of_cell? w _ (hc i hi)
  exact (World.cell?_of_block (a := ⟨b, off + i, none⟩) (hg.block b hlt fun e => hne _ ha e.symm)).trans (hc i hi)
end Go.Proofs.Ytpoolkmcbeghjaa

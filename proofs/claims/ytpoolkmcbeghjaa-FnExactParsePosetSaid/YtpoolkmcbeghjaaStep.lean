/- The append of a whole list, at the builtin itself, as one step inside a region that draws its order, and in a plain region. -/
import Derived.Test.YtpoolkmcbeghjaaCore
import Derived.Maps.AppendAt
import Derived.Laws.OwnMore
import Derived.Deep.RegionHeld3
namespace Go.Proofs.Ytpoolkmcbeghjaa
open Go.RowKit
set_option linter.unusedSimpArgs false
set_option linter.unusedVariables false

theorem run_ap_all {W : World} (B ty : Nat) (ad : Option Addr) (n c : Nat) (xs : List Int) (hown : Own 3 W B ad n c xs) (ad2 : Option Addr) (m d : Nat) (ys : List Int) (hx : IntsAt W ad2 m ys) (hf : Fit ad2 m d)
    (hn : n + m < 1099511627776) (hB : B ≤ W.heap.size) :
    ∃ ad' c' w', (Builtin.append_ #[22, 22] ty #[.slice ad n c, .slice ad2 m d]).run Try.prog W = .ok (.slice ad' (n + m : Nat) c') w' ∧ Own 3 w' B ad' (n + m) c' (xs ++ ys) ∧ Below B W w' := by
  obtain ⟨i0, hi, hz0, hz1, hz2⟩ := info_parts infoInt
  cases ad2 with
  | none =>
    have hd := hf.nil rfl
    have hm : m = 0 := by have := hf.cap; omega
    subst hm; subst hd
    have hys : ys = [] := List.eq_nil_of_length_eq_zero hx.len
    subst hys
    exact ⟨ad, c, W, run_append_owned_none (P := Try.prog) (w := W) B 22 ty 3 i0 1 Try.underlying22 hi _ n _ hown.row, by simpa using hown, Below.refl _ _⟩
  | some g =>
    have hnews : ∀ j u, (ys.map (Value.int .i64))[j]? = some u → W.cell? (g.add j) = some u := by
      intro j u hj
      have hlt : j < m := by
        rw [← hx.len]
        have := List.getElem?_eq_some_iff.1 hj
        obtain ⟨h, _⟩ := this
        simpa using h
      obtain ⟨b, off, hg, hc⟩ := hx.cells (by omega)
      cases hg
      rw [WideShapes.add_plain]
      rw [hc j hlt]
      rw [List.getElem?_map, List.getElem?_eq_getElem (by rw [hx.len]; exact hlt)] at hj
      rw [nth_eq (by rw [hx.len]; exact hlt)]
      exact hj
    have h1 : ∀ u ∈ ys.map (Value.int .i64), u.oneCell' = true := by
      intro u hu
      obtain ⟨x, _, rfl⟩ := List.mem_map.1 hu
      rfl
    obtain ⟨v', w', hr, h2, h3, h4, h5⟩ := run_append_own_at (P := Try.prog) W B 22 ty 3 i0 (.int .i64 0) 1 8 Try.underlying22 hi hz0 hz1 hz2 rfl (by decide) (.slice ad n c) n _ hown.row g m d (ys.map (Value.int .i64)) (by simp [hx.len]) hnews h1 (by unfold maxLen; omega) (by omega) hB
    have hl := hown.lt
    have hb : Below B W w' := (Below.refl B W).grown h3 hB (fun k hk => (hl k hk).1)
    have hv : ∃ ad' c', v' = .slice ad' (n + m) c' := by
      rcases h2.2 with ⟨hv, h0⟩ | ⟨g, cap, cur, hv, _⟩
      · exact ⟨none, 0, by rw [hv, h0]⟩
      · exact ⟨_, _, hv⟩
    obtain ⟨ad', c', rfl⟩ := hv
    exact ⟨ad', c', w', hr, ⟨by simp [hown.len, hx.len], by rw [List.map_append]; exact h2⟩, hb⟩

theorem step_ap {ops : Array Oper} {o : Oper} {a : Act} {W : World} {K : Act → World → Prop} {Q : Exit → Act → World → Prop} {E : Prop} (hgd : o.guard = none) (s x : Operand)
    (ho : o.op = .call { callee := .builtin .append, args := #[s, x], argTypes := #[22, 22] })
    (B : Nat) (ad : Option Addr) (n c : Nat) (xs : List Int) (hs : a.eval s = .slice ad n c) (hown : Own 3 W B ad n c xs)
    (ad2 : Option Addr) (m d : Nat) (ys : List Int) (hx : a.eval x = .slice ad2 m d) (hy : IntsAt W ad2 m ys) (hf : Fit ad2 m d)
    (hn : n + m < 1099511627776) (hB : B ≤ W.heap.size)
    (hK : ∀ ad' c' w', Own 3 w' B ad' (n + m) c' (xs ++ ys) → Below B W w' → K (a.put o.dst (.slice ad' (n + m : Nat) c')) w') :
    if Region.wanted o (yielded ops a.tmps) = true then Oper.wp Try.prog o a W K Q else E := by
  have hw : Region.wanted o (yielded ops a.tmps) = true := by simp [Region.wanted, hgd]
  rw [if_pos hw]
  obtain ⟨ad', c', w', hrun, h1, h2⟩ := run_ap_all B o.type ad n c xs hown ad2 m d ys hy hf hn hB
  unfold Oper.wp
  simp only [execOp, ho, resolve, invoke, builtin, Sem.run_bind, Sem.run_pure, Result.andThen_ok, List.map_toArray, List.map_cons, List.map_nil, hs, hx, hrun]
  exact hK _ _ _ h1 h2

theorem list_ap {ops : Array Oper} {rest : List Oper} {o : Oper} {a : Act} {Q : Exit → Act → World → Prop} {W : World} (hgd : o.guard = none) (s x : Operand)
    (ho : o.op = .call { callee := .builtin .append, args := #[s, x], argTypes := #[22, 22] })
    (B : Nat) (ad : Option Addr) (n c : Nat) (xs : List Int) (hs : a.eval s = .slice ad n c) (hown : Own 3 W B ad n c xs)
    (ad2 : Option Addr) (m d : Nat) (ys : List Int) (hx : a.eval x = .slice ad2 m d) (hy : IntsAt W ad2 m ys) (hf : Fit ad2 m d)
    (hn : n + m < 1099511627776) (hB : B ≤ W.heap.size)
    (h : ∀ ad' c' w', Own 3 w' B ad' (n + m) c' (xs ++ ys) → Below B W w' → wpList Try.prog ops Q rest (a.put o.dst (.slice ad' (n + m : Nat) c')) w') :
    wpList Try.prog ops Q (o :: rest) a W := by
  refine wpList_plain hgd fun K hK => ?_
  obtain ⟨ad', c', w', hrun, h1, h2⟩ := run_ap_all B o.type ad n c xs hown ad2 m d ys hy hf hn hB
  unfold Oper.wp execOp
  simp only [ho, resolve, invoke, builtin, Sem.run_bind, Sem.run_pure, Result.andThen_ok, List.map_toArray, List.map_cons, List.map_nil, hs, hx, hrun]
  exact hK _ _ (h _ _ _ h1 h2)

/-- the element that an append lays in a block of its own -/
theorem IntsAt.one (w : World) (y : Int) (T : Nat) : IntsAt (w.alloc (.cells #[.int .i64 y] T)) (some ⟨w.heap.size, 0, none⟩) 1 [y] := by
  refine ⟨rfl, by omega, fun _ => ⟨w.heap.size, 0, rfl, fun i hi => ?_⟩⟩
  obtain rfl : i = 0 := by omega
  simp [nth]
theorem Fit.one (g : Addr) : Fit (some g) 1 1 := ⟨Nat.le_refl _, fun h => by cases h⟩

end Go.Proofs.Ytpoolkmcbeghjaa

/- A list of lists of numbers, of the call's own: how it is made and how a number is appended to one of its lists. It holds for every program with these types. -/
import Derived.Test.YtpoolkmcbeghjaaStep
namespace Go.Proofs.Ytpoolkmcbeghjaa
open Go.RowKit
set_option linter.unusedSimpArgs false
set_option linter.unusedVariables false

abbrev Sl := Option Addr × Nat × Nat
def Sl.val (x : Sl) : Value := .slice x.1 x.2.1 x.2.2

/-- The block g holds n lists, the i-th lies at f i and is L i; all lie in blocks of their own. -/
structure Grid (w : World) (B g n : Nat) (f : Nat → Sl) (L : Nat → List Int) : Prop where
  row : Row 22 w B (some ⟨g, 0, none⟩) n n ((List.range n).map fun i => (f i).val)
  own : ∀ i, i < n → Own 3 w B (f i).1 (f i).2.1 (f i).2.2 (L i)
  far : ∀ i, i < n → ∀ b, (f i).1 = some b → b.block ≠ g
  apart : ∀ i j, i < n → j < n → i ≠ j → ∀ b c, (f i).1 = some b → (f j).1 = some c → b.block ≠ c.block

section
variable {w w' : World} {B g n : Nat} {f : Nat → Sl} {L : Nat → List Int}

theorem Grid.keep (h : Grid w B g n f L) (hb : Below w.heap.size w w') : Grid w' B g n f L :=
  ⟨h.row.keep hb, fun i hi => (h.own i hi).keep hb, h.far, h.apart⟩
theorem Grid.alloc (h : Grid w B g n f L) (o : Obj) : Grid (w.alloc o) B g n f L := ⟨h.row.alloc o, fun i hi => (h.own i hi).alloc o, h.far, h.apart⟩

theorem Grid.glt (h : Grid w B g n f L) : B ≤ g ∧ g < w.heap.size := h.row.lt g rfl
/-- what the outer block's cells hold -/
theorem Grid.cell (h : Grid w B g n f L) {i : Nat} (hi : i < n) : w.cell? ⟨g, i, none⟩ = some (f i).val := by
  obtain ⟨g', hg, _, _, hc, _⟩ := h.row.cells (by omega)
  cases hg
  rw [hc i hi, List.getElem?_map, List.getElem?_range hi]; rfl
theorem Grid.frozen (h : Grid w B g n f L) {i : Nat} (hi : i < n) : w.frozen? ⟨g, i, none⟩ = false := by
  obtain ⟨g', hg, _, _, _, hf⟩ := h.row.cells (by omega)
  cases hg
  exact hf i

theorem ownBlock_some {a : Option Addr} {m c k : Nat} (h : (Value.slice a m c).ownBlock = some k) : ∃ b, a = some b ∧ b.block = k := by
  cases a with
  | none => cases h
  | some b => exact ⟨b, rfl, by injection h⟩

/-- one list has grown; nothing else has changed, but for new blocks -/
theorem Grid.step (h : Grid w B g n f L) {k : Nat} (hk : k < n) {x : Sl} {xs : List Int} (hown : Own 3 w' B x.1 x.2.1 x.2.2 xs)
    (hg : w.grownBy w' (f k).val.ownBlock) (hnew : ∀ b, x.1 = some b → (∃ c, (f k).1 = some c ∧ b.block = c.block) ∨ w.heap.size ≤ b.block) :
    Grid (w'.setCell ⟨g, k, none⟩ x.val) B g n (fun i => if i = k then x else f i) (fun i => if i = k then xs else L i) := by
  have hgl := h.glt
  have hfar : ∀ b, x.1 = some b → b.block ≠ g := fun b hb e => by
    rcases hnew b hb with ⟨c, hc, hbc⟩ | hge
    · exact h.far k hk c hc (by rw [← hbc]; exact e)
    · omega
  refine ⟨?_, ?_, ?_, ?_⟩
  · have h1 : Row 22 w' B (some ⟨g, 0, none⟩) n n ((List.range n).map fun i => (f i).val) := h.row.other fun g' hg' _ => by
      cases hg'
      refine hg.block g hgl.2 fun e => ?_
      obtain ⟨b, hb, hbg⟩ := ownBlock_some e.symm
      exact h.far k hk b hb hbg
    have h2 := h1.set k x.val
    have e : ((List.range n).map fun i => (f i).val).set k x.val = (List.range n).map fun i => (if i = k then x else f i).val := by
      apply List.ext_getElem (by simp)
      intro i h1 h2
      rw [List.getElem_set]
      by_cases hik : k = i
      · subst hik; simp
      · have hki : ¬ i = k := fun e => hik e.symm
        simp [hik, hki]
    rw [e] at h2
    exact h2
  · intro i hi
    by_cases hik : i = k
    · subst hik
      simp only [if_true]
      refine hown.setOther _ fun e => hfar _ e rfl
    · simp only [if_neg hik]
      have h1 : Own 3 w' B (f i).1 (f i).2.1 (f i).2.2 (L i) := (h.own i hi).grownNe hg fun q hq q2 hq2 e => by
        obtain ⟨b, hb, hbq⟩ := ownBlock_some hq
        obtain ⟨c, hc, hcq⟩ := ownBlock_some hq2
        exact h.apart i k hi hk hik c b hc hb (by rw [hcq, hbq]; exact e)
      exact h1.setOther _ fun e => h.far i hi _ e rfl
  · intro i hi b hb
    by_cases hik : i = k
    · simp only [hik, if_true] at hb; exact hfar b hb
    · simp only [if_neg hik] at hb; exact h.far i hi b hb
  · intro i j hi hj hij b c hb hc
    by_cases hik : i = k
    · subst hik
      have hji : ¬ j = i := fun e => hij e.symm
      simp only [if_true] at hb
      simp only [if_neg hji] at hc
      rcases hnew b hb with ⟨d, hd, hbd⟩ | hge
      · rw [hbd]; exact h.apart i j hi hj hij d c hd hc
      · have := (h.own j hj).lt c.block (by rw [hc]; rfl)
        omega
    · simp only [if_neg hik] at hb
      by_cases hjk : j = k
      · subst hjk
        simp only [if_true] at hc
        rcases hnew c hc with ⟨d, hd, hbd⟩ | hge
        · rw [hbd]; exact h.apart i j hi hj hij b d hb hd
        · have := (h.own i hi).lt b.block (by rw [hb]; rfl)
          omega
      · simp only [if_neg hjk] at hc
        exact h.apart i j hi hj hij b c hb hc
end

theorem infoInts : (Try.prog.info? 22).map (fun i => (i.zero, i.size, i.bytes)) = some (some (.slice none 0 0), 1, 24) := by kernel_rfl
/-- make of a list of lists, all nil -/
theorem mk_grid {ops : Array Oper} {rest : List Oper} {o : Oper} {a : Act} {Q : Exit → Act → World → Prop} {w : World} (hgd : o.guard = none) (l c : Operand) (ho : o.op = Op.makeSlice 36 l c)
    (M : Int) (hl : a.eval l = .int .i64 M) (hc : a.eval c = .int .i64 M) (n : Nat) (hM : M = (n : Int)) (hn : n < 1099511627776)
    (h : ∀ g w', Grid w' w.heap.size g n (fun _ => (none, 0, 0)) (fun _ => []) → Below w.heap.size w w' → wpList Try.prog ops Q rest (a.put o.dst (.slice (some ⟨g, 0, none⟩) n n)) w') :
    wpList Try.prog ops Q (o :: rest) a w := by
  obtain ⟨i0, hi, hz0, hz1, hz2⟩ := info_parts infoInts
  refine wpList_make_full w hgd l c 36 ho w.heap.size 22 i0 (.slice none 0 0) 1 Try.underlying36 hi hz0 hz1 .i64 .i64 M M n hl hc hM hM (by rw [hz2]; omega) (by unfold maxLen; omega) (Nat.le_refl _) ?_
  intro w' hrow hg
  rw [toList_made (.slice none 0 0) rfl] at hrow
  refine h _ w' ⟨⟨by simp, ?_⟩, fun i _ => Own.nil _ _ _, fun i _ b hb => (by cases hb), fun i j _ _ _ b c hb => (by cases hb)⟩ ((Below.refl _ _).grown hg (Nat.le_refl _) (fun k hk => by cases hk))
  have e : (List.range n).map (fun i => Sl.val ((fun _ => ((none, 0, 0) : Sl)) i)) = List.replicate n (Value.slice none 0 0) := by
    apply List.ext_getElem (by simp)
    intro i h1 h2
    simp [Sl.val]
  rw [e]; exact hrow

/-- append of one number to a row of the call's own, telling where the new row lies -/
theorem ap_at {ops : Array Oper} {rest : List Oper} {o : Oper} {a : Act} {Q : Exit → Act → World → Prop} {w0 : World} (hgd : o.guard = none) (s x : Operand)
    (ho : o.op = .call { callee := .builtin .append, args := #[s, x], argTypes := #[22, 22] })
    (B : Nat) (ad : Option Addr) (n c : Nat) (xs : List Int) (y : Int) (hs : a.eval s = .slice ad n c) (hown : Own 3 w0 B ad n c xs)
    (hx : a.eval x = .slice (some ⟨w0.heap.size, 0, none⟩) 1 1) (hn : n < 1099511627776) (hB : B ≤ w0.heap.size)
    (h : ∀ ad' c' w', Own 3 w' B ad' (n + 1) c' (xs ++ [y]) → Below B w0 w' → w0.grownBy w' (Value.slice ad n c).ownBlock → (∀ b, ad' = some b → (∃ d, ad = some d ∧ b.block = d.block) ∨ w0.heap.size ≤ b.block) → wpList Try.prog ops Q rest (a.put o.dst (.slice ad' (n + 1 : Nat) c')) w') :
    wpList Try.prog ops Q (o :: rest) a (w0.alloc (.cells #[.int .i64 y] 3)) := by
  obtain ⟨i0, hi, hz0, hz1, hz2⟩ := info_parts infoInt
  refine wpList_append_own_at (P := Try.prog) (w0.alloc (.cells #[.int .i64 y] 3)) hgd s x 22 ho B 3 i0 (.int .i64 0) 1 8 Try.underlying22 hi hz0 hz1 hz2 rfl (by decide) _ n _ hs (hown.row.alloc _) ⟨w0.heap.size, 0, none⟩ 1 1 [.int .i64 y] hx rfl ?_ ?_ ?_ ?_ ?_ ?_
  · intro j u hj
    match j, hj with
    | 0, hj => simp at hj; subst hj; simp [Addr.add]
  · intro u hu; simp at hu; subst hu; rfl
  · unfold maxLen; omega
  · omega
  · simp; omega
  · intro v' w' hown' hgrow _ h5
    have hl := hown.lt
    have hg0 : w0.grownBy w' (Value.slice ad n c).ownBlock :=
      ⟨hgrow.os, hgrow.tape, hgrow.output, by have := hgrow.size; simp at this; omega, fun k hk hne => (hgrow.block k (by simp; omega) hne).trans (Below.heap_alloc _ _ _ hk)⟩
    have hb : Below B w0 w' := (Below.refl B w0).grown hg0 hB (fun k hk => (hl k hk).1)
    have hv : ∃ ad' c', v' = .slice ad' (n + 1) c' := by
      rcases hown'.2 with ⟨_, h0⟩ | ⟨g, cap, cur, hv, _⟩
      · omega
      · exact ⟨_, _, hv⟩
    obtain ⟨ad', c', rfl⟩ := hv
    refine h ad' c' w' ⟨by simp [hown.len], by rw [List.map_append]; exact hown'⟩ hb hg0 fun b hb => ?_
    subst hb
    rcases h5 with h5 | h5
    · obtain ⟨d, hd, hdb⟩ := ownBlock_some h5.symm
      exact .inl ⟨d, hd, hdb.symm⟩
    · right
      have : b.block = (w0.alloc (.cells #[.int .i64 y] 3)).heap.size := by simpa [Value.ownBlock] using h5
      simp at this; omega

end Go.Proofs.Ytpoolkmcbeghjaa

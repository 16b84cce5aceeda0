/- Lists of lists of numbers that a call hands out: where they lie, how one is appended, and the laws' functions that compare, mark and read them. -/
import Derived.Test.YtpoolkmcbeghjaaGrid
import Derived.Test.YtpoolkmcbeghjaaHelp
import Derived.Deep.RegionWith
import Derived.Deep.RegionHeld3
namespace Go.Proofs.Ytpoolkmcbeghjaa
set_option maxRecDepth 20000
open Go.RowKit
set_option linter.unusedSimpArgs false
set_option linter.unusedVariables false

def nthL (L : List (List Int)) (i : Nat) : List Int := L.getD i []
theorem nthL_at {L : List (List Int)} {i : Nat} (h : i < L.length) : nthL L i = L[i] := by
  unfold nthL; rw [List.getD_eq_getElem?_getD, List.getElem?_eq_getElem h]; rfl
theorem nthL_left {L M : List (List Int)} {i : Nat} (h : i < L.length) : nthL (L ++ M) i = nthL L i := by
  rw [nthL_at h, nthL_at (by rw [List.length_append]; omega), List.getElem_append_left h]
theorem nthL_last (L : List (List Int)) (x : List Int) : nthL (L ++ [x]) L.length = x := by
  rw [nthL_at (by simp)]; simp

/-- n lists, the i-th at f i; all in blocks of their own from B on and below U -/
structure O2 (w : World) (B U : Nat) (a : Option Addr) (n c : Nat) (f : Nat → Sl) (L : List (List Int)) : Prop where
  len : L.length = n
  row : Row 22 w B a n c ((List.range n).map fun i => (f i).val)
  own : ∀ i, i < n → Own 3 w B (f i).1 (f i).2.1 (f i).2.2 (nthL L i)
  far : ∀ i, i < n → ∀ b d, (f i).1 = some b → a = some d → b.block ≠ d.block
  apart : ∀ i j, i < n → j < n → i ≠ j → ∀ b d, (f i).1 = some b → (f j).1 = some d → b.block ≠ d.block
  hi : ∀ d, a = some d → d.block < U
  his : ∀ i, i < n → ∀ b, (f i).1 = some b → b.block < U
/-- .. wherever the lists lie -/
def Own2 (w : World) (B U : Nat) (a : Option Addr) (n c : Nat) (L : List (List Int)) : Prop := ∃ f, O2 w B U a n c f L

section
variable {w w' : World} {B U : Nat} {a : Option Addr} {n c : Nat} {f : Nat → Sl} {L : List (List Int)}
theorem O2.pres (h : O2 w B U a n c f L) (hp : ∀ k, B ≤ k → k < U → k < w.heap.size → w'.heap[k]? = w.heap[k]?) : O2 w' B U a n c f L :=
  ⟨h.len, h.row.other fun g hg hl => hp g (h.row.lt g (by rw [hg]; rfl)).1 (h.hi _ hg) hl,
    fun i hi => Row.other (h.own i hi) fun g hg hl => hp g ((h.own i hi).lt g (by rw [hg]; rfl)).1 (h.his i hi _ hg) hl, h.far, h.apart, h.hi, h.his⟩
theorem O2.up {U' : Nat} (h : O2 w B U a n c f L) (hU : U ≤ U') : O2 w B U' a n c f L :=
  ⟨h.len, h.row, h.own, h.far, h.apart, fun d hd => Nat.lt_of_lt_of_le (h.hi d hd) hU, fun i hi b hb => Nat.lt_of_lt_of_le (h.his i hi b hb) hU⟩
theorem O2.mono {B' : Nat} (h : O2 w B U a n c f L) (hB : B' ≤ B) : O2 w B' U a n c f L :=
  ⟨h.len, h.row.mono hB, fun i hi => (h.own i hi).mono hB, h.far, h.apart, h.hi, h.his⟩
theorem O2.nil (w : World) (B U : Nat) : O2 w B U none 0 0 (fun _ => (none, 0, 0)) [] :=
  ⟨rfl, Row.nil _ _ _, fun i hi => absurd hi (Nat.not_lt_zero _), fun i hi => absurd hi (Nat.not_lt_zero _), fun i j hi => absurd hi (Nat.not_lt_zero _), (fun d hd => by cases hd), fun i hi => absurd hi (Nat.not_lt_zero _)⟩
theorem O2.empty (w : World) (B : Nat) (hB : B ≤ w.heap.size) : O2 (w.alloc (.cells #[] 22)) B (w.heap.size + 1) (some ⟨w.heap.size, 0, none⟩) 0 0 (fun _ => (none, 0, 0)) [] :=
  ⟨rfl, ⟨rfl, World.ownsRow_made w #[] 0 hB (by decide) (by simp)⟩, fun i hi => absurd hi (Nat.not_lt_zero _), fun i hi => absurd hi (Nat.not_lt_zero _), fun i j hi => absurd hi (Nat.not_lt_zero _), (fun d hd => by cases hd; simp), fun i hi => absurd hi (Nat.not_lt_zero _)⟩
theorem O2.cell (h : O2 w B U a n c f L) {i : Nat} (hi : i < n) : ∃ g, a = some ⟨g, 0, none⟩ ∧ w.cell? ⟨g, i, none⟩ = some (f i).val := by
  obtain ⟨g, hg, _, _, hc, _⟩ := h.row.cells (by omega)
  exact ⟨g, hg, by rw [hc i hi, List.getElem?_map, List.getElem?_range hi]; rfl⟩
theorem Own2.keep (h : Own2 w B U a n c L) (hb : Below w.heap.size w w') : Own2 w' B U a n c L := by
  obtain ⟨f, h⟩ := h
  exact ⟨f, h.pres fun k _ _ hk => hb.block k hk⟩
theorem Own2.mono {B' : Nat} (h : Own2 w B U a n c L) (hB : B' ≤ B) : Own2 w B' U a n c L := by
  obtain ⟨f, h⟩ := h
  exact ⟨f, h.mono hB⟩
theorem Own2.lt (h : Own2 w B U a n c L) : ∀ k, (Value.slice a n c).ownBlock = some k → B ≤ k ∧ k < w.heap.size := by
  obtain ⟨f, h⟩ := h
  exact h.row.lt
theorem Own2.len (h : Own2 w B U a n c L) : L.length = n := by
  obtain ⟨f, h⟩ := h
  exact h.len
/-- another row was written to -/
theorem Own2.grown2 {row : Option Nat} (h : Own2 w B U a n c L) (hg : w.grownBy w' row) (hne : ∀ k, row = some k → k < B ∨ U ≤ k) : Own2 w' B U a n c L := by
  obtain ⟨f, h⟩ := h
  exact ⟨f, h.pres fun k h1 h2 h3 => hg.block k h3 fun e => by
    have := hne k e.symm
    omega⟩
end
/-- nothing that was there has changed, but for blocks from B on and below U -/
structure Within (w w' : World) (B U : Nat) : Prop where
  os : w'.os = w.os
  tape : w'.tape = w.tape
  output : w'.output = w.output
  size : w.heap.size ≤ w'.heap.size
  block : ∀ k, k < w.heap.size → (k < B ∨ U ≤ k) → w'.heap[k]? = w.heap[k]?
theorem Within.refl (w : World) (B U : Nat) : Within w w B U := ⟨rfl, rfl, rfl, Nat.le_refl _, fun _ _ _ => rfl⟩
theorem Within.grown {w w' w2 : World} {B U : Nat} {row : Option Nat} (h : Within w w' B U) (hg : w'.grownBy w2 row) (hr : ∀ k, row = some k → B ≤ k ∧ k < U) : Within w w2 B U :=
  ⟨hg.os.trans h.os, hg.tape.trans h.tape, hg.output.trans h.output, Nat.le_trans h.size hg.size, fun k hk ho => (hg.block k (Nat.lt_of_lt_of_le hk h.size) (fun e => by have := hr k e.symm; omega)).trans (h.block k hk ho)⟩
theorem Own2.within {w w' : World} {B U B' U' : Nat} {a : Option Addr} {n c : Nat} {L : List (List Int)} (h : Own2 w B U a n c L) (hw : Within w w' B' U') (hd : U ≤ B' ∨ U' ≤ B) : Own2 w' B U a n c L := by
  obtain ⟨f, h⟩ := h
  exact ⟨f, h.pres fun k h1 h2 h3 => hw.block k h3 (by omega)⟩
theorem below_within {w w1 w2 : World} {B0 B U : Nat} (h : Below B0 w w1) (hw : Within w1 w2 B U) (hB : B0 ≤ B) (hs : B0 ≤ w1.heap.size) : Below B0 w w2 :=
  h.trans ⟨hw.os, hw.tape, hw.output, hw.size, fun k hk => hw.block k (by omega) (.inl (by omega))⟩
theorem Boxes.within {w w' : World} {B U : Nat} {bs : List (Nat × Value × Value)} (h : Boxes w bs) (hw : Within w w' B U) (hne : ∀ b ∈ bs, b.1 < B ∨ U ≤ b.1) : Boxes w' bs :=
  h.other hw.size fun b hb hlt => hw.block b.1 hlt (hne b hb)

/-- append of one list to a list of lists -/
theorem ap_list {ops : Array Oper} {rest : List Oper} {o : Oper} {a : Act} {Q : Exit → Act → World → Prop} {w0 : World} (hgd : o.guard = none) (s x : Operand)
    (ho : o.op = .call { callee := .builtin .append, args := #[s, x], argTypes := #[36, 36] })
    (B : Nat) (ad : Option Addr) (n c : Nat) (vs : List Value) (y : Value) (hs : a.eval s = .slice ad n c) (hown : Row 22 w0 B ad n c vs) (hy : y.oneCell' = true)
    (hx : a.eval x = .slice (some ⟨w0.heap.size, 0, none⟩) 1 1) (hn : n < 1099511627776) (hB : B ≤ w0.heap.size)
    (h : ∀ ad' c' w', Row 22 w' B ad' (n + 1) c' (vs ++ [y]) → Below B w0 w' → w0.grownBy w' (Value.slice ad n c).ownBlock → (∀ b, ad' = some b → (∃ d, ad = some d ∧ b.block = d.block) ∨ w0.heap.size ≤ b.block) → wpList Try.prog ops Q rest (a.put o.dst (.slice ad' (n + 1 : Nat) c')) w') :
    wpList Try.prog ops Q (o :: rest) a (w0.alloc (.cells #[y] 22)) := by
  obtain ⟨i0, hi, hz0, hz1, hz2⟩ := info_parts infoInts
  refine wpList_append_own_at (P := Try.prog) (w0.alloc (.cells #[y] 22)) hgd s x 36 ho B 22 i0 (.slice none 0 0) 1 24 Try.underlying36 hi hz0 hz1 hz2 rfl (by decide) _ n _ hs (hown.row.alloc _) ⟨w0.heap.size, 0, none⟩ 1 1 [y] hx rfl ?_ ?_ ?_ ?_ ?_ ?_
  · intro j u hj
    match j, hj with
    | 0, hj => simp at hj; subst hj; simp [Addr.add]
  · intro u hu; simp at hu; subst hu; exact hy
  · unfold maxLen; omega
  · omega
  · simp; omega
  · intro v' w' hown' hgrow _ h5
    have hl := hown.lt
    have hg0 : w0.grownBy w' (Value.slice ad n c).ownBlock :=
      ⟨hgrow.os, hgrow.tape, hgrow.output, by have := hgrow.size; simp at this; omega, fun k hk hne => (hgrow.block k (by simp; omega) hne).trans (Below.heap_alloc _ _ _ hk)⟩
    have hb : Below B w0 w' := (Below.refl B w0).grown hg0 hB (fun k hk => (hl k hk).1)
    have hv : ∃ ad' c', v' = .slice ad' (n + 1) c' := by
      rcases hown'.2 with ⟨_, h0⟩ | ⟨g, cap, cur, hv, _⟩
      · omega
      · exact ⟨_, _, hv⟩
    obtain ⟨ad', c', rfl⟩ := hv
    refine h ad' c' w' ⟨by simp [hown.len], hown'⟩ hb hg0 fun b hb => ?_
    subst hb
    rcases h5 with h5 | h5
    · obtain ⟨d, hd, hdb⟩ := ownBlock_some h5.symm
      exact .inl ⟨d, hd, hdb.symm⟩
    · right
      have : b.block = (w0.alloc (.cells #[y] 22)).heap.size := by simpa [Value.ownBlock] using h5
      simp at this; omega
theorem Own.pair (T : Nat) (w : World) (B : Nat) (hB : B ≤ w.heap.size) (x y : Int) : Own T (w.alloc (.cells #[.int .i64 x, .int .i64 y] T)) B (some ⟨w.heap.size, 0, none⟩) 2 2 [x, y] :=
  ⟨rfl, World.ownsRow_lit w #[.int .i64 x, .int .i64 y] 2 hB (by decide) (by simp)⟩
/-- a pair of numbers appended as a list -/
theorem ap_pair {ops : Array Oper} {rest : List Oper} {o : Oper} {a : Act} {Q : Exit → Act → World → Prop} {w : World} (hgd : o.guard = none) (s x : Operand)
    (ho : o.op = .call { callee := .builtin .append, args := #[s, x], argTypes := #[36, 36] })
    (B : Nat) (ad : Option Addr) (n c : Nat) (L : List (List Int)) (y z : Int) (hs : a.eval s = .slice ad n c) (hown : Own2 w B w.heap.size ad n c L)
    (hx : a.eval x = .slice (some ⟨w.heap.size + 1, 0, none⟩) 1 1) (hn : n < 1099511627776) (hB : B ≤ w.heap.size)
    (h : ∀ ad' c' w', Own2 w' B w'.heap.size ad' (n + 1) c' (L ++ [[y, z]]) → Below B w w' → wpList Try.prog ops Q rest (a.put o.dst (.slice ad' (n + 1 : Nat) c')) w') :
    wpList Try.prog ops Q (o :: rest) a ((w.alloc (.cells #[.int .i64 y, .int .i64 z] 3)).alloc (.cells #[.slice (some ⟨w.heap.size, 0, none⟩) 2 2] 22)) := by
  obtain ⟨f, h2⟩ := hown
  have hsz : (w.alloc (.cells #[.int .i64 y, .int .i64 z] 3)).heap.size = w.heap.size + 1 := by simp
  refine ap_list hgd s x ho B ad n c _ (.slice (some ⟨w.heap.size, 0, none⟩) 2 2) hs (h2.row.alloc _) rfl (by rw [hsz]; exact hx) hn (by rw [hsz]; omega) ?_
  intro ad' c' w' hrow hb hg hnew
  have hsz' : w.heap.size + 1 ≤ w'.heap.size := by have := hg.size; rw [hsz] at this; exact this
  have hout : ∀ k, (Value.slice ad n c).ownBlock = some k → k < w.heap.size := fun k hk => (h2.row.lt k hk).2
  have hold : ∀ i, i < n → Own 3 w' B (f i).1 (f i).2.1 (f i).2.2 (nthL L i) := fun i hi => by
    refine ((h2.own i hi).alloc _).grownNe hg fun k hk k2 hk2 e => ?_
    obtain ⟨b, hb1, hb2⟩ := ownBlock_some hk2
    obtain ⟨d, hd1, hd2⟩ := ownBlock_some hk
    exact h2.far i hi b d hb1 hd1 (by omega)
  have hpair : Own 3 w' B (some ⟨w.heap.size, 0, none⟩) 2 2 [y, z] := by
    refine (Own.pair 3 w B hB y z).grownNe hg fun k hk k2 hk2 e => ?_
    have h1 := hout k hk
    have h3 : w.heap.size = k2 := by simpa [Value.ownBlock] using hk2
    omega
  have hin : ∀ i, i < n → ∀ b, (f i).1 = some b → b.block < w.heap.size := fun i hi b hb => h2.his i hi b hb
  have hfn : ∀ i, i < n → (if i < n then f i else ((some ⟨w.heap.size, 0, none⟩, 2, 2) : Sl)) = f i := fun i hi => if_pos hi
  have hfl : (if n < n then f n else ((some ⟨w.heap.size, 0, none⟩, 2, 2) : Sl)) = (some ⟨w.heap.size, 0, none⟩, 2, 2) := if_neg (Nat.lt_irrefl _)
  have hll := h2.len
  refine h ad' c' w' ⟨fun i => if i < n then f i else (some ⟨w.heap.size, 0, none⟩, 2, 2), ?_⟩ (((Below.refl B w).alloc hB _).trans hb)
  refine ⟨by rw [List.length_append, h2.len]; rfl, ?_, ?_, ?_, ?_, ?_, ?_⟩
  · have e : (List.range (n + 1)).map (fun i => (if i < n then f i else ((some ⟨w.heap.size, 0, none⟩, 2, 2) : Sl)).val) = (List.range n).map (fun i => (f i).val) ++ [.slice (some ⟨w.heap.size, 0, none⟩) 2 2] := by
      rw [List.range_succ, List.map_append]
      congr 1
      · exact List.map_congr_left fun i hi => by rw [hfn i (List.mem_range.1 hi)]
      · simp only [List.map_cons, List.map_nil]; rw [hfl]; rfl
    rw [e]; exact hrow
  · intro i hi
    by_cases hin : i < n
    · simp only [hfn i hin]
      rw [nthL_left (by omega)]; exact hold i hin
    · obtain rfl : i = n := by omega
      simp only [hfl]
      have : nthL (L ++ [[y, z]]) i = [y, z] := by rw [← hll]; exact nthL_last L _
      rw [this]; exact hpair
  · intro i hi b d hb' hd'
    by_cases hin2 : i < n
    · simp only [hfn i hin2] at hb'
      have h1 := hin i hin2 b hb'
      rcases hnew d hd' with ⟨d0, hd0, hdb⟩ | hge
      · rw [hdb]; exact h2.far i hin2 b d0 hb' hd0
      · rw [hsz] at hge; omega
    · obtain rfl : i = n := by omega
      simp only [hfl] at hb'
      cases hb'
      rcases hnew d hd' with ⟨d0, hd0, hdb⟩ | hge
      · have := h2.hi d0 hd0
        simp only []; omega
      · rw [hsz] at hge
        simp only []; omega
  · intro i j hi hj hij b d hb' hd'
    by_cases hi2 : i < n
    · simp only [hfn i hi2] at hb'
      have h1 := hin i hi2 b hb'
      by_cases hj2 : j < n
      · simp only [hfn j hj2] at hd'
        exact h2.apart i j hi2 hj2 hij b d hb' hd'
      · obtain rfl : j = n := by omega
        simp only [hfl] at hd'
        cases hd'
        simp only []; omega
    · obtain rfl : i = n := by omega
      simp only [hfl] at hb'
      cases hb'
      have hj2 : j < i := by omega
      simp only [hfn j hj2] at hd'
      have h1 := hin j hj2 d hd'
      simp only []; omega
  · intro d hd
    exact (hrow.lt d.block (by rw [hd]; rfl)).2
  · intro i hi b hb'
    by_cases hi2 : i < n
    · simp only [hfn i hi2] at hb'
      have h1 := hin i hi2 b hb'
      omega
    · obtain rfl : i = n := by omega
      simp only [hfl] at hb'
      cases hb'
      simp only []; omega
def RetInts2 (w : World) (L : List (List Int)) (e : Ending) (w' : World) : Prop :=
  ∃ ad n c, e = .returned (.slice ad n c) ∧ Own2 w' w.heap.size w'.heap.size ad n c L ∧ Below w.heap.size w w'
end Go.Proofs.Ytpoolkmcbeghjaa

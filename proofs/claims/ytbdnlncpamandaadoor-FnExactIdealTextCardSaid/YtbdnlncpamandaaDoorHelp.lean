/- Contracts of the laws' own helpers for lists of numbers: a copy, a comparison, marks and their check; and how facts on memory are carried from world to world. -/
import Derived.BigQuiet
import Derived.Deep.QuietTactic
import Derived.Test.YtbdnlncpamandaaDoorCore
namespace Go.Proofs.YtbdnlncpamandaaDoor
set_option maxRecDepth 20000
open Go.RowKit
set_option linter.unusedSimpArgs false

theorem bcell {B : Nat} {W w1 : World} (hb : Below B W w1) : (∀ b o, b < B → w1.cell? ⟨b, o, none⟩ = W.cell? ⟨b, o, none⟩) ∧ (∀ b o, b < B → w1.frozen? ⟨b, o, none⟩ = W.frozen? ⟨b, o, none⟩) :=
  ⟨fun b o h => hb.cell (p := ⟨b, o, none⟩) h, fun b o h => hb.frozen (p := ⟨b, o, none⟩) h⟩

/-- Boxes of two cells: the block's number and what the cells hold. -/
def Boxes (W : World) : List (Nat × Value × Value) → Prop
  | [] => True
  | (g, x, y) :: r => (W.cell? ⟨g, 0, none⟩ = some x ∧ W.cell? ⟨g, 1, none⟩ = some y ∧ g < W.heap.size) ∧ Boxes W r
theorem Boxes.other {W W' : World} : ∀ {bs : List (Nat × Value × Value)}, Boxes W bs → W.heap.size ≤ W'.heap.size → (∀ b ∈ bs, b.1 < W.heap.size → W'.heap[b.1]? = W.heap[b.1]?) → Boxes W' bs
  | [], _, _, _ => trivial
  | (g, x, y) :: r, h, hs, hk => by
    obtain ⟨⟨h1, h2, h3⟩, h4⟩ := h
    have e := hk (g, x, y) (by simp) h3
    exact ⟨⟨(World.cell?_of_block (a := ⟨g, 0, none⟩) e).trans h1, (World.cell?_of_block (a := ⟨g, 1, none⟩) e).trans h2, Nat.lt_of_lt_of_le h3 hs⟩, Boxes.other h4 hs fun b hb => hk b (by simp [hb])⟩
theorem Boxes.keep {W W' : World} {bs : List (Nat × Value × Value)} (h : Boxes W bs) (hb : Below W.heap.size W W') : Boxes W' bs := h.other hb.size fun b _ hlt => hb.block b.1 hlt
theorem Boxes.grown {W W' : World} {bs : List (Nat × Value × Value)} {row : Option Nat} (h : Boxes W bs) (hg : W.grownBy W' row) (hne : ∀ k, row = some k → ∀ b ∈ bs, b.1 ≠ k) : Boxes W' bs :=
  h.other hg.size fun b hb hlt => hg.block b.1 hlt fun e => hne b.1 e.symm b hb rfl
theorem Boxes.alloc {W : World} {bs : List (Nat × Value × Value)} (h : Boxes W bs) (x y : Value) (T : Nat) : Boxes (W.alloc (.cells #[x, y] T)) ((W.heap.size, x, y) :: bs) := by
  refine ⟨⟨by simp, by simp, by simp⟩, h.other (by simp) fun b _ hlt => Below.heap_alloc _ _ _ hlt⟩
theorem Boxes.nil (W : World) : Boxes W [] := trivial
theorem IntsAt.other {w w' : World} {a : Option Addr} {n : Nat} {xs : List Int} (h : IntsAt w a n xs) (hb : ∀ g off, a = some ⟨g, off, none⟩ → g < w.heap.size → w'.heap[g]? = w.heap[g]?) : IntsAt w' a n xs := by
  refine ⟨h.len, h.small, fun hn => ?_⟩
  obtain ⟨b, off, ha, hc⟩ := h.cells hn
  exact ⟨b, off, ha, fun i hi => (World.cell?_of_block (hb b off ha (World.block_lt_of_cell? w _ (hc i hi)))).trans (hc i hi)⟩

/-- the marks k, k + 1, .. -/
def marks (k n : Nat) : List Int := (List.range n).map fun i => ((k + i : Nat) : Int)
theorem marks_at {k n i : Nat} (h : i < n) : nth (marks k n) i = ((k + i : Nat) : Int) := by
  unfold nth marks
  rw [List.getD_eq_getElem?_getD, List.getElem?_map, List.getElem?_range h]; rfl
theorem marks_len (k n : Nat) : (marks k n).length = n := by simp [marks]

theorem szIntS_yes (a : Option Addr) (n c : Nat) (L : Nat) (w : World) (hn : n ≤ L) (hL : L ≤ 1048576) :
    Calls Tryd.prog 9 #[.slice a n c, .int .i64 L] w fun e w' => e = .returned (.int .i64 ((L - n : Nat) : Int)) ∧ w = w' := by
  have h : ((L - n : Nat) : Int) = (L : Int) - n := by omega
  have H := Lib.hid h; clear h
  go_enter Tryd.func9, Tryd.ntmps9
  go_wp2
  go_ret
  exact ⟨ret_int H.out.symm, rfl⟩
theorem szIntS_no (a : Option Addr) (n c : Nat) (L : Nat) (w : World) (hn : L < n) (hL : L ≤ 1048576) (hm : n ≤ 9223372036854775807) :
    Calls Tryd.prog 9 #[.slice a n c, .int .i64 L] w fun e w' => e = .returned (.int .i64 (-1)) ∧ w = w' := by
  go_enter Tryd.func9, Tryd.ntmps9
  go_wp2
  go_ret
  exact ⟨rfl, rfl⟩

/-- the first k numbers, 0 behind them -/
def fillTo (xs : List Int) (k : Nat) : List Int := (List.range xs.length).map fun i => if i < k then nth xs i else 0
theorem fillTo_zero (xs : List Int) : fillTo xs 0 = List.replicate xs.length 0 := by
  unfold fillTo
  apply List.ext_getElem?
  intro i
  rw [List.getElem?_map, List.getElem?_replicate]
  by_cases h : i < xs.length
  · rw [List.getElem?_range h]; simp [h]
  · rw [List.getElem?_eq_none (by simp; omega)]; simp [h]
theorem fillTo_all (xs : List Int) : fillTo xs xs.length = xs := by
  unfold fillTo
  apply List.ext_getElem?
  intro i
  rw [List.getElem?_map]
  by_cases h : i < xs.length
  · rw [List.getElem?_range h, List.getElem?_eq_getElem h]; simp [h, nth_eq]
  · rw [List.getElem?_eq_none (by simp; omega), List.getElem?_eq_none (by omega)]; rfl
theorem fillTo_succ (xs : List Int) (k : Nat) : (fillTo xs k).set k (nth xs k) = fillTo xs (k + 1) := by
  unfold fillTo
  apply List.ext_getElem?
  intro i
  rw [List.getElem?_set]
  by_cases hi : i < xs.length
  · by_cases h : k = i
    · subst h
      simp [hi]
    · rw [if_neg h, List.getElem?_map, List.getElem?_map, List.getElem?_range hi]
      simp only [Option.map_some]
      by_cases h1 : i < k
      · rw [if_pos h1, if_pos (by omega)]
      · rw [if_neg h1, if_neg (by omega)]
  · rw [List.getElem?_eq_none (l := (List.range xs.length).map fun i => if i < k then nth xs i else 0) (by simp; omega), List.getElem?_eq_none (l := (List.range xs.length).map fun i => if i < k + 1 then nth xs i else 0) (by simp; omega)]
    simp; omega
set_option maxHeartbeats 400000 in
theorem toIntS_any (a : Option Addr) (n c : Nat) (xs : List Int) (w : World) (h : IntsAt w a n xs) (hm : n ≤ 1048576) :
    Calls Tryd.prog 11 #[.slice a n c] w (RetInts w xs) := by
  have hlen := Lib.hid h.len
  have Hh := Lib.hid h; clear h
  go_enter Tryd.func11, Tryd.ntmps11
  go_wp2_with (at_make; refine mk_ints rfl _ _ rfl _ rfl rfl n rfl (by omega) ?_; intro g w1 hown hb1)
  have Hb1 := Lib.hid hb1; clear hb1
  go_loopw [4] (fun i wr => ∃ k : Nat, k ≤ n ∧ i = .int .i64 k ∧ Below w.heap.size w wr ∧ Own 3 wr w.heap.size (some ⟨g, 0, none⟩) n n (fillTo xs k)) (fun i _ => n - (intOf i).toNat)
  case atStart => exact ⟨0, Nat.zero_le _, rfl, Hb1.out, by rw [fillTo_zero, hlen.out]; exact hown⟩
  case round =>
    clear hown
    obtain ⟨k, hk, rfl, hb, hr⟩ := hrel
    by_cases hlt : k < n
    · obtain ⟨b, off, rfl, hc⟩ := (Hh.out.keep hb).cells (by omega)
      have hck := hc k hlt
      obtain ⟨g', hg', hB, hgl, hcell, hfr⟩ := Row.cells hr (by omega)
      simp only [Option.some.injEq, Addr.mk.injEq, and_true] at hg'
      subst hg'
      have hc1 := hcell k hlt
      have hf1 := hfr k
      obtain ⟨old, hold⟩ : ∃ old, wr.cell? ⟨g, k, none⟩ = some old := by
        rw [hc1, List.getElem?_eq_getElem (by rw [Row.len hr]; exact hlt)]; exact ⟨_, rfl⟩
      clear hc hcell hfr hc1
      go_wp2
      go_roundw
      case rel =>
        refine ⟨k + 1, by omega, by go_num, hb.setCell hB _, ?_⟩
        rw [← fillTo_succ]
        exact hr.set k _
      case measure => simp [intOf]; omega
    · obtain rfl : k = n := by omega
      go_wp2
      go_ret
      refine ⟨_, _, _, rfl, ?_, hb⟩
      rw [← hlen.out, fillTo_all] at hr
      rw [hlen.out] at hr
      exact hr

set_option maxHeartbeats 400000 in
theorem eqIntS_yes (a b : Option Addr) (n m c d : Nat) (xs ys : List Int) (w : World) (h : IntsAt w a n xs) (h' : IntsAt w b m ys) (he : xs = ys) :
    Calls Tryd.prog 15 #[.slice a n c, .slice b m d] w fun e w' => e = .returned (.bool true) ∧ Below w.heap.size w w' := by
  subst he
  obtain rfl : n = m := by rw [← h.len, ← h'.len]
  have hn := h.small
  have Hh := Lib.hid h; clear h
  have Hh' := Lib.hid h'; clear h'
  go_enter Tryd.func15, Tryd.ntmps15
  go_wp2
  go_loopw [5] (fun i wr => ∃ k : Nat, k ≤ n ∧ i = .int .i64 k ∧ Below w.heap.size w wr) (fun i _ => n - (intOf i).toNat)
  case atStart => exact ⟨0, Nat.zero_le _, rfl, Below.refl _ _⟩
  case round =>
    obtain ⟨k, hk, rfl, hb⟩ := hrel
    by_cases hlt : k < n
    · obtain ⟨b1, o1, rfl, hc1⟩ := (Hh.out.keep hb).cells (by omega)
      obtain ⟨b2, o2, rfl, hc2⟩ := (Hh'.out.keep hb).cells (by omega)
      have h1 := hc1 k hlt
      have h2 := hc2 k hlt
      have hk0 : (0 : Int) ≤ k := by omega
      have hkn : (k : Int) < n := by omega
      clear hc1 hc2
      go_wp2_with fail
      go_quiet (fail)
      go_wp2
      go_roundw
      case rel => exact ⟨k + 1, by omega, by go_num, below_drewN hb _⟩
      case measure => simp [intOf]; omega
    · obtain rfl : k = n := by omega
      go_wp2
      go_ret
      exact ⟨rfl, hb⟩



end Go.Proofs.YtbdnlncpamandaaDoor

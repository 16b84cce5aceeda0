/- Contracts of the laws' own helpers for lists of numbers: a copy, a comparison, marks and their check; and how facts on memory are carried from world to world. -/
import Derived.Test.YtpoolkmcbeghjaaCore
import Derived.BigQuiet
import Derived.Deep.QuietTactic
namespace Go.Proofs.Ytpoolkmcbeghjaa
set_option maxRecDepth 20000
open Go.RowKit
set_option linter.unusedSimpArgs false

theorem bcell {B : Nat} {W w1 : World} (hb : Below B W w1) : (∀ b o, b < B → w1.cell? ⟨b, o, none⟩ = W.cell? ⟨b, o, none⟩) ∧ (∀ b o, b < B → w1.frozen? ⟨b, o, none⟩ = W.frozen? ⟨b, o, none⟩) :=
  ⟨fun b o h => hb.cell (p := ⟨b, o, none⟩) h, fun b o h => hb.frozen (p := ⟨b, o, none⟩) h⟩

/-- Boxes of two cells: the block's number and what the cells hold. -/
def Boxes (W : World) : List (Nat × Value × Value) → Prop
  | [] => True
  | (g, x, y) :: r => (W.cell? ⟨g, 0, none⟩ = some x ∧ W.cell? ⟨g, 1, none⟩ = some y ∧ g < W.heap.size) ∧ Boxes W r
theorem Boxes.other {W W' : World} : ∀ {bs : List (Nat × Value × Value)}, Boxes W bs → W.heap.size ≤ W'.heap.size → (∀ b ∈ bs, b.1 < W.heap.size → W'.heap[b.1]? = W.heap[b.1]?) → Boxes W' bs
  | [], _, _, _ => trivial
  | (g, x, y) :: r, h, hs, hk => by
    obtain ⟨⟨h1, h2, h3⟩, h4⟩ := h
    have e := hk (g, x, y) (by simp) h3
    exact ⟨⟨(World.cell?_of_block (a := ⟨g, 0, none⟩) e).trans h1, (World.cell?_of_block (a := ⟨g, 1, none⟩) e).trans h2, Nat.lt_of_lt_of_le h3 hs⟩, Boxes.other h4 hs fun b hb => hk b (by simp [hb])⟩
theorem Boxes.keep {W W' : World} {bs : List (Nat × Value × Value)} (h : Boxes W bs) (hb : Below W.heap.size W W') : Boxes W' bs := h.other hb.size fun b _ hlt => hb.block b.1 hlt
theorem Boxes.grown {W W' : World} {bs : List (Nat × Value × Value)} {row : Option Nat} (h : Boxes W bs) (hg : W.grownBy W' row) (hne : ∀ k, row = some k → ∀ b ∈ bs, b.1 ≠ k) : Boxes W' bs :=
  h.other hg.size fun b hb hlt => hg.block b.1 hlt fun e => hne b.1 e.symm b hb rfl
theorem Boxes.alloc {W : World} {bs : List (Nat × Value × Value)} (h : Boxes W bs) (x y : Value) (T : Nat) : Boxes (W.alloc (.cells #[x, y] T)) ((W.heap.size, x, y) :: bs) := by
  refine ⟨⟨by simp, by simp, by simp⟩, h.other (by simp) fun b _ hlt => Below.heap_alloc _ _ _ hlt⟩
theorem Boxes.nil (W : World) : Boxes W [] := trivial
theorem IntsAt.other {w w' : World} {a : Option Addr} {n : Nat} {xs : List Int} (h : IntsAt w a n xs) (hb : ∀ g off, a = some ⟨g, off, none⟩ → g < w.heap.size → w'.heap[g]? = w.heap[g]?) : IntsAt w' a n xs := by
  refine ⟨h.len, h.small, fun hn => ?_⟩
  obtain ⟨b, off, ha, hc⟩ := h.cells hn
  exact ⟨b, off, ha, fun i hi => (World.cell?_of_block (hb b off ha (World.block_lt_of_cell? w _ (hc i hi)))).trans (hc i hi)⟩

/-- the marks k, k + 1, .. -/
def marks (k n : Nat) : List Int := (List.range n).map fun i => ((k + i : Nat) : Int)
theorem marks_at {k n i : Nat} (h : i < n) : nth (marks k n) i = ((k + i : Nat) : Int) := by
  unfold nth marks
  rw [List.getD_eq_getElem?_getD, List.getElem?_map, List.getElem?_range h]; rfl
theorem marks_len (k n : Nat) : (marks k n).length = n := by simp [marks]


/-- the first k numbers, 0 behind them -/
def fillTo (xs : List Int) (k : Nat) : List Int := (List.range xs.length).map fun i => if i < k then nth xs i else 0
theorem fillTo_zero (xs : List Int) : fillTo xs 0 = List.replicate xs.length 0 := by
  unfold fillTo
  apply List.ext_getElem?
  intro i
  rw [List.getElem?_map, List.getElem?_replicate]
  by_cases h : i < xs.length
  · rw [List.getElem?_range h]; simp [h]
  · rw [List.getElem?_eq_none (by simp; omega)]; simp [h]
theorem fillTo_all (xs : List Int) : fillTo xs xs.length = xs := by
  unfold fillTo
  apply List.ext_getElem?
  intro i
  rw [List.getElem?_map]
  by_cases h : i < xs.length
  · rw [List.getElem?_range h, List.getElem?_eq_getElem h]; simp [h, nth_eq]
  · rw [List.getElem?_eq_none (by simp; omega), List.getElem?_eq_none (by omega)]; rfl
theorem fillTo_succ (xs : List Int) (k : Nat) : (fillTo xs k).set k (nth xs k) = fillTo xs (k + 1) := by
  unfold fillTo
  apply List.ext_getElem?
  intro i
  rw [List.getElem?_set]
  by_cases hi : i < xs.length
  · by_cases h : k = i
    · subst h
      simp [hi]
    · rw [if_neg h, List.getElem?_map, List.getElem?_map, List.getElem?_range hi]
      simp only [Option.map_some]
      by_cases h1 : i < k
      · rw [if_pos h1, if_pos (by omega)]
      · rw [if_neg h1, if_neg (by omega)]
  · rw [List.getElem?_eq_none (l := (List.range xs.length).map fun i => if i < k then nth xs i else 0) (by simp; omega), List.getElem?_eq_none (l := (List.range xs.length).map fun i => if i < k + 1 then nth xs i else 0) (by simp; omega)]
    simp; omega

set_option maxHeartbeats 400000 in
theorem eqIntS_yes (a b : Option Addr) (n m c d : Nat) (xs ys : List Int) (w : World) (h : IntsAt w a n xs) (h' : IntsAt w b m ys) (he : xs = ys) :
    Calls Try.prog 56 #[.slice a n c, .slice b m d] w fun e w' => e = .returned (.bool true) ∧ Below w.heap.size w w' := by
  subst he
  obtain rfl : n = m := by rw [← h.len, ← h'.len]
  have hn := h.small
  have Hh := Lib.hid h; clear h
  have Hh' := Lib.hid h'; clear h'
  go_enter Try.func56, Try.ntmps56
  go_wp2
  go_loopw [5] (fun i wr => ∃ k : Nat, k ≤ n ∧ i = .int .i64 k ∧ Below w.heap.size w wr) (fun i _ => n - (intOf i).toNat)
  case atStart => exact ⟨0, Nat.zero_le _, rfl, Below.refl _ _⟩
  case round =>
    obtain ⟨k, hk, rfl, hb⟩ := hrel
    by_cases hlt : k < n
    · obtain ⟨b1, o1, rfl, hc1⟩ := (Hh.out.keep hb).cells (by omega)
      obtain ⟨b2, o2, rfl, hc2⟩ := (Hh'.out.keep hb).cells (by omega)
      have h1 := hc1 k hlt
      have h2 := hc2 k hlt
      have hk0 : (0 : Int) ≤ k := by omega
      have hkn : (k : Int) < n := by omega
      clear hc1 hc2
      go_wp2_with fail
      go_quiet (fail)
      go_wp2
      go_roundw
      case rel => exact ⟨k + 1, by omega, by go_num, below_drewN hb _⟩
      case measure => simp [intOf]; omega
    · obtain rfl : k = n := by omega
      go_wp2
      go_ret
      exact ⟨rfl, hb⟩

/-- the first k marks, the old numbers behind them -/
def markTo (xs : List Int) (s k : Nat) : List Int := (List.range xs.length).map fun i => if i < k then ((s + i : Nat) : Int) else nth xs i
theorem markTo_zero (xs : List Int) (s : Nat) : markTo xs s 0 = xs := by
  unfold markTo
  have := fillTo_all xs
  unfold fillTo at this
  conv => rhs; rw [← this]
  apply List.map_congr_left
  intro i hi
  rw [List.mem_range] at hi
  simp [hi]
theorem markTo_all (xs : List Int) (s : Nat) : markTo xs s xs.length = marks s xs.length := by
  unfold markTo marks
  apply List.map_congr_left
  intro i hi
  rw [List.mem_range] at hi
  simp [hi]
theorem markTo_succ (xs : List Int) (s k : Nat) : (markTo xs s k).set k ((s + k : Nat) : Int) = markTo xs s (k + 1) := by
  unfold markTo
  apply List.ext_getElem?
  intro i
  rw [List.getElem?_set]
  by_cases hi : i < xs.length
  · by_cases h : k = i
    · subst h
      simp [hi]
    · rw [if_neg h, List.getElem?_map, List.getElem?_map, List.getElem?_range hi]
      simp only [Option.map_some]
      by_cases h1 : i < k
      · rw [if_pos h1, if_pos (by omega)]
      · rw [if_neg h1, if_neg (by omega)]
  · rw [List.getElem?_eq_none (l := (List.range xs.length).map fun i => if i < k then ((s + i : Nat) : Int) else nth xs i) (by simp; omega), List.getElem?_eq_none (l := (List.range xs.length).map fun i => if i < k + 1 then ((s + i : Nat) : Int) else nth xs i) (by simp; omega)]
    simp; omega
set_option maxHeartbeats 400000 in
theorem markIntS_any (B : Nat) (a : Option Addr) (n c s : Nat) (xs : List Int) (w : World) (h : Own 3 w B a n c xs) (hs : s ≤ 1099511627776) (hm : n ≤ 1099511627776) :
    Calls Try.prog 57 #[.slice a n c, .int .i64 s] w fun e w' => e = .returned (.int .i64 ((s + n : Nat) : Int)) ∧ Own 3 w' B a n c (marks s n) ∧ w.grownBy w' (Value.slice a n c).ownBlock := by
  have hlen := Lib.hid h.len
  have Hh := Lib.hid h; clear h
  go_enter Try.func57, Try.ntmps57
  go_wp2
  go_loopw [1, 5] (fun q i wr => ∃ k : Nat, k ≤ n ∧ i = .int .i64 k ∧ q = .int .i64 ((s + k : Nat) : Int) ∧ w.grownBy wr (Value.slice a n c).ownBlock ∧ Own 3 wr B a n c (markTo xs s k)) (fun _ i _ => n - (intOf i).toNat)
  case atStart => exact ⟨0, Nat.zero_le _, rfl, rfl, World.grownBy.refl _ _, by rw [markTo_zero]; exact Hh.out⟩
  case round =>
    obtain ⟨k, hk, rfl, rfl, hg, hr⟩ := hrel
    by_cases hlt : k < n
    · obtain ⟨g, rfl, hB, hgl, hcell, hfr⟩ := Row.cells hr (by omega)
      have hc1 := hcell k hlt
      have hf1 := hfr k
      obtain ⟨old, hold⟩ : ∃ old, wr.cell? ⟨g, k, none⟩ = some old := by
        rw [hc1, List.getElem?_eq_getElem (by rw [Row.len hr]; exact hlt)]; exact ⟨_, rfl⟩
      clear hcell hfr hc1
      go_wp2
      go_roundw
      case rel =>
        refine ⟨k + 1, by omega, by go_num, by go_num, ?_, ?_⟩
        · exact ⟨hg.os, hg.tape, hg.output, by simpa using hg.size, fun j hj hne => (Below.heap_setCell _ _ _ _ (fun e => hne (by rw [e]; rfl))).trans (hg.block j hj hne)⟩
        · rw [← markTo_succ]
          have := hr.set k ((s + k : Nat) : Int)
          simpa using this
      case measure => simp [intOf]; omega
    · obtain rfl : k = n := by omega
      go_wp2
      go_ret
      refine ⟨rfl, ?_, hg⟩
      rw [← hlen.out, markTo_all] at hr
      rw [hlen.out] at hr
      exact hr

set_option maxHeartbeats 400000 in
theorem heldIntS_yes (a : Option Addr) (n c s : Nat) (xs : List Int) (w : World) (h : IntsAt w a n xs) (hx : xs = marks s n) (hs : s ≤ 1099511627776) (hm : n ≤ 1099511627776) :
    Calls Try.prog 58 #[.slice a n c, .int .i64 s] w fun e w' => e = .returned (.int .i64 ((s + n : Nat) : Int)) ∧ w = w' := by
  subst hx
  have Hh := Lib.hid h; clear h
  go_enter Try.func58, Try.ntmps58
  go_wp2
  go_loop [1, 5] (fun q i => ∃ k : Nat, k ≤ n ∧ i = .int .i64 k ∧ q = .int .i64 ((s + k : Nat) : Int)) (fun _ i => n - (intOf i).toNat)
  case atStart => exact ⟨0, Nat.zero_le _, rfl, rfl⟩
  case round =>
    obtain ⟨k, hk, rfl, rfl⟩ := hrel
    by_cases hlt : k < n
    · obtain ⟨b1, o1, rfl, hc1⟩ := Hh.out.cells (by omega)
      have h1 := hc1 k hlt
      rw [marks_at hlt] at h1
      clear hc1
      go_wp2
      go_round
      case rel => exact ⟨k + 1, by omega, by go_num, by go_num⟩
      case measure => simp [intOf]; omega
    · obtain rfl : k = n := by omega
      go_wp2
      go_ret
      exact ⟨rfl, rfl⟩

end Go.Proofs.Ytpoolkmcbeghjaa

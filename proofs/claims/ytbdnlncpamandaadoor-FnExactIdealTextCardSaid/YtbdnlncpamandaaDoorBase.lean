/- Words and small laws that the walks of this claim share: lists read out of memory, rows of the call's own, bit operations at small numbers. They hold for every program. -/
import Derived.WalkKit
import Derived.WalkSpells
import Derived.WalkLawsBesides
import Derived.ProofKit
import Derived.Laws.BitsAllLaws
import Derived.Lib.Hide
import Derived.BigQuiet
import Derived.Deep.QuietTactic
namespace Go.Proofs.YtbdnlncpamandaaDoor
set_option maxRecDepth 20000
open Go.RowKit

theorem ret_int {k : IntKind} {a b : Int} (h : a = b) : Ending.returned (.int k a) = .returned (.int k b) := by rw [h]
theorem ret_bool {a b : Bool} (h : a = b) : Ending.returned (.bool a) = .returned (.bool b) := by rw [h]

/-- The i-th number of a list, 0 behind its end; closed to the walk. -/
def nth (xs : List Int) (i : Nat) : Int := xs.getD i 0
def nthN (xs : List Nat) (i : Nat) : Nat := xs.getD i 0
/-- A list of naturals as numbers of Go's. -/
def up (l : List Nat) : List Int := l.map fun x : Nat => (x : Int)

theorem nth_up (l : List Nat) (i : Nat) : nth (up l) i = (nthN l i : Int) := by
  unfold nth up nthN
  rw [List.getD_eq_getElem?_getD, List.getD_eq_getElem?_getD, List.getElem?_map]
  cases l[i]? <;> rfl
theorem up_len (l : List Nat) : (up l).length = l.length := by unfold up; simp
theorem up_inj {l m : List Nat} (h : up l = up m) : l = m := by
  unfold up at h
  exact (List.map_inj_right (fun a b e => Int.ofNat.inj e)).1 h
theorem up_append (l m : List Nat) : up (l ++ m) = up l ++ up m := by unfold up; simp

theorem nth_take (xs : List Int) (k : Nat) (h : k < xs.length) : xs.take (k + 1) = xs.take k ++ [nth xs k] := by
  unfold nth
  rw [List.take_succ_eq_append_getElem h, List.getD_eq_getElem?_getD, List.getElem?_eq_getElem h]; rfl
theorem nthN_take (xs : List Nat) (k : Nat) (h : k < xs.length) : xs.take (k + 1) = xs.take k ++ [nthN xs k] := by
  unfold nthN
  rw [List.take_succ_eq_append_getElem h, List.getD_eq_getElem?_getD, List.getElem?_eq_getElem h]; rfl
theorem nthN_mem {xs : List Nat} {k : Nat} (h : k < xs.length) : nthN xs k ∈ xs := by
  unfold nthN
  rw [List.getD_eq_getElem?_getD, List.getElem?_eq_getElem h]; exact List.getElem_mem h
theorem nth_mem {xs : List Int} {k : Nat} (h : k < xs.length) : nth xs k ∈ xs := by
  unfold nth
  rw [List.getD_eq_getElem?_getD, List.getElem?_eq_getElem h]; exact List.getElem_mem h
theorem nth_eq {xs : List Int} {k : Nat} (h : k < xs.length) : nth xs k = xs[k] := by
  unfold nth
  rw [List.getD_eq_getElem?_getD, List.getElem?_eq_getElem h]; rfl
theorem nthN_eq {xs : List Nat} {k : Nat} (h : k < xs.length) : nthN xs k = xs[k] := by
  unfold nthN
  rw [List.getD_eq_getElem?_getD, List.getElem?_eq_getElem h]; rfl

/-- The slice (a, n, _) reads, in the world w, as the numbers xs. -/
structure IntsAt (w : World) (a : Option Addr) (n : Nat) (xs : List Int) : Prop where
  len : xs.length = n
  small : n ≤ 9223372036854775807
  cells : 0 < n → ∃ b off, a = some ⟨b, off, none⟩ ∧ ∀ i, i < n → w.cell? ⟨b, off + i, none⟩ = some (.int .i64 (nth xs i))

/-- A slice as Go makes it: no longer than its capacity, and nil alone has no address. -/
structure Fit (a : Option Addr) (n c : Nat) : Prop where
  cap : n ≤ c
  nil : a = none → c = 0
theorem IntsAt.nil (w : World) : IntsAt w none 0 [] := ⟨rfl, by omega, fun h => absurd h (Nat.lt_irrefl _)⟩

/-- Below its own heap's size a world reads as before. -/
theorem IntsAt.keep {w w' : World} {a : Option Addr} {n : Nat} {xs : List Int} (h : IntsAt w a n xs) (hb : Below w.heap.size w w') : IntsAt w' a n xs := by
  refine ⟨h.len, h.small, fun hn => ?_⟩
  obtain ⟨b, off, ha, hc⟩ := h.cells hn
  exact ⟨b, off, ha, fun i hi => (hb.cell (World.block_lt_of_cell? w _ (hc i hi))).trans (hc i hi)⟩

theorem IntsAt.cellAt {w : World} {b off n : Nat} {s : Option Nat} {xs : List Int} (h : IntsAt w (some ⟨b, off, s⟩) n xs) : ∀ i, i < n → w.cell? ⟨b, off + i, none⟩ = some (.int .i64 (nth xs i)) := by
  intro i hi
  obtain ⟨b', off', ha, hc⟩ := h.cells (by omega)
  simp only [Option.some.injEq, Addr.mk.injEq] at ha
  obtain ⟨rfl, rfl, rfl⟩ := ha
  exact hc i hi

/-- A row of the call's own: the slice (a, n, c) begins a row of cells in a block from B on, and its elements are vs. 'T' is the number of the elements' type. -/
structure Row (T : Nat) (w : World) (B : Nat) (a : Option Addr) (n c : Nat) (vs : List Value) : Prop where
  len : vs.length = n
  row : w.ownsRow B T 1 (.slice a n c) n vs

section
variable {T : Nat} {w w' : World} {B : Nat} {a : Option Addr} {n c : Nat} {vs : List Value}

theorem Row.cur (h : Row T w B a n c vs) :
    (a = none ∧ n = 0 ∧ c = 0 ∧ vs = []) ∨ ∃ g cur, a = some ⟨g, 0, none⟩ ∧ B ≤ g ∧ w.heap[g]? = some (.cells cur T (0, 0)) ∧ n ≤ c ∧ c ≤ maxLen ∧ cur.size = c ∧ cur.toList.take n = vs := by
  rcases h.row.2 with ⟨hv, hn⟩ | ⟨g, cap, cur, hv, hg, hh, hnc, hcm, hcs, ht⟩
  · simp only [Value.slice.injEq] at hv
    obtain ⟨rfl, -, rfl⟩ := hv
    have hl := h.len
    subst hn
    exact .inl ⟨rfl, rfl, rfl, List.eq_nil_of_length_eq_zero hl⟩
  · simp only [Value.slice.injEq] at hv
    obtain ⟨rfl, -, rfl⟩ := hv
    refine .inr ⟨g, cur, rfl, hg, hh, hnc, hcm, by omega, ?_⟩
    simpa using ht

theorem Row.small (h : Row T w B a n c vs) : n ≤ 9223372036854775807 := by
  rcases h.cur with ⟨_, h0, _⟩ | ⟨_, _, _, _, _, h1, h2, _⟩
  · omega
  · unfold maxLen at h2; omega

/-- Where the row begins, and what its cells hold. -/
theorem Row.cells (h : Row T w B a n c vs) (hn : 0 < n) : ∃ g, a = some ⟨g, 0, none⟩ ∧ B ≤ g ∧ g < w.heap.size ∧ (∀ i, i < n → w.cell? ⟨g, i, none⟩ = vs[i]?) ∧ ∀ i, w.frozen? ⟨g, i, none⟩ = false := by
  rcases h.cur with ⟨_, h0, _⟩ | ⟨g, cur, ha, hB, hh, hnc, hcm, hcs, ht⟩
  · omega
  · have hrow := h.row
    rw [ha] at hrow
    have hl := (hrow.lt g rfl).2
    exact ⟨g, ha, hB, hl, fun i hi => hrow.cellAt i (by omega), fun i => hrow.frozenAt i⟩

theorem Row.lt (h : Row T w B a n c vs) : ∀ k, (Value.slice a n c).ownBlock = some k → B ≤ k ∧ k < w.heap.size := h.row.lt
theorem Row.nil (T : Nat) (w : World) (B : Nat) : Row T w B none 0 0 [] := ⟨rfl, World.ownsRow_nil _ _ _ _⟩

theorem Row.other (h : Row T w B a n c vs) (hb : ∀ g, a = some ⟨g, 0, none⟩ → g < w.heap.size → w'.heap[g]? = w.heap[g]?) : Row T w' B a n c vs := by
  refine ⟨h.len, h.row.1, ?_⟩
  rcases h.row.2 with h1 | ⟨g, cap, cur, hv, hg, hh, r⟩
  · exact .inl h1
  · refine .inr ⟨g, cap, cur, hv, hg, ?_, r⟩
    have : g < w.heap.size := by
      rcases Nat.lt_or_ge g w.heap.size with h | h
      · exact h
      · rw [Array.getElem?_eq_none h] at hh; cases hh
    rw [hb g (by simp only [Value.slice.injEq] at hv; exact hv.1) this]; exact hh

theorem Row.keep (h : Row T w B a n c vs) (hb : Below w.heap.size w w') : Row T w' B a n c vs := h.other fun g _ hg => hb.block g hg

theorem Row.mono {B' : Nat} (h : Row T w B a n c vs) (hB : B' ≤ B) : Row T w B' a n c vs := by
  refine ⟨h.len, h.row.1, ?_⟩
  rcases h.row.2 with h1 | ⟨g, cap, cur, hv, hg, r⟩
  · exact .inl h1
  · exact .inr ⟨g, cap, cur, hv, Nat.le_trans hB hg, r⟩

theorem Row.alloc (h : Row T w B a n c vs) (o : Obj) : Row T (w.alloc o) B a n c vs := ⟨h.len, h.row.alloc o⟩
theorem Row.drew (h : Row T w B a n c vs) : Row T w.drew B a n c vs := ⟨h.len, World.ownsRow.drew h.row⟩

/-- A store into the row. -/
theorem Row.set {g : Nat} (h : Row T w B (some ⟨g, 0, none⟩) n c vs) (i : Nat) (u : Value) : Row T (w.setCell ⟨g, i, none⟩ u) B (some ⟨g, 0, none⟩) n c (vs.set i u) := by
  refine ⟨by rw [List.length_set]; exact h.len, ?_⟩
  exact (h.row.stored i u).1

/-- A row that lies elsewhere than a store. -/
theorem Row.setOther {g i : Nat} (h : Row T w B a n c vs) (u : Value) (hg : a ≠ some ⟨g, 0, none⟩) : Row T (w.setCell ⟨g, i, none⟩ u) B a n c vs :=
  h.other fun k hk _ => Below.heap_setCell _ _ _ _ (fun e => hg (by rw [hk, e]))
theorem Row.setBelow {g i : Nat} (h : Row T w B a n c vs) (u : Value) (hg : g < B) : Row T (w.setCell ⟨g, i, none⟩ u) B a n c vs := by
  refine h.other fun k hk hl => Below.heap_setCell _ _ _ _ (fun e => ?_)
  have := (h.lt k (by rw [hk]; rfl)).1
  simp only at e
  omega
end

/-- A row of numbers. -/
def Own (T : Nat) (w : World) (B : Nat) (a : Option Addr) (n c : Nat) (xs : List Int) : Prop := Row T w B a n c (xs.map (Value.int .i64))

section
variable {T : Nat} {w w' : World} {B : Nat} {a : Option Addr} {n c : Nat} {xs : List Int}
theorem Own.len (h : Own T w B a n c xs) : xs.length = n := by have := Row.len h; simpa using this
theorem Own.reads (h : Own T w B a n c xs) : IntsAt w a n xs := by
  refine ⟨h.len, Row.small h, fun hn => ?_⟩
  obtain ⟨g, ha, _, _, hc, _⟩ := Row.cells h hn
  refine ⟨g, 0, ha, fun i hi => ?_⟩
  rw [Nat.zero_add, hc i hi, List.getElem?_map, List.getElem?_eq_getElem (by rw [h.len]; exact hi), nth_eq (by rw [h.len]; exact hi)]
  rfl
theorem Own.lt (h : Own T w B a n c xs) : ∀ k, (Value.slice a n c).ownBlock = some k → B ≤ k ∧ k < w.heap.size := Row.lt h
theorem Own.cap (h : Own T w B a n c xs) : n ≤ c := by
  rcases Row.cur h with ⟨_, h1, h2, _⟩ | ⟨_, _, _, _, _, h1, _⟩ <;> omega
theorem Own.fit (h : Own T w B a n c xs) : Fit a n c := by
  rcases Row.cur h with ⟨h0, h1, h2, _⟩ | ⟨_, _, h0, _, _, h1, _⟩
  · exact ⟨by omega, fun _ => h2⟩
  · exact ⟨h1, fun h => by rw [h0] at h; cases h⟩
theorem Own.nil (T : Nat) (w : World) (B : Nat) : Own T w B none 0 0 [] := Row.nil T w B
theorem Own.empty (T : Nat) (w : World) (B : Nat) (hB : B ≤ w.heap.size) : Own T (w.alloc (.cells #[] T)) B (some ⟨w.heap.size, 0, none⟩) 0 0 [] :=
  ⟨rfl, World.ownsRow_made w #[] 0 hB (by decide) (by simp)⟩
theorem Own.lit (T : Nat) (w : World) (B : Nat) (hB : B ≤ w.heap.size) (x : Int) : Own T (w.alloc (.cells #[.int .i64 x] T)) B (some ⟨w.heap.size, 0, none⟩) 1 1 [x] :=
  ⟨rfl, World.ownsRow_lit w #[.int .i64 x] 1 hB (by decide) (by simp)⟩
theorem Own.keep (h : Own T w B a n c xs) (hb : Below w.heap.size w w') : Own T w' B a n c xs := Row.keep h hb
theorem Own.mono {B' : Nat} (h : Own T w B a n c xs) (hB : B' ≤ B) : Own T w B' a n c xs := Row.mono h hB
theorem Own.alloc (h : Own T w B a n c xs) (o : Obj) : Own T (w.alloc o) B a n c xs := Row.alloc h o
theorem Own.drew (h : Own T w B a n c xs) : Own T w.drew B a n c xs := Row.drew h
theorem Own.set {g : Nat} (h : Own T w B (some ⟨g, 0, none⟩) n c xs) (i : Nat) (u : Int) : Own T (w.setCell ⟨g, i, none⟩ (.int .i64 u)) B (some ⟨g, 0, none⟩) n c (xs.set i u) := by
  have := Row.set h i (.int .i64 u)
  rw [← List.map_set] at this
  exact this
theorem Own.setOther {g i : Nat} (h : Own T w B a n c xs) (u : Value) (hg : a ≠ some ⟨g, 0, none⟩) : Own T (w.setCell ⟨g, i, none⟩ u) B a n c xs := Row.setOther h u hg
theorem Own.setBelow {g i : Nat} (h : Own T w B a n c xs) (u : Value) (hg : g < B) : Own T (w.setCell ⟨g, i, none⟩ u) B a n c xs := Row.setBelow h u hg
end

theorem Row.grown {T : Nat} {w w' : World} {B : Nat} {a : Option Addr} {n c : Nat} {vs : List Value} {row : Option Nat} (h : Row T w B a n c vs) (hg : w.grownBy w' row) (hne : ∀ k, row = some k → k < B) : Row T w' B a n c vs :=
  h.other fun g hag hlt => hg.block g hlt fun e => by
    have := hne g e.symm
    have := (h.lt g (by rw [hag]; rfl)).1
    omega
theorem Own.grown {T : Nat} {w w' : World} {B : Nat} {a : Option Addr} {n c : Nat} {xs : List Int} {row : Option Nat} (h : Own T w B a n c xs) (hg : w.grownBy w' row) (hne : ∀ k, row = some k → k < B) : Own T w' B a n c xs := Row.grown h hg hne

theorem Own.grownNe {T : Nat} {w w' : World} {B : Nat} {a : Option Addr} {n c : Nat} {xs : List Int} {row : Option Nat} (h : Own T w B a n c xs) (hg : w.grownBy w' row) (hne : ∀ k, row = some k → ∀ k2, (Value.slice a n c).ownBlock = some k2 → k2 ≠ k) : Own T w' B a n c xs :=
  Row.other h fun g hag hlt => hg.block g hlt fun e => hne g e.symm g (by rw [hag]; rfl) rfl

/-! ### Boxes: a struct by value lies in two new cells -/
theorem box2 {w wr : World} {x y : Value} {T : Nat} (hb : Below (w.heap.size + 1) (w.alloc (.cells #[x, y] T)) wr) : wr.cell? ⟨w.heap.size, 0, none⟩ = some x ∧ wr.cell? ⟨w.heap.size, 1, none⟩ = some y := by
  have h0 := hb.cell (p := ⟨w.heap.size, 0, none⟩) (by simp)
  have h1 := hb.cell (p := ⟨w.heap.size, 1, none⟩) (by simp)
  rw [h0, h1]
  constructor <;> simp
/-- A box that may be written: two cells x, y of block g. -/
structure BoxF (W : World) (g : Nat) (x y : Value) : Prop where
  c0 : W.cell? ⟨g, 0, none⟩ = some x
  c1 : W.cell? ⟨g, 1, none⟩ = some y
  f0 : W.frozen? ⟨g, 0, none⟩ = false
  f1 : W.frozen? ⟨g, 1, none⟩ = false
  lt : g < W.heap.size
theorem BoxF.new (W : World) (x y : Value) (T : Nat) : BoxF (W.alloc (.cells #[x, y] T)) W.heap.size x y := ⟨by simp, by simp, by simp, by simp, by simp⟩
theorem BoxF.other {W W' : World} {g : Nat} {x y : Value} (h : BoxF W g x y) (hs : W.heap.size ≤ W'.heap.size) (hb : W'.heap[g]? = W.heap[g]?) : BoxF W' g x y :=
  ⟨(World.cell?_of_block (a := ⟨g, 0, none⟩) hb).trans h.c0, (World.cell?_of_block (a := ⟨g, 1, none⟩) hb).trans h.c1, (World.frozen?_of_block (a := ⟨g, 0, none⟩) hb).trans h.f0, (World.frozen?_of_block (a := ⟨g, 1, none⟩) hb).trans h.f1, Nat.lt_of_lt_of_le h.lt hs⟩
theorem BoxF.keep {W W' : World} {B g : Nat} {x y : Value} (h : BoxF W g x y) (hb : Below B W W') (hg : g < B) : BoxF W' g x y := h.other hb.size (hb.block g hg)
theorem BoxF.alloc {W : World} {g : Nat} {x y : Value} (h : BoxF W g x y) (o : Obj) : BoxF (W.alloc o) g x y := h.other (by simp) (Below.heap_alloc _ _ _ h.lt)
theorem BoxF.drew {W : World} {g : Nat} {x y : Value} (h : BoxF W g x y) : BoxF W.drew g x y := h.other (Nat.le_refl _) rfl
theorem BoxF.setOther {W : World} {g : Nat} {x y : Value} (h : BoxF W g x y) (p : Addr) (u : Value) (hp : g ≠ p.block) : BoxF (W.setCell p u) g x y := h.other (by simp) (Below.heap_setCell _ _ _ _ hp)
theorem BoxF.set1 {W : World} {g : Nat} {x y : Value} (h : BoxF W g x y) (u : Value) : BoxF (W.setCell ⟨g, 1, none⟩ u) g x u := by
  obtain ⟨c0, c1, f0, f1, lt⟩ := h
  exact ⟨(World.cell?_setCell_other W _ _ _ (by simp)).trans c0, World.cell?_setCell_same W _ _ c1, by rw [World.frozen?_setCell]; exact f0, by rw [World.frozen?_setCell]; exact f1, by simpa using lt⟩
theorem BoxF.set0 {W : World} {g : Nat} {x y : Value} (h : BoxF W g x y) (u : Value) : BoxF (W.setCell ⟨g, 0, none⟩ u) g u y := by
  obtain ⟨c0, c1, f0, f1, lt⟩ := h
  exact ⟨World.cell?_setCell_same W _ _ c0, (World.cell?_setCell_other W _ _ _ (by simp)).trans c1, by rw [World.frozen?_setCell]; exact f0, by rw [World.frozen?_setCell]; exact f1, by simpa using lt⟩
theorem box_below {w wr : World} {o : Obj} (hb : Below (w.heap.size + 1) (w.alloc o) wr) : Below w.heap.size w wr := ((Below.refl _ w).alloc (Nat.le_refl _) _).trans (hb.mono (by omega))
theorem IntsAt.box {w wr : World} {o : Obj} {a : Option Addr} {n : Nat} {xs : List Int} (h : IntsAt w a n xs) (hb : Below (w.heap.size + 1) (w.alloc o) wr) : IntsAt wr a n xs := h.keep (box_below hb)

/-! ### A call that reads only, inside a region that draws its order -/
theorem ql {P : Program} {f : FuncId} {args : Array Value} {w : World} {n : Nat} {v : Value} (h : Calls P f args (w.drewN n) fun e w' => e = .returned v ∧ w.drewN n = w') :
    Calls P f args (w.drewN n) fun e w'' => e = .returned v ∧ ∃ m, w'' = w.drewN m := h.mono fun _ _ ⟨he, hm⟩ => ⟨he, n, hm.symm⟩
theorem ql2 {P : Program} {f : FuncId} {args : Array Value} {w : World} {a n : Nat} {v : Value} (h : Calls P f args (w.drewN (a + n)) fun e w' => e = .returned v ∧ w.drewN (a + n) = w') :
    Calls P f args (w.drewN (a + n)) fun e w'' => e = .returned v ∧ ∃ m, w'' = w.drewN (a + m) := h.mono fun _ _ ⟨he, hm⟩ => ⟨he, n, hm.symm⟩

/-! ### Bit operations at small numbers -/
theorem i64_and_nat (a b : Nat) (ha : a < 9223372036854775808) (hb : b < 9223372036854775808) : bits .and .i64 (a : Int) (b : Int) = ((a &&& b : Nat) : Int) := by
  have hx : a &&& b < 2 ^ 63 := Nat.and_lt_two_pow _ (by omega)
  show IntKind.i64.wrap ((BitVec.ofInt 64 (a : Int) &&& BitVec.ofInt 64 (b : Int)).toNat : Int) = _
  rw [BitVec.toNat_and, ofInt_u64 a (by omega), ofInt_u64 b (by omega), IntKind.wrap_i64]
  omega
theorem i64_or_nat (a b : Nat) (ha : a < 9223372036854775808) (hb : b < 9223372036854775808) : bits .or .i64 (a : Int) (b : Int) = ((a ||| b : Nat) : Int) := by
  have hx : a ||| b < 2 ^ 63 := Nat.or_lt_two_pow (by omega) (by omega)
  show IntKind.i64.wrap ((BitVec.ofInt 64 (a : Int) ||| BitVec.ofInt 64 (b : Int)).toNat : Int) = _
  rw [BitVec.toNat_or, ofInt_u64 a (by omega), ofInt_u64 b (by omega), IntKind.wrap_i64]
  omega
theorem i64_andNot_nat (a b : Nat) (ha : a < 9223372036854775808) (hb : b < 9223372036854775808) : bits .andNot .i64 (a : Int) (b : Int) = ((a &&& (18446744073709551615 - b) : Nat) : Int) := by
  have hx : a &&& (18446744073709551615 - b) < 2 ^ 63 := Nat.lt_of_le_of_lt Nat.and_le_left (by omega)
  show IntKind.i64.wrap ((BitVec.ofInt 64 (a : Int) &&& ~~~BitVec.ofInt 64 (b : Int)).toNat : Int) = _
  rw [BitVec.toNat_and, BitVec.toNat_not, ofInt_u64 a (by omega), ofInt_u64 b (by omega), IntKind.wrap_i64]
  have e : 2 ^ 64 - 1 - b = 18446744073709551615 - b := by omega
  rw [e]
  omega

/-- The set a without the points of b. -/
def sdiff (a b : Nat) : Nat := a &&& (63 - b)
theorem testBit_mask {n i : Nat} : (2 ^ n - 1).testBit i = decide (i < n) := Nat.testBit_two_pow_sub_one n i
theorem sdiff_testBit {a b : Nat} (ha : a < 64) (hb : b < 64) (i : Nat) : (sdiff a b).testBit i = (a.testBit i && !b.testBit i) := by
  unfold sdiff
  rw [Nat.testBit_and]
  have e : 63 - b = 2 ^ 6 - (b + 1) := by omega
  rw [e, Nat.testBit_two_pow_sub_succ (by omega)]
  by_cases hi : i < 6
  · simp [hi]
  · have : a.testBit i = false := Nat.testBit_lt_two_pow (Nat.lt_of_lt_of_le ha (Nat.pow_le_pow_right (n := 2) (by omega) (by omega : 6 ≤ i)))
    simp [this]
theorem sdiff_lt {a b : Nat} (ha : a < 64) : sdiff a b < 64 := Nat.lt_of_le_of_lt Nat.and_le_left ha
theorem sdiff_big (a b : Nat) (ha : a < 64) (hb : b < 64) : a &&& (18446744073709551615 - b) = sdiff a b := by
  apply Nat.eq_of_testBit_eq
  intro i
  rw [sdiff_testBit ha hb, Nat.testBit_and]
  have e : 18446744073709551615 - b = 2 ^ 64 - (b + 1) := by omega
  rw [e, Nat.testBit_two_pow_sub_succ (by omega)]
  by_cases hi : i < 64
  · simp [hi]
  · have : a.testBit i = false := Nat.testBit_lt_two_pow (Nat.lt_of_lt_of_le ha (Nat.pow_le_pow_right (n := 2) (by omega) (by omega : 6 ≤ i)))
    simp [this]

/-! At sets of at most six points, in the walk's own form. -/
theorem w_and (a b : Nat) (ha : a < 64) (hb : b < 64) : bits .and .i64 (a : Int) (b : Int) = ((a &&& b : Nat) : Int) := i64_and_nat a b (by omega) (by omega)
theorem w_or (a b : Nat) (ha : a < 64) (hb : b < 64) : bits .or .i64 (a : Int) (b : Int) = ((a ||| b : Nat) : Int) := i64_or_nat a b (by omega) (by omega)
theorem w_andNot (a b : Nat) (ha : a < 64) (hb : b < 64) : bits .andNot .i64 (a : Int) (b : Int) = ((sdiff a b : Nat) : Int) := by
  rw [i64_andNot_nat a b (by omega) (by omega), sdiff_big a b ha hb]
theorem w_and1 (a : Nat) (ha : a < 64) : bits .and .i64 (a : Int) 1 = ((a % 2 : Nat) : Int) := by
  have := i64_and_nat a 1 (by omega) (by omega)
  rw [Nat.and_one_is_mod] at this
  exact this
theorem w_bit (s i : Nat) (hs : s < 64) : (bits .and .i64 ((s : Int) / 2 ^ i) 1 == 1) = s.testBit i := by
  have e : ((s : Int) / 2 ^ i) = ((s / 2 ^ i : Nat) : Int) := by norm_cast
  have hlt : s / 2 ^ i < 64 := Nat.lt_of_le_of_lt (Nat.div_le_self _ _) hs
  rw [e, w_and1 _ hlt, Nat.testBit_eq_decide_div_mod_eq]
  rcases Nat.mod_two_eq_zero_or_one (s / 2 ^ i) with h | h <;> rw [h] <;> rfl
theorem and_lt64 {a b : Nat} (ha : a < 64) : a &&& b < 64 := Nat.lt_of_le_of_lt Nat.and_le_left ha
theorem or_lt64 {a b : Nat} (ha : a < 64) (hb : b < 64) : a ||| b < 64 := Nat.or_lt_two_pow (n := 6) ha hb
theorem bit_shift (a i : Nat) : (a / 2 ^ i % 2 = 1) = (a.testBit i = true) := by
  rw [Nat.testBit_eq_decide_div_mod_eq]; simp

/-- A family of sets of six points: a number of 64 bits. Closed to the walk. -/
def Fam (F : Nat) : Prop := F < 18446744073709551616
theorem Fam.zero : Fam 0 := by unfold Fam; omega
theorem Fam.or {F G : Nat} (hF : Fam F) (hG : Fam G) : Fam (F ||| G) := Nat.or_lt_two_pow (n := 64) hF hG
theorem Fam.and {F G : Nat} (hF : Fam F) : Fam (F &&& G) := Nat.lt_of_le_of_lt Nat.and_le_left hF
theorem Fam.bit {s : Nat} (hs : s < 64) : Fam (2 ^ s) := Nat.pow_lt_pow_right (by omega) hs
theorem w_shl64 (s : Nat) (hs : s < 64) : IntKind.u64.wrap (2 ^ s) = 2 ^ s := by
  have h : 2 ^ s < 2 ^ 64 := Nat.pow_lt_pow_right (by omega) hs
  rw [IntKind.wrap_u64]
  have e : ((2 : Int) ^ s) = ((2 ^ s : Nat) : Int) := by norm_cast
  rw [e]
  exact Int.emod_eq_of_lt (Int.natCast_nonneg _) (Int.ofNat_lt.2 h)
theorem w_or64 (F G : Nat) (hF : Fam F) (hG : Fam G) : bits .or .u64 (F : Int) (G : Int) = ((F ||| G : Nat) : Int) := u64_or_nat F G hF hG
theorem w_or64bit (F s : Nat) (hF : Fam F) (hs : s < 64) : bits .or .u64 (F : Int) (2 ^ s) = ((F ||| 2 ^ s : Nat) : Int) := by
  have e : ((2 : Int) ^ s) = ((2 ^ s : Nat) : Int) := by norm_cast
  rw [e]; exact u64_or_nat F _ hF (Fam.bit hs)
theorem w_and64 (F G : Nat) (hF : Fam F) (hG : Fam G) : bits .and .u64 (F : Int) (G : Int) = ((F &&& G : Nat) : Int) := u64_and_nat F G hF hG
theorem w_has (F s : Nat) (hF : Fam F) : (bits .and .u64 ((F : Int) / 2 ^ s) 1 == 1) = F.testBit s := by
  have e : ((F : Int) / 2 ^ s) = ((F / 2 ^ s : Nat) : Int) := by norm_cast
  have hlt : F / 2 ^ s < 18446744073709551616 := Nat.lt_of_le_of_lt (Nat.div_le_self _ _) hF
  have := u64_and_nat (F / 2 ^ s) 1 hlt (by omega)
  rw [Nat.and_one_is_mod] at this
  rw [e]
  have e1 : (((1 : Nat) : Int)) = 1 := rfl
  rw [e1] at this
  rw [this, Nat.testBit_eq_decide_div_mod_eq]
  rcases Nat.mod_two_eq_zero_or_one (F / 2 ^ s) with h | h <;> rw [h] <;> rfl

theorem w_shl6 (s : Nat) (hs : s < 8) : IntKind.i64.wrap (2 ^ s) = 2 ^ s := by
  match s, hs with
  | 0, _ | 1, _ | 2, _ | 3, _ | 4, _ | 5, _ | 6, _ | 7, _ => rfl
theorem w_or6bit (a s : Nat) (ha : a < 64) (hs : s < 6) : bits .or .i64 (a : Int) (2 ^ s) = ((a ||| 2 ^ s : Nat) : Int) := by
  have e : ((2 : Int) ^ s) = ((2 ^ s : Nat) : Int) := by norm_cast
  have h : 2 ^ s < 2 ^ 6 := Nat.pow_lt_pow_right (by omega) hs
  rw [e]; exact w_or a _ ha (by omega)
theorem bitv_no {t i : Nat} (ht : t < 64) (h : t.testBit i = false) : bits .and .i64 ((t : Int) / 2 ^ i) 1 = 0 := by
  have e : ((t : Int) / 2 ^ i) = ((t / 2 ^ i : Nat) : Int) := by norm_cast
  rw [e, w_and1 _ (Nat.lt_of_le_of_lt (Nat.div_le_self _ _) ht)]
  rw [Nat.testBit_eq_decide_div_mod_eq] at h
  have : t / 2 ^ i % 2 = 0 := by simp at h; omega
  rw [this]; rfl
theorem bitv_yes {t i : Nat} (ht : t < 64) (h : t.testBit i = true) : bits .and .i64 ((t : Int) / 2 ^ i) 1 = 1 := by
  have e : ((t : Int) / 2 ^ i) = ((t / 2 ^ i : Nat) : Int) := by norm_cast
  rw [e, w_and1 _ (Nat.lt_of_le_of_lt (Nat.div_le_self _ _) ht)]
  rw [Nat.testBit_eq_decide_div_mod_eq] at h
  have : t / 2 ^ i % 2 = 1 := by simpa using h
  rw [this]; rfl
theorem bit_lt64 {s : Nat} (hs : s < 6) : 2 ^ s < 64 := Nat.pow_lt_pow_right (n := 6) (by omega) hs
attribute [go_sem] w_shl6 w_or6bit
attribute [go_sem] w_and w_or w_andNot w_and1 w_shl64 w_or64 w_or64bit w_and64 w_has Fam.zero Fam.or Fam.and Fam.bit and_lt64 or_lt64 sdiff_lt w_bit

end Go.Proofs.YtbdnlncpamandaaDoor

/- Ideals and complexes in plain terms: sums, meets, quotients as least sets. -/
import Derived.Test.YtbdnlncpamandaaDoorMath2
namespace Go.Proofs.YtbdnlncpamandaaDoor
set_option maxRecDepth 20000

/-- what lies above a set of the list, below N -/
def above (l : List Nat) (N s : Nat) : Bool := decide (s < N) && l.any (sub · s)
theorem above_iff {l : List Nat} {N s : Nat} : above l N s = true ↔ s < N ∧ ∃ t ∈ l, sub t s = true := by
  unfold above; simp
theorem sub_or_left (a b : Nat) : sub a (a ||| b) = true := by rw [sub_iff]; intro i hi; rw [Nat.testBit_or, hi]; rfl
theorem sub_or_right (a b : Nat) : sub b (a ||| b) = true := by rw [sub_iff]; intro i hi; rw [Nat.testBit_or, hi]; simp
theorem or_sub {a b c : Nat} (h : sub a c = true) (h' : sub b c = true) : sub (a ||| b) c = true := by
  rw [sub_iff] at *
  intro i hi
  rw [Nat.testBit_or, Bool.or_eq_true] at hi
  rcases hi with hi | hi
  · exact h i hi
  · exact h' i hi

theorem minL_sum {l k : List Nat} {N : Nat} (hN : N ≤ 64) (hl : ∀ s ∈ l, s < N) (hk : ∀ s ∈ k, s < N) :
    minL (l ++ k).contains = minL fun s => above l N s || above k N s := by
  apply minL_eq
  · intro s hs hp
    refine ⟨s, hs, ?_, sub_refl s⟩
    rw [List.contains_iff_mem, List.mem_append] at hp
    rw [Bool.or_eq_true, above_iff, above_iff]
    rcases hp with h | h
    · exact .inl ⟨hl s h, s, h, sub_refl s⟩
    · exact .inr ⟨hk s h, s, h, sub_refl s⟩
  · intro s hs hq
    rw [Bool.or_eq_true, above_iff, above_iff] at hq
    rcases hq with ⟨_, t, ht, h⟩ | ⟨_, t, ht, h⟩
    · exact ⟨t, by have := hl t ht; omega, by rw [List.contains_iff_mem]; simp [ht], h⟩
    · exact ⟨t, by have := hk t ht; omega, by rw [List.contains_iff_mem]; simp [ht], h⟩

/-- all joins of a set of the one and a set of the other -/
def joins (l k : List Nat) : List Nat := l.flatMap fun a => k.map fun b => a ||| b
theorem mem_joins {l k : List Nat} {s : Nat} : s ∈ joins l k ↔ ∃ a ∈ l, ∃ b ∈ k, s = a ||| b := by
  unfold joins; simp [eq_comm]
theorem or_lt_pow {a b m : Nat} (ha : a < 2 ^ m) (hb : b < 2 ^ m) : a ||| b < 2 ^ m := Nat.or_lt_two_pow ha hb
theorem minL_meet {l k : List Nat} {m : Nat} (hN : 2 ^ m ≤ 64) (hl : ∀ s ∈ l, s < 2 ^ m) (hk : ∀ s ∈ k, s < 2 ^ m) :
    minL (joins l k).contains = minL fun s => above l (2 ^ m) s && above k (2 ^ m) s := by
  apply minL_eq
  · intro s hs hp
    refine ⟨s, hs, ?_, sub_refl s⟩
    rw [List.contains_iff_mem, mem_joins] at hp
    obtain ⟨a, ha, b, hb, rfl⟩ := hp
    have := or_lt_pow (hl a ha) (hk b hb)
    rw [Bool.and_eq_true, above_iff, above_iff]
    exact ⟨⟨this, a, ha, sub_or_left a b⟩, this, b, hb, sub_or_right a b⟩
  · intro s hs hq
    rw [Bool.and_eq_true, above_iff, above_iff] at hq
    obtain ⟨⟨_, a, ha, h1⟩, _, b, hb, h2⟩ := hq
    have := or_lt_pow (hl a ha) (hk b hb)
    exact ⟨a ||| b, by omega, by rw [List.contains_iff_mem, mem_joins]; exact ⟨a, ha, b, hb, rfl⟩, or_sub h1 h2⟩

theorem sdiff_sub_or {g s t : Nat} (hg : g < 64) (hs : s < 64) : sub (sdiff g s) t = true ↔ sub g (t ||| s) = true := by
  rw [sub_iff, sub_iff]
  constructor
  · intro h i hi
    rw [Nat.testBit_or]
    cases hb : s.testBit i
    · have := h i (by rw [sdiff_testBit hg hs, hi, hb]; rfl)
      rw [this]; rfl
    · simp
  · intro h i hi
    rw [sdiff_testBit hg hs, Bool.and_eq_true] at hi
    have := h i hi.1
    rw [Nat.testBit_or, Bool.or_eq_true] at this
    rcases this with h' | h'
    · exact h'
    · rw [h'] at hi; simp at hi
theorem sdiff_le (a b : Nat) : sdiff a b ≤ a := Nat.and_le_left
theorem minL_quot {l : List Nat} {m s : Nat} (hN : 2 ^ m ≤ 64) (hs : s < 64) (hl : ∀ g ∈ l, g < 2 ^ m) :
    minL (l.map fun g => sdiff g s).contains = minL fun t => decide (t < 2 ^ m) && l.any (sub · (t ||| s)) := by
  apply minL_eq
  · intro t ht hp
    refine ⟨t, ht, ?_, sub_refl t⟩
    rw [List.contains_iff_mem, List.mem_map] at hp
    obtain ⟨g, hg, rfl⟩ := hp
    have h1 := hl g hg
    have h2 := sdiff_le g s
    rw [Bool.and_eq_true, List.any_eq_true]
    exact ⟨by simp; omega, g, hg, (sdiff_sub_or (by omega) hs).1 (sub_refl _)⟩
  · intro t ht hq
    rw [Bool.and_eq_true, List.any_eq_true] at hq
    obtain ⟨_, g, hg, h⟩ := hq
    have h1 := hl g hg
    have h2 := sdiff_le g s
    exact ⟨sdiff g s, by omega, by rw [List.contains_iff_mem, List.mem_map]; exact ⟨g, hg, rfl⟩, (sdiff_sub_or (by omega) hs).2 h⟩

/-- a list in the sets' order has at most 64 sets -/
theorem sorted_len {l : List Nat} (hs : l.Pairwise fun a b => rank a < rank b) (hl : ∀ s ∈ l, s < 64) : l.length ≤ 64 := by
  rw [← ord_of_sorted hs hl]; exact ord_len _
end Go.Proofs.YtbdnlncpamandaaDoor

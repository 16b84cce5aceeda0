/- Graphs in plain terms: which sets are joined pair by pair. -/
import Derived.Test.YtbdnlncpamandaaDoorMath3
namespace Go.Proofs.YtbdnlncpamandaaDoor
set_option maxRecDepth 20000

/-- the edge of two points -/
def pr (i j : Nat) : Nat := 2 ^ i ||| 2 ^ j
theorem pr_lt {i j : Nat} (hi : i < 6) (hj : j < 6) : pr i j < 64 := or_lt64 (bit_lt64 hi) (bit_lt64 hj)
theorem pr_comm (i j : Nat) : pr i j = pr j i := by unfold pr; exact Nat.or_comm _ _
theorem pr_of0 : ∀ e, e < 64 → ∀ i, i < 6 → ∀ j, j < 6 → (decide (sz e = 2) && (i != j) && e.testBit i && e.testBit j) = true → e = pr i j := by decide +kernel
theorem pr_of (e : Nat) (he : e < 64) (h2 : sz e = 2) (i : Nat) (hi : i < 6) (j : Nat) (hj : j < 6) (hij : i ≠ j) (h3 : e.testBit i = true) (h4 : e.testBit j = true) : e = pr i j :=
  pr_of0 e he i hi j hj (by simp [h2, hij, h3, h4])
theorem pr_sz : ∀ i, i < 6 → ∀ j, j < 6 → i ≠ j → sz (pr i j) = 2 := by decide +kernel
theorem pr_ends : ∀ e, e < 64 → sz e = 2 → ∃ i, i < 6 ∧ ∃ j, j < 6 ∧ i ≠ j ∧ e = pr i j := by decide +kernel
theorem pr_bit {i j k : Nat} : (pr i j).testBit k = (decide (i = k) || decide (j = k)) := by
  unfold pr; rw [Nat.testBit_or, Nat.testBit_two_pow, Nat.testBit_two_pow]
theorem pr_sub {i j s : Nat} : sub (pr i j) s = true ↔ s.testBit i = true ∧ s.testBit j = true := by
  rw [sub_iff]
  constructor
  · intro h; exact ⟨h i (by rw [pr_bit]; simp), h j (by rw [pr_bit]; simp)⟩
  · intro ⟨h1, h2⟩ k hk
    rw [pr_bit, Bool.or_eq_true] at hk
    rcases hk with h | h
    · have : i = k := by simpa using h
      rw [← this]; exact h1
    · have : j = k := by simpa using h
      rw [← this]; exact h2
theorem pr_lt_pow {i j m : Nat} (hi : i < m) (hj : j < m) : pr i j < 2 ^ m := or_lt_pow (Nat.pow_lt_pow_right (by omega) hi) (Nat.pow_lt_pow_right (by omega) hj)
theorem pr_add {i j : Nat} (hi : i < 6) (hj : j < 6) (h : i ≠ j) : 2 ^ i + 2 ^ j = pr i j := by
  have : ∀ i, i < 6 → ∀ j, j < 6 → i ≠ j → 2 ^ i + 2 ^ j = pr i j := by decide +kernel
  exact this i hi j hj h

/-- every two points of s make an edge -/
def Joined (l : List Nat) (s : Nat) : Prop := ∀ i, i < 6 → ∀ j, j < 6 → i ≠ j → s.testBit i = true → s.testBit j = true → pr i j ∈ l

/-- the neighbours of a point by the edges of the list -/
def nbs (l : List Nat) (i : Nat) : Nat := l.foldl (fun acc e => if e.testBit i then acc ||| sdiff e (2 ^ i) else acc) 0
theorem nbs_fold (i : Nat) (hi : i < 6) (j : Nat) : ∀ (l : List Nat) (a : Nat), (∀ e ∈ l, e < 64) →
    (l.foldl (fun acc e => if e.testBit i then acc ||| sdiff e (2 ^ i) else acc) a).testBit j = (a.testBit j || l.any fun e => e.testBit i && e.testBit j && decide (i ≠ j)) := by
  intro l
  induction l with
  | nil => intro a _; simp
  | cons e l ih =>
    intro a hl
    rw [List.foldl_cons, ih _ fun x hx => hl x (by simp [hx]), List.any_cons]
    have he := hl e (by simp)
    cases h : e.testBit i
    · simp
    · simp only [if_true]
      rw [Nat.testBit_or, sdiff_testBit he (bit_lt64 hi), Nat.testBit_two_pow]
      cases a.testBit j <;> cases e.testBit j <;> by_cases hij : i = j <;> simp [hij]
theorem nbs_bit {l : List Nat} {i j : Nat} (hi : i < 6) (hl : ∀ e ∈ l, e < 64) : (nbs l i).testBit j = l.any fun e => e.testBit i && e.testBit j && decide (i ≠ j) := by
  unfold nbs; rw [nbs_fold i hi j l 0 hl]; simp
theorem nbs_pr {l : List Nat} {i j : Nat} (hi : i < 6) (hj : j < 6) (hl : ∀ e ∈ l, e < 64) (h2 : ∀ e ∈ l, sz e = 2) : (nbs l i).testBit j = true ↔ i ≠ j ∧ pr i j ∈ l := by
  rw [nbs_bit hi hl, List.any_eq_true]
  constructor
  · rintro ⟨e, he, h⟩
    simp only [Bool.and_eq_true, decide_eq_true_eq] at h
    obtain ⟨⟨h3, h4⟩, h5⟩ := h
    rw [← pr_of e (hl e he) (h2 e he) i hi j hj h5 h3 h4]
    exact ⟨h5, he⟩
  · rintro ⟨h, hm⟩
    exact ⟨pr i j, hm, by simp [pr_bit, h]⟩
/-- the program's test: each point's neighbours and itself hold s -/
def pairB (near : Nat → Nat) (s : Nat) : Bool := (pts s).all fun i => sub s (near i ||| 2 ^ i)
theorem pairB_iff {l : List Nat} {near : Nat → Nat} {s : Nat} (hs : s < 64) (hn : ∀ i, i < 6 → s.testBit i = true → ∀ j, j < 6 → ((near i).testBit j = true ↔ i ≠ j ∧ pr i j ∈ l)) : pairB near s = true ↔ Joined l s := by
  unfold pairB
  rw [List.all_eq_true]
  constructor
  · intro h i hi j hj hij hsi hsj
    have := sub_iff.1 (h i (mem_pts.2 ⟨hi, hsi⟩)) j hsj
    rw [Nat.testBit_or, Nat.testBit_two_pow, Bool.or_eq_true] at this
    rcases this with h' | h'
    · exact ((hn i hi hsi j hj).1 h').2
    · exact absurd (by simpa using h') hij
  · intro h i hi
    obtain ⟨h6, hsi⟩ := mem_pts.1 hi
    rw [sub_iff]
    intro j hsj
    have hj6 := bit6 hs hsj
    rw [Nat.testBit_or, Nat.testBit_two_pow, Bool.or_eq_true]
    by_cases hij : i = j
    · right; simp [hij]
    · left; exact (hn i h6 hsi j hj6).2 ⟨hij, h i h6 j hj6 hij hsi hsj⟩

/-- the two points' sets that are no edge -/
def othB (l : List Nat) (s : Nat) : Bool := decide (sz s = 2) && !l.contains s
theorem joined_iff {l : List Nat} {m s : Nat} (hm : m ≤ 6) (hs : s < 2 ^ m) : Joined l s ↔ ((List.range (2 ^ m)).filter (othB l)).any (sub · s) = false := by
  have h64 : 2 ^ m ≤ 64 := Nat.pow_le_pow_right (n := 2) (by omega) hm
  rw [List.any_eq_false]
  constructor
  · intro h e he hsub
    obtain ⟨h1, h2⟩ := List.mem_filter.1 he
    have hlt := List.mem_range.1 h1
    unfold othB at h2
    simp only [Bool.and_eq_true, decide_eq_true_eq, Bool.not_eq_true', ← Bool.not_eq_true, List.contains_iff_mem] at h2
    obtain ⟨i, hi, j, hj, hij, rfl⟩ := pr_ends e (by omega) h2.1
    have hb := pr_sub.1 hsub
    exact h2.2 (h i hi j hj hij hb.1 hb.2)
  · intro h i hi j hj hij hsi hsj
    have him : ∀ k, s.testBit k = true → k < m := fun k hk => by
      rcases Nat.lt_or_ge k m with h' | h'
      · exact h'
      · have := Nat.testBit_lt_two_pow (Nat.lt_of_lt_of_le hs (Nat.pow_le_pow_right (n := 2) (by omega) h'))
        rw [this] at hk; cases hk
    have hlt := pr_lt_pow (him i hsi) (him j hsj)
    by_cases hc : pr i j ∈ l
    · exact hc
    · exfalso
      refine h (pr i j) (List.mem_filter.2 ⟨List.mem_range.2 hlt, ?_⟩) (pr_sub.2 ⟨hsi, hsj⟩)
      unfold othB
      simp only [Bool.and_eq_true, decide_eq_true_eq, Bool.not_eq_true', ← Bool.not_eq_true, List.contains_iff_mem]
      exact ⟨pr_sz i hi j hj hij, hc⟩
end Go.Proofs.YtbdnlncpamandaaDoor

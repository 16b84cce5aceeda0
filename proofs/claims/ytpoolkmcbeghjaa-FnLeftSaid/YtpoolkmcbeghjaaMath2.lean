/- Texts of this claim, one behind the other: what each says stands at its head. -/
import Derived.Test.YtpoolkmcbeghjaaBase
/- The ways in which the program and the reference take the greatest or the least sets of a list in order: each gives the greatest or the least sets of the family. -/
namespace Go.Proofs.Ytpoolkmcbeghjaa

theorem list_range (l : List Nat) : (List.range l.length).map (nthN l) = l := by
  apply List.ext_getElem?
  intro i
  rw [List.getElem?_map]
  rcases Nat.lt_or_ge i l.length with h | h
  · rw [List.getElem?_range h, List.getElem?_eq_getElem h]
    simp [nthN_eq h]
  · rw [List.getElem?_eq_none (by simpa using h), List.getElem?_eq_none h]; rfl
theorem range_filter (l : List Nat) (r : Nat → Bool) (q : Nat → Bool) (h : ∀ i, i < l.length → q i = r (nthN l i)) : ((List.range l.length).filter q).map (nthN l) = l.filter r := by
  conv => rhs; rw [← list_range l]
  rw [List.filter_map]
  congr 1
  exact List.filter_congr fun i hi => h i (List.mem_range.1 hi)

/-! ### The program's least sets -/
def minS (out : List Nat) (s : Nat) : List Nat := if out.any (sub · s) then out else out ++ [s]
def minC (l : List Nat) : List Nat := l.foldl minS []
theorem minC_snoc (l : List Nat) (s : Nat) : minC (l ++ [s]) = minS (minC l) s := by unfold minC; rw [List.foldl_append]; rfl
theorem minC_len (l : List Nat) : (minC l).length ≤ l.length := by
  unfold minC
  have : ∀ (l out : List Nat), (l.foldl minS out).length ≤ out.length + l.length := by
    intro l
    induction l with
    | nil => intro out; simp
    | cons s l ih =>
      intro out
      rw [List.foldl_cons]
      refine Nat.le_trans (ih _) ?_
      unfold minS
      split <;> simp <;> omega
  simpa using this l []
/-- The least sets of a list. -/
def fmin (l : List Nat) : List Nat := l.filter fun s => l.all fun t => !(sub t s && s != t)
theorem mem_fmin {l : List Nat} {s : Nat} : s ∈ fmin l ↔ s ∈ l ∧ ∀ t ∈ l, sub t s = true → s = t := by
  unfold fmin
  rw [List.mem_filter, List.all_eq_true]
  constructor
  · rintro ⟨h, ha⟩
    refine ⟨h, fun t ht hs => ?_⟩
    have := ha t ht
    rw [hs] at this
    simpa using this
  · rintro ⟨h, ha⟩
    refine ⟨h, fun t ht => ?_⟩
    cases hs : sub t s
    · rfl
    · have := ha t ht hs
      simp [this]
theorem fmin_below {l : List Nat} (hl : ∀ s ∈ l, s < 64) (u : Nat) (hu : u ∈ l) : ∃ v ∈ fmin l, sub v u = true := by
  have : ∀ (k : Nat) (u : Nat), u ∈ l → rank u ≤ k → ∃ v ∈ fmin l, sub v u = true := by
    intro k
    induction k with
    | zero =>
      intro s hs hk
      have h0 : s = 0 := by unfold rank at hk; omega
      subst h0
      exact ⟨0, mem_fmin.2 ⟨hs, fun t _ h => (Nat.le_zero.1 (sub_le h)).symm⟩, sub_refl 0⟩
    | succ k ih =>
      intro s hs hk
      by_cases h : s ∈ fmin l
      · exact ⟨s, h, sub_refl s⟩
      · have : ∃ t, t ∈ l ∧ sub t s = true ∧ s ≠ t := by
          apply Classical.byContradiction
          intro hn
          apply h
          refine mem_fmin.2 ⟨hs, fun t ht hst => ?_⟩
          apply Classical.byContradiction
          intro hne
          exact hn ⟨t, ht, hst, hne⟩
        obtain ⟨t, ht, hst, hne⟩ := this
        have hr := sub_rank (hl s hs) hst (Ne.symm hne)
        obtain ⟨v, hv, hvt⟩ := ih t ht (by omega)
        exact ⟨v, hv, sub_trans hvt hst⟩
  exact this _ u hu (Nat.le_refl _)
theorem fmin_snoc (d : List Nat) (s : Nat) (hs : (d ++ [s]).Pairwise fun a b => rank a < rank b) (hl : ∀ t ∈ d ++ [s], t < 64) : fmin (d ++ [s]) = minS (fmin d) s := by
  have hlt : ∀ t ∈ d, rank t < rank s := fun t ht => by
    rw [List.pairwise_append] at hs
    exact hs.2.2 t ht s (by simp)
  have hs64 := hl s (by simp)
  have hd64 : ∀ t ∈ d, t < 64 := fun t ht => hl t (by simp [ht])
  have h1 : d.filter (fun t => (d ++ [s]).all fun u => !(sub u t && t != u)) = fmin d := by
    unfold fmin
    refine List.filter_congr fun t ht => ?_
    rw [List.all_append]
    have : ([s].all fun u => !(sub u t && t != u)) = true := by
      simp only [List.all_cons, List.all_nil, Bool.and_true]
      cases h : sub s t
      · rfl
      · by_cases e : s = t
        · simp [e]
        · have := sub_rank (hd64 t ht) h e
          have := hlt t ht
          omega
    rw [this, Bool.and_true]
  have h2 : ((d ++ [s]).all fun u => !(sub u s && s != u)) = !((fmin d).any (sub · s)) := by
    rw [Bool.eq_iff_iff]
    simp only [List.all_eq_true, List.mem_append, List.mem_singleton, Bool.not_eq_true', List.any_eq_false]
    constructor
    · intro h u hu hus
      have hu' := (mem_fmin.1 hu).1
      have := h u (.inl hu')
      rw [hus] at this
      have hne : s ≠ u := fun e => by have := hlt u hu'; rw [e] at this; omega
      simp [hne] at this
    · rintro h u (hu | rfl)
      · cases hus : sub u s
        · rfl
        · obtain ⟨v, hv, hvu⟩ := fmin_below hd64 u hu
          exact absurd (sub_trans hvu hus) (h v hv)
      · simp
  unfold minS
  unfold fmin at *
  rw [List.filter_append, h1, List.filter_cons, List.filter_nil, h2]
  cases (List.filter (fun s => d.all fun t => !(sub t s && s != t)) d).any (sub · s) <;> simp
theorem minC_fold (r : List Nat) : ∀ d : List Nat, (d ++ r).Pairwise (fun a b => rank a < rank b) → (∀ s ∈ d ++ r, s < 64) → r.foldl minS (fmin d) = fmin (d ++ r) := by
  induction r with
  | nil => intro d _ _; simp
  | cons s r ih =>
    intro d hs hl
    have e : d ++ s :: r = (d ++ [s]) ++ r := by simp
    rw [e] at hs hl
    rw [List.foldl_cons, ← fmin_snoc d s (List.pairwise_append.1 hs).1 (fun t ht => hl t (List.mem_append_left _ ht)), ih _ hs hl, e]
theorem minC_ord (p : Nat → Bool) : minC (ord p) = minL p := by
  have h := minC_fold (ord p) [] (by simpa using ord_sorted p) (by simpa using ord_lt)
  have h0 : fmin [] = [] := rfl
  rw [h0, List.nil_append] at h
  unfold minC
  rw [h]
  unfold fmin minL
  rw [ord_filter p, List.filter_filter, ord_filter]
  refine List.filter_congr fun s _ => ?_
  rw [Bool.and_comm]
  congr 1
  rw [Bool.eq_iff_iff]
  simp only [List.all_eq_true, List.mem_range]
  constructor
  · intro h t ht
    cases hp : p t
    · simp
    · have := h t (by rw [← ord_filter]; exact mem_ord.2 ⟨ht, hp⟩)
      simpa using this
  · intro h t ht
    rw [← ord_filter] at ht
    have := h t (mem_ord.1 ht).1
    rw [(mem_ord.1 ht).2] at this
    simpa using this

/-! ### The program's greatest sets -/
def keepMax (l : List Nat) (i : Nat) : Bool := !((l.drop (i + 1)).any (sub (nthN l i)))
def maxTo (l : List Nat) (k : Nat) : List Nat := ((List.range k).filter (keepMax l)).map (nthN l)
theorem maxTo_yes {l : List Nat} {k : Nat} (h : keepMax l k = true) : maxTo l (k + 1) = maxTo l k ++ [nthN l k] := by unfold maxTo; rw [List.range_succ, List.filter_append]; simp [h]
theorem maxTo_no {l : List Nat} {k : Nat} (h : keepMax l k = false) : maxTo l (k + 1) = maxTo l k := by unfold maxTo; rw [List.range_succ, List.filter_append]; simp [h]
theorem maxTo_len (l : List Nat) (k : Nat) : (maxTo l k).length ≤ k := by
  unfold maxTo; rw [List.length_map]; exact Nat.le_trans (List.length_filter_le _ _) (by simp)
theorem maxC_ord (p : Nat → Bool) : maxTo (ord p) (ord p).length = maxL p := by
  have hs := ord_sorted p
  rw [List.pairwise_iff_getElem] at hs
  unfold maxTo
  rw [range_filter (ord p) (fun s => (List.range 64).all fun t => !(p t && sub s t && s != t)) _ ?_]
  · unfold maxL
    rw [ord_filter p, List.filter_filter, ord_filter]
    exact List.filter_congr fun s _ => Bool.and_comm _ _
  · intro i hi
    unfold keepMax
    rw [nthN_eq hi]
    have hmem := mem_ord.1 (List.getElem_mem hi)
    rw [Bool.eq_iff_iff]
    simp only [Bool.not_eq_true', List.any_eq_false, List.all_eq_true, List.mem_range]
    constructor
    · intro h t ht
      cases hp : p t
      · simp
      · cases hsub : sub (ord p)[i] t
        · simp
        · by_cases e : (ord p)[i] = t
          · simp [e]
          · exfalso
            have hr := sub_rank ht hsub e
            obtain ⟨j, hj, hjt⟩ := List.getElem_of_mem (mem_ord.2 ⟨ht, hp⟩)
            have hij : i < j := by
              rcases Nat.lt_trichotomy i j with h | h | h
              · exact h
              · subst h; exact absurd hjt e
              · have := hs j i hj hi h; rw [hjt] at this; omega
            refine h t ?_ hsub
            rw [List.mem_drop_iff_getElem]
            exact ⟨j - (i + 1), by omega, by rw [← hjt]; congr 1; omega⟩
    · intro h t ht hsub
      rw [List.mem_drop_iff_getElem] at ht
      obtain ⟨j, hj, rfl⟩ := ht
      have hr := hs i (i + 1 + j) hi (by omega) (by omega)
      have hm := mem_ord.1 (List.getElem_mem (l := ord p) (n := i + 1 + j) (by omega))
      have := h _ hm.1
      rw [hm.2, hsub] at this
      have hne : (ord p)[i] ≠ (ord p)[i + 1 + j] := fun e => by rw [e] at hr; omega
      simp [hne] at this

/-! ### The reference's way -/
/-- a set of the list that speaks against s -/
def bad (g : Bool) (a b : Nat) : Bool := a != b && (if g then a &&& b == a else a &&& b == b)
def fineTo (g : Bool) (l : List Nat) (a k : Nat) : Bool := (l.take k).all fun b => !bad g a b
theorem fineTo_succ (g : Bool) (l : List Nat) (a k : Nat) (h : k < l.length) : fineTo g l a (k + 1) = (fineTo g l a k && !bad g a (nthN l k)) := by
  unfold fineTo; rw [nthN_take l k h, List.all_append]; simp
def extTo (g : Bool) (l : List Nat) (k : Nat) : List Nat := (l.take k).filter fun a => fineTo g l a l.length
theorem extTo_yes {g : Bool} {l : List Nat} {k : Nat} (hk : k < l.length) (h : fineTo g l (nthN l k) l.length = true) : extTo g l (k + 1) = extTo g l k ++ [nthN l k] := by
  unfold extTo; rw [nthN_take l k hk, List.filter_append]; simp [h]
theorem extTo_no {g : Bool} {l : List Nat} {k : Nat} (hk : k < l.length) (h : fineTo g l (nthN l k) l.length = false) : extTo g l (k + 1) = extTo g l k := by
  unfold extTo; rw [nthN_take l k hk, List.filter_append]; simp [h]
theorem extTo_len (g : Bool) (l : List Nat) (k : Nat) : (extTo g l k).length ≤ k := by
  unfold extTo; exact Nat.le_trans (List.length_filter_le _ _) (by rw [List.length_take]; omega)
/-- The greatest, or the least, sets of a family. -/
def extL (g : Bool) (p : Nat → Bool) : List Nat := if g then maxL p else minL p
theorem extTo_ord (g : Bool) (p : Nat → Bool) : extTo g (ord p) (ord p).length = extL g p := by
  have e : ∀ a, fineTo g (ord p) a (ord p).length = (List.range 64).all fun t => !(p t && bad g a t) := by
    intro a
    unfold fineTo
    rw [List.take_of_length_le (Nat.le_refl _), Bool.eq_iff_iff]
    simp only [List.all_eq_true, List.mem_range]
    constructor
    · intro h t ht
      cases hp : p t
      · simp
      · have := h t (mem_ord.2 ⟨ht, hp⟩); simpa using this
    · intro h t ht
      have := h t (mem_ord.1 ht).1
      rw [(mem_ord.1 ht).2] at this
      simpa using this
  have e2 : extTo g (ord p) (ord p).length = ord fun s => p s && (List.range 64).all fun t => !(p t && bad g s t) := by
    unfold extTo
    rw [List.take_of_length_le (Nat.le_refl _), ord_filter p, List.filter_filter, ord_filter]
    refine List.filter_congr fun s _ => ?_
    rw [Bool.and_comm, ← ord_filter, e]
  rw [e2]
  unfold extL maxL minL bad sub
  cases g
  · simp only [Bool.false_eq_true, if_false]
    refine ord_congr fun s _ => ?_
    congr 2
    funext t
    rw [Nat.and_comm t s]
    cases p t <;> cases (s &&& t == t) <;> simp
  · simp only [if_true]
    refine ord_congr fun s _ => ?_
    congr 2
    funext t
    cases p t <;> cases (s &&& t == s) <;> simp

end Go.Proofs.Ytpoolkmcbeghjaa

/- Ideals and complexes in plain terms: sums, meets, quotients as least sets. -/
namespace Go.Proofs.Ytpoolkmcbeghjaa

/-- what lies above a set of the list, below N -/
def above (l : List Nat) (N s : Nat) : Bool := decide (s < N) && l.any (sub · s)
theorem above_iff {l : List Nat} {N s : Nat} : above l N s = true ↔ s < N ∧ ∃ t ∈ l, sub t s = true := by
  unfold above; simp
theorem sub_or_left (a b : Nat) : sub a (a ||| b) = true := by rw [sub_iff]; intro i hi; rw [Nat.testBit_or, hi]; rfl
theorem sub_or_right (a b : Nat) : sub b (a ||| b) = true := by rw [sub_iff]; intro i hi; rw [Nat.testBit_or, hi]; simp
theorem or_sub {a b c : Nat} (h : sub a c = true) (h' : sub b c = true) : sub (a ||| b) c = true := by
  rw [sub_iff] at *
  intro i hi
  rw [Nat.testBit_or, Bool.or_eq_true] at hi
  rcases hi with hi | hi
  · exact h i hi
  · exact h' i hi

theorem minL_sum {l k : List Nat} {N : Nat} (hN : N ≤ 64) (hl : ∀ s ∈ l, s < N) (hk : ∀ s ∈ k, s < N) :
    minL (l ++ k).contains = minL fun s => above l N s || above k N s := by
  apply minL_eq
  · intro s hs hp
    refine ⟨s, hs, ?_, sub_refl s⟩
    rw [List.contains_iff_mem, List.mem_append] at hp
    rw [Bool.or_eq_true, above_iff, above_iff]
    rcases hp with h | h
    · exact .inl ⟨hl s h, s, h, sub_refl s⟩
    · exact .inr ⟨hk s h, s, h, sub_refl s⟩
  · intro s hs hq
    rw [Bool.or_eq_true, above_iff, above_iff] at hq
    rcases hq with ⟨_, t, ht, h⟩ | ⟨_, t, ht, h⟩
    · exact ⟨t, by have := hl t ht; omega, by rw [List.contains_iff_mem]; simp [ht], h⟩
    · exact ⟨t, by have := hk t ht; omega, by rw [List.contains_iff_mem]; simp [ht], h⟩

/-- all joins of a set of the one and a set of the other -/
def joins (l k : List Nat) : List Nat := l.flatMap fun a => k.map fun b => a ||| b
theorem mem_joins {l k : List Nat} {s : Nat} : s ∈ joins l k ↔ ∃ a ∈ l, ∃ b ∈ k, s = a ||| b := by
  unfold joins; simp [eq_comm]
theorem or_lt_pow {a b m : Nat} (ha : a < 2 ^ m) (hb : b < 2 ^ m) : a ||| b < 2 ^ m := Nat.or_lt_two_pow ha hb
theorem minL_meet {l k : List Nat} {m : Nat} (hN : 2 ^ m ≤ 64) (hl : ∀ s ∈ l, s < 2 ^ m) (hk : ∀ s ∈ k, s < 2 ^ m) :
    minL (joins l k).contains = minL fun s => above l (2 ^ m) s && above k (2 ^ m) s := by
  apply minL_eq
  · intro s hs hp
    refine ⟨s, hs, ?_, sub_refl s⟩
    rw [List.contains_iff_mem, mem_joins] at hp
    obtain ⟨a, ha, b, hb, rfl⟩ := hp
    have := or_lt_pow (hl a ha) (hk b hb)
    rw [Bool.and_eq_true, above_iff, above_iff]
    exact ⟨⟨this, a, ha, sub_or_left a b⟩, this, b, hb, sub_or_right a b⟩
  · intro s hs hq
    rw [Bool.and_eq_true, above_iff, above_iff] at hq
    obtain ⟨⟨_, a, ha, h1⟩, _, b, hb, h2⟩ := hq
    have := or_lt_pow (hl a ha) (hk b hb)
    exact ⟨a ||| b, by omega, by rw [List.contains_iff_mem, mem_joins]; exact ⟨a, ha, b, hb, rfl⟩, or_sub h1 h2⟩

theorem sdiff_sub_or {g s t : Nat} (hg : g < 64) (hs : s < 64) : sub (sdiff g s) t = true ↔ sub g (t ||| s) = true := by
  rw [sub_iff, sub_iff]
  constructor
  · intro h i hi
    rw [Nat.testBit_or]
    cases hb : s.testBit i
    · have := h i (by rw [sdiff_testBit hg hs, hi, hb]; rfl)
      rw [this]; rfl
    · simp
  · intro h i hi
    rw [sdiff_testBit hg hs, Bool.and_eq_true] at hi
    have := h i hi.1
    rw [Nat.testBit_or, Bool.or_eq_true] at this
    rcases this with h' | h'
    · exact h'
    · rw [h'] at hi; simp at hi
theorem sdiff_le (a b : Nat) : sdiff a b ≤ a := Nat.and_le_left
theorem minL_quot {l : List Nat} {m s : Nat} (hN : 2 ^ m ≤ 64) (hs : s < 64) (hl : ∀ g ∈ l, g < 2 ^ m) :
    minL (l.map fun g => sdiff g s).contains = minL fun t => decide (t < 2 ^ m) && l.any (sub · (t ||| s)) := by
  apply minL_eq
  · intro t ht hp
    refine ⟨t, ht, ?_, sub_refl t⟩
    rw [List.contains_iff_mem, List.mem_map] at hp
    obtain ⟨g, hg, rfl⟩ := hp
    have h1 := hl g hg
    have h2 := sdiff_le g s
    rw [Bool.and_eq_true, List.any_eq_true]
    exact ⟨by simp; omega, g, hg, (sdiff_sub_or (by omega) hs).1 (sub_refl _)⟩
  · intro t ht hq
    rw [Bool.and_eq_true, List.any_eq_true] at hq
    obtain ⟨_, g, hg, h⟩ := hq
    have h1 := hl g hg
    have h2 := sdiff_le g s
    exact ⟨sdiff g s, by omega, by rw [List.contains_iff_mem, List.mem_map]; exact ⟨g, hg, rfl⟩, (sdiff_sub_or (by omega) hs).2 h⟩

/-- a list in the sets' order has at most 64 sets -/
theorem sorted_len {l : List Nat} (hs : l.Pairwise fun a b => rank a < rank b) (hl : ∀ s ∈ l, s < 64) : l.length ≤ 64 := by
  rw [← ord_of_sorted hs hl]; exact ord_len _
end Go.Proofs.Ytpoolkmcbeghjaa

/- Graphs in plain terms: which sets are joined pair by pair. -/
namespace Go.Proofs.Ytpoolkmcbeghjaa
set_option maxRecDepth 20000

/-- the edge of two points -/
def pr (i j : Nat) : Nat := 2 ^ i ||| 2 ^ j
theorem pr_lt {i j : Nat} (hi : i < 6) (hj : j < 6) : pr i j < 64 := or_lt64 (bit_lt64 hi) (bit_lt64 hj)
theorem pr_comm (i j : Nat) : pr i j = pr j i := by unfold pr; exact Nat.or_comm _ _
theorem pr_of0 : ∀ e, e < 64 → ∀ i, i < 6 → ∀ j, j < 6 → (decide (sz e = 2) && (i != j) && e.testBit i && e.testBit j) = true → e = pr i j := by decide +kernel
theorem pr_of (e : Nat) (he : e < 64) (h2 : sz e = 2) (i : Nat) (hi : i < 6) (j : Nat) (hj : j < 6) (hij : i ≠ j) (h3 : e.testBit i = true) (h4 : e.testBit j = true) : e = pr i j :=
  pr_of0 e he i hi j hj (by simp [h2, hij, h3, h4])
theorem pr_sz : ∀ i, i < 6 → ∀ j, j < 6 → i ≠ j → sz (pr i j) = 2 := by decide +kernel
theorem pr_ends : ∀ e, e < 64 → sz e = 2 → ∃ i, i < 6 ∧ ∃ j, j < 6 ∧ i ≠ j ∧ e = pr i j := by decide +kernel
theorem pr_bit {i j k : Nat} : (pr i j).testBit k = (decide (i = k) || decide (j = k)) := by
  unfold pr; rw [Nat.testBit_or, Nat.testBit_two_pow, Nat.testBit_two_pow]
theorem pr_sub {i j s : Nat} : sub (pr i j) s = true ↔ s.testBit i = true ∧ s.testBit j = true := by
  rw [sub_iff]
  constructor
  · intro h; exact ⟨h i (by rw [pr_bit]; simp), h j (by rw [pr_bit]; simp)⟩
  · intro ⟨h1, h2⟩ k hk
    rw [pr_bit, Bool.or_eq_true] at hk
    rcases hk with h | h
    · have : i = k := by simpa using h
      rw [← this]; exact h1
    · have : j = k := by simpa using h
      rw [← this]; exact h2
theorem pr_lt_pow {i j m : Nat} (hi : i < m) (hj : j < m) : pr i j < 2 ^ m := or_lt_pow (Nat.pow_lt_pow_right (by omega) hi) (Nat.pow_lt_pow_right (by omega) hj)
theorem pr_add {i j : Nat} (hi : i < 6) (hj : j < 6) (h : i ≠ j) : 2 ^ i + 2 ^ j = pr i j := by
  have : ∀ i, i < 6 → ∀ j, j < 6 → i ≠ j → 2 ^ i + 2 ^ j = pr i j := by decide +kernel
  exact this i hi j hj h

/-- every two points of s make an edge -/
def Joined (l : List Nat) (s : Nat) : Prop := ∀ i, i < 6 → ∀ j, j < 6 → i ≠ j → s.testBit i = true → s.testBit j = true → pr i j ∈ l

/-- the neighbours of a point by the edges of the list -/
def nbs (l : List Nat) (i : Nat) : Nat := l.foldl (fun acc e => if e.testBit i then acc ||| sdiff e (2 ^ i) else acc) 0
theorem nbs_fold (i : Nat) (hi : i < 6) (j : Nat) : ∀ (l : List Nat) (a : Nat), (∀ e ∈ l, e < 64) →
    (l.foldl (fun acc e => if e.testBit i then acc ||| sdiff e (2 ^ i) else acc) a).testBit j = (a.testBit j || l.any fun e => e.testBit i && e.testBit j && decide (i ≠ j)) := by
  intro l
  induction l with
  | nil => intro a _; simp
  | cons e l ih =>
    intro a hl
    rw [List.foldl_cons, ih _ fun x hx => hl x (by simp [hx]), List.any_cons]
    have he := hl e (by simp)
    cases h : e.testBit i
    · simp
    · simp only [if_true]
      rw [Nat.testBit_or, sdiff_testBit he (bit_lt64 hi), Nat.testBit_two_pow]
      cases a.testBit j <;> cases e.testBit j <;> by_cases hij : i = j <;> simp [hij]
theorem nbs_bit {l : List Nat} {i j : Nat} (hi : i < 6) (hl : ∀ e ∈ l, e < 64) : (nbs l i).testBit j = l.any fun e => e.testBit i && e.testBit j && decide (i ≠ j) := by
  unfold nbs; rw [nbs_fold i hi j l 0 hl]; simp
theorem nbs_pr {l : List Nat} {i j : Nat} (hi : i < 6) (hj : j < 6) (hl : ∀ e ∈ l, e < 64) (h2 : ∀ e ∈ l, sz e = 2) : (nbs l i).testBit j = true ↔ i ≠ j ∧ pr i j ∈ l := by
  rw [nbs_bit hi hl, List.any_eq_true]
  constructor
  · rintro ⟨e, he, h⟩
    simp only [Bool.and_eq_true, decide_eq_true_eq] at h
    obtain ⟨⟨h3, h4⟩, h5⟩ := h
    rw [← pr_of e (hl e he) (h2 e he) i hi j hj h5 h3 h4]
    exact ⟨h5, he⟩
  · rintro ⟨h, hm⟩
    exact ⟨pr i j, hm, by simp [pr_bit, h]⟩
/-- the program's test: each point's neighbours and itself hold s -/
def pairB (near : Nat → Nat) (s : Nat) : Bool := (pts s).all fun i => sub s (near i ||| 2 ^ i)
theorem pairB_iff {l : List Nat} {near : Nat → Nat} {s : Nat} (hs : s < 64) (hn : ∀ i, i < 6 → s.testBit i = true → ∀ j, j < 6 → ((near i).testBit j = true ↔ i ≠ j ∧ pr i j ∈ l)) : pairB near s = true ↔ Joined l s := by
  unfold pairB
  rw [List.all_eq_true]
  constructor
  · intro h i hi j hj hij hsi hsj
    have := sub_iff.1 (h i (mem_pts.2 ⟨hi, hsi⟩)) j hsj
    rw [Nat.testBit_or, Nat.testBit_two_pow, Bool.or_eq_true] at this
    rcases this with h' | h'
    · exact ((hn i hi hsi j hj).1 h').2
    · exact absurd (by simpa using h') hij
  · intro h i hi
    obtain ⟨h6, hsi⟩ := mem_pts.1 hi
    rw [sub_iff]
    intro j hsj
    have hj6 := bit6 hs hsj
    rw [Nat.testBit_or, Nat.testBit_two_pow, Bool.or_eq_true]
    by_cases hij : i = j
    · right; simp [hij]
    · left; exact (hn i h6 hsi j hj6).2 ⟨hij, h i h6 j hj6 hij hsi hsj⟩

/-- the two points' sets that are no edge -/
def othB (l : List Nat) (s : Nat) : Bool := decide (sz s = 2) && !l.contains s
theorem joined_iff {l : List Nat} {m s : Nat} (hm : m ≤ 6) (hs : s < 2 ^ m) : Joined l s ↔ ((List.range (2 ^ m)).filter (othB l)).any (sub · s) = false := by
  have h64 : 2 ^ m ≤ 64 := Nat.pow_le_pow_right (n := 2) (by omega) hm
  rw [List.any_eq_false]
  constructor
  · intro h e he hsub
    obtain ⟨h1, h2⟩ := List.mem_filter.1 he
    have hlt := List.mem_range.1 h1
    unfold othB at h2
    simp only [Bool.and_eq_true, decide_eq_true_eq, Bool.not_eq_true', ← Bool.not_eq_true, List.contains_iff_mem] at h2
    obtain ⟨i, hi, j, hj, hij, rfl⟩ := pr_ends e (by omega) h2.1
    have hb := pr_sub.1 hsub
    exact h2.2 (h i hi j hj hij hb.1 hb.2)
  · intro h i hi j hj hij hsi hsj
    have him : ∀ k, s.testBit k = true → k < m := fun k hk => by
      rcases Nat.lt_or_ge k m with h' | h'
      · exact h'
      · have := Nat.testBit_lt_two_pow (Nat.lt_of_lt_of_le hs (Nat.pow_le_pow_right (n := 2) (by omega) h'))
        rw [this] at hk; cases hk
    have hlt := pr_lt_pow (him i hsi) (him j hsj)
    by_cases hc : pr i j ∈ l
    · exact hc
    · exfalso
      refine h (pr i j) (List.mem_filter.2 ⟨List.mem_range.2 hlt, ?_⟩) (pr_sub.2 ⟨hsi, hsj⟩)
      unfold othB
      simp only [Bool.and_eq_true, decide_eq_true_eq, Bool.not_eq_true', ← Bool.not_eq_true, List.contains_iff_mem]
      exact ⟨pr_sz i hi j hj hij, hc⟩
end Go.Proofs.Ytpoolkmcbeghjaa

/- Plain facts on sets of six points, written as numbers below 64, and on families of such sets. No program is in sight. -/
import Derived.Test.YtbdnlncpamandaaDoorBase
namespace Go.Proofs.YtbdnlncpamandaaDoor
set_option maxRecDepth 20000

/-- The number of points. -/
def sz (s : Nat) : Nat := s % 2 + s / 2 % 2 + s / 4 % 2 + s / 8 % 2 + s / 16 % 2 + s / 32 % 2
theorem sz_le (s : Nat) : sz s ≤ 6 := by unfold sz; omega
theorem sz_half (s : Nat) (hs : s < 64) : sz s = s % 2 + sz (s / 2) := by unfold sz; omega

/-- a is a subset of b. -/
def sub (a b : Nat) : Bool := a &&& b == a

/-! ### Lists of sets in order -/
/-- The sets with p of less than k points, and those of k points below s. -/
def ordTo (p : Nat → Bool) (k s : Nat) : List Nat := ((List.range k).flatMap fun j => (List.range 64).filter fun t => p t && sz t == j) ++ (List.range s).filter fun t => p t && sz t == k
/-- The sets with p, in order: by size, then by number. -/
def ord (p : Nat → Bool) : List Nat := (List.range 7).flatMap fun j => (List.range 64).filter fun t => p t && sz t == j
theorem ordTo_no {p : Nat → Bool} {k s : Nat} (h : (p s && sz s == k) = false) : ordTo p k (s + 1) = ordTo p k s := by
  unfold ordTo; rw [List.range_succ (n := s), List.filter_append]; simp [h]
theorem ordTo_yes {p : Nat → Bool} {k s : Nat} (h : (p s && sz s == k) = true) : ordTo p k (s + 1) = ordTo p k s ++ [s] := by
  unfold ordTo; rw [List.range_succ (n := s), List.filter_append]; simp [h]
theorem ordTo_next (p : Nat → Bool) (k : Nat) : ordTo p k 64 = ordTo p (k + 1) 0 := by
  unfold ordTo; rw [List.range_succ (n := k), List.flatMap_append]; simp
theorem ordTo_end (p : Nat → Bool) : ordTo p 7 0 = ord p := by unfold ordTo ord; simp

theorem mem_ord {p : Nat → Bool} {s : Nat} : s ∈ ord p ↔ s < 64 ∧ p s = true := by
  unfold ord
  simp only [List.mem_flatMap, List.mem_range, List.mem_filter, Bool.and_eq_true, beq_iff_eq]
  constructor
  · rintro ⟨j, _, h, hp, _⟩; exact ⟨h, hp⟩
  · rintro ⟨h, hp⟩; exact ⟨sz s, by have := sz_le s; omega, h, hp, rfl⟩
theorem ord_lt {p : Nat → Bool} : ∀ s ∈ ord p, s < 64 := fun _ h => (mem_ord.1 h).1
theorem ord_congr {p q : Nat → Bool} (h : ∀ s, s < 64 → p s = q s) : ord p = ord q := by
  have : ∀ j, (List.range 64).filter (fun t => p t && sz t == j) = (List.range 64).filter (fun t => q t && sz t == j) := fun j =>
    List.filter_congr fun t ht => by rw [h t (List.mem_range.1 ht)]
  unfold ord
  rw [show (fun j => (List.range 64).filter fun t => p t && sz t == j) = fun j => (List.range 64).filter fun t => q t && sz t == j from funext this]
/-- The 64 sets in order. -/
def ordAll : List Nat := ord fun _ => true
theorem ord_filter (p : Nat → Bool) : ord p = ordAll.filter p := by
  unfold ordAll ord
  rw [List.filter_flatMap]
  congr 1
  funext j
  rw [List.filter_filter]
  exact List.filter_congr fun t _ => by simp
/-- The place of a set in the order. -/
def rank (s : Nat) : Nat := sz s * 64 + s
theorem ordAll_sorted : ordAll.Pairwise fun a b => rank a < rank b := by decide +kernel
theorem ord_sorted (p : Nat → Bool) : (ord p).Pairwise fun a b => rank a < rank b := by rw [ord_filter]; exact ordAll_sorted.filter _
theorem ord_len (p : Nat → Bool) : (ord p).length ≤ 64 := by
  rw [ord_filter]; exact Nat.le_trans (List.length_filter_le _ _) (by decide +kernel)
theorem ordTo_len (p : Nat → Bool) (k s : Nat) : (ordTo p k s).length ≤ 64 * k + s := by
  unfold ordTo
  rw [List.length_append, List.length_flatMap]
  have h1 : ∀ l : List Nat, (l.map fun j => ((List.range 64).filter fun t => p t && sz t == j).length).sum ≤ 64 * l.length := by
    intro l
    induction l with
    | nil => simp
    | cons a l ih =>
      have := List.length_filter_le (fun t => p t && sz t == a) (List.range 64)
      simp at this ⊢; omega
  have h2 := h1 (List.range k)
  have h3 := List.length_filter_le (fun t => p t && sz t == k) (List.range s)
  simp at h2 h3 ⊢; omega
/-- A sorted list of sets is the order of its own members. -/
theorem ord_of_sorted {l : List Nat} (hs : l.Pairwise fun a b => rank a < rank b) (hl : ∀ s ∈ l, s < 64) : ord l.contains = l := by
  have inj : ∀ a b, a < 64 → b < 64 → rank a = rank b → a = b := by intro a b ha hb h; unfold rank at h; omega
  have h1 := ord_sorted l.contains
  apply List.Perm.eq_of_pairwise (le := fun a b => rank a < rank b) (fun a b _ _ h h' => absurd h' (by omega)) h1 hs
  rw [List.perm_ext_iff_of_nodup (h1.imp fun h e => by subst e; omega) (hs.imp fun h e => by subst e; omega)]
  intro s
  rw [mem_ord]
  simp
  exact hl s

/-! ### Families -/
/-- The family of the sets with p. -/
def fam (p : Nat → Bool) : Nat := (List.range 64).foldl (fun F t => if p t then F ||| 2 ^ t else F) 0
theorem fam_fold (p : Nat → Bool) (i : Nat) : ∀ (l : List Nat) (F : Nat), (l.foldl (fun F t => if p t then F ||| 2 ^ t else F) F).testBit i = (F.testBit i || (l.contains i && p i)) := by
  intro l
  induction l with
  | nil => intro F; simp
  | cons t l ih =>
    intro F
    rw [List.foldl_cons, ih]
    by_cases hp : p t = true
    · rw [if_pos hp, Nat.testBit_or, Nat.testBit_two_pow]
      by_cases h : t = i
      · subst h; simp [hp]
      · have h' : ¬ i = t := fun e => h e.symm
        simp [h, h']
    · rw [if_neg hp]
      by_cases h : i = t
      · subst h; simp [hp]
      · have h' : ¬ i = t := h
        simp [h']
theorem fam_bit (p : Nat → Bool) (i : Nat) : (fam p).testBit i = (decide (i < 64) && p i) := by
  unfold fam
  rw [fam_fold]
  simp
theorem fam_at {p : Nat → Bool} {i : Nat} (h : i < 64) : (fam p).testBit i = p i := by rw [fam_bit]; simp [h]
theorem fam_Fam (p : Nat → Bool) : Fam (fam p) := by
  unfold Fam
  apply Nat.lt_pow_two_of_testBit (n := 64)
  intro i hi
  rw [fam_bit]; simp; omega
theorem fam_eq {p : Nat → Bool} {F : Nat} (hF : Fam F) (h : ∀ s, s < 64 → F.testBit s = p s) : F = fam p := by
  apply Nat.eq_of_testBit_eq
  intro i
  rw [fam_bit]
  by_cases hi : i < 64
  · simp [hi, h i hi]
  · have : F.testBit i = false := Nat.testBit_lt_two_pow (Nat.lt_of_lt_of_le hF (Nat.pow_le_pow_right (n := 2) (by omega) (by omega : 64 ≤ i)))
    simp [hi, this]
theorem fam_congr {p q : Nat → Bool} (h : ∀ s, s < 64 → p s = q s) : fam p = fam q := fam_eq (fam_Fam p) fun s hs => by rw [fam_at hs, h s hs]
theorem fam_self {F : Nat} (hF : Fam F) : fam F.testBit = F := (fam_eq hF fun _ _ => rfl).symm
theorem fam_or (p q : Nat → Bool) : fam p ||| fam q = fam fun s => p s || q s :=
  fam_eq ((fam_Fam p).or (fam_Fam q)) fun s hs => by rw [Nat.testBit_or, fam_at hs, fam_at hs]
theorem fam_and (p q : Nat → Bool) : fam p &&& fam q = fam fun s => p s && q s :=
  fam_eq (fam_Fam p).and fun s hs => by rw [Nat.testBit_and, fam_at hs, fam_at hs]
theorem fam_or_bit (p : Nat → Bool) {t : Nat} (ht : t < 64) : fam p ||| 2 ^ t = fam fun s => p s || s == t :=
  fam_eq ((fam_Fam p).or (Fam.bit ht)) fun s hs => by
    rw [Nat.testBit_or, fam_at hs, Nat.testBit_two_pow]
    congr 1
    rw [Bool.eq_iff_iff]; simp; exact eq_comm
theorem fam_zero : fam (fun _ => false) = 0 := (fam_eq Fam.zero fun _ _ => by simp).symm
theorem ord_fam (p : Nat → Bool) : ord (fam p).testBit = ord p := ord_congr fun _ hs => fam_at hs

/-! ### A set of points out of a predicate -/
def bset (q : Nat → Bool) : Nat := (List.range 6).foldl (fun s k => if q k then s ||| 2 ^ k else s) 0
theorem bset_bit (q : Nat → Bool) (i : Nat) : (bset q).testBit i = (decide (i < 6) && q i) := by
  unfold bset
  rw [fam_fold]
  simp
theorem bset_lt (q : Nat → Bool) : bset q < 64 := by
  apply Nat.lt_pow_two_of_testBit (n := 6)
  intro i hi
  rw [bset_bit]; simp; omega
theorem bset_eq {q : Nat → Bool} {s : Nat} (hs : s < 64) (h : ∀ i, i < 6 → s.testBit i = q i) : s = bset q := by
  apply Nat.eq_of_testBit_eq
  intro i
  rw [bset_bit]
  by_cases hi : i < 6
  · simp [hi, h i hi]
  · have : s.testBit i = false := Nat.testBit_lt_two_pow (Nat.lt_of_lt_of_le hs (Nat.pow_le_pow_right (n := 2) (by omega) (by omega : 6 ≤ i)))
    simp [hi, this]
theorem bset_congr {p q : Nat → Bool} (h : ∀ i, i < 6 → p i = q i) : bset p = bset q := bset_eq (bset_lt p) fun i hi => by rw [bset_bit, h i hi]; simp [hi]
/-- the points of q below k -/
def bsetTo (q : Nat → Bool) (k : Nat) : Nat := bset fun i => decide (i < k) && q i
theorem bsetTo_lt (q : Nat → Bool) (k : Nat) : bsetTo q k < 2 ^ k := by
  apply Nat.lt_pow_two_of_testBit
  intro i hi
  unfold bsetTo
  rw [bset_bit]; simp; omega
theorem bsetTo_zero (q : Nat → Bool) : bsetTo q 0 = 0 := by
  symm; exact bset_eq (by omega) fun i _ => by simp
theorem bsetTo_no {q : Nat → Bool} {k : Nat} (h : q k = false) : bsetTo q (k + 1) = bsetTo q k := bset_congr fun i _ => by
  by_cases hi : i = k
  · subst hi; simp [h]
  · have : decide (i < k + 1) = decide (i < k) := by rw [decide_eq_decide]; omega
    rw [this]
theorem bsetTo_or {q : Nat → Bool} {k : Nat} (hk : k < 6) (h : q k = true) : bsetTo q (k + 1) = bsetTo q k ||| 2 ^ k := by
  symm
  refine bset_eq (or_lt64 (bset_lt _) (bit_lt64 hk)) fun i hi => ?_
  rw [Nat.testBit_or, Nat.testBit_two_pow]
  unfold bsetTo
  rw [bset_bit]
  by_cases e : i = k
  · subst e; simp [h]
  · have e1 : decide (i < k + 1) = decide (i < k) := by rw [decide_eq_decide]; omega
    have e2 : decide (k = i) = false := by simp; omega
    rw [e1, e2]; simp [hi]
theorem bsetTo_add {q : Nat → Bool} {k : Nat} (hk : k < 6) (h : q k = true) : bsetTo q (k + 1) = bsetTo q k + 2 ^ k := by
  rw [bsetTo_or hk h, Nat.or_comm]
  have := bsetTo_lt q k
  rw [Nat.add_comm]
  have e := Nat.two_pow_add_eq_or_of_lt this 1
  simpa using e.symm

/-! ### Points -/
def ptsTo (s k : Nat) : List Nat := (List.range k).filter s.testBit
/-- The points of a set. -/
def pts (s : Nat) : List Nat := ptsTo s 6
theorem ptsTo_yes {s k : Nat} (h : s.testBit k = true) : ptsTo s (k + 1) = ptsTo s k ++ [k] := by unfold ptsTo; rw [List.range_succ, List.filter_append]; simp [h]
theorem ptsTo_no {s k : Nat} (h : s.testBit k = false) : ptsTo s (k + 1) = ptsTo s k := by unfold ptsTo; rw [List.range_succ, List.filter_append]; simp [h]
theorem ptsTo_len (s k : Nat) : (ptsTo s k).length ≤ k := by unfold ptsTo; exact Nat.le_trans (List.length_filter_le _ _) (by simp)
theorem mem_pts {s i : Nat} : i ∈ pts s ↔ i < 6 ∧ s.testBit i = true := by unfold pts ptsTo; simp
theorem pts_lt {s : Nat} : ∀ i ∈ pts s, i < 6 := fun _ h => (mem_pts.1 h).1

theorem bit6 {s i : Nat} (hs : s < 64) (h : s.testBit i = true) : i < 6 := by
  rcases Nat.lt_or_ge i 6 with h' | h'
  · exact h'
  · rw [Nat.testBit_lt_two_pow (Nat.lt_of_lt_of_le hs (Nat.pow_le_pow_right (n := 2) (by omega) (by omega : 6 ≤ i)))] at h
    cases h
theorem sub_iff {a b : Nat} : sub a b = true ↔ ∀ i, a.testBit i = true → b.testBit i = true := by
  unfold sub
  rw [beq_iff_eq]
  constructor
  · intro h i hi
    have : (a &&& b).testBit i = true := by rw [h]; exact hi
    rw [Nat.testBit_and, Bool.and_eq_true] at this
    exact this.2
  · intro h
    apply Nat.eq_of_testBit_eq
    intro i
    rw [Nat.testBit_and]
    cases ha : a.testBit i with
    | false => rfl
    | true => rw [h i ha]; rfl
theorem sub_refl (a : Nat) : sub a a = true := by unfold sub; simp
theorem sub_trans {a b c : Nat} (h : sub a b = true) (h' : sub b c = true) : sub a c = true := by
  rw [sub_iff] at *; exact fun i hi => h' i (h i hi)
theorem sub_antisymm {a b : Nat} (h : sub a b = true) (h' : sub b a = true) : a = b := by
  unfold sub at h h'
  rw [beq_iff_eq] at h h'
  rw [← h, Nat.and_comm, h']
theorem sub_le {a b : Nat} (h : sub a b = true) : a ≤ b := by
  unfold sub at h; rw [beq_iff_eq] at h; rw [← h]; exact Nat.and_le_right
theorem sub_sz {a b : Nat} (hb : b < 64) (h : sub a b = true) : sz a ≤ sz b ∧ (sz a = sz b → a = b) := by
  have ha := sub_le h
  have : ∀ b, b < 64 → ∀ a, a < 64 → sub a b = true → sz a ≤ sz b ∧ (sz a = sz b → a = b) := by decide +kernel
  exact this b hb a (by omega) h
theorem sub_rank {a b : Nat} (hb : b < 64) (h : sub a b = true) (hne : a ≠ b) : rank a < rank b := by
  have h1 := sub_sz hb h
  have h2 := sub_le h
  unfold rank
  rcases Nat.lt_or_ge (sz a) (sz b) with h3 | h3
  · omega
  · exact absurd (h1.2 (by omega)) hne
theorem sdiff_sub {a b : Nat} (ha : a < 64) (hb : b < 64) : (sdiff a b = 0) ↔ sub a b = true := by
  rw [sub_iff]
  constructor
  · intro h i hi
    have := sdiff_testBit ha hb i
    rw [h, hi] at this
    simpa using this
  · intro h
    apply Nat.eq_of_testBit_eq
    intro i
    rw [sdiff_testBit ha hb]
    cases hi : a.testBit i with
    | false => simp
    | true => rw [h i hi]; simp

/-! ### The greatest and the least sets of a family -/
def maxL (p : Nat → Bool) : List Nat := ord fun s => p s && (List.range 64).all fun t => !(p t && sub s t && s != t)
def minL (p : Nat → Bool) : List Nat := ord fun s => p s && (List.range 64).all fun t => !(p t && sub t s && s != t)
theorem mem_maxL {p : Nat → Bool} {s : Nat} : s ∈ maxL p ↔ s < 64 ∧ p s = true ∧ ∀ t, t < 64 → p t = true → sub s t = true → s = t := by
  unfold maxL
  rw [mem_ord]
  simp only [Bool.and_eq_true, List.all_eq_true, List.mem_range, Bool.not_eq_true', Bool.and_eq_false_iff, bne_eq_false_iff_eq]
  constructor
  · rintro ⟨h, hp, ha⟩
    exact ⟨h, hp, fun t ht hq hs => by rcases ha t ht with (h | h) | h <;> simp_all⟩
  · rintro ⟨h, hp, ha⟩
    refine ⟨h, hp, fun t ht => ?_⟩
    have := ha t ht
    cases hq : p t <;> cases hs : sub s t <;> simp_all
theorem mem_minL {p : Nat → Bool} {s : Nat} : s ∈ minL p ↔ s < 64 ∧ p s = true ∧ ∀ t, t < 64 → p t = true → sub t s = true → s = t := by
  unfold minL
  rw [mem_ord]
  simp only [Bool.and_eq_true, List.all_eq_true, List.mem_range, Bool.not_eq_true', Bool.and_eq_false_iff, bne_eq_false_iff_eq]
  constructor
  · rintro ⟨h, hp, ha⟩
    exact ⟨h, hp, fun t ht hq hs => by rcases ha t ht with (h | h) | h <;> simp_all⟩
  · rintro ⟨h, hp, ha⟩
    refine ⟨h, hp, fun t ht => ?_⟩
    have := ha t ht
    cases hq : p t <;> cases hs : sub t s <;> simp_all
theorem maxL_lt {p : Nat → Bool} : ∀ s ∈ maxL p, s < 64 := ord_lt
theorem minL_lt {p : Nat → Bool} : ∀ s ∈ minL p, s < 64 := ord_lt
theorem maxL_congr {p q : Nat → Bool} (h : ∀ s, s < 64 → p s = q s) : maxL p = maxL q := by
  refine ord_congr fun s hs => ?_
  rw [h s hs]
  congr 1
  rw [Bool.eq_iff_iff]
  simp only [List.all_eq_true, List.mem_range]
  exact ⟨fun k t ht => by rw [← h t ht]; exact k t ht, fun k t ht => by rw [h t ht]; exact k t ht⟩
theorem minL_congr {p q : Nat → Bool} (h : ∀ s, s < 64 → p s = q s) : minL p = minL q := by
  refine ord_congr fun s hs => ?_
  rw [h s hs]
  congr 1
  rw [Bool.eq_iff_iff]
  simp only [List.all_eq_true, List.mem_range]
  exact ⟨fun k t ht => by rw [← h t ht]; exact k t ht, fun k t ht => by rw [h t ht]; exact k t ht⟩

/-- a set with p lies in a greatest one -/
theorem max_above {p : Nat → Bool} (s : Nat) (hs : s < 64) (hp : p s = true) : ∃ t ∈ maxL p, sub s t = true := by
  have : ∀ (k : Nat) (s : Nat), s < 64 → p s = true → 64 * 8 - rank s ≤ k → ∃ t ∈ maxL p, sub s t = true := by
    intro k
    induction k with
    | zero =>
      intro s hs hp hk
      have := sz_le s
      unfold rank at hk; omega
    | succ k ih =>
      intro s hs hp hk
      by_cases h : s ∈ maxL p
      · exact ⟨s, h, sub_refl s⟩
      · have : ∃ t, t < 64 ∧ p t = true ∧ sub s t = true ∧ s ≠ t := by
          apply Classical.byContradiction
          intro hn
          apply h
          refine mem_maxL.2 ⟨hs, hp, fun t ht hq hst => ?_⟩
          apply Classical.byContradiction
          intro hne
          exact hn ⟨t, ht, hq, hst, hne⟩
        obtain ⟨t, ht, hq, hst, hne⟩ := this
        have hr := sub_rank ht hst hne
        have hz := sz_le t
        obtain ⟨u, hu, htu⟩ := ih t ht hq (by unfold rank at *; omega)
        exact ⟨u, hu, sub_trans hst htu⟩
  exact this _ s hs hp (Nat.le_refl _)
theorem min_below {p : Nat → Bool} (s : Nat) (hs : s < 64) (hp : p s = true) : ∃ t ∈ minL p, sub t s = true := by
  have : ∀ (k : Nat) (s : Nat), s < 64 → p s = true → rank s ≤ k → ∃ t ∈ minL p, sub t s = true := by
    intro k
    induction k with
    | zero =>
      intro s hs hp hk
      have h0 : s = 0 := by unfold rank at hk; omega
      subst h0
      exact ⟨0, mem_minL.2 ⟨hs, hp, fun t _ _ h => (Nat.le_zero.1 (sub_le h)).symm⟩, sub_refl 0⟩
    | succ k ih =>
      intro s hs hp hk
      by_cases h : s ∈ minL p
      · exact ⟨s, h, sub_refl s⟩
      · have : ∃ t, t < 64 ∧ p t = true ∧ sub t s = true ∧ s ≠ t := by
          apply Classical.byContradiction
          intro hn
          apply h
          refine mem_minL.2 ⟨hs, hp, fun t ht hq hst => ?_⟩
          apply Classical.byContradiction
          intro hne
          exact hn ⟨t, ht, hq, hst, hne⟩
        obtain ⟨t, ht, hq, hst, hne⟩ := this
        have hr := sub_rank hs hst (Ne.symm hne)
        obtain ⟨u, hu, htu⟩ := ih t ht hq (by omega)
        exact ⟨u, hu, sub_trans htu hst⟩
  exact this _ s hs hp (Nat.le_refl _)
/-- Two families with the same subsets have the same greatest sets. -/
theorem maxL_eq {p q : Nat → Bool} (h1 : ∀ s, s < 64 → p s = true → ∃ t, t < 64 ∧ q t = true ∧ sub s t = true) (h2 : ∀ s, s < 64 → q s = true → ∃ t, t < 64 ∧ p t = true ∧ sub s t = true) : maxL p = maxL q := by
  refine ord_congr fun s hs => ?_
  rw [Bool.eq_iff_iff]
  have hm : ∀ p : Nat → Bool, ((p s && (List.range 64).all fun t => !(p t && sub s t && s != t)) = true) ↔ s ∈ maxL p := fun p => by unfold maxL; rw [mem_ord]; simp [hs]
  rw [hm, hm, mem_maxL, mem_maxL]
  constructor
  · rintro ⟨_, hp, hx⟩
    obtain ⟨t, ht, hq, hst⟩ := h1 s hs hp
    obtain ⟨u, hu, hpu, htu⟩ := h2 t ht hq
    have := hx u hu hpu (sub_trans hst htu)
    subst this
    have := sub_antisymm hst htu
    subst this
    refine ⟨hs, hq, fun v hv hqv hsv => ?_⟩
    obtain ⟨x, hx', hpx, hvx⟩ := h2 v hv hqv
    have := hx x hx' hpx (sub_trans hsv hvx)
    subst this
    exact sub_antisymm hsv hvx
  · rintro ⟨_, hq, hx⟩
    obtain ⟨t, ht, hp, hst⟩ := h2 s hs hq
    obtain ⟨u, hu, hqu, htu⟩ := h1 t ht hp
    have := hx u hu hqu (sub_trans hst htu)
    subst this
    have := sub_antisymm hst htu
    subst this
    refine ⟨hs, hp, fun v hv hpv hsv => ?_⟩
    obtain ⟨x, hx', hqx, hvx⟩ := h1 v hv hpv
    have := hx x hx' hqx (sub_trans hsv hvx)
    subst this
    exact sub_antisymm hsv hvx
theorem minL_eq {p q : Nat → Bool} (h1 : ∀ s, s < 64 → p s = true → ∃ t, t < 64 ∧ q t = true ∧ sub t s = true) (h2 : ∀ s, s < 64 → q s = true → ∃ t, t < 64 ∧ p t = true ∧ sub t s = true) : minL p = minL q := by
  refine ord_congr fun s hs => ?_
  rw [Bool.eq_iff_iff]
  have hm : ∀ p : Nat → Bool, ((p s && (List.range 64).all fun t => !(p t && sub t s && s != t)) = true) ↔ s ∈ minL p := fun p => by unfold minL; rw [mem_ord]; simp [hs]
  rw [hm, hm, mem_minL, mem_minL]
  constructor
  · rintro ⟨_, hp, hx⟩
    obtain ⟨t, ht, hq, hst⟩ := h1 s hs hp
    obtain ⟨u, hu, hpu, htu⟩ := h2 t ht hq
    have := hx u hu hpu (sub_trans htu hst)
    subst this
    have := sub_antisymm hst htu
    subst this
    refine ⟨hs, hq, fun v hv hqv hsv => ?_⟩
    obtain ⟨x, hx', hpx, hvx⟩ := h2 v hv hqv
    have := hx x hx' hpx (sub_trans hvx hsv)
    subst this
    exact (sub_antisymm hsv hvx).symm
  · rintro ⟨_, hq, hx⟩
    obtain ⟨t, ht, hp, hst⟩ := h2 s hs hq
    obtain ⟨u, hu, hqu, htu⟩ := h1 t ht hp
    have := hx u hu hqu (sub_trans htu hst)
    subst this
    have := sub_antisymm hst htu
    subst this
    refine ⟨hs, hp, fun v hv hpv hsv => ?_⟩
    obtain ⟨x, hx', hqx, hvx⟩ := h1 v hv hpv
    have := hx x hx' hqx (sub_trans hvx hsv)
    subst this
    exact (sub_antisymm hsv hvx).symm

/-! ### Orders of points -/
theorem pts_nodup (s : Nat) : (pts s).Nodup := by unfold pts ptsTo; exact (List.nodup_range).filter _
theorem contains_take_succ {l : List Nat} {J : Nat} (hJ : J < l.length) (j : Nat) : (l.take (J + 1)).contains j = ((l.take J).contains j || j == nthN l J) := by
  rw [nthN_take l J hJ, Bool.eq_iff_iff]; simp
theorem nthN_not_take {l : List Nat} (hl : l.Nodup) {J : Nat} (hJ : J < l.length) : (l.take J).contains (nthN l J) = false := by
  rw [← Bool.not_eq_true, List.contains_iff_mem, nthN_eq hJ]
  intro h
  have hp := List.nodup_iff_pairwise_ne.1 hl
  rw [List.pairwise_iff_getElem] at hp
  obtain ⟨i, hi, he⟩ := List.getElem_of_mem h
  rw [List.length_take] at hi
  rw [List.getElem_take] at he
  exact hp i J (by omega) hJ (by omega) he
def dualAt (l : List Nat) (i : Nat) : Nat := bset fun k => decide (k < l.length) && (nthN l k).testBit i
/-- the order turned over -/
def dualL (l : List Nat) : List Nat := (List.range l.length).map (dualAt l)
/-- the order turned over, the first I points and the first J points below the next one done -/
def dualIn (l : List Nat) (I J : Nat) : List Nat := (List.range l.length).map fun j => bsetTo (fun k => decide (k < l.length) && (nthN l k).testBit j) (if ((pts (nthN l I)).take J).contains j then I + 1 else I)
theorem dualIn_len (l : List Nat) (I J : Nat) : (dualIn l I J).length = l.length := by simp [dualIn]
theorem dualIn_zero (l : List Nat) : dualIn l 0 0 = List.replicate l.length 0 := by
  unfold dualIn
  apply List.ext_getElem?
  intro i
  rw [List.getElem?_map, List.getElem?_replicate]
  rcases Nat.lt_or_ge i l.length with h | h
  · rw [List.getElem?_range h]; simp [h, bsetTo_zero]
  · rw [List.getElem?_eq_none (by simpa using h)]; simp; omega
theorem dualIn_at (l : List Nat) (I J j : Nat) (hj : j < l.length) : (dualIn l I J)[j]? = some (bsetTo (fun k => decide (k < l.length) && (nthN l k).testBit j) (if ((pts (nthN l I)).take J).contains j then I + 1 else I)) := by
  unfold dualIn; rw [List.getElem?_map, List.getElem?_range hj]; rfl
theorem dualIn_succ (l : List Nat) (I J : Nat) (hI : I < l.length) (hI6 : I < 6) (hJ : J < (pts (nthN l I)).length) (hj : nthN (pts (nthN l I)) J < l.length) :
    (dualIn l I J).set (nthN (pts (nthN l I)) J) (bsetTo (fun k => decide (k < l.length) && (nthN l k).testBit (nthN (pts (nthN l I)) J)) I ||| 2 ^ I) = dualIn l I (J + 1) := by
  apply List.ext_getElem?
  intro i
  rw [List.getElem?_set, dualIn_len]
  have hm := mem_pts.1 (nthN_mem hJ)
  by_cases h : nthN (pts (nthN l I)) J = i
  · rw [if_pos h, if_pos hj, dualIn_at l I (J + 1) i (by omega), contains_take_succ hJ, h]
    simp only [BEq.rfl, Bool.or_true, if_true]
    rw [bsetTo_or hI6]
    rw [← h, hm.2]; simp [hI]
  · rw [if_neg h]
    rcases Nat.lt_or_ge i l.length with hi | hi
    · rw [dualIn_at l I J i hi, dualIn_at l I (J + 1) i hi, contains_take_succ hJ]
      have : (i == nthN (pts (nthN l I)) J) = false := by simp; omega
      rw [this, Bool.or_false]
    · rw [List.getElem?_eq_none (by rw [dualIn_len]; exact hi), List.getElem?_eq_none (by rw [dualIn_len]; exact hi)]
theorem dualIn_next (l : List Nat) (I : Nat) (hl6 : l.length ≤ 6) : dualIn l I (pts (nthN l I)).length = dualIn l (I + 1) 0 := by
  unfold dualIn
  apply List.map_congr_left
  intro j hj
  rw [List.mem_range] at hj
  rw [List.take_of_length_le (Nat.le_refl _), List.take_zero]
  simp only [List.contains_nil, Bool.false_eq_true, if_false]
  by_cases h : (pts (nthN l I)).contains j = true
  · rw [if_pos h]
  · rw [if_neg h]
    symm
    apply bsetTo_no
    have : ¬ (nthN l I).testBit j = true := fun e => h (by rw [List.contains_iff_mem]; exact mem_pts.2 ⟨by omega, e⟩)
    simp at this; simp [this]
theorem dualIn_end (l : List Nat) : dualIn l l.length 0 = dualL l := by
  unfold dualIn dualL dualAt
  apply List.map_congr_left
  intro j _
  rw [List.take_zero]
  simp only [List.contains_nil, Bool.false_eq_true, if_false]
  unfold bsetTo
  exact bset_congr fun i _ => by by_cases h : i < l.length <;> simp [h]

/-- what IsPoset asks -/
def PosetP (p : Int) (xs : List Int) : Prop :=
  1 ≤ p ∧ p ≤ 6 ∧ (xs.length : Int) = p ∧ (∀ i, i < xs.length → (∃ t : Nat, nth xs i = t ∧ t < 2 ^ p.toNat ∧ t.testBit i = false)) ∧
    ∀ i, i < xs.length → ∀ k, k < xs.length → (nth xs k).toNat.testBit i = true → sub (nth xs i).toNat (nth xs k).toNat = true

end Go.Proofs.YtbdnlncpamandaaDoor

/- The ways in which the program and the reference take the greatest or the least sets of a list in order: each gives the greatest or the least sets of the family. -/
import Derived.Test.YtbdnlncpamandaaDoorMath
namespace Go.Proofs.YtbdnlncpamandaaDoor
set_option maxRecDepth 20000

theorem list_range (l : List Nat) : (List.range l.length).map (nthN l) = l := by
  apply List.ext_getElem?
  intro i
  rw [List.getElem?_map]
  rcases Nat.lt_or_ge i l.length with h | h
  · rw [List.getElem?_range h, List.getElem?_eq_getElem h]
    simp [nthN_eq h]
  · rw [List.getElem?_eq_none (by simpa using h), List.getElem?_eq_none h]; rfl
theorem range_filter (l : List Nat) (r : Nat → Bool) (q : Nat → Bool) (h : ∀ i, i < l.length → q i = r (nthN l i)) : ((List.range l.length).filter q).map (nthN l) = l.filter r := by
  conv => rhs; rw [← list_range l]
  rw [List.filter_map]
  congr 1
  exact List.filter_congr fun i hi => h i (List.mem_range.1 hi)

/-! ### The program's least sets -/
def minS (out : List Nat) (s : Nat) : List Nat := if out.any (sub · s) then out else out ++ [s]
def minC (l : List Nat) : List Nat := l.foldl minS []
theorem minC_snoc (l : List Nat) (s : Nat) : minC (l ++ [s]) = minS (minC l) s := by unfold minC; rw [List.foldl_append]; rfl
theorem minC_len (l : List Nat) : (minC l).length ≤ l.length := by
  unfold minC
  have : ∀ (l out : List Nat), (l.foldl minS out).length ≤ out.length + l.length := by
    intro l
    induction l with
    | nil => intro out; simp
    | cons s l ih =>
      intro out
      rw [List.foldl_cons]
      refine Nat.le_trans (ih _) ?_
      unfold minS
      split <;> simp <;> omega
  simpa using this l []
/-- The least sets of a list. -/
def fmin (l : List Nat) : List Nat := l.filter fun s => l.all fun t => !(sub t s && s != t)
theorem mem_fmin {l : List Nat} {s : Nat} : s ∈ fmin l ↔ s ∈ l ∧ ∀ t ∈ l, sub t s = true → s = t := by
  unfold fmin
  rw [List.mem_filter, List.all_eq_true]
  constructor
  · rintro ⟨h, ha⟩
    refine ⟨h, fun t ht hs => ?_⟩
    have := ha t ht
    rw [hs] at this
    simpa using this
  · rintro ⟨h, ha⟩
    refine ⟨h, fun t ht => ?_⟩
    cases hs : sub t s
    · rfl
    · have := ha t ht hs
      simp [this]
theorem fmin_below {l : List Nat} (hl : ∀ s ∈ l, s < 64) (u : Nat) (hu : u ∈ l) : ∃ v ∈ fmin l, sub v u = true := by
  have : ∀ (k : Nat) (u : Nat), u ∈ l → rank u ≤ k → ∃ v ∈ fmin l, sub v u = true := by
    intro k
    induction k with
    | zero =>
      intro s hs hk
      have h0 : s = 0 := by unfold rank at hk; omega
      subst h0
      exact ⟨0, mem_fmin.2 ⟨hs, fun t _ h => (Nat.le_zero.1 (sub_le h)).symm⟩, sub_refl 0⟩
    | succ k ih =>
      intro s hs hk
      by_cases h : s ∈ fmin l
      · exact ⟨s, h, sub_refl s⟩
      · have : ∃ t, t ∈ l ∧ sub t s = true ∧ s ≠ t := by
          apply Classical.byContradiction
          intro hn
          apply h
          refine mem_fmin.2 ⟨hs, fun t ht hst => ?_⟩
          apply Classical.byContradiction
          intro hne
          exact hn ⟨t, ht, hst, hne⟩
        obtain ⟨t, ht, hst, hne⟩ := this
        have hr := sub_rank (hl s hs) hst (Ne.symm hne)
        obtain ⟨v, hv, hvt⟩ := ih t ht (by omega)
        exact ⟨v, hv, sub_trans hvt hst⟩
  exact this _ u hu (Nat.le_refl _)
theorem fmin_snoc (d : List Nat) (s : Nat) (hs : (d ++ [s]).Pairwise fun a b => rank a < rank b) (hl : ∀ t ∈ d ++ [s], t < 64) : fmin (d ++ [s]) = minS (fmin d) s := by
  have hlt : ∀ t ∈ d, rank t < rank s := fun t ht => by
    rw [List.pairwise_append] at hs
    exact hs.2.2 t ht s (by simp)
  have hs64 := hl s (by simp)
  have hd64 : ∀ t ∈ d, t < 64 := fun t ht => hl t (by simp [ht])
  have h1 : d.filter (fun t => (d ++ [s]).all fun u => !(sub u t && t != u)) = fmin d := by
    unfold fmin
    refine List.filter_congr fun t ht => ?_
    rw [List.all_append]
    have : ([s].all fun u => !(sub u t && t != u)) = true := by
      simp only [List.all_cons, List.all_nil, Bool.and_true]
      cases h : sub s t
      · rfl
      · by_cases e : s = t
        · simp [e]
        · have := sub_rank (hd64 t ht) h e
          have := hlt t ht
          omega
    rw [this, Bool.and_true]
  have h2 : ((d ++ [s]).all fun u => !(sub u s && s != u)) = !((fmin d).any (sub · s)) := by
    rw [Bool.eq_iff_iff]
    simp only [List.all_eq_true, List.mem_append, List.mem_singleton, Bool.not_eq_true', List.any_eq_false]
    constructor
    · intro h u hu hus
      have hu' := (mem_fmin.1 hu).1
      have := h u (.inl hu')
      rw [hus] at this
      have hne : s ≠ u := fun e => by have := hlt u hu'; rw [e] at this; omega
      simp [hne] at this
    · rintro h u (hu | rfl)
      · cases hus : sub u s
        · rfl
        · obtain ⟨v, hv, hvu⟩ := fmin_below hd64 u hu
          exact absurd (sub_trans hvu hus) (h v hv)
      · simp
  unfold minS
  unfold fmin at *
  rw [List.filter_append, h1, List.filter_cons, List.filter_nil, h2]
  cases (List.filter (fun s => d.all fun t => !(sub t s && s != t)) d).any (sub · s) <;> simp
theorem minC_fold (r : List Nat) : ∀ d : List Nat, (d ++ r).Pairwise (fun a b => rank a < rank b) → (∀ s ∈ d ++ r, s < 64) → r.foldl minS (fmin d) = fmin (d ++ r) := by
  induction r with
  | nil => intro d _ _; simp
  | cons s r ih =>
    intro d hs hl
    have e : d ++ s :: r = (d ++ [s]) ++ r := by simp
    rw [e] at hs hl
    rw [List.foldl_cons, ← fmin_snoc d s (List.pairwise_append.1 hs).1 (fun t ht => hl t (List.mem_append_left _ ht)), ih _ hs hl, e]
theorem minC_ord (p : Nat → Bool) : minC (ord p) = minL p := by
  have h := minC_fold (ord p) [] (by simpa using ord_sorted p) (by simpa using ord_lt)
  have h0 : fmin [] = [] := rfl
  rw [h0, List.nil_append] at h
  unfold minC
  rw [h]
  unfold fmin minL
  rw [ord_filter p, List.filter_filter, ord_filter]
  refine List.filter_congr fun s _ => ?_
  rw [Bool.and_comm]
  congr 1
  rw [Bool.eq_iff_iff]
  simp only [List.all_eq_true, List.mem_range]
  constructor
  · intro h t ht
    cases hp : p t
    · simp
    · have := h t (by rw [← ord_filter]; exact mem_ord.2 ⟨ht, hp⟩)
      simpa using this
  · intro h t ht
    rw [← ord_filter] at ht
    have := h t (mem_ord.1 ht).1
    rw [(mem_ord.1 ht).2] at this
    simpa using this

/-! ### The program's greatest sets -/
def keepMax (l : List Nat) (i : Nat) : Bool := !((l.drop (i + 1)).any (sub (nthN l i)))
def maxTo (l : List Nat) (k : Nat) : List Nat := ((List.range k).filter (keepMax l)).map (nthN l)
theorem maxTo_yes {l : List Nat} {k : Nat} (h : keepMax l k = true) : maxTo l (k + 1) = maxTo l k ++ [nthN l k] := by unfold maxTo; rw [List.range_succ, List.filter_append]; simp [h]
theorem maxTo_no {l : List Nat} {k : Nat} (h : keepMax l k = false) : maxTo l (k + 1) = maxTo l k := by unfold maxTo; rw [List.range_succ, List.filter_append]; simp [h]
theorem maxTo_len (l : List Nat) (k : Nat) : (maxTo l k).length ≤ k := by
  unfold maxTo; rw [List.length_map]; exact Nat.le_trans (List.length_filter_le _ _) (by simp)
theorem maxC_ord (p : Nat → Bool) : maxTo (ord p) (ord p).length = maxL p := by
  have hs := ord_sorted p
  rw [List.pairwise_iff_getElem] at hs
  unfold maxTo
  rw [range_filter (ord p) (fun s => (List.range 64).all fun t => !(p t && sub s t && s != t)) _ ?_]
  · unfold maxL
    rw [ord_filter p, List.filter_filter, ord_filter]
    exact List.filter_congr fun s _ => Bool.and_comm _ _
  · intro i hi
    unfold keepMax
    rw [nthN_eq hi]
    have hmem := mem_ord.1 (List.getElem_mem hi)
    rw [Bool.eq_iff_iff]
    simp only [Bool.not_eq_true', List.any_eq_false, List.all_eq_true, List.mem_range]
    constructor
    · intro h t ht
      cases hp : p t
      · simp
      · cases hsub : sub (ord p)[i] t
        · simp
        · by_cases e : (ord p)[i] = t
          · simp [e]
          · exfalso
            have hr := sub_rank ht hsub e
            obtain ⟨j, hj, hjt⟩ := List.getElem_of_mem (mem_ord.2 ⟨ht, hp⟩)
            have hij : i < j := by
              rcases Nat.lt_trichotomy i j with h | h | h
              · exact h
              · subst h; exact absurd hjt e
              · have := hs j i hj hi h; rw [hjt] at this; omega
            refine h t ?_ hsub
            rw [List.mem_drop_iff_getElem]
            exact ⟨j - (i + 1), by omega, by rw [← hjt]; congr 1; omega⟩
    · intro h t ht hsub
      rw [List.mem_drop_iff_getElem] at ht
      obtain ⟨j, hj, rfl⟩ := ht
      have hr := hs i (i + 1 + j) hi (by omega) (by omega)
      have hm := mem_ord.1 (List.getElem_mem (l := ord p) (n := i + 1 + j) (by omega))
      have := h _ hm.1
      rw [hm.2, hsub] at this
      have hne : (ord p)[i] ≠ (ord p)[i + 1 + j] := fun e => by rw [e] at hr; omega
      simp [hne] at this

/-! ### The reference's way -/
/-- a set of the list that speaks against s -/
def bad (g : Bool) (a b : Nat) : Bool := a != b && (if g then a &&& b == a else a &&& b == b)
def fineTo (g : Bool) (l : List Nat) (a k : Nat) : Bool := (l.take k).all fun b => !bad g a b
theorem fineTo_succ (g : Bool) (l : List Nat) (a k : Nat) (h : k < l.length) : fineTo g l a (k + 1) = (fineTo g l a k && !bad g a (nthN l k)) := by
  unfold fineTo; rw [nthN_take l k h, List.all_append]; simp
def extTo (g : Bool) (l : List Nat) (k : Nat) : List Nat := (l.take k).filter fun a => fineTo g l a l.length
theorem extTo_yes {g : Bool} {l : List Nat} {k : Nat} (hk : k < l.length) (h : fineTo g l (nthN l k) l.length = true) : extTo g l (k + 1) = extTo g l k ++ [nthN l k] := by
  unfold extTo; rw [nthN_take l k hk, List.filter_append]; simp [h]
theorem extTo_no {g : Bool} {l : List Nat} {k : Nat} (hk : k < l.length) (h : fineTo g l (nthN l k) l.length = false) : extTo g l (k + 1) = extTo g l k := by
  unfold extTo; rw [nthN_take l k hk, List.filter_append]; simp [h]
theorem extTo_len (g : Bool) (l : List Nat) (k : Nat) : (extTo g l k).length ≤ k := by
  unfold extTo; exact Nat.le_trans (List.length_filter_le _ _) (by rw [List.length_take]; omega)
/-- The greatest, or the least, sets of a family. -/
def extL (g : Bool) (p : Nat → Bool) : List Nat := if g then maxL p else minL p
theorem extTo_ord (g : Bool) (p : Nat → Bool) : extTo g (ord p) (ord p).length = extL g p := by
  have e : ∀ a, fineTo g (ord p) a (ord p).length = (List.range 64).all fun t => !(p t && bad g a t) := by
    intro a
    unfold fineTo
    rw [List.take_of_length_le (Nat.le_refl _), Bool.eq_iff_iff]
    simp only [List.all_eq_true, List.mem_range]
    constructor
    · intro h t ht
      cases hp : p t
      · simp
      · have := h t (mem_ord.2 ⟨ht, hp⟩); simpa using this
    · intro h t ht
      have := h t (mem_ord.1 ht).1
      rw [(mem_ord.1 ht).2] at this
      simpa using this
  have e2 : extTo g (ord p) (ord p).length = ord fun s => p s && (List.range 64).all fun t => !(p t && bad g s t) := by
    unfold extTo
    rw [List.take_of_length_le (Nat.le_refl _), ord_filter p, List.filter_filter, ord_filter]
    refine List.filter_congr fun s _ => ?_
    rw [Bool.and_comm, ← ord_filter, e]
  rw [e2]
  unfold extL maxL minL bad sub
  cases g
  · simp only [Bool.false_eq_true, if_false]
    refine ord_congr fun s _ => ?_
    congr 2
    funext t
    rw [Nat.and_comm t s]
    cases p t <;> cases (s &&& t == t) <;> simp
  · simp only [if_true]
    refine ord_congr fun s _ => ?_
    congr 2
    funext t
    cases p t <;> cases (s &&& t == s) <;> simp

end Go.Proofs.YtbdnlncpamandaaDoor

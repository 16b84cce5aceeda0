/- Counting: sums over sets by size, monomials by support, facets of the greatest size. No program is in sight. -/
import Derived.Test.YtpoolkmcbeghjaaCounts3
import Derived.Test.YtpoolkmcbeghjaaDim
import Derived.Test.YtpoolkmcbeghjaaMonoM
import Derived.Test.YtpoolkmcbeghjaaSumM
import Derived.Test.YtpoolkmcbeghjaaTop
namespace Go.Proofs.Ytpoolkmcbeghjaa
set_option maxRecDepth 20000

theorem topN_zero (h : List Int) : ∀ n j, topN h n ≤ j → j < n → nth h j = 0 := by
  intro n
  induction n with
  | zero => intro j _ hj; omega
  | succ n ih =>
    intro j h1 h2
    cases n with
    | zero => simp [topN] at h1; omega
    | succ n =>
      by_cases h0 : nth h (n + 1) = 0
      · rw [topN_cut (by omega) (q := n + 1) rfl h0] at h1
        by_cases hj : j = n + 1
        · rw [hj]; exact h0
        · exact ih j h1 (by omega)
      · rw [topN_stay (by omega) (q := n + 1) rfl h0] at h1; omega
theorem nth_topOf (h : List Int) (j : Nat) : nth (topOf h) j = nth h j := by
  by_cases h1 : j < topN h h.length
  · have := topN_le h h.length
    rw [nth_eq (by unfold topOf; rw [List.length_take]; omega), nth_eq (by omega)]
    unfold topOf
    rw [List.getElem_take]
  · have e : nth (topOf h) j = 0 := by
      unfold nth
      rw [List.getD_eq_getElem?_getD, List.getElem?_eq_none (by unfold topOf; rw [List.length_take]; omega)]; rfl
    rw [e]
    by_cases h2 : j < h.length
    · exact (topN_zero h _ j (by omega) h2).symm
    · unfold nth
      rw [List.getD_eq_getElem?_getD, List.getElem?_eq_none (by omega)]; rfl

theorem sm_single (k : Nat) (v : Int) : ∀ m, sm (fun a => if a = k then v else 0) m = if k < m then v else 0 := by
  intro m
  induction m with
  | zero => rw [sm, if_neg (by omega)]
  | succ m ih =>
    rw [sm, ih]
    by_cases h1 : k < m
    · rw [if_pos h1, if_neg (show ¬ m = k by omega), if_pos (show k < m + 1 by omega), Int.add_zero]
    · rw [if_neg h1]
      by_cases h2 : m = k
      · rw [if_pos h2, if_pos (show k < m + 1 by omega), Int.zero_add]
      · rw [if_neg h2, if_neg (show ¬ k < m + 1 by omega)]; rfl
/-- a sum over sets, by size -/
theorem sm_size (p : Nat → Bool) (g : Nat → Int) : ∀ n, sm (fun s => if p s then g (sz s) else 0) n = sm (fun a => ((lvlTo p n a).length : Int) * g a) 7 := by
  intro n
  induction n with
  | zero => rw [sm]; rw [show sm (fun a => ((lvlTo p 0 a).length : Int) * g a) 7 = sm (fun _ => 0) 7 from sm_congr _ fun a _ => by simp [lvlTo]]; exact (sm_zero 7).symm
  | succ n ih =>
    rw [sm, ih]
    cases hp : p n
    · rw [show sm (fun a => ((lvlTo p (n + 1) a).length : Int) * g a) 7 = sm (fun a => ((lvlTo p n a).length : Int) * g a) 7 from sm_congr _ fun a _ => by rw [lvl_no hp]]
      simp
    · have h1 : sm (fun a => ((lvlTo p (n + 1) a).length : Int) * g a) 7 = sm (fun a => ((lvlTo p n a).length : Int) * g a + (if a = sz n then g a else 0)) 7 := sm_congr _ fun a _ => by
        rw [lvl_yes hp]
        by_cases h : a = sz n
        · rw [if_pos h, if_pos h, List.length_append]; simp [Int.add_mul]
        · rw [if_neg h, if_neg h]; simp
      rw [h1, sm_add]
      have h2 : sm (fun a => if a = sz n then g a else 0) 7 = sm (fun a => if a = sz n then g (sz n) else 0) 7 := sm_congr _ fun a _ => by
        by_cases e : a = sz n
        · rw [if_pos e, if_pos e, e]
        · rw [if_neg e, if_neg e]
      rw [h2, sm_single, if_pos (show sz n < 7 by have := sz_le n; omega)]
      simp
theorem nthN_cntOf (p : Nat → Bool) (a : Nat) : nthN (cntOf p) a = (lvlTo p 64 a).length := by
  by_cases h : a < topTo p 64
  · rw [nthN_eq (by unfold cntOf; simpa using h)]
    simp [cntOf]
  · rw [lvl_high (by omega)]
    unfold nthN
    rw [List.getD_eq_getElem?_getD, List.getElem?_eq_none (by unfold cntOf; simp; omega)]; rfl
theorem cntOf_len (p : Nat → Bool) : (cntOf p).length = topTo p 64 := by simp [cntOf]
/-- a sum over the faces by size, over the counts -/
theorem sm_faces (p : Nat → Bool) (g : Nat → Int) : sm (fun s => if p s then g (sz s) else 0) 64 = sm (fun a => (nthN (cntOf p) a : Int) * g a) (cntOf p).length := by
  rw [sm_size]
  have h1 := topTo_le p 64
  rw [cntOf_len]
  rw [show sm (fun a => ((lvlTo p 64 a).length : Int) * g a) 7 = sm (fun a => (nthN (cntOf p) a : Int) * g a) 7 from sm_congr _ fun a _ => by rw [nthN_cntOf]]
  exact sm_more _ _ _ (fun i hi => by rw [nthN_cntOf, lvl_high hi]; simp) h1
theorem cnt_zero {l : List Nat} : 0 < (cntOf (isFace l)).length → nthN (cntOf (isFace l)) 0 = 1 := by
  intro h
  rw [cntOf_len] at h
  rw [nthN_cntOf]
  rcases topTo_hit (p := isFace l) 64 with h0 | ⟨s, hs, hf, _⟩
  · omega
  · have hz : isFace l 0 = true := by
      unfold isFace at hf ⊢
      obtain ⟨t, ht, _⟩ := List.any_eq_true.1 hf
      exact List.any_eq_true.2 ⟨t, ht, by simp [sub]⟩
    have : lvlTo (isFace l) 64 0 = [0] := by
      have e : lvlTo (isFace l) 64 0 = lvlTo (fun s => decide (s = 0)) 64 0 := by
        unfold lvlTo
        apply List.filter_congr
        intro s hs
        rw [List.mem_range] at hs
        by_cases h0 : s = 0
        · subst h0; simp [hz]
        · have : (sz s == 0) = false := by
            rw [beq_eq_false_iff_ne]; exact sz_pos s hs h0
          simp [this]
      rw [e]; decide +kernel
    rw [this]; rfl
where
  sz_pos : ∀ s, s < 64 → s ≠ 0 → sz s ≠ 0 := by decide +kernel

/-! ### Monomials by support -/
def cntM (m d : Nat) : Bool := let S := (monoL (m - 1) [] d).map suppOf; (S.all fun s => decide (s < 64)) && (List.range 64).all fun s => (S.count s : Int) == (if s < 2 ^ m then cLeft (sz s) d else 0)
theorem cntM_ok : ∀ m, m < 7 → 1 ≤ m → ∀ d, d < 5 → cntM m d = true := by decide +kernel
theorem filter_count (q : Nat → Bool) : ∀ S : List Nat, (∀ s ∈ S, s < 64) → ((S.filter q).length : Int) = sm (fun s => if q s then (S.count s : Int) else 0) 64 := by
  intro S
  induction S with
  | nil => intro _; rw [show sm (fun s => if q s then (([] : List Nat).count s : Int) else 0) 64 = sm (fun _ => 0) 64 from sm_congr _ fun s _ => by simp]; exact (sm_zero 64).symm
  | cons x S ih =>
    intro h
    have hx := h x (by simp)
    have h1 := ih fun s hs => h s (by simp [hs])
    have h2 : sm (fun s => if q s then ((x :: S).count s : Int) else 0) 64 = sm (fun s => (if q s then (S.count s : Int) else 0) + (if s = x then (if q x then 1 else 0) else 0)) 64 := sm_congr _ fun s _ => by
      rw [List.count_cons]
      by_cases e : s = x
      · subst e; cases q s <;> simp
      · have hb : (x == s) = false := by rw [beq_eq_false_iff_ne]; exact fun h => e h.symm
        rw [if_neg e, hb]; simp
    rw [h2, sm_add, ← h1, sm_single, if_pos hx, List.filter_cons]
    cases q x <;> simp
theorem pickL_len (P : List Int → Bool) (L : List (List Int)) : (pickL P L).length = (L.filter P).length := by
  unfold pickL pickI
  rw [List.length_map]
  have e : L = (List.range L.length).map (nthL L) := by
    apply List.ext_getElem
    · simp
    · intro i h1 h2
      simp [nthL, List.getElem?_eq_getElem h1]
  conv => rhs; rw [e, List.filter_map, List.length_map]
  rfl
theorem mono_left {l : List Nat} {m d : Nat} (h1 : 1 ≤ m) (h6 : m ≤ 6) (hd : d ≤ 4) (hl : ∀ t ∈ l, t < 2 ^ m) (_h64 : ∀ t ∈ l, t < 64) :
    ((pickL (fun e => isFace l (suppOf e)) (monoL (m - 1) [] d)).length : Int) = (leftN (cntOf (isFace l)) d : Int) := by
  have hc := cntM_ok m (by omega) h1 d (by omega)
  unfold cntM at hc
  simp only [Bool.and_eq_true, List.all_eq_true, decide_eq_true_eq, List.mem_range, beq_iff_eq] at hc
  obtain ⟨hs, hc⟩ := hc
  rw [pickL_len, leftN_sm _ cnt_zero, ← sm_faces]
  have e : ((monoL (m - 1) [] d).filter fun e => isFace l (suppOf e)).length = (((monoL (m - 1) [] d).map suppOf).filter (isFace l)).length := by
    rw [List.filter_map, List.length_map]; rfl
  rw [e, filter_count _ _ hs]
  refine sm_congr _ fun s hs64 => ?_
  cases hf : isFace l s
  · simp
  · have hlt : s < 2 ^ m := by
      unfold isFace at hf
      obtain ⟨t, ht, hst⟩ := List.any_eq_true.1 hf
      exact Nat.lt_of_le_of_lt (sub_le hst) (hl t ht)
    simp only [if_true]
    rw [hc s hs64, if_pos hlt]

/-! ### The facets of the greatest size -/
/-- how many of the first k have size D -/
def largeTo (l : List Nat) (D k : Nat) : Nat := ((l.take k).filter fun s => sz s == D).length
theorem largeTo_succ {l : List Nat} {D k : Nat} (h : k < l.length) : largeTo l D (k + 1) = largeTo l D k + (if sz (nthN l k) = D then 1 else 0) := by
  unfold largeTo
  rw [nthN_take _ _ h, List.filter_append, List.length_append]
  by_cases e : sz (nthN l k) = D <;> simp [e]
theorem large_top {l : List Nat} (hl : ∀ t ∈ l, t < 64) (hnd : l.Nodup) {D : Nat} (hD : topTo (isFace l) 64 = D + 1) : (l.filter fun s => sz s == D).length = nthN (cntOf (isFace l)) D := by
  rw [nthN_cntOf]
  apply List.Perm.length_eq
  unfold lvlTo
  rw [List.perm_ext_iff_of_nodup (hnd.filter _) (List.nodup_range.filter _)]
  intro s
  constructor
  · intro h
    obtain ⟨h1, h2⟩ := List.mem_filter.1 h
    refine List.mem_filter.2 ⟨List.mem_range.2 (hl s h1), ?_⟩
    rw [Bool.and_eq_true]
    exact ⟨List.any_eq_true.2 ⟨s, h1, sub_refl _⟩, h2⟩
  · intro h
    obtain ⟨h1, h2⟩ := List.mem_filter.1 h
    rw [Bool.and_eq_true, beq_iff_eq] at h2
    rw [List.mem_range] at h1
    obtain ⟨hf, hsz⟩ := h2
    unfold isFace at hf
    obtain ⟨t, ht, hst⟩ := List.any_eq_true.1 hf
    have h3 := sub_sz (hl t ht) hst
    have h4 : isFace l t = true := List.any_eq_true.2 ⟨t, ht, sub_refl _⟩
    have h5 := topTo_ge h4 64 (hl t ht)
    have : s = t := h3.2 (by omega)
    subst this
    exact List.mem_filter.2 ⟨ht, by simpa using hsz⟩
end Go.Proofs.Ytpoolkmcbeghjaa

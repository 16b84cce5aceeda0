/- Texts of this claim, one behind the other: what each says stands at its head. -/
import Derived.Deep.RegionWith
import Derived.Test.YtbdnlncpamandaaBase
import Derived.Test.YtbdnlncpamandaaCounts3
import Derived.Test.YtbdnlncpamandaaFaces2
import Derived.Test.YtbdnlncpamandaaFaces3
import Derived.Test.YtbdnlncpamandaaHNum2
/- Contracts of DegreeFromH and LongNumbers, the program's and the reference's. -/
namespace Go.Proofs.Ytbdnlncpamandaa
set_option maxRecDepth 20000
open Go.RowKit
set_option linter.unusedSimpArgs false
set_option linter.unusedVariables false

/-- the sum of the first numbers -/
def isum (xs : List Int) : Nat → Int
  | 0 => 0
  | k + 1 => isum xs k + nth xs k
theorem isum_bd {xs : List Int} (h : ∀ x ∈ xs, -2240000000000 ≤ x ∧ x ≤ 2240000000000) : ∀ k : Nat, k ≤ xs.length → -(2240000000000 * (k : Int)) ≤ isum xs k ∧ isum xs k ≤ 2240000000000 * (k : Int) := by
  intro k
  induction k with
  | zero => intro _; simp [isum]
  | succ k ih =>
    intro hk
    have h1 := ih (by omega)
    have h2 := h _ (nth_mem (xs := xs) (k := k) (by omega))
    unfold isum
    omega

end Go.Proofs.Ytbdnlncpamandaa

/- Contracts of LongNumbers, the program's and the reference's. -/
namespace Go.Proofs.Ytbdnlncpamandaa
set_option maxRecDepth 20000
open Go.RowKit
set_option linter.unusedSimpArgs false
set_option linter.unusedVariables false

/-- v more at k -/
def addAt (xs : List Int) (k : Nat) (v : Int) : List Int := xs.set k (nth xs k + v)
theorem addAt_len (xs : List Int) (k : Nat) (v : Int) : (addAt xs k v).length = xs.length := by simp [addAt]
/-- row i's first j terms -/
def lnJ (f : List Nat) (p i : Nat) (xs : List Int) : Nat → List Int
  | 0 => xs
  | j + 1 => addAt (lnJ f p i xs j) (i + j) (sgn j (nthN f i * chz (p - i) j))
/-- the first i rows -/
def lnI (f : List Nat) (p : Nat) : Nat → List Int
  | 0 => List.replicate (p + 1) 0
  | i + 1 => lnJ f p i (lnI f p i) (p + 1 - i)
theorem lnJ_len (f : List Nat) (p i : Nat) (xs : List Int) : ∀ j, (lnJ f p i xs j).length = xs.length := by
  intro j
  induction j with
  | zero => rfl
  | succ j ih => unfold lnJ; rw [addAt_len, ih]
theorem lnI_len (f : List Nat) (p : Nat) : ∀ i, (lnI f p i).length = p + 1 := by
  intro i
  induction i with
  | zero => simp [lnI]
  | succ i ih => unfold lnI; rw [lnJ_len, ih]
theorem addAt_bd {xs : List Int} {B v C : Int} {k : Nat} (h : ∀ i, -B ≤ nth xs i ∧ nth xs i ≤ B) (hv : -C ≤ v ∧ v ≤ C) (hB : 0 ≤ B) (i : Nat) : -(B + C) ≤ nth (addAt xs k v) i ∧ nth (addAt xs k v) i ≤ B + C := by
  have h1 := h i
  have h2 := h k
  by_cases hi : i < xs.length
  · have e : nth (addAt xs k v) i = if k = i then nth xs k + v else nth xs i := by
      rw [nth_eq (by rw [addAt_len]; exact hi)]
      unfold addAt
      rw [List.getElem_set]
      split
      · rfl
      · rw [nth_eq hi]
    rw [e]
    split <;> omega
  · have e : nth (addAt xs k v) i = 0 := by
      unfold nth
      rw [List.getD_eq_getElem?_getD, List.getElem?_eq_none (by rw [addAt_len]; omega)]; rfl
    rw [e]; omega
theorem lterm {f : List Nat} (hf : ∀ x ∈ f, x ≤ 64) {p i j : Nat} (hp : p ≤ 6) (hj : j ≤ 6) (hi : i < f.length) : nthN f i * chz (p - i) j ≤ 320000000000 := by
  have h1 : nthN f i ≤ 64 := hf _ (nthN_mem hi)
  have h2 := chz_bd (n := p - i) (k := j) (by omega) (by omega)
  have : nthN f i * chz (p - i) j ≤ 64 * 5000000000 := Nat.mul_le_mul h1 h2
  omega
theorem lnJ_bd {f : List Nat} (hf : ∀ x ∈ f, x ≤ 64) {p i : Nat} (hp : p ≤ 6) (hi : i < f.length) {xs : List Int} {B : Int} (hB : 0 ≤ B) (h : ∀ i, -B ≤ nth xs i ∧ nth xs i ≤ B) :
    ∀ j : Nat, j ≤ 7 → ∀ t, -(B + 320000000000 * (j : Int)) ≤ nth (lnJ f p i xs j) t ∧ nth (lnJ f p i xs j) t ≤ B + 320000000000 * (j : Int) := by
  intro j
  induction j with
  | zero => intro _ t; simpa [lnJ] using h t
  | succ j ih =>
    intro hj t
    have h1 := lterm hf hp (show j ≤ 6 by omega) hi
    have h2 := sgn_bd j (nthN f i * chz (p - i) j)
    have h3 := addAt_bd (k := i + j) (v := sgn j (nthN f i * chz (p - i) j)) (C := 320000000000) (ih (by omega)) (by omega) (by omega) t
    unfold lnJ
    omega
theorem lnI_bd {f : List Nat} (hf : ∀ x ∈ f, x ≤ 64) {p : Nat} (hp : p ≤ 6) : ∀ i : Nat, i ≤ f.length → ∀ t, -(2240000000000 * (i : Int)) ≤ nth (lnI f p i) t ∧ nth (lnI f p i) t ≤ 2240000000000 * (i : Int) := by
  intro i
  induction i with
  | zero =>
    intro _ t
    have e : nth (lnI f p 0) t = 0 := by
      unfold nth lnI
      rw [List.getD_eq_getElem?_getD, List.getElem?_replicate]
      split <;> rfl
    rw [e]; omega
  | succ i ih =>
    intro hi t
    have := lnJ_bd hf hp (show i < f.length by omega) (B := 2240000000000 * (i : Int)) (by omega) (ih (by omega)) (p + 1 - i) (by omega) t
    unfold lnI
    omega

/-- a set of points below m has at most m of them -/
theorem sz_pow : ∀ m, m < 7 → ∀ s, s < 2 ^ m → sz s ≤ m := by decide +kernel
theorem cnt_pts {p : Int} {xs : List Int} {f : List Nat} {m : Nat} (hm : p = m) (h : Cnts p xs f) : f.length ≤ m + 1 := by
  rcases h with ⟨_, rfl⟩ | ⟨l, rfl, hA, hl, rfl⟩
  · simp
  · obtain ⟨l', he, hl2, _⟩ := hA.nat
    have := up_inj he; subst this
    have hm6 : m ≤ 6 := by have := hA.2.1; omega
    have hface : ∀ s, isFace l s = true → sz s ≤ m := fun s hs => by
      unfold isFace at hs
      obtain ⟨t, ht, hst⟩ := List.any_eq_true.1 hs
      have h1 : t < 2 ^ m := by have := (hl2 t ht).1; rw [hm] at this; simpa using this
      have h2 : s ≤ t := by
        unfold sub at hst
        have h3 : s &&& t = s := by simpa using hst
        rw [← h3]; exact Nat.and_le_right
      exact sz_pow m (by omega) s (by omega)
    have key : ∀ k, topTo (isFace l) k ≤ m + 1 := by
      intro k
      induction k with
      | zero => simp [topTo]
      | succ k ih =>
        rw [topTo_succ]
        split
        · rename_i h
          rw [Bool.and_eq_true] at h
          have := hface k h.1
          omega
        · exact ih
    unfold cntOf
    simpa using key 64

end Go.Proofs.Ytbdnlncpamandaa

/- Finite sums of integers, and the identities between the numbers of a complex that FnLeft asks for. No program is in sight. -/
namespace Go.Proofs.Ytbdnlncpamandaa
set_option maxRecDepth 20000
theorem sgn_mul (q x z : Nat) : sgn q (x * z) = (x : Int) * sgn q z := by
  unfold sgn; split
  · rw [Int.natCast_mul, Int.mul_neg]
  · rw [Int.natCast_mul]

/-! ### The numbers of a complex as sums over its counts -/
/-- what a face of a points adds to the t-th long number of m points -/
def cL (m a t : Nat) : Int := if a ≤ t ∧ t ≤ m then sgn (t - a) (chz (m - a) (t - a)) else 0
/-- what a face of a points adds to the count of what is left in degree i -/
def cLeft (a i : Nat) : Int := if i = 0 then (if a = 0 then 1 else 0) else (if a = 0 then 0 else (chz (i - 1) (a - 1) : Int))
theorem nth_addAt (xs : List Int) (k : Nat) (v : Int) (i : Nat) : nth (addAt xs k v) i = if k = i ∧ i < xs.length then nth xs i + v else nth xs i := by
  by_cases hi : i < xs.length
  · rw [nth_eq (by rw [addAt_len]; exact hi)]
    unfold addAt
    rw [List.getElem_set]
    by_cases hk : k = i
    · subst hk; simp [hi]
    · simp [hk, nth_eq hi]
  · have e : nth (addAt xs k v) i = nth xs i := by
      unfold nth
      rw [List.getD_eq_getElem?_getD, List.getD_eq_getElem?_getD, List.getElem?_eq_none (by rw [addAt_len]; omega), List.getElem?_eq_none (by omega)]
    rw [e, if_neg (by omega)]
theorem nth_lnJ (f : List Nat) (p i : Nat) (xs : List Int) (hl : xs.length = p + 1) (t : Nat) : ∀ j, nth (lnJ f p i xs j) t = nth xs t + (if i ≤ t ∧ t < i + j ∧ t ≤ p then (nthN f i : Int) * sgn (t - i) (chz (p - i) (t - i)) else 0) := by
  intro j
  induction j with
  | zero => rw [if_neg (by omega)]; simp [lnJ]
  | succ j ih =>
    unfold lnJ
    rw [nth_addAt, lnJ_len, ih, hl]
    by_cases h : i + j = t ∧ t < p + 1
    · obtain ⟨rfl, h2⟩ := h
      rw [if_pos ⟨rfl, h2⟩, if_neg (by omega), if_pos (by omega), sgn_mul, show i + j - i = j by omega]
      omega
    · rw [if_neg h]
      by_cases h3 : i ≤ t ∧ t < i + j ∧ t ≤ p
      · rw [if_pos h3, if_pos (by omega)]
      · rw [if_neg h3, if_neg (by omega)]
theorem nth_lnI (f : List Nat) (p t : Nat) : ∀ i, i ≤ p + 1 → nth (lnI f p i) t = sm (fun a => (nthN f a : Int) * cL p a t) i := by
  intro i
  induction i with
  | zero =>
    intro _
    unfold nth lnI sm
    rw [List.getD_eq_getElem?_getD, List.getElem?_replicate]
    split <;> rfl
  | succ i ih =>
    intro hi
    unfold lnI
    rw [nth_lnJ _ _ _ _ (lnI_len f p i), ih (by omega), sm]
    unfold cL
    by_cases h : i ≤ t ∧ t ≤ p
    · rw [if_pos (by omega), if_pos h]
    · rw [if_neg (by omega), if_neg h]; simp
theorem hs_sm (f : List Nat) (d k : Nat) : ∀ n, hs f d k n = sm (fun i => (nthN f i : Int) * sgn (k - i) (chz (d - i) (k - i))) n := by
  intro n
  induction n with
  | zero => rfl
  | succ n ih => rw [hs, sm, ih, sgn_mul]
theorem nth_hOf (f : List Nat) (j : Nat) : nth (hOf f) j = sm (fun a => (nthN f a : Int) * cL (f.length - 1) a j) f.length := by
  by_cases hj : j < f.length
  · have e : nth (hOf f) j = hs f (f.length - 1) j (j + 1) := by
      rw [nth_eq (by rw [hOf_len]; exact hj)]
      simp [hOf, hTo]
    have h2 : sm (fun a => (nthN f a : Int) * cL (f.length - 1) a j) f.length = sm (fun a => (nthN f a : Int) * cL (f.length - 1) a j) (j + 1) :=
      sm_more _ _ _ (fun i hi => by unfold cL; rw [if_neg (by omega)]; simp) (by omega)
    rw [e, hs_sm, h2]
    exact sm_congr _ fun i hi => by unfold cL; rw [if_pos (by omega)]
  · have e : nth (hOf f) j = 0 := by
      unfold nth
      rw [List.getD_eq_getElem?_getD, List.getElem?_eq_none (by rw [hOf_len]; omega)]; rfl
    rw [e]
    symm
    rw [show sm (fun a => (nthN f a : Int) * cL (f.length - 1) a j) f.length = sm (fun _ => 0) f.length from sm_congr _ fun i hi => by unfold cL; rw [if_neg (by omega)]; simp]
    exact sm_zero _
theorem leftN_sm (f : List Nat) (hf : 0 < f.length → nthN f 0 = 1) (i : Nat) : (leftN f i : Int) = sm (fun a => (nthN f a : Int) * cLeft a i) f.length := by
  obtain ⟨F, hF⟩ : ∃ F, F = f.length := ⟨_, rfl⟩
  rw [← hF]
  rw [← hF] at hf
  unfold leftN
  rw [← hF]
  cases F with
  | zero => by_cases h : i = 0 <;> simp [h, lsum, sm]
  | succ F =>
    by_cases h : i = 0
    · subst h
      rw [if_pos rfl, if_pos (by omega)]
      have : sm (fun a => (nthN f a : Int) * cLeft a 0) (F + 1) = sm (fun a => (nthN f a : Int) * cLeft a 0) 1 := sm_more _ _ _ (fun i hi => by unfold cLeft; rw [if_pos rfl, if_neg (by omega)]; simp) (by omega)
      rw [this]
      simp [sm, cLeft, hf (by omega)]
    · rw [if_neg h]
      have : ∀ n, ((lsum f (i - 1) n : Nat) : Int) = sm (fun a => (nthN f a : Int) * cLeft a i) (n + 1) := by
        intro n
        induction n with
        | zero => simp [lsum, sm, cLeft, h]
        | succ n ih =>
          rw [sm, lsum, Int.natCast_add, ih, Int.natCast_mul]
          unfold cLeft
          rw [if_neg h, if_neg (by omega)]
          rfl
      exact this _
/-- the number of monomials of degree d in n variables -/
def monN (n d : Nat) : Nat := ch (n + d - 1) d
theorem monN_bd : ∀ n, n < 7 → ∀ d, d < 7 → monN n d ≤ 500 := by decide +kernel
theorem cL_mon : ∀ m, m < 7 → 1 ≤ m → ∀ a, a < m + 1 → ∀ i, i < 7 → sm (fun j => cL m a j * (monN m (i - j) : Int)) (i + 1) = cLeft a i := by decide +kernel
theorem cL_sum : ∀ d, d < 7 → ∀ a, a < d + 1 → sm (fun j => cL d a j) (d + 1) = if a = d then 1 else 0 := by decide +kernel
/-- a sum of products of numbers that are sums over the counts -/
theorem conv_sm (f : List Nat) (m F i : Nat) (c : Nat → Nat → Int) (n : Nat → Int) (hn : ∀ j, n j = sm (fun a => (nthN f a : Int) * c a j) F) (g : Nat → Int) (e : Nat → Int) (he : ∀ a, a < F → sm (fun j => c a j * g j) (i + 1) = e a) :
    sm (fun j => n j * g j) (i + 1) = sm (fun a => (nthN f a : Int) * e a) F := by
  have h1 : sm (fun j => n j * g j) (i + 1) = sm (fun j => sm (fun a => (nthN f a : Int) * (c a j * g j)) F) (i + 1) := sm_congr _ fun j _ => by
    rw [hn j, ← sm_mulr]
    exact sm_congr _ fun a _ => by rw [Int.mul_assoc]
  rw [h1, sm_swap]
  exact sm_congr _ fun a ha => by rw [sm_mul, he a ha]
theorem long_left (f : List Nat) (m i : Nat) (h1 : 1 ≤ m) (h6 : m ≤ 6) (hl : f.length ≤ m + 1) (hf : 0 < f.length → nthN f 0 = 1) (hi : i ≤ 6) :
    sm (fun j => nth (lnI f m f.length) j * (monN m (i - j) : Int)) (i + 1) = (leftN f i : Int) := by
  rw [leftN_sm f hf]
  exact conv_sm f m f.length i (cL m) _ (fun j => nth_lnI f m j _ hl) _ _ fun a ha => cL_mon m (by omega) h1 a (by omega) i (by omega)
theorem h_left (f : List Nat) (i : Nat) (h2 : 2 ≤ f.length) (h7 : f.length ≤ 7) (hf : 0 < f.length → nthN f 0 = 1) (hi : i ≤ 6) :
    sm (fun j => nth (hOf f) j * (monN (f.length - 1) (i - j) : Int)) (i + 1) = (leftN f i : Int) := by
  rw [leftN_sm f hf]
  exact conv_sm f 0 f.length i (cL (f.length - 1)) _ (fun j => nth_hOf f j) _ _ fun a ha => cL_mon (f.length - 1) (by omega) (by omega) a (by omega) i (by omega)
theorem isum_sm (xs : List Int) : ∀ k, isum xs k = sm (nth xs) k
  | 0 => rfl
  | k + 1 => by rw [isum, sm, isum_sm xs k]
theorem h_sum (f : List Nat) (h1 : 1 ≤ f.length) (h7 : f.length ≤ 7) : isum (hOf f) f.length = (nthN f (f.length - 1) : Int) := by
  obtain ⟨d, hd⟩ : ∃ d, f.length = d + 1 := ⟨f.length - 1, by omega⟩
  rw [isum_sm, hd]
  have := conv_sm f 0 f.length d (cL (f.length - 1)) _ (fun j => nth_hOf f j) (fun _ => 1) (fun a => if a = d then 1 else 0) (fun a ha => by
    rw [show (fun j => cL (f.length - 1) a j * 1) = fun j => cL (f.length - 1) a j from funext fun j => Int.mul_one _, hd, Nat.add_sub_cancel]
    exact cL_sum d (by omega) a (by omega))
  rw [show (fun j => nth (hOf f) j * 1) = nth (hOf f) from funext fun j => Int.mul_one _] at this
  rw [this, hd, Nat.add_sub_cancel]
  rw [sm]
  have h0 : sm (fun a => (nthN f a : Int) * (if a = d then 1 else 0)) d = 0 := by
    rw [show sm (fun a => (nthN f a : Int) * (if a = d then 1 else 0)) d = sm (fun _ => 0) d from sm_congr _ fun a ha => by rw [if_neg (by omega)]; simp]
    exact sm_zero _
  rw [h0]; simp
end Go.Proofs.Ytbdnlncpamandaa

/- Counting: sums over sets by size, monomials by support, facets of the greatest size. No program is in sight. -/
namespace Go.Proofs.Ytbdnlncpamandaa
set_option maxRecDepth 20000

theorem topN_zero (h : List Int) : ∀ n j, topN h n ≤ j → j < n → nth h j = 0 := by
  intro n
  induction n with
  | zero => intro j _ hj; omega
  | succ n ih =>
    intro j h1 h2
    cases n with
    | zero => simp [topN] at h1; omega
    | succ n =>
      by_cases h0 : nth h (n + 1) = 0
      · rw [topN_cut (by omega) (q := n + 1) rfl h0] at h1
        by_cases hj : j = n + 1
        · rw [hj]; exact h0
        · exact ih j h1 (by omega)
      · rw [topN_stay (by omega) (q := n + 1) rfl h0] at h1; omega
theorem nth_topOf (h : List Int) (j : Nat) : nth (topOf h) j = nth h j := by
  by_cases h1 : j < topN h h.length
  · have := topN_le h h.length
    rw [nth_eq (by unfold topOf; rw [List.length_take]; omega), nth_eq (by omega)]
    unfold topOf
    rw [List.getElem_take]
  · have e : nth (topOf h) j = 0 := by
      unfold nth
      rw [List.getD_eq_getElem?_getD, List.getElem?_eq_none (by unfold topOf; rw [List.length_take]; omega)]; rfl
    rw [e]
    by_cases h2 : j < h.length
    · exact (topN_zero h _ j (by omega) h2).symm
    · unfold nth
      rw [List.getD_eq_getElem?_getD, List.getElem?_eq_none (by omega)]; rfl

/-- a sum over sets, by size -/
theorem sm_size (p : Nat → Bool) (g : Nat → Int) : ∀ n, sm (fun s => if p s then g (sz s) else 0) n = sm (fun a => ((lvlTo p n a).length : Int) * g a) 7 := by
  intro n
  induction n with
  | zero => rw [sm]; rw [show sm (fun a => ((lvlTo p 0 a).length : Int) * g a) 7 = sm (fun _ => 0) 7 from sm_congr _ fun a _ => by simp [lvlTo]]; exact (sm_zero 7).symm
  | succ n ih =>
    rw [sm, ih]
    cases hp : p n
    · rw [show sm (fun a => ((lvlTo p (n + 1) a).length : Int) * g a) 7 = sm (fun a => ((lvlTo p n a).length : Int) * g a) 7 from sm_congr _ fun a _ => by rw [lvl_no hp]]
      simp
    · have h1 : sm (fun a => ((lvlTo p (n + 1) a).length : Int) * g a) 7 = sm (fun a => ((lvlTo p n a).length : Int) * g a + (if a = sz n then g a else 0)) 7 := sm_congr _ fun a _ => by
        rw [lvl_yes hp]
        by_cases h : a = sz n
        · rw [if_pos h, if_pos h, List.length_append]; simp [Int.add_mul]
        · rw [if_neg h, if_neg h]; simp
      rw [h1, sm_add]
      have h2 : sm (fun a => if a = sz n then g a else 0) 7 = sm (fun a => if a = sz n then g (sz n) else 0) 7 := sm_congr _ fun a _ => by
        by_cases e : a = sz n
        · rw [if_pos e, if_pos e, e]
        · rw [if_neg e, if_neg e]
      rw [h2, sm_single, if_pos (show sz n < 7 by have := sz_le n; omega)]
      simp
theorem nthN_cntOf (p : Nat → Bool) (a : Nat) : nthN (cntOf p) a = (lvlTo p 64 a).length := by
  by_cases h : a < topTo p 64
  · rw [nthN_eq (by unfold cntOf; simpa using h)]
    simp [cntOf]
  · rw [lvl_high (by omega)]
    unfold nthN
    rw [List.getD_eq_getElem?_getD, List.getElem?_eq_none (by unfold cntOf; simp; omega)]; rfl
theorem cntOf_len (p : Nat → Bool) : (cntOf p).length = topTo p 64 := by simp [cntOf]
/-- a sum over the faces by size, over the counts -/
theorem sm_faces (p : Nat → Bool) (g : Nat → Int) : sm (fun s => if p s then g (sz s) else 0) 64 = sm (fun a => (nthN (cntOf p) a : Int) * g a) (cntOf p).length := by
  rw [sm_size]
  have h1 := topTo_le p 64
  rw [cntOf_len]
  rw [show sm (fun a => ((lvlTo p 64 a).length : Int) * g a) 7 = sm (fun a => (nthN (cntOf p) a : Int) * g a) 7 from sm_congr _ fun a _ => by rw [nthN_cntOf]]
  exact sm_more _ _ _ (fun i hi => by rw [nthN_cntOf, lvl_high hi]; simp) h1
theorem cnt_zero {l : List Nat} : 0 < (cntOf (isFace l)).length → nthN (cntOf (isFace l)) 0 = 1 := by
  intro h
  rw [cntOf_len] at h
  rw [nthN_cntOf]
  rcases topTo_hit (p := isFace l) 64 with h0 | ⟨s, hs, hf, _⟩
  · omega
  · have hz : isFace l 0 = true := by
      unfold isFace at hf ⊢
      obtain ⟨t, ht, _⟩ := List.any_eq_true.1 hf
      exact List.any_eq_true.2 ⟨t, ht, by simp [sub]⟩
    have : lvlTo (isFace l) 64 0 = [0] := by
      have e : lvlTo (isFace l) 64 0 = lvlTo (fun s => decide (s = 0)) 64 0 := by
        unfold lvlTo
        apply List.filter_congr
        intro s hs
        rw [List.mem_range] at hs
        by_cases h0 : s = 0
        · subst h0; simp [hz]
        · have : (sz s == 0) = false := by
            rw [beq_eq_false_iff_ne]; exact sz_pos s hs h0
          simp [this]
      rw [e]; decide +kernel
    rw [this]; rfl
where
  sz_pos : ∀ s, s < 64 → s ≠ 0 → sz s ≠ 0 := by decide +kernel

/-! ### Monomials by support -/
def cntM (m d : Nat) : Bool := let S := (monoL (m - 1) [] d).map suppOf; (S.all fun s => decide (s < 64)) && (List.range 64).all fun s => (S.count s : Int) == (if s < 2 ^ m then cLeft (sz s) d else 0)
theorem cntM_ok : ∀ m, m < 7 → 1 ≤ m → ∀ d, d < 5 → cntM m d = true := by decide +kernel
theorem filter_count (q : Nat → Bool) : ∀ S : List Nat, (∀ s ∈ S, s < 64) → ((S.filter q).length : Int) = sm (fun s => if q s then (S.count s : Int) else 0) 64 := by
  intro S
  induction S with
  | nil => intro _; rw [show sm (fun s => if q s then (([] : List Nat).count s : Int) else 0) 64 = sm (fun _ => 0) 64 from sm_congr _ fun s _ => by simp]; exact (sm_zero 64).symm
  | cons x S ih =>
    intro h
    have hx := h x (by simp)
    have h1 := ih fun s hs => h s (by simp [hs])
    have h2 : sm (fun s => if q s then ((x :: S).count s : Int) else 0) 64 = sm (fun s => (if q s then (S.count s : Int) else 0) + (if s = x then (if q x then 1 else 0) else 0)) 64 := sm_congr _ fun s _ => by
      rw [List.count_cons]
      by_cases e : s = x
      · subst e; cases q s <;> simp
      · have hb : (x == s) = false := by rw [beq_eq_false_iff_ne]; exact fun h => e h.symm
        rw [if_neg e, hb]; simp
    rw [h2, sm_add, ← h1, sm_single, if_pos hx, List.filter_cons]
    cases q x <;> simp
theorem pickL_len (P : List Int → Bool) (L : List (List Int)) : (pickL P L).length = (L.filter P).length := by
  unfold pickL pickI
  rw [List.length_map]
  have e : L = (List.range L.length).map (nthL L) := by
    apply List.ext_getElem
    · simp
    · intro i h1 h2
      simp [nthL, List.getElem?_eq_getElem h1]
  conv => rhs; rw [e, List.filter_map, List.length_map]
  rfl
theorem mono_left {l : List Nat} {m d : Nat} (h1 : 1 ≤ m) (h6 : m ≤ 6) (hd : d ≤ 4) (hl : ∀ t ∈ l, t < 2 ^ m) (_h64 : ∀ t ∈ l, t < 64) :
    ((pickL (fun e => isFace l (suppOf e)) (monoL (m - 1) [] d)).length : Int) = (leftN (cntOf (isFace l)) d : Int) := by
  have hc := cntM_ok m (by omega) h1 d (by omega)
  unfold cntM at hc
  simp only [Bool.and_eq_true, List.all_eq_true, decide_eq_true_eq, List.mem_range, beq_iff_eq] at hc
  obtain ⟨hs, hc⟩ := hc
  rw [pickL_len, leftN_sm _ cnt_zero, ← sm_faces]
  have e : ((monoL (m - 1) [] d).filter fun e => isFace l (suppOf e)).length = (((monoL (m - 1) [] d).map suppOf).filter (isFace l)).length := by
    rw [List.filter_map, List.length_map]; rfl
  rw [e, filter_count _ _ hs]
  refine sm_congr _ fun s hs64 => ?_
  cases hf : isFace l s
  · simp
  · have hlt : s < 2 ^ m := by
      unfold isFace at hf
      obtain ⟨t, ht, hst⟩ := List.any_eq_true.1 hf
      exact Nat.lt_of_le_of_lt (sub_le hst) (hl t ht)
    simp only [if_true]
    rw [hc s hs64, if_pos hlt]

/-! ### The facets of the greatest size -/
/-- how many of the first k have size D -/
def largeTo (l : List Nat) (D k : Nat) : Nat := ((l.take k).filter fun s => sz s == D).length
theorem largeTo_succ {l : List Nat} {D k : Nat} (h : k < l.length) : largeTo l D (k + 1) = largeTo l D k + (if sz (nthN l k) = D then 1 else 0) := by
  unfold largeTo
  rw [nthN_take _ _ h, List.filter_append, List.length_append]
  by_cases e : sz (nthN l k) = D <;> simp [e]
theorem large_top {l : List Nat} (hl : ∀ t ∈ l, t < 64) (hnd : l.Nodup) {D : Nat} (hD : topTo (isFace l) 64 = D + 1) : (l.filter fun s => sz s == D).length = nthN (cntOf (isFace l)) D := by
  rw [nthN_cntOf]
  apply List.Perm.length_eq
  unfold lvlTo
  rw [List.perm_ext_iff_of_nodup (hnd.filter _) (List.nodup_range.filter _)]
  intro s
  constructor
  · intro h
    obtain ⟨h1, h2⟩ := List.mem_filter.1 h
    refine List.mem_filter.2 ⟨List.mem_range.2 (hl s h1), ?_⟩
    rw [Bool.and_eq_true]
    exact ⟨List.any_eq_true.2 ⟨s, h1, sub_refl _⟩, h2⟩
  · intro h
    obtain ⟨h1, h2⟩ := List.mem_filter.1 h
    rw [Bool.and_eq_true, beq_iff_eq] at h2
    rw [List.mem_range] at h1
    obtain ⟨hf, hsz⟩ := h2
    unfold isFace at hf
    obtain ⟨t, ht, hst⟩ := List.any_eq_true.1 hf
    have h3 := sub_sz (hl t ht) hst
    have h4 : isFace l t = true := List.any_eq_true.2 ⟨t, ht, sub_refl _⟩
    have h5 := topTo_ge h4 64 (hl t ht)
    have : s = t := h3.2 (by omega)
    subst this
    exact List.mem_filter.2 ⟨ht, by simpa using hsz⟩
end Go.Proofs.Ytbdnlncpamandaa

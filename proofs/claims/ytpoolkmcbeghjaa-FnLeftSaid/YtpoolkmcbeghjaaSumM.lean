/- Finite sums of integers, and the identities between the numbers of a complex that FnLeft asks for. No program is in sight. -/
import Derived.Test.YtpoolkmcbeghjaaLong2
namespace Go.Proofs.Ytpoolkmcbeghjaa
set_option maxRecDepth 20000

/-- g 0 + .. + g (n - 1) -/
def sm (g : Nat → Int) : Nat → Int
  | 0 => 0
  | n + 1 => sm g n + g n
theorem sm_congr {g h : Nat → Int} : ∀ n, (∀ i, i < n → g i = h i) → sm g n = sm h n
  | 0, _ => rfl
  | n + 1, hh => by rw [sm, sm, sm_congr n (fun i hi => hh i (by omega)), hh n (by omega)]
theorem sm_zero (n : Nat) : sm (fun _ => 0) n = 0 := by induction n with
  | zero => rfl
  | succ n ih => rw [sm, ih]; rfl
theorem sm_add (g h : Nat → Int) (n : Nat) : sm (fun i => g i + h i) n = sm g n + sm h n := by induction n with
  | zero => rfl
  | succ n ih => rw [sm, sm, sm, ih]; omega
theorem sm_mul (c : Int) (g : Nat → Int) (n : Nat) : sm (fun i => c * g i) n = c * sm g n := by induction n with
  | zero => simp [sm]
  | succ n ih => rw [sm, sm, ih, Int.mul_add]
theorem sm_mulr (c : Int) (g : Nat → Int) (n : Nat) : sm (fun i => g i * c) n = sm g n * c := by induction n with
  | zero => simp [sm]
  | succ n ih => rw [sm, sm, ih, Int.add_mul]
theorem sm_swap (g : Nat → Nat → Int) (m : Nat) : ∀ n, sm (fun i => sm (g i) m) n = sm (fun j => sm (fun i => g i j) n) m
  | 0 => by rw [sm]; exact (sm_zero m).symm
  | n + 1 => by
    rw [sm, sm_swap g m n, ← sm_add]
    rfl
theorem sm_more (g : Nat → Int) (n : Nat) : ∀ m, (∀ i, n ≤ i → g i = 0) → n ≤ m → sm g m = sm g n := fun m hz hm => by
  obtain ⟨d, rfl⟩ := Nat.le.dest hm
  clear hm
  induction d with
  | zero => rfl
  | succ d ih => rw [← Nat.add_assoc, sm, ih, hz _ (by omega)]; omega

theorem sgn_mul (q x z : Nat) : sgn q (x * z) = (x : Int) * sgn q z := by
  unfold sgn; split
  · rw [Int.natCast_mul, Int.mul_neg]
  · rw [Int.natCast_mul]

/-! ### The numbers of a complex as sums over its counts -/
/-- what a face of a points adds to the t-th long number of m points -/
def cL (m a t : Nat) : Int := if a ≤ t ∧ t ≤ m then sgn (t - a) (chz (m - a) (t - a)) else 0
/-- what a face of a points adds to the count of what is left in degree i -/
def cLeft (a i : Nat) : Int := if i = 0 then (if a = 0 then 1 else 0) else (if a = 0 then 0 else (chz (i - 1) (a - 1) : Int))
theorem nth_addAt (xs : List Int) (k : Nat) (v : Int) (i : Nat) : nth (addAt xs k v) i = if k = i ∧ i < xs.length then nth xs i + v else nth xs i := by
  by_cases hi : i < xs.length
  · rw [nth_eq (by rw [addAt_len]; exact hi)]
    unfold addAt
    rw [List.getElem_set]
    by_cases hk : k = i
    · subst hk; simp [hi]
    · simp [hk, nth_eq hi]
  · have e : nth (addAt xs k v) i = nth xs i := by
      unfold nth
      rw [List.getD_eq_getElem?_getD, List.getD_eq_getElem?_getD, List.getElem?_eq_none (by rw [addAt_len]; omega), List.getElem?_eq_none (by omega)]
    rw [e, if_neg (by omega)]
theorem nth_lnJ (f : List Nat) (p i : Nat) (xs : List Int) (hl : xs.length = p + 1) (t : Nat) : ∀ j, nth (lnJ f p i xs j) t = nth xs t + (if i ≤ t ∧ t < i + j ∧ t ≤ p then (nthN f i : Int) * sgn (t - i) (chz (p - i) (t - i)) else 0) := by
  intro j
  induction j with
  | zero => rw [if_neg (by omega)]; simp [lnJ]
  | succ j ih =>
    unfold lnJ
    rw [nth_addAt, lnJ_len, ih, hl]
    by_cases h : i + j = t ∧ t < p + 1
    · obtain ⟨rfl, h2⟩ := h
      rw [if_pos ⟨rfl, h2⟩, if_neg (by omega), if_pos (by omega), sgn_mul, show i + j - i = j by omega]
      omega
    · rw [if_neg h]
      by_cases h3 : i ≤ t ∧ t < i + j ∧ t ≤ p
      · rw [if_pos h3, if_pos (by omega)]
      · rw [if_neg h3, if_neg (by omega)]
theorem nth_lnI (f : List Nat) (p t : Nat) : ∀ i, i ≤ p + 1 → nth (lnI f p i) t = sm (fun a => (nthN f a : Int) * cL p a t) i := by
  intro i
  induction i with
  | zero =>
    intro _
    unfold nth lnI sm
    rw [List.getD_eq_getElem?_getD, List.getElem?_replicate]
    split <;> rfl
  | succ i ih =>
    intro hi
    unfold lnI
    rw [nth_lnJ _ _ _ _ (lnI_len f p i), ih (by omega), sm]
    unfold cL
    by_cases h : i ≤ t ∧ t ≤ p
    · rw [if_pos (by omega), if_pos h]
    · rw [if_neg (by omega), if_neg h]; simp
theorem hs_sm (f : List Nat) (d k : Nat) : ∀ n, hs f d k n = sm (fun i => (nthN f i : Int) * sgn (k - i) (chz (d - i) (k - i))) n := by
  intro n
  induction n with
  | zero => rfl
  | succ n ih => rw [hs, sm, ih, sgn_mul]
theorem nth_hOf (f : List Nat) (j : Nat) : nth (hOf f) j = sm (fun a => (nthN f a : Int) * cL (f.length - 1) a j) f.length := by
  by_cases hj : j < f.length
  · have e : nth (hOf f) j = hs f (f.length - 1) j (j + 1) := by
      rw [nth_eq (by rw [hOf_len]; exact hj)]
      simp [hOf, hTo]
    have h2 : sm (fun a => (nthN f a : Int) * cL (f.length - 1) a j) f.length = sm (fun a => (nthN f a : Int) * cL (f.length - 1) a j) (j + 1) :=
      sm_more _ _ _ (fun i hi => by unfold cL; rw [if_neg (by omega)]; simp) (by omega)
    rw [e, hs_sm, h2]
    exact sm_congr _ fun i hi => by unfold cL; rw [if_pos (by omega)]
  · have e : nth (hOf f) j = 0 := by
      unfold nth
      rw [List.getD_eq_getElem?_getD, List.getElem?_eq_none (by rw [hOf_len]; omega)]; rfl
    rw [e]
    symm
    rw [show sm (fun a => (nthN f a : Int) * cL (f.length - 1) a j) f.length = sm (fun _ => 0) f.length from sm_congr _ fun i hi => by unfold cL; rw [if_neg (by omega)]; simp]
    exact sm_zero _
theorem leftN_sm (f : List Nat) (hf : 0 < f.length → nthN f 0 = 1) (i : Nat) : (leftN f i : Int) = sm (fun a => (nthN f a : Int) * cLeft a i) f.length := by
  obtain ⟨F, hF⟩ : ∃ F, F = f.length := ⟨_, rfl⟩
  rw [← hF]
  rw [← hF] at hf
  unfold leftN
  rw [← hF]
  cases F with
  | zero => by_cases h : i = 0 <;> simp [h, lsum, sm]
  | succ F =>
    by_cases h : i = 0
    · subst h
      rw [if_pos rfl, if_pos (by omega)]
      have : sm (fun a => (nthN f a : Int) * cLeft a 0) (F + 1) = sm (fun a => (nthN f a : Int) * cLeft a 0) 1 := sm_more _ _ _ (fun i hi => by unfold cLeft; rw [if_pos rfl, if_neg (by omega)]; simp) (by omega)
      rw [this]
      simp [sm, cLeft, hf (by omega)]
    · rw [if_neg h]
      have : ∀ n, ((lsum f (i - 1) n : Nat) : Int) = sm (fun a => (nthN f a : Int) * cLeft a i) (n + 1) := by
        intro n
        induction n with
        | zero => simp [lsum, sm, cLeft, h]
        | succ n ih =>
          rw [sm, lsum, Int.natCast_add, ih, Int.natCast_mul]
          unfold cLeft
          rw [if_neg h, if_neg (by omega)]
          rfl
      exact this _
/-- the number of monomials of degree d in n variables -/
def monN (n d : Nat) : Nat := ch (n + d - 1) d
theorem monN_bd : ∀ n, n < 7 → ∀ d, d < 7 → monN n d ≤ 500 := by decide +kernel
theorem cL_mon : ∀ m, m < 7 → 1 ≤ m → ∀ a, a < m + 1 → ∀ i, i < 7 → sm (fun j => cL m a j * (monN m (i - j) : Int)) (i + 1) = cLeft a i := by decide +kernel
theorem cL_sum : ∀ d, d < 7 → ∀ a, a < d + 1 → sm (fun j => cL d a j) (d + 1) = if a = d then 1 else 0 := by decide +kernel
/-- a sum of products of numbers that are sums over the counts -/
theorem conv_sm (f : List Nat) (m F i : Nat) (c : Nat → Nat → Int) (n : Nat → Int) (hn : ∀ j, n j = sm (fun a => (nthN f a : Int) * c a j) F) (g : Nat → Int) (e : Nat → Int) (he : ∀ a, a < F → sm (fun j => c a j * g j) (i + 1) = e a) :
    sm (fun j => n j * g j) (i + 1) = sm (fun a => (nthN f a : Int) * e a) F := by
  have h1 : sm (fun j => n j * g j) (i + 1) = sm (fun j => sm (fun a => (nthN f a : Int) * (c a j * g j)) F) (i + 1) := sm_congr _ fun j _ => by
    rw [hn j, ← sm_mulr]
    exact sm_congr _ fun a _ => by rw [Int.mul_assoc]
  rw [h1, sm_swap]
  exact sm_congr _ fun a ha => by rw [sm_mul, he a ha]
theorem long_left (f : List Nat) (m i : Nat) (h1 : 1 ≤ m) (h6 : m ≤ 6) (hl : f.length ≤ m + 1) (hf : 0 < f.length → nthN f 0 = 1) (hi : i ≤ 6) :
    sm (fun j => nth (lnI f m f.length) j * (monN m (i - j) : Int)) (i + 1) = (leftN f i : Int) := by
  rw [leftN_sm f hf]
  exact conv_sm f m f.length i (cL m) _ (fun j => nth_lnI f m j _ hl) _ _ fun a ha => cL_mon m (by omega) h1 a (by omega) i (by omega)
theorem h_left (f : List Nat) (i : Nat) (h2 : 2 ≤ f.length) (h7 : f.length ≤ 7) (hf : 0 < f.length → nthN f 0 = 1) (hi : i ≤ 6) :
    sm (fun j => nth (hOf f) j * (monN (f.length - 1) (i - j) : Int)) (i + 1) = (leftN f i : Int) := by
  rw [leftN_sm f hf]
  exact conv_sm f 0 f.length i (cL (f.length - 1)) _ (fun j => nth_hOf f j) _ _ fun a ha => cL_mon (f.length - 1) (by omega) (by omega) a (by omega) i (by omega)
theorem isum_sm (xs : List Int) : ∀ k, isum xs k = sm (nth xs) k
  | 0 => rfl
  | k + 1 => by rw [isum, sm, isum_sm xs k]
theorem h_sum (f : List Nat) (h1 : 1 ≤ f.length) (h7 : f.length ≤ 7) : isum (hOf f) f.length = (nthN f (f.length - 1) : Int) := by
  obtain ⟨d, hd⟩ : ∃ d, f.length = d + 1 := ⟨f.length - 1, by omega⟩
  rw [isum_sm, hd]
  have := conv_sm f 0 f.length d (cL (f.length - 1)) _ (fun j => nth_hOf f j) (fun _ => 1) (fun a => if a = d then 1 else 0) (fun a ha => by
    rw [show (fun j => cL (f.length - 1) a j * 1) = fun j => cL (f.length - 1) a j from funext fun j => Int.mul_one _, hd, Nat.add_sub_cancel]
    exact cL_sum d (by omega) a (by omega))
  rw [show (fun j => nth (hOf f) j * 1) = nth (hOf f) from funext fun j => Int.mul_one _] at this
  rw [this, hd, Nat.add_sub_cancel]
  rw [sm]
  have h0 : sm (fun a => (nthN f a : Int) * (if a = d then 1 else 0)) d = 0 := by
    rw [show sm (fun a => (nthN f a : Int) * (if a = d then 1 else 0)) d = sm (fun _ => 0) d from sm_congr _ fun a ha => by rw [if_neg (by omega)]; simp]
    exact sm_zero _
  rw [h0]; simp
end Go.Proofs.Ytpoolkmcbeghjaa

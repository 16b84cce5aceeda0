/- Plain laws of LeftMonomials: the lists of exponents, their support, and a choice out of a list of lists. -/
import Derived.Test.YtpoolkmcbeghjaaRows3
import Derived.Test.YtpoolkmcbeghjaaFaces2
namespace Go.Proofs.Ytpoolkmcbeghjaa
set_option maxRecDepth 20000
open Go.RowKit
set_option linter.unusedSimpArgs false
set_option linter.unusedVariables false

/-- all lists that go on from h with r + 1 exponents of sum d -/
def monoL : Nat → List Int → Nat → List (List Int)
  | 0, h, d => [h ++ [(d : Int)]]
  | r + 1, h, d => (List.range (d + 1)).flatMap fun i => monoL r (h ++ [((d - i : Nat) : Int)]) i
/-- .. with the first k choices for the next exponent -/
def monoTo (r : Nat) (h : List Int) (d k : Nat) : List (List Int) := (List.range k).flatMap fun i => monoL r (h ++ [((d - i : Nat) : Int)]) i
theorem monoTo_succ (r : Nat) (h : List Int) (d k : Nat) : monoTo r h d (k + 1) = monoTo r h d k ++ monoL r (h ++ [((d - k : Nat) : Int)]) k := by
  unfold monoTo; rw [List.range_succ, List.flatMap_append]; simp
theorem monoTo_all (r : Nat) (h : List Int) (d : Nat) : monoTo r h d (d + 1) = monoL (r + 1) h d := rfl
theorem monoTo_up (r : Nat) (h : List Int) (d : Nat) : ∀ k j, k ≤ j → (monoTo r h d k).length ≤ (monoTo r h d j).length := by
  intro k j hkj
  induction hkj with
  | refl => exact Nat.le_refl _
  | @step m _ ih =>
    show _ ≤ (monoTo r h d (m + 1)).length
    rw [monoTo_succ, List.length_append]; omega
theorem monoL_each {r : Nat} : ∀ {h : List Int} {d : Nat}, (∀ i, 0 ≤ nth h i ∧ nth h i ≤ 5) → d ≤ 5 → ∀ e ∈ monoL r h d, e.length = h.length + r + 1 ∧ ∀ i, 0 ≤ nth e i ∧ nth e i ≤ 5 := by
  have snoc : ∀ {h : List Int} {x : Int}, (∀ i, 0 ≤ nth h i ∧ nth h i ≤ 5) → 0 ≤ x → x ≤ 5 → ∀ i, 0 ≤ nth (h ++ [x]) i ∧ nth (h ++ [x]) i ≤ 5 := by
    intro h x hh h0 h5 i
    by_cases hi : i < h.length
    · have e : nth (h ++ [x]) i = nth h i := by rw [nth_eq (by simp; omega), nth_eq hi, List.getElem_append_left hi]
      rw [e]; exact hh i
    · by_cases hi2 : i = h.length
      · subst hi2
        have e : nth (h ++ [x]) h.length = x := by rw [nth_eq (by simp)]; simp
        rw [e]; omega
      · have e : nth (h ++ [x]) i = 0 := by
          unfold nth
          rw [List.getD_eq_getElem?_getD, List.getElem?_eq_none (by simp; omega)]; rfl
        rw [e]; omega
  induction r with
  | zero =>
    intro h d hh hd e he
    unfold monoL at he
    rw [List.mem_singleton] at he
    subst he
    exact ⟨by simp, snoc hh (by omega) (by omega)⟩
  | succ r ih =>
    intro h d hh hd e he
    unfold monoL at he
    obtain ⟨i, hi, he⟩ := List.mem_flatMap.1 he
    have hi := List.mem_range.1 hi
    obtain ⟨h1, h2⟩ := ih (snoc hh (by omega) (by omega)) (by omega) e he
    exact ⟨by rw [h1]; simp; omega, h2⟩
theorem monoL_len : ∀ r, r ≤ 5 → ∀ d, d ≤ 5 → ∀ h : List Int, (monoL r h d).length ≤ 6 ^ r := by
  intro r
  induction r with
  | zero => intro _ d _ h; simp [monoL]
  | succ r ih =>
    intro hr d hd h
    unfold monoL
    have key : ∀ k, k ≤ d + 1 → ((List.range k).flatMap fun i => monoL r (h ++ [((d - i : Nat) : Int)]) i).length ≤ k * 6 ^ r := by
      intro k
      induction k with
      | zero => intro _; simp
      | succ k ihk =>
        intro hk
        rw [List.range_succ, List.flatMap_append, List.length_append, Nat.succ_mul]
        have h1 := ihk (by omega)
        have h2 := ih (by omega) k (by omega) (h ++ [((d - k : Nat) : Int)])
        simp only [List.flatMap_cons, List.flatMap_nil, List.append_nil]
        omega
    have h1 := key (d + 1) (Nat.le_refl _)
    have h2 : (d + 1) * 6 ^ r ≤ 6 * 6 ^ r := Nat.mul_le_mul_right _ (by omega)
    rw [Nat.pow_succ, Nat.mul_comm]
    omega

/-- the points with an exponent above 0, below k -/
def suppTo (e : List Int) : Nat → Nat
  | 0 => 0
  | k + 1 => if 0 < nth e k then suppTo e k ||| 2 ^ k else suppTo e k
theorem suppTo_yes {e : List Int} {k : Nat} (h : 0 < nth e k) : suppTo e (k + 1) = suppTo e k ||| 2 ^ k := by simp [suppTo, h]
theorem suppTo_no {e : List Int} {k : Nat} (h : ¬ 0 < nth e k) : suppTo e (k + 1) = suppTo e k := by simp [suppTo, h]
theorem suppTo_lt (e : List Int) : ∀ k, suppTo e k < 2 ^ k := by
  intro k
  induction k with
  | zero => simp [suppTo]
  | succ k ih =>
    have h2 : 2 ^ (k + 1) = 2 * 2 ^ k := by rw [Nat.pow_succ]; omega
    by_cases h : 0 < nth e k
    · rw [suppTo_yes h]
      exact Nat.or_lt_two_pow (Nat.lt_of_lt_of_le ih (by omega)) (by omega)
    · rw [suppTo_no h]; omega
def suppOf (e : List Int) : Nat := suppTo e e.length

/-! ### A choice out of a list of lists -/
def pickI (P : List Int → Bool) (L : List (List Int)) (k : Nat) : List Nat := (List.range k).filter fun i => P (nthL L i)
theorem pickI_yes {P : List Int → Bool} {L : List (List Int)} {k : Nat} (h : P (nthL L k) = true) : pickI P L (k + 1) = pickI P L k ++ [k] := by
  unfold pickI; rw [List.range_succ, List.filter_append]; simp [h]
theorem pickI_no {P : List Int → Bool} {L : List (List Int)} {k : Nat} (h : P (nthL L k) = false) : pickI P L (k + 1) = pickI P L k := by
  unfold pickI; rw [List.range_succ, List.filter_append]; simp [h]
theorem pickI_lt {P : List Int → Bool} {L : List (List Int)} {k : Nat} : ∀ i ∈ pickI P L k, i < k := fun i hi => List.mem_range.1 (List.mem_filter.1 hi).1
theorem pickI_len (P : List Int → Bool) (L : List (List Int)) (k : Nat) : (pickI P L k).length ≤ k := by unfold pickI; exact Nat.le_trans (List.length_filter_le _ _) (by simp)
theorem pickI_nodup (P : List Int → Bool) (L : List (List Int)) (k : Nat) : (pickI P L k).Nodup := by unfold pickI; exact List.Pairwise.filter _ List.nodup_range
/-- the lists chosen out of all -/
def pickL (P : List Int → Bool) (L : List (List Int)) : List (List Int) := (pickI P L L.length).map (nthL L)
theorem pickL_mem {P : List Int → Bool} {L : List (List Int)} : ∀ e ∈ pickL P L, e ∈ L := fun e he => by
  obtain ⟨i, hi, rfl⟩ := List.mem_map.1 he
  have := pickI_lt i hi
  rw [nthL_at this]; exact List.getElem_mem this
theorem pickL_congr {P Q : List Int → Bool} {L : List (List Int)} (h : ∀ e ∈ L, P e = Q e) : pickL P L = pickL Q L := by
  unfold pickL pickI
  congr 1
  exact List.filter_congr fun i hi => h _ (by rw [nthL_at (List.mem_range.1 hi)]; exact List.getElem_mem _)
/-- rows chosen out of a list of lists, handed out in an outer row of its own -/
theorem O2.choose {w : World} {B U U' : Nat} {a a' : Option Addr} {n c n' c' : Nat} {f : Nat → Sl} {L : List (List Int)} (h : O2 w B U a n c f L) (I : List Nat) (hI : ∀ i ∈ I, i < n) (hnd : I.Nodup)
    (hrow : Row 22 w B a' n' c' (I.map fun i => (f i).val)) (hfar : ∀ i, i < n → ∀ b d, (f i).1 = some b → a' = some d → b.block ≠ d.block) (hU : U ≤ U') (ha : ∀ d, a' = some d → d.block < U') :
    Own2 w B U' a' n' c' (I.map (nthL L)) := by
  have hl : I.length = n' := by have := hrow.len; simpa using this
  have hat : ∀ j, j < n' → nthN I j ∈ I := fun j hj => nthN_mem (by omega)
  refine ⟨fun j => f (nthN I j), by simpa using hl, ?_, fun j hj => ?_, fun j hj b d hb hd => hfar _ (hI _ (hat j hj)) b d hb hd, fun i j hi hj hij b d hb hd => ?_, ha, fun j hj b hb => Nat.lt_of_lt_of_le (h.his _ (hI _ (hat j hj)) b hb) hU⟩
  · have e : (List.range n').map (fun j => (f (nthN I j)).val) = I.map fun i => (f i).val := by
      apply List.ext_getElem (by simp [hl])
      intro j h1 h2
      have hj : j < I.length := by simpa using h2
      simp [nthN_eq hj]
    rw [e]; exact hrow
  · have e : nthL (I.map (nthL L)) j = nthL L (nthN I j) := by
      rw [nthL_at (by simpa [hl] using hj), List.getElem_map, ← nthN_eq (by omega)]
    rw [e]; exact h.own _ (hI _ (hat j hj))
  · refine h.apart _ _ (hI _ (hat i hi)) (hI _ (hat j hj)) (fun e => hij ?_) b d hb hd
    rw [nthN_eq (by omega), nthN_eq (by omega)] at e
    exact (List.getElem_inj hnd).1 e
end Go.Proofs.Ytpoolkmcbeghjaa

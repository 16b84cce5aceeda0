/- Euler numbers: by faces, by counts, by holes, and by the counts of chains. Plain. -/
import Derived.Test.YtbdnlncpamandaaChain
import Derived.Test.YtbdnlncpamandaaHoles
namespace Go.Proofs.Ytbdnlncpamandaa
set_option maxRecDepth 20000
set_option linter.unusedSimpArgs false
set_option linter.unusedVariables false

/-- + for odd numbers of points -/
def cg (k : Nat) : Int := 2 * ((k : Int) % 2) - 1
def eulTo (L : List Nat) (k : Nat) : Int := sm (fun i => cg (sz (nthN L i))) k
def eul (A : Nat → Bool) : Int := eulTo (ord A) (ord A).length
theorem cg_bd (k : Nat) : -1 ≤ cg k ∧ cg k ≤ 1 := by unfold cg; omega
theorem eulTo_bd (L : List Nat) : ∀ k : Nat, -(k : Int) ≤ eulTo L k ∧ eulTo L k ≤ k
  | 0 => by unfold eulTo sm; omega
  | k + 1 => by
    have h := eulTo_bd L k
    have h2 := cg_bd (sz (nthN L k))
    unfold eulTo at *
    rw [sm]; omega
theorem ord_nodup (A : Nat → Bool) : (ord A).Nodup := by
  rw [List.nodup_iff_pairwise_ne]
  exact (ord_sorted A).imp fun h e => by rw [e] at h; exact Nat.lt_irrefl _ h
theorem eul_sm (A : Nat → Bool) : eul A = sm (fun s => if A s then cg (sz s) else 0) 64 := by
  unfold eul eulTo
  rw [← sm_list (fun s => if A s then cg (sz s) else 0) (ord_nodup A) (fun t ht => (mem_ord.1 ht).1) (fun t ht64 ht => ?_)]
  · refine sm_congr _ fun j hj => ?_
    rw [if_pos (mem_ord.1 (nthN_mem2 hj)).2]
  · rw [if_neg fun h => ht (mem_ord.2 ⟨ht64, h⟩)]
theorem filter_sm (q : Nat → Bool) : ∀ n : Nat, (((List.range n).filter q).length : Int) = sm (fun t => if q t then 1 else 0) n
  | 0 => rfl
  | n + 1 => by
    rw [List.range_succ, List.filter_append, List.length_append, sm, ← filter_sm q n]
    cases h : q n <;> simp [h]
/-- a sum over a family, by sizes -/
theorem sm_lvl (A : Nat → Bool) (c : Nat → Int) : sm (fun s => if A s then c (sz s) else 0) 64 = sm (fun k => c k * ((lvlTo A 64 k).length : Int)) 7 := by
  have e : ∀ s, s < 64 → (if A s then c (sz s) else 0) = sm (fun k => if A s && sz s == k then c k else 0) 7 := fun s _ => by
    have h6 := sz_le s
    cases h : A s
    · simp only [Bool.false_and, if_false, Bool.false_eq_true]; exact (sm_zero 7).symm
    · rw [if_pos rfl, sm_congr 7 (h := fun k => if k = sz s then c (sz s) else 0) (fun k _ => by
        by_cases e : k = sz s
        · subst e; simp
        · simp only [Bool.true_and]
          rw [if_neg e, if_neg (by simp; omega)]), sm_single, if_pos (by omega)]
  rw [sm_congr 64 e, sm_swap]
  refine sm_congr 7 fun k _ => ?_
  unfold lvlTo
  rw [filter_sm, ← sm_mul]
  refine sm_congr 64 fun s _ => ?_
  by_cases h : (A s && sz s == k) = true
  · rw [if_pos h, if_pos h, Int.mul_one]
  · rw [if_neg h, if_neg h, Int.mul_zero]
theorem eul_lvl (A : Nat → Bool) : eul A = sm (fun k => cg k * ((lvlTo A 64 k).length : Int)) 7 := by rw [eul_sm, sm_lvl]
/-- the Euler number by holes -/
theorem eul_holes {p : Nat} (hp : Prm p) {A : Nat → Bool} (hd : Dn A) : eul A = sm (fun k => cg k * holeN p A k) 7 := by
  rw [eul_lvl]
  have h7 : rk0 p A 7 = 0 := rk_top hp hd (topTo_le A 64)
  have h0 : rk0 p A 0 = 0 := by unfold rk0; rw [if_pos rfl]
  simp only [sm, cg, holeN]
  rw [h7, h0]
  simp
  omega
theorem eul_same {p : Nat} (hp : Prm p) {A B : Nat → Bool} (hA : Dn A) (hB : Dn B) (h : ∀ k, holeN p A k = holeN p B k) : eul A = eul B := by
  rw [eul_holes hp hA, eul_holes hp hB]
  exact sm_congr _ fun k _ => by rw [h k]
/-- how many sets there are -/
theorem ord_count (A : Nat → Bool) : ((ord A).length : Int) = sm (fun k => ((lvlTo A 64 k).length : Int)) 7 := by
  have h1 : ((ord A).length : Int) = sm (fun s => if A s then 1 else 0) 64 := by
    rw [← sm_list (fun s => if A s then 1 else 0) (ord_nodup A) (fun t ht => (mem_ord.1 ht).1) (fun t ht64 ht => by rw [if_neg fun h => ht (mem_ord.2 ⟨ht64, h⟩)])]
    rw [sm_congr _ (h := fun _ => 1) (fun j hj => if_pos (mem_ord.1 (nthN_mem2 hj)).2)]
    generalize (ord A).length = n
    induction n with
    | zero => rfl
    | succ n ih => rw [sm, ← ih]; omega
  rw [h1, sm_lvl A (fun _ => 1)]
  exact sm_congr _ fun k _ => Int.one_mul _

/-! ### Chains -/
theorem on_one : ∀ i, i < 8 → onI i 1 = if i = 0 then 0 else 1 := by decide +kernel
theorem on_alt : ∀ n, n < 8 → ∀ i, i < n → sm (fun k => if k = 0 then 0 else cg k * (onI i k : Int)) n = if i = 0 then 0 else cg i := by decide +kernel
theorem sum_sm (g : Nat → Nat) : ∀ n : Nat, (((List.range n).map g).sum : Int) = sm (fun j => (g j : Int)) n
  | 0 => rfl
  | n + 1 => by
    rw [List.range_succ, List.map_append, List.sum_append, sm, ← sum_sm g n]; simp
theorem onto_in {i k : Nat} (hi : i < 8) (hk : k < 8) : onto i k = onI i k := by
  unfold onto
  rw [if_pos (by omega)]; rfl
theorem repTo_sm {f : List Nat} (h7 : f.length ≤ 7) {k : Nat} (hk : k < 8) : (repTo (up f) k (up f).length : Int) = sm (fun i => (nthN f i : Int) * (onI i k : Int)) f.length := by
  unfold repTo
  rw [sum_sm, up_len]
  refine sm_congr _ fun i hi => ?_
  rw [nth_up, Int.toNat_natCast, onto_in (by omega) hk, Int.natCast_mul]
theorem chain_len (f : List Nat) : (chainL f).length = f.length := by
  unfold chainL
  by_cases h : f = []
  · rw [if_pos h, h]
  · rw [if_neg h]; unfold repL; rw [List.length_map, List.length_range, up_len]
theorem chain_at {f : List Nat} {k : Nat} (hk : k < f.length) : nthN (chainL f) k = if k = 0 then 1 else repTo (up f) k (up f).length := by
  have hf : f ≠ [] := fun e => by rw [e] at hk; exact Nat.not_lt_zero _ hk
  unfold chainL
  rw [if_neg hf]
  rw [nthN_at2 (by unfold repL; rw [List.length_map, List.length_range, up_len]; exact hk)]
  unfold repL; simp
def sgnS (xs : List Int) (k : Nat) : Int := sm (fun i => cg i * nth xs i) k
/-- the signed sum of a complex's chain counts is its Euler number -/
theorem chain_euler {A : Nat → Bool} (h0 : 0 < topTo A 64) (hone : (lvlTo A 64 0).length = 1) : sgnS (up (chainL (cntOf A))) (chainL (cntOf A)).length = eul A := by
  have hlen := cnt_len2 A
  have h7 := topTo_le A 64
  obtain ⟨f, hf⟩ : ∃ f, f = cntOf A := ⟨_, rfl⟩
  obtain ⟨n, hn⟩ : ∃ n, n = topTo A 64 := ⟨_, rfl⟩
  rw [← hf, ← hn] at hlen
  rw [← hn] at h7 h0
  have hf0 : (nthN f 0 : Int) = 1 := by rw [hf, cnt_at (by rw [← hn]; exact h0), hone]; rfl
  unfold sgnS
  rw [← hf, chain_len, hlen]
  have e1 : sm (fun i => cg i * nth (up (chainL f)) i) n = sm (fun k => (if k = 0 then -1 else 0) + sm (fun i => (nthN f i : Int) * (if k = 0 then 0 else cg k * (onI i k : Int))) n) n := sm_congr n fun k hk => by
    rw [nth_up, chain_at (by omega)]
    by_cases e : k = 0
    · subst e
      rw [if_pos rfl, if_pos rfl, sm_congr n (h := fun _ => 0) (fun i _ => by rw [if_pos rfl, Int.mul_zero]), sm_zero]
      decide
    · rw [if_neg e, if_neg e, repTo_sm (by omega) (by omega), hlen, ← sm_mul, Int.zero_add]
      refine sm_congr n fun i _ => ?_
      rw [if_neg e, ← Int.mul_assoc, ← Int.mul_assoc, Int.mul_comm (cg k)]
  rw [e1, sm_add, sm_swap]
  have e2 : sm (fun i => sm (fun k => (nthN f i : Int) * (if k = 0 then 0 else cg k * (onI i k : Int))) n) n = sm (fun i => (nthN f i : Int) * (if i = 0 then 0 else cg i)) n := sm_congr n fun i hi => by
    rw [sm_mul, on_alt n (by omega) i hi]
  rw [e2]
  have e3 : sm (fun k => if k = 0 then (-1 : Int) else 0) n = -1 := by rw [sm_single, if_pos h0]
  rw [e3, eul_lvl]
  have e4 : sm (fun k => cg k * ((lvlTo A 64 k).length : Int)) 7 = sm (fun k => cg k * ((lvlTo A 64 k).length : Int)) n := sm_more _ n 7 (fun i hi => by rw [lvl_top (by rw [← hn]; exact hi)]; simp) h7
  rw [e4]
  have e5 : sm (fun k => cg k * ((lvlTo A 64 k).length : Int)) n = sm (fun k => (if k = 0 then (-1 : Int) else 0) + (nthN f k : Int) * (if k = 0 then 0 else cg k)) n := sm_congr n fun k hk => by
    have hc : ((lvlTo A 64 k).length : Int) = (nthN f k : Int) := by rw [hf, cnt_at (by rw [← hn]; exact hk)]
    rw [hc]
    by_cases e : k = 0
    · subst e; rw [hf0]; decide
    · rw [if_neg e, if_neg e, Int.zero_add, Int.mul_comm]
  rw [e5, sm_add, e3]
theorem chain_one {A : Nat → Bool} (h1 : 1 < topTo A 64) (hone : (lvlTo A 64 0).length = 1) : (nthN (chainL (cntOf A)) 1 : Int) = ((ord A).length : Int) - 1 := by
  have hlen := cnt_len2 A
  have h7 := topTo_le A 64
  obtain ⟨f, hf⟩ : ∃ f, f = cntOf A := ⟨_, rfl⟩
  obtain ⟨n, hn⟩ : ∃ n, n = topTo A 64 := ⟨_, rfl⟩
  rw [← hf, ← hn] at hlen
  rw [← hn] at h7 h1
  rw [← hf, chain_at (by omega), if_neg (by omega), repTo_sm (by omega) (by omega), hlen, ord_count]
  have e4 : sm (fun k => ((lvlTo A 64 k).length : Int)) 7 = sm (fun k => ((lvlTo A 64 k).length : Int)) n := sm_more _ n 7 (fun i hi => by rw [lvl_top (by rw [← hn]; exact hi)]; simp) h7
  rw [e4]
  have e5 : sm (fun k => ((lvlTo A 64 k).length : Int)) n = sm (fun k => (if k = 0 then (1 : Int) else 0) + (nthN f k : Int) * (onI k 1 : Int)) n := sm_congr n fun k hk => by
    rw [on_one k (by omega)]
    by_cases e : k = 0
    · subst e; rw [if_pos rfl, hone]; simp
    · rw [if_neg e, if_neg e, hf, cnt_at (by rw [← hn]; exact hk)]; simp
  rw [e5, sm_add, sm_single, if_pos (by omega)]; omega
theorem empty_one {l : List Nat} (h : l ≠ []) : (lvlTo (isFace l) 64 0).length = 1 ∧ 0 < topTo (isFace l) 64 := by
  have h0 : isFace l 0 = true := by
    cases l with
    | nil => exact absurd rfl h
    | cons a l => exact isFace_iff.2 ⟨a, List.mem_cons_self, by unfold sub; simp⟩
  refine ⟨?_, topTo_ge (s := 0) h0 64 (by omega) |> fun h => by omega⟩
  have e : lvlTo (isFace l) 64 0 = [0] := by
    have hs : ∀ s, s ∈ lvlTo (isFace l) 64 0 ↔ s = 0 := fun s => by
      rw [mem_lvl2]
      constructor
      · rintro ⟨h1, _, h3⟩; exact sz_zero s h1 h3
      · rintro rfl; exact ⟨by omega, h0, rfl⟩
    have hnd : (lvlTo (isFace l) 64 0).Nodup := (List.nodup_range).filter _
    have h1 := len_sub (lvlTo (isFace l) 64 0) [0] hnd (fun x hx => by rw [(hs x).1 hx]; simp)
    have h2 : 0 ∈ lvlTo (isFace l) 64 0 := (hs 0).2 rfl
    cases hL : lvlTo (isFace l) 64 0 with
    | nil => rw [hL] at h2; cases h2
    | cons a L =>
      rw [hL] at h1 hs
      have ha := (hs a).1 List.mem_cons_self
      simp at h1
      rw [ha, h1]
  rw [e]; rfl
end Go.Proofs.Ytbdnlncpamandaa

/- Texts of this claim, one behind the other: what each says stands at its head. -/
import Derived.Test.YtihfhfihladlcaaGreatDoorFacePo
import Derived.Test.YtihfhfihladlcaaGreatDoorPosM
import Derived.Test.YtihfhfihladlcaaGreatDoorTopo2
/- The face order of a small complex: it is a graph's; its chains have the counts of chains, and the holes of the complex. Plain, no condition beyond those named. -/
namespace Go.Proofs.YtihfhfihladlcaaGreatDoor
set_option maxRecDepth 20000
set_option linter.unusedSimpArgs false
set_option linter.unusedVariables false

theorem bel_bit (D : List Nat) (I j : Nat) : ∀ J, (bel D I J).testBit j = (decide (j < J) && (I != j && sub (nthN D j) (nthN D I))) := by
  intro J
  induction J with
  | zero => rw [bel_zero]; simp
  | succ J ih =>
    cases h : (I != J && sub (nthN D J) (nthN D I))
    · rw [bel_no h, ih]
      by_cases e : j = J
      · subst e
        rw [h]; simp
      · rw [show decide (j < J + 1) = decide (j < J) from decide_eq_decide.2 (by omega)]
    · rw [bel_yes h, or_bitk, ih]
      by_cases e : j = J
      · subst e
        rw [h]; simp
      · rw [show decide (j < J + 1) = decide (j < J) from decide_eq_decide.2 (by omega), decide_eq_false (fun h : J = j => e h.symm), Bool.or_false]
theorem belAll_len (D : List Nat) : (belAll D).length = D.length := by simp [belAll]
theorem belAll_bit {D : List Nat} {i : Nat} (hi : i < D.length) (j : Nat) : (nthN (belAll D) i).testBit j = (decide (j < D.length) && (i != j && sub (nthN D j) (nthN D i))) := by
  have : nthN (belAll D) i = bel D i D.length := by
    rw [nthN_eq (by rw [belAll_len]; exact hi)]; simp [belAll]
  rw [this, bel_bit]
/-- a short list of sets without doubles is an order -/
theorem bel_pos {D : List Nat} (hnd : D.Nodup) (h6 : D.length ≤ 6) : PosL (belAll D) := by
  have hlt : ∀ i, i < D.length → nthN (belAll D) i < 2 ^ D.length := fun i hi => Nat.lt_pow_two_of_testBit _ fun j hj => by
    rw [belAll_bit hi, decide_eq_false (by omega : ¬ j < D.length), Bool.false_and]
  refine ⟨by rw [belAll_len]; exact h6, fun i hi => ?_, fun i hi k hk hik => ?_⟩
  · rw [belAll_len] at hi ⊢
    exact ⟨hlt i hi, Nat.lt_of_lt_of_le (hlt i hi) (pow_le64 h6), by rw [belAll_bit hi]; simp⟩
  · rw [belAll_len] at hi hk
    rw [belAll_bit hk] at hik
    simp only [Bool.and_eq_true, decide_eq_true_eq, bne_iff_ne] at hik
    rw [sub_iff]
    intro j hj
    rw [belAll_bit hi] at hj
    simp only [Bool.and_eq_true, decide_eq_true_eq, bne_iff_ne] at hj
    rw [belAll_bit hk]
    simp only [Bool.and_eq_true, decide_eq_true_eq, bne_iff_ne]
    refine ⟨hj.1, fun e => ?_, sub_trans hj.2.2 hik.2.2⟩
    subst e
    have := sub_antisymm hik.2.2 hj.2.2
    rw [nthN_at2 hi, nthN_at2 hk] at this
    exact hik.2.1 ((List.getElem_inj hnd).1 this).symm

/-- the list of the faces of a graph -/
structure Gr (D : List Nat) : Prop where
  nd : D.Nodup
  lt : ∀ t ∈ D, t < 64
  one : ∀ t ∈ D, sz t = 1 ∨ sz t = 2
  dn : ∀ t ∈ D, ∀ u, sub u t = true → u ≠ 0 → u ∈ D
  six : D.length ≤ 6
theorem many_subs : ∀ f, f < 64 → 3 ≤ sz f → 7 ≤ ((List.range 64).filter fun s => sub s f && s != 0).length := by decide +kernel
theorem gr_of {l : List Nat} (h6 : (faceL l).length ≤ 6) : Gr (faceL l) := by
  have hm : ∀ t, t ∈ faceL l ↔ t < 64 ∧ isFace l t = true ∧ t ≠ 0 := fun t => by unfold faceL; rw [mem_ord]; simp
  have hsub : ∀ t u, sub u t = true → isFace l t = true → isFace l u = true := fun t u hu ht => by
    unfold isFace at ht ⊢
    rw [List.any_eq_true] at ht ⊢
    obtain ⟨f, hf, htf⟩ := ht
    exact ⟨f, hf, sub_trans hu htf⟩
  have hdn : ∀ t ∈ faceL l, ∀ u, sub u t = true → u ≠ 0 → u ∈ faceL l := fun t ht u hu h0 => by
    rw [hm] at ht ⊢
    exact ⟨Nat.lt_of_le_of_lt (sub_le hu) ht.1, hsub t u hu ht.2.1, h0⟩
  refine ⟨ord_nodup _, fun t ht => ((hm t).1 ht).1, fun t ht => ?_, hdn, h6⟩
  have h := (hm t).1 ht
  have h0 : sz t ≠ 0 := fun e => h.2.2 (sz_zero t h.1 e)
  have h3 : ¬ 3 ≤ sz t := fun h3 => by
    have h7 := many_subs t h.1 h3
    have := len_sub ((List.range 64).filter fun s => sub s t && s != 0) (faceL l) ((List.nodup_range).filter _) fun s hs => by
      rw [List.mem_filter] at hs
      simp only [Bool.and_eq_true, bne_iff_ne] at hs
      exact hdn t ht s hs.2.1 hs.2.2
    omega
  omega

section
variable {D : List Nat}
def cmpB (D : List Nat) (a b : Nat) : Bool := decide (a < D.length) && decide (b < D.length) && (sub (nthN D b) (nthN D a) || sub (nthN D a) (nthN D b))
theorem W_pair (h : Gr D) {a b : Nat} (ha : a < 6) (hb : b < 6) (hab : a ≠ b) : chF (belAll D) (pr a b) = cmpB D a b := by
  have hP := bel_pos h.nd h.six
  rw [Bool.eq_iff_iff, chFIff hP.1, belAll_len]
  unfold cmpB
  simp only [Bool.and_eq_true, decide_eq_true_eq, Bool.or_eq_true]
  have hlt : pr a b < 2 ^ D.length → a < D.length ∧ b < D.length := fun hl => by
    have aux : ∀ i, (pr a b).testBit i = true → i < D.length := fun i hi => by
      rcases Nat.lt_or_ge i D.length with h' | h'
      · exact h'
      · rw [Nat.testBit_lt_two_pow (Nat.lt_of_lt_of_le hl (Nat.pow_le_pow_right (by omega) h'))] at hi; cases hi
    exact ⟨aux a (by rw [pr_bit]; simp), aux b (by rw [pr_bit]; simp)⟩
  constructor
  · rintro ⟨h1, h2⟩
    obtain ⟨a1, b1⟩ := hlt h1
    refine ⟨⟨a1, b1⟩, ?_⟩
    have := h2 a b hab (by rw [pr_bit]; simp) (by rw [pr_bit]; simp)
    rw [belAll_bit a1, belAll_bit b1] at this
    simp only [Bool.and_eq_true] at this
    rcases this with q | q
    · exact .inl q.2.2
    · exact .inr q.2.2
  · rintro ⟨⟨a1, b1⟩, h2⟩
    refine ⟨pr_lt_pow a1 b1, fun i j hij hi hj => ?_⟩
    rw [pr_bit, Bool.or_eq_true, decide_eq_true_eq, decide_eq_true_eq] at hi hj
    have hba : b ≠ a := fun e => hab e.symm
    have e1 : i < D.length := by rcases hi with rfl | rfl <;> assumption
    have e2 : j < D.length := by rcases hj with rfl | rfl <;> assumption
    rw [belAll_bit e1, belAll_bit e2]
    simp only [Bool.and_eq_true, decide_eq_true_eq, bne_iff_ne, e1, e2, true_and]
    rcases hi with rfl | rfl <;> rcases hj with rfl | rfl
    · exact absurd rfl hij
    · exact h2.imp (fun q => ⟨hij, q⟩) fun q => ⟨fun e => hij e.symm, q⟩
    · exact h2.symm.imp (fun q => ⟨hij, q⟩) fun q => ⟨fun e => hij e.symm, q⟩
    · exact absurd rfl hij
theorem Gr.mem (h : Gr D) {a : Nat} (ha : a < D.length) : nthN D a ∈ D := nthN_mem2 ha
theorem Gr.at_inj (h : Gr D) {a b : Nat} (ha : a < D.length) (hb : b < D.length) (e : nthN D a = nthN D b) : a = b := by
  rw [nthN_at2 ha, nthN_at2 hb] at e
  exact (List.getElem_inj h.nd).1 e
/-- a pair of an edge: the other one lies in it -/
theorem cmp_edge (h : Gr D) {a b : Nat} (ha : a < D.length) (hab : a ≠ b) (h2 : sz (nthN D a) = 2) : cmpB D a b = (decide (b < D.length) && sub (nthN D b) (nthN D a)) := by
  unfold cmpB
  by_cases hb : b < D.length
  · have hn : sub (nthN D a) (nthN D b) = false := by
      rw [← Bool.not_eq_true]
      intro hs
      obtain ⟨q1, q2⟩ := sub_sz (h.lt _ (h.mem hb)) hs
      have := h.one _ (h.mem hb)
      exact hab (h.at_inj ha hb (q2 (by omega)))
    simp [ha, hb, hn]
  · simp [hb]
theorem cmp_pt (h : Gr D) {a b : Nat} (ha : a < D.length) (hab : a ≠ b) (h2 : sz (nthN D a) = 1) : cmpB D a b = (decide (b < D.length) && sub (nthN D a) (nthN D b)) := by
  unfold cmpB
  by_cases hb : b < D.length
  · have hn : sub (nthN D b) (nthN D a) = false := by
      rw [← Bool.not_eq_true]
      intro hs
      obtain ⟨q1, q2⟩ := sub_sz (h.lt _ (h.mem ha)) hs
      have := h.one _ (h.mem hb)
      exact hab (h.at_inj hb ha (q2 (by omega))).symm
    simp [ha, hb, hn]
  · simp [hb]
/-- the edge of two -/
theorem cmp_one (h : Gr D) {a b : Nat} (hab : a ≠ b) (hc : cmpB D a b = true) : (sz (nthN D a) = 2 ∧ sz (nthN D b) = 1) ∨ (sz (nthN D a) = 1 ∧ sz (nthN D b) = 2) := by
  unfold cmpB at hc
  simp only [Bool.and_eq_true, decide_eq_true_eq, Bool.or_eq_true] at hc
  obtain ⟨⟨ha, hb⟩, hc⟩ := hc
  have h1 := h.one _ (h.mem ha)
  have h2 := h.one _ (h.mem hb)
  rcases hc with hs | hs
  · obtain ⟨q1, q2⟩ := sub_sz (h.lt _ (h.mem ha)) hs
    have : sz (nthN D b) ≠ sz (nthN D a) := fun e => hab (h.at_inj hb ha (q2 e)).symm
    omega
  · obtain ⟨q1, q2⟩ := sub_sz (h.lt _ (h.mem hb)) hs
    have : sz (nthN D a) ≠ sz (nthN D b) := fun e => hab (h.at_inj ha hb (q2 e))
    omega
theorem cmp_comm (D : List Nat) (a b : Nat) : cmpB D a b = cmpB D b a := by
  unfold cmpB
  cases decide (a < D.length) <;> cases decide (b < D.length) <;> simp [Bool.or_comm]
theorem three_pts : ∀ s, s < 64 → 3 ≤ sz s → ∃ i, i < 6 ∧ ∃ j, j < 6 ∧ ∃ k, k < 6 ∧ i ≠ j ∧ j ≠ k ∧ i ≠ k ∧ s.testBit i = true ∧ s.testBit j = true ∧ s.testBit k = true := by decide +kernel
/-- no three faces lie in a row -/
theorem W_two (h : Gr D) {s : Nat} (hs : s < 64) (hW : chF (belAll D) s = true) : sz s ≤ 2 := by
  rcases Nat.lt_or_ge 2 (sz s) with h3 | h3
  · exfalso
    obtain ⟨i, hi, j, hj, k, hk, hij, hjk, hik, bi, bj, bk⟩ := three_pts s hs h3
    have hd := dn_ch (bel_pos h.nd h.six).1
    have aux : ∀ a b, a < 6 → b < 6 → a ≠ b → s.testBit a = true → s.testBit b = true → cmpB D a b = true := fun a b ha hb hab sa sb => by
      rw [← W_pair h ha hb hab]
      exact hd s hs hW _ (pr_sub.2 ⟨sa, sb⟩)
    have c1 := cmp_one h hij (aux i j hi hj hij bi bj)
    have c2 := cmp_one h hjk (aux j k hj hk hjk bj bk)
    have c3 := cmp_one h hik (aux i k hi hk hik bi bk)
    omega
  · exact h3
theorem sz1_pt : ∀ s, s < 64 → sz s = 1 → ∃ i, i < 6 ∧ s = 2 ^ i := by decide +kernel
theorem sz1_lt {s n : Nat} (h64 : s < 64) (h1 : sz s = 1) {i : Nat} (e : s = 2 ^ i) : s < 2 ^ n ↔ i < n := by
  subst e
  exact Nat.pow_lt_pow_iff_right (by omega)
theorem W_one (h : Gr D) {s : Nat} (hs : s < 64) (h1 : sz s = 1) : chF (belAll D) s = decide (s < 2 ^ D.length) := by
  rw [Bool.eq_iff_iff, chFIff (bel_pos h.nd h.six).1, belAll_len, decide_eq_true_eq]
  refine ⟨fun h => h.1, fun hl => ⟨hl, fun i j hij bi bj => ?_⟩⟩
  have := (show ∀ s, s < 64 → ∀ i, i < 6 → ∀ j, j < 6 → (sz s = 1 ∧ s.testBit i = true ∧ s.testBit j = true) → i = j by decide +kernel) s hs i (bit6 hs bi) j (bit6 hs bj) ⟨h1, bi, bj⟩
  exact absurd this hij
theorem pow_count : ∀ n, n < 7 → ((List.range 64).filter fun s => decide (s < 2 ^ n) && sz s == 1).length = n := by decide +kernel
theorem W_lvl1 (h : Gr D) : (lvlTo (chF (belAll D)) 64 1).length = D.length := by
  rw [← pow_count D.length (by have := h.six; omega)]
  unfold lvlTo
  refine filter_len_congr fun s hs => ?_
  by_cases h1 : sz s = 1
  · rw [W_one h (List.mem_range.1 hs) h1]
  · rw [show (sz s == 1) = false by simpa using h1, Bool.and_false, Bool.and_false]
theorem W_lvl3 (h : Gr D) {k : Nat} (hk : 3 ≤ k) : (lvlTo (chF (belAll D)) 64 k).length = 0 := by
  rw [List.length_eq_zero_iff, List.eq_nil_iff_forall_not_mem]
  intro s hs
  obtain ⟨a, b, c⟩ := mem_lvl2.1 hs
  have := W_two h a b
  omega

/-- a sum over the pairs at a point -/
theorem pair_sum (f : Nat → Int) (a : Nat) (ha : a < 6) : sm (fun s => if sub (2 ^ a) s && sz s == 2 then f s else 0) 64 = sm (fun b => if b = a then 0 else f (pr a b)) 6 := by
  have e1 : ∀ b, b < 6 → (if b = a then 0 else f (pr a b)) = sm (fun s => if s = pr a b then (if b = a then 0 else f (pr a b)) else 0) 64 := fun b hb => by
    rw [sm_single, if_pos (pr_lt ha hb)]
  rw [sm_congr 6 e1, sm_swap]
  refine sm_congr 64 fun s hs => ?_
  have key : ∀ a, a < 6 → ∀ s, s < 64 → sm (fun b => if b = a then 0 else if s = pr a b then 1 else 0) 6 = if sub (2 ^ a) s && sz s == 2 then 1 else 0 := by decide +kernel
  have e2 : sm (fun b => if s = pr a b then (if b = a then 0 else f (pr a b)) else 0) 6 = f s * sm (fun b => if b = a then 0 else if s = pr a b then 1 else 0) 6 := by
    rw [← sm_mul]
    refine sm_congr 6 fun b _ => ?_
    by_cases q : b = a
    · rw [if_pos q, if_pos q]; simp
    · rw [if_neg q, if_neg q]
      by_cases r : s = pr a b
      · rw [if_pos r, if_pos r, ← r, Int.mul_one]
      · rw [if_neg r, if_neg r, Int.mul_zero]
  rw [e2, key a ha s hs]
  by_cases q : (sub (2 ^ a) s && sz s == 2) = true
  · rw [if_pos q, if_pos q, Int.mul_one]
  · rw [if_neg q, if_neg q, Int.mul_zero]
/-- a sum over the list, by the sets -/
theorem list_sum (h : Gr D) (g : Nat → Int) (hz : ∀ t, t < 64 → t ∉ D → g t = 0) : sm (fun b => if b < D.length then g (nthN D b) else 0) 6 = sm g 64 := by
  rw [← sm_list g h.nd h.lt hz]
  rw [sm_more _ D.length 6 (fun i hi => if_neg (by omega)) h.six]
  exact sm_congr _ fun i hi => if_pos hi
theorem two_in : ∀ e, e < 64 → sz e = 2 → sm (fun t => if sub t e && t != 0 && t != e then 1 else 0) 64 = 2 := by decide +kernel
/-- an edge has two faces beside it in the order -/
theorem deg_edge (h : Gr D) {a : Nat} (ha : a < D.length) (h2 : sz (nthN D a) = 2) : sm (fun b => if b = a then 0 else if cmpB D a b then 1 else 0) 6 = 2 := by
  rw [← two_in _ (h.lt _ (h.mem ha)) h2, ← list_sum h (fun t => if sub t (nthN D a) && t != 0 && t != nthN D a then 1 else 0) (fun t ht hD => by
    show (if _ then (1 : Int) else 0) = 0
    rw [if_neg]
    intro q
    simp only [Bool.and_eq_true, bne_iff_ne] at q
    exact hD (h.dn _ (h.mem ha) t q.1.1 q.1.2))]
  refine sm_congr 6 fun b _ => ?_
  by_cases hb : b < D.length
  · rw [if_pos hb]
    by_cases e : b = a
    · subst e; rw [if_pos rfl, if_neg (by simp)]
    · rw [if_neg e, cmp_edge h ha (fun q => e q.symm) h2]
      have n0 : nthN D b ≠ 0 := fun q => by have := h.one _ (h.mem hb); rw [q] at this; revert this; decide
      have ne : nthN D b ≠ nthN D a := fun q => e (h.at_inj hb ha q)
      simp [hb, n0, ne]
  · rw [if_neg hb]
    by_cases e : b = a
    · rw [if_pos e]
    · rw [if_neg e, cmp_edge h ha (fun q => e q.symm) h2]; simp [hb]
/-- one of the two in a pair is an edge -/
theorem one_edge (h : Gr D) {s : Nat} (hs : s < 64) (h2 : sz s = 2) (hW : chF (belAll D) s = true) : sm (fun a => if sub (2 ^ a) s && (decide (a < D.length) && sz (nthN D a) == 2) then 1 else 0) 6 = 1 := by
  obtain ⟨i, hi, j, hj, hij, rfl⟩ := pr_ends s hs h2
  rw [W_pair h hi hj hij] at hW
  have hc := cmp_one h hij hW
  unfold cmpB at hW
  simp only [Bool.and_eq_true, decide_eq_true_eq] at hW
  obtain ⟨⟨hiD, hjD⟩, _⟩ := hW
  have key : ∀ c, sm (fun a => if a = c then (1 : Int) else 0) 6 = if c < 6 then 1 else 0 := fun c => sm_single c 1 6
  have hbit : ∀ a, sub (2 ^ a) (pr i j) = (decide (i = a) || decide (j = a)) := fun a => by
    rw [← pr_bit, Bool.eq_iff_iff, sub_iff]
    refine ⟨fun q => q a (by rw [Nat.testBit_two_pow]; simp), fun q k hk => ?_⟩
    rw [Nat.testBit_two_pow, decide_eq_true_eq] at hk
    subst hk; exact q
  rcases hc with ⟨c1, c2⟩ | ⟨c1, c2⟩
  · rw [sm_congr 6 (h := fun a => if a = i then 1 else 0) (fun a _ => ?_), key, if_pos hi]
    show (if _ then (1 : Int) else 0) = _
    rw [hbit]
    by_cases e : a = i
    · subst e; simp [hiD, c1]
    · rw [if_neg e, if_neg]
      simp only [Bool.and_eq_true, Bool.or_eq_true, decide_eq_true_eq, beq_iff_eq]
      rintro ⟨q | q, _, q3⟩
      · exact e q.symm
      · subst q; omega
  · rw [sm_congr 6 (h := fun a => if a = j then 1 else 0) (fun a _ => ?_), key, if_pos hj]
    show (if _ then (1 : Int) else 0) = _
    rw [hbit]
    by_cases e : a = j
    · subst e; simp [hjD, c2]
    · rw [if_neg e, if_neg]
      simp only [Bool.and_eq_true, Bool.or_eq_true, decide_eq_true_eq, beq_iff_eq]
      rintro ⟨q | q, _, q3⟩
      · subst q; omega
      · exact e q.symm
theorem lvl_sm (A : Nat → Bool) (k : Nat) : ((lvlTo A 64 k).length : Int) = sm (fun s => if A s && sz s == k then 1 else 0) 64 := by
  unfold lvlTo; exact filter_sm _ 64
/-- the number of edges among the faces -/
def edN (D : List Nat) : Int := sm (fun t => if D.contains t && sz t == 2 then 1 else 0) 64
def ptN (D : List Nat) : Int := sm (fun t => if D.contains t && sz t == 1 then 1 else 0) 64
theorem W_lvl2 (h : Gr D) : ((lvlTo (chF (belAll D)) 64 2).length : Int) = 2 * edN D := by
  rw [lvl_sm]
  have e1 : ∀ s, s < 64 → (if chF (belAll D) s && sz s == 2 then (1 : Int) else 0) = sm (fun a => if chF (belAll D) s && sz s == 2 then (if sub (2 ^ a) s && (decide (a < D.length) && sz (nthN D a) == 2) then 1 else 0) else 0) 6 := fun s hs => by
    by_cases q : (chF (belAll D) s && sz s == 2) = true
    · rw [if_pos q]
      simp only [q, if_true]
      simp only [Bool.and_eq_true, beq_iff_eq] at q
      exact (one_edge h hs q.2 q.1).symm
    · simp only [q, if_false]
      exact (sm_zero 6).symm
  rw [sm_congr 64 e1, sm_swap]
  have e2 : ∀ a, a < 6 → sm (fun s => if chF (belAll D) s && sz s == 2 then (if sub (2 ^ a) s && (decide (a < D.length) && sz (nthN D a) == 2) then 1 else 0) else 0) 64 = if a < D.length then (if D.contains (nthN D a) && sz (nthN D a) == 2 then 2 else 0) else 0 := fun a ha => by
    by_cases q : a < D.length ∧ sz (nthN D a) = 2
    · rw [if_pos q.1, if_pos (by simp [h.mem q.1, q.2]), ← deg_edge h q.1 q.2]
      rw [sm_congr 64 (h := fun s => if sub (2 ^ a) s && sz s == 2 then (if chF (belAll D) s then 1 else 0) else 0) (fun s _ => by
        have hq : (decide (a < D.length) && sz (nthN D a) == 2) = true := by simp [q.1, q.2]
        show (if _ then (if _ then (1 : Int) else 0) else 0) = _
        rw [hq, Bool.and_true]
        cases chF (belAll D) s <;> cases (sz s == 2) <;> cases sub (2 ^ a) s <;> rfl), pair_sum (fun s => if chF (belAll D) s then 1 else 0) a ha]
      refine sm_congr 6 fun b hb => ?_
      by_cases e : b = a
      · rw [if_pos e, if_pos e]
      · rw [if_neg e, if_neg e, W_pair h ha hb fun q => e q.symm]
    · rw [sm_congr 64 (h := fun _ => 0) (fun s _ => by
        have hq : (decide (a < D.length) && sz (nthN D a) == 2) = false := by
          rw [← Bool.not_eq_true]
          simpa using q
        show (if _ then (if _ then (1 : Int) else 0) else 0) = _
        rw [hq, Bool.and_false]; simp), sm_zero]
      by_cases q1 : a < D.length
      · rw [if_pos q1, if_neg]
        simp only [Bool.and_eq_true, beq_iff_eq]
        exact fun r => q ⟨q1, r.2⟩
      · rw [if_neg q1]
  rw [sm_congr 6 e2, list_sum h (fun t => if D.contains t && sz t == 2 then 2 else 0) (fun t _ ht => by
    show (if _ then (2 : Int) else 0) = 0
    rw [if_neg]; simp [ht])]
  unfold edN
  rw [← sm_mul]
  refine sm_congr 64 fun t _ => ?_
  split <;> rfl
theorem D_len (h : Gr D) : (D.length : Int) = ptN D + edN D := by
  have : (D.length : Int) = sm (fun t => if D.contains t then 1 else 0) 64 := by
    rw [← sm_list (fun t => if D.contains t then 1 else 0) h.nd h.lt (fun t _ ht => by show (if _ then (1 : Int) else 0) = 0; rw [if_neg]; simpa using ht)]
    rw [sm_congr _ (h := fun _ => 1) (fun j hj => by show (if _ then (1 : Int) else 0) = 1; rw [if_pos]; simpa using h.mem hj)]
    generalize D.length = n
    induction n with
    | zero => rfl
    | succ n ih => rw [sm, ← ih]; omega
  rw [this]
  unfold ptN edN
  rw [← sm_add]
  refine sm_congr 64 fun t _ => ?_
  by_cases q : t ∈ D
  · have := h.one t q
    have hc : D.contains t = true := by simpa using q
    rcases this with r | r
    · rw [hc, r]; simp
    · rw [hc, r]; simp
  · have hc : D.contains t = false := by simpa using q
    rw [hc]; simp
end
end Go.Proofs.YtihfhfihladlcaaGreatDoor

/- Cycles of a graph and of the chains of its face order, mod 2; the holes are the same, and the counts are those of chains. Plain, no condition beyond those named. -/
namespace Go.Proofs.YtihfhfihladlcaaGreatDoor
set_option maxRecDepth 20000
set_option linter.unusedSimpArgs false
set_option linter.unusedVariables false

theorem bnd_two (f : Nat → Int) (u : Nat) : bnd f u % ((2 : Nat) : Int) = sm (fun t => if sub u t && sz t == sz u + 1 then f t else 0) 64 % ((2 : Nat) : Int) := by
  unfold bnd
  refine mod_of_dvd (sm_dvd _ _ _ (fun t => ?_) 64)
  unfold sgnF
  by_cases e : (sub u t && sz t == sz u + 1) = true
  · rw [if_pos e, if_pos e]
    generalize ((sz (t &&& (t - u - 1)) % 2 : Nat) : Int) = c
    refine ⟨-(c * f t), ?_⟩
    rw [Int.sub_mul, Int.one_mul, Int.mul_assoc, Int.mul_neg]
    show _ = -(2 * (c * f t))
    omega
  · rw [if_neg e, if_neg e]; simp
section
variable {D : List Nat}
/-- a pair's value: that of its edge -/
def tC (D : List Nat) (y : Nat → Int) (s : Nat) : Int :=
  if decide (s < 64) && chF (belAll D) s && sz s == 2 then sm (fun a => if sub (2 ^ a) s && (decide (a < D.length) && sz (nthN D a) == 2) then y (nthN D a) else 0) 6 else 0
def lowP (e : Nat) : Nat := 2 ^ Nat.log2 e
/-- an edge's value: that of its pair with one of its points -/
def sC (D : List Nat) (z : Nat → Int) (e : Nat) : Int := if D.contains e && sz e == 2 then z (pr (D.idxOf e) (D.idxOf (lowP e))) else 0
theorem low_ok : ∀ e, e < 64 → sz e = 2 → sub (lowP e) e = true ∧ lowP e ≠ 0 ∧ sz (lowP e) = 1 ∧ sub (e ^^^ lowP e) e = true ∧ e ^^^ lowP e ≠ 0 ∧ sz (e ^^^ lowP e) = 1 ∧ lowP e ≠ e ^^^ lowP e ∧ lowP e < 64 ∧ e ^^^ lowP e < 64 := by decide +kernel
theorem low_or0 : ∀ e, e < 64 → ∀ t, t < 64 → (sz e = 2 ∧ sub t e = true ∧ t ≠ 0 ∧ t ≠ e) → t = lowP e ∨ t = e ^^^ lowP e := by decide +kernel
theorem low_or (e : Nat) (he : e < 64) (h2 : sz e = 2) (t : Nat) (ht : t < 64) (h1 : sub t e = true) (h3 : t ≠ 0) (h4 : t ≠ e) : t = lowP e ∨ t = e ^^^ lowP e := low_or0 e he t ht ⟨h2, h1, h3, h4⟩
theorem Gr.ix (h : Gr D) {t : Nat} (ht : t ∈ D) : D.idxOf t < D.length ∧ nthN D (D.idxOf t) = t := by
  have hl := List.idxOf_lt_length_iff.2 ht
  exact ⟨hl, by rw [nthN_at2 hl]; exact List.getElem_idxOf hl⟩
theorem Gr.ix6 (h : Gr D) {t : Nat} (ht : t ∈ D) : D.idxOf t < 6 := Nat.lt_of_lt_of_le (h.ix ht).1 h.six
theorem tC_at (h : Gr D) (y : Nat → Int) {a b : Nat} (ha : a < D.length) (hb : b < 6) (hab : a ≠ b) (h2 : sz (nthN D a) = 2) (hc : cmpB D a b = true) : tC D y (pr a b) = y (nthN D a) := by
  have ha6 : a < 6 := Nat.lt_of_lt_of_le ha h.six
  unfold tC
  rw [if_pos (by simp [pr_lt ha6 hb, W_pair h ha6 hb hab, hc, pr_sz a ha6 b hb hab])]
  have hc1 := cmp_one h hab hc
  rw [sm_congr 6 (h := fun i => if i = a then y (nthN D a) else 0) (fun i _ => ?_), sm_single, if_pos ha6]
  show (if _ then y (nthN D i) else 0) = _
  have hbit : sub (2 ^ i) (pr a b) = (decide (a = i) || decide (b = i)) := by
    rw [← pr_bit, Bool.eq_iff_iff, sub_iff]
    refine ⟨fun q => q i (by rw [Nat.testBit_two_pow]; simp), fun q k hk => ?_⟩
    rw [Nat.testBit_two_pow, decide_eq_true_eq] at hk
    subst hk; exact q
  rw [hbit]
  by_cases e : i = a
  · subst e; simp [ha, h2]
  · rw [if_neg e, if_neg]
    simp only [Bool.and_eq_true, Bool.or_eq_true, decide_eq_true_eq, beq_iff_eq]
    rintro ⟨q | q, _, q3⟩
    · exact e q.symm
    · subst q; omega
theorem tC_off (y : Nat → Int) {s : Nat} (hs : ¬ (s < 64 ∧ chF (belAll D) s = true ∧ sz s = 2)) : tC D y s = 0 := by
  unfold tC
  rw [if_neg]
  simp only [Bool.and_eq_true, decide_eq_true_eq, beq_iff_eq]
  exact fun q => hs ⟨q.1.1, q.1.2, q.2⟩
theorem sC_off (z : Nat → Int) {e : Nat} (he : ¬ (e ∈ D ∧ sz e = 2)) : sC D z e = 0 := by
  unfold sC
  rw [if_neg]
  simp only [Bool.and_eq_true, beq_iff_eq, List.contains_iff_mem]
  exact he
/-- at a pair of the order a cycle has the value of its edge -/
theorem cyc_pair (h : Gr D) {z : Nat → Int} (hz : Cyc 2 (chF (belAll D)) 2 z) {a b : Nat} (ha : a < D.length) (hb : b < D.length) (hab : a ≠ b) (h2 : sz (nthN D a) = 2) (hc : cmpB D a b = true) : z (pr a b) = sC D z (nthN D a) := by
  have ha6 : a < 6 := Nat.lt_of_lt_of_le ha h.six
  have hmem := h.mem ha
  have he64 := h.lt _ hmem
  obtain ⟨l1, l2, l3, l4, l5, l6, l7, l8, l9⟩ := low_ok _ he64 h2
  have m1 := h.dn _ hmem _ l1 l2
  have m2 := h.dn _ hmem _ l4 l5
  have hix : D.idxOf (nthN D a) = a := h.at_inj (h.ix hmem).1 ha (h.ix hmem).2
  have hv : sC D z (nthN D a) = z (pr a (D.idxOf (lowP (nthN D a)))) := by
    unfold sC
    rw [if_pos (by simp [hmem, h2]), hix]
  have hsum : (z (pr a (D.idxOf (lowP (nthN D a)))) + z (pr a (D.idxOf (nthN D a ^^^ lowP (nthN D a))))) % 2 = 0 := by
    have hcy := hz.cyc (2 ^ a) (bit_lt64 ha6)
    rw [bnd_two] at hcy
    have hsz : sz (2 ^ a) = 1 := (show ∀ a, a < 6 → sz (2 ^ a) = 1 by decide +kernel) a ha6
    rw [hsz, pair_sum z a ha6] at hcy
    have e1 : sm (fun b => if b = a then 0 else z (pr a b)) 6 = sm (fun t => if sub t (nthN D a) && t != 0 && t != nthN D a then z (pr a (D.idxOf t)) else 0) 64 := by
      rw [← list_sum h (fun t => if sub t (nthN D a) && t != 0 && t != nthN D a then z (pr a (D.idxOf t)) else 0) (fun t ht hD => by
        show (if _ then _ else (0 : Int)) = 0
        rw [if_neg]
        intro q
        simp only [Bool.and_eq_true, bne_iff_ne] at q
        exact hD (h.dn _ hmem t q.1.1 q.1.2))]
      refine sm_congr 6 fun c hc6 => ?_
      by_cases hcD : c < D.length
      · rw [if_pos hcD]
        by_cases e : c = a
        · subst e; rw [if_pos rfl, if_neg (by simp)]
        · have n0 : nthN D c ≠ 0 := fun q => by have := h.one _ (h.mem hcD); rw [q] at this; revert this; decide
          have ne : nthN D c ≠ nthN D a := fun q => e (h.at_inj hcD ha q)
          have hixc : D.idxOf (nthN D c) = c := h.at_inj (h.ix (h.mem hcD)).1 hcD (h.ix (h.mem hcD)).2
          rw [if_neg e, hixc]
          by_cases q : sub (nthN D c) (nthN D a) = true
          · rw [if_pos (by simp [q, n0, ne])]
          · rw [if_neg (by simp [q])]
            refine hz.off _ fun hh => q ?_
            have hw := hh.2.1
            rw [W_pair h ha6 hc6 (fun q => e q.symm), cmp_edge h ha (fun q => e q.symm) h2] at hw
            simp only [Bool.and_eq_true] at hw
            exact hw.2
      · rw [if_neg hcD]
        by_cases e : c = a
        · rw [if_pos e]
        · rw [if_neg e]
          refine hz.off _ fun hh => hcD ?_
          have hw := hh.2.1
          rw [W_pair h ha6 hc6 (fun q => e q.symm), cmp_edge h ha (fun q => e q.symm) h2] at hw
          simp only [Bool.and_eq_true, decide_eq_true_eq] at hw
          exact hw.1
    have e2 : sm (fun t => if sub t (nthN D a) && t != 0 && t != nthN D a then z (pr a (D.idxOf t)) else 0) 64 = z (pr a (D.idxOf (lowP (nthN D a)))) + z (pr a (D.idxOf (nthN D a ^^^ lowP (nthN D a)))) := by
      rw [← sm_list _ (H := [lowP (nthN D a), nthN D a ^^^ lowP (nthN D a)]) (by simp [l7]) (by simp [l8, l9]) (fun t ht hn => by
        show (if _ then _ else (0 : Int)) = 0
        rw [if_neg]
        intro q
        simp only [Bool.and_eq_true, bne_iff_ne] at q
        have := low_or _ he64 h2 t ht q.1.1 q.1.2 q.2
        simp at hn
        rcases this with r | r
        · exact hn.1 r
        · exact hn.2 r)]
      have n1 : lowP (nthN D a) ≠ nthN D a := fun q => by rw [q] at l3; omega
      have n2 : nthN D a ^^^ lowP (nthN D a) ≠ nthN D a := fun q => by rw [q] at l6; omega
      show (0 + (if _ then _ else (0 : Int))) + (if _ then _ else (0 : Int)) = _
      simp only [nthN, List.getD_cons_zero, List.getD_cons_succ]
      rw [Int.zero_add]
      change (if sub (lowP (nthN D a)) (nthN D a) && lowP (nthN D a) != 0 && lowP (nthN D a) != nthN D a then _ else (0 : Int)) + (if sub (nthN D a ^^^ lowP (nthN D a)) (nthN D a) && (nthN D a ^^^ lowP (nthN D a)) != 0 && (nthN D a ^^^ lowP (nthN D a)) != nthN D a then _ else (0 : Int)) = _
      rw [if_pos (by simp [l1, l2, n1]), if_pos (by simp [l4, l5, n2])]
      rfl
    have h1 : (1 : Nat) + 1 = 2 := rfl
    rw [e1, e2] at hcy
    exact hcy
  have b1 := hz.bd (pr a (D.idxOf (lowP (nthN D a))))
  have b2 := hz.bd (pr a (D.idxOf (nthN D a ^^^ lowP (nthN D a))))
  have heq : z (pr a (D.idxOf (nthN D a ^^^ lowP (nthN D a)))) = z (pr a (D.idxOf (lowP (nthN D a)))) := by
    have c1 : ((2 : Nat) : Int) = 2 := rfl
    rw [c1] at b1 b2
    omega
  rw [cmp_edge h ha hab h2] at hc
  simp only [Bool.and_eq_true] at hc
  have n0 : nthN D b ≠ 0 := fun q => by have := h.one _ (h.mem hb); rw [q] at this; revert this; decide
  have ne : nthN D b ≠ nthN D a := fun q => hab (h.at_inj hb ha q).symm
  have hixb : D.idxOf (nthN D b) = b := h.at_inj (h.ix (h.mem hb)).1 hb (h.ix (h.mem hb)).2
  rw [hv]
  rcases low_or _ he64 h2 _ (h.lt _ (h.mem hb)) hc.2 n0 ne with r | r
  · rw [← r, hixb]
  · rw [← heq, ← r, hixb]
theorem sz_pow : ∀ a, a < 6 → sz (2 ^ a) = 1 := by decide +kernel
theorem back_cyc (h : Gr D) {A : Nat → Bool} (hA : ∀ s, s < 64 → (A s = true ↔ s = 0 ∨ s ∈ D)) {z : Nat → Int} (hz : Cyc 2 (chF (belAll D)) 2 z) : Cyc 2 A 2 (sC D z) ∧ tC D (sC D z) = z := by
  refine ⟨⟨⟨fun t => ?_, fun t ht => sC_off z fun q => ht ⟨h.lt _ q.1, (hA t (h.lt _ q.1)).2 (.inr q.1), q.2⟩⟩, fun u hu => ?_⟩, ?_⟩
  · unfold sC
    split
    · exact hz.bd _
    · exact ⟨Int.le_refl _, by decide⟩
  · rw [bnd_two]
    by_cases hu1 : u ∈ D ∧ sz u = 1
    · obtain ⟨c1, c2⟩ := h.ix hu1.1
      obtain ⟨c, hc⟩ : ∃ c, c = D.idxOf u := ⟨_, rfl⟩
      rw [← hc] at c1 c2
      have hc6 : c < 6 := Nat.lt_of_lt_of_le c1 h.six
      have hcy := hz.cyc (2 ^ c) (bit_lt64 hc6)
      rw [bnd_two, sz_pow c hc6, pair_sum z c hc6] at hcy
      refine Eq.trans ?_ hcy
      rw [← list_sum h (fun t => if sub u t && sz t == sz u + 1 then sC D z t else 0) (fun t _ hD => by
        show (if _ then _ else (0 : Int)) = 0
        rw [sC_off z fun q => hD q.1]; simp)]
      refine congrArg (· % ((2 : Nat) : Int)) (sm_congr 6 fun b hb => ?_)
      show (if b < D.length then (if sub u (nthN D b) && sz (nthN D b) == sz u + 1 then sC D z (nthN D b) else 0) else 0) = if b = c then 0 else z (pr c b)
      have hsc : sz (nthN D c) = 1 := by rw [c2]; exact hu1.2
      by_cases hbD : b < D.length
      · rw [if_pos hbD]
        by_cases e : b = c
        · subst e
          rw [if_pos rfl, if_neg]
          rw [c2]; simp
        · rw [if_neg e]
          have hcp := cmp_pt h c1 (fun q => e q.symm) hsc (b := b)
          by_cases q : sub u (nthN D b) = true
          · have hcmp : cmpB D c b = true := by rw [hcp, c2, q]; simp [hbD]
            have h2 : sz (nthN D b) = 2 := by have := cmp_one h (fun q => e q.symm) hcmp; omega
            rw [if_pos (by simp [q, h2, hu1.2]), pr_comm, cyc_pair h hz hbD c1 e h2 (by rw [cmp_comm]; exact hcmp)]
          · rw [if_neg (by simp [q])]
            symm
            refine hz.off _ fun hh => q ?_
            have hw := hh.2.1
            rw [W_pair h hc6 hb (fun q => e q.symm), hcp, c2] at hw
            simp only [Bool.and_eq_true] at hw
            exact hw.2
      · rw [if_neg hbD]
        by_cases e : b = c
        · rw [if_pos e]
        · rw [if_neg e]
          symm
          refine hz.off _ fun hh => hbD ?_
          have hw := hh.2.1
          rw [W_pair h hc6 hb (fun q => e q.symm), cmp_pt h c1 (fun q => e q.symm) hsc] at hw
          simp only [Bool.and_eq_true, decide_eq_true_eq] at hw
          exact hw.1
    · rw [sm_congr 64 (h := fun _ => 0) (fun t ht => ?_), sm_zero]
      · rfl
      · by_cases q : t ∈ D ∧ sz t = 2
        · rw [if_neg]
          simp only [Bool.and_eq_true, beq_iff_eq]
          rintro ⟨r1, r2⟩
          refine hu1 ⟨h.dn t q.1 u r1 (fun e => ?_), by omega⟩
          subst e
          rw [q.2] at r2
          exact absurd r2 (by decide)
        · rw [sC_off z q]; simp
  · funext s
    by_cases hs : s < 64 ∧ chF (belAll D) s = true ∧ sz s = 2
    · obtain ⟨hs64, hW, hs2⟩ := hs
      obtain ⟨i, hi, j, hj, hij, rfl⟩ := pr_ends s hs64 hs2
      rw [W_pair h hi hj hij] at hW
      have hl : i < D.length ∧ j < D.length := by
        unfold cmpB at hW
        simp only [Bool.and_eq_true, decide_eq_true_eq] at hW
        exact hW.1
      rcases cmp_one h hij hW with ⟨q1, q2⟩ | ⟨q1, q2⟩
      · rw [tC_at h _ hl.1 hj hij q1 hW, cyc_pair h hz hl.1 hl.2 hij q1 hW]
      · have hji : j ≠ i := fun e => hij e.symm
        have hW' : cmpB D j i = true := by rw [cmp_comm]; exact hW
        rw [pr_comm, tC_at h _ hl.2 hi hji q2 hW', cyc_pair h hz hl.2 hl.1 hji q2 hW']
    · rw [tC_off _ hs, hz.off s hs]
theorem forth_cyc (h : Gr D) {A : Nat → Bool} (hA : ∀ s, s < 64 → (A s = true ↔ s = 0 ∨ s ∈ D)) {y : Nat → Int} (hy : Cyc 2 A 2 y) : Cyc 2 (chF (belAll D)) 2 (tC D y) ∧ sC D (tC D y) = y := by
  have hoff : ∀ t, t ∉ D → y t = 0 := fun t ht => hy.off t fun q => by
    rcases (hA t q.1).1 q.2.1 with r | r
    · subst r
      exact absurd q.2.2 (by decide)
    · exact ht r
  have hval : ∀ s, tC D y s = 0 ∨ ∃ e, tC D y s = y e := fun s => by
    by_cases hs : s < 64 ∧ chF (belAll D) s = true ∧ sz s = 2
    · obtain ⟨hs64, hW, hs2⟩ := hs
      obtain ⟨i, hi, j, hj, hij, rfl⟩ := pr_ends s hs64 hs2
      rw [W_pair h hi hj hij] at hW
      have hl : i < D.length ∧ j < D.length := by
        unfold cmpB at hW
        simp only [Bool.and_eq_true, decide_eq_true_eq] at hW
        exact hW.1
      rcases cmp_one h hij hW with ⟨q1, q2⟩ | ⟨q1, q2⟩
      · exact .inr ⟨_, tC_at h _ hl.1 hj hij q1 hW⟩
      · exact .inr ⟨_, by rw [pr_comm, tC_at h _ hl.2 hi (fun e => hij e.symm) q2 (by rw [cmp_comm]; exact hW)]⟩
    · exact .inl (tC_off _ hs)
  refine ⟨⟨⟨fun t => ?_, fun t ht => tC_off y ht⟩, fun u hu => ?_⟩, ?_⟩
  · rcases hval t with q | ⟨e, q⟩
    · rw [q]; exact ⟨Int.le_refl _, by decide⟩
    · rw [q]; exact hy.bd e
  · rw [bnd_two]
    by_cases hu1 : sz u = 1
    · obtain ⟨c, hc6, rfl⟩ := sz1_pt u hu hu1
      rw [hu1, pair_sum (tC D y) c hc6]
      by_cases hcD : c < D.length
      · rcases h.one _ (h.mem hcD) with h1 | h2
        · have hcy := hy.cyc (nthN D c) (h.lt _ (h.mem hcD))
          rw [bnd_two, h1] at hcy
          refine Eq.trans ?_ hcy
          rw [← list_sum h (fun t => if sub (nthN D c) t && sz t == 1 + 1 then y t else 0) (fun t _ hD => by
            show (if _ then _ else (0 : Int)) = 0
            rw [hoff t hD]; simp)]
          refine congrArg (· % ((2 : Nat) : Int)) (sm_congr 6 fun b hb => ?_)
          show (if b = c then 0 else tC D y (pr c b)) = if b < D.length then (if sub (nthN D c) (nthN D b) && sz (nthN D b) == 1 + 1 then y (nthN D b) else 0) else 0
          by_cases e : b = c
          · subst e
            rw [if_pos rfl, if_pos hcD, if_neg]
            simp [h1]
          · rw [if_neg e]
            have hcp := cmp_pt h hcD (fun q => e q.symm) h1 (b := b)
            by_cases hbD : b < D.length
            · rw [if_pos hbD]
              by_cases q : sub (nthN D c) (nthN D b) = true
              · have hcmp : cmpB D c b = true := by rw [hcp, q]; simp [hbD]
                have h2 : sz (nthN D b) = 2 := by have := cmp_one h (fun q => e q.symm) hcmp; omega
                rw [if_pos (by simp [q, h2]), pr_comm, tC_at h y hbD hc6 e h2 (by rw [cmp_comm]; exact hcmp)]
              · rw [if_neg (by simp [q])]
                refine tC_off y fun hh => q ?_
                have hw := hh.2.1
                rw [W_pair h hc6 hb (fun q => e q.symm), hcp] at hw
                simp only [Bool.and_eq_true] at hw
                exact hw.2
            · rw [if_neg hbD]
              refine tC_off y fun hh => hbD ?_
              have hw := hh.2.1
              rw [W_pair h hc6 hb (fun q => e q.symm), hcp] at hw
              simp only [Bool.and_eq_true, decide_eq_true_eq] at hw
              exact hw.1
        · have e1 : sm (fun b => if b = c then 0 else tC D y (pr c b)) 6 = y (nthN D c) * 2 := by
            rw [← deg_edge h hcD h2, ← sm_mul]
            refine sm_congr 6 fun b hb => ?_
            by_cases e : b = c
            · rw [if_pos e, if_pos e]; simp
            · rw [if_neg e, if_neg e]
              by_cases q : cmpB D c b = true
              · rw [if_pos q, tC_at h y hcD hb (fun q => e q.symm) h2 q, Int.mul_one]
              · rw [if_neg q, Int.mul_zero]
                refine tC_off y fun hh => q ?_
                have hw := hh.2.1
                rwa [W_pair h hc6 hb (fun q => e q.symm)] at hw
          rw [e1]
          have c1 : ((2 : Nat) : Int) = 2 := rfl
          rw [c1]
          omega
      · rw [sm_congr 6 (h := fun _ => 0) (fun b hb => ?_), sm_zero]
        · rfl
        · by_cases e : b = c
          · rw [if_pos e]
          · rw [if_neg e]
            refine tC_off y fun hh => hcD ?_
            have hw := hh.2.1
            rw [W_pair h hc6 hb (fun q => e q.symm)] at hw
            unfold cmpB at hw
            simp only [Bool.and_eq_true, decide_eq_true_eq] at hw
            exact hw.1.1
    · rw [sm_congr 64 (h := fun _ => 0) (fun t ht => ?_), sm_zero]
      · rfl
      · by_cases q : sz t = 2
        · rw [if_neg]
          simp only [Bool.and_eq_true, beq_iff_eq]
          rintro ⟨r1, r2⟩
          omega
        · rw [tC_off y (fun hh => q hh.2.2)]; simp
  · funext e
    by_cases q : e ∈ D ∧ sz e = 2
    · obtain ⟨qm, q2⟩ := q
      obtain ⟨l1, l2, l3, l4, l5, l6, l7, l8, l9⟩ := low_ok _ (h.lt _ qm) q2
      have m1 := h.dn _ qm _ l1 l2
      obtain ⟨i1, i2⟩ := h.ix qm
      obtain ⟨j1, j2⟩ := h.ix m1
      unfold sC
      rw [if_pos (by simp [qm, q2])]
      have hne : D.idxOf e ≠ D.idxOf (lowP e) := fun r => by
        have : e = lowP e := by have q := congrArg (nthN D) r; rw [i2, j2] at q; exact q
        rw [← this] at l3; omega
      have h2 : sz (nthN D (D.idxOf e)) = 2 := by rw [i2]; exact q2
      rw [tC_at h y i1 (Nat.lt_of_lt_of_le j1 h.six) hne h2 (by rw [cmp_edge h i1 hne h2, i2, j2, l1]; simp [j1]), i2]
    · rw [sC_off _ q]
      exact (hy.off e fun hh => q ⟨by
        rcases (hA e hh.1).1 hh.2.1 with r | r
        · subst r; exact absurd hh.2.2 (by decide)
        · exact r, hh.2.2⟩).symm
end
end Go.Proofs.YtihfhfihladlcaaGreatDoor

/- The chains of a small complex' face order: their counts and their holes. Plain, no condition beyond those named. -/
namespace Go.Proofs.YtihfhfihladlcaaGreatDoor
set_option maxRecDepth 20000
set_option linter.unusedSimpArgs false
set_option linter.unusedVariables false

section
variable {D : List Nat}
theorem Gr.pt (h : Gr D) (h1 : 1 ≤ D.length) : ∃ v ∈ D, sz v = 1 := by
  have hm := h.mem (a := 0) h1
  rcases h.one _ hm with q | q
  · exact ⟨_, hm, q⟩
  · obtain ⟨l1, l2, l3, _⟩ := low_ok _ (h.lt _ hm) q
    exact ⟨_, h.dn _ hm _ l1 l2, l3⟩
theorem W_pt (h : Gr D) (h1 : 1 ≤ D.length) : chF (belAll D) 1 = true := by
  rw [W_one h (by omega) (by decide), decide_eq_true_eq]
  have : 2 ^ 1 ≤ 2 ^ D.length := Nat.pow_le_pow_right (by omega) h1
  omega
theorem lvl_zero {A : Nat → Bool} (h0 : A 0 = true) : (lvlTo A 64 0).length = 1 := by
  have : lvlTo A 64 0 = [0] := by
    unfold lvlTo
    have e : (List.range 64).filter (fun s => A s && sz s == 0) = (List.range 64).filter (fun s => s == 0) := List.filter_congr fun s hs => by
      by_cases q : s = 0
      · subst q; rw [h0]; rfl
      · have : sz s ≠ 0 := fun e => q (sz_zero s (List.mem_range.1 hs) e)
        show (A s && sz s == 0) = (s == 0)
        rw [show (sz s == 0) = false by simpa using this, show (s == 0) = false by simpa using q, Bool.and_false]
    rw [e]; decide +kernel
  rw [this]; rfl
theorem A_lvl (h : Gr D) {A : Nat → Bool} (hA : ∀ s, s < 64 → (A s = true ↔ s = 0 ∨ s ∈ D)) {k : Nat} (hk : 1 ≤ k) : ((lvlTo A 64 k).length : Int) = sm (fun t => if D.contains t && sz t == k then 1 else 0) 64 := by
  rw [lvl_sm]
  refine sm_congr 64 fun s hs => ?_
  by_cases q : sz s = k
  · have : A s = D.contains s := by
      rw [Bool.eq_iff_iff, hA s hs, List.contains_iff_mem]
      refine ⟨fun r => r.resolve_left fun e => ?_, .inr⟩
      subst e
      have : sz 0 = 0 := rfl
      omega
    rw [this]
  · rw [show (sz s == k) = false by simpa using q, Bool.and_false, Bool.and_false]
theorem A_lvl3 (h : Gr D) {A : Nat → Bool} (hA : ∀ s, s < 64 → (A s = true ↔ s = 0 ∨ s ∈ D)) {k : Nat} (hk : 3 ≤ k) : (lvlTo A 64 k).length = 0 := by
  rw [List.length_eq_zero_iff, List.eq_nil_iff_forall_not_mem]
  intro s hs
  obtain ⟨a, b, c⟩ := mem_lvl2.1 hs
  rcases (hA s a).1 b with q | q
  · subst q
    have : sz 0 = 0 := rfl
    omega
  · have := h.one s q
    omega
theorem po_holes (h : Gr D) (h1 : 1 ≤ D.length) {A : Nat → Bool} (hd : Dn A) (hA : ∀ s, s < 64 → (A s = true ↔ s = 0 ∨ s ∈ D)) (k : Nat) : holeN 2 (chF (belAll D)) k = holeN 2 A k := by
  have hp : Prm 2 := .inl rfl
  have hW := dn_ch (bel_pos h.nd h.six).1
  have r1 := fun k => (dim_cyc0 hp hd k).1
  have r2 := fun k => (dim_cyc0 hp hW k).1
  have a0 : (lvlTo A 64 0).length = 1 := lvl_zero ((hA 0 (by omega)).2 (.inl rfl))
  have w1 := W_pt h h1
  have w0 : (lvlTo (chF (belAll D)) 64 0).length = 1 := lvl_zero (hW 1 (by omega) w1 0 (by decide))
  have a1 : ((lvlTo A 64 1).length : Int) = ptN D := A_lvl h hA (by omega)
  have a2 : ((lvlTo A 64 2).length : Int) = edN D := A_lvl h hA (by omega)
  have wl1 := W_lvl1 h
  have wl2 := W_lvl2 h
  have hN := D_len h
  have za : ∀ k, 3 ≤ k → rk0 2 A k = 0 ∧ (lvlTo A 64 k).length = 0 := fun k hk => by
    have := A_lvl3 h hA hk
    have := r1 k
    omega
  have zw : ∀ k, 3 ≤ k → rk0 2 (chF (belAll D)) k = 0 ∧ (lvlTo (chF (belAll D)) 64 k).length = 0 := fun k hk => by
    have := W_lvl3 h hk
    have := r2 k
    omega
  have h3 : ∀ k, 3 ≤ k → holeN 2 A k = 0 ∧ holeN 2 (chF (belAll D)) k = 0 := fun k hk => by
    have q1 := za k hk
    have q2 := za (k + 1) (by omega)
    have q3 := zw k hk
    have q4 := zw (k + 1) (by omega)
    unfold holeN
    omega
  obtain ⟨v, hv, hv1⟩ := h.pt h1
  have hA0 : holeN 2 A 0 = 0 := hole_empty hp hd (h.lt _ hv) ((hA v (h.lt _ hv)).2 (.inr hv)) hv1
  have hW0 : holeN 2 (chF (belAll D)) 0 = 0 := hole_empty hp hW (v := 1) (by omega) w1 (by decide)
  have hdim : (lvlTo (chF (belAll D)) 64 2).length - rk0 2 (chF (belAll D)) 2 = (lvlTo A 64 2).length - rk0 2 A 2 :=
    (Dim.iso (dim_cyc0 hp hW 2).2 (tC D) (sC D) (fun y hy => forth_cyc h hA hy) (fun z hz => back_cyc h hA hz)).uniq (by omega) (dim_cyc0 hp hd 2).2
  have h2 : holeN 2 (chF (belAll D)) 2 = holeN 2 A 2 := by
    have q1 := za 3 (by omega)
    have q2 := zw 3 (by omega)
    have q3 := r1 2
    have q4 := r2 2
    unfold holeN
    rw [q1.1, q2.1]
    omega
  have e1 := eul_holes hp hd
  have e2 := eul_holes hp hW
  rw [eul_lvl] at e1 e2
  simp only [sm, cg] at e1 e2
  rw [(za 3 (by omega)).2, (za 4 (by omega)).2, (za 5 (by omega)).2, (za 6 (by omega)).2, a0, a1, a2, (h3 3 (by omega)).1, (h3 4 (by omega)).1, (h3 5 (by omega)).1, (h3 6 (by omega)).1, hA0] at e1
  rw [(zw 3 (by omega)).2, (zw 4 (by omega)).2, (zw 5 (by omega)).2, (zw 6 (by omega)).2, w0, wl1, wl2, (h3 3 (by omega)).2, (h3 4 (by omega)).2, (h3 5 (by omega)).2, (h3 6 (by omega)).2, hW0] at e2
  simp at e1 e2
  by_cases k3 : 3 ≤ k
  · rw [(h3 k k3).1, (h3 k k3).2]
  · have : k = 0 ∨ k = 1 ∨ k = 2 := by omega
    rcases this with rfl | rfl | rfl
    · rw [hA0, hW0]
    · omega
    · exact h2
theorem po_top (h : Gr D) (h1 : 1 ≤ D.length) {A : Nat → Bool} (hA : ∀ s, s < 64 → (A s = true ↔ s = 0 ∨ s ∈ D)) : topTo (chF (belAll D)) 64 = topTo A 64 ∧ 2 ≤ topTo A 64 ∧ topTo A 64 ≤ 3 ∧ (topTo A 64 = 2 → edN D = 0) := by
  obtain ⟨v, hv, hv1⟩ := h.pt h1
  have hAv := (hA v (h.lt _ hv)).2 (.inr hv)
  have le1 : topTo A 64 ≤ topTo (chF (belAll D)) 64 := top_of fun x hx hAx => by
    rcases (hA x hx).1 hAx with q | q
    · subst q; exact ⟨1, by omega, W_pt h h1, by decide⟩
    · rcases h.one x q with r | r
      · exact ⟨1, by omega, W_pt h h1, by rw [r]; decide⟩
      · obtain ⟨l1, l2, l3, _⟩ := low_ok _ hx r
        have m1 := h.dn _ q _ l1 l2
        obtain ⟨i1, i2⟩ := h.ix q
        obtain ⟨j1, j2⟩ := h.ix m1
        have hne : D.idxOf x ≠ D.idxOf (lowP x) := fun e => by
          have e2 := congrArg (nthN D) e
          rw [i2, j2] at e2
          rw [← e2] at l3; omega
        have i6 := h.ix6 q
        have j6 := h.ix6 m1
        refine ⟨pr (D.idxOf x) (D.idxOf (lowP x)), pr_lt i6 j6, ?_, by rw [r, pr_sz _ i6 _ j6 hne]; exact Nat.le_refl _⟩
        rw [W_pair h i6 j6 hne, cmp_edge h i1 hne (by rw [i2]; exact r), i2, j2, l1]
        simp [j1]
  have le2 : topTo (chF (belAll D)) 64 ≤ topTo A 64 := top_of fun s hs hW => by
    by_cases q : sz s = 2
    · obtain ⟨i, hi, j, hj, hij, rfl⟩ := pr_ends s hs q
      rw [W_pair h hi hj hij] at hW
      have hl : i < D.length ∧ j < D.length := by
        unfold cmpB at hW
        simp only [Bool.and_eq_true, decide_eq_true_eq] at hW
        exact hW.1
      rcases cmp_one h hij hW with ⟨q1, q2⟩ | ⟨q1, q2⟩
      · exact ⟨_, h.lt _ (h.mem hl.1), (hA _ (h.lt _ (h.mem hl.1))).2 (.inr (h.mem hl.1)), by omega⟩
      · exact ⟨_, h.lt _ (h.mem hl.2), (hA _ (h.lt _ (h.mem hl.2))).2 (.inr (h.mem hl.2)), by omega⟩
    · have := W_two h hs hW
      exact ⟨v, h.lt _ hv, hAv, by omega⟩
  have e2 : topTo (fun s => s == 1) 64 = 2 := by decide +kernel
  have e3 : topTo (fun s => s == 3) 64 = 3 := by decide +kernel
  have g2 : 2 ≤ topTo A 64 := by
    rw [← e2]
    exact top_of fun x hx hx1 => ⟨v, h.lt _ hv, hAv, by
      have q : x = 1 := by simpa using hx1
      rw [q, hv1]; decide⟩
  have g3 : topTo A 64 ≤ 3 := by
    rw [← e3]
    exact top_of fun x hx hAx => ⟨3, by omega, rfl, by
      have e : sz 3 = 2 := by decide
      rw [e]
      rcases (hA x hx).1 hAx with q | q
      · subst q; decide
      · have := h.one x q; omega⟩
  refine ⟨Nat.le_antisymm le2 le1, g2, g3, fun ht => ?_⟩
  have e2 : ((lvlTo A 64 2).length : Int) = edN D := A_lvl h hA (by omega)
  have : (lvlTo A 64 2).length = 0 := by
    rw [List.length_eq_zero_iff, List.eq_nil_iff_forall_not_mem]
    intro s hs
    obtain ⟨a, b, c⟩ := mem_lvl2.1 hs
    have : topTo (fun s => s == 3) 64 ≤ topTo A 64 := top_of fun x _ hx => ⟨s, a, b, by
      have q : x = 3 := by simpa using hx
      rw [q, c]; decide⟩
    omega
  omega
theorem po_counts (h : Gr D) (h1 : 1 ≤ D.length) {A : Nat → Bool} (hA : ∀ s, s < 64 → (A s = true ↔ s = 0 ∨ s ∈ D)) : cntOf (chF (belAll D)) = chainL (cntOf A) := by
  obtain ⟨t1, t2, t3, t4⟩ := po_top h h1 hA
  have hW := dn_ch (bel_pos h.nd h.six).1
  have w0 : (lvlTo (chF (belAll D)) 64 0).length = 1 := lvl_zero (hW 1 (by omega) (W_pt h h1) 0 (by decide))
  have a1 : ((lvlTo A 64 1).length : Int) = ptN D := A_lvl h hA (by omega)
  have a2 : ((lvlTo A 64 2).length : Int) = edN D := A_lvl h hA (by omega)
  have wl1 := W_lvl1 h
  have wl2 := W_lvl2 h
  have hN := D_len h
  have hl : (cntOf A).length = topTo A 64 := cnt_len2 A
  refine nthN_ext (by rw [cnt_len2, chain_len, hl, t1]) fun k hk => ?_
  rw [cnt_len2] at hk
  rw [cnt_at hk, chain_at (by rw [hl]; omega)]
  by_cases k0 : k = 0
  · subst k0; rw [if_pos rfl, w0]
  · rw [if_neg k0]
    have hr := repTo_sm (f := cntOf A) (by omega) (k := k) (by omega)
    apply Int.ofNat.inj
    show ((lvlTo (chF (belAll D)) 64 k).length : Int) = (repTo (up (cntOf A)) k (up (cntOf A)).length : Int)
    rw [hr, hl]
    have o11 : onI 1 1 = 1 := by decide
    have o01 : onI 0 1 = 0 := by decide
    have o21 : onI 2 1 = 1 := by decide
    have o02 : onI 0 2 = 0 := by decide
    have o12 : onI 1 2 = 0 := by decide
    have o22 : onI 2 2 = 2 := by decide
    have : topTo A 64 = 2 ∨ topTo A 64 = 3 := by omega
    rcases this with ht | ht
    · have hk1 : k = 1 := by omega
      subst hk1
      have c1 : nthN (cntOf A) 1 = (lvlTo A 64 1).length := cnt_at (by omega)
      have := t4 ht
      rw [ht]
      simp only [sm, c1, o11, o01]
      omega
    · have c1 : nthN (cntOf A) 1 = (lvlTo A 64 1).length := cnt_at (by omega)
      have c2 : nthN (cntOf A) 2 = (lvlTo A 64 2).length := cnt_at (by omega)
      have : k = 1 ∨ k = 2 := by omega
      rw [ht]
      rcases this with rfl | rfl
      · simp only [sm, c1, c2, o11, o01, o21]
        omega
      · simp only [sm, c1, c2, o02, o12, o22]
        omega
end
/-- for a complex: the chains of its face order -/
theorem face_chains {l : List Nat} (hP : FaP l) :
    PosL (belAll (faceL l)) ∧ (belAll (faceL l)).length = (faceL l).length ∧ cntOf (isFace (maxL (chF (belAll (faceL l))))) = chainL (cntOf (isFace l)) ∧ holesL 2 (isFace (maxL (chF (belAll (faceL l))))) = holesL 2 (isFace l) := by
  have hG := gr_of hP.2
  have hd : Dn (isFace l) := fun t ht hAt u hu => by
    unfold isFace at hAt ⊢
    rw [List.any_eq_true] at hAt ⊢
    obtain ⟨f, hf, htf⟩ := hAt
    exact ⟨f, hf, sub_trans hu htf⟩
  have h0 : isFace l 0 = true := by
    rw [← Bool.not_eq_false]
    intro hc
    have := (faceL_none hc).2
    have h1 := hP.1
    rw [this] at h1
    simp at h1
  have hA : ∀ s, s < 64 → (isFace l s = true ↔ s = 0 ∨ s ∈ faceL l) := fun s hs => by
    unfold faceL
    rw [mem_ord]
    simp only [Bool.and_eq_true, bne_iff_ne]
    constructor
    · intro h
      by_cases e : s = 0
      · exact .inl e
      · exact .inr ⟨hs, h, e⟩
    · rintro (rfl | h)
      · exact h0
      · exact h.2.1
  have hPL := bel_pos hG.nd hG.six
  have hch : ∀ s, s < 64 → isFace (maxL (chF (belAll (faceL l)))) s = chF (belAll (faceL l)) s := fun s hs => ch_face hPL.1 hs
  refine ⟨hPL, belAll_len _, ?_, ?_⟩
  · rw [← po_counts hG hP.1 hA]
    unfold cntOf
    rw [top_congr hch]
    refine List.map_congr_left fun k _ => ?_
    unfold lvlTo
    exact filter_len_congr fun s hs => by rw [hch s (List.mem_range.1 hs)]
  · refine holesL_congr ((top_congr hch).trans (po_top hG hP.1 hA).1) fun k => ?_
    rw [← po_holes hG hP.1 hd hA k]
    have hp : Prm 2 := .inl rfl
    have hl : ∀ k, lvlTo (isFace (maxL (chF (belAll (faceL l))))) 64 k = lvlTo (chF (belAll (faceL l))) 64 k := fun k => by
      unfold lvlTo
      exact List.filter_congr fun s hs => by rw [hch s (List.mem_range.1 hs)]
    have hr : ∀ k, rk0 2 (isFace (maxL (chF (belAll (faceL l))))) k = rk0 2 (chF (belAll (faceL l))) k := fun k => by
      unfold rk0 rk
      rw [hl, hl]
    unfold holeN
    rw [hl, hr, hr]
end Go.Proofs.YtihfhfihladlcaaGreatDoor

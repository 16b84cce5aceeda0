/- Colorings: the search finds one where there is one; the counts by colours add up to the counts by size. No program is in sight. -/
import Derived.Test.YtbdnlncpamandaaColM
import Derived.Test.YtbdnlncpamandaaColor3
import Derived.Test.YtbdnlncpamandaaLong
namespace Go.Proofs.Ytbdnlncpamandaa
set_option maxRecDepth 20000

/-! ### The search -/
/-- a list of colours below k that differ along adj -/
def Good (adj : Nat → Nat → Bool) (k : Nat) (L : List Nat) : Prop := ∀ i, i < L.length → nthN L i < k ∧ ∀ j, j < i → adj i j = true → nthN L i ≠ nthN L j
theorem nthN_left {h : List Nat} {x i : Nat} (hi : i < h.length) : nthN (h ++ [x]) i = nthN h i := by
  unfold nthN; rw [List.getD_eq_getElem?_getD, List.getD_eq_getElem?_getD, List.getElem?_append_left hi]
theorem nthN_end (h : List Nat) (x : Nat) : nthN (h ++ [x]) h.length = x := by
  unfold nthN; rw [List.getD_eq_getElem?_getD, List.getElem?_append_right (Nat.le_refl _)]; simp
theorem good_snoc {adj : Nat → Nat → Bool} {k : Nat} {h : List Nat} {x : Nat} (hg : Good adj k h) (hx : x < k) (hf : freeFor adj h x = true) : Good adj k (h ++ [x]) := by
  intro i hi
  rw [List.length_append, List.length_singleton] at hi
  by_cases he : i < h.length
  · obtain ⟨h1, h2⟩ := hg i he
    refine ⟨by rw [nthN_left he]; exact h1, fun j hj ha => ?_⟩
    rw [nthN_left he, nthN_left (by omega)]
    exact h2 j hj ha
  · obtain rfl : i = h.length := by omega
    refine ⟨by rw [nthN_end]; exact hx, fun j hj ha => ?_⟩
    rw [nthN_end, nthN_left hj]
    unfold freeFor at hf
    have := List.all_eq_true.1 hf j (List.mem_range.2 hj)
    rw [ha] at this
    simp at this
    exact fun e => this e.symm
theorem cfind_sound {adj : Nat → Nat → Bool} {k : Nat} : ∀ {r : Nat} {h L : List Nat}, Good adj k h → cfind adj k r h = some L → Good adj k L := by
  intro r
  induction r with
  | zero => intro h L hg e; unfold cfind at e; injection e with e; subst e; exact hg
  | succ r ih =>
    intro h L hg e
    unfold cfind at e
    obtain ⟨x, hx, hx2⟩ := List.exists_of_findSome?_eq_some e
    split at hx2
    · rename_i hf
      exact ih (good_snoc hg (List.mem_range.1 hx) hf) hx2
    · cases hx2
theorem cfind_complete {adj : Nat → Nat → Bool} {k : Nat} (c : Nat → Nat) : ∀ {r : Nat} {h : List Nat}, (∀ i, i < h.length + r → c i < k ∧ ∀ j, j < i → adj i j = true → c i ≠ c j) → (∀ i, i < h.length → nthN h i = c i) → (cfind adj k r h).isSome = true := by
  intro r
  induction r with
  | zero => intro h _ _; rfl
  | succ r ih =>
    intro h hc hh
    obtain ⟨h1, h2⟩ := hc h.length (by omega)
    have hf : freeFor adj h (c h.length) = true := by
      unfold freeFor
      rw [List.all_eq_true]
      intro j hj
      rw [List.mem_range] at hj
      rw [hh j hj]
      cases ha : adj h.length j
      · rfl
      · have := h2 j hj ha
        simp
        exact fun e => this e.symm
    have h3 := ih (h := h ++ [c h.length]) (fun i hi => hc i (by rw [List.length_append, List.length_singleton] at hi; omega)) (fun i hi => by
      rw [List.length_append, List.length_singleton] at hi
      by_cases he : i < h.length
      · rw [nthN_left he]; exact hh i he
      · obtain rfl : i = h.length := by omega
        exact nthN_end _ _)
    unfold cfind
    rw [List.findSome?_isSome_iff]
    exact ⟨c h.length, List.mem_range.2 h1, by rw [if_pos hf]; exact h3⟩
theorem cfind_mono {adj : Nat → Nat → Bool} {k k' m : Nat} (hk : k ≤ k') (h : (cfind adj k m []).isSome = true) : (cfind adj k' m []).isSome = true := by
  obtain ⟨L, hL⟩ := Option.isSome_iff_exists.1 h
  have hg := cfind_sound (h := []) (fun i hi => by simp at hi) hL
  have hl := cfind_len hL
  refine cfind_complete (nthN L) (fun i hi => ?_) (fun i hi => by simp at hi)
  obtain ⟨h1, h2⟩ := hg i (by rw [hl]; simpa using hi)
  exact ⟨by omega, h2⟩
theorem cfind_all {adj : Nat → Nat → Bool} {k m : Nat} (hk : m ≤ k) : (cfind adj k m []).isSome = true :=
  cfind_complete id (fun i hi => ⟨by simp at hi; simp; omega, fun j hj _ => by simp; omega⟩) (fun i hi => by simp at hi)
theorem least_le {f : Nat → Bool} (h6 : f 6 = true) (hm : ∀ j k, j ≤ k → f j = true → f k = true) {k : Nat} (h1 : 1 ≤ k) : f k = decide (leastN f ≤ k) := by
  have : ∃ K, 1 ≤ K ∧ K ≤ 6 ∧ f K = true ∧ ∀ j, 1 ≤ j → j < K → f j = false := by
    have : ∀ n, n ≤ 6 → (∃ K, 1 ≤ K ∧ K ≤ n ∧ f K = true ∧ ∀ j, 1 ≤ j → j < K → f j = false) ∨ ∀ j, 1 ≤ j → j ≤ n → f j = false := by
      intro n
      induction n with
      | zero => intro _; exact .inr fun j h1 h2 => by omega
      | succ n ih =>
        intro hn
        rcases ih (by omega) with ⟨K, a, b, c, d⟩ | h
        · exact .inl ⟨K, a, by omega, c, d⟩
        · cases hf : f (n + 1)
          · exact .inr fun j h1 h2 => by
              by_cases e : j = n + 1
              · rw [e]; exact hf
              · exact h j h1 (by omega)
          · exact .inl ⟨n + 1, by omega, Nat.le_refl _, hf, fun j h1 h2 => h j h1 (by omega)⟩
    rcases this 6 (Nat.le_refl _) with h | h
    · exact h
    · rw [h 6 (by omega) (Nat.le_refl _)] at h6; cases h6
  obtain ⟨K, hK1, hK6, hf, h0⟩ := this
  rw [least_at h0 hK1 hK6 hf]
  by_cases h : K ≤ k
  · rw [hm K k h hf]; simp [h]
  · rw [h0 k h1 (by omega)]; simp; omega
theorem colQ_found {l : List Nat} {m k : Nat} {L : List Nat} (hk : k ≤ 6) (h : cfind (adjB l) k m [] = some L) : ColQ l m (up L) := by
  have hg := cfind_sound (h := []) (fun i hi => by simp at hi) h
  have hl := cfind_len h
  simp at hl
  refine ⟨⟨by rw [up_len, hl], fun i hi => ?_⟩, fun i hi j hj he => ?_⟩
  · rw [up_len] at hi
    have := (hg i hi).1
    rw [nth_up]; omega
  · rw [up_len] at hi
    rw [nth_up, nth_up] at he
    cases ha : adjB l i j
    · rfl
    · exact absurd (by omega) ((hg i hi).2 j hj ha)

/-! ### The counts by colours -/
theorem filter_sm (q : Nat → Bool) (n : Nat) : (((List.range n).filter q).length : Int) = sm (fun s => if q s then 1 else 0) n := by
  induction n with
  | zero => rfl
  | succ n ih =>
    rw [List.range_succ, List.filter_append, List.length_append, Int.natCast_add, ih, sm]
    cases h : q n <;> simp [h]
theorem rcTo_bit {cs : List Int} {s c : Nat} (hc : ∀ i, i < cs.length → 0 ≤ nth cs i) : ∀ k, k ≤ cs.length → ((rcTo cs s k).testBit c = true ↔ ∃ i, i < k ∧ s.testBit i = true ∧ nth cs i = c) := by
  intro k
  induction k with
  | zero => intro _; simp [rcTo]
  | succ k ih =>
    intro hk
    have h0 := hc k (by omega)
    cases hb : s.testBit k
    · rw [rcTo_no hb, ih (by omega)]
      constructor
      · rintro ⟨i, h1, h2, h3⟩; exact ⟨i, by omega, h2, h3⟩
      · rintro ⟨i, h1, h2, h3⟩
        by_cases e : i = k
        · subst e; rw [hb] at h2; cases h2
        · exact ⟨i, by omega, h2, h3⟩
    · rw [rcTo_yes hb, Nat.testBit_or, Bool.or_eq_true, ih (by omega), Nat.testBit_two_pow]
      constructor
      · rintro (⟨i, h1, h2, h3⟩ | h)
        · exact ⟨i, by omega, h2, h3⟩
        · simp at h; exact ⟨k, by omega, hb, by omega⟩
      · rintro ⟨i, h1, h2, h3⟩
        by_cases e : i = k
        · subst e; right; simp; omega
        · left; exact ⟨i, by omega, h2, h3⟩
theorem sz_or_bit : ∀ a, a < 64 → ∀ c, c < 6 → a.testBit c = false → sz (a ||| 2 ^ c) = sz a + 1 := by decide +kernel
theorem sz_mod : ∀ s, s < 64 → ∀ k, k < 6 → sz (s % 2 ^ (k + 1)) = sz (s % 2 ^ k) + (if s.testBit k then 1 else 0) := by decide +kernel
theorem sz_rc {cs : List Int} {s : Nat} (hs : s < 64) (hl : cs.length ≤ 6) (hc : ∀ i, i < cs.length → 0 ≤ nth cs i ∧ nth cs i ≤ 5) (hd : ∀ i, i < cs.length → ∀ j, j < i → s.testBit i = true → s.testBit j = true → nth cs i ≠ nth cs j) :
    ∀ k, k ≤ cs.length → sz (rcTo cs s k) = sz (s % 2 ^ k) := by
  intro k
  induction k with
  | zero => intro _; simp [rcTo, Nat.mod_one]
  | succ k ih =>
    intro hk
    rw [sz_mod s hs k (by omega), ← ih (by omega)]
    cases hb : s.testBit k
    · rw [rcTo_no hb]; simp
    · rw [rcTo_yes hb]
      have hck := hc k (by omega)
      rw [sz_or_bit _ (rcTo_lt hc s k (by omega)) _ (by omega) ?_]
      · simp
      · rw [Bool.eq_false_iff]
        intro ht
        obtain ⟨i, h1, h2, h3⟩ := (rcTo_bit (fun i hi => (hc i hi).1) k (by omega)).1 ht
        exact hd k (by omega) i h1 hb h2 (by rw [h3]; omega)
theorem face_sub {l : List Nat} {s t : Nat} (h : isFace l s = true) (hst : sub t s = true) : isFace l t = true := by
  unfold isFace at *
  obtain ⟨u, hu, hs⟩ := List.any_eq_true.1 h
  exact List.any_eq_true.2 ⟨u, hu, sub_trans hst hs⟩
theorem sz_rcOf {l : List Nat} {m : Nat} {cs : List Int} (hm : m ≤ 6) (hQ : ColQ l m cs) (hl : ∀ t ∈ l, t < 2 ^ m) {s : Nat} (hs : s < 64) (hf : isFace l s = true) : sz (rcOf cs s) = sz s := by
  obtain ⟨⟨hlen, hc⟩, hadj⟩ := hQ
  unfold rcOf
  rw [sz_rc hs (by omega) hc (fun i hi j hj hi2 hj2 he => by
    have h1 := hadj i hi j hj he
    have h2 : adjB l i j = true := face_sub hf (pr_sub.2 ⟨hi2, hj2⟩)
    rw [h1] at h2; cases h2) _ (Nat.le_refl _), hlen]
  have hlt : s < 2 ^ m := by
    unfold isFace at hf
    obtain ⟨t, ht, hst⟩ := List.any_eq_true.1 hf
    exact Nat.lt_of_le_of_lt (sub_le hst) (hl t ht)
  rw [Nat.mod_eq_of_lt hlt]
/-- the numbers of a row of 64, those of size i added up below S -/
def szSum (g : Nat → Int) (i S : Nat) : Int := sm (fun s => if sz s = i then g s else 0) S
theorem colC_sm (l : List Nat) (cs : List Int) {t : Nat} (ht : t < 64) : (nthN (colC l cs) t : Int) = sm (fun s => if isFace l s && rcOf cs s == t then 1 else 0) 64 := by
  unfold colC
  rw [tly_at ht]
  have e : ((ord (isFace l)).filter fun s => rcOf cs s == t).length = ((List.range 64).filter fun s => isFace l s && rcOf cs s == t).length := by
    apply List.Perm.length_eq
    rw [List.perm_ext_iff_of_nodup ((ord_sorted _).imp (fun h e => by subst e; omega) |>.filter _) (List.nodup_range.filter _)]
    intro s
    simp only [List.mem_filter, mem_ord, List.mem_range, Bool.and_eq_true]
    exact ⟨fun ⟨⟨a, b⟩, c⟩ => ⟨a, b, c⟩, fun ⟨a, b, c⟩ => ⟨⟨a, b⟩, c⟩⟩
  rw [e, filter_sm]
/-- a sum over the marks is a sum over the faces -/
theorem colC_sum {l : List Nat} {cs : List Int} (hlt : ∀ s, s < 64 → isFace l s = true → rcOf cs s < 64) (g : Nat → Int) :
    sm (fun t => (nthN (colC l cs) t : Int) * g t) 64 = sm (fun s => if isFace l s then g (rcOf cs s) else 0) 64 := by
  have h1 : sm (fun t => (nthN (colC l cs) t : Int) * g t) 64 = sm (fun t => sm (fun s => (if isFace l s && rcOf cs s == t then 1 else 0) * g t) 64) 64 := sm_congr _ fun t ht => by
    rw [colC_sm l cs ht, ← sm_mulr]
  rw [h1, sm_swap]
  refine sm_congr _ fun s hs => ?_
  cases hf : isFace l s
  · rw [show (fun i => (if (false && rcOf cs s == i) = true then (1 : Int) else 0) * g i) = fun _ => 0 from funext fun i => by simp]
    exact sm_zero _
  · have h2 : sm (fun i => (if (true && rcOf cs s == i) = true then (1 : Int) else 0) * g i) 64 = sm (fun i => if i = rcOf cs s then g (rcOf cs s) else 0) 64 := sm_congr _ fun i _ => by
      by_cases e : i = rcOf cs s
      · subst e; simp
      · have : (rcOf cs s == i) = false := by rw [beq_eq_false_iff_ne]; exact fun h => e h.symm
        simp [this, e]
    rw [h2, sm_single, if_pos (hlt s hs hf)]; rfl
theorem colC_size {l : List Nat} {m : Nat} {cs : List Int} (hm : m ≤ 6) (hQ : ColQ l m cs) (hl : ∀ t ∈ l, t < 2 ^ m) (g : Nat → Int) :
    sm (fun t => (nthN (colC l cs) t : Int) * g (sz t)) 64 = sm (fun a => (nthN (cntOf (isFace l)) a : Int) * g a) (cntOf (isFace l)).length := by
  have hc := hQ.1.2
  rw [colC_sum (fun s hs _ => rcTo_lt hc s _ (Nat.le_refl _)) (fun t => g (sz t)), ← sm_faces]
  refine sm_congr _ fun s hs => ?_
  cases hf : isFace l s
  · simp
  · simp only [if_true]
    rw [sz_rcOf hm hQ hl hs hf]
theorem sums_are {l : List Nat} {m : Nat} {cs : List Int} (hm : m ≤ 6) (hQ : ColQ l m cs) (hl : ∀ t ∈ l, t < 2 ^ m) (i : Nat) :
    szSum (nth (up (colC l cs))) i 64 = nth (up (cntOf (isFace l))) i := by
  have h := colC_size hm hQ hl (fun a => if a = i then 1 else 0)
  unfold szSum
  rw [show sm (fun s => if sz s = i then nth (up (colC l cs)) s else 0) 64 = sm (fun t => (nthN (colC l cs) t : Int) * (if sz t = i then 1 else 0)) 64 from sm_congr _ fun s _ => by
    rw [nth_up]; by_cases e : sz s = i <;> simp [e]]
  rw [h]
  rw [show sm (fun a => (nthN (cntOf (isFace l)) a : Int) * (if a = i then 1 else 0)) (cntOf (isFace l)).length = sm (fun a => if a = i then (nthN (cntOf (isFace l)) i : Int) else 0) (cntOf (isFace l)).length from sm_congr _ fun a _ => by
    by_cases e : a = i
    · subst e; simp
    · simp [e]]
  rw [sm_single, nth_up]
  by_cases hi : i < (cntOf (isFace l)).length
  · rw [if_pos hi]
  · rw [if_neg hi]
    have : nthN (cntOf (isFace l)) i = 0 := by unfold nthN; rw [List.getD_eq_getElem?_getD, List.getElem?_eq_none (by omega)]; rfl
    rw [this]; rfl
/-! ### The fine h numbers -/
/-- the sign of a number of points -/
def sg (q : Nat) : Int := if q % 2 = 1 then -1 else 1
def fineOk (U t i : Nat) : Bool := !(sub t U) || sm (fun s => if sub t s && sub s U && sz s == i then sg (sz (sdiff s t)) else 0) 64 == cL (sz U) (sz t) i
theorem fine_all : ((List.range 64).all fun U => (List.range 64).all fun t => (List.range 7).all fun i => fineOk U t i) = true := by decide +kernel
theorem fine_one {U t i : Nat} (hU : U < 64) (ht : t < 64) (hi : i < 7) (hs : sub t U = true) : sm (fun s => if sub t s && sub s U && sz s == i then sg (sz (sdiff s t)) else 0) 64 = cL (sz U) (sz t) i := by
  have := List.all_eq_true.1 (List.all_eq_true.1 (List.all_eq_true.1 fine_all U (List.mem_range.2 hU)) t (List.mem_range.2 ht)) i (List.mem_range.2 hi)
  unfold fineOk at this
  rw [hs] at this
  simpa using this
/-- the numbers of the subsets of U of size i, added up below S -/
def fineSum (h : Nat → Int) (U i S : Nat) : Int := sm (fun s => if sub s U && sz s == i then h s else 0) S
theorem alt_sg (f : List Nat) (s t : Nat) : alt f s t = (nthN f t : Int) * sg (sz (sdiff s t)) := by
  unfold alt sg; split
  · rw [Int.mul_neg, Int.mul_one]
  · rw [Int.mul_one]
theorem altSum_low (f : List Nat) (s : Nat) : ∀ k, altSum f s (lowTo s k) = sm (fun t => if sub t s then (nthN f t : Int) * sg (sz (sdiff s t)) else 0) k := by
  intro k
  induction k with
  | zero => rfl
  | succ k ih =>
    rw [sm, ← ih]
    cases h : sub k s
    · rw [lowTo_no h]; simp
    · rw [lowTo_yes h, altSum_snoc, alt_sg]; simp
theorem nth_chTo (f : List Nat) {s : Nat} (hs : s < 64) : nth (chTo f 64) s = sm (fun t => if sub t s then (nthN f t : Int) * sg (sz (sdiff s t)) else 0) 64 := by
  have e : nth (chTo f 64) s = altSum f s (lowTo s (s + 1)) := by
    rw [nth_eq (by rw [chTo_len]; exact hs)]
    simp [chTo]
  rw [e, altSum_low]
  symm
  exact sm_more _ _ _ (fun t ht => by
    have : sub t s = false := by
      rw [Bool.eq_false_iff]; intro h; have := sub_le h; omega
    rw [this]; simp) (by omega)
/-- the colours used, of the first points -/
def useTo (cs : List Int) : Nat → Nat
  | 0 => 0
  | k + 1 => useTo cs k ||| 2 ^ (nth cs k).toNat
theorem use_rc {cs : List Int} : ∀ k, k ≤ 6 → useTo cs k = rcTo cs 63 k := by
  intro k
  induction k with
  | zero => intro _; rfl
  | succ k ih =>
    intro hk
    have : (63 : Nat).testBit k = true := by
      have : ∀ k, k < 6 → (63 : Nat).testBit k = true := by decide
      exact this k (by omega)
    rw [rcTo_yes this, useTo, ih (by omega)]
theorem rc_used {cs : List Int} (hl : cs.length ≤ 6) (hc : ∀ i, i < cs.length → 0 ≤ nth cs i ∧ nth cs i ≤ 5) (s : Nat) : sub (rcOf cs s) (useTo cs cs.length) = true := by
  rw [use_rc _ hl, sub_iff]
  intro c h
  unfold rcOf at h
  rw [rcTo_bit (fun i hi => (hc i hi).1) _ (Nat.le_refl _)] at h ⊢
  obtain ⟨i, h1, _, h3⟩ := h
  refine ⟨i, h1, ?_, h3⟩
  have : ∀ k, k < 6 → (63 : Nat).testBit k = true := by decide
  exact this i (by omega)
theorem colC_out {l : List Nat} {cs : List Int} (hl : cs.length ≤ 6) (hc : ∀ i, i < cs.length → 0 ≤ nth cs i ∧ nth cs i ≤ 5) {t : Nat} (ht : t < 64) (h : sub t (useTo cs cs.length) = false) : nthN (colC l cs) t = 0 := by
  unfold colC
  rw [tly_at ht, List.length_eq_zero_iff, List.filter_eq_nil_iff]
  intro s _ he
  rw [beq_iff_eq] at he
  have := rc_used hl hc s
  rw [he, h] at this; cases this
theorem fine_are {l : List Nat} {m : Nat} {cs : List Int} (hm : m ≤ 6) (hQ : ColQ l m cs) (hl : ∀ t ∈ l, t < 2 ^ m) (hU : sz (useTo cs cs.length) = (cntOf (isFace l)).length - 1) {i : Nat} (hi : i < 7) :
    fineSum (nth (chTo (colC l cs) 64)) (useTo cs cs.length) i 64 = nth (hOf (cntOf (isFace l))) i := by
  obtain ⟨U, hUe⟩ : ∃ U, U = useTo cs cs.length := ⟨_, rfl⟩
  have hlen : cs.length ≤ 6 := by rw [hQ.1.1]; exact hm
  have hU64 : U < 64 := by rw [hUe, use_rc _ hlen]; exact rcTo_lt hQ.1.2 _ _ (Nat.le_refl _)
  rw [← hUe] at hU
  rw [← hUe]
  unfold fineSum
  have h1 : sm (fun s => if sub s U && sz s == i then nth (chTo (colC l cs) 64) s else 0) 64 = sm (fun s => sm (fun t => (nthN (colC l cs) t : Int) * (if sub t s && sub s U && sz s == i then sg (sz (sdiff s t)) else 0)) 64) 64 := sm_congr _ fun s hs => by
    cases hc : (sub s U && sz s == i)
    · rw [show (fun t => (nthN (colC l cs) t : Int) * (if sub t s && sub s U && sz s == i then sg (sz (sdiff s t)) else 0)) = fun _ => 0 from funext fun t => by
        rw [Bool.and_assoc, hc]; simp]
      exact (sm_zero _).symm
    · rw [if_pos rfl, nth_chTo _ hs]
      refine sm_congr _ fun t _ => ?_
      rw [Bool.and_assoc, hc]
      cases sub t s <;> simp
  rw [h1, sm_swap]
  have h2 : sm (fun t => sm (fun s => (nthN (colC l cs) t : Int) * (if sub t s && sub s U && sz s == i then sg (sz (sdiff s t)) else 0)) 64) 64 = sm (fun t => (nthN (colC l cs) t : Int) * cL (sz U) (sz t) i) 64 := sm_congr _ fun t ht => by
    rw [sm_mul]
    cases hs : sub t U
    · rw [colC_out hlen hQ.1.2 ht (by rw [← hUe]; exact hs)]; simp
    · rw [fine_one hU64 ht hi hs]
  rw [h2, colC_size hm hQ hl (fun a => cL (sz U) a i), nth_hOf, hU]

/-! ### The row of seven sums while it is filled -/
def szRow (g : Nat → Int) (S : Nat) : List Int := (List.range 7).map fun i => szSum g i S
theorem szRow_zero (g : Nat → Int) : szRow g 0 = List.replicate 7 0 := rfl
theorem szRow_len (g : Nat → Int) (S : Nat) : (szRow g S).length = 7 := by simp [szRow]
theorem szRow_at (g : Nat → Int) (S : Nat) {i : Nat} (hi : i < 7) : nth (szRow g S) i = szSum g i S := by
  rw [nth_eq (by rw [szRow_len]; exact hi)]; simp [szRow]
theorem szRow_succ (g : Nat → Int) (S : Nat) : (szRow g S).set (sz S) (szSum g (sz S) S + g S) = szRow g (S + 1) := by
  apply List.ext_getElem
  · rw [List.length_set, szRow_len, szRow_len]
  · intro i h1 h2
    rw [List.getElem_set]
    simp only [szRow, List.getElem_map, List.getElem_range]
    by_cases e : sz S = i
    · subst e; rw [if_pos rfl]; unfold szSum; rw [sm, if_pos rfl]
    · rw [if_neg e]; unfold szSum; rw [sm, if_neg e, Int.add_zero]
theorem szSum_bd {g : Nat → Int} {B : Int} (hB : 0 ≤ B) (h : ∀ s, -B ≤ g s ∧ g s ≤ B) (i : Nat) : ∀ S : Nat, -(S * B) ≤ szSum g i S ∧ szSum g i S ≤ S * B := by
  intro S
  induction S with
  | zero => simp [szSum, sm]
  | succ S ih =>
    have := h S
    have e : ((S + 1 : Nat) : Int) * B = S * B + B := by rw [Int.natCast_add, Int.add_mul]; simp
    unfold szSum at ih ⊢
    rw [sm, e]
    split <;> omega
/-- the numbers of the subsets of U alone -/
def onU (h : Nat → Int) (U s : Nat) : Int := if sub s U then h s else 0
theorem fine_onU (h : Nat → Int) (U i S : Nat) : szSum (onU h U) i S = fineSum h U i S := by
  unfold szSum fineSum onU
  refine sm_congr _ fun s _ => ?_
  cases sub s U <;> by_cases e : sz s = i <;> simp [e]
theorem szRow_skip {h : Nat → Int} {U S : Nat} (hs : sub S U = false) : szRow (onU h U) (S + 1) = szRow (onU h U) S := by
  unfold szRow
  refine List.map_congr_left fun i _ => ?_
  unfold szSum
  rw [sm]
  unfold onU
  rw [hs]
  split <;> simp
theorem colC_bd (l : List Nat) (cs : List Int) : ∀ s, (-64 : Int) ≤ nth (up (colC l cs)) s ∧ nth (up (colC l cs)) s ≤ 64 := fun s => by
  rw [nth_up]
  have : nthN (colC l cs) s ≤ 64 := tly_le (ord_len _) s
  omega
theorem chTo_bd (l : List Nat) (cs : List Int) : ∀ s, (-4096 : Int) ≤ nth (chTo (colC l cs) 64) s ∧ nth (chTo (colC l cs) 64) s ≤ 4096 := fun s => by
  by_cases hs : s < 64
  · have e : nth (chTo (colC l cs) 64) s = altSum (colC l cs) s (lowTo s (s + 1)) := by
      rw [nth_eq (by rw [chTo_len]; exact hs)]
      simp [chTo]
    rw [e]
    have h1 := altSum_bd (f := colC l cs) (fun k => tly_le (ord_len _) k) s (lowTo s (s + 1))
    have h2 := lowTo_len s (s + 1)
    omega
  · have e : nth (chTo (colC l cs) 64) s = 0 := by
      unfold nth; rw [List.getD_eq_getElem?_getD, List.getElem?_eq_none (by rw [chTo_len]; omega)]; rfl
    rw [e]; omega
theorem onU_bd {h : Nat → Int} {B : Int} (hB : 0 ≤ B) (hh : ∀ s, -B ≤ h s ∧ h s ≤ B) (U : Nat) : ∀ s, -B ≤ onU h U s ∧ onU h U s ≤ B := fun s => by
  have := hh s
  unfold onU; split <;> omega
theorem useTo_lt {cs : List Int} (hc : ∀ i, i < cs.length → 0 ≤ nth cs i ∧ nth cs i ≤ 5) : ∀ k, k ≤ cs.length → useTo cs k < 64 := by
  intro k
  induction k with
  | zero => intro _; simp [useTo]
  | succ k ih => intro hk; rw [useTo]; exact or_lt64 (ih (by omega)) (bit_lt64 (by have := hc k (by omega); omega))
end Go.Proofs.Ytbdnlncpamandaa

/- Texts of this claim, one behind the other: what each says stands at its head. -/
import Derived.Test.YtihfhfihladlcaaGreatDoorChain2
import Derived.Test.YtihfhfihladlcaaGreatDoorCounts3
import Derived.Test.YtihfhfihladlcaaGreatDoorHoles
import Derived.Test.YtihfhfihladlcaaGreatDoorPure
/- The subdivision at a face: its family, its holes, its size and purity. Plain. -/
namespace Go.Proofs.YtihfhfihladlcaaGreatDoor
set_option maxRecDepth 20000
set_option linter.unusedSimpArgs false
set_option linter.unusedVariables false

/-- the cone over the closed star of s, with the complex -/
def conB (l : List Nat) (s m x : Nat) : Bool := isFace l x || (x.testBit m && isFace l ((x ^^^ 2 ^ m) ||| s))
section
variable {l : List Nat} {s m : Nat}
structure DivH (l : List Nat) (s m : Nat) : Prop where
  m5 : m ≤ 5
  lt : ∀ f ∈ l, f < 2 ^ m
  s0 : s ≠ 0
  fs : isFace l s = true
theorem DivH.face (h : DivH l s m) {x : Nat} (hx : isFace l x = true) : x < 2 ^ m := by
  obtain ⟨f, hf, h2⟩ := isFace_iff.1 hx
  exact sub_lt h2 (h.lt f hf)
theorem bit_none {x m j : Nat} (hx : x < 2 ^ m) (hj : m ≤ j) : x.testBit j = false := Nat.testBit_lt_two_pow (Nat.lt_of_lt_of_le hx (Nat.pow_le_pow_right (by omega) hj))
theorem pow64 {m : Nat} (h : m ≤ 5) : 2 ^ m < 64 := Nat.lt_of_le_of_lt (Nat.pow_le_pow_right (n := 2) (by omega) h) (by omega)
theorem DivH.sV (h : DivH l s m) : s < 2 ^ m := h.face h.fs
/-- the subdivision's family: of the cone what does not hold s -/
theorem div_con (h : DivH l s m) {x : Nat} (hx : x < 64) : divFam l s (2 ^ m) x = (conB l s m x && !sub s x) := by
  have hV := pow64 h.m5
  have hs64 : s < 64 := by have := h.sV; omega
  have hsm : s.testBit m = false := bit_none h.sV (Nat.le_refl _)
  rw [Bool.eq_iff_iff]
  unfold divFam conB
  simp only [Bool.or_eq_true, Bool.and_eq_true, Bool.not_eq_true', List.any_eq_true]
  constructor
  · rintro (⟨h1, h2⟩ | ⟨b, hb, a, ha, h3, h4⟩)
    · exact ⟨.inl h1, h2⟩
    · have hb := (mem_ord.1 hb).2
      have ha := (mem_ord.1 ha).2
      unfold linkB at hb
      rw [Bool.and_eq_true, beq_iff_eq] at hb
      rw [bne_iff_ne] at h3
      rw [beq_iff_eq] at h4
      have hbf := isFace_dn hb.2 (sub_or_left b s)
      have hbm : b.testBit m = false := bit_none (h.face hbf) (Nat.le_refl _)
      have ham : a.testBit m = false := by
        cases e : a.testBit m with
        | false => rfl
        | true => have := sub_iff.1 ha m e; rw [hsm] at this; cases this
      have hxb : ∀ q, x.testBit q = ((decide (m = q) || a.testBit q) || b.testBit q) := fun q => by
        rw [h4, Nat.testBit_or, Nat.testBit_or, Nat.testBit_two_pow]
      refine ⟨.inr ⟨by rw [hxb]; simp, isFace_dn hb.2 (sub_iff.2 fun q hq => ?_)⟩, ?_⟩
      · rw [Nat.testBit_or, xor_bit, hxb] at hq
        rw [Nat.testBit_or]
        by_cases e : m = q
        · subst e; simp [ham, hbm] at hq; simp [hq]
        · simp [e] at hq
          rcases hq with (hq | hq) | hq
          · have := sub_iff.1 ha q hq; simp [this]
          · simp [hq]
          · simp [hq]
      · cases e : sub s x with
        | false => rfl
        | true =>
          exfalso
          apply h3
          refine sub_antisymm ha (sub_iff.2 fun q hq => ?_)
          have := sub_iff.1 e q hq
          rw [hxb] at this
          have hmq : ¬ m = q := fun e => by subst e; rw [hsm] at hq; cases hq
          have hbq : b.testBit q = false := by
            cases e2 : b.testBit q with
            | false => rfl
            | true => have := disj_bit hb.1 q e2; rw [hq] at this; cases this
          simpa [hmq, hbq] using this
  · rintro ⟨h1 | ⟨h1, h2⟩, h3⟩
    · exact .inl ⟨h1, h3⟩
    · right
      have hu64 : x ^^^ 2 ^ m < 64 := (bitB x hx m (by have := h.m5; omega) h1).1
      refine ⟨sdiff (x ^^^ 2 ^ m) s, mem_ord.2 ⟨sdiff_lt hu64, ?_⟩, (x ^^^ 2 ^ m) &&& s, mem_ord.2 ⟨Nat.lt_of_le_of_lt Nat.and_le_right hs64, ?_⟩, ?_, ?_⟩
      · unfold linkB
        rw [Bool.and_eq_true, beq_iff_eq]
        refine ⟨disj_of fun q hq => ?_, isFace_dn h2 (sub_iff.2 fun q hq => ?_)⟩
        · rw [sdiff_testBit hu64 hs64] at hq; simp at hq; exact hq.2
        · rw [Nat.testBit_or, sdiff_testBit hu64 hs64] at hq
          rw [Nat.testBit_or]
          simp at hq
          rcases hq with hq | hq
          · simp [hq.1]
          · simp [hq]
      · exact sub_iff.2 fun q hq => by rw [Nat.testBit_and] at hq; simp at hq; exact hq.2
      · rw [bne_iff_ne]
        intro e
        have : sub s x = true := sub_iff.2 fun q hq => by
          have hq2 : ((x ^^^ 2 ^ m) &&& s).testBit q = true := by rw [e]; exact hq
          rw [Nat.testBit_and, xor_bit] at hq2
          have hmq : ¬ m = q := fun e => by subst e; rw [hsm] at hq; cases hq
          simp [hmq] at hq2
          exact hq2.1
        rw [h3] at this; cases this
      · rw [beq_iff_eq]
        apply Nat.eq_of_testBit_eq
        intro q
        rw [Nat.testBit_or, Nat.testBit_or, Nat.testBit_and, sdiff_testBit hu64 hs64, xor_bit, Nat.testBit_two_pow]
        by_cases e : m = q
        · subst e; simp [h1]
        · simp [e]
          cases x.testBit q <;> cases s.testBit q <;> rfl
theorem dn_con : Dn (conB l s m) := fun x hx hc y hy => by
  unfold conB at *
  rw [Bool.or_eq_true, Bool.and_eq_true] at *
  rcases hc with hc | ⟨h1, h2⟩
  · exact .inl (isFace_dn hc hy)
  · cases e : y.testBit m with
    | true =>
      refine .inr ⟨rfl, isFace_dn h2 (sub_iff.2 fun q hq => ?_)⟩
      rw [Nat.testBit_or, xor_bit] at *
      by_cases eq : m = q
      · subst eq; simp [e] at hq; simp [hq]
      · simp [eq] at hq ⊢
        exact hq.elim (fun hq => .inl (sub_iff.1 hy q hq)) .inr
    | false =>
      refine .inl (isFace_dn (isFace_dn h2 (sub_or_left _ s)) (sub_iff.2 fun q hq => ?_))
      rw [xor_bit, sub_iff.1 hy q hq]
      have : ¬ m = q := fun e2 => by subst e2; rw [e] at hq; cases hq
      simp [this]
theorem dn_div (h : DivH l s m) : Dn (divFam l s (2 ^ m)) := fun x hx hc y hy => by
  rw [div_con h hx] at hc
  rw [div_con h (sub_lt64 hy hx)]
  rw [Bool.and_eq_true, Bool.not_eq_true'] at *
  refine ⟨dn_con x hx hc.1 y hy, ?_⟩
  cases e : sub s y with
  | false => rfl
  | true => have := sub_trans e hy; rw [hc.2] at this; cases this
theorem div_holes {p : Nat} (hp : Prm p) (h : DivH l s m) (k : Nat) : holeN p (divFam l s (2 ^ m)) k = holeN p (isFace l) k := by
  have hV := pow64 h.m5
  have hs64 : s < 64 := by have := h.sV; omega
  have hm6 : m < 6 := by have := h.m5; omega
  have hsm : s.testBit m = false := bit_none h.sV (Nat.le_refl _)
  obtain ⟨i, hi⟩ := some_bit h.s0
  have hi6 := bit_six hs64 hi
  have him : ¬ i = m := fun e => by subst e; rw [hsm] at hi; cases hi
  have hmi : ¬ m = i := fun e => him e.symm
  rw [← holes_pairs hp (W := conB l s m) (A := isFace l) (fun x _ hx => by unfold conB; rw [hx]; rfl) dn_con (fun x _ hx y hy => isFace_dn hx hy) hi6 (fun x hx hW hA => ?_) k]
  · refine (holes_pairs hp (W := conB l s m) (A := divFam l s (2 ^ m)) (fun x hx hd => ?_) dn_con (dn_div h) hm6 (fun x hx hW hA => ?_) k).symm
    · rw [div_con h hx, Bool.and_eq_true] at hd; exact hd.1
    · rw [div_con h hx, hW, Bool.true_and, Bool.not_eq_false'] at hA
      have hy64 : x ^^^ 2 ^ m < 64 := Nat.xor_lt_two_pow (n := 6) hx hV
      have hs2 : sub s (x ^^^ 2 ^ m) = true := sub_iff.2 fun q hq => by
        rw [xor_bit, sub_iff.1 hA q hq]
        have : ¬ m = q := fun e => by subst e; rw [hsm] at hq; cases hq
        simp [this]
      refine ⟨?_, by rw [div_con h hy64, hs2]; simp⟩
      unfold conB at *
      rw [Bool.or_eq_true, Bool.and_eq_true] at *
      rcases hW with hW | ⟨h1, h2⟩
      · right
        have hxm : x.testBit m = false := bit_none (h.face hW) (Nat.le_refl _)
        refine ⟨by rw [xor_bit, hxm]; simp, isFace_dn hW (sub_iff.2 fun q hq => ?_)⟩
        rw [Nat.testBit_or, xor_bit, xor_bit] at hq
        by_cases e : m = q
        · subst e; simp [hxm, hsm] at hq
        · simp [e] at hq
          exact hq.elim id (sub_iff.1 hA q)
      · exact .inl (isFace_dn h2 (sub_or_left _ s))
  · unfold conB at hW
    rw [hA, Bool.false_or, Bool.and_eq_true] at hW
    have hxm : (x ^^^ 2 ^ i).testBit m = true := by rw [xor_bit, hW.1]; simp [him]
    refine ⟨?_, ?_⟩
    · unfold conB
      rw [Bool.or_eq_true, Bool.and_eq_true]
      refine .inr ⟨hxm, isFace_dn hW.2 (sub_iff.2 fun q hq => ?_)⟩
      rw [Nat.testBit_or, xor_bit, xor_bit] at *
      by_cases e : i = q
      · subst e; rw [hi]; simp
      · simpa [e] using hq
    · cases e : isFace l (x ^^^ 2 ^ i) with
      | false => rfl
      | true => have := bit_none (h.face e) (Nat.le_refl m); rw [hxm] at this; cases this
/-- sizes -/
theorem top_of {A B : Nat → Bool} (h : ∀ x, x < 64 → A x = true → ∃ y, y < 64 ∧ B y = true ∧ sz x ≤ sz y) : topTo A 64 ≤ topTo B 64 := by
  have aux : ∀ k, k ≤ 64 → topTo A k ≤ topTo B 64 := by
    intro k
    induction k with
    | zero => intro _; unfold topTo; simp
    | succ k ih =>
      intro hk
      rw [topTo_succ]
      by_cases e : (A k && decide (topTo A k ≤ sz k)) = true
      · rw [if_pos e]
        rw [Bool.and_eq_true] at e
        obtain ⟨y, hy, hB, hs⟩ := h k (by omega) e.1
        have := topTo_ge hB 64 hy
        omega
      · rw [if_neg e]; exact ih (by omega)
  exact aux 64 (Nat.le_refl _)
theorem top_congr {A B : Nat → Bool} (h : ∀ x, x < 64 → A x = B x) : topTo A 64 = topTo B 64 :=
  Nat.le_antisymm (top_of fun x hx hA => ⟨x, hx, by rw [← h x hx]; exact hA, Nat.le_refl _⟩) (top_of fun x hx hB => ⟨x, hx, by rw [h x hx]; exact hB, Nat.le_refl _⟩)
theorem holesL_congr {p : Nat} {A B : Nat → Bool} (ht : topTo A 64 = topTo B 64) (h : ∀ k, holeN p A k = holeN p B k) : holesL p A = holesL p B := by
  unfold holesL
  rw [ht]
  exact List.map_congr_left fun k _ => h k
theorem sz_flip {f i : Nat} (hf : f < 64) (hi : i < 6) (h : f.testBit i = true) : sz f = sz (f ^^^ 2 ^ i) + 1 := (bitB f hf i hi h).2.2.1
/-- a facet around s gives one with the new point, of its size -/
theorem DivH.swap (h : DivH l s m) {f i : Nat} (hf : f ∈ l) (hsf : sub s f = true) (hi : s.testBit i = true) :
    ∃ y, y < 64 ∧ y.testBit m = true ∧ y ^^^ 2 ^ m = f ^^^ 2 ^ i ∧ divFam l s (2 ^ m) y = true ∧ sz y = sz f := by
  have hV := pow64 h.m5
  have hm6 : m < 6 := by have := h.m5; omega
  have hfV := h.lt f hf
  have hf64 : f < 64 := by omega
  have hs64 : s < 64 := by have := h.sV; omega
  have hi6 := bit_six hs64 hi
  have hfi := sub_iff.1 hsf i hi
  have hsm : s.testBit m = false := bit_none h.sV (Nat.le_refl _)
  have him : ¬ i = m := fun e => by subst e; rw [hsm] at hi; cases hi
  obtain ⟨b1, b2, b3, b4⟩ := bitB f hf64 i hi6 hfi
  have hm0 : (f ^^^ 2 ^ i).testBit m = false := by rw [xor_bit, bit_none hfV (Nat.le_refl _)]; simp [him]
  obtain ⟨c1, c2, c3, c4, c5, c6, c7⟩ := bitA (f ^^^ 2 ^ i) b1 m hm6 hm0
  refine ⟨(f ^^^ 2 ^ i) ||| 2 ^ m, c1, c6, c7, ?_, by omega⟩
  rw [div_con h c1, Bool.and_eq_true, Bool.not_eq_true']
  refine ⟨?_, ?_⟩
  · unfold conB
    rw [Bool.or_eq_true, Bool.and_eq_true]
    refine .inr ⟨c6, ?_⟩
    rw [c7]
    refine isFace_iff.2 ⟨f, hf, sub_iff.2 fun q hq => ?_⟩
    rw [Nat.testBit_or, xor_bit] at hq
    by_cases e : i = q
    · subst e; exact hfi
    · simp [e] at hq
      exact hq.elim id (sub_iff.1 hsf q)
  · cases e : sub s ((f ^^^ 2 ^ i) ||| 2 ^ m) with
    | false => rfl
    | true =>
      have := sub_iff.1 e i hi
      rw [Nat.testBit_or, b2, Nat.testBit_two_pow] at this
      have hmi : ¬ m = i := fun e => him e.symm
      simp [hmi] at this
theorem sz_mono {a b : Nat} (hb : b < 64) (h : sub a b = true) : sz a ≤ sz b := (sub_sz hb h).1
theorem div_top (h : DivH l s m) : topTo (divFam l s (2 ^ m)) 64 = topTo (isFace l) 64 := by
  have hV := pow64 h.m5
  have hm6 : m < 6 := by have := h.m5; omega
  have hs64 : s < 64 := by have := h.sV; omega
  obtain ⟨i, hi⟩ := some_bit h.s0
  refine Nat.le_antisymm (top_of fun x hx hd => ?_) (top_of fun x hx hf => ?_)
  · rw [div_con h hx, Bool.and_eq_true, Bool.not_eq_true'] at hd
    unfold conB at hd
    rw [Bool.or_eq_true, Bool.and_eq_true] at hd
    rcases hd.1 with h1 | ⟨h1, h2⟩
    · exact ⟨x, hx, h1, Nat.le_refl _⟩
    · have hy := h.face h2
      have hy64 : (x ^^^ 2 ^ m) ||| s < 64 := by omega
      refine ⟨_, hy64, h2, ?_⟩
      obtain ⟨b1, b2, b3, b4⟩ := bitB x hx m hm6 h1
      obtain ⟨j, hj1, hj2⟩ := not_sub hd.2
      have hu : sz (x ^^^ 2 ^ m) ≤ sz ((x ^^^ 2 ^ m) ||| s) := sz_mono hy64 (sub_or_left _ _)
      have hne : sz (x ^^^ 2 ^ m) ≠ sz ((x ^^^ 2 ^ m) ||| s) := fun e => by
        have h3 := (sub_sz hy64 (sub_or_left (x ^^^ 2 ^ m) s)).2 e
        have h4 : (x ^^^ 2 ^ m).testBit j = true := by rw [h3, Nat.testBit_or, hj1]; simp
        rw [xor_bit, hj2] at h4
        have : m = j := by simpa using h4
        subst this
        rw [h1] at hj2; cases hj2
      omega
  · obtain ⟨f, hf, hxf⟩ := isFace_iff.1 hf
    have hf64 : f < 64 := by have := h.lt f hf; omega
    by_cases hsf : sub s f = true
    · obtain ⟨y, y1, y2, y3, y4, y5⟩ := h.swap hf hsf hi
      exact ⟨y, y1, y4, by rw [y5]; exact sz_mono hf64 hxf⟩
    · refine ⟨f, hf64, ?_, sz_mono hf64 hxf⟩
      unfold divFam
      rw [Bool.or_eq_true, Bool.and_eq_true]
      exact .inl ⟨isFace_iff.2 ⟨f, hf, sub_refl f⟩, by simpa using hsf⟩
theorem pure_iff {l : List Nat} : pureB l = true ↔ ∃ D, ∀ f ∈ l, sz f = D := by
  unfold pureB
  rw [List.all_eq_true]
  constructor
  · intro h; exact ⟨_, fun f hf => by simpa using h f hf⟩
  · rintro ⟨D, h⟩ f hf
    have h0 : nthN l 0 ∈ l := nthN_mem2 (List.length_pos_of_mem hf)
    rw [h f hf, h _ h0]; simp
/-- facets of the family: of the size of one of the complex, and the other way -/
theorem div_pure (h : DivH l s m) (hanti : ∀ f ∈ l, ∀ g ∈ l, sub f g = true → f = g) : pureB (maxL (divFam l s (2 ^ m))) = pureB l := by
  have hV := pow64 h.m5
  have hm6 : m < 6 := by have := h.m5; omega
  have hs64 : s < 64 := by have := h.sV; omega
  have hsm : s.testBit m = false := bit_none h.sV (Nat.le_refl _)
  obtain ⟨i, hi⟩ := some_bit h.s0
  have hi6 := bit_six hs64 hi
  have hin : ∀ f ∈ l, sub s f = false → divFam l s (2 ^ m) f = true := fun f hf hsf => by
    unfold divFam
    rw [Bool.or_eq_true, Bool.and_eq_true]
    exact .inl ⟨isFace_iff.2 ⟨f, hf, sub_refl f⟩, by rw [hsf]; rfl⟩
  -- each facet of the family has the size of a facet
  have h1 : ∀ g ∈ maxL (divFam l s (2 ^ m)), ∃ f ∈ l, sz g = sz f := fun g hg => by
    obtain ⟨g64, gd, gm⟩ := mem_maxL.1 hg
    have hd := gd
    rw [div_con h g64, Bool.and_eq_true, Bool.not_eq_true'] at hd
    unfold conB at hd
    rw [Bool.or_eq_true, Bool.and_eq_true] at hd
    rcases hd.1 with h2 | ⟨h2, h3⟩
    · obtain ⟨f, hf, hgf⟩ := isFace_iff.1 h2
      have hf64 : f < 64 := by have := h.lt f hf; omega
      cases hsf : sub s f with
      | false => exact ⟨f, hf, by rw [gm f hf64 (hin f hf hsf) hgf]⟩
      | true =>
        exfalso
        obtain ⟨j, hj1, hj2⟩ := not_sub hd.2
        obtain ⟨y, y1, y2, y3, y4, y5⟩ := h.swap hf hsf hj1
        have : g = y := gm y y1 y4 (sub_iff.2 fun q hq => by
          have hqj : ¬ j = q := fun e => by subst e; rw [hj2] at hq; cases hq
          have hmq : ¬ m = q := fun e => by subst e; have := bit_none (h.face h2) (Nat.le_refl m); rw [this] at hq; cases hq
          have e1 : (y ^^^ 2 ^ m).testBit q = true := by rw [y3, xor_bit, sub_iff.1 hgf q hq]; simp [hqj]
          rw [xor_bit] at e1
          simpa [hmq] using e1)
        have := bit_none (h.face h2) (Nat.le_refl m)
        rw [‹g = y›, y2] at this; cases this
    · obtain ⟨f, hf, hgf⟩ := isFace_iff.1 h3
      have hsf : sub s f = true := sub_trans (sub_or_right _ s) hgf
      obtain ⟨j, hj1, hj2⟩ := not_sub hd.2
      obtain ⟨y, y1, y2, y3, y4, y5⟩ := h.swap hf hsf hj1
      refine ⟨f, hf, ?_⟩
      rw [gm y y1 y4 (sub_iff.2 fun q hq => ?_), y5]
      by_cases hmq : m = q
      · subst hmq; exact y2
      · have hqj : ¬ j = q := fun e => by subst e; rw [hj2] at hq; cases hq
        have e0 : (g ^^^ 2 ^ m).testBit q = true := by rw [xor_bit, hq]; simp [hmq]
        have e1 : (y ^^^ 2 ^ m).testBit q = true := by
          rw [y3, xor_bit, sub_iff.1 (sub_trans (sub_or_left _ s) hgf) q e0]; simp [hqj]
        rw [xor_bit] at e1
        simpa [hmq] using e1
  -- and the other way
  have h2 : ∀ f ∈ l, ∃ g ∈ maxL (divFam l s (2 ^ m)), sz g = sz f := fun f hf => by
    have hf64 : f < 64 := by have := h.lt f hf; omega
    cases hsf : sub s f with
    | false =>
      obtain ⟨g, hg, hfg⟩ := max_above f hf64 (hin f hf hsf)
      obtain ⟨g64, gd, gm⟩ := mem_maxL.1 hg
      refine ⟨g, hg, ?_⟩
      rw [div_con h g64, Bool.and_eq_true, Bool.not_eq_true'] at gd
      unfold conB at gd
      rw [Bool.or_eq_true, Bool.and_eq_true] at gd
      rcases gd.1 with h3 | ⟨h3, h4⟩
      · obtain ⟨f', hf', hgf'⟩ := isFace_iff.1 h3
        have := hanti f hf f' hf' (sub_trans hfg hgf')
        subst this
        rw [sub_antisymm hgf' hfg]
      · exfalso
        obtain ⟨f', hf', hgf'⟩ := isFace_iff.1 h4
        have hff' : sub f f' = true := sub_iff.2 fun q hq => by
          refine sub_iff.1 hgf' q ?_
          rw [Nat.testBit_or, xor_bit, sub_iff.1 hfg q hq]
          have hmq : ¬ m = q := fun e => by subst e; have := bit_none (h.lt f hf) (Nat.le_refl m); rw [this] at hq; cases hq
          simp [hmq]
        have := hanti f hf f' hf' hff'
        subst this
        have := sub_trans (sub_or_right _ s) hgf'
        rw [hsf] at this; cases this
    | true =>
      obtain ⟨y, y1, y2, y3, y4, y5⟩ := h.swap hf hsf hi
      obtain ⟨g, hg, hyg⟩ := max_above y y1 y4
      obtain ⟨f', hf', hgf'⟩ := h1 g hg
      obtain ⟨g64, gd, gm⟩ := mem_maxL.1 hg
      refine ⟨g, hg, ?_⟩
      -- g holds the new point; without it and with s it is f
      have hgm := sub_iff.1 hyg m y2
      rw [div_con h g64, Bool.and_eq_true, Bool.not_eq_true'] at gd
      unfold conB at gd
      rw [Bool.or_eq_true, Bool.and_eq_true] at gd
      rcases gd.1 with h3 | ⟨h3, h4⟩
      · have := bit_none (h.face h3) (Nat.le_refl m); rw [hgm] at this; cases this
      · obtain ⟨k, hk, hgk⟩ := isFace_iff.1 h4
        have hfk : sub f k = true := sub_iff.2 fun q hq => by
          refine sub_iff.1 hgk q ?_
          rw [Nat.testBit_or, xor_bit]
          have hmq : ¬ m = q := fun e => by subst e; have := bit_none (h.lt f hf) (Nat.le_refl m); rw [this] at hq; cases hq
          by_cases hqi : i = q
          · subst hqi; rw [hi]; simp
          · have e1 : (y ^^^ 2 ^ m).testBit q = true := by rw [y3, xor_bit, hq]; simp [hqi]
            rw [xor_bit] at e1
            have e2 : y.testBit q = true := by simpa [hmq] using e1
            rw [sub_iff.1 hyg q e2]; simp [hmq]
        have := hanti f hf k hk hfk
        subst this
        obtain ⟨b1, b2, b3, b4⟩ := bitB g g64 m hm6 hgm
        have hle : sz y ≤ sz g := sz_mono g64 hyg
        have hu : sz (g ^^^ 2 ^ m) ≤ sz f := sz_mono hf64 (sub_trans (sub_or_left _ s) hgk)
        have hne : sz (g ^^^ 2 ^ m) ≠ sz f := fun e => by
          have h5 := (sub_sz hf64 (sub_trans (sub_or_left (g ^^^ 2 ^ m) s) hgk)).2 e
          have : sub s g = true := sub_iff.2 fun q hq => by
            have h6 : (g ^^^ 2 ^ m).testBit q = true := by rw [h5]; exact sub_iff.1 hsf q hq
            rw [xor_bit] at h6
            have hmq : ¬ m = q := fun e => by subst e; rw [hsm] at hq; cases hq
            simpa [hmq] using h6
          rw [gd.2] at this; cases this
        omega
  rw [Bool.eq_iff_iff, pure_iff, pure_iff]
  constructor
  · rintro ⟨D, hD⟩
    exact ⟨D, fun f hf => by obtain ⟨g, hg, e⟩ := h2 f hf; rw [← e]; exact hD g hg⟩
  · rintro ⟨D, hD⟩
    exact ⟨D, fun g hg => by obtain ⟨f, hf, e⟩ := h1 g hg; rw [e]; exact hD f hf⟩
end
end Go.Proofs.YtihfhfihladlcaaGreatDoor

/- Euler numbers: by faces, by counts, by holes, and by the counts of chains. Plain. -/
namespace Go.Proofs.YtihfhfihladlcaaGreatDoor
set_option maxRecDepth 20000
set_option linter.unusedSimpArgs false
set_option linter.unusedVariables false

/-- + for odd numbers of points -/
def cg (k : Nat) : Int := 2 * ((k : Int) % 2) - 1
def eulTo (L : List Nat) (k : Nat) : Int := sm (fun i => cg (sz (nthN L i))) k
def eul (A : Nat → Bool) : Int := eulTo (ord A) (ord A).length
theorem cg_bd (k : Nat) : -1 ≤ cg k ∧ cg k ≤ 1 := by unfold cg; omega
theorem eulTo_bd (L : List Nat) : ∀ k : Nat, -(k : Int) ≤ eulTo L k ∧ eulTo L k ≤ k
  | 0 => by unfold eulTo sm; omega
  | k + 1 => by
    have h := eulTo_bd L k
    have h2 := cg_bd (sz (nthN L k))
    unfold eulTo at *
    rw [sm]; omega
theorem ord_nodup (A : Nat → Bool) : (ord A).Nodup := by
  rw [List.nodup_iff_pairwise_ne]
  exact (ord_sorted A).imp fun h e => by rw [e] at h; exact Nat.lt_irrefl _ h
theorem eul_sm (A : Nat → Bool) : eul A = sm (fun s => if A s then cg (sz s) else 0) 64 := by
  unfold eul eulTo
  rw [← sm_list (fun s => if A s then cg (sz s) else 0) (ord_nodup A) (fun t ht => (mem_ord.1 ht).1) (fun t ht64 ht => ?_)]
  · refine sm_congr _ fun j hj => ?_
    rw [if_pos (mem_ord.1 (nthN_mem2 hj)).2]
  · rw [if_neg fun h => ht (mem_ord.2 ⟨ht64, h⟩)]
theorem filter_sm (q : Nat → Bool) : ∀ n : Nat, (((List.range n).filter q).length : Int) = sm (fun t => if q t then 1 else 0) n
  | 0 => rfl
  | n + 1 => by
    rw [List.range_succ, List.filter_append, List.length_append, sm, ← filter_sm q n]
    cases h : q n <;> simp [h]
/-- a sum over a family, by sizes -/
theorem sm_lvl (A : Nat → Bool) (c : Nat → Int) : sm (fun s => if A s then c (sz s) else 0) 64 = sm (fun k => c k * ((lvlTo A 64 k).length : Int)) 7 := by
  have e : ∀ s, s < 64 → (if A s then c (sz s) else 0) = sm (fun k => if A s && sz s == k then c k else 0) 7 := fun s _ => by
    have h6 := sz_le s
    cases h : A s
    · simp only [Bool.false_and, if_false, Bool.false_eq_true]; exact (sm_zero 7).symm
    · rw [if_pos rfl, sm_congr 7 (h := fun k => if k = sz s then c (sz s) else 0) (fun k _ => by
        by_cases e : k = sz s
        · subst e; simp
        · simp only [Bool.true_and]
          rw [if_neg e, if_neg (by simp; omega)]), sm_single, if_pos (by omega)]
  rw [sm_congr 64 e, sm_swap]
  refine sm_congr 7 fun k _ => ?_
  unfold lvlTo
  rw [filter_sm, ← sm_mul]
  refine sm_congr 64 fun s _ => ?_
  by_cases h : (A s && sz s == k) = true
  · rw [if_pos h, if_pos h, Int.mul_one]
  · rw [if_neg h, if_neg h, Int.mul_zero]
theorem eul_lvl (A : Nat → Bool) : eul A = sm (fun k => cg k * ((lvlTo A 64 k).length : Int)) 7 := by rw [eul_sm, sm_lvl]
/-- the Euler number by holes -/
theorem eul_holes {p : Nat} (hp : Prm p) {A : Nat → Bool} (hd : Dn A) : eul A = sm (fun k => cg k * holeN p A k) 7 := by
  rw [eul_lvl]
  have h7 : rk0 p A 7 = 0 := rk_top hp hd (topTo_le A 64)
  have h0 : rk0 p A 0 = 0 := by unfold rk0; rw [if_pos rfl]
  simp only [sm, cg, holeN]
  rw [h7, h0]
  simp
  omega
theorem eul_same {p : Nat} (hp : Prm p) {A B : Nat → Bool} (hA : Dn A) (hB : Dn B) (h : ∀ k, holeN p A k = holeN p B k) : eul A = eul B := by
  rw [eul_holes hp hA, eul_holes hp hB]
  exact sm_congr _ fun k _ => by rw [h k]
/-- how many sets there are -/
theorem ord_count (A : Nat → Bool) : ((ord A).length : Int) = sm (fun k => ((lvlTo A 64 k).length : Int)) 7 := by
  have h1 : ((ord A).length : Int) = sm (fun s => if A s then 1 else 0) 64 := by
    rw [← sm_list (fun s => if A s then 1 else 0) (ord_nodup A) (fun t ht => (mem_ord.1 ht).1) (fun t ht64 ht => by rw [if_neg fun h => ht (mem_ord.2 ⟨ht64, h⟩)])]
    rw [sm_congr _ (h := fun _ => 1) (fun j hj => if_pos (mem_ord.1 (nthN_mem2 hj)).2)]
    generalize (ord A).length = n
    induction n with
    | zero => rfl
    | succ n ih => rw [sm, ← ih]; omega
  rw [h1, sm_lvl A (fun _ => 1)]
  exact sm_congr _ fun k _ => Int.one_mul _

/-! ### Chains -/
theorem on_one : ∀ i, i < 8 → onI i 1 = if i = 0 then 0 else 1 := by decide +kernel
theorem on_alt : ∀ n, n < 8 → ∀ i, i < n → sm (fun k => if k = 0 then 0 else cg k * (onI i k : Int)) n = if i = 0 then 0 else cg i := by decide +kernel
theorem sum_sm (g : Nat → Nat) : ∀ n : Nat, (((List.range n).map g).sum : Int) = sm (fun j => (g j : Int)) n
  | 0 => rfl
  | n + 1 => by
    rw [List.range_succ, List.map_append, List.sum_append, sm, ← sum_sm g n]; simp
theorem onto_in {i k : Nat} (hi : i < 8) (hk : k < 8) : onto i k = onI i k := by
  unfold onto
  rw [if_pos (by omega)]; rfl
theorem repTo_sm {f : List Nat} (h7 : f.length ≤ 7) {k : Nat} (hk : k < 8) : (repTo (up f) k (up f).length : Int) = sm (fun i => (nthN f i : Int) * (onI i k : Int)) f.length := by
  unfold repTo
  rw [sum_sm, up_len]
  refine sm_congr _ fun i hi => ?_
  rw [nth_up, Int.toNat_natCast, onto_in (by omega) hk, Int.natCast_mul]
theorem chain_len (f : List Nat) : (chainL f).length = f.length := by
  unfold chainL
  by_cases h : f = []
  · rw [if_pos h, h]
  · rw [if_neg h]; unfold repL; rw [List.length_map, List.length_range, up_len]
theorem chain_at {f : List Nat} {k : Nat} (hk : k < f.length) : nthN (chainL f) k = if k = 0 then 1 else repTo (up f) k (up f).length := by
  have hf : f ≠ [] := fun e => by rw [e] at hk; exact Nat.not_lt_zero _ hk
  unfold chainL
  rw [if_neg hf]
  rw [nthN_at2 (by unfold repL; rw [List.length_map, List.length_range, up_len]; exact hk)]
  unfold repL; simp
def sgnS (xs : List Int) (k : Nat) : Int := sm (fun i => cg i * nth xs i) k
/-- the signed sum of a complex's chain counts is its Euler number -/
theorem chain_euler {A : Nat → Bool} (h0 : 0 < topTo A 64) (hone : (lvlTo A 64 0).length = 1) : sgnS (up (chainL (cntOf A))) (chainL (cntOf A)).length = eul A := by
  have hlen := cnt_len2 A
  have h7 := topTo_le A 64
  obtain ⟨f, hf⟩ : ∃ f, f = cntOf A := ⟨_, rfl⟩
  obtain ⟨n, hn⟩ : ∃ n, n = topTo A 64 := ⟨_, rfl⟩
  rw [← hf, ← hn] at hlen
  rw [← hn] at h7 h0
  have hf0 : (nthN f 0 : Int) = 1 := by rw [hf, cnt_at (by rw [← hn]; exact h0), hone]; rfl
  unfold sgnS
  rw [← hf, chain_len, hlen]
  have e1 : sm (fun i => cg i * nth (up (chainL f)) i) n = sm (fun k => (if k = 0 then -1 else 0) + sm (fun i => (nthN f i : Int) * (if k = 0 then 0 else cg k * (onI i k : Int))) n) n := sm_congr n fun k hk => by
    rw [nth_up, chain_at (by omega)]
    by_cases e : k = 0
    · subst e
      rw [if_pos rfl, if_pos rfl, sm_congr n (h := fun _ => 0) (fun i _ => by rw [if_pos rfl, Int.mul_zero]), sm_zero]
      decide
    · rw [if_neg e, if_neg e, repTo_sm (by omega) (by omega), hlen, ← sm_mul, Int.zero_add]
      refine sm_congr n fun i _ => ?_
      rw [if_neg e, ← Int.mul_assoc, ← Int.mul_assoc, Int.mul_comm (cg k)]
  rw [e1, sm_add, sm_swap]
  have e2 : sm (fun i => sm (fun k => (nthN f i : Int) * (if k = 0 then 0 else cg k * (onI i k : Int))) n) n = sm (fun i => (nthN f i : Int) * (if i = 0 then 0 else cg i)) n := sm_congr n fun i hi => by
    rw [sm_mul, on_alt n (by omega) i hi]
  rw [e2]
  have e3 : sm (fun k => if k = 0 then (-1 : Int) else 0) n = -1 := by rw [sm_single, if_pos h0]
  rw [e3, eul_lvl]
  have e4 : sm (fun k => cg k * ((lvlTo A 64 k).length : Int)) 7 = sm (fun k => cg k * ((lvlTo A 64 k).length : Int)) n := sm_more _ n 7 (fun i hi => by rw [lvl_top (by rw [← hn]; exact hi)]; simp) h7
  rw [e4]
  have e5 : sm (fun k => cg k * ((lvlTo A 64 k).length : Int)) n = sm (fun k => (if k = 0 then (-1 : Int) else 0) + (nthN f k : Int) * (if k = 0 then 0 else cg k)) n := sm_congr n fun k hk => by
    have hc : ((lvlTo A 64 k).length : Int) = (nthN f k : Int) := by rw [hf, cnt_at (by rw [← hn]; exact hk)]
    rw [hc]
    by_cases e : k = 0
    · subst e; rw [hf0]; decide
    · rw [if_neg e, if_neg e, Int.zero_add, Int.mul_comm]
  rw [e5, sm_add, e3]
theorem chain_one {A : Nat → Bool} (h1 : 1 < topTo A 64) (hone : (lvlTo A 64 0).length = 1) : (nthN (chainL (cntOf A)) 1 : Int) = ((ord A).length : Int) - 1 := by
  have hlen := cnt_len2 A
  have h7 := topTo_le A 64
  obtain ⟨f, hf⟩ : ∃ f, f = cntOf A := ⟨_, rfl⟩
  obtain ⟨n, hn⟩ : ∃ n, n = topTo A 64 := ⟨_, rfl⟩
  rw [← hf, ← hn] at hlen
  rw [← hn] at h7 h1
  rw [← hf, chain_at (by omega), if_neg (by omega), repTo_sm (by omega) (by omega), hlen, ord_count]
  have e4 : sm (fun k => ((lvlTo A 64 k).length : Int)) 7 = sm (fun k => ((lvlTo A 64 k).length : Int)) n := sm_more _ n 7 (fun i hi => by rw [lvl_top (by rw [← hn]; exact hi)]; simp) h7
  rw [e4]
  have e5 : sm (fun k => ((lvlTo A 64 k).length : Int)) n = sm (fun k => (if k = 0 then (1 : Int) else 0) + (nthN f k : Int) * (onI k 1 : Int)) n := sm_congr n fun k hk => by
    rw [on_one k (by omega)]
    by_cases e : k = 0
    · subst e; rw [if_pos rfl, hone]; simp
    · rw [if_neg e, if_neg e, hf, cnt_at (by rw [← hn]; exact hk)]; simp
  rw [e5, sm_add, sm_single, if_pos (by omega)]; omega
theorem empty_one {l : List Nat} (h : l ≠ []) : (lvlTo (isFace l) 64 0).length = 1 ∧ 0 < topTo (isFace l) 64 := by
  have h0 : isFace l 0 = true := by
    cases l with
    | nil => exact absurd rfl h
    | cons a l => exact isFace_iff.2 ⟨a, List.mem_cons_self, by unfold sub; simp⟩
  refine ⟨?_, topTo_ge (s := 0) h0 64 (by omega) |> fun h => by omega⟩
  have e : lvlTo (isFace l) 64 0 = [0] := by
    have hs : ∀ s, s ∈ lvlTo (isFace l) 64 0 ↔ s = 0 := fun s => by
      rw [mem_lvl2]
      constructor
      · rintro ⟨h1, _, h3⟩; exact sz_zero s h1 h3
      · rintro rfl; exact ⟨by omega, h0, rfl⟩
    have hnd : (lvlTo (isFace l) 64 0).Nodup := (List.nodup_range).filter _
    have h1 := len_sub (lvlTo (isFace l) 64 0) [0] hnd (fun x hx => by rw [(hs x).1 hx]; simp)
    have h2 : 0 ∈ lvlTo (isFace l) 64 0 := (hs 0).2 rfl
    cases hL : lvlTo (isFace l) 64 0 with
    | nil => rw [hL] at h2; cases h2
    | cons a L =>
      rw [hL] at h1 hs
      have ha := (hs a).1 List.mem_cons_self
      simp at h1
      rw [ha, h1]
  rw [e]; rfl
end Go.Proofs.YtihfhfihladlcaaGreatDoor

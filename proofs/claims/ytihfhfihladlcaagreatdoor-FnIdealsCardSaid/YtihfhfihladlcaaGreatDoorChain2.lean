/- Texts of this claim, one behind the other: what each says stands at its head. -/
import Derived.Test.YtihfhfihladlcaaGreatDoorChain1
import Derived.Test.YtihfhfihladlcaaGreatDoorFrom
/- The rank of a border's matrix and the cycles; how the numbers of holes stay where a family grows by sets that go in pairs. Plain. -/
namespace Go.Proofs.YtihfhfihladlcaaGreatDoor
set_option maxRecDepth 20000
set_option linter.unusedSimpArgs false
set_option linter.unusedVariables false

/-- the border's matrix of the sets of k points, by rows, as remainders -/
def bordR (p : Nat) (Lo Hi : List Nat) (i : Nat) : List Int := mkL Hi.length fun j => sgnF (nthN Lo i) (nthN Hi j) % (p : Int)
def rkB (p : Nat) (Lo Hi : List Nat) : Nat := rankR p Lo.length Hi.length (bordR p Lo Hi)
/-- .. of a family's sets of k points -/
def rk (p : Nat) (A : Nat → Bool) (k : Nat) : Nat := rkB p (lvlTo A 64 (k - 1)) (lvlTo A 64 k)
theorem mem_lvl2 {A : Nat → Bool} {k s : Nat} : s ∈ lvlTo A 64 k ↔ s < 64 ∧ A s = true ∧ sz s = k := by
  unfold lvlTo; rw [List.mem_filter, List.mem_range]; simp
theorem sm_list (g : Nat → Int) {H : List Nat} (hnd : H.Nodup) (hH : ∀ t ∈ H, t < 64) (hz : ∀ t, t < 64 → t ∉ H → g t = 0) : sm (fun j => g (nthN H j)) H.length = sm g 64 := by
  have e : ∀ t, t < 64 → g t = sm (fun j => if t = nthN H j then g t else 0) H.length := fun t ht64 => by
    by_cases ht : t ∈ H
    · obtain ⟨k, hk, rfl⟩ := List.mem_iff_getElem.1 ht
      rw [sm_congr H.length (h := fun j => if j = k then g H[k] else 0) (fun j hj => by
        by_cases e : j = k
        · subst e; rw [if_pos rfl, if_pos (nthN_at2 hj).symm]
        · rw [if_neg e, if_neg]
          intro h
          rw [nthN_at2 hj] at h
          exact e ((List.getElem_inj hnd).1 h).symm), sm_single, if_pos hk]
    · rw [hz t ht64 ht, sm_congr H.length (h := fun _ => 0) (fun j hj => by simp), sm_zero]
  rw [sm_congr 64 e, sm_swap]
  refine sm_congr _ fun j hj => ?_
  have := sm_single (nthN H j) (g (nthN H j)) 64
  rw [if_pos (hH _ (nthN_mem2 hj))] at this
  rw [← this]
  refine sm_congr _ fun t _ => ?_
  by_cases e : t = nthN H j
  · rw [if_pos e, if_pos e, e]
  · rw [if_neg e, if_neg e]
/-- the cycles of k points, counted -/
theorem dim_cyc {p : Nat} (hp : Prm p) {A : Nat → Bool} (hd : Dn A) {k : Nat} (hk : 1 ≤ k) : rk p A k ≤ (lvlTo A 64 k).length ∧ rk p A k ≤ (lvlTo A 64 (k - 1)).length ∧ Dim p (Cyc p A k) ((lvlTo A 64 k).length - rk p A k) := by
  have hp2 := prm_pos hp
  have hpp : (0 : Int) < p := by omega
  obtain ⟨Lo, hLo⟩ : ∃ L, L = lvlTo A 64 (k - 1) := ⟨_, rfl⟩
  obtain ⟨Hi, hHi⟩ : ∃ L, L = lvlTo A 64 k := ⟨_, rfl⟩
  have hb : ∀ i, i < Lo.length → ∀ c, c < Hi.length → 0 ≤ nth (bordR p Lo Hi i) c ∧ nth (bordR p Lo Hi i) c < p := fun i _ c hc => by
    unfold bordR; rw [nth_mkL, if_pos hc]; exact ⟨Int.emod_nonneg _ (by omega), Int.emod_lt_of_pos _ hpp⟩
  obtain ⟨h1, h2, h3⟩ := dim_rank hp hb
  unfold rk rkB
  rw [← hLo, ← hHi]
  refine ⟨h1, h2, ?_⟩
  have hnd : Hi.Nodup := by rw [hHi]; exact (List.nodup_range).filter _
  have hH : ∀ t, t ∈ Hi ↔ t < 64 ∧ A t = true ∧ sz t = k := fun t => by rw [hHi]; exact mem_lvl2
  have hL : ∀ t, t ∈ Lo ↔ t < 64 ∧ A t = true ∧ sz t = k - 1 := fun t => by rw [hLo]; exact mem_lvl2
  -- a row of the matrix at a chain
  have hrow : ∀ i, i < Lo.length → ∀ x : Nat → Int, (∀ t, t ∉ Hi → x t = 0) → ∀ v : List Int, (∀ j, j < Hi.length → nth v j = x (nthN Hi j)) → (p : Int) ∣ dot Hi.length (bordR p Lo Hi i) v - bnd x (nthN Lo i) := by
    intro i hi x hx v hv
    unfold bnd
    rw [← sm_list (fun t => sgnF (nthN Lo i) t * x t) hnd (fun t ht => ((hH t).1 ht).1) (fun t _ ht => by rw [hx t ht, Int.mul_zero])]
    unfold dot
    rw [sm_congr _ (g := fun j => nth (bordR p Lo Hi i) j * nth v j) (h := fun j => sgnF (nthN Lo i) (nthN Hi j) % (p : Int) * x (nthN Hi j)) (fun j hj => by unfold bordR; rw [nth_mkL, if_pos hj, hv j hj])]
    refine sm_dvd _ _ _ (fun j => ?_) _
    obtain ⟨q, hq⟩ := emod_dvd (sgnF (nthN Lo i) (nthN Hi j)) p
    exact ⟨q * x (nthN Hi j), by rw [← Int.sub_mul, hq, Int.mul_assoc]⟩
  have hidx : ∀ j, j < Hi.length → Hi.idxOf (nthN Hi j) = j := fun j hj => by
    rw [nthN_at2 hj]; exact List.Nodup.idxOf_getElem hnd j hj
  have hback : ∀ v : List Int, ∀ j, j < Hi.length → nth v j = (fun t => if Hi.contains t then nth v (Hi.idxOf t) else 0) (nthN Hi j) := fun v j hj => by
    show _ = if Hi.contains (nthN Hi j) = true then _ else _
    rw [if_pos (by simpa using nthN_mem2 hj), hidx j hj]
  refine h3.iso (fun x => Hi.map x) (fun v t => if Hi.contains t then nth v (Hi.idxOf t) else 0) ?_ ?_
  · intro x hx
    refine ⟨⟨(vecs_mem _ _ _).2 ⟨by simp, fun y hy => by obtain ⟨t, _, rfl⟩ := List.mem_map.1 hy; exact hx.bd t⟩, fun i hi => ?_⟩, ?_⟩
    · rw [dvd_iff (hrow i hi x (fun t ht => hx.off t fun hh => ht ((hH t).2 hh)) (Hi.map x) (fun j hj => by rw [nth_map (α := Nat) _ _ hj, nthN_at2 hj]))]
      exact hx.cyc _ ((hL _).1 (nthN_mem2 hi)).1
    · funext t
      show (if Hi.contains t = true then _ else _) = x t
      by_cases ht : t ∈ Hi
      · rw [if_pos (by simpa using ht)]
        have hlt : Hi.idxOf t < Hi.length := List.idxOf_lt_length_iff.2 ht
        rw [nth_map (α := Nat) _ _ hlt, List.getElem_idxOf hlt]
      · rw [if_neg (by simpa using ht), hx.off t fun hh => ht ((hH t).2 hh)]
  · intro v hv
    obtain ⟨hv1, hv2⟩ := hv
    have hvl := ((vecs_mem _ _ _).1 hv1).1
    have hoff : ∀ t, t ∉ Hi → (fun t => if Hi.contains t then nth v (Hi.idxOf t) else 0) t = 0 := fun t ht => by
      show (if Hi.contains t = true then _ else _) = (0 : Int)
      rw [if_neg (by simpa using ht)]
    refine ⟨⟨⟨fun t => ?_, fun t ht => hoff t fun hh => ht ((hH t).1 hh)⟩, fun u hu => ?_⟩, ?_⟩
    · show 0 ≤ (if Hi.contains t = true then _ else _) ∧ (if Hi.contains t = true then _ else (0 : Int)) < (p : Int)
      by_cases ht : t ∈ Hi
      · rw [if_pos (by simpa using ht)]
        exact nth_bd hv1 (List.idxOf_lt_length_iff.2 ht)
      · rw [if_neg (by simpa using ht)]; omega
    · by_cases hul : u ∈ Lo
      · obtain ⟨i, hi, rfl⟩ := List.mem_iff_getElem.1 hul
        have := hv2 i hi
        rw [dvd_iff (hrow i hi _ hoff v (hback v)), nthN_at2 hi] at this
        exact this
      · have e : bnd (fun t => if Hi.contains t then nth v (Hi.idxOf t) else 0) u = 0 := by
          unfold bnd
          rw [sm_congr 64 (h := fun _ => 0) (fun t ht => by
            by_cases es : sgnF u t = 0
            · rw [es, Int.zero_mul]
            · obtain ⟨e1, e2⟩ := sgn_zero es
              by_cases htH : t ∈ Hi
              · exfalso
                have hh := (hH t).1 htH
                exact hul ((hL u).2 ⟨hu, hd t ht hh.2.1 u e1, by omega⟩)
              · rw [hoff t htH, Int.mul_zero]), sm_zero]
        rw [e]; simp
    · refine nth_ext (by simp [hvl]) fun j hj => ?_
      rw [List.length_map] at hj
      rw [nth_map (α := Nat) _ _ hj, ← nthN_at2 hj]
      exact (hback v j hj).symm
theorem sgn_empty : ∀ u, u < 64 → sgnF u 0 = 0 := by decide +kernel
theorem sz_zero : ∀ t, t < 64 → sz t = 0 → t = 0 := by decide +kernel
/-- rank with the number of points 0: none -/
def rk0 (p : Nat) (A : Nat → Bool) (k : Nat) : Nat := if k = 0 then 0 else rk p A k
theorem dim_cyc0 {p : Nat} (hp : Prm p) {A : Nat → Bool} (hd : Dn A) (k : Nat) : rk0 p A k ≤ (lvlTo A 64 k).length ∧ Dim p (Cyc p A k) ((lvlTo A 64 k).length - rk0 p A k) := by
  have hp2 := prm_pos hp
  have hpp : (0 : Int) < p := by omega
  by_cases hk : k = 0
  · subst hk
    unfold rk0
    rw [if_pos rfl]
    refine ⟨Nat.zero_le _, ?_⟩
    rw [Nat.sub_zero]
    have hH : ∀ t, t ∈ lvlTo A 64 0 ↔ t < 64 ∧ A t = true ∧ sz t = 0 := fun t => mem_lvl2
    have hnd : (lvlTo A 64 0).Nodup := (List.nodup_range).filter _
    have hz : ∀ x : Nat → Int, (∀ t, ¬ (t < 64 ∧ A t = true ∧ sz t = 0) → x t = 0) → ∀ u, u < 64 → bnd x u = 0 := fun x hx u hu => by
      unfold bnd
      rw [sm_congr 64 (h := fun _ => 0) (fun t ht => by
        by_cases e : sz t = 0
        · rw [sz_zero t ht e, sgn_empty u hu, Int.zero_mul]
        · rw [hx t (fun hh => e hh.2.2), Int.mul_zero]), sm_zero]
    refine ⟨fun x => (lvlTo A 64 0).map x, fun v t => if (lvlTo A 64 0).contains t then nth v ((lvlTo A 64 0).idxOf t) else 0, fun x hx => ⟨(vecs_mem _ _ _).2 ⟨by simp, fun y hy => by obtain ⟨t, _, rfl⟩ := List.mem_map.1 hy; exact hx.bd t⟩, ?_⟩, fun v hv => ?_⟩
    · funext t
      show (if (lvlTo A 64 0).contains t = true then _ else _) = x t
      by_cases ht : t ∈ lvlTo A 64 0
      · rw [if_pos (by simpa using ht)]
        have hlt : (lvlTo A 64 0).idxOf t < (lvlTo A 64 0).length := List.idxOf_lt_length_iff.2 ht
        rw [nth_map (α := Nat) _ _ hlt, List.getElem_idxOf hlt]
      · rw [if_neg (by simpa using ht), hx.off t fun hh => ht ((hH t).2 hh)]
    · have hvl := ((vecs_mem _ _ _).1 hv).1
      have hoff : ∀ t, ¬ (t < 64 ∧ A t = true ∧ sz t = 0) → (fun t => if (lvlTo A 64 0).contains t then nth v ((lvlTo A 64 0).idxOf t) else 0) t = 0 := fun t ht => by
        show (if (lvlTo A 64 0).contains t = true then _ else _) = (0 : Int)
        rw [if_neg (fun h => ht ((hH t).1 (by simpa using h)))]
      refine ⟨⟨⟨fun t => ?_, hoff⟩, fun u hu => by rw [hz _ hoff u hu]; simp⟩, ?_⟩
      · show 0 ≤ (if (lvlTo A 64 0).contains t = true then _ else _) ∧ (if (lvlTo A 64 0).contains t = true then _ else (0 : Int)) < (p : Int)
        by_cases ht : t ∈ lvlTo A 64 0
        · rw [if_pos (by simpa using ht)]
          exact nth_bd hv (List.idxOf_lt_length_iff.2 ht)
        · rw [if_neg (by simpa using ht)]; omega
      · refine nth_ext (by simp [hvl]) fun j hj => ?_
        rw [List.length_map] at hj
        rw [nth_map (α := Nat) _ _ hj]
        show (if (lvlTo A 64 0).contains _ = true then _ else _) = _
        rw [if_pos (by simp), List.Nodup.idxOf_getElem hnd j hj]
  · unfold rk0
    rw [if_neg hk]
    obtain ⟨h1, _, h3⟩ := dim_cyc hp hd (show 1 ≤ k by omega)
    exact ⟨h1, h3⟩
/-- the number of holes of k points -/
def holeN (p : Nat) (A : Nat → Bool) (k : Nat) : Int := ((lvlTo A 64 k).length : Int) - rk0 p A k - rk0 p A (k + 1)
theorem filter_split (q r : Nat → Bool) : ∀ l : List Nat, (l.filter q).length = (l.filter fun x => q x && r x).length + (l.filter fun x => q x && !r x).length
  | [] => rfl
  | a :: l => by
    have := filter_split q r l
    cases h : q a <;> cases h2 : r a <;> simp [List.filter_cons, h, h2] <;> omega
theorem filter_len_congr {q r : Nat → Bool} {l : List Nat} (h : ∀ x ∈ l, q x = r x) : (l.filter q).length = (l.filter r).length := by
  rw [List.filter_congr h]
theorem xor_inj {a b e : Nat} (h : a ^^^ e = b ^^^ e) : a = b := by
  have := congrArg (· ^^^ e) h
  simpa [Nat.xor_assoc] using this
/-- how many sets there are behind, by the new ones -/
theorem lvl_pairs {W A : Nat → Bool} (hAW : ∀ t, t < 64 → A t = true → W t = true) {i : Nat} (hi : i < 6)
    (htog : ∀ t, t < 64 → W t = true → A t = false → W (t ^^^ 2 ^ i) = true ∧ A (t ^^^ 2 ^ i) = false) (k : Nat) :
    (lvlTo W 64 (k + 1)).length = (lvlTo A 64 (k + 1)).length + (newS W A i (k + 1)).length + (newS W A i k).length := by
  unfold lvlTo
  rw [filter_split (fun s => W s && sz s == k + 1) A]
  rw [filter_split (fun s => W s && sz s == k + 1 && !A s) (fun s => !s.testBit i)]
  have e1 : ((List.range 64).filter fun x => W x && sz x == k + 1 && A x).length = ((List.range 64).filter fun s => A s && sz s == k + 1).length := filter_len_congr fun x hx => by
    have := hAW x (List.mem_range.1 hx)
    cases h1 : A x
    · simp
    · simp [this h1]
  have e2 : ((List.range 64).filter fun x => W x && sz x == k + 1 && !A x && !x.testBit i).length = (newS W A i (k + 1)).length := by
    unfold newS
    refine filter_len_congr fun x hx => ?_
    cases W x <;> cases A x <;> cases x.testBit i <;> simp
  have e3 : ((List.range 64).filter fun x => W x && sz x == k + 1 && !A x && !!x.testBit i).length = (newS W A i k).length := by
    refine Nat.le_antisymm ?_ ?_
    · rw [← List.length_map (f := fun s => s ^^^ 2 ^ i)]
      refine len_sub _ _ ?_ fun s hs => ?_
      · rw [List.nodup_iff_pairwise_ne, List.pairwise_map]
        refine List.Pairwise.imp_of_mem ?_ ((List.nodup_range (n := 64)).filter _)
        intro a b _ _ hne h
        exact hne (xor_inj h)
      · obtain ⟨t, ht, rfl⟩ := List.mem_map.1 hs
        rw [List.mem_filter, List.mem_range] at ht
        simp at ht
        obtain ⟨t64, ⟨⟨tW, tk⟩, tA⟩, tb⟩ := ht
        obtain ⟨b1, b2, b3, b4⟩ := bitB t t64 i hi tb
        obtain ⟨w1, w2⟩ := htog t t64 tW tA
        exact mem_newS.2 ⟨b1, w1, w2, by omega, b2⟩
    · rw [← List.length_map (f := fun s => s ^^^ 2 ^ i)]
      refine len_sub _ _ ?_ fun s hs => ?_
      · rw [List.nodup_iff_pairwise_ne, List.pairwise_map]
        refine List.Pairwise.imp_of_mem ?_ (newS_nodup W A i k)
        intro a b _ _ hne h
        exact hne (xor_inj h)
      · obtain ⟨t, ht, rfl⟩ := List.mem_map.1 hs
        obtain ⟨t64, tW, tA, tk, tb⟩ := mem_newS.1 ht
        obtain ⟨b1, b2, b3, b4, b5, b6, b7⟩ := bitA t t64 i hi tb
        obtain ⟨w1, w2⟩ := htog t t64 tW tA
        rw [b5] at w1 w2 ⊢
        rw [List.mem_filter, List.mem_range]
        refine ⟨b1, ?_⟩
        simp [w1, w2, b6]
        omega
  omega
/-- sets that come in pairs change no hole -/
theorem holes_pairs {p : Nat} (hp : Prm p) {W A : Nat → Bool} (hAW : ∀ t, t < 64 → A t = true → W t = true) (hdW : Dn W) (hdA : Dn A) {i : Nat} (hi : i < 6)
    (htog : ∀ t, t < 64 → W t = true → A t = false → W (t ^^^ 2 ^ i) = true ∧ A (t ^^^ 2 ^ i) = false) (k : Nat) : holeN p W k = holeN p A k := by
  have hp2 := prm_pos hp
  have z : ∀ k, (lvlTo W 64 k).length - rk0 p W k = (lvlTo A 64 k).length - rk0 p A k + (newS W A i k).length := fun k =>
    (dim_cyc0 hp hdW k).2.uniq hp2 (cyc_pairs hp hAW hdW hdA hi htog k _ (dim_cyc0 hp hdA k).2)
  have z1 := z k
  have z2 := z (k + 1)
  have a1 := (dim_cyc0 hp hdW k).1
  have a2 := (dim_cyc0 hp hdA k).1
  have a3 := (dim_cyc0 hp hdW (k + 1)).1
  have a4 := (dim_cyc0 hp hdA (k + 1)).1
  have h := lvl_pairs hAW hi htog k
  unfold holeN
  omega
end Go.Proofs.YtihfhfihladlcaaGreatDoor

/- Flips and subdivisions keep the holes. Plain. -/
namespace Go.Proofs.YtihfhfihladlcaaGreatDoor
set_option maxRecDepth 20000
set_option linter.unusedSimpArgs false
set_option linter.unusedVariables false

theorem holes_congr {p : Nat} {A B : Nat → Bool} (h : ∀ s, s < 64 → A s = B s) (k : Nat) : holeN p A k = holeN p B k := by
  have e : ∀ k, lvlTo A 64 k = lvlTo B 64 k := fun k => List.filter_congr fun s hs => by rw [h s (List.mem_range.1 hs)]
  unfold holeN rk0 rk
  rw [e, e, e]
  by_cases hk : k = 0
  · subst hk; simp [e]
  · simp [e, hk]
theorem sub_lt64 {a b : Nat} (h : sub a b = true) (hb : b < 64) : a < 64 := Nat.lt_of_le_of_lt (sub_le h) hb
/-- the maximal sets' faces are the family again -/
theorem face_max {F : Nat → Bool} (hd : Dn F) {s : Nat} (hs : s < 64) : isFace (maxL F) s = F s := by
  rw [Bool.eq_iff_iff, isFace_iff]
  constructor
  · rintro ⟨f, hf, h⟩
    have := mem_maxL.1 hf
    exact hd f this.1 this.2.1 s h
  · intro h
    obtain ⟨t, ht, hst⟩ := max_above s hs h
    exact ⟨t, ht, hst⟩
theorem xor_bit {t : Nat} {i j : Nat} : (t ^^^ 2 ^ i).testBit j = ((t.testBit j) ^^ decide (i = j)) := by
  rw [Nat.testBit_xor, Nat.testBit_two_pow]
theorem some_bit {s : Nat} (h : s ≠ 0) : ∃ i, s.testBit i = true := by
  apply Classical.byContradiction
  intro hn
  apply h
  apply Nat.eq_of_testBit_eq
  intro i
  rw [Nat.zero_testBit]
  cases hb : s.testBit i with
  | false => rfl
  | true => exact absurd ⟨i, hb⟩ hn
theorem bit_six {s i : Nat} (hs : s < 64) (h : s.testBit i = true) : i < 6 := bit_low hs h

section
variable {l : List Nat} {s t : Nat}
/-- what a flip's sets tell each other -/
structure FlipH (l : List Nat) (s t : Nat) : Prop where
  s0 : s ≠ 0
  t0 : t ≠ 0
  dis : s &&& t = 0
  fs : isFace l s = true
  ft : isFace l t = false
  link : ∀ x, x < 64 → linkB l s x = propB t x
theorem FlipH.of (h : flipB l s t = true) : FlipH l s t := by
  unfold flipB at h
  simp only [Bool.and_eq_true, bne_iff_ne, beq_iff_eq, Bool.not_eq_true'] at h
  obtain ⟨⟨⟨⟨⟨h1, h2⟩, h3⟩, h4⟩, h5⟩, h6⟩ := h
  exact ⟨h1, h2, h3, h4, h5, flipB_same.1 h6⟩
theorem isFace_dn {a b : Nat} (h : isFace l b = true) (hab : sub a b = true) : isFace l a = true := by
  obtain ⟨f, hf, h2⟩ := isFace_iff.1 h
  exact isFace_iff.2 ⟨f, hf, sub_trans hab h2⟩
theorem isFace_64 (hl : ∀ f ∈ l, f < 64) {a : Nat} (h : isFace l a = true) : a < 64 := by
  obtain ⟨f, hf, h2⟩ := isFace_iff.1 h
  exact sub_lt64 h2 (hl f hf)
/-- a subset of both that lacks a point of t, with s, is a face -/
theorem FlipH.fill (h : FlipH l s t) (ht : t < 64) {x : Nat} (hx : sub x (s ||| t) = true) {j : Nat} (hj : t.testBit j = true) (hxj : x.testBit j = false) : isFace l (x ||| s) = true := by
  have hp : propB t (x &&& t) = true := by
    unfold propB
    rw [Bool.and_eq_true, bne_iff_ne]
    refine ⟨sub_iff.2 fun i hi => by rw [Nat.testBit_and] at hi; simp at hi; exact hi.2, fun e => ?_⟩
    have : (x &&& t).testBit j = true := by rw [e]; exact hj
    rw [Nat.testBit_and, hxj] at this; cases this
  have h64 : x &&& t < 64 := Nat.lt_of_le_of_lt Nat.and_le_right ht
  rw [← h.link _ h64] at hp
  unfold linkB at hp
  rw [Bool.and_eq_true] at hp
  refine isFace_dn hp.2 (sub_iff.2 fun i hi => ?_)
  rw [Nat.testBit_or] at hi
  rw [Nat.testBit_or, Nat.testBit_and]
  cases hsi : s.testBit i
  · rw [hsi] at hi
    simp at hi
    have := sub_iff.1 hx i hi
    rw [Nat.testBit_or, hsi] at this
    simp at this
    simp [hi, this]
  · simp
/-- a face around s lies in both -/
theorem FlipH.star (h : FlipH l s t) (hl : ∀ f ∈ l, f < 64) (hs : s < 64) {x : Nat} (hx : isFace l x = true) (hsx : sub s x = true) : sub x (s ||| t) = true ∧ sub t x = false := by
  have hx64 := isFace_64 hl hx
  refine ⟨?_, ?_⟩
  · have hl2 : linkB l s (sdiff x s) = true := by
      unfold linkB
      rw [Bool.and_eq_true, beq_iff_eq]
      refine ⟨disj_of fun i hi => ?_, isFace_dn hx (sub_iff.2 fun i hi => ?_)⟩
      · rw [sdiff_testBit hx64 hs] at hi
        simp at hi; exact hi.2
      · rw [Nat.testBit_or, sdiff_testBit hx64 hs] at hi
        simp at hi
        rcases hi with hi | hi
        · exact hi.1
        · exact sub_iff.1 hsx i hi
    rw [h.link _ (sdiff_lt hx64)] at hl2
    unfold propB at hl2
    rw [Bool.and_eq_true] at hl2
    refine sub_iff.2 fun i hi => ?_
    rw [Nat.testBit_or]
    cases hsi : s.testBit i
    · have := sub_iff.1 hl2.1 i (by rw [sdiff_testBit hx64 hs, hi, hsi]; rfl)
      simp [this]
    · rfl
  · cases e : sub t x with
    | false => rfl
    | true =>
      have := isFace_dn hx e
      rw [h.ft] at this; cases this
/-- the family of both -/
def bothB (l : List Nat) (s t x : Nat) : Bool := isFace l x || sub x (s ||| t)
theorem dn_both : Dn (bothB l s t) := fun x hx h y hy => by
  unfold bothB at *
  rw [Bool.or_eq_true] at *
  exact h.elim (fun h => .inl (isFace_dn h hy)) fun h => .inr (sub_trans hy h)
theorem dn_flip {m : Nat} : Dn (flipFam l m s t) := fun x hx h y hy => by
  unfold flipFam at *
  have hns : sub s x = false → sub s y = false := fun h => by
    cases e : sub s y with
    | false => rfl
    | true => rw [sub_trans e hy] at h; cases h
  simp only [Bool.or_eq_true, Bool.and_eq_true, Bool.not_eq_true', decide_eq_true_eq] at *
  rcases h with ⟨h1, h2⟩ | ⟨h1, h2, h3⟩
  · exact .inl ⟨isFace_dn h1 hy, hns h2⟩
  · exact .inr ⟨Nat.lt_of_le_of_lt (sub_le hy) h1, sub_trans hy h2, hns h3⟩
theorem flip_holes {p m : Nat} (hp : Prm p) (hm : m ≤ 6) (hl : ∀ f ∈ l, f < 64) (hs : s < 2 ^ m) (ht : t < 2 ^ m) (h : FlipH l s t) (k : Nat) : holeN p (flipFam l m s t) k = holeN p (isFace l) k := by
  have h2m := pow_le64 hm
  have hs64 : s < 64 := by omega
  have ht64 : t < 64 := by omega
  have hdF : Dn (isFace l) := fun x _ hx y hy => isFace_dn hx hy
  obtain ⟨i, hi⟩ := some_bit h.s0
  obtain ⟨j, hj⟩ := some_bit h.t0
  have hi6 := bit_six hs64 hi
  have hj6 := bit_six ht64 hj
  have hti : t.testBit i = false := disj_bit h.dis i hi
  have hsj : s.testBit j = false := by
    cases e : s.testBit j with
    | false => rfl
    | true => have := disj_bit h.dis j e; rw [hj] at this; cases this
  have htop : ∀ x, sub x (s ||| t) = true → x < 2 ^ m := fun x hx => sub_lt hx (or_lt_pow hs ht)
  have htog : ∀ (i : Nat) (x : Nat), (s ||| t).testBit i = true → sub x (s ||| t) = true → sub (x ^^^ 2 ^ i) (s ||| t) = true := fun i x hi hx => sub_iff.2 fun b hb => by
    rw [xor_bit] at hb
    by_cases e : i = b
    · subst e; exact hi
    · simp [e] at hb; exact sub_iff.1 hx b hb
  -- grow by the subsets of both, along a point of s
  rw [← holes_pairs hp (W := bothB l s t) (A := isFace l) (fun x _ hx => by unfold bothB; rw [hx]; rfl) dn_both hdF hi6 (fun x hx hW hA => ?_) k]
  · refine (holes_pairs hp (W := bothB l s t) (A := flipFam l m s t) (fun x _ hx => ?_) dn_both dn_flip hj6 (fun x hx hW hA => ?_) k).symm
    · unfold flipFam at hx
      unfold bothB
      simp only [Bool.or_eq_true, Bool.and_eq_true] at *
      exact hx.elim (fun h => .inl h.1) fun h => .inr h.2.1
    · -- what is new holds s
      unfold bothB at hW
      unfold flipFam at hA
      rw [Bool.or_eq_true] at hW
      rw [Bool.or_eq_false_iff] at hA
      have hsx : sub s x = true := by
        rcases hW with hW | hW
        · have := hA.1; rw [hW] at this; simpa using this
        · have := hA.2; rw [hW, decide_eq_true (htop x hW)] at this; simpa using this
      have hxb : sub x (s ||| t) = true := hW.elim (fun hW => (h.star hl hs64 hW hsx).1) id
      have hx2 := htog j x (by rw [Nat.testBit_or, hj]; simp) hxb
      have hs2 : sub s (x ^^^ 2 ^ j) = true := sub_iff.2 fun b hb => by
        rw [xor_bit, sub_iff.1 hsx b hb]
        have : ¬ j = b := fun e => by subst e; rw [hsj] at hb; cases hb
        simp [this]
      refine ⟨by unfold bothB; rw [hx2]; simp, ?_⟩
      unfold flipFam
      rw [hs2]; simp
  · unfold bothB at hW
    rw [hA, Bool.false_or] at hW
    have hx2 := htog i x (by rw [Nat.testBit_or, hi]; simp) hW
    refine ⟨by unfold bothB; rw [hx2]; simp, ?_⟩
    cases e : isFace l (x ^^^ 2 ^ i) with
    | false => rfl
    | true =>
      exfalso
      -- some point of t is missing
      have hnt : sub t (x ^^^ 2 ^ i) = false := by
        cases e2 : sub t (x ^^^ 2 ^ i) with
        | false => rfl
        | true => have := isFace_dn e e2; rw [h.ft] at this; cases this
      obtain ⟨q, hq1, hq2⟩ := not_sub hnt
      have hxq : x.testBit q = false := by
        rw [xor_bit] at hq2
        have : ¬ i = q := fun e => by subst e; rw [hti] at hq1; cases hq1
        simpa [this] using hq2
      have := isFace_dn (h.fill ht64 hW hq1 hxq) (sub_or_left x s)
      rw [hA] at this; cases this
end
end Go.Proofs.YtihfhfihladlcaaGreatDoor

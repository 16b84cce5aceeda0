/- Texts of this claim, one behind the other: what each says stands at its head. -/
import Derived.Test.YtihfhfihladlcaaGreatDoorFlip
import Derived.Test.YtihfhfihladlcaaGreatDoorHoles
/- A flip can be undone, and keeps purity, dimension, holes and the Euler number. Plain. -/
namespace Go.Proofs.YtihfhfihladlcaaGreatDoor
set_option maxRecDepth 20000
set_option linter.unusedSimpArgs false
set_option linter.unusedVariables false

theorem cpx_parts {m : Nat} {l : List Nat} (h : Cpx m l) : l.Pairwise (fun a b => rank a < rank b) ∧ ∀ f ∈ l, ∀ g ∈ l, sub f g = true → f = g := by
  obtain ⟨l', he, hl2, hs, hanti⟩ := h.anti.nat
  have := up_inj he; subst this
  have hl64 := h.lt64
  refine ⟨hs, fun f hf g hg hfg => ?_⟩
  obtain ⟨i, hi, rfl⟩ := List.mem_iff_getElem.1 hf
  obtain ⟨j, hj, rfl⟩ := List.mem_iff_getElem.1 hg
  rcases Nat.lt_trichotomy i j with hij | hij | hij
  · have := List.pairwise_iff_getElem.1 hanti i j hi hj hij
    rw [hfg] at this; cases this
  · subst hij; rfl
  · have h1 := List.pairwise_iff_getElem.1 hs j i hj hi hij
    have h2 := sub_rank (hl64 _ (List.getElem_mem hj)) hfg
    by_cases e : l[i] = l[j]
    · exact e
    · have := h2 e; omega
/-- the facets of a complex's faces are its facets -/
theorem max_face {m : Nat} {l : List Nat} (h : Cpx m l) : maxL (isFace l) = l := by
  obtain ⟨hs, hanti⟩ := cpx_parts h
  have hl64 := h.lt64
  rw [← ord_of_sorted hs hl64]
  rw [ord_of_sorted hs hl64]
  have e : maxL (isFace l) = ord l.contains := by
    unfold maxL
    refine ord_congr fun s hs64 => ?_
    rw [Bool.eq_iff_iff]
    have hm : (isFace l s && (List.range 64).all fun t => !(isFace l t && sub s t && s != t)) = true ↔ s ∈ maxL (isFace l) := by
      unfold maxL; rw [mem_ord]; exact ⟨fun h => ⟨hs64, h⟩, fun h => h.2⟩
    rw [hm, mem_maxL, List.contains_iff_mem]
    constructor
    · rintro ⟨_, h1, h2⟩
      obtain ⟨f, hf, hsf⟩ := isFace_iff.1 h1
      rw [h2 f (hl64 f hf) (isFace_iff.2 ⟨f, hf, sub_refl f⟩) hsf]; exact hf
    · intro hs2
      refine ⟨hs64, isFace_iff.2 ⟨s, hs2, sub_refl s⟩, fun t ht h1 h2 => ?_⟩
      obtain ⟨f, hf, htf⟩ := isFace_iff.1 h1
      have := hanti s hs2 f hf (sub_trans h2 htf)
      subst this
      exact sub_antisymm h2 htf
  rw [e, ord_of_sorted hs hl64]
section
variable {l : List Nat} {s t m : Nat}
theorem flip_fam (h : FlipH l s t) (hs : s < 2 ^ m) (ht : t < 2 ^ m) (x : Nat) : flipFam l m s t x = (!sub s x && (isFace l x || sub x (s ||| t))) := by
  unfold flipFam
  rw [Bool.eq_iff_iff]
  simp only [Bool.or_eq_true, Bool.and_eq_true, decide_eq_true_eq]
  constructor
  · rintro (⟨h1, h2⟩ | ⟨h1, h2, h3⟩)
    · exact ⟨h2, .inl h1⟩
    · exact ⟨h3, .inr h2⟩
  · rintro ⟨h1, h2 | h2⟩
    · exact .inl ⟨h2, h1⟩
    · exact .inr ⟨sub_lt h2 (or_lt_pow hs ht), h2, h1⟩
theorem flip_twice (h : FlipH l s t) (hl : ∀ f ∈ l, f < 64) (hs64 : s < 64) (ht64 : t < 64) (hs : s < 2 ^ m) (ht : t < 2 ^ m) : flipB (maxL (flipFam l m s t)) t s = true := by
  have hF : ∀ x, x < 64 → isFace (maxL (flipFam l m s t)) x = (!sub s x && (isFace l x || sub x (s ||| t))) := fun x hx => by
    rw [face_max dn_flip hx, flip_fam h hs ht]
  have hst : sub s t = false := by
    cases e : sub s t with
    | false => rfl
    | true =>
      obtain ⟨i, hi⟩ := some_bit h.s0
      have := disj_bit h.dis i hi
      rw [sub_iff.1 e i hi] at this; cases this
  unfold flipB
  simp only [Bool.and_eq_true, bne_iff_ne, beq_iff_eq, Bool.not_eq_true']
  refine ⟨⟨⟨⟨⟨h.t0, h.s0⟩, by rw [Nat.and_comm]; exact h.dis⟩, ?_⟩, ?_⟩, flipB_same.2 fun x hx => ?_⟩
  · rw [hF t ht64, hst, sub_or_right]; simp
  · rw [hF s hs64, sub_refl]; simp
  · unfold linkB propB
    have hxt : x ||| t < 64 := or_lt64 hx ht64
    rw [hF _ hxt]
    rw [Bool.eq_iff_iff]
    simp only [Bool.and_eq_true, Bool.or_eq_true, beq_iff_eq, bne_iff_ne, Bool.not_eq_true']
    constructor
    · rintro ⟨h1, h2, h3⟩
      have hsub : sub (x ||| t) (s ||| t) = true := by
        rcases h3 with h3 | h3
        · have := isFace_dn h3 (sub_or_right x t)
          rw [h.ft] at this; cases this
        · exact h3
      refine ⟨sub_iff.2 fun i hi => ?_, fun e => ?_⟩
      · have := sub_iff.1 (sub_trans (sub_or_left x t) hsub) i hi
        rw [Nat.testBit_or, disj_bit h1 i hi] at this
        simpa using this
      · subst e
        rw [sub_or_left] at h2; cases h2
    · rintro ⟨h1, h2⟩
      refine ⟨disj_of fun i hi => disj_bit h.dis i (sub_iff.1 h1 i hi), ?_, .inr (or_sub (sub_trans h1 (sub_or_left s t)) (sub_or_right s t))⟩
      cases e : sub s (x ||| t) with
      | false => rfl
      | true =>
        exfalso
        apply h2
        refine sub_antisymm h1 (sub_iff.2 fun i hi => ?_)
        have := sub_iff.1 e i hi
        rw [Nat.testBit_or, disj_bit h.dis i hi] at this
        simpa using this
/-- flipping back -/
theorem flip_back (hC : Cpx m l) (h : FlipH l s t) (hs : s < 2 ^ m) (ht : t < 2 ^ m) : maxL (flipFam (maxL (flipFam l m s t)) m t s) = l := by
  have h64 := pow_le64 hC.six
  have hs64 : s < 64 := by omega
  have ht64 : t < 64 := by omega
  have hl := hC.lt64
  have h' := FlipH.of (flip_twice h hl hs64 ht64 hs ht)
  have e : maxL (flipFam (maxL (flipFam l m s t)) m t s) = maxL (isFace l) := maxL_congr fun x hx => by
    rw [flip_fam h' ht hs, face_max dn_flip hx, flip_fam h hs ht, Bool.eq_iff_iff]
    simp only [Bool.and_eq_true, Bool.or_eq_true, Bool.not_eq_true']
    constructor
    · rintro ⟨h1, ⟨h2, h3⟩ | h3⟩
      · rcases h3 with h3 | h3
        · exact h3
        · obtain ⟨j, hj1, hj2⟩ := not_sub h1
          exact isFace_dn (h.fill ht64 h3 hj1 hj2) (sub_or_left x s)
      · obtain ⟨j, hj1, hj2⟩ := not_sub h1
        exact isFace_dn (h.fill ht64 (by rw [Nat.or_comm]; exact h3) hj1 hj2) (sub_or_left x s)
    · intro hx2
      refine ⟨?_, ?_⟩
      · cases e : sub t x with
        | false => rfl
        | true => have := isFace_dn hx2 e; rw [h.ft] at this; cases this
      · cases e : sub s x with
        | false => exact .inl ⟨rfl, .inl hx2⟩
        | true => exact .inr (by rw [Nat.or_comm]; exact (h.star hl hs64 hx2 e).1)
  rw [e, max_face hC]
/-- facets around s -/
theorem FlipH.facet (h : FlipH l s t) (hC : Cpx m l) (hs64 : s < 64) (ht64 : t < 64) {f : Nat} (hf : f ∈ l) (hsf : sub s f = true) : sz f + 1 = sz (s ||| t) := by
  have hl := hC.lt64
  obtain ⟨_, hanti⟩ := cpx_parts hC
  obtain ⟨h1, h2⟩ := h.star hl hs64 (isFace_iff.2 ⟨f, hf, sub_refl f⟩) hsf
  obtain ⟨j, hj1, hj2⟩ := not_sub h2
  have hU : s ||| t < 64 := or_lt64 hs64 ht64
  have hUj : (s ||| t).testBit j = true := by rw [Nat.testBit_or, hj1]; simp
  have hx : sub ((s ||| t) ^^^ 2 ^ j) (s ||| t) = true := sub_iff.2 fun q hq => by
    rw [xor_bit] at hq
    by_cases e : j = q
    · subst e; exact hUj
    · simpa [e] using hq
  have hxj : ((s ||| t) ^^^ 2 ^ j).testBit j = false := by rw [xor_bit, hUj]; simp
  have hface := isFace_dn (h.fill ht64 hx hj1 hxj) (sub_or_left _ s)
  obtain ⟨g, hg, hxg⟩ := isFace_iff.1 hface
  have hfx : sub f ((s ||| t) ^^^ 2 ^ j) = true := sub_iff.2 fun q hq => by
    rw [xor_bit, sub_iff.1 h1 q hq]
    have : ¬ j = q := fun e => by subst e; rw [hj2] at hq; cases hq
    simp [this]
  have := hanti f hf g hg (sub_trans hfx hxg)
  subst this
  rw [sub_antisymm hfx hxg]
  exact (sz_flip hU (bit_six hU hUj) hUj).symm
/-- sizes after a flip -/
theorem flip_sizes (hC : Cpx m l) (h : FlipH l s t) (hs : s < 2 ^ m) (ht : t < 2 ^ m) (hp : pureB l = true) : pureB (maxL (flipFam l m s t)) = true ∧ topTo (flipFam l m s t) 64 = topTo (isFace l) 64 := by
  have h64 := pow_le64 hC.six
  have hs64 : s < 64 := by omega
  have ht64 : t < 64 := by omega
  have hl := hC.lt64
  have hU : s ||| t < 64 := or_lt64 hs64 ht64
  obtain ⟨D, hD⟩ := pure_iff.1 hp
  obtain ⟨f0, hf0, hsf0⟩ := isFace_iff.1 h.fs
  have hDU : D + 1 = sz (s ||| t) := by rw [← hD f0 hf0]; exact h.facet hC hs64 ht64 hf0 hsf0
  -- a subset of both that lacks a point of s
  have hy : ∀ i, s.testBit i = true → ((s ||| t) ^^^ 2 ^ i) < 64 ∧ flipFam l m s t ((s ||| t) ^^^ 2 ^ i) = true ∧ sz ((s ||| t) ^^^ 2 ^ i) = D := fun i hi => by
    have hUi : (s ||| t).testBit i = true := by rw [Nat.testBit_or, hi]; simp
    have hi6 := bit_six hU hUi
    have h1 := sz_flip hU hi6 hUi
    refine ⟨(bitB _ hU i hi6 hUi).1, ?_, by omega⟩
    rw [flip_fam h hs ht, Bool.and_eq_true, Bool.or_eq_true, Bool.not_eq_true']
    refine ⟨?_, .inr (sub_iff.2 fun q hq => ?_)⟩
    · cases e : sub s ((s ||| t) ^^^ 2 ^ i) with
      | false => rfl
      | true => have := sub_iff.1 e i hi; rw [xor_bit, hUi] at this; simp at this
    · rw [xor_bit] at hq
      by_cases e : i = q
      · subst e; exact hUi
      · simpa [e] using hq
  have hg : ∀ g ∈ maxL (flipFam l m s t), sz g = D := fun g hg => by
    obtain ⟨g64, gF, gm⟩ := mem_maxL.1 hg
    have hF := gF
    rw [flip_fam h hs ht, Bool.and_eq_true, Bool.or_eq_true, Bool.not_eq_true'] at hF
    have key : sub g (s ||| t) = true → sz g = D := fun hgU => by
      obtain ⟨i, hi1, hi2⟩ := not_sub hF.1
      obtain ⟨y1, y2, y3⟩ := hy i hi1
      rw [gm _ y1 y2 (sub_iff.2 fun q hq => ?_)]
      · exact y3
      · rw [xor_bit, sub_iff.1 hgU q hq]
        have : ¬ i = q := fun e => by subst e; rw [hi2] at hq; cases hq
        simp [this]
    rcases hF.2 with h2 | h2
    · obtain ⟨f, hf, hgf⟩ := isFace_iff.1 h2
      cases e : sub s f with
      | false =>
        rw [gm f (hl f hf) (by rw [flip_fam h hs ht, e]; simp; exact .inl (isFace_iff.2 ⟨f, hf, sub_refl f⟩)) hgf]
        exact hD f hf
      | true => exact key (sub_trans hgf (h.star hl hs64 (isFace_iff.2 ⟨f, hf, sub_refl f⟩) e).1)
    · exact key h2
  refine ⟨pure_iff.2 ⟨D, hg⟩, Nat.le_antisymm (top_of fun x hx hxF => ?_) (top_of fun x hx hxf => ?_)⟩
  · obtain ⟨g, hg1, hxg⟩ := max_above x hx hxF
    have := sz_mono (mem_maxL.1 hg1).1 hxg
    exact ⟨f0, hl f0 hf0, isFace_iff.2 ⟨f0, hf0, sub_refl f0⟩, by rw [hD f0 hf0, ← hg g hg1]; exact this⟩
  · obtain ⟨f, hf, hxf⟩ := isFace_iff.1 hxf
    obtain ⟨i, hi⟩ := some_bit h.s0
    obtain ⟨y1, y2, y3⟩ := hy i hi
    refine ⟨_, y1, y2, ?_⟩
    have := sz_mono (hl f hf) hxf
    rw [y3, ← hD f hf]; exact this
/-- all that a flip keeps -/
theorem flip_keeps (hC : Cpx m l) (h : FlipH l s t) (hs : s < 2 ^ m) (ht : t < 2 ^ m) (hp : pureB l = true) :
    pureB (maxL (flipFam l m s t)) = true ∧ topTo (isFace (maxL (flipFam l m s t))) 64 = topTo (isFace l) 64 ∧ (∀ pr, Prm pr → holesL pr (isFace (maxL (flipFam l m s t))) = holesL pr (isFace l)) ∧ eul (isFace (maxL (flipFam l m s t))) = eul (isFace l) := by
  obtain ⟨h1, h2⟩ := flip_sizes hC h hs ht hp
  have ht2 : topTo (isFace (maxL (flipFam l m s t))) 64 = topTo (isFace l) 64 := by rw [top_congr (fun x hx => face_max dn_flip hx), h2]
  have hh : ∀ pr, Prm pr → ∀ k, holeN pr (isFace (maxL (flipFam l m s t))) k = holeN pr (isFace l) k := fun pr hpr k => by
    rw [holes_congr (fun x hx => face_max dn_flip hx), flip_holes hpr hC.six hC.lt64 hs ht h]
  exact ⟨h1, ht2, fun pr hpr => holesL_congr ht2 (hh pr hpr), eul_same (.inl rfl) (dn_isFace _) (dn_isFace _) (hh 2 (.inl rfl))⟩
end
end Go.Proofs.YtihfhfihladlcaaGreatDoor

/- Closed chained complexes of triangles: cycles of triangles, holes of points, the Euler number. Plain. -/
namespace Go.Proofs.YtihfhfihladlcaaGreatDoor
set_option maxRecDepth 20000

/-! ### connected complexes have no hole of one point -/
theorem edge_ij : ∀ i, i < 6 → ∀ j, j < 6 → ∀ u, u < 64 → i ≠ j → sgnF u (2 ^ i ||| 2 ^ j) * sgnF (2 ^ j) (2 ^ i ||| 2 ^ j) = (if u = 2 ^ j then 1 else 0) - (if u = 2 ^ i then 1 else 0) := by decide +kernel
theorem pt_pow : ∀ v, v < 64 → sz v = 1 → ∃ i, i < 6 ∧ v = 2 ^ i := by decide +kernel
theorem edge_or : ∀ e, e < 64 → ∀ i, i < 6 → ∀ j, j < 6 → (sz e = 2 ∧ sub (2 ^ i) e = true ∧ sub (2 ^ j) e = true ∧ i ≠ j) → e = 2 ^ i ||| 2 ^ j := by decide +kernel
theorem edge_pt (e : Nat) (he : e < 64) (h2 : sz e = 2) (v : Nat) (hv : v < 64) (h3 : sz v = 1 ∧ sub v e = true) (w : Nat) (hw : w < 64) (h4 : sz w = 1 ∧ sub w e = true ∧ v ≠ w) (u : Nat) (hu : u < 64) : sgnF u e * sgnF w e = (if u = w then 1 else 0) - (if u = v then 1 else 0) := by
  obtain ⟨i, hi, rfl⟩ := pt_pow v hv h3.1
  obtain ⟨j, hj, rfl⟩ := pt_pow w hw h4.1
  have hij : i ≠ j := fun e => h4.2.2 (by rw [e])
  rw [edge_or e he i hi j hj ⟨h2, h3.2, h4.2.1, hij⟩]
  exact edge_ij i hi j hj u hu hij
theorem bnd_zero (u : Nat) : bnd (fun _ => 0) u = 0 := by
  unfold bnd
  rw [sm_congr 64 (h := fun _ => 0) (fun _ _ => Int.mul_zero _)]
  exact sm_zero 64
theorem bnd_one {e : Nat} (he : e < 64) (c : Int) (u : Nat) : bnd (fun t => if t = e then c else 0) u = sgnF u e * c := by
  unfold bnd
  rw [sm_congr 64 (h := fun t => if t = e then sgnF u e * c else 0) (fun t _ => by
    show sgnF u t * (if t = e then c else 0) = if t = e then sgnF u e * c else 0
    by_cases h : t = e
    · rw [if_pos h, if_pos h, h]
    · rw [if_neg h, if_neg h, Int.mul_zero]), sm_single, if_pos he]
theorem dvd_of_mod {a b p : Int} (h : a % p = b % p) : p ∣ a - b := Int.dvd_of_emod_eq_zero (Int.emod_eq_emod_iff_emod_sub_eq_zero.1 h)
/-- a chain of edges from one point to another one -/
def Path (p : Nat) (A : Nat → Bool) (v0 v : Nat) : Prop := ∃ x, Chn p A 2 x ∧ ∀ u, u < 64 → (p : Int) ∣ bnd x u - ((if u = v then 1 else 0) - (if u = v0 then 1 else 0))
theorem zero_chn {p : Nat} (hp : 2 ≤ p) (A : Nat → Bool) (k : Nat) : Chn p A k (fun _ => 0) := ⟨fun _ => ⟨by omega, by omega⟩, fun _ _ => rfl⟩
theorem Path.refl {p : Nat} (hp : 2 ≤ p) (A : Nat → Bool) (v : Nat) : Path p A v v :=
  ⟨fun _ => 0, zero_chn hp A 2, fun u _ => ⟨0, by rw [bnd_zero, Int.sub_self]; simp⟩⟩
theorem Path.step {p : Nat} (hp : 2 ≤ p) {A : Nat → Bool} {v0 v w e : Nat} (h : Path p A v0 v) (he : e < 64) (hA : A e = true) (h2 : sz e = 2) (hv : v < 64 ∧ sz v = 1 ∧ sub v e = true) (hw : w < 64 ∧ sz w = 1 ∧ sub w e = true) (hne : v ≠ w) : Path p A v0 w := by
  obtain ⟨x, hx, hb⟩ := h
  have hpp : (0 : Int) < p := by omega
  refine ⟨fun t => (x t + (if t = e then sgnF w e else 0)) % (p : Int), ⟨fun t => ⟨Int.emod_nonneg _ (by omega), Int.emod_lt_of_pos _ hpp⟩, fun t ht => ?_⟩, fun u hu => ?_⟩
  · show (x t + (if t = e then sgnF w e else 0)) % (p : Int) = 0
    rw [hx.off t ht, if_neg (by rintro rfl; exact ht ⟨he, hA, h2⟩)]; simp
  · have h1 := dvd_of_mod (bnd_mod p (fun t => x t + (if t = e then sgnF w e else 0)) u)
    rw [bnd_add, bnd_one he, edge_pt e he h2 v hv.1 hv.2 w hw.1 ⟨hw.2.1, hw.2.2, hne⟩ u hu] at h1
    obtain ⟨q1, e1⟩ := h1
    obtain ⟨q2, e2⟩ := hb u hu
    exact ⟨q1 + q2, by rw [Int.mul_add]; omega⟩
theorem hole_conn {p : Nat} (hp : Prm p) {A : Nat → Bool} (hd : Dn A) {v0 : Nat} (hc : ∀ v, v < 64 → A v = true → sz v = 1 → Path p A v0 v) : holeN p A 1 = 0 := by
  have hp2 := prm_pos hp
  have hpp : (0 : Int) < p := by omega
  refine exact_hole hp hd fun y hy => ?_
  have hex : ∀ v, ∃ x : Nat → Int, Chn p A 2 x ∧ ((v < 64 ∧ A v = true ∧ sz v = 1) → ∀ u, u < 64 → (p : Int) ∣ bnd x u - ((if u = v then 1 else 0) - (if u = v0 then 1 else 0))) := fun v => by
    by_cases h : v < 64 ∧ A v = true ∧ sz v = 1
    · obtain ⟨x, h1, h2⟩ := hc v h.1 h.2.1 h.2.2
      exact ⟨x, h1, fun _ => h2⟩
    · exact ⟨fun _ => 0, zero_chn hp2 A 2, fun hh => absurd hh h⟩
  obtain ⟨X, hX⟩ := Classical.axiomOfChoice hex
  refine ⟨fun t => sm (fun v => y v * X v t) 64 % (p : Int), ⟨fun t => ⟨Int.emod_nonneg _ (by omega), Int.emod_lt_of_pos _ hpp⟩, fun t ht => ?_⟩, ?_⟩
  · show sm (fun v => y v * X v t) 64 % (p : Int) = 0
    rw [sm_congr 64 (h := fun _ => 0) (fun v _ => by rw [(hX v).1.off t ht, Int.mul_zero]), sm_zero]; simp
  · funext u
    unfold bdM
    by_cases hu : u < 64
    · rw [if_pos hu, bnd_mod p (fun t => sm (fun v => y v * X v t) 64) u]
      have e1 : bnd (fun t => sm (fun v => y v * X v t) 64) u = sm (fun v => y v * bnd (X v) u) 64 := by
        unfold bnd
        rw [sm_congr 64 (h := fun t => sm (fun v => y v * (sgnF u t * X v t)) 64) (fun t _ => by rw [← sm_mul]; exact sm_congr 64 fun v _ => Int.mul_left_comm _ _ _), sm_swap (fun t v => y v * (sgnF u t * X v t)) 64 64]
        exact sm_congr 64 fun v _ => sm_mul _ _ _
      have e2 : (p : Int) ∣ sm (fun v => y v * bnd (X v) u) 64 - sm (fun v => y v * ((if u = v then 1 else 0) - (if u = v0 then 1 else 0))) 64 := sm_dvd _ _ _ (fun v => by
        by_cases hv : v < 64 ∧ A v = true ∧ sz v = 1
        · obtain ⟨q, hq⟩ := (hX v).2 hv u hu
          exact ⟨y v * q, by rw [← Int.mul_sub, hq, Int.mul_left_comm]⟩
        · rw [hy.off v hv]; simp) 64
      have e3 : sm (fun v => y v * ((if u = v then 1 else 0) - (if u = v0 then 1 else 0))) 64 = y u - sm y 64 * (if u = v0 then 1 else 0) := by
        rw [sm_congr 64 (h := fun v => (if v = u then y u else 0) - y v * (if u = v0 then 1 else 0)) (fun v _ => by
          rw [Int.mul_sub]
          by_cases h : v = u
          · rw [if_pos h, if_pos h.symm, h, Int.mul_one]
          · rw [if_neg h, if_neg (fun hh => h hh.symm), Int.mul_zero]), sm_sub, sm_single, if_pos hu, sm_mulr]
      have e4 : (p : Int) ∣ sm y 64 := by
        have h0 := hy.cyc 0 (by omega)
        unfold bnd at h0
        rw [sm_congr 64 (h := y) (fun t ht => by
          by_cases hv : A t = true ∧ sz t = 1
          · rw [sgn_pt t ht hv.2 0 (by omega), if_pos rfl, Int.one_mul]
          · rw [hy.off t (fun hh => hv hh.2), Int.mul_zero])] at h0
        exact Int.dvd_of_emod_eq_zero h0
      rw [e1]
      rw [e3] at e2
      obtain ⟨q2, h2⟩ := e2
      obtain ⟨q4, h4⟩ := e4
      have e5 : (p : Int) ∣ sm (fun v => y v * bnd (X v) u) 64 - y u := ⟨q2 - q4 * (if u = v0 then 1 else 0), by
        rw [Int.mul_sub, ← Int.mul_assoc, ← h4]; omega⟩
      rw [mod_of_dvd e5]
      exact mod_self (hy.bd u)
    · rw [if_neg hu, hy.off u (fun hh => hu hh.1)]

/-! ### closed chained complexes of triangles -/
structure Srf (l : List Nat) : Prop where
  ne : l ≠ []
  tri : ∀ f ∈ l, f < 64 ∧ sz f = 3
  nd : l.Nodup
  two : ∀ e, e < 64 → sz e = 2 → isFace l e = true → (l.filter fun f => sub e f).length = 2
  con : ∀ P : Nat → Prop, (∀ f ∈ l, ∀ g ∈ l, sz (f &&& g) = 2 → P f → P g) → P (nthN l 0) → ∀ f ∈ l, P f

theorem sub_szE : ∀ s, s < 64 → ∀ t, t < 64 → sub s t = true ∧ sz s = sz t → s = t := by decide +kernel
theorem sub_szL : ∀ s, s < 64 → ∀ t, t < 64 → sub s t = true → sz s ≤ sz t := by decide +kernel
theorem and_fact : ∀ f, f < 64 → ∀ g, g < 64 → f &&& g < 64 ∧ sub (f &&& g) f = true ∧ sub (f &&& g) g = true := by decide +kernel
theorem sub_tr : ∀ e, e < 64 → ∀ f, f < 64 → sub e f = true → ∀ u, u < 64 → sub u e = true → sub u f = true := by decide +kernel
theorem sgn_val {u t : Nat} (h : sub u t = true) (h2 : sz t = sz u + 1) : sgnF u t = 1 ∨ sgnF u t = -1 := by
  unfold sgnF
  rw [if_pos (by simp [h, h2])]
  omega
theorem srf_face {l : List Nat} (_h : ∀ f ∈ l, f < 64) {u : Nat} : isFace l u = true ↔ ∃ f ∈ l, sub u f = true := by unfold isFace; rw [List.any_eq_true]
theorem srf_dn {l : List Nat} (h : ∀ f ∈ l, f < 64) : Dn (isFace l) := fun t ht hA u hu => by
  obtain ⟨f, hf, hs⟩ := (srf_face h).1 hA
  have hu64 : u < 64 := by
    unfold sub at hu
    have : u &&& t = u := by simpa using hu
    have := Nat.and_le_right (n := u) (m := t)
    omega
  exact (srf_face h).2 ⟨f, hf, sub_tr t ht f (h f hf) hs u hu64 hu⟩
section
variable {l : List Nat}
theorem Srf.l64 (h : Srf l) : ∀ f ∈ l, f < 64 := fun f hf => (h.tri f hf).1
theorem Srf.top (h : Srf l) {t : Nat} (ht : t < 64) (hA : isFace l t = true) : sz t ≤ 3 ∧ (sz t = 3 → t ∈ l) := by
  obtain ⟨f, hf, hs⟩ := (srf_face h.l64).1 hA
  obtain ⟨f6, f3⟩ := h.tri f hf
  exact ⟨by have := sub_szL t ht f f6 hs; omega, fun h3 => by rw [sub_szE t ht f f6 ⟨hs, by omega⟩]; exact hf⟩
theorem Srf.mem3 (h : Srf l) {t : Nat} : t ∈ lvlTo (isFace l) 64 3 ↔ t ∈ l := by
  rw [mem_lvl2]
  exact ⟨fun ⟨h1, h2, h3⟩ => (h.top h1 h2).2 h3, fun ht => ⟨(h.tri t ht).1, (srf_face h.l64).2 ⟨t, ht, by unfold sub; simp⟩, (h.tri t ht).2⟩⟩
theorem Srf.off (h : Srf l) {p : Nat} {x : Nat → Int} (hx : Cyc p (isFace l) 3 x) : ∀ t, t ∉ l → x t = 0 := fun t ht => hx.off t fun hh => ht (h.mem3.1 (mem_lvl2.2 hh))
theorem Srf.high (h : Srf l) {k : Nat} (hk : 4 ≤ k) : lvlTo (isFace l) 64 k = [] := List.eq_nil_iff_forall_not_mem.2 fun t ht => by
  obtain ⟨h1, h2, h3⟩ := mem_lvl2.1 ht
  have := (h.top h1 h2).1; omega
theorem two_sum {g : Nat → Int} {F G : Nat} (hF : F < 64) (hG : G < 64) (hne : F ≠ G) (hz : ∀ t, t < 64 → t ≠ F → t ≠ G → g t = 0) : sm g 64 = g F + g G := by
  rw [sm_congr 64 (h := fun t => (if t = F then g F else 0) + (if t = G then g G else 0)) (fun t ht => by
    by_cases e : t = F
    · subst e; rw [if_pos rfl, if_neg hne, Int.add_zero]
    · by_cases e2 : t = G
      · subst e2; rw [if_pos rfl, if_neg e, Int.zero_add]
      · rw [if_neg e, if_neg e2, hz t ht e e2]; rfl), sm_add, sm_single, sm_single, if_pos hF, if_pos hG]
theorem Srf.pair (h : Srf l) {e : Nat} (he : e < 64) (h2 : sz e = 2) (hA : isFace l e = true) : ∃ F G, F ∈ l ∧ G ∈ l ∧ F ≠ G ∧ sub e F = true ∧ sub e G = true ∧ ∀ t ∈ l, sub e t = true → t = F ∨ t = G := by
  have hl := h.two e he h2 hA
  have hn := h.nd.filter (fun f => sub e f)
  obtain ⟨F, G, hFG⟩ : ∃ F G, l.filter (fun f => sub e f) = [F, G] := by
    cases hh : l.filter (fun f => sub e f) with
    | nil => rw [hh] at hl; simp at hl
    | cons a r => cases r with
      | nil => rw [hh] at hl; simp at hl
      | cons b r2 => cases r2 with
        | nil => exact ⟨a, b, rfl⟩
        | cons c r3 => rw [hh] at hl; simp at hl
  have hm : ∀ t, t ∈ l.filter (fun f => sub e f) ↔ t ∈ l ∧ sub e t = true := fun t => List.mem_filter
  rw [hFG] at hn hm
  obtain ⟨a1, a2⟩ := (hm F).1 (by simp)
  obtain ⟨b1, b2⟩ := (hm G).1 (by simp)
  exact ⟨F, G, a1, b1, by simpa using hn, a2, b2, fun t ht hs => by simpa using (hm t).2 ⟨ht, hs⟩⟩
/-- the border of what lies on triangles, at an edge of two of them -/
theorem Srf.bndE (h : Srf l) {z : Nat → Int} (hz : ∀ t, t ∉ l → z t = 0) {e F G : Nat} (he : e < 64) (h2 : sz e = 2) (hF : F ∈ l) (hG : G ∈ l) (hne : F ≠ G) (hsF : sub e F = true) (hsG : sub e G = true) : bnd z e = sgnF e F * z F + sgnF e G * z G := by
  have hA : isFace l e = true := (srf_face h.l64).2 ⟨F, hF, hsF⟩
  obtain ⟨F', G', _, _, _, _, _, hall⟩ := h.pair he h2 hA
  refine two_sum (h.tri F hF).1 (h.tri G hG).1 hne fun t ht h3 h4 => ?_
  by_cases hm : t ∈ l
  · by_cases hs : sgnF e t = 0
    · rw [hs, Int.zero_mul]
    · have := hall t hm (sgn_zero hs).1
      have := hall F hF hsF
      have := hall G hG hsG
      omega
  · rw [hz t hm, Int.mul_zero]
theorem Srf.bnd0 (h : Srf l) {z : Nat → Int} (hz : ∀ t, t ∉ l → z t = 0) {u : Nat} (hn : ¬ (sz u = 2 ∧ isFace l u = true)) : bnd z u = 0 := by
  unfold bnd
  rw [sm_congr 64 (h := fun _ => 0) (fun t _ => by
    by_cases hm : t ∈ l
    · by_cases hs : sgnF u t = 0
      · rw [hs, Int.zero_mul]
      · obtain ⟨h1, h2⟩ := sgn_zero hs
        exact absurd ⟨by have := (h.tri t hm).2; omega, (srf_face h.l64).2 ⟨t, hm, h1⟩⟩ hn
    · rw [hz t hm, Int.mul_zero])]
  exact sm_zero 64
theorem Srf.next (h : Srf l) {p : Nat} (hp : Prm p) {x : Nat → Int} (hx : Cyc p (isFace l) 3 x) {F G : Nat} (hF : F ∈ l) (hG : G ∈ l) (ha : sz (F &&& G) = 2) :
    (x F = 0 → x G = 0) ∧ ((x F = 1 ∨ x F = p - 1) → (x G = 1 ∨ x G = p - 1)) := by
  obtain ⟨f6, f3⟩ := h.tri F hF
  obtain ⟨g6, g3⟩ := h.tri G hG
  obtain ⟨e6, s1, s2⟩ := and_fact F f6 G g6
  have hne : F ≠ G := by
    rintro rfl
    rw [Nat.and_self] at ha; omega
  have hb := hx.cyc _ e6
  rw [h.bndE (h.off hx) e6 ha hF hG hne s1 s2] at hb
  have v1 := sgn_val s1 (by omega); have v2 := sgn_val s2 (by omega)
  have b1 := hx.bd F; have b2 := hx.bd G
  rcases v1 with v1 | v1 <;> rcases v2 with v2 | v2 <;> rw [v1, v2] at hb <;> rcases hp with rfl | rfl | rfl <;> constructor <;> intro hh <;> omega
theorem Srf.zero (h : Srf l) {p : Nat} (hp : Prm p) {x : Nat → Int} (hx : Cyc p (isFace l) 3 x) (h0 : x (nthN l 0) = 0) : ∀ t, x t = 0 := fun t => by
  by_cases ht : t ∈ l
  · exact h.con (fun t => x t = 0) (fun f hf g hg ha => (h.next hp hx hf hg ha).1) h0 t ht
  · exact h.off hx t ht
theorem bnd_mulc (c : Int) (x : Nat → Int) (u : Nat) : bnd (fun t => c * x t) u = c * bnd x u := by
  unfold bnd
  rw [← sm_mul]
  exact sm_congr 64 fun t _ => Int.mul_left_comm _ _ _
theorem Srf.scale (_h : Srf l) {p : Nat} (hp : 2 ≤ p) {x : Nat → Int} (hx : Cyc p (isFace l) 3 x) (c : Int) : Cyc p (isFace l) 3 (fun t => c * x t % (p : Int)) := by
  have hpp : (0 : Int) < p := by omega
  refine ⟨⟨fun t => ⟨Int.emod_nonneg _ (by omega), Int.emod_lt_of_pos _ hpp⟩, fun t ht => by show c * x t % (p : Int) = 0; rw [hx.off t ht]; simp⟩, fun u hu => ?_⟩
  rw [bnd_mod p (fun t => c * x t) u, bnd_mulc, Int.mul_emod, hx.cyc u hu]; simp
theorem Srf.dim (h : Srf l) {p : Nat} (hp : Prm p) :
    (∃ z, Cyc p (isFace l) 3 z ∧ z (nthN l 0) = 1 ∧ Dim p (Cyc p (isFace l) 3) 1) ∨ ((∀ z, Cyc p (isFace l) 3 z → ∀ t, z t = 0) ∧ Dim p (Cyc p (isFace l) 3) 0) := by
  have hp2 := prm_pos hp
  have hpp : (0 : Int) < p := by omega
  have hf0 : nthN l 0 ∈ l := nthN_mem2 (List.length_pos_iff.2 h.ne)
  by_cases hz : ∀ z, Cyc p (isFace l) 3 z → z (nthN l 0) = 0
  · refine .inr ⟨fun z hc => h.zero hp hc (hz z hc), fun _ => [], fun _ _ => 0, fun x hx => ⟨by simp [vecs], funext fun t => (h.zero hp hx (hz x hx) t).symm⟩, fun v hv => ⟨⟨zero_chn hp2 _ _, fun u hu => by rw [bnd_zero]; simp⟩, ?_⟩⟩
    have := ((vecs_mem _ _ _).1 hv).1
    exact (List.length_eq_zero_iff.1 this).symm
  · obtain ⟨y, hy⟩ := Classical.not_forall.1 hz
    obtain ⟨hyc, hy0⟩ := Classical.not_imp.1 hy
    obtain ⟨z, hzc, hz1⟩ : ∃ z, Cyc p (isFace l) 3 z ∧ z (nthN l 0) = 1 := ⟨_, h.scale hp2 hyc (invM p (y (nthN l 0))), by
      show invM p (y (nthN l 0)) * y (nthN l 0) % (p : Int) = 1
      rw [Int.mul_comm]; exact invM_ok hp (hyc.bd _).1 (hyc.bd _).2 hy0⟩
    refine .inl ⟨z, hzc, hz1, fun x => [x (nthN l 0)], fun v t => nth v 0 * z t % (p : Int), fun x hx => ⟨(vecs_mem _ _ _).2 ⟨rfl, fun a ha => by rw [List.mem_singleton] at ha; subst ha; exact hx.bd _⟩, ?_⟩, fun v hv => ⟨h.scale hp2 hzc _, ?_⟩⟩
    · have hs : Cyc p (isFace l) 3 (fun t => (x t - x (nthN l 0) * z t) % (p : Int)) := by
        refine ⟨⟨fun t => ⟨Int.emod_nonneg _ (by omega), Int.emod_lt_of_pos _ hpp⟩, fun t ht => by show (x t - x (nthN l 0) * z t) % (p : Int) = 0; rw [hx.off t ht, hzc.off t ht]; simp⟩, fun u hu => ?_⟩
        rw [bnd_mod p (fun t => x t - x (nthN l 0) * z t) u, bnd_sub x (fun t => x (nthN l 0) * z t), bnd_mulc, Int.sub_emod, Int.mul_emod, hx.cyc u hu, hzc.cyc u hu]; simp
      funext t
      show nth [x (nthN l 0)] 0 * z t % (p : Int) = x t
      have h0 := h.zero hp hs (by show (x (nthN l 0) - x (nthN l 0) * z (nthN l 0)) % (p : Int) = 0; rw [hz1, Int.mul_one, Int.sub_self]; simp) t
      have h1 := Int.emod_eq_emod_iff_emod_sub_eq_zero.2 h0
      rw [mod_self (hx.bd t)] at h1
      exact h1.symm
    · have hv1 := ((vecs_mem _ _ _).1 hv).1
      show [nth v 0 * z (nthN l 0) % (p : Int)] = v
      rw [hz1, Int.mul_one, mod_self (nth_bd hv (by omega))]
      cases v with
      | nil => simp at hv1
      | cons a r => cases r with
        | nil => rfl
        | cons b r2 => simp at hv1
/-- an orientation -/
def Ori (l : List Nat) : Prop := ∃ o : Nat → Int, (∀ t, t ∉ l → o t = 0) ∧ (∀ t ∈ l, o t = 1 ∨ o t = -1) ∧ ∀ u, u < 64 → bnd o u = 0
theorem Srf.ori_of (h : Srf l) {p : Nat} (hp : p = 3 ∨ p = 5) {z : Nat → Int} (hz : Cyc p (isFace l) 3 z) (h1 : z (nthN l 0) = 1) : Ori l := by
  have hP : Prm p := .inr hp
  have hv : ∀ t ∈ l, z t = 1 ∨ z t = p - 1 := fun t ht => h.con (fun t => z t = 1 ∨ z t = p - 1) (fun f hf g hg ha => (h.next hP hz hf hg ha).2) (.inl h1) t ht
  refine ⟨fun t => if z t = 0 then 0 else if z t = 1 then 1 else -1, fun t ht => if_pos (h.off hz t ht), fun t ht => ?_, fun u hu => ?_⟩
  · show (if z t = 0 then (0 : Int) else if z t = 1 then 1 else -1) = 1 ∨ _ = -1
    rcases hv t ht with e | e
    · left; rw [e]; rfl
    · right; show (if z t = 0 then (0 : Int) else if z t = 1 then 1 else -1) = -1; rw [if_neg (by omega), if_neg (by omega)]
  · by_cases hn : sz u = 2 ∧ isFace l u = true
    · obtain ⟨F, G, hF, hG, hne, sF, sG, _⟩ := h.pair hu hn.1 hn.2
      rw [h.bndE (fun t ht => if_pos (h.off hz t ht)) hu hn.1 hF hG hne sF sG]
      have hb := hz.cyc u hu
      rw [h.bndE (h.off hz) hu hn.1 hF hG hne sF sG] at hb
      have v1 := sgn_val sF (by have := (h.tri F hF).2; omega); have v2 := sgn_val sG (by have := (h.tri G hG).2; omega)
      have a1 : (if z F = 0 then (0 : Int) else if z F = 1 then 1 else -1) = if z F = 1 then 1 else -1 := if_neg (by have := hv F hF; omega)
      have a2 : (if z G = 0 then (0 : Int) else if z G = 1 then 1 else -1) = if z G = 1 then 1 else -1 := if_neg (by have := hv G hG; omega)
      rw [a1, a2]
      have h3 := hv F hF; have h4 := hv G hG
      rcases v1 with v1 | v1 <;> rcases v2 with v2 | v2 <;> rw [v1, v2] at hb <;> rw [v1, v2] <;> rcases h3 with h3 | h3 <;> rcases h4 with h4 | h4 <;> rw [h3, h4] at hb <;> rw [h3, h4] <;> rcases hp with rfl | rfl <;> simp at hb ⊢
    · exact h.bnd0 (fun t ht => if_pos (h.off hz t ht)) hn
theorem Srf.ori_to (h : Srf l) {p : Nat} (hp : Prm p) (ho : Ori l) : ∃ z, Cyc p (isFace l) 3 z ∧ z (nthN l 0) ≠ 0 := by
  obtain ⟨o, h1, h2, h3⟩ := ho
  have hp2 := prm_pos hp
  have hpp : (0 : Int) < p := by omega
  refine ⟨fun t => o t % (p : Int), ⟨⟨fun t => ⟨Int.emod_nonneg _ (by omega), Int.emod_lt_of_pos _ hpp⟩, fun t ht => ?_⟩, fun u hu => by rw [bnd_mod p o u, h3 u hu]; simp⟩, ?_⟩
  · show o t % (p : Int) = 0
    rw [h1 t (fun hh => ht (mem_lvl2.1 (h.mem3.2 hh)))]; simp
  · have := h2 _ (nthN_mem2 (List.length_pos_iff.2 h.ne))
    show o (nthN l 0) % (p : Int) ≠ 0
    rcases this with e | e <;> rw [e] <;> rcases hp with rfl | rfl | rfl <;> decide
end
end Go.Proofs.YtihfhfihladlcaaGreatDoor

/- Closed chained complexes of triangles: what their holes and counts are. Plain. -/
namespace Go.Proofs.YtihfhfihladlcaaGreatDoor
set_option maxRecDepth 20000
section
variable {l : List Nat}
theorem pt_of : ∀ e, e < 64 → (sz e = 2 ∨ sz e = 3) → ∃ v, v < 64 ∧ sz v = 1 ∧ sub v e = true := by decide +kernel
theorem tri_edge0 : ∀ g, g < 64 → ∀ i, i < 6 → ∀ j, j < 6 → ((sub (2 ^ i) g && sub (2 ^ j) g && i != j) = true → (decide ((2 ^ i ||| 2 ^ j) < 64) && sz (2 ^ i ||| 2 ^ j) == 2 && sub (2 ^ i ||| 2 ^ j) g && sub (2 ^ i) (2 ^ i ||| 2 ^ j) && sub (2 ^ j) (2 ^ i ||| 2 ^ j)) = true) := by decide +kernel
theorem tri_edge (g : Nat) (hg : g < 64) (i : Nat) (hi : i < 6) (j : Nat) (hj : j < 6) (h : sub (2 ^ i) g = true ∧ sub (2 ^ j) g = true ∧ i ≠ j) : (2 ^ i ||| 2 ^ j) < 64 ∧ sz (2 ^ i ||| 2 ^ j) = 2 ∧ sub (2 ^ i ||| 2 ^ j) g = true ∧ sub (2 ^ i) (2 ^ i ||| 2 ^ j) = true ∧ sub (2 ^ j) (2 ^ i ||| 2 ^ j) = true := by
  have := tri_edge0 g hg i hi j hj (by simp [h.1, h.2.1, h.2.2])
  simp only [Bool.and_eq_true, decide_eq_true_eq, beq_iff_eq] at this
  exact ⟨this.1.1.1.1, this.1.1.1.2, this.1.1.2, this.1.2, this.2⟩
theorem Srf.rk4 (h : Srf l) {p : Nat} (hp : Prm p) {k : Nat} (hk : 4 ≤ k) : rk0 p (isFace l) k = 0 := by
  have := (dim_cyc0 hp (srf_dn h.l64) k).1
  rw [h.high hk] at this; simpa using this
theorem Srf.hole4 (h : Srf l) {p : Nat} (hp : Prm p) {k : Nat} (hk : 4 ≤ k) : holeN p (isFace l) k = 0 := by
  unfold holeN
  rw [h.rk4 hp hk, h.rk4 hp (show 4 ≤ k + 1 by omega), h.high hk]; rfl
theorem Srf.holes3 (h : Srf l) {p : Nat} (hp : Prm p) {d : Nat} (hd : Dim p (Cyc p (isFace l) 3) d) : holeN p (isFace l) 3 = d ∧ rk0 p (isFace l) 3 + d = (lvlTo (isFace l) 64 3).length := by
  obtain ⟨h1, h2⟩ := dim_cyc0 hp (srf_dn h.l64) 3
  have := Dim.uniq (prm_pos hp) h2 hd
  unfold holeN
  rw [h.rk4 hp (Nat.le_refl 4)]
  omega
theorem Srf.hole0 (h : Srf l) {p : Nat} (hp : Prm p) : holeN p (isFace l) 0 = 0 := by
  have hf0 : nthN l 0 ∈ l := nthN_mem2 (List.length_pos_iff.2 h.ne)
  obtain ⟨f6, f3⟩ := h.tri _ hf0
  obtain ⟨v, v6, v1, vs⟩ := pt_of _ f6 (.inr f3)
  exact hole_empty hp (srf_dn h.l64) v6 ((srf_face h.l64).2 ⟨_, hf0, vs⟩) v1
theorem Srf.hole1 (h : Srf l) {p : Nat} (hp : Prm p) : holeN p (isFace l) 1 = 0 := by
  have hp2 := prm_pos hp
  have hf0 : nthN l 0 ∈ l := nthN_mem2 (List.length_pos_iff.2 h.ne)
  obtain ⟨f6, f3⟩ := h.tri _ hf0
  obtain ⟨v0, v6, v1, vs⟩ := pt_of _ f6 (.inr f3)
  have tri : ∀ f ∈ l, ∀ w, w < 64 → sz w = 1 → sub w f = true → Path p (isFace l) v0 w → ∀ v, v < 64 → sz v = 1 → sub v f = true → Path p (isFace l) v0 v := by
    intro f hf w w6 w1 ws hw v v6 v1 vs
    by_cases e : w = v
    · rw [← e]; exact hw
    · obtain ⟨i, hi, rfl⟩ := pt_pow w w6 w1
      obtain ⟨j, hj, rfl⟩ := pt_pow v v6 v1
      obtain ⟨a1, a2, a3, a4, a5⟩ := tri_edge f (h.tri f hf).1 i hi j hj ⟨ws, vs, fun hh => e (by rw [hh])⟩
      exact hw.step hp2 a1 ((srf_face h.l64).2 ⟨f, hf, a3⟩) a2 ⟨w6, w1, a4⟩ ⟨v6, v1, a5⟩ e
  have hall : ∀ f ∈ l, ∀ v, v < 64 → sz v = 1 → sub v f = true → Path p (isFace l) v0 v :=
    h.con (fun f => ∀ v, v < 64 → sz v = 1 → sub v f = true → Path p (isFace l) v0 v) (fun f hf g hg ha hR => by
      obtain ⟨e6, s1, s2⟩ := and_fact f (h.tri f hf).1 g (h.tri g hg).1
      obtain ⟨w, w6, w1, ws⟩ := pt_of _ e6 (.inl ha)
      exact tri g hg w w6 w1 (sub_tr _ e6 g (h.tri g hg).1 s2 w w6 ws) (hR w w6 w1 (sub_tr _ e6 f (h.tri f hf).1 s1 w w6 ws)))
      (tri _ hf0 v0 v6 v1 vs (Path.refl hp2 _ v0))
  refine hole_conn hp (srf_dn h.l64) (v0 := v0) fun v v6 hA v1 => ?_
  obtain ⟨f, hf, hs⟩ := (srf_face h.l64).1 hA
  exact hall f hf v v6 v1 hs
theorem Srf.hole2 (h : Srf l) {p : Nat} (hp : Prm p) : 0 ≤ holeN p (isFace l) 2 := by
  have hp2 := prm_pos hp
  have hf0 : nthN l 0 ∈ l := nthN_mem2 (List.length_pos_iff.2 h.ne)
  have hm : ∀ t ∈ lvlTo (isFace l) 64 3, t < 64 ∧ isFace l t = true ∧ sz t = 2 + 1 := fun t ht => mem_lvl2.1 ht
  rcases h.dim hp with ⟨z, _, _, hd⟩ | ⟨hz, hd⟩
  · have h3 := (h.holes3 hp hd).2
    have := inj_le hp (srf_dn h.l64) (k := 2) (S := (lvlTo (isFace l) 64 3).erase (nthN l 0)) ((lvl_nodup _ _).erase _) (fun t ht => hm t (List.mem_of_mem_erase ht)) (fun x hx hs => h.zero hp hx (hs.off _ (fun hh => ((List.Nodup.mem_erase_iff (lvl_nodup _ _)).1 hh).1 rfl)))
    rw [List.length_erase_of_mem (h.mem3.2 hf0)] at this
    have e3 : rk0 p (isFace l) (2 + 1) = rk0 p (isFace l) 3 := rfl
    unfold holeN; omega
  · have h3 := (h.holes3 hp hd).2
    have := inj_le hp (srf_dn h.l64) (k := 2) (S := lvlTo (isFace l) 64 3) (lvl_nodup _ _) hm (fun x hx _ => hz x hx)
    have e3 : rk0 p (isFace l) (2 + 1) = rk0 p (isFace l) 3 := rfl
    unfold holeN; omega
theorem Srf.eulH (h : Srf l) {p : Nat} (hp : Prm p) : eul (isFace l) = holeN p (isFace l) 3 - holeN p (isFace l) 2 := by
  rw [eul_holes hp (srf_dn h.l64)]
  simp only [sm]
  rw [h.hole0 hp, h.hole1 hp, h.hole4 hp (Nat.le_refl 4), h.hole4 hp (show 4 ≤ 5 by omega), h.hole4 hp (show 4 ≤ 6 by omega), show cg 2 = -1 from rfl, show cg 3 = 1 from rfl]
  simp only [Int.mul_zero]
  omega
theorem Srf.mod2 (h : Srf l) : holeN 2 (isFace l) 3 = 1 := by
  have hp : Prm 2 := .inl rfl
  have hf0 : nthN l 0 ∈ l := nthN_mem2 (List.length_pos_iff.2 h.ne)
  have hz : ∀ t, t ∉ l → (fun t => if l.contains t then (1 : Int) else 0) t = 0 := fun t ht => if_neg (by simpa using ht)
  have ho : ∀ t, t ∈ l → (fun t => if l.contains t then (1 : Int) else 0) t = 1 := fun t ht => if_pos (by simpa using ht)
  have hc : Cyc 2 (isFace l) 3 (fun t => if l.contains t then (1 : Int) else 0) := ⟨⟨fun t => by
      show 0 ≤ (if l.contains t then (1 : Int) else 0) ∧ (if l.contains t then (1 : Int) else 0) < ((2 : Nat) : Int)
      by_cases e : l.contains t = true
      · rw [if_pos e]; omega
      · rw [if_neg e]; omega, fun t ht => hz t fun hh => ht (mem_lvl2.1 (h.mem3.2 hh))⟩, fun u hu => by
    by_cases hn : sz u = 2 ∧ isFace l u = true
    · obtain ⟨F, G, hF, hG, hne, sF, sG, _⟩ := h.pair hu hn.1 hn.2
      rw [h.bndE hz hu hn.1 hF hG hne sF sG, show (if l.contains F = true then (1 : Int) else 0) = 1 from ho F hF, show (if l.contains G = true then (1 : Int) else 0) = 1 from ho G hG]
      have v1 := sgn_val sF (by have := (h.tri F hF).2; omega); have v2 := sgn_val sG (by have := (h.tri G hG).2; omega)
      omega
    · rw [h.bnd0 hz hn]; rfl⟩
  rcases h.dim hp with ⟨z, _, _, hd⟩ | ⟨h0, hd⟩
  · exact (h.holes3 hp hd).1
  · have := h0 _ hc (nthN l 0)
    exact absurd (this.symm.trans (ho _ hf0)) (by omega)
theorem Srf.ori3 (h : Srf l) {p : Nat} (hp : p = 3 ∨ p = 5) : (holeN p (isFace l) 3 = 1 ∨ holeN p (isFace l) 3 = 0) ∧ (holeN p (isFace l) 3 = 1 ↔ Ori l) := by
  have hP : Prm p := .inr hp
  rcases h.dim hP with ⟨z, hz, h1, hd⟩ | ⟨h0, hd⟩
  · have e := (h.holes3 hP hd).1
    exact ⟨.inl e, fun _ => h.ori_of hp hz h1, fun _ => e⟩
  · have e := (h.holes3 hP hd).1
    refine ⟨.inr e, fun hh => by rw [e] at hh; omega, fun ho => ?_⟩
    obtain ⟨z, hz, hne⟩ := h.ori_to hP ho
    exact absurd (h0 z hz _) hne
theorem Srf.eul1 (h : Srf l) : eul (isFace l) ≤ 1 ∧ (eul (isFace l) = 1 → holeN 3 (isFace l) 3 = 1) := by
  have e := h.eulH (show Prm 3 from .inr (.inl rfl))
  have h2 := h.hole2 (show Prm 3 from .inr (.inl rfl))
  have h3 := (h.ori3 (.inl rfl)).1
  omega

/-! ### counts -/
theorem tri_edges : ∀ t, t < 64 → sz t = 3 → sm (fun e => if sub e t && sz e == 2 then 1 else 0) 64 = 3 := by decide +kernel
theorem filter_mem_len {l : List Nat} (hnd : l.Nodup) (h6 : ∀ f ∈ l, f < 64) (q : Nat → Bool) : (l.filter q).length = ((List.range 64).filter fun t => l.contains t && q t).length :=
  Nat.le_antisymm
    (len_sub _ _ (hnd.filter _) fun t ht => by
      obtain ⟨h1, h2⟩ := List.mem_filter.1 ht
      exact List.mem_filter.2 ⟨List.mem_range.2 (h6 t h1), by simp [h1, h2]⟩)
    (len_sub _ _ ((List.nodup_range).filter _) fun t ht => by
      obtain ⟨_, h2⟩ := List.mem_filter.1 ht
      simp only [Bool.and_eq_true, List.contains_iff_mem] at h2
      exact List.mem_filter.2 h2)
theorem Srf.counts (h : Srf l) : 3 * (lvlTo (isFace l) 64 3).length = 2 * (lvlTo (isFace l) 64 2).length := by
  have e3 : ((lvlTo (isFace l) 64 3).length : Int) = sm (fun t => if l.contains t then 1 else 0) 64 := by
    unfold lvlTo
    rw [filter_sm]
    refine sm_congr 64 fun t ht => ?_
    have : (isFace l t && sz t == 3) = l.contains t := by
      rw [Bool.eq_iff_iff]
      simp only [Bool.and_eq_true, beq_iff_eq, List.contains_iff_mem]
      exact ⟨fun ⟨a, b⟩ => (h.top ht a).2 b, fun a => ⟨(srf_face h.l64).2 ⟨t, a, by unfold sub; simp⟩, (h.tri t a).2⟩⟩
    rw [this]
  have e2 : ((lvlTo (isFace l) 64 2).length : Int) = sm (fun e => if isFace l e && sz e == 2 then 1 else 0) 64 := by
    unfold lvlTo; rw [filter_sm]
  have key : sm (fun e => sm (fun t => if (l.contains t && sub e t) && sz e == 2 then 1 else 0) 64) 64 = sm (fun t => sm (fun e => if (l.contains t && sub e t) && sz e == 2 then 1 else 0) 64) 64 :=
    sm_swap (fun e t => if (l.contains t && sub e t) && sz e == 2 then 1 else 0) 64 64
  have k1 : sm (fun e => sm (fun t => if (l.contains t && sub e t) && sz e == 2 then 1 else 0) 64) 64 = 2 * sm (fun e => if isFace l e && sz e == 2 then 1 else 0) 64 := by
    rw [← sm_mul]
    refine sm_congr 64 fun e he => ?_
    by_cases h2 : sz e = 2
    · have hb : (sz e == 2) = true := by simp [h2]
      rw [sm_congr 64 (h := fun t => if l.contains t && sub e t then 1 else 0) (fun t _ => by rw [hb, Bool.and_true]), ← filter_sm, ← filter_mem_len h.nd h.l64, hb, Bool.and_true]
      by_cases hA : isFace l e = true
      · rw [if_pos hA, h.two e he h2 hA]; rfl
      · rw [if_neg hA]
        have : l.filter (fun t => sub e t) = [] := List.filter_eq_nil_iff.2 fun t ht hs => hA ((srf_face h.l64).2 ⟨t, ht, hs⟩)
        rw [this]; rfl
    · have hb : (sz e == 2) = false := by simp [h2]
      rw [sm_congr 64 (h := fun _ => 0) (fun t _ => by rw [hb, Bool.and_false]; rfl), sm_zero, hb, Bool.and_false]; rfl
  have k2 : sm (fun t => sm (fun e => if (l.contains t && sub e t) && sz e == 2 then 1 else 0) 64) 64 = 3 * sm (fun t => if l.contains t then 1 else 0) 64 := by
    rw [← sm_mul]
    refine sm_congr 64 fun t ht => ?_
    by_cases hm : t ∈ l
    · have hb : l.contains t = true := by simpa using hm
      rw [sm_congr 64 (h := fun e => if sub e t && sz e == 2 then 1 else 0) (fun e _ => by rw [hb, Bool.true_and]), tri_edges t ht (h.tri t hm).2, hb]; rfl
    · have hb : l.contains t = false := by simpa using hm
      rw [sm_congr 64 (h := fun _ => 0) (fun e _ => by rw [hb, Bool.false_and, Bool.false_and]; rfl), sm_zero, hb]; rfl
  rw [k1, k2, ← e2, ← e3] at key
  omega
theorem Srf.eulLow (h : Srf l) : -6 ≤ eul (isFace l) := by
  have hc := h.counts
  have h0 := (empty_one h.ne).1
  have h2 : (lvlTo (isFace l) 64 2).length ≤ 15 := by
    refine Nat.le_trans (len_sub _ ((List.range 64).filter fun s => sz s == 2) (lvl_nodup _ _) fun t ht => ?_) (by decide +kernel)
    obtain ⟨a, _, b⟩ := mem_lvl2.1 ht
    exact List.mem_filter.2 ⟨List.mem_range.2 a, by simp [b]⟩
  rw [eul_lvl]
  simp only [sm]
  rw [h.high (Nat.le_refl 4), h.high (show 4 ≤ 5 by omega), h.high (show 4 ≤ 6 by omega), h0, show cg 0 = -1 from rfl, show cg 1 = 1 from rfl, show cg 2 = -1 from rfl, show cg 3 = 1 from rfl]
  simp only [List.length_nil]
  omega
end
end Go.Proofs.YtihfhfihladlcaaGreatDoor

/- What is reached from the first facet over ridges: the search of IsChained, plain. -/
namespace Go.Proofs.YtihfhfihladlcaaGreatDoor
set_option maxRecDepth 20000

/-- u and f differ in one point of u -/
def adjU (u f : Nat) : Bool := sz (u &&& f) + 1 == sz u
def bStep (u : Nat) (D : List Nat) (f : Nat) : List Nat := if !D.contains f && adjU u f then D ++ [f] else D
def bRow (l : List Nat) (u : Nat) (D : List Nat) : List Nat := l.foldl (bStep u) D
def bfs (l : List Nat) : Nat → Nat → List Nat → List Nat
  | 0, _, D => D
  | F + 1, k, D => if k < D.length then bfs l F (k + 1) (bRow l (nthN D k) D) else D
def chainB (l : List Nat) : Bool := (bfs l l.length 0 [nthN l 0]).length == l.length

theorem bfs_stop {l D : List Nat} {F k : Nat} (h : ¬ k < D.length) : bfs l F k D = D := by
  cases F with
  | zero => rfl
  | succ F => unfold bfs; rw [if_neg h]
theorem bfs_next {l D : List Nat} {n k : Nat} (h : k < D.length) (hn : k < n) : bfs l (n - k) k D = bfs l (n - (k + 1)) (k + 1) (bRow l (nthN D k) D) := by
  obtain ⟨F, hF⟩ : ∃ F, n - k = F + 1 := ⟨n - k - 1, by omega⟩
  rw [hF, show n - (k + 1) = F by omega]
  show (if k < D.length then _ else _) = _
  rw [if_pos h]
/-- reached: no set twice, all of the list -/
structure Rch (l D : List Nat) : Prop where
  nd : D.Nodup
  sub : ∀ f ∈ D, f ∈ l
theorem Rch.len {l D : List Nat} (h : Rch l D) : D.length ≤ l.length := len_sub D l h.nd h.sub
theorem Rch.one {l : List Nat} (h : l ≠ []) : Rch l [nthN l 0] := ⟨by simp, fun f hf => by rw [List.mem_singleton] at hf; subst hf; exact nthN_mem2 (List.length_pos_iff.2 h)⟩
theorem Rch.step {l D : List Nat} (h : Rch l D) (u : Nat) {f : Nat} (hf : f ∈ l) : Rch l (bStep u D f) := by
  unfold bStep
  by_cases hc : (!D.contains f && adjU u f) = true
  · rw [if_pos hc]
    simp only [Bool.and_eq_true, Bool.not_eq_true', List.contains_eq_mem, decide_eq_false_iff_not] at hc
    refine ⟨List.nodup_append.2 ⟨h.nd, by simp, fun a ha b hb => ?_⟩, fun g hg => ?_⟩
    · rw [List.mem_singleton] at hb
      rintro rfl
      exact hc.1 (hb ▸ ha)
    · rcases List.mem_append.1 hg with hg | hg
      · exact h.sub g hg
      · rw [List.mem_singleton] at hg; subst hg; exact hf
  · rw [if_neg hc]; exact h
theorem bStep_pre (u : Nat) (D : List Nat) (f : Nat) : ∃ E, bStep u D f = D ++ E := by
  unfold bStep
  split
  · exact ⟨[f], rfl⟩
  · exact ⟨[], by simp⟩
theorem fold_pre (u : Nat) : ∀ (m D : List Nat), ∃ E, m.foldl (bStep u) D = D ++ E
  | [], D => ⟨[], by simp⟩
  | f :: m, D => by
    obtain ⟨E1, h1⟩ := bStep_pre u D f
    obtain ⟨E2, h2⟩ := fold_pre u m (bStep u D f)
    exact ⟨E1 ++ E2, by rw [List.foldl_cons, h2, h1, List.append_assoc]⟩
theorem fold_rch {l : List Nat} (u : Nat) : ∀ (m D : List Nat), (∀ f ∈ m, f ∈ l) → Rch l D → Rch l (m.foldl (bStep u) D)
  | [], D, _, h => h
  | f :: m, D, hm, h => by
    rw [List.foldl_cons]
    exact fold_rch u m _ (fun g hg => hm g (by simp [hg])) (h.step u (hm f (by simp)))
/-- .. after J facets of the row -/
def bTo (l : List Nat) (u : Nat) (D : List Nat) (J : Nat) : List Nat := (l.take J).foldl (bStep u) D
theorem bTo_zero (l : List Nat) (u : Nat) (D : List Nat) : bTo l u D 0 = D := rfl
theorem bTo_all (l : List Nat) (u : Nat) (D : List Nat) : bTo l u D l.length = bRow l u D := by unfold bTo bRow; rw [List.take_length]
theorem bTo_succ {l : List Nat} {u : Nat} {D : List Nat} {J : Nat} (h : J < l.length) : bTo l u D (J + 1) = bStep u (bTo l u D J) (nthN l J) := by
  unfold bTo
  rw [List.take_succ_eq_append_getElem h, List.foldl_append, nthN_at2 h]; rfl
theorem bTo_pre (l : List Nat) (u : Nat) (D : List Nat) (J : Nat) : ∃ E, bTo l u D J = D ++ E := fold_pre u _ D
theorem bTo_rch {l : List Nat} {u : Nat} {D : List Nat} (h : Rch l D) (J : Nat) : Rch l (bTo l u D J) := fold_rch u _ D (fun f hf => List.mem_of_mem_take hf) h
theorem bTo_nth {l : List Nat} {u : Nat} {D : List Nat} {J k : Nat} (h : k < D.length) : nthN (bTo l u D J) k = nthN D k := by
  obtain ⟨E, e⟩ := bTo_pre l u D J
  rw [e, nthN_at2 (by rw [List.length_append]; omega), nthN_at2 h, List.getElem_append_left h]
theorem bRow_rch {l : List Nat} {u : Nat} {D : List Nat} (h : Rch l D) : Rch l (bRow l u D) := by rw [← bTo_all]; exact bTo_rch h _
theorem bfs_rch {l : List Nat} : ∀ (F k : Nat) (D : List Nat), Rch l D → Rch l (bfs l F k D)
  | 0, k, D, h => h
  | F + 1, k, D, h => by
    unfold bfs
    split
    · exact bfs_rch F (k + 1) _ (bRow_rch h)
    · exact h
/-- what holds at the first one and goes on over ridges -/
theorem fold_all {P : Nat → Prop} {u : Nat} (hu : P u) : ∀ (m D : List Nat), (∀ f ∈ m, adjU u f = true → P f) → (∀ f ∈ D, P f) → ∀ f ∈ m.foldl (bStep u) D, P f
  | [], D, _, h => h
  | f :: m, D, hm, h => by
    rw [List.foldl_cons]
    refine fold_all hu m _ (fun g hg => hm g (by simp [hg])) ?_
    unfold bStep
    by_cases hc : (!D.contains f && adjU u f) = true
    · rw [if_pos hc]
      intro g hg
      rcases List.mem_append.1 hg with hg | hg
      · exact h g hg
      · rw [List.mem_singleton] at hg; subst hg
        simp only [Bool.and_eq_true] at hc
        exact hm g (by simp) hc.2
    · rw [if_neg hc]; exact h
theorem bfs_all {l : List Nat} {P : Nat → Prop} (hP : ∀ u ∈ l, ∀ f ∈ l, adjU u f = true → P u → P f) : ∀ (F k : Nat) (D : List Nat), Rch l D → (∀ f ∈ D, P f) → ∀ f ∈ bfs l F k D, P f
  | 0, k, D, _, h => h
  | F + 1, k, D, hr, h => by
    unfold bfs
    by_cases hk : k < D.length
    · rw [if_pos hk]
      have hm := nthN_mem2 hk
      exact bfs_all hP F (k + 1) _ (bRow_rch hr) (fold_all (h _ hm) l D (fun f hf ha => hP _ (hr.sub _ hm) f hf ha (h _ hm)) h)
    · rw [if_neg hk]; exact h
theorem chain_all {l : List Nat} (hne : l ≠ []) (hc : chainB l = true) {P : Nat → Prop} (hP : ∀ u ∈ l, ∀ f ∈ l, adjU u f = true → P u → P f) (h0 : P (nthN l 0)) : ∀ f ∈ l, P f := by
  have hr := bfs_rch l.length 0 _ (Rch.one hne)
  have ha := bfs_all hP l.length 0 _ (Rch.one hne) (fun f hf => by rw [List.mem_singleton] at hf; subst hf; exact h0)
  unfold chainB at hc
  have hl : (bfs l l.length 0 [nthN l 0]).length = l.length := by simpa using hc
  intro f hf
  by_cases hm : f ∈ bfs l l.length 0 [nthN l 0]
  · exact ha f hm
  · have := len_sub (f :: bfs l l.length 0 [nthN l 0]) l (List.nodup_cons.2 ⟨hm, hr.nd⟩) (fun g hg => by
      rcases List.mem_cons.1 hg with e | hg
      · rw [e]; exact hf
      · exact hr.sub g hg)
    rw [List.length_cons] at this; omega
theorem adj_not0 : ∀ u, u < 64 → ∀ f, f < 64 → (sz f = sz u) → (sz (f &&& (63 - u)) == 1) = adjU u f := by decide +kernel
end Go.Proofs.YtihfhfihladlcaaGreatDoor

/- A flip can be undone, and keeps purity, dimension, holes and the Euler number. Plain. -/
import Derived.Test.YtihfhfihladlcaaGreatDoorFlip
import Derived.Test.YtihfhfihladlcaaGreatDoorTopo2
namespace Go.Proofs.YtihfhfihladlcaaGreatDoor
set_option maxRecDepth 20000
set_option linter.unusedSimpArgs false
set_option linter.unusedVariables false

theorem cpx_parts {m : Nat} {l : List Nat} (h : Cpx m l) : l.Pairwise (fun a b => rank a < rank b) ∧ ∀ f ∈ l, ∀ g ∈ l, sub f g = true → f = g := by
  obtain ⟨l', he, hl2, hs, hanti⟩ := h.anti.nat
  have := up_inj he; subst this
  have hl64 := h.lt64
  refine ⟨hs, fun f hf g hg hfg => ?_⟩
  obtain ⟨i, hi, rfl⟩ := List.mem_iff_getElem.1 hf
  obtain ⟨j, hj, rfl⟩ := List.mem_iff_getElem.1 hg
  rcases Nat.lt_trichotomy i j with hij | hij | hij
  · have := List.pairwise_iff_getElem.1 hanti i j hi hj hij
    rw [hfg] at this; cases this
  · subst hij; rfl
  · have h1 := List.pairwise_iff_getElem.1 hs j i hj hi hij
    have h2 := sub_rank (hl64 _ (List.getElem_mem hj)) hfg
    by_cases e : l[i] = l[j]
    · exact e
    · have := h2 e; omega
/-- the facets of a complex's faces are its facets -/
theorem max_face {m : Nat} {l : List Nat} (h : Cpx m l) : maxL (isFace l) = l := by
  obtain ⟨hs, hanti⟩ := cpx_parts h
  have hl64 := h.lt64
  rw [← ord_of_sorted hs hl64]
  rw [ord_of_sorted hs hl64]
  have e : maxL (isFace l) = ord l.contains := by
    unfold maxL
    refine ord_congr fun s hs64 => ?_
    rw [Bool.eq_iff_iff]
    have hm : (isFace l s && (List.range 64).all fun t => !(isFace l t && sub s t && s != t)) = true ↔ s ∈ maxL (isFace l) := by
      unfold maxL; rw [mem_ord]; exact ⟨fun h => ⟨hs64, h⟩, fun h => h.2⟩
    rw [hm, mem_maxL, List.contains_iff_mem]
    constructor
    · rintro ⟨_, h1, h2⟩
      obtain ⟨f, hf, hsf⟩ := isFace_iff.1 h1
      rw [h2 f (hl64 f hf) (isFace_iff.2 ⟨f, hf, sub_refl f⟩) hsf]; exact hf
    · intro hs2
      refine ⟨hs64, isFace_iff.2 ⟨s, hs2, sub_refl s⟩, fun t ht h1 h2 => ?_⟩
      obtain ⟨f, hf, htf⟩ := isFace_iff.1 h1
      have := hanti s hs2 f hf (sub_trans h2 htf)
      subst this
      exact sub_antisymm h2 htf
  rw [e, ord_of_sorted hs hl64]
section
variable {l : List Nat} {s t m : Nat}
theorem flip_fam (h : FlipH l s t) (hs : s < 2 ^ m) (ht : t < 2 ^ m) (x : Nat) : flipFam l m s t x = (!sub s x && (isFace l x || sub x (s ||| t))) := by
  unfold flipFam
  rw [Bool.eq_iff_iff]
  simp only [Bool.or_eq_true, Bool.and_eq_true, decide_eq_true_eq]
  constructor
  · rintro (⟨h1, h2⟩ | ⟨h1, h2, h3⟩)
    · exact ⟨h2, .inl h1⟩
    · exact ⟨h3, .inr h2⟩
  · rintro ⟨h1, h2 | h2⟩
    · exact .inl ⟨h2, h1⟩
    · exact .inr ⟨sub_lt h2 (or_lt_pow hs ht), h2, h1⟩
theorem flip_twice (h : FlipH l s t) (hl : ∀ f ∈ l, f < 64) (hs64 : s < 64) (ht64 : t < 64) (hs : s < 2 ^ m) (ht : t < 2 ^ m) : flipB (maxL (flipFam l m s t)) t s = true := by
  have hF : ∀ x, x < 64 → isFace (maxL (flipFam l m s t)) x = (!sub s x && (isFace l x || sub x (s ||| t))) := fun x hx => by
    rw [face_max dn_flip hx, flip_fam h hs ht]
  have hst : sub s t = false := by
    cases e : sub s t with
    | false => rfl
    | true =>
      obtain ⟨i, hi⟩ := some_bit h.s0
      have := disj_bit h.dis i hi
      rw [sub_iff.1 e i hi] at this; cases this
  unfold flipB
  simp only [Bool.and_eq_true, bne_iff_ne, beq_iff_eq, Bool.not_eq_true']
  refine ⟨⟨⟨⟨⟨h.t0, h.s0⟩, by rw [Nat.and_comm]; exact h.dis⟩, ?_⟩, ?_⟩, flipB_same.2 fun x hx => ?_⟩
  · rw [hF t ht64, hst, sub_or_right]; simp
  · rw [hF s hs64, sub_refl]; simp
  · unfold linkB propB
    have hxt : x ||| t < 64 := or_lt64 hx ht64
    rw [hF _ hxt]
    rw [Bool.eq_iff_iff]
    simp only [Bool.and_eq_true, Bool.or_eq_true, beq_iff_eq, bne_iff_ne, Bool.not_eq_true']
    constructor
    · rintro ⟨h1, h2, h3⟩
      have hsub : sub (x ||| t) (s ||| t) = true := by
        rcases h3 with h3 | h3
        · have := isFace_dn h3 (sub_or_right x t)
          rw [h.ft] at this; cases this
        · exact h3
      refine ⟨sub_iff.2 fun i hi => ?_, fun e => ?_⟩
      · have := sub_iff.1 (sub_trans (sub_or_left x t) hsub) i hi
        rw [Nat.testBit_or, disj_bit h1 i hi] at this
        simpa using this
      · subst e
        rw [sub_or_left] at h2; cases h2
    · rintro ⟨h1, h2⟩
      refine ⟨disj_of fun i hi => disj_bit h.dis i (sub_iff.1 h1 i hi), ?_, .inr (or_sub (sub_trans h1 (sub_or_left s t)) (sub_or_right s t))⟩
      cases e : sub s (x ||| t) with
      | false => rfl
      | true =>
        exfalso
        apply h2
        refine sub_antisymm h1 (sub_iff.2 fun i hi => ?_)
        have := sub_iff.1 e i hi
        rw [Nat.testBit_or, disj_bit h.dis i hi] at this
        simpa using this
/-- flipping back -/
theorem flip_back (hC : Cpx m l) (h : FlipH l s t) (hs : s < 2 ^ m) (ht : t < 2 ^ m) : maxL (flipFam (maxL (flipFam l m s t)) m t s) = l := by
  have h64 := pow_le64 hC.six
  have hs64 : s < 64 := by omega
  have ht64 : t < 64 := by omega
  have hl := hC.lt64
  have h' := FlipH.of (flip_twice h hl hs64 ht64 hs ht)
  have e : maxL (flipFam (maxL (flipFam l m s t)) m t s) = maxL (isFace l) := maxL_congr fun x hx => by
    rw [flip_fam h' ht hs, face_max dn_flip hx, flip_fam h hs ht, Bool.eq_iff_iff]
    simp only [Bool.and_eq_true, Bool.or_eq_true, Bool.not_eq_true']
    constructor
    · rintro ⟨h1, ⟨h2, h3⟩ | h3⟩
      · rcases h3 with h3 | h3
        · exact h3
        · obtain ⟨j, hj1, hj2⟩ := not_sub h1
          exact isFace_dn (h.fill ht64 h3 hj1 hj2) (sub_or_left x s)
      · obtain ⟨j, hj1, hj2⟩ := not_sub h1
        exact isFace_dn (h.fill ht64 (by rw [Nat.or_comm]; exact h3) hj1 hj2) (sub_or_left x s)
    · intro hx2
      refine ⟨?_, ?_⟩
      · cases e : sub t x with
        | false => rfl
        | true => have := isFace_dn hx2 e; rw [h.ft] at this; cases this
      · cases e : sub s x with
        | false => exact .inl ⟨rfl, .inl hx2⟩
        | true => exact .inr (by rw [Nat.or_comm]; exact (h.star hl hs64 hx2 e).1)
  rw [e, max_face hC]
/-- facets around s -/
theorem FlipH.facet (h : FlipH l s t) (hC : Cpx m l) (hs64 : s < 64) (ht64 : t < 64) {f : Nat} (hf : f ∈ l) (hsf : sub s f = true) : sz f + 1 = sz (s ||| t) := by
  have hl := hC.lt64
  obtain ⟨_, hanti⟩ := cpx_parts hC
  obtain ⟨h1, h2⟩ := h.star hl hs64 (isFace_iff.2 ⟨f, hf, sub_refl f⟩) hsf
  obtain ⟨j, hj1, hj2⟩ := not_sub h2
  have hU : s ||| t < 64 := or_lt64 hs64 ht64
  have hUj : (s ||| t).testBit j = true := by rw [Nat.testBit_or, hj1]; simp
  have hx : sub ((s ||| t) ^^^ 2 ^ j) (s ||| t) = true := sub_iff.2 fun q hq => by
    rw [xor_bit] at hq
    by_cases e : j = q
    · subst e; exact hUj
    · simpa [e] using hq
  have hxj : ((s ||| t) ^^^ 2 ^ j).testBit j = false := by rw [xor_bit, hUj]; simp
  have hface := isFace_dn (h.fill ht64 hx hj1 hxj) (sub_or_left _ s)
  obtain ⟨g, hg, hxg⟩ := isFace_iff.1 hface
  have hfx : sub f ((s ||| t) ^^^ 2 ^ j) = true := sub_iff.2 fun q hq => by
    rw [xor_bit, sub_iff.1 h1 q hq]
    have : ¬ j = q := fun e => by subst e; rw [hj2] at hq; cases hq
    simp [this]
  have := hanti f hf g hg (sub_trans hfx hxg)
  subst this
  rw [sub_antisymm hfx hxg]
  exact (sz_flip hU (bit_six hU hUj) hUj).symm
/-- sizes after a flip -/
theorem flip_sizes (hC : Cpx m l) (h : FlipH l s t) (hs : s < 2 ^ m) (ht : t < 2 ^ m) (hp : pureB l = true) : pureB (maxL (flipFam l m s t)) = true ∧ topTo (flipFam l m s t) 64 = topTo (isFace l) 64 := by
  have h64 := pow_le64 hC.six
  have hs64 : s < 64 := by omega
  have ht64 : t < 64 := by omega
  have hl := hC.lt64
  have hU : s ||| t < 64 := or_lt64 hs64 ht64
  obtain ⟨D, hD⟩ := pure_iff.1 hp
  obtain ⟨f0, hf0, hsf0⟩ := isFace_iff.1 h.fs
  have hDU : D + 1 = sz (s ||| t) := by rw [← hD f0 hf0]; exact h.facet hC hs64 ht64 hf0 hsf0
  -- a subset of both that lacks a point of s
  have hy : ∀ i, s.testBit i = true → ((s ||| t) ^^^ 2 ^ i) < 64 ∧ flipFam l m s t ((s ||| t) ^^^ 2 ^ i) = true ∧ sz ((s ||| t) ^^^ 2 ^ i) = D := fun i hi => by
    have hUi : (s ||| t).testBit i = true := by rw [Nat.testBit_or, hi]; simp
    have hi6 := bit_six hU hUi
    have h1 := sz_flip hU hi6 hUi
    refine ⟨(bitB _ hU i hi6 hUi).1, ?_, by omega⟩
    rw [flip_fam h hs ht, Bool.and_eq_true, Bool.or_eq_true, Bool.not_eq_true']
    refine ⟨?_, .inr (sub_iff.2 fun q hq => ?_)⟩
    · cases e : sub s ((s ||| t) ^^^ 2 ^ i) with
      | false => rfl
      | true => have := sub_iff.1 e i hi; rw [xor_bit, hUi] at this; simp at this
    · rw [xor_bit] at hq
      by_cases e : i = q
      · subst e; exact hUi
      · simpa [e] using hq
  have hg : ∀ g ∈ maxL (flipFam l m s t), sz g = D := fun g hg => by
    obtain ⟨g64, gF, gm⟩ := mem_maxL.1 hg
    have hF := gF
    rw [flip_fam h hs ht, Bool.and_eq_true, Bool.or_eq_true, Bool.not_eq_true'] at hF
    have key : sub g (s ||| t) = true → sz g = D := fun hgU => by
      obtain ⟨i, hi1, hi2⟩ := not_sub hF.1
      obtain ⟨y1, y2, y3⟩ := hy i hi1
      rw [gm _ y1 y2 (sub_iff.2 fun q hq => ?_)]
      · exact y3
      · rw [xor_bit, sub_iff.1 hgU q hq]
        have : ¬ i = q := fun e => by subst e; rw [hi2] at hq; cases hq
        simp [this]
    rcases hF.2 with h2 | h2
    · obtain ⟨f, hf, hgf⟩ := isFace_iff.1 h2
      cases e : sub s f with
      | false =>
        rw [gm f (hl f hf) (by rw [flip_fam h hs ht, e]; simp; exact .inl (isFace_iff.2 ⟨f, hf, sub_refl f⟩)) hgf]
        exact hD f hf
      | true => exact key (sub_trans hgf (h.star hl hs64 (isFace_iff.2 ⟨f, hf, sub_refl f⟩) e).1)
    · exact key h2
  refine ⟨pure_iff.2 ⟨D, hg⟩, Nat.le_antisymm (top_of fun x hx hxF => ?_) (top_of fun x hx hxf => ?_)⟩
  · obtain ⟨g, hg1, hxg⟩ := max_above x hx hxF
    have := sz_mono (mem_maxL.1 hg1).1 hxg
    exact ⟨f0, hl f0 hf0, isFace_iff.2 ⟨f0, hf0, sub_refl f0⟩, by rw [hD f0 hf0, ← hg g hg1]; exact this⟩
  · obtain ⟨f, hf, hxf⟩ := isFace_iff.1 hxf
    obtain ⟨i, hi⟩ := some_bit h.s0
    obtain ⟨y1, y2, y3⟩ := hy i hi
    refine ⟨_, y1, y2, ?_⟩
    have := sz_mono (hl f hf) hxf
    rw [y3, ← hD f hf]; exact this
/-- all that a flip keeps -/
theorem flip_keeps (hC : Cpx m l) (h : FlipH l s t) (hs : s < 2 ^ m) (ht : t < 2 ^ m) (hp : pureB l = true) :
    pureB (maxL (flipFam l m s t)) = true ∧ topTo (isFace (maxL (flipFam l m s t))) 64 = topTo (isFace l) 64 ∧ (∀ pr, Prm pr → holesL pr (isFace (maxL (flipFam l m s t))) = holesL pr (isFace l)) ∧ eul (isFace (maxL (flipFam l m s t))) = eul (isFace l) := by
  obtain ⟨h1, h2⟩ := flip_sizes hC h hs ht hp
  have ht2 : topTo (isFace (maxL (flipFam l m s t))) 64 = topTo (isFace l) 64 := by rw [top_congr (fun x hx => face_max dn_flip hx), h2]
  have hh : ∀ pr, Prm pr → ∀ k, holeN pr (isFace (maxL (flipFam l m s t))) k = holeN pr (isFace l) k := fun pr hpr k => by
    rw [holes_congr (fun x hx => face_max dn_flip hx), flip_holes hpr hC.six hC.lt64 hs ht h]
  exact ⟨h1, ht2, fun pr hpr => holesL_congr ht2 (hh pr hpr), eul_same (.inl rfl) (dn_isFace _) (dn_isFace _) (hh 2 (.inl rfl))⟩
end
end Go.Proofs.YtihfhfihladlcaaGreatDoor

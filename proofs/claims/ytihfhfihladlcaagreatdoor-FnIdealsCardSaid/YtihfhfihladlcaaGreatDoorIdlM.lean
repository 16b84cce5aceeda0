/- Ideals and complexes tell each other; sums, meets, quotients: plain facts. -/
import Derived.Test.YtihfhfihladlcaaGreatDoorBase
import Derived.Test.YtihfhfihladlcaaGreatDoorFlip
import Derived.Test.YtihfhfihladlcaaGreatDoorFrom
import Derived.Test.YtihfhfihladlcaaGreatDoorIdeal
import Derived.Test.YtihfhfihladlcaaGreatDoorIdeal2
import Derived.Test.YtihfhfihladlcaaGreatDoorMissing
import Derived.Test.YtihfhfihladlcaaGreatDoorTopo3
namespace Go.Proofs.YtihfhfihladlcaaGreatDoor
set_option maxRecDepth 20000
open Go.RowKit
set_option linter.unusedSimpArgs false
set_option linter.unusedVariables false

theorem anti_minL {m : Nat} {p : Nat → Bool} (h1 : 1 ≤ m) (h6 : m ≤ 6) (hp : ∀ s, s < 64 → p s = true → s < 2 ^ m) : Anti m (up (minL p)) := by
  have hsorted : (minL p).Pairwise fun a b => rank a < rank b := ord_sorted _
  rw [List.pairwise_iff_getElem] at hsorted
  have hat : ∀ j (hj : j < (minL p).length), nth (up (minL p)) j = ((minL p)[j] : Int) := fun j hj => by rw [nth_up, nthN_eq hj]
  refine ⟨by omega, by omega, fun j hj => ?_⟩
  rw [up_len] at hj
  have hmj := mem_minL.1 (List.getElem_mem hj)
  have hlt : (minL p)[j] < 2 ^ m := hp _ hmj.1 hmj.2.1
  refine ⟨?_, fun h0 => ?_, fun i hi => ?_⟩
  · rw [hat j hj]; exact isSet_iff.2 ⟨h6, _, rfl, hlt⟩
  · have hj1 : j - 1 < (minL p).length := by omega
    rw [hat j hj, hat (j - 1) hj1]
    unfold befB
    simpa using hsorted (j - 1) j hj1 hj (by omega)
  · have hij : i < (minL p).length := by omega
    have hmi := mem_minL.1 (List.getElem_mem hij)
    rw [hat j hj, hat i hij]
    have hr := hsorted i j hij hj hi
    cases hs : sub (minL p)[i] (minL p)[j] with
    | false => simpa using hs
    | true =>
      have := hmj.2.2 _ hmi.1 hmi.2.1 hs
      rw [this] at hr
      exact absurd hr (Nat.lt_irrefl _)
open Classical in
/-- whether a set lies in an ideal -/
noncomputable def inId (p : Int) (xs : List Int) (s : Int) : Bool := decide (InP p xs s)
theorem inId_iff {p : Int} {xs : List Int} {s : Int} : inId p xs s = true ↔ InP p xs s := by classical unfold inId; exact decide_eq_true_iff
theorem nat_up (l : List Nat) : (up l).map Int.toNat = l := by
  unfold up
  rw [List.map_map]
  exact (List.map_congr_left fun x _ => by simp).trans (List.map_id l)
theorem isSet_at {m j : Nat} (h6 : m ≤ 6) : isSetB m j = true ↔ j < 2 ^ m := by
  rw [isSet_iff]
  constructor
  · rintro ⟨_, t, ht, hlt⟩
    have : j = t := by omega
    subst this; exact hlt
  · intro h; exact ⟨h6, j, rfl, h⟩
theorem inId_up {m : Nat} {l : List Nat} (hA : Anti m (up l)) (j : Nat) : inId m (up l) j = above l (2 ^ m) j := by
  rw [Bool.eq_iff_iff, inId_iff, above_iff]
  unfold InP
  rw [isSet_at (by have := hA.2.1; omega), nat_up, List.any_eq_true]
  simp only [Int.toNat_natCast]
  exact ⟨fun h => h.2, fun h => ⟨hA, h⟩⟩
/-- a predicate that goes up -/
theorem above_min {m : Nat} {q : Nat → Bool} (h6 : m ≤ 6) (hq : ∀ s, s < 64 → q s = true → s < 2 ^ m) (hup : ∀ s, s < 64 → q s = true → ∀ t, t < 2 ^ m → sub s t = true → q t = true) {j : Nat} (hj : j < 64) : above (minL q) (2 ^ m) j = q j := by
  rw [Bool.eq_iff_iff, above_iff]
  constructor
  · rintro ⟨h1, t, ht, hs⟩
    obtain ⟨a, b, _⟩ := mem_minL.1 ht
    exact hup t a b j h1 hs
  · intro h
    exact ⟨hq j hj h, min_below j hj h⟩
theorem above_up {l : List Nat} {N s t : Nat} (h : above l N s = true) (ht : t < N) (hs : sub s t = true) : above l N t = true := by
  rw [above_iff] at *
  obtain ⟨_, g, hg, hgs⟩ := h
  exact ⟨ht, g, hg, sub_trans hgs hs⟩
section
variable {m : Nat} {l k : List Nat}
theorem in_sum (h1 : 1 ≤ m) (h6 : m ≤ 6) (hl : Anti m (up l)) (hk : Anti m (up k)) {j : Nat} (hj : j < 64) :
    inId m (up (minL fun s => above l (2 ^ m) s || above k (2 ^ m) s)) j = (inId m (up l) j || inId m (up k) j) := by
  have hq : ∀ s, s < 64 → (above l (2 ^ m) s || above k (2 ^ m) s) = true → s < 2 ^ m := fun s _ h => by
    rw [Bool.or_eq_true] at h
    rcases h with h | h <;> exact (above_iff.1 h).1
  rw [inId_up (anti_minL h1 h6 hq), inId_up hl, inId_up hk]
  exact above_min h6 hq (fun s _ h t ht hs => by
    rw [Bool.or_eq_true] at *
    exact h.imp (fun h => above_up h ht hs) fun h => above_up h ht hs) hj
theorem in_meet (h1 : 1 ≤ m) (h6 : m ≤ 6) (hl : Anti m (up l)) (hk : Anti m (up k)) {j : Nat} (hj : j < 64) :
    inId m (up (minL fun s => above l (2 ^ m) s && above k (2 ^ m) s)) j = (inId m (up l) j && inId m (up k) j) := by
  have hq : ∀ s, s < 64 → (above l (2 ^ m) s && above k (2 ^ m) s) = true → s < 2 ^ m := fun s _ h => by
    rw [Bool.and_eq_true] at h
    exact (above_iff.1 h.1).1
  rw [inId_up (anti_minL h1 h6 hq), inId_up hl, inId_up hk]
  exact above_min h6 hq (fun s _ h t ht hs => by
    rw [Bool.and_eq_true] at *
    exact ⟨above_up h.1 ht hs, above_up h.2 ht hs⟩) hj
theorem in_quot (h1 : 1 ≤ m) (h6 : m ≤ 6) (hl : Anti m (up l)) {s j : Nat} (hs : s < 2 ^ m) (hj : j < 2 ^ m) :
    inId m (up (minL fun t => decide (t < 2 ^ m) && l.any (sub · (t ||| s)))) j = inId m (up l) ((j ||| s : Nat) : Int) := by
  have hq : ∀ t, t < 64 → (decide (t < 2 ^ m) && l.any (sub · (t ||| s))) = true → t < 2 ^ m := fun t _ h => by
    rw [Bool.and_eq_true] at h
    simpa using h.1
  have hj64 : j < 64 := Nat.lt_of_lt_of_le hj (pow_le64 h6)
  rw [inId_up (anti_minL h1 h6 hq), inId_up hl, above_min h6 hq (fun t _ h u hu htu => by
    rw [Bool.and_eq_true, List.any_eq_true] at *
    obtain ⟨_, g, hg, hgs⟩ := h
    refine ⟨by simpa using hu, g, hg, sub_trans hgs ?_⟩
    rw [sub_iff] at *
    intro i hi
    rw [Nat.testBit_or, Bool.or_eq_true] at *
    exact hi.imp (fun h => htu i h) id) hj64]
  have hjs : j ||| s < 2 ^ m := Nat.or_lt_two_pow hj hs
  rw [Bool.eq_iff_iff, above_iff]
  simp [hj, hjs]
/-- the complex of the ideal of a complex is the complex -/
theorem apart_miss (hC : Cpx m l) : maxL (apart (minL (missB l (2 ^ m))) (2 ^ m)) = l := by
  have h64 := pow_le64 hC.six
  have e : ∀ s, s < 64 → apart (minL (missB l (2 ^ m))) (2 ^ m) s = isFace l s := fun s hs => by
    unfold apart
    by_cases hlt : s < 2 ^ m
    · rw [decide_eq_true hlt, Bool.true_and]
      cases hf : isFace l s with
      | true =>
        rw [Bool.not_eq_true', ← Bool.not_eq_true, List.any_eq_true]
        rintro ⟨g, hg, hgs⟩
        obtain ⟨g64, hgm, _⟩ := mem_minL.1 hg
        unfold missB at hgm
        rw [Bool.and_eq_true, Bool.not_eq_true'] at hgm
        obtain ⟨f, hfl, hsf⟩ := isFace_iff.1 hf
        have := isFace_iff.2 ⟨f, hfl, sub_trans hgs hsf⟩
        rw [this] at hgm
        exact absurd hgm.2 (by simp)
      | false =>
        obtain ⟨t, ht, hts⟩ := min_below (p := missB l (2 ^ m)) s hs (by unfold missB; rw [hf]; simp [hlt])
        have : (minL (missB l (2 ^ m))).any (sub · s) = true := List.any_eq_true.2 ⟨t, ht, hts⟩
        rw [this]; rfl
    · rw [decide_eq_false hlt, Bool.false_and]
      cases hf : isFace l s with
      | false => rfl
      | true =>
        exfalso
        obtain ⟨f, hfl, hsf⟩ := isFace_iff.1 hf
        have := hC.lt f hfl
        unfold sub at hsf
        have e : s &&& f = s := by simpa using hsf
        have := Nat.and_le_right (n := s) (m := f)
        omega
  rw [maxL_congr e, max_face hC]
theorem compl_bit {m s i : Nat} (hs : s < 2 ^ m) : (2 ^ m - 1 - s).testBit i = (decide (i < m) && !s.testBit i) := by
  rw [show 2 ^ m - 1 - s = 2 ^ m - (s + 1) by omega, Nat.testBit_two_pow_sub_succ hs]
theorem lt_bit {m s i : Nat} (hs : s < 2 ^ m) (h : s.testBit i = true) : i < m := by
  rcases Nat.lt_or_ge i m with h1 | h1
  · exact h1
  · rw [Nat.testBit_lt_two_pow (Nat.lt_of_lt_of_le hs (Nat.pow_le_pow_right (by omega) h1))] at h; cases h
/-- complements of the facets of an ideal's complex are its primes -/
theorem compl_primes (h6 : m ≤ 6) (hl : ∀ g ∈ l, g < 2 ^ m) : ord ((maxL (apart l (2 ^ m))).map fun t => 2 ^ m - 1 - t).contains = minL (meets l (2 ^ m)) := by
  have h64 := pow_le64 h6
  have hkey : ∀ s, s < 2 ^ m → meets l (2 ^ m) (2 ^ m - 1 - s) = apart l (2 ^ m) s := fun s hs => by
    unfold meets apart
    rw [decide_eq_true (show 2 ^ m - 1 - s < 2 ^ m by omega), decide_eq_true hs, Bool.true_and, Bool.true_and, Bool.eq_iff_iff, List.all_eq_true, Bool.not_eq_true', ← Bool.not_eq_true, List.any_eq_true]
    have hg1 : ∀ g ∈ l, ((2 ^ m - 1 - s) &&& g != 0) = true ↔ ¬ sub g s = true := fun g hg => by
      rw [bne_iff_ne, sub_iff]
      constructor
      · intro h hsub
        apply h
        apply Nat.eq_of_testBit_eq
        intro i
        rw [Nat.testBit_and, compl_bit hs, Nat.zero_testBit]
        cases hgi : g.testBit i with
        | false => simp
        | true => rw [hsub i hgi]; simp
      · intro h h0
        apply h
        intro i hi
        have hb : ((2 ^ m - 1 - s) &&& g).testBit i = false := by rw [h0, Nat.zero_testBit]
        rw [Nat.testBit_and, compl_bit hs, hi, decide_eq_true (lt_bit (hl g hg) hi)] at hb
        simpa using hb
    constructor
    · rintro h ⟨g, hg, hgs⟩; exact (hg1 g hg).1 (h g hg) hgs
    · intro h g hg; exact (hg1 g hg).2 fun hs => h ⟨g, hg, hs⟩
  have hsub : ∀ s t, s < 2 ^ m → t < 2 ^ m → (sub (2 ^ m - 1 - s) (2 ^ m - 1 - t) = true ↔ sub t s = true) := fun s t hs ht => by
    rw [sub_iff, sub_iff]
    constructor
    · intro h i hi
      have := h i
      rw [compl_bit hs, compl_bit ht, hi] at this
      cases hsi : s.testBit i with
      | true => rfl
      | false => rw [hsi, decide_eq_true (lt_bit ht hi)] at this; simp at this
    · intro h i hi
      rw [compl_bit hs] at hi
      rw [compl_bit ht]
      rw [Bool.and_eq_true, Bool.not_eq_true'] at *
      refine ⟨hi.1, ?_⟩
      cases hti : t.testBit i with
      | false => rfl
      | true => rw [h i hti] at hi; exact absurd hi.2 (by simp)
  unfold minL
  refine ord_congr fun s hs => ?_
  have hR : ((meets l (2 ^ m) s && (List.range 64).all fun t => !(meets l (2 ^ m) t && sub t s && s != t)) = true) ↔ s ∈ minL (meets l (2 ^ m)) := by unfold minL; rw [mem_ord]; simp [hs]
  rw [Bool.eq_iff_iff, hR, mem_minL, List.contains_iff_mem, List.mem_map]
  constructor
  · rintro ⟨t, ht, rfl⟩
    obtain ⟨t64, hta, htm⟩ := mem_maxL.1 ht
    have htl : t < 2 ^ m := by unfold apart at hta; simp at hta; exact hta.1
    refine ⟨hs, by rw [hkey t htl]; exact hta, fun u hu hum hus => ?_⟩
    have hul : u < 2 ^ m := by unfold meets at hum; simp at hum; exact hum.1
    have hu2 : u = 2 ^ m - 1 - (2 ^ m - 1 - u) := by omega
    rw [hu2] at hum hus ⊢
    rw [hkey _ (by omega)] at hum
    rw [hsub _ _ (by omega) htl] at hus
    have := htm _ (by omega) hum hus
    omega
  · rintro ⟨_, h1, h2⟩
    have hsl : s < 2 ^ m := by unfold meets at h1; simp at h1; exact h1.1
    have hs2 : s = 2 ^ m - 1 - (2 ^ m - 1 - s) := by omega
    refine ⟨2 ^ m - 1 - s, mem_maxL.2 ⟨by omega, by rw [← hkey _ (by omega), ← hs2]; exact h1, fun u hu hua hsu => ?_⟩, by omega⟩
    have hul : u < 2 ^ m := by unfold apart at hua; simp at hua; exact hua.1
    have := h2 (2 ^ m - 1 - u) (by omega) (by rw [hkey u hul]; exact hua) (by
      rw [hs2, hsub _ _ hul (by omega)]; exact hsu)
    omega
end
end Go.Proofs.YtihfhfihladlcaaGreatDoor

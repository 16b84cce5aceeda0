/- Plain law of RunFlips: the maximal sets of a family are a complex again, and what a run of flips leaves. -/
import Derived.Test.YtnapicpeccjkoaaFlipAt
import Derived.Test.YtnapicpeccjkoaaRows3
namespace Go.Proofs.Ytnapicpeccjkoaa
open Go.RowKit
set_option linter.unusedSimpArgs false
set_option linter.unusedVariables false

theorem anti_maxL {m : Nat} {p : Nat → Bool} (h1 : 1 ≤ m) (h6 : m ≤ 6) (hp : ∀ s, s < 64 → p s = true → s < 2 ^ m) : Anti m (up (maxL p)) := by
  have hsorted : (maxL p).Pairwise fun a b => rank a < rank b := ord_sorted _
  rw [List.pairwise_iff_getElem] at hsorted
  have hat : ∀ j (hj : j < (maxL p).length), nth (up (maxL p)) j = ((maxL p)[j] : Int) := fun j hj => by rw [nth_up, nthN_eq hj]
  refine ⟨by omega, by omega, fun j hj => ?_⟩
  rw [up_len] at hj
  have hmj := mem_maxL.1 (List.getElem_mem hj)
  have hlt : (maxL p)[j] < 2 ^ m := hp _ hmj.1 hmj.2.1
  refine ⟨?_, fun h0 => ?_, fun i hi => ?_⟩
  · rw [hat j hj]; exact isSet_iff.2 ⟨h6, _, rfl, hlt⟩
  · have hj1 : j - 1 < (maxL p).length := by omega
    rw [hat j hj, hat (j - 1) hj1]
    unfold befB
    simpa using hsorted (j - 1) j hj1 hj (by omega)
  · have hij : i < (maxL p).length := by omega
    have hmi := mem_maxL.1 (List.getElem_mem hij)
    rw [hat j hj, hat i hij]
    have hr := hsorted i j hij hj hi
    cases hs : sub (maxL p)[i] (maxL p)[j] with
    | false => simpa using hs
    | true =>
      have := hmi.2.2 _ hmj.1 hmj.2.1 hs
      rw [this] at hr
      exact absurd hr (Nat.lt_irrefl _)
/-- the facets of a complex, as numbers -/
structure Cpx (m : Nat) (l : List Nat) : Prop where
  anti : Anti m (up l)
  lt : ∀ t ∈ l, t < 2 ^ m
theorem Cpx.six {m : Nat} {l : List Nat} (h : Cpx m l) : m ≤ 6 := by have := h.anti.2.1; omega
theorem Cpx.one {m : Nat} {l : List Nat} (h : Cpx m l) : 1 ≤ m := by have := h.anti.1; omega
theorem Cpx.lt64 {m : Nat} {l : List Nat} (h : Cpx m l) : ∀ t ∈ l, t < 64 := fun t ht => Nat.lt_of_lt_of_le (h.lt t ht) (pow_le64 h.six)
theorem Cpx.len {m : Nat} {l : List Nat} (h : Cpx m l) : l.length ≤ 64 := by
  obtain ⟨l', he, _, hs, _⟩ := h.anti.nat
  have := up_inj he; subst this
  exact sorted_len hs h.lt64
theorem Cpx.of {m : Nat} {l : List Nat} (h : Anti m (up l)) : Cpx m l := by
  obtain ⟨l', he, hl, _, _⟩ := h.nat
  have := up_inj he; subst this
  exact ⟨h, fun t ht => by simpa using (hl t ht).1⟩
theorem flip_cpx {m : Nat} {l : List Nat} (h : Cpx m l) (s t : Nat) : Cpx m (maxL (flipFam l m s t)) := by
  have hp : ∀ x, x < 64 → flipFam l m s t x = true → x < 2 ^ m := fun x _ hx => by
    unfold flipFam at hx
    rw [Bool.or_eq_true, Bool.and_eq_true, Bool.and_eq_true, decide_eq_true_eq] at hx
    rcases hx with ⟨h1, _⟩ | ⟨h1, _⟩
    · obtain ⟨f, hf, hs⟩ := isFace_iff.1 h1
      exact sub_lt hs (h.lt f hf)
    · exact h1
  exact ⟨anti_maxL h.one h.six hp, fun t ht => by
    have := mem_maxL.1 ht
    exact hp t this.1 this.2.1⟩
/-- the flip may be made, for any two numbers -/
def okI (m : Nat) (l : List Nat) (s t : Int) : Bool := pureB l && (isSetB m s && (isSetB m t && flipB l s.toNat t.toNat))
theorem okIiff {m : Nat} {l : List Nat} {s t : Int} : okI m l s t = true ↔ pureB l = true ∧ FlipQ m l s t := by
  unfold okI
  rw [Bool.and_eq_true, Bool.and_eq_true, Bool.and_eq_true]
  constructor
  · rintro ⟨h, h1, h2, h3⟩
    obtain ⟨_, u, _, rfl, _, _, _⟩ := isSet_nat h1
    obtain ⟨_, v, _, rfl, _, _, _⟩ := isSet_nat h2
    exact ⟨h, u, v, rfl, rfl, h1, h2, h3⟩
  · rintro ⟨h, u, v, rfl, rfl, h1, h2, h3⟩
    exact ⟨h, h1, h2, h3⟩
/-- one flip: the new facets, or nothing -/
def step1 (m : Nat) (l : List Nat) (s t : Int) : Option (List Nat) := if okI m l s t = true then some (maxL (flipFam l m s.toNat t.toNat)) else none
theorem step1_cpx {m : Nat} {l l' : List Nat} {s t : Int} (h : Cpx m l) (hs : step1 m l s t = some l') : Cpx m l' := by
  unfold step1 at hs
  split at hs
  · injection hs with hs; rw [← hs]; exact flip_cpx h _ _
  · cases hs
/-- the first k flips of a list -/
def runTo (m : Nat) (l : List Nat) (L : List (List Int)) : Nat → Option (List Nat)
  | 0 => some l
  | k + 1 => match runTo m l L k with
    | none => none
    | some l' => if (nthL L k).length = 2 then step1 m l' (nth (nthL L k) 0) (nth (nthL L k) 1) else none
theorem runTo_none {m : Nat} {l : List Nat} {L : List (List Int)} {k : Nat} (h : runTo m l L k = none) : ∀ d, runTo m l L (k + d) = none := by
  intro d
  induction d with
  | zero => exact h
  | succ d ih => rw [← Nat.add_assoc]; unfold runTo; rw [ih]
theorem runTo_step {m : Nat} {l l' : List Nat} {L : List (List Int)} {k : Nat} (h : runTo m l L k = some l') (h2 : (nthL L k).length = 2) : runTo m l L (k + 1) = step1 m l' (nth (nthL L k) 0) (nth (nthL L k) 1) := by
  conv => lhs; unfold runTo
  rw [h]; simp [h2]
theorem runTo_bad {m : Nat} {l l' : List Nat} {L : List (List Int)} {k : Nat} (h : runTo m l L k = some l') (h2 : (nthL L k).length ≠ 2) : runTo m l L (k + 1) = none := by
  conv => lhs; unfold runTo
  rw [h]; simp [h2]
theorem runTo_cpx {m : Nat} {l : List Nat} {L : List (List Int)} (h : Cpx m l) : ∀ k l', runTo m l L k = some l' → Cpx m l' := by
  intro k
  induction k with
  | zero => intro l' hl; unfold runTo at hl; injection hl with hl; rw [← hl]; exact h
  | succ k ih =>
    intro l' hl
    cases hk : runTo m l L k with
    | none =>
      have := runTo_none hk 1
      rw [this] at hl; cases hl
    | some l1 =>
      by_cases h2 : (nthL L k).length = 2
      · rw [runTo_step hk h2] at hl; exact step1_cpx (ih l1 hk) hl
      · rw [runTo_bad hk h2] at hl; cases hl

/-! ### One flip, the program's and the reference's -/
theorem iFlipAt_some {m : Nat} {a : Option Addr} {n c : Nat} {l l' : List Nat} {s t : Int} {w : World} (h : IntsAt w a n (up l)) (hcap : n ≤ c) (hC : Cpx m l) (hs : step1 m l s t = some l') :
    Calls Try.prog 37 #[.agg #[.int .i64 m, .slice a n c], .int .i64 s, .int .i64 t] w (RetBox2 w m (up l') true) := by
  unfold step1 at hs
  split at hs
  · rename_i hq0
    have hq := okIiff.1 hq0
    injection hs with hs
    obtain ⟨u, v, rfl, rfl, h1, h2, hf⟩ := hq.2
    obtain ⟨_, u', _, hu', _, _, hu⟩ := isSet_nat h1
    obtain rfl : u = u' := by omega
    obtain ⟨_, v', _, hv', _, _, hv⟩ := isSet_nat h2
    obtain rfl : v = v' := by omega
    rw [← hs]
    exact iFlipAt_yes m a n c l u v w h hC.six hC.lt64 hu hv fun W' hx' => iFlip_yes m a n c l u v W' hx' hcap hC.anti hC.lt64 true (by simp [hq])
  · cases hs
theorem iFlipAt_none {m : Nat} {a : Option Addr} {n c : Nat} {l : List Nat} {s t : Int} {w : World} (h : IntsAt w a n (up l)) (hcap : n ≤ c) (hC : Cpx m l) (hs : step1 m l s t = none) :
    Calls Try.prog 37 #[.agg #[.int .i64 m, .slice a n c], .int .i64 s, .int .i64 t] w (RetBox2 w 0 [] false) := by
  unfold step1 at hs
  split at hs
  · cases hs
  · rename_i hq0
    have hq : ¬ (pureB l = true ∧ FlipQ m l s t) := fun h => hq0 (okIiff.2 h)
    exact iFlipAt_no m a n c _ s t w h fun W' hx' => iFlip_yes m a n c l s t W' hx' hcap hC.anti hC.lt64 false (by simp [hq])
theorem sFlipAt_some {m : Nat} {a : Option Addr} {n c : Nat} {l l' : List Nat} {s t : Int} {w : World} (h : IntsAt w a n (up l)) (hC : Cpx m l) (hs : step1 m l s t = some l') :
    Calls Try.prog 36 #[.agg #[.int .i64 m, .slice a n c], .int .i64 s, .int .i64 t] w (RetBox2 w m (up l') true) := by
  have hn : n ≤ 64 := by have h1 := h.len; rw [up_len] at h1; have := hC.len; omega
  unfold step1 at hs
  split at hs
  · rename_i hq0
    have hq := okIiff.1 hq0
    injection hs with hs
    obtain ⟨u, v, rfl, rfl, h1, h2, hf⟩ := hq.2
    obtain ⟨m1, u', hm1, hu', _, hum, hu⟩ := isSet_nat h1
    obtain rfl : m = m1 := by omega
    obtain rfl : u = u' := by omega
    obtain ⟨m2, v', hm2, hv', _, hvm, hv⟩ := isSet_nat h2
    obtain rfl : m = m2 := by omega
    obtain rfl : v = v' := by omega
    have hd : u &&& v = 0 := by
      unfold flipB at hf
      simp only [Bool.and_eq_true, beq_iff_eq] at hf
      exact hf.1.1.1.2
    rw [← hs, show ((u : Int)).toNat = u from rfl, show ((v : Int)).toNat = v from rfl, flip_max hC.six hC.lt64 hum hvm hd]
    exact sFlipAt_yes m a n c l u v w h hC.anti hC.lt64 hu hv fun W' hx' => sFlip_yes m a n c l u v W' hx' hn hC.anti hC.lt64 true (by simp [hq])
  · cases hs
theorem sFlipAt_none {m : Nat} {a : Option Addr} {n c : Nat} {l : List Nat} {s t : Int} {w : World} (h : IntsAt w a n (up l)) (hC : Cpx m l) (hs : step1 m l s t = none) :
    Calls Try.prog 36 #[.agg #[.int .i64 m, .slice a n c], .int .i64 s, .int .i64 t] w (RetBox2 w 0 [] false) := by
  have hn : n ≤ 64 := by have h1 := h.len; rw [up_len] at h1; have := hC.len; omega
  unfold step1 at hs
  split at hs
  · cases hs
  · rename_i hq0
    have hq : ¬ (pureB l = true ∧ FlipQ m l s t) := fun h => hq0 (okIiff.2 h)
    exact sFlipAt_no m a n c _ s t w h fun W' hx' => sFlip_yes m a n c l s t W' hx' hn hC.anti hC.lt64 false (by simp [hq])
end Go.Proofs.Ytnapicpeccjkoaa

/- Texts of this claim, one behind the other: what each says stands at its head. -/
import Derived.Deep.RegionHeld3
import Derived.Deep.RegionWith
import Derived.Test.YtbdnlncpamandaaCore
import Derived.Test.YtbdnlncpamandaaFlipAt
import Derived.Test.YtbdnlncpamandaaIdeal3
/- Plain law of RunFlips: the maximal sets of a family are a complex again, and what a run of flips leaves. -/
namespace Go.Proofs.Ytbdnlncpamandaa
set_option maxRecDepth 20000
open Go.RowKit
set_option linter.unusedSimpArgs false
set_option linter.unusedVariables false

theorem anti_maxL {m : Nat} {p : Nat → Bool} (h1 : 1 ≤ m) (h6 : m ≤ 6) (hp : ∀ s, s < 64 → p s = true → s < 2 ^ m) : Anti m (up (maxL p)) := by
  have hsorted : (maxL p).Pairwise fun a b => rank a < rank b := ord_sorted _
  rw [List.pairwise_iff_getElem] at hsorted
  have hat : ∀ j (hj : j < (maxL p).length), nth (up (maxL p)) j = ((maxL p)[j] : Int) := fun j hj => by rw [nth_up, nthN_eq hj]
  refine ⟨by omega, by omega, fun j hj => ?_⟩
  rw [up_len] at hj
  have hmj := mem_maxL.1 (List.getElem_mem hj)
  have hlt : (maxL p)[j] < 2 ^ m := hp _ hmj.1 hmj.2.1
  refine ⟨?_, fun h0 => ?_, fun i hi => ?_⟩
  · rw [hat j hj]; exact isSet_iff.2 ⟨h6, _, rfl, hlt⟩
  · have hj1 : j - 1 < (maxL p).length := by omega
    rw [hat j hj, hat (j - 1) hj1]
    unfold befB
    simpa using hsorted (j - 1) j hj1 hj (by omega)
  · have hij : i < (maxL p).length := by omega
    have hmi := mem_maxL.1 (List.getElem_mem hij)
    rw [hat j hj, hat i hij]
    have hr := hsorted i j hij hj hi
    cases hs : sub (maxL p)[i] (maxL p)[j] with
    | false => simpa using hs
    | true =>
      have := hmi.2.2 _ hmj.1 hmj.2.1 hs
      rw [this] at hr
      exact absurd hr (Nat.lt_irrefl _)
/-- the facets of a complex, as numbers -/
structure Cpx (m : Nat) (l : List Nat) : Prop where
  anti : Anti m (up l)
  lt : ∀ t ∈ l, t < 2 ^ m
theorem Cpx.six {m : Nat} {l : List Nat} (h : Cpx m l) : m ≤ 6 := by have := h.anti.2.1; omega
theorem Cpx.one {m : Nat} {l : List Nat} (h : Cpx m l) : 1 ≤ m := by have := h.anti.1; omega
theorem Cpx.lt64 {m : Nat} {l : List Nat} (h : Cpx m l) : ∀ t ∈ l, t < 64 := fun t ht => Nat.lt_of_lt_of_le (h.lt t ht) (pow_le64 h.six)
theorem Cpx.len {m : Nat} {l : List Nat} (h : Cpx m l) : l.length ≤ 64 := by
  obtain ⟨l', he, _, hs, _⟩ := h.anti.nat
  have := up_inj he; subst this
  exact sorted_len hs h.lt64
theorem Cpx.of {m : Nat} {l : List Nat} (h : Anti m (up l)) : Cpx m l := by
  obtain ⟨l', he, hl, _, _⟩ := h.nat
  have := up_inj he; subst this
  exact ⟨h, fun t ht => by simpa using (hl t ht).1⟩
theorem flip_cpx {m : Nat} {l : List Nat} (h : Cpx m l) (s t : Nat) : Cpx m (maxL (flipFam l m s t)) := by
  have hp : ∀ x, x < 64 → flipFam l m s t x = true → x < 2 ^ m := fun x _ hx => by
    unfold flipFam at hx
    rw [Bool.or_eq_true, Bool.and_eq_true, Bool.and_eq_true, decide_eq_true_eq] at hx
    rcases hx with ⟨h1, _⟩ | ⟨h1, _⟩
    · obtain ⟨f, hf, hs⟩ := isFace_iff.1 h1
      exact sub_lt hs (h.lt f hf)
    · exact h1
  exact ⟨anti_maxL h.one h.six hp, fun t ht => by
    have := mem_maxL.1 ht
    exact hp t this.1 this.2.1⟩
/-- the flip may be made, for any two numbers -/
def okI (m : Nat) (l : List Nat) (s t : Int) : Bool := pureB l && (isSetB m s && (isSetB m t && flipB l s.toNat t.toNat))
theorem okIiff {m : Nat} {l : List Nat} {s t : Int} : okI m l s t = true ↔ pureB l = true ∧ FlipQ m l s t := by
  unfold okI
  rw [Bool.and_eq_true, Bool.and_eq_true, Bool.and_eq_true]
  constructor
  · rintro ⟨h, h1, h2, h3⟩
    obtain ⟨_, u, _, rfl, _, _, _⟩ := isSet_nat h1
    obtain ⟨_, v, _, rfl, _, _, _⟩ := isSet_nat h2
    exact ⟨h, u, v, rfl, rfl, h1, h2, h3⟩
  · rintro ⟨h, u, v, rfl, rfl, h1, h2, h3⟩
    exact ⟨h, h1, h2, h3⟩
/-- one flip: the new facets, or nothing -/
def step1 (m : Nat) (l : List Nat) (s t : Int) : Option (List Nat) := if okI m l s t = true then some (maxL (flipFam l m s.toNat t.toNat)) else none
theorem step1_cpx {m : Nat} {l l' : List Nat} {s t : Int} (h : Cpx m l) (hs : step1 m l s t = some l') : Cpx m l' := by
  unfold step1 at hs
  split at hs
  · injection hs with hs; rw [← hs]; exact flip_cpx h _ _
  · cases hs
/-- the first k flips of a list -/
def runTo (m : Nat) (l : List Nat) (L : List (List Int)) : Nat → Option (List Nat)
  | 0 => some l
  | k + 1 => match runTo m l L k with
    | none => none
    | some l' => if (nthL L k).length = 2 then step1 m l' (nth (nthL L k) 0) (nth (nthL L k) 1) else none
theorem runTo_none {m : Nat} {l : List Nat} {L : List (List Int)} {k : Nat} (h : runTo m l L k = none) : ∀ d, runTo m l L (k + d) = none := by
  intro d
  induction d with
  | zero => exact h
  | succ d ih => rw [← Nat.add_assoc]; unfold runTo; rw [ih]
theorem runTo_step {m : Nat} {l l' : List Nat} {L : List (List Int)} {k : Nat} (h : runTo m l L k = some l') (h2 : (nthL L k).length = 2) : runTo m l L (k + 1) = step1 m l' (nth (nthL L k) 0) (nth (nthL L k) 1) := by
  conv => lhs; unfold runTo
  rw [h]; simp [h2]
theorem runTo_bad {m : Nat} {l l' : List Nat} {L : List (List Int)} {k : Nat} (h : runTo m l L k = some l') (h2 : (nthL L k).length ≠ 2) : runTo m l L (k + 1) = none := by
  conv => lhs; unfold runTo
  rw [h]; simp [h2]
theorem runTo_cpx {m : Nat} {l : List Nat} {L : List (List Int)} (h : Cpx m l) : ∀ k l', runTo m l L k = some l' → Cpx m l' := by
  intro k
  induction k with
  | zero => intro l' hl; unfold runTo at hl; injection hl with hl; rw [← hl]; exact h
  | succ k ih =>
    intro l' hl
    cases hk : runTo m l L k with
    | none =>
      have := runTo_none hk 1
      rw [this] at hl; cases hl
    | some l1 =>
      by_cases h2 : (nthL L k).length = 2
      · rw [runTo_step hk h2] at hl; exact step1_cpx (ih l1 hk) hl
      · rw [runTo_bad hk h2] at hl; cases hl

/-! ### One flip, the program's and the reference's -/
theorem iFlipAt_some {m : Nat} {a : Option Addr} {n c : Nat} {l l' : List Nat} {s t : Int} {w : World} (h : IntsAt w a n (up l)) (hcap : n ≤ c) (hC : Cpx m l) (hs : step1 m l s t = some l') :
    Calls Try.prog 48 #[.agg #[.int .i64 m, .slice a n c], .int .i64 s, .int .i64 t] w (RetBox2 w m (up l') true) := by
  unfold step1 at hs
  split at hs
  · rename_i hq0
    have hq := okIiff.1 hq0
    injection hs with hs
    obtain ⟨u, v, rfl, rfl, h1, h2, hf⟩ := hq.2
    obtain ⟨_, u', _, hu', _, _, hu⟩ := isSet_nat h1
    obtain rfl : u = u' := by omega
    obtain ⟨_, v', _, hv', _, _, hv⟩ := isSet_nat h2
    obtain rfl : v = v' := by omega
    rw [← hs]
    exact iFlipAt_yes m a n c l u v w h hC.six hC.lt64 hu hv fun W' hx' => iFlip_yes m a n c l u v W' hx' hcap hC.anti hC.lt64 true (by simp [hq])
  · cases hs
theorem iFlipAt_none {m : Nat} {a : Option Addr} {n c : Nat} {l : List Nat} {s t : Int} {w : World} (h : IntsAt w a n (up l)) (hcap : n ≤ c) (hC : Cpx m l) (hs : step1 m l s t = none) :
    Calls Try.prog 48 #[.agg #[.int .i64 m, .slice a n c], .int .i64 s, .int .i64 t] w (RetBox2 w 0 [] false) := by
  unfold step1 at hs
  split at hs
  · cases hs
  · rename_i hq0
    have hq : ¬ (pureB l = true ∧ FlipQ m l s t) := fun h => hq0 (okIiff.2 h)
    exact iFlipAt_no m a n c _ s t w h fun W' hx' => iFlip_yes m a n c l s t W' hx' hcap hC.anti hC.lt64 false (by simp [hq])
theorem sFlipAt_some {m : Nat} {a : Option Addr} {n c : Nat} {l l' : List Nat} {s t : Int} {w : World} (h : IntsAt w a n (up l)) (hC : Cpx m l) (hs : step1 m l s t = some l') :
    Calls Try.prog 49 #[.agg #[.int .i64 m, .slice a n c], .int .i64 s, .int .i64 t] w (RetBox2 w m (up l') true) := by
  have hn : n ≤ 64 := by have h1 := h.len; rw [up_len] at h1; have := hC.len; omega
  unfold step1 at hs
  split at hs
  · rename_i hq0
    have hq := okIiff.1 hq0
    injection hs with hs
    obtain ⟨u, v, rfl, rfl, h1, h2, hf⟩ := hq.2
    obtain ⟨m1, u', hm1, hu', _, hum, hu⟩ := isSet_nat h1
    obtain rfl : m = m1 := by omega
    obtain rfl : u = u' := by omega
    obtain ⟨m2, v', hm2, hv', _, hvm, hv⟩ := isSet_nat h2
    obtain rfl : m = m2 := by omega
    obtain rfl : v = v' := by omega
    have hd : u &&& v = 0 := by
      unfold flipB at hf
      simp only [Bool.and_eq_true, beq_iff_eq] at hf
      exact hf.1.1.1.2
    rw [← hs, show ((u : Int)).toNat = u from rfl, show ((v : Int)).toNat = v from rfl, flip_max hC.six hC.lt64 hum hvm hd]
    exact sFlipAt_yes m a n c l u v w h hC.anti hC.lt64 hu hv fun W' hx' => sFlip_yes m a n c l u v W' hx' hn hC.anti hC.lt64 true (by simp [hq])
  · cases hs
theorem sFlipAt_none {m : Nat} {a : Option Addr} {n c : Nat} {l : List Nat} {s t : Int} {w : World} (h : IntsAt w a n (up l)) (hC : Cpx m l) (hs : step1 m l s t = none) :
    Calls Try.prog 49 #[.agg #[.int .i64 m, .slice a n c], .int .i64 s, .int .i64 t] w (RetBox2 w 0 [] false) := by
  have hn : n ≤ 64 := by have h1 := h.len; rw [up_len] at h1; have := hC.len; omega
  unfold step1 at hs
  split at hs
  · cases hs
  · rename_i hq0
    have hq : ¬ (pureB l = true ∧ FlipQ m l s t) := fun h => hq0 (okIiff.2 h)
    exact sFlipAt_no m a n c _ s t w h fun W' hx' => sFlip_yes m a n c l s t W' hx' hn hC.anti hC.lt64 false (by simp [hq])
end Go.Proofs.Ytbdnlncpamandaa

/- Contracts of the copies of a complex, the program's and the reference's. -/
namespace Go.Proofs.Ytbdnlncpamandaa
set_option maxRecDepth 20000
open Go.RowKit
set_option linter.unusedSimpArgs false
set_option linter.unusedVariables false

set_option maxRecDepth 100000 in
set_option maxHeartbeats 1000000 in
theorem iCopy_any (p : Int) (a : Option Addr) (n c : Nat) (xs : List Int) (w : World) (h : IntsAt w a n xs) (hf : Fit a n c) (hn : n < 1000000000) :
    Calls Try.prog 110 #[.agg #[.int .i64 p, .slice a n c]] w (RetBox w p xs) := by
  obtain ⟨w0, hw0⟩ : ∃ w0, w0 = (w.alloc (.cells #[.int .i64 p, .slice a n c] 26)).alloc (.cells #[.int .i64 0, .slice none 0 0] 26) := ⟨_, rfl⟩
  have hx : IntsAt w0.drew a n xs := by rw [hw0]; exact h.keep (by repeat (first | exact Below.refl _ _ | assumption | refine Below.setCell ?_ (by first | omega | (simp; done) | (simp; omega)) _ | refine Below.alloc ?_ (by first | omega | (simp; done) | (simp; omega)) _ | apply Below.drew))
  have hB : Below w.heap.size w w0 := by rw [hw0]; exact (by repeat (first | exact Below.refl _ _ | assumption | refine Below.setCell ?_ (by first | omega | (simp; done) | (simp; omega)) _ | refine Below.alloc ?_ (by first | omega | (simp; done) | (simp; omega)) _ | apply Below.drew))
  have hz0 : w0.heap.size = w.heap.size + 2 := by rw [hw0]; simp
  have xR : BoxF w0 (w.heap.size + 1) (.int .i64 0) (.slice none 0 0) := by
    rw [hw0, show w.heap.size + 1 = (w.alloc (.cells #[.int .i64 p, .slice a n c] 26)).heap.size by simp]
    exact BoxF.new _ _ _ _
  have xA : BoxF w0 w.heap.size (.int .i64 p) (.slice a n c) := by
    rw [hw0]
    exact (BoxF.new w (.int .i64 p) (.slice a n c) 26).alloc _
  have Hx := Lib.hid hx; have HB := Lib.hid hB; have XR := Lib.hid xR; have XA := Lib.hid xA; have HW0 := Lib.hid hw0; have HF := Lib.hid hf
  clear hx hB xR xA hw0 h hf
  go_enter Try.func110, Try.ntmps110
  go_wp2_with fail
  rw [← HW0.out]
  obtain ⟨p0, p1, _, _, _⟩ := XA.out
  have XRd := Lib.hid XR.out.drew; have XAd := Lib.hid XA.out.drew
  go_region_with (go_at_call 138; (with_reducible refine (clone_any a n c xs _ Hx.out HF.out hn).mono ?_); rintro e w2 ⟨ad2, n2, c2, rfl, hown2, hb2⟩; have HO2 := Lib.hid hown2; have HB2 := Lib.hid hb2; obtain ⟨y0, y1, _, _, _⟩ := XAd.out.keep hb2 (by simp; omega); obtain ⟨r0, r1, _, _, _⟩ := XRd.out.keep hb2 (by simp; omega); clear hown2 hb2)
  all_goals go_wp2_with fail
  all_goals (refine bodyPost_ret (v := .agg #[.int .i64 p, .slice ad2 n2 c2]) (by simp [results, Try.results110, go_sem, r0, r1]) rfl ⟨ad2, n2, c2, rfl, ?_, ?_⟩)
  all_goals first
    | exact ((HO2.out.setBelow _ (by first | omega | (simp; omega))).setBelow _ (by first | omega | (simp; omega))).mono (by first | omega | (simp; omega))
    | exact ((HB.out.drew.trans (HB2.out.mono (by first | omega | (simp; omega)))).setCell (by first | (simp; done) | (simp; omega)) _).setCell (by first | (simp; done) | (simp; omega)) _
set_option maxRecDepth 100000 in
set_option maxHeartbeats 1000000 in
theorem sCopy_any (p : Int) (a : Option Addr) (n c : Nat) (xs : List Int) (w : World) (h : IntsAt w a n xs) (hf : Fit a n c) (hn : n < 1000000000) :
    Calls Try.prog 111 #[.agg #[.int .i64 p, .slice a n c]] w (RetBox w p xs) := by
  obtain ⟨w0, hw0⟩ : ∃ w0, w0 = (w.alloc (.cells #[.int .i64 p, .slice a n c] 26)).alloc (.cells #[.int .i64 0, .slice none 0 0] 26) := ⟨_, rfl⟩
  have hx : IntsAt (w0.alloc (.cells #[] 3)).drew a n xs := by rw [hw0]; exact h.keep (by repeat (first | exact Below.refl _ _ | assumption | refine Below.setCell ?_ (by first | omega | (simp; done) | (simp; omega)) _ | refine Below.alloc ?_ (by first | omega | (simp; done) | (simp; omega)) _ | apply Below.drew))
  have hB : Below w.heap.size w w0 := by rw [hw0]; exact (by repeat (first | exact Below.refl _ _ | assumption | refine Below.setCell ?_ (by first | omega | (simp; done) | (simp; omega)) _ | refine Below.alloc ?_ (by first | omega | (simp; done) | (simp; omega)) _ | apply Below.drew))
  have hz0 : w0.heap.size = w.heap.size + 2 := by rw [hw0]; simp
  have xR : BoxF w0 (w.heap.size + 1) (.int .i64 0) (.slice none 0 0) := by
    rw [hw0, show w.heap.size + 1 = (w.alloc (.cells #[.int .i64 p, .slice a n c] 26)).heap.size by simp]
    exact BoxF.new _ _ _ _
  have xA : BoxF w0 w.heap.size (.int .i64 p) (.slice a n c) := by
    rw [hw0]
    exact (BoxF.new w (.int .i64 p) (.slice a n c) 26).alloc _
  have hE : Own 3 (w0.alloc (.cells #[] 3)).drew (w.heap.size + 2) (some ⟨w.heap.size + 2, 0, none⟩) 0 0 [] := by
    have := (Own.empty 3 w0 w0.heap.size (Nat.le_refl _)).drew
    rw [hz0] at this; exact this
  have Hx := Lib.hid hx; have HB := Lib.hid hB; have XR := Lib.hid xR; have XA := Lib.hid xA; have HW0 := Lib.hid hw0; have HF := Lib.hid hf; have HE := Lib.hid hE
  clear hx hB xR xA hw0 h hf hE
  go_enter Try.func111, Try.ntmps111
  go_wp2_with fail
  rw [← HW0.out]
  obtain ⟨p0, p1, _, _, _⟩ := XA.out
  have XRd := Lib.hid (XR.out.alloc (.cells #[] 3)).drew; have XAd := Lib.hid (XA.out.alloc (.cells #[] 3)).drew
  go_region_held3 (fun W => W.cell? ⟨w.heap.size, 0, none⟩ = some (.int .i64 p) ∧ W.cell? ⟨w.heap.size, 1, none⟩ = some (.slice a n c)) (first | exact ⟨p0, p1⟩ | exact ⟨y0, y1⟩ | go_keep) (first
    | (refine step_ap rfl _ _ rfl (w.heap.size + 2) _ _ _ _ rfl HE.out _ _ _ _ rfl Hx.out HF.out (by omega) (by simp; omega) ?_; intro ad2 d2 w2 hown2 hb2; have HO2 := Lib.hid hown2; have HB2 := Lib.hid hb2; obtain ⟨y0, y1, _, _, _⟩ := XAd.out.keep hb2 (by omega); obtain ⟨r0, r1, _, _, _⟩ := XRd.out.keep hb2 (by omega); clear hown2 hb2))
  all_goals go_wp2_with fail
  all_goals (refine bodyPost_ret (v := .agg #[.int .i64 p, .slice ad2 (0 + n) d2]) (by simp [results, Try.results111, go_sem, r0, r1]) rfl ⟨ad2, 0 + n, d2, rfl, ?_, ?_⟩)
  all_goals first
    | exact ((HO2.out.setBelow _ (by first | omega | (simp; omega))).setBelow _ (by first | omega | (simp; omega))).mono (by first | omega | (simp; omega))
    | (exact ((HB.out.alloc (by omega) (.cells #[] 3)).drew.trans (HB2.out.mono (by first | omega | (simp; omega)))).setCell (by first | (simp; done) | (simp; omega)) _ |>.setCell (by first | (simp; done) | (simp; omega)) _)
end Go.Proofs.Ytbdnlncpamandaa

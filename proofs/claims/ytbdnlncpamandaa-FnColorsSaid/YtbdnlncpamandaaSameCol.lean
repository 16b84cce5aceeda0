/- What the colour functions return, the program's and the reference's, with what FnColors asks of it. -/
import Derived.Test.YtbdnlncpamandaaBal
import Derived.Test.YtbdnlncpamandaaColH
import Derived.Test.YtbdnlncpamandaaColS
namespace Go.Proofs.Ytbdnlncpamandaa
set_option maxRecDepth 20000
open Go.RowKit
set_option linter.unusedSimpArgs false
set_option linter.unusedVariables false

theorem col3 (p : Int) (xs cs : List Int) : ∃ (b : Bool) (Fy Hy : List Int),
    (∀ W ad n c, IntsAt W ad n xs → n ≤ c → ∀ ad' n' c', IntsAt W ad' n' cs → n' ≤ c' → Calls Try.prog 22 #[.agg #[.int .i64 p, .slice ad n c], .slice ad' n' c'] W fun e W' => e = .returned (.bool b) ∧ Below W.heap.size W W') ∧
    (∀ W ad n c, IntsAt W ad n xs → n ≤ c → ∀ ad' n' c', IntsAt W ad' n' cs → n' ≤ c' → Calls Try.prog 21 #[.agg #[.int .i64 p, .slice ad n c], .slice ad' n' c'] W fun e W' => e = .returned (.bool b) ∧ Below W.heap.size W W') ∧
    (∀ W ad n c, IntsAt W ad n xs → n ≤ c → ∀ ad' n' c', IntsAt W ad' n' cs → n' ≤ c' → Calls Try.prog 15 #[.agg #[.int .i64 p, .slice ad n c], .slice ad' n' c'] W (RetInts W Fy)) ∧
    (∀ W ad n c, IntsAt W ad n xs → n ≤ c → ∀ ad' n' c', IntsAt W ad' n' cs → n' ≤ c' → Calls Try.prog 8 #[.agg #[.int .i64 p, .slice ad n c], .slice ad' n' c'] W (RetInts W Fy)) ∧
    (∀ W ad n c, IntsAt W ad n xs → n ≤ c → ∀ ad' n' c', IntsAt W ad' n' cs → n' ≤ c' → Calls Try.prog 16 #[.agg #[.int .i64 p, .slice ad n c], .slice ad' n' c'] W (RetInts W Hy)) ∧
    (∀ W ad n c, IntsAt W ad n xs → n ≤ c → ∀ ad' n' c', IntsAt W ad' n' cs → n' ≤ c' → Calls Try.prog 9 #[.agg #[.int .i64 p, .slice ad n c], .slice ad' n' c'] W (RetInts W Hy)) ∧
    (b = true → ∃ l, xs = up l ∧ Anti p xs ∧ ColQ l p.toNat cs ∧ Fy = up (colC l cs) ∧ Hy = chTo (colC l cs) 64) ∧ (b = false → Fy = [] ∧ Hy = []) := by
  by_cases h : Anti p xs
  · obtain ⟨l, rfl, hl2, hs, _⟩ := h.nat
    obtain ⟨m, rfl⟩ := Int.eq_ofNat_of_zero_le (show 0 ≤ p by have := h.1; omega)
    have hm : m ≤ 6 := by have := h.2.1; omega
    have hl64 : ∀ t ∈ l, t < 64 := fun t ht => (hl2 t ht).2
    have hb : ∃ b : Bool, b = true ↔ ColQ l m cs := by
      by_cases hq : ColQ l m cs
      · exact ⟨true, by simp [hq]⟩
      · exact ⟨false, by simp [hq]⟩
    obtain ⟨b, hb⟩ := hb
    have cs1 := fun W ad n c (hx : IntsAt W ad n (up l)) (hc : n ≤ c) ad' n' c' (hy : IntsAt W ad' n' cs) (hc' : n' ≤ c') => sCol_yes m ad n c l ad' n' c' cs W hx hy hm h hl64 b hb
    have ci1 := fun W ad n c (hx : IntsAt W ad n (up l)) (hc : n ≤ c) ad' n' c' (hy : IntsAt W ad' n' cs) (hc' : n' ≤ c') => iCol_yes m ad n c l ad' n' c' cs W hx hy hc hm h hl64 (fun t ht => (hl2 t ht).1) b hb
    cases b
    · have hq : ¬ ColQ l m cs := fun hq => by have := hb.2 hq; cases this
      exact ⟨false, [], [], cs1, ci1,
        fun W ad n c hx hc ad' n' c' hy hc' => sColC_no m ad n c _ ad' n' c' cs W hx hy fun W' hx' hy' => cs1 W' ad n c hx' hc ad' n' c' hy' hc',
        fun W ad n c hx hc ad' n' c' hy hc' => iColC_no m ad n c _ ad' n' c' cs W hx hy fun W' hx' hy' => ci1 W' ad n c hx' hc ad' n' c' hy' hc',
        fun W ad n c hx hc ad' n' c' hy hc' => sColH_no m ad n c _ ad' n' c' cs W hx hy fun W2 hx2 hy2 => sColC_no m ad n c _ ad' n' c' cs W2 hx2 hy2 fun W' hx' hy' => cs1 W' ad n c hx' hc ad' n' c' hy' hc',
        fun W ad n c hx hc ad' n' c' hy hc' => iColH_no m ad n c _ ad' n' c' cs W hx hy fun W2 hx2 hy2 => iColC_no m ad n c _ ad' n' c' cs W2 hx2 hy2 fun W' hx' hy' => ci1 W' ad n c hx' hc ad' n' c' hy' hc',
        fun e => (by cases e), fun _ => ⟨rfl, rfl⟩⟩
    · have hq : ColQ l m cs := hb.1 rfl
      have hfl : (colC l cs).length = 64 := tly_len _ _
      have hf : ∀ k, nthN (colC l cs) k ≤ 64 := fun k => tly_le (ord_len _) k
      exact ⟨true, up (colC l cs), chTo (colC l cs) 64, cs1, ci1,
        fun W ad n c hx hc ad' n' c' hy hc' => sColC_yes m ad n c l ad' n' c' cs W hx hy hm h hl64 hq.1 fun W' hx' hy' => cs1 W' ad n c hx' hc ad' n' c' hy' hc',
        fun W ad n c hx hc ad' n' c' hy hc' => iColC_yes m ad n c l ad' n' c' cs W hx hy hc hm h hl64 hq.1 fun W' hx' hy' => ci1 W' ad n c hx' hc ad' n' c' hy' hc',
        fun W ad n c hx hc ad' n' c' hy hc' => sColH_yes m ad n c _ ad' n' c' cs _ W hx hy hfl hf fun W2 hx2 hy2 => sColC_yes m ad n c l ad' n' c' cs W2 hx2 hy2 hm h hl64 hq.1 fun W' hx' hy' => cs1 W' ad n c hx' hc ad' n' c' hy' hc',
        fun W ad n c hx hc ad' n' c' hy hc' => iColH_yes m ad n c _ ad' n' c' cs _ W hx hy hfl hf fun W2 hx2 hy2 => iColC_yes m ad n c l ad' n' c' cs W2 hx2 hy2 hc hm h hl64 hq.1 fun W' hx' hy' => ci1 W' ad n c hx' hc ad' n' c' hy' hc',
        fun _ => ⟨l, rfl, h, by simpa using hq, rfl, rfl⟩, fun e => by cases e⟩
  · have cs1 := fun W ad n c (hx : IntsAt W ad n xs) (hc : n ≤ c) ad' n' c' (hy : IntsAt W ad' n' cs) (hc' : n' ≤ c') => sCol_no p ad n c xs ad' n' c' cs W hx h
    have ci1 := fun W ad n c (hx : IntsAt W ad n xs) (hc : n ≤ c) ad' n' c' (hy : IntsAt W ad' n' cs) (hc' : n' ≤ c') => iCol_no p ad n c xs ad' n' c' cs W hx hc h
    exact ⟨false, [], [], cs1, ci1,
      fun W ad n c hx hc ad' n' c' hy hc' => sColC_no p ad n c _ ad' n' c' cs W hx hy fun W' hx' hy' => cs1 W' ad n c hx' hc ad' n' c' hy' hc',
      fun W ad n c hx hc ad' n' c' hy hc' => iColC_no p ad n c _ ad' n' c' cs W hx hy fun W' hx' hy' => ci1 W' ad n c hx' hc ad' n' c' hy' hc',
      fun W ad n c hx hc ad' n' c' hy hc' => sColH_no p ad n c _ ad' n' c' cs W hx hy fun W2 hx2 hy2 => sColC_no p ad n c _ ad' n' c' cs W2 hx2 hy2 fun W' hx' hy' => cs1 W' ad n c hx' hc ad' n' c' hy' hc',
      fun W ad n c hx hc ad' n' c' hy hc' => iColH_no p ad n c _ ad' n' c' cs W hx hy fun W2 hx2 hy2 => iColC_no p ad n c _ ad' n' c' cs W2 hx2 hy2 fun W' hx' hy' => ci1 W' ad n c hx' hc ad' n' c' hy' hc',
      fun e => (by cases e), fun _ => ⟨rfl, rfl⟩⟩

theorem least2 (p : Int) (xs : List Int) : ∃ r : Int,
    (∀ W ad n c, IntsAt W ad n xs → n ≤ c → Calls Try.prog 18 #[.agg #[.int .i64 p, .slice ad n c]] W fun e W' => e = .returned (.int .i64 r) ∧ Below W.heap.size W W') ∧
    (∀ W ad n c, IntsAt W ad n xs → n ≤ c → Calls Try.prog 17 #[.agg #[.int .i64 p, .slice ad n c]] W fun e W' => e = .returned (.int .i64 r) ∧ Below W.heap.size W W') ∧
    (∀ l m, xs = up l → p = (m : Nat) → Anti p xs → r = (leastN fun k => (cfind (adjB l) k m []).isSome : Nat)) := by
  by_cases h : Anti p xs
  · obtain ⟨l, rfl, hl2, hs, _⟩ := h.nat
    obtain ⟨m, rfl⟩ := Int.eq_ofNat_of_zero_le (show 0 ≤ p by have := h.1; omega)
    have hm : m ≤ 6 := by have := h.2.1; omega
    have hm1 : 1 ≤ m := by have := h.1; omega
    have hl64 : ∀ t ∈ l, t < 64 := fun t ht => (hl2 t ht).2
    exact ⟨_, fun W ad n c hx hc => specLeast_any m ad n c _ W hx (fun k => (cfind (adjB l) k m []).isSome) (fun k => up ((cfind (adjB l) k m []).getD [])) fun k h1 h6 W' hx' => sFirst_yes m ad n c l k W' hx' hm h1 h6 h hl64,
      fun W ad n c hx hc => implLeast_any m ad n c _ W hx (fun k => (cfind (adjB l) k m []).isSome) (fun k => up ((cfind (adjB l) k m []).getD [])) fun k h1 h6 W' hx' => iFirst_yes m ad n c l k W' hx' hc hm1 hm h1 h6 h hl64,
      fun l' m' he hm' _ => by have := up_inj he; subst this; obtain rfl : m = m' := by omega
                               rfl⟩
  · have hno : ∀ k : Int, ¬ FirP p xs k := fun k hk => h hk.1
    exact ⟨_, fun W ad n c hx hc => specLeast_any p ad n c xs W hx (fun _ => false) (fun _ => []) fun k h1 h6 W' hx' => sFirst_no p ad n c xs k W' hx' (hno k),
      fun W ad n c hx hc => implLeast_any p ad n c xs W hx (fun _ => false) (fun _ => []) fun k h1 h6 W' hx' => iFirst_no p ad n c xs k W' hx' hc (hno k), fun l m _ _ hA => absurd hA h⟩
theorem bal2 (p : Int) (xs : List Int) : ∃ b : Bool,
    (∀ W ad n c, IntsAt W ad n xs → n ≤ c → Calls Try.prog 20 #[.agg #[.int .i64 p, .slice ad n c]] W fun e W' => e = .returned (.bool b) ∧ Below W.heap.size W W') ∧
    (∀ W ad n c, IntsAt W ad n xs → n ≤ c → Calls Try.prog 19 #[.agg #[.int .i64 p, .slice ad n c]] W fun e W' => e = .returned (.bool b) ∧ Below W.heap.size W W') := by
  by_cases h : DimP p xs
  · obtain ⟨h, h0⟩ := h
    obtain ⟨l, rfl, hl2, hs, _⟩ := h.nat
    obtain ⟨m, rfl⟩ := Int.eq_ofNat_of_zero_le (show 0 ≤ p by have := h.1; omega)
    have hm : m ≤ 6 := by have := h.2.1; omega
    have hm1 : 1 ≤ m := by have := h.1; omega
    have hl64 : ∀ t ∈ l, t < 64 := fun t ht => (hl2 t ht).2
    exact ⟨_, fun W ad n c hx hc => sBal_yes m ad n c l W hx hm h hl64 hs (by have := hx.len; omega) _ rfl, fun W ad n c hx hc => iBal_yes m ad n c l W hx hc hm1 hm h hl64 (by have := hx.len; omega) _ rfl⟩
  · exact ⟨false, fun W ad n c hx hc => sBal_no p ad n c xs W hx h, fun W ad n c hx hc => iBal_no p ad n c xs W hx hc h⟩
theorem first3 (p : Int) (xs : List Int) (k : Int) : ∃ (X : List Int) (ok : Bool) (r : Int),
    (∀ W ad n c, IntsAt W ad n xs → n ≤ c → Calls Try.prog 12 #[.agg #[.int .i64 p, .slice ad n c], .int .i64 k] W (RetL2 W X ok)) ∧
    (∀ W ad n c, IntsAt W ad n xs → n ≤ c → Calls Try.prog 11 #[.agg #[.int .i64 p, .slice ad n c], .int .i64 k] W (RetL2 W X ok)) ∧
    (∀ W ad n c, IntsAt W ad n xs → n ≤ c → Calls Try.prog 17 #[.agg #[.int .i64 p, .slice ad n c]] W fun e W' => e = .returned (.int .i64 r) ∧ Below W.heap.size W W') ∧
    (ok = true → ∀ W ad n c, IntsAt W ad n xs → n ≤ c → ∀ ad' n' c', IntsAt W ad' n' X → n' ≤ c' → Calls Try.prog 21 #[.agg #[.int .i64 p, .slice ad n c], .slice ad' n' c'] W fun e W' => e = .returned (.bool true) ∧ Below W.heap.size W W') ∧
    (Anti p xs → 1 ≤ k → k ≤ 6 → ok = decide (r ≤ k)) := by
  obtain ⟨r, _, hri, hrv⟩ := least2 p xs
  by_cases h : FirP p xs k
  · obtain ⟨h, h1, h6⟩ := h
    obtain ⟨l, rfl, hl2, hs, _⟩ := h.nat
    obtain ⟨m, rfl⟩ := Int.eq_ofNat_of_zero_le (show 0 ≤ p by have := h.1; omega)
    obtain ⟨k, rfl⟩ := Int.eq_ofNat_of_zero_le (show 0 ≤ k by omega)
    have hm : m ≤ 6 := by have := h.2.1; omega
    have hm1 : 1 ≤ m := by have := h.1; omega
    have hl64 : ∀ t ∈ l, t < 64 := fun t ht => (hl2 t ht).2
    refine ⟨_, _, r, fun W ad n c hx hc => sFirst_yes m ad n c l k W hx hm (by omega) (by omega) h hl64, fun W ad n c hx hc => iFirst_yes m ad n c l k W hx hc hm1 hm (by omega) (by omega) h hl64, hri, fun hok W ad n c hx hc ad' n' c' hy hc' => ?_, fun _ _ _ => ?_⟩
    · obtain ⟨L, hL⟩ := Option.isSome_iff_exists.1 hok
      refine iCol_yes m ad n c l ad' n' c' _ W hx hy hc hm h hl64 (fun t ht => (hl2 t ht).1) true (by simp only [true_iff]; rw [hL]; exact colQ_found (by omega) hL)
    · rw [hrv l m rfl rfl h]
      rw [least_le (f := fun k => (cfind (adjB l) k m []).isSome) (cfind_all hm) (fun j k hjk hj => cfind_mono hjk hj) (k := k) (by omega)]
      by_cases hh : leastN (fun k => (cfind (adjB l) k m []).isSome) ≤ k
      · simp [hh]
      · simp [hh]
  · refine ⟨[], false, r, fun W ad n c hx hc => sFirst_no p ad n c xs k W hx h, fun W ad n c hx hc => iFirst_no p ad n c xs k W hx hc h, hri, fun e => (by cases e), fun hA h1 h6 => absurd ⟨hA, h1, h6⟩ h⟩
end Go.Proofs.Ytbdnlncpamandaa

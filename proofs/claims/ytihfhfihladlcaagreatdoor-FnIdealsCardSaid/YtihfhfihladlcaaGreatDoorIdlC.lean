/- What the law of ideals asks of its ideals, both sides joined. -/
import Derived.Test.YtihfhfihladlcaaGreatDoorAnti
import Derived.Test.YtihfhfihladlcaaGreatDoorBase
import Derived.Test.YtihfhfihladlcaaGreatDoorIdeal
import Derived.Test.YtihfhfihladlcaaGreatDoorIdeal3
import Derived.Test.YtihfhfihladlcaaGreatDoorIdealText
import Derived.Test.YtihfhfihladlcaaGreatDoorIdlM
import Derived.Test.YtihfhfihladlcaaGreatDoorSumS
namespace Go.Proofs.YtihfhfihladlcaaGreatDoor
set_option maxRecDepth 20000
open Go.RowKit
set_option linter.unusedSimpArgs false
set_option linter.unusedVariables false

theorem sums (p : Int) (xs : List Int) (q : Int) (ys : List Int) : ∃ (P : Int) (zs : List Int) (P' : Int) (zs' : List Int) (b : Bool),
    (∀ W ad n c, IntsAt W ad n xs → Fit ad n c → ∀ ad' n' c', IntsAt W ad' n' ys → Fit ad' n' c' → Calls Tryz.prog 10 #[.agg #[.int .i64 p, .slice ad n c], .agg #[.int .i64 q, .slice ad' n' c']] W (RetBox2 W P zs b)) ∧
    (∀ W ad n c, IntsAt W ad n xs → Fit ad n c → ∀ ad' n' c', IntsAt W ad' n' ys → Fit ad' n' c' → Calls Tryz.prog 9 #[.agg #[.int .i64 p, .slice ad n c], .agg #[.int .i64 q, .slice ad' n' c']] W (RetBox2 W P zs b)) ∧
    (∀ W ad n c, IntsAt W ad n xs → Fit ad n c → ∀ ad' n' c', IntsAt W ad' n' ys → Fit ad' n' c' → Calls Tryz.prog 12 #[.agg #[.int .i64 p, .slice ad n c], .agg #[.int .i64 q, .slice ad' n' c']] W (RetBox2 W P' zs' b)) ∧
    (∀ W ad n c, IntsAt W ad n xs → Fit ad n c → ∀ ad' n' c', IntsAt W ad' n' ys → Fit ad' n' c' → Calls Tryz.prog 11 #[.agg #[.int .i64 p, .slice ad n c], .agg #[.int .i64 q, .slice ad' n' c']] W (RetBox2 W P' zs' b)) ∧
    (b = true → ∀ j : Nat, j < 64 → inId P zs j = (inId p xs j || inId q ys j) ∧ inId P' zs' j = (inId p xs j && inId q ys j)) := by
  by_cases h : TwoP p xs q ys
  · obtain ⟨h1, h2, rfl⟩ := h
    obtain ⟨l, rfl, hl2, hs, _⟩ := h1.nat
    obtain ⟨k, rfl, hk2, hs', _⟩ := h2.nat
    obtain ⟨m, rfl⟩ := Int.eq_ofNat_of_zero_le (show 0 ≤ p by have := h1.1; omega)
    have hm : m ≤ 6 := by have := h1.2.1; omega
    have hm1 : 1 ≤ m := by have := h1.1; omega
    have hl64 : ∀ t ∈ l, t < 64 := fun t ht => (hl2 t ht).2
    have hk64 : ∀ t ∈ k, t < 64 := fun t ht => (hk2 t ht).2
    have hll := sorted_len hs hl64
    have hkl := sorted_len hs' hk64
    refine ⟨m, up (minL fun s => above l (2 ^ m) s || above k (2 ^ m) s), m, up (minL fun s => above l (2 ^ m) s && above k (2 ^ m) s), true, fun W ad n c hx hf ad' n' c' hy hf' => ?_, fun W ad n c hx hf ad' n' c' hy hf' => ?_, fun W ad n c hx hf ad' n' c' hy hf' => ?_, fun W ad n c hx hf ad' n' c' hy hf' => ?_, fun _ j hj => ⟨in_sum hm1 hm h1 h2 hj, in_meet hm1 hm h1 h2 hj⟩⟩
    · rw [← minL_sum (pow_le64 hm) (fun s hs => (hl2 s hs).1) (fun s hs => (hk2 s hs).1)]
      exact sSumIdeals_yes m ad n c l ad' n' c' k W hx hy hf hf' hm h1 h2 hl64 hk64 (by have := hx.len; rw [up_len] at this; omega) (by have := hy.len; rw [up_len] at this; omega)
    · exact iSumIdeals_yes m ad n c l ad' n' c' k W hx hy hf hf' hm h1 h2 hl64 hk64
    · rw [← minL_meet (pow_le64 hm) (fun s hs => (hl2 s hs).1) (fun s hs => (hk2 s hs).1)]
      exact sMeetIdeals_yes m ad n c l ad' n' c' k W hx hy hm h1 h2 hl64 hk64 (by have := hx.len; rw [up_len] at this; omega) (by have := hy.len; rw [up_len] at this; omega)
    · exact iMeetIdeals_yes m ad n c l ad' n' c' k W hx hy hf hf' hm h1 h2 hl64 hk64
  · exact ⟨0, [], 0, [], false, fun W ad n c hx _ ad' n' c' hy _ => sSumIdeals_no p ad n c xs q ad' n' c' ys W hx hy h, fun W ad n c hx hf ad' n' c' hy hf' => iSumIdeals_no p ad n c xs q ad' n' c' ys W hx hy hf hf' h,
      fun W ad n c hx _ ad' n' c' hy _ => sMeetIdeals_no p ad n c xs q ad' n' c' ys W hx hy h, fun W ad n c hx hf ad' n' c' hy hf' => iMeetIdeals_no p ad n c xs q ad' n' c' ys W hx hy hf hf' h, fun h => by cases h⟩
theorem idlOf (p : Int) (xs : List Int) : ∃ (P : Int) (ys : List Int) (b : Bool),
    (∀ W ad n c, IntsAt W ad n xs → n ≤ c → Calls Tryz.prog 15 #[.agg #[.int .i64 p, .slice ad n c]] W (RetBox2 W P ys b)) ∧
    (∀ W ad n c, IntsAt W ad n xs → n ≤ c → Calls Tryz.prog 14 #[.agg #[.int .i64 p, .slice ad n c]] W (RetBox2 W P ys b)) ∧
    (b = true → ∀ W ad n c, IntsAt W ad n ys → n ≤ c → Calls Tryz.prog 16 #[.agg #[.int .i64 P, .slice ad n c]] W (RetBox2 W p xs true)) := by
  by_cases h : Anti p xs
  · obtain ⟨l, rfl, hl2, _⟩ := h.nat
    obtain ⟨m, rfl⟩ := Int.eq_ofNat_of_zero_le (show 0 ≤ p by have := h.1; omega)
    have hm : m ≤ 6 := by have := h.2.1; omega
    have hm1 : 1 ≤ m := by have := h.1; omega
    refine ⟨m, up (minL (missB l (2 ^ m))), true, fun W ad n c hx hc => sIdealOf_yes m ad n c l W hx hc hm1 hm h (fun t ht => (hl2 t ht).2), fun W ad n c hx hc => iIdealOf_yes m ad n c l W hx hc hm1 hm h fun t ht => (hl2 t ht).2, fun _ W ad n c hx hc => ?_⟩
    have hA : Anti m (up (minL (missB l (2 ^ m)))) := anti_minL hm1 hm fun s _ hs => by unfold missB at hs; simp at hs; exact hs.1
    have hll : (minL (missB l (2 ^ m))).length ≤ 64 := ord_len _
    have hok : SetsOk m (up (minL (missB l (2 ^ m)))) := ⟨hA.1, hA.2.1, by rw [up_len]; exact hll, fun i hi => (hA.2.2 i hi).1⟩
    have := iComplexOf_yes m ad n c (minL (missB l (2 ^ m))) W hx hc hm hA hok minL_lt
    rwa [apart_miss (Cpx.of h)] at this
  · exact ⟨0, [], false, fun W ad n c hx hc => sIdealOf_no p ad n c xs W hx hc h, fun W ad n c hx hc => iIdealOf_no p ad n c xs W hx hc h, fun h => by cases h⟩
theorem cpxOf (p : Int) (xs : List Int) : ∃ (P : Int) (ys : List Int) (b : Bool) (rs : List Int),
    (∀ W ad n c, IntsAt W ad n xs → n ≤ c → Calls Tryz.prog 17 #[.agg #[.int .i64 p, .slice ad n c]] W (RetBox2 W P ys b)) ∧
    (∀ W ad n c, IntsAt W ad n xs → n ≤ c → Calls Tryz.prog 16 #[.agg #[.int .i64 p, .slice ad n c]] W (RetBox2 W P ys b)) ∧
    (∀ W ad n c, IntsAt W ad n xs → Fit ad n c → Calls Tryz.prog 28 #[.agg #[.int .i64 p, .slice ad n c]] W (RetInts W rs)) ∧
    (∀ W ad n c, IntsAt W ad n xs → Fit ad n c → Calls Tryz.prog 27 #[.agg #[.int .i64 p, .slice ad n c]] W (RetInts W rs)) ∧ rs.length ≤ 64 ∧
    (b = true → ∃ (m : Nat) (fl : List Nat), p = m ∧ m ≤ 6 ∧ ys = up fl ∧ fl.length ≤ 64 ∧ (∀ t ∈ fl, t < 2 ^ m) ∧ rs = up (ord (fl.map fun t => 2 ^ m - 1 - t).contains)) := by
  by_cases h : Anti p xs
  · obtain ⟨l, rfl, hl2, hs, _⟩ := h.nat
    obtain ⟨m, rfl⟩ := Int.eq_ofNat_of_zero_le (show 0 ≤ p by have := h.1; omega)
    have hm : m ≤ 6 := by have := h.2.1; omega
    have hl64 : ∀ t ∈ l, t < 64 := fun t ht => (hl2 t ht).2
    have hll := sorted_len hs hl64
    have hok : SetsOk m (up l) := ⟨h.1, h.2.1, by rw [up_len]; exact hll, fun i hi => (h.2.2 i hi).1⟩
    refine ⟨m, up (maxL (apart l (2 ^ m))), true, up (minL (meets l (2 ^ m))), fun W ad n c hx hc => sComplexOf_yes m ad n c l W hx hm h hl64, fun W ad n c hx hc => iComplexOf_yes m ad n c l W hx hc hm h hok hl64,
      fun W ad n c hx hc => sPrimes_yes m ad n c l W hx hm h hl64, fun W ad n c hx hc => iPrimes_yes m ad n c l W hx hc hm (by have := hx.len; rw [up_len] at this; omega) h hok hl64, by rw [up_len]; exact ord_len _,
      fun _ => ⟨m, maxL (apart l (2 ^ m)), rfl, hm, rfl, ord_len _, fun t ht => ?_, ?_⟩⟩
    · have := (mem_maxL.1 ht).2.1
      unfold apart at this; simp at this; exact this.1
    · rw [compl_primes hm fun g hg => (hl2 g hg).1]
  · exact ⟨0, [], false, [], fun W ad n c hx hc => specComplexOf_no p ad n c xs W hx hc h, fun W ad n c hx hc => implComplexOf_no p ad n c xs W hx hc h,
      fun W ad n c hx hc => sPrimes_no p ad n c xs W hx h, fun W ad n c hx hc => iPrimes_no p ad n c xs W hx hc.cap h, by simp, fun h => by cases h⟩
theorem quots (p : Int) (xs : List Int) (t : Int) : ∃ (P : Int) (ys : List Int) (b : Bool),
    (∀ W ad n c, IntsAt W ad n xs → n ≤ c → Calls Tryz.prog 20 #[.agg #[.int .i64 p, .slice ad n c], .int .i64 t] W (RetBox2 W P ys b)) ∧
    (∀ W ad n c, IntsAt W ad n xs → n ≤ c → Calls Tryz.prog 19 #[.agg #[.int .i64 p, .slice ad n c], .int .i64 t] W (RetBox2 W P ys b)) ∧
    (b = true → ∃ s : Nat, t = s ∧ s < 64 ∧ ∀ j : Nat, isSetB p j = true → inId P ys j = inId p xs ((j ||| s : Nat) : Int)) := by
  by_cases h : QuoP p xs t
  · obtain ⟨h1, h2⟩ := h
    obtain ⟨l, rfl, hl2, hs, _⟩ := h1.nat
    obtain ⟨m, s, rfl, rfl, h6, h3, hs64⟩ := isSet_nat h2
    have hm : m ≤ 6 := by have := h1.2.1; omega
    have hm1 : 1 ≤ m := by have := h1.1; omega
    have hl64 : ∀ t ∈ l, t < 64 := fun t ht => (hl2 t ht).2
    have hll := sorted_len hs hl64
    refine ⟨m, up (minL fun t => decide (t < 2 ^ m) && l.any (sub · (t ||| s))), true, fun W ad n c hx hc => ?_, fun W ad n c hx hc => ?_, fun _ => ⟨s, rfl, hs64, fun j hj => in_quot hm1 hm h1 h3 ((isSet_at hm).1 hj)⟩⟩
    · rw [← minL_quot (pow_le64 hm) hs64 (fun g hg => (hl2 g hg).1)]
      exact sQuotientBy_yes m ad n c l s W hx hm (by have := hx.len; rw [up_len] at this; omega) hs64 h1 h2 hl64
    · exact iQuotientBy_yes m ad n c l s W hx hc hm hs64 h1 h2 hl64
  · exact ⟨0, [], false, fun W ad n c hx hc => sQuotientBy_no p ad n c xs t W hx h, fun W ad n c hx hc => iQuotientBy_no p ad n c xs t W hx hc h, fun h => by cases h⟩
theorem mkIdl (p : Int) (xs : List Int) : ∃ (P : Int) (ys : List Int) (b : Bool),
    (∀ W ad n c, IntsAt W ad n xs → Calls Tryz.prog 23 #[.int .i64 p, .slice ad n c] W (RetBox2 W P ys b)) ∧
    (∀ W ad n c, IntsAt W ad n xs → Calls Tryz.prog 22 #[.int .i64 p, .slice ad n c] W (RetBox2 W P ys b)) := by
  by_cases h : SetsOk p xs
  · obtain ⟨l, rfl, _, h64⟩ := h.nat
    exact ⟨p, up (minL l.contains), true, fun W ad n c hx => sMakeIdeal_yes p ad n c l W hx h64 h, fun W ad n c hx => iMakeIdeal_yes p ad n c l W hx h64 h⟩
  · exact ⟨0, [], false, fun W ad n c hx => sMakeIdeal_no p ad n c xs W hx h, fun W ad n c hx => iMakeIdeal_no p ad n c xs W hx h⟩
theorem idlTx (p : Int) (xs : List Int) : ∃ (r : ByteArray) (b : Bool),
    (∀ W ad n c, IntsAt W ad n xs → n ≤ c → Calls Tryz.prog 30 #[.agg #[.int .i64 p, .slice ad n c]] W fun e w' => e = .returned (.string r) ∧ Below W.heap.size W w') ∧
    (∀ W ad n c, IntsAt W ad n xs → n ≤ c → Calls Tryz.prog 29 #[.agg #[.int .i64 p, .slice ad n c]] W fun e w' => e = .returned (.string r) ∧ Below W.heap.size W w') ∧
    (∀ W ad n c, IntsAt W ad n xs → n ≤ c → Calls Tryz.prog 32 #[.agg #[.int .i64 p, .slice ad n c]] W fun e w' => e = .returned (.bool b) ∧ Below W.heap.size W w') ∧
    (∀ W ad n c, IntsAt W ad n xs → n ≤ c → Calls Tryz.prog 31 #[.agg #[.int .i64 p, .slice ad n c]] W fun e w' => e = .returned (.bool b) ∧ Below W.heap.size W w') ∧
    (∀ s W ad n c, IntsAt W ad n xs → n ≤ c → Calls Tryz.prog 35 #[.agg #[.int .i64 p, .slice ad n c], .int .i64 s] W fun e w' => e = .returned (.bool (inId p xs s)) ∧ Below W.heap.size W w') := by
  obtain ⟨b, hb⟩ := anti_dec p xs
  have hI : ∀ s W ad n c, IntsAt W ad n xs → n ≤ c → Calls Tryz.prog 35 #[.agg #[.int .i64 p, .slice ad n c], .int .i64 s] W fun e w' => e = .returned (.bool (inId p xs s)) ∧ Below W.heap.size W w' := fun s W ad n c h hc => iInIdeal_any p ad n c xs s W h hc _ inId_iff
  by_cases h : Anti p xs
  · obtain ⟨l, rfl, hl2, hs, _⟩ := h.nat
    obtain ⟨m, rfl⟩ := Int.eq_ofNat_of_zero_le (show 0 ≤ p by have := h.1; omega)
    have hl64 : ∀ t ∈ l, t < 64 := fun t ht => (hl2 t ht).2
    have hll := sorted_len hs hl64
    exact ⟨str (posText m l), b, fun W ad n c hx hc => sIdealText_yes m ad n c l W hx h hl64 (by have := hx.len; rw [up_len] at this; omega), fun W ad n c hx hc => iIdealText_yes m ad n c l W hx hc h hl64 (by have := hx.len; rw [up_len] at this; omega),
      fun W ad n c h _ => sIsIdeal_any m ad n c _ W h b hb, fun W ad n c h hc => iIsIdeal_any m ad n c _ W h hc b hb, hI⟩
  · exact ⟨str [], b, fun W ad n c hx _ => sIdealText_no p ad n c xs W hx h, fun W ad n c hx hc => iIdealText_no p ad n c xs W hx hc h,
      fun W ad n c h _ => sIsIdeal_any p ad n c _ W h b hb, fun W ad n c h hc => iIsIdeal_any p ad n c _ W h hc b hb, hI⟩
theorem inIdl (p : Int) (xs : List Int) (s : Int) (W : World) (ad : Option Addr) (n c : Nat) (h : IntsAt W ad n xs) (hc : n ≤ c) :
    Calls Tryz.prog 35 #[.agg #[.int .i64 p, .slice ad n c], .int .i64 s] W fun e w' => e = .returned (.bool (inId p xs s)) ∧ Below W.heap.size W w' := iInIdeal_any p ad n c xs s W h hc _ inId_iff
end Go.Proofs.YtihfhfihladlcaaGreatDoor

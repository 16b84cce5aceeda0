/- What the law FnFlips asks of flips: contracts and plain facts, joined. -/
import Derived.Test.YtbdnlncpamandaaEuler
import Derived.Test.YtbdnlncpamandaaFaces3
import Derived.Test.YtbdnlncpamandaaFlipS2
import Derived.Test.YtbdnlncpamandaaHoles
import Derived.Test.YtbdnlncpamandaaRun3
import Derived.Test.YtbdnlncpamandaaTopo3
namespace Go.Proofs.Ytbdnlncpamandaa
set_option maxRecDepth 20000
open Go.RowKit
set_option linter.unusedSimpArgs false
set_option linter.unusedVariables false

/-- a flip that may be made, in numbers -/
theorem step1_parts {m : Nat} {l l' : List Nat} {s t : Int} (h : step1 m l s t = some l') : ∃ u v : Nat, s = u ∧ t = v ∧ isSetB m s = true ∧ isSetB m t = true ∧ u < 2 ^ m ∧ v < 2 ^ m ∧ pureB l = true ∧ flipB l u v = true ∧ l' = maxL (flipFam l m u v) := by
  unfold step1 at h
  split at h
  · rename_i hq0
    have hq := okIiff.1 hq0
    injection h with h
    obtain ⟨u, v, rfl, rfl, h1, h2, hf⟩ := hq.2
    obtain ⟨m1, u', hm1, hu', _, hum, _⟩ := isSet_nat h1
    obtain rfl : m = m1 := by omega
    obtain rfl : u = u' := by omega
    obtain ⟨m2, v', hm2, hv', _, hvm, _⟩ := isSet_nat h2
    obtain rfl : m = m2 := by omega
    obtain rfl : v = v' := by omega
    exact ⟨u, v, rfl, rfl, h1, h2, hum, hvm, hq.1, hf, h.symm⟩
  · cases h
theorem step1_keeps {m : Nat} {l l' : List Nat} {s t : Int} (hC : Cpx m l) (h : step1 m l s t = some l') :
    pureB l' = true ∧ topTo (isFace l') 64 = topTo (isFace l) 64 ∧ (∀ pr, Prm pr → holesL pr (isFace l') = holesL pr (isFace l)) ∧ eul (isFace l') = eul (isFace l) := by
  obtain ⟨u, v, _, _, _, _, hu, hv, hp, hf, rfl⟩ := step1_parts h
  exact flip_keeps hC (FlipH.of hf) hu hv hp
theorem step1_back {m : Nat} {l l' : List Nat} {s t : Int} (hC : Cpx m l) (h : step1 m l s t = some l') : step1 m l' t s = some l ∧ l ≠ [] ∧ l' ≠ [] := by
  have hk := step1_keeps hC h
  obtain ⟨u, v, rfl, rfl, h1, h2, hu, hv, hp, hf, rfl⟩ := step1_parts h
  have hH := FlipH.of hf
  have hu64 := Nat.lt_of_lt_of_le hu (pow_le64 hC.six)
  have hv64 := Nat.lt_of_lt_of_le hv (pow_le64 hC.six)
  have ht := flip_twice hH hC.lt64 hu64 hv64 hu hv
  have hne : ∀ {x : Nat} {k : List Nat}, isFace k x = true → k ≠ [] := fun h e => by
    obtain ⟨f, hf, _⟩ := isFace_iff.1 h
    rw [e] at hf; cases hf
  refine ⟨?_, hne hH.fs, hne (FlipH.of ht).fs⟩
  unfold step1
  rw [if_pos (okIiff.2 ⟨hk.1, v, u, rfl, rfl, h2, h1, ht⟩)]
  exact congrArg some (flip_back hC hH hu hv)
/-- a run of flips keeps what each of them keeps -/
theorem run_keeps {m : Nat} {l : List Nat} {L : List (List Int)} (hC : Cpx m l) (hp : pureB l = true) : ∀ k l', runTo m l L k = some l' →
    pureB l' = true ∧ topTo (isFace l') 64 = topTo (isFace l) 64 ∧ (∀ pr, Prm pr → holesL pr (isFace l') = holesL pr (isFace l)) ∧ eul (isFace l') = eul (isFace l)
  | 0, l', h => by
    unfold runTo at h; injection h with h; subst h
    exact ⟨hp, rfl, fun _ _ => rfl, rfl⟩
  | k + 1, l', h => by
    cases hk : runTo m l L k with
    | none => have := runTo_none hk 1; rw [this] at h; cases h
    | some l1 =>
      obtain ⟨g1, g2, g3, g4⟩ := run_keeps hC hp k l1 hk
      by_cases h2 : (nthL L k).length = 2
      · rw [runTo_step hk h2] at h
        obtain ⟨f1, f2, f3, f4⟩ := step1_keeps (runTo_cpx hC k l1 hk) h
        exact ⟨f1, f2.trans g2, fun pr hpr => (f3 pr hpr).trans (g3 pr hpr), f4.trans g4⟩
      · rw [runTo_bad hk h2] at h; cases h

theorem flipped (p : Int) (xs : List Int) (s t : Int) : ∃ (P : Int) (zs : List Int) (b : Bool),
    (∀ W ad n c, IntsAt W ad n xs → n ≤ c → Calls Try.prog 49 #[.agg #[.int .i64 p, .slice ad n c], .int .i64 s, .int .i64 t] W (RetBox2 W P zs b)) ∧
    (∀ W ad n c, IntsAt W ad n xs → n ≤ c → Calls Try.prog 48 #[.agg #[.int .i64 p, .slice ad n c], .int .i64 s, .int .i64 t] W (RetBox2 W P zs b)) ∧
    (∀ W ad n c, IntsAt W ad n xs → n ≤ c → Calls Try.prog 60 #[.agg #[.int .i64 p, .slice ad n c], .int .i64 s, .int .i64 t] W fun e w' => e = .returned (.bool b) ∧ Below W.heap.size W w') ∧
    (b = true → ∃ (H : List Int) (D : Int), (-100 ≤ D ∧ D ≤ 100) ∧
      (∀ W ad n c, IntsAt W ad n zs → n ≤ c → Calls Try.prog 48 #[.agg #[.int .i64 P, .slice ad n c], .int .i64 t, .int .i64 s] W (RetBox2 W p xs true)) ∧
      (∀ W ad n c, IntsAt W ad n zs → Calls Try.prog 46 #[.agg #[.int .i64 P, .slice ad n c]] W fun e w' => e = .returned (.bool true) ∧ Below W.heap.size W w') ∧
      (∀ W ad n c, IntsAt W ad n zs → Calls Try.prog 27 #[.agg #[.int .i64 P, .slice ad n c]] W fun e w' => e = .returned (.int .i64 D) ∧ Below W.heap.size W w') ∧
      (∀ W ad n c, IntsAt W ad n xs → Calls Try.prog 27 #[.agg #[.int .i64 p, .slice ad n c]] W fun e w' => e = .returned (.int .i64 D) ∧ Below W.heap.size W w') ∧
      (∀ W ad n c, IntsAt W ad n zs → Calls Try.prog 45 #[.agg #[.int .i64 P, .slice ad n c], .int .i64 2] W (RetInts W H)) ∧
      (∀ W ad n c, IntsAt W ad n xs → Calls Try.prog 45 #[.agg #[.int .i64 p, .slice ad n c], .int .i64 2] W (RetInts W H))) := by
  by_cases h : Anti p xs
  · obtain ⟨m, rfl⟩ := Int.eq_ofNat_of_zero_le (show 0 ≤ p by have := h.1; omega)
    obtain ⟨l, rfl, _⟩ := h.nat
    have hC := Cpx.of h
    cases hst : step1 m l s t with
    | none =>
      have hno : ¬ (pureB l = true ∧ FlipQ m l s t) := fun hq => by
        unfold step1 at hst
        rw [if_pos (okIiff.2 hq)] at hst; cases hst
      exact ⟨0, [], false, fun W ad n c hx hc => sFlipAt_none hx hC hst, fun W ad n c hx hc => iFlipAt_none hx hc hC hst, fun W ad n c hx hc => iFlip_yes m ad n c l s t W hx hc hC.anti hC.lt64 false (by simp [hno]), fun h => by cases h⟩
    | some l' =>
      have hC2 := step1_cpx hC hst
      obtain ⟨k1, k2, k3, k4⟩ := step1_keeps hC hst
      obtain ⟨hb, hl, hl'⟩ := step1_back hC hst
      have hq : pureB l = true ∧ FlipQ m l s t := by
        obtain ⟨u, v, rfl, rfl, h1, h2, hu, hv, hp, hf, _⟩ := step1_parts hst
        exact ⟨hp, u, v, rfl, rfl, h1, h2, hf⟩
      have ht := topTo_le (isFace l) 64
      have hpos : ∀ {k : List Nat} {W : World} {ad : Option Addr} {n : Nat}, k ≠ [] → IntsAt W ad n (up k) → 0 < n := fun hk hx => by
        have h1 := hx.len
        rw [up_len] at h1
        rw [← h1]; exact List.length_pos_iff.2 hk
      refine ⟨m, up l', true, fun W ad n c hx hc => sFlipAt_some hx hC hst, fun W ad n c hx hc => iFlipAt_some hx hc hC hst, fun W ad n c hx hc => iFlip_yes m ad n c l s t W hx hc hC.anti hC.lt64 true (by simp [hq]), fun _ =>
        ⟨holesL 2 (isFace l), (topTo (isFace l) 64 : Int) - 2, by omega, fun W ad n c hx hc => iFlipAt_some hx hc hC2 hb, fun W ad n c hx => sPure_yes m ad n c l' W hx hC2.anti hC2.lt64 true k1, fun W ad n c hx => ?_, fun W ad n c hx => sDim_yes m ad n c l W hx hC.anti hC.lt64 (cpx_parts hC).1 (hpos hl hx), fun W ad n c hx => ?_, fun W ad n c hx => sHoles_yes m ad n c l 2 W hx hC.anti hC.lt64 (.inl rfl)⟩⟩
      · rw [← k2]; exact sDim_yes m ad n c l' W hx hC2.anti hC2.lt64 (cpx_parts hC2).1 (hpos hl' hx)
      · rw [← k3 2 (.inl rfl)]; exact sHoles_yes m ad n c l' 2 W hx hC2.anti hC2.lt64 (.inl rfl)
  · exact ⟨0, [], false, fun W ad n c hx hc => sFlipAt_no p ad n c xs s t W hx fun W' hx' => sFlip_no p ad n c xs s t W' hx' h, fun W ad n c hx hc => iFlipAt_no p ad n c xs s t W hx fun W' hx' => iFlip_no p ad n c xs s t W' hx' hc h, fun W ad n c hx hc => iFlip_no p ad n c xs s t W hx hc h, fun h => by cases h⟩

theorem listed (p : Int) (xs : List Int) : ∃ L : List (List Int), L.length ≤ 4096 ∧
    (∀ W ad n c, IntsAt W ad n xs → n ≤ c → Calls Try.prog 51 #[.agg #[.int .i64 p, .slice ad n c]] W (RetInts2 W L)) ∧
    (∀ W ad n c, IntsAt W ad n xs → n ≤ c → Calls Try.prog 57 #[.agg #[.int .i64 p, .slice ad n c]] W (RetInts2 W L)) ∧
    (∀ k, k < L.length → (nthL L k).length = 2 ∧ ∀ W ad n c, IntsAt W ad n xs → n ≤ c → Calls Try.prog 60 #[.agg #[.int .i64 p, .slice ad n c], .int .i64 (nth (nthL L k) 0), .int .i64 (nth (nthL L k) 1)] W fun e w' => e = .returned (.bool true) ∧ Below W.heap.size W w') := by
  by_cases h : Anti p xs
  · obtain ⟨m, rfl⟩ := Int.eq_ofNat_of_zero_le (show 0 ≤ p by have := h.1; omega)
    obtain ⟨l, rfl, _⟩ := h.nat
    have hC := Cpx.of h
    refine ⟨allS (okF m l) 64, allS_len _ 64, fun W ad n c hx hc => ?_, fun W ad n c hx hc => sFlipsOf_yes m ad n c l W hx (by have h1 := hx.len; rw [up_len] at h1; have := hC.len; omega) h hC.lt64, fun k hk => ?_⟩
    · cases hp : pureB l
      · rw [allS_none (fun s t => by unfold okF; rw [hp]; rfl)]
        exact iFlipsOf_stop m ad n c _ W hx fun W' hx' => iPure_yes m ad n c l W' hx' hc h hC.lt64 false hp
      · exact iFlipsOf_yes m ad n c l W hx hc hC.six h hC.lt64 hp
    · have hm : nthL (allS (okF m l) 64) k ∈ allS (okF m l) 64 := by rw [nthL_at hk]; exact List.getElem_mem _
      obtain ⟨y, hy⟩ : ∃ y, y = nthL (allS (okF m l) 64) k := ⟨_, rfl⟩
      rw [← hy] at hm ⊢
      unfold allS at hm
      obtain ⟨s, hs, hm⟩ := List.mem_flatMap.1 hm
      unfold rowT at hm
      obtain ⟨t, ht, rfl⟩ := List.mem_map.1 hm
      have hok := (List.mem_filter.1 ht).2
      exact ⟨rfl, fun W ad n c hx hc => iFlip_yes m ad n c l s t W hx hc hC.anti hC.lt64 true ⟨fun _ => okIff.1 hok, fun _ => rfl⟩⟩
  · exact ⟨[], by simp, fun W ad n c hx hc => iFlipsOf_stop p ad n c xs W hx fun W' hx' => iPure_no p ad n c xs W' hx' hc h, fun W ad n c hx hc => sFlipsOf_no p ad n c xs W hx h, fun k hk => absurd hk (Nat.not_lt_zero _)⟩

theorem ran (p : Int) (xs : List Int) (L : List (List Int)) : ∃ (P : Int) (zs : List Int) (b : Bool),
    (∀ W ad n c, IntsAt W ad n xs → Fit ad n c → ∀ ad' n' c', RowsAt W ad' n' L → Calls Try.prog 54 #[.agg #[.int .i64 p, .slice ad n c], .slice ad' n' c'] W (RetBox2 W P zs b)) ∧
    (∀ W ad n c, IntsAt W ad n xs → Fit ad n c → ∀ ad' n' c', RowsAt W ad' n' L → Calls Try.prog 53 #[.agg #[.int .i64 p, .slice ad n c], .slice ad' n' c'] W (RetBox2 W P zs b)) ∧
    (b = true → ∃ (B : Bool) (E : Int) (H : List Int),
      (∀ W ad n c, IntsAt W ad n xs → Calls Try.prog 46 #[.agg #[.int .i64 p, .slice ad n c]] W fun e w' => e = .returned (.bool B) ∧ Below W.heap.size W w') ∧
      (B = true →
        (∀ W ad n c, IntsAt W ad n zs → Calls Try.prog 43 #[.agg #[.int .i64 P, .slice ad n c]] W fun e w' => e = .returned (.int .i64 E) ∧ Below W.heap.size W w') ∧
        (∀ W ad n c, IntsAt W ad n xs → Calls Try.prog 43 #[.agg #[.int .i64 p, .slice ad n c]] W fun e w' => e = .returned (.int .i64 E) ∧ Below W.heap.size W w') ∧
        (∀ W ad n c, IntsAt W ad n zs → Calls Try.prog 45 #[.agg #[.int .i64 P, .slice ad n c], .int .i64 3] W (RetInts W H)) ∧
        (∀ W ad n c, IntsAt W ad n xs → Calls Try.prog 45 #[.agg #[.int .i64 p, .slice ad n c], .int .i64 3] W (RetInts W H)))) := by
  by_cases h : runP p xs L
  · obtain ⟨hA, h20⟩ := h
    obtain ⟨l, rfl, _⟩ := hA.nat
    obtain ⟨m, rfl⟩ := Int.eq_ofNat_of_zero_le (show 0 ≤ p by have := hA.1; omega)
    have hC := Cpx.of hA
    cases hr : runTo m l L L.length with
    | none =>
      refine ⟨0, [], false, fun W ad n c hx hf ad' n' c' hR => ?_, fun W ad n c hx hf ad' n' c' hR => ?_, fun h => by cases h⟩
      · have := sRun_ok m ad n c l ad' n' c' L W hx hf hC hR (by obtain ⟨f, hR⟩ := hR; rw [← hR.len]; exact h20)
        rw [show n' = L.length by obtain ⟨f, hR⟩ := hR; exact hR.len.symm, hr] at this; rw [show n' = L.length by obtain ⟨f, hR⟩ := hR; exact hR.len.symm]; exact this
      · have := iRun_ok m ad n c l ad' n' c' L W hx hf hC hR (by obtain ⟨f, hR⟩ := hR; rw [← hR.len]; exact h20)
        rw [show n' = L.length by obtain ⟨f, hR⟩ := hR; exact hR.len.symm, hr] at this; rw [show n' = L.length by obtain ⟨f, hR⟩ := hR; exact hR.len.symm]; exact this
    | some l' =>
      have hC2 := runTo_cpx hC _ l' hr
      refine ⟨m, up l', true, fun W ad n c hx hf ad' n' c' hR => ?_, fun W ad n c hx hf ad' n' c' hR => ?_, fun _ => ⟨pureB l, eul (isFace l), holesL 3 (isFace l), fun W ad n c hx => sPure_yes m ad n c l W hx hC.anti hC.lt64 _ rfl, fun hp => ?_⟩⟩
      · have := sRun_ok m ad n c l ad' n' c' L W hx hf hC hR (by obtain ⟨f, hR⟩ := hR; rw [← hR.len]; exact h20)
        rw [show n' = L.length by obtain ⟨f, hR⟩ := hR; exact hR.len.symm, hr] at this; rw [show n' = L.length by obtain ⟨f, hR⟩ := hR; exact hR.len.symm]; exact this
      · have := iRun_ok m ad n c l ad' n' c' L W hx hf hC hR (by obtain ⟨f, hR⟩ := hR; rw [← hR.len]; exact h20)
        rw [show n' = L.length by obtain ⟨f, hR⟩ := hR; exact hR.len.symm, hr] at this; rw [show n' = L.length by obtain ⟨f, hR⟩ := hR; exact hR.len.symm]; exact this
      · obtain ⟨k1, k2, k3, k4⟩ := run_keeps hC hp _ l' hr
        refine ⟨fun W ad n c hx => ?_, fun W ad n c hx => sEuler_yes m ad n c l W hx hC.anti hC.lt64, fun W ad n c hx => ?_, fun W ad n c hx => sHoles_yes m ad n c l 3 W hx hC.anti hC.lt64 (.inr (.inl rfl))⟩
        · rw [← k4]; exact sEuler_yes m ad n c l' W hx hC2.anti hC2.lt64
        · rw [← k3 3 (.inr (.inl rfl))]; exact sHoles_yes m ad n c l' 3 W hx hC2.anti hC2.lt64 (.inr (.inl rfl))
  · exact ⟨0, [], false, fun W ad n c hx hf ad' n' c' hR => sRun_bad p ad n c xs ad' n' c' L W hx hf.cap (by obtain ⟨f, hR⟩ := hR; exact hR.len) h, fun W ad n c hx hf ad' n' c' hR => iRun_bad p ad n c xs ad' n' c' L W hx hf.cap (by obtain ⟨f, hR⟩ := hR; exact hR.len) h, fun h => by cases h⟩
end Go.Proofs.Ytbdnlncpamandaa

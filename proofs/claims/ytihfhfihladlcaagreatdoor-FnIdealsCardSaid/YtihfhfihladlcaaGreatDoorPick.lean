/- Contracts: pickSets with a test that reads only; maximalIn; what rests on them. -/
import Derived.Test.YtihfhfihladlcaaGreatDoorSet3
namespace Go.Proofs.YtihfhfihladlcaaGreatDoor
set_option maxRecDepth 20000
open Go.RowKit
set_option linter.unusedSimpArgs false
set_option linter.unusedVariables false

/-- the family of the sets below k that pass a test -/
def pickN (q : Nat → Bool) (k : Nat) : Nat := fam fun s => decide (s < k) && q s
theorem pickN_zero (q : Nat → Bool) : pickN q 0 = 0 := (fam_congr fun s _ => by simp).trans fam_zero
theorem pickN_yes {q : Nat → Bool} {k : Nat} (hk : k < 64) (h : q k = true) : pickN q k ||| 2 ^ k = pickN q (k + 1) := by
  unfold pickN
  rw [fam_or_bit _ hk]
  apply fam_congr
  intro s _
  by_cases hs : s = k
  · subst hs; simp [h]
  · have : (s < k + 1) = (s < k) := by apply propext; omega
    simp [hs, this]
theorem pickN_no {q : Nat → Bool} {k : Nat} (h : q k = false) : pickN q (k + 1) = pickN q k := by
  unfold pickN
  apply fam_congr
  intro s _
  by_cases hs : s = k
  · subst hs; simp [h]
  · have : (s < k + 1) = (s < k) := by apply propext; omega
    simp [this]

set_option maxRecDepth 100000 in
set_option maxHeartbeats 1000000 in
theorem pickSets_any (K : FuncId) (caps : Array Value) (q : Nat → Bool) (m : Nat) (w : World) (hm6 : m ≤ 6) (hf : ∀ args w, Sem.run Tryz.prog (callFunc K args) w = .ok (.enter K args) w)
    (hK : ∀ s, s < 64 → Calls Tryz.prog K (#[.int .i64 (s : Nat)] ++ caps) w fun e w' => e = .returned (.bool (q s)) ∧ w = w') :
    Calls Tryz.prog 94 #[.int .i64 m, .func (.func K) #[] caps] w fun e w' => e = .returned (.int .u64 (pickN q (2 ^ m))) ∧ w = w' := by
  have hm8 : m < 8 := by omega
  obtain ⟨N, hN⟩ : ∃ N, N = 2 ^ m := ⟨_, rfl⟩
  have hN64 : N ≤ 64 := by rw [hN]; exact Nat.pow_le_pow_right (n := 2) (by omega) hm6
  have hNe : (2 : Int) ^ m = (N : Int) := by rw [hN]; norm_cast
  rw [← hN]
  have HN := Lib.hid hN; clear hN
  have HK := Lib.hid hK; clear hK
  have Hf := Lib.hid hf; clear hf
  go_enter Tryz.func94, Tryz.ntmps94
  go_wp2_with fail
  go_loop [5, 6] (fun f i => ∃ I G : Nat, I ≤ N ∧ i = .int .i64 I ∧ f = .int .u64 G ∧ Fam G ∧ Hid (G = pickN q I)) (fun _ i => N - (intOf i).toNat)
  case atStart => exact ⟨0, 0, Nat.zero_le _, rfl, rfl, Fam.zero, Lib.hid (pickN_zero q).symm⟩
  case round =>
    obtain ⟨I, G, hI, rfl, rfl, hG, hGe⟩ := hrel
    by_cases hlt : I < N
    · have hlt' : (I : Int) < 2 ^ m := by rw [hNe]; omega
      have hI64 : I < 64 := by omega
      have hcall := HK.out I hI64
      obtain ⟨d, hd⟩ : ∃ d, d = q I := ⟨_, rfl⟩
      rw [← hd] at hcall
      have Hd := Lib.hid hd; clear hd
      have Hcall := Lib.hid hcall; clear hcall
      cases d
      · go_wp2_with fail
        rw [Hf.out, Oper.upon_enter]
        refine Hcall.out.mono ?_
        rintro e we ⟨rfl, rfl⟩
        go_wp2_with fail
        go_round
        case rel => exact ⟨I + 1, G, by omega, by go_num, rfl, hG, Lib.hid (by rw [hGe.out, pickN_no Hd.out.symm])⟩
        case measure => simp [intOf]; omega
      · go_wp2_with fail
        rw [Hf.out, Oper.upon_enter]
        refine Hcall.out.mono ?_
        rintro e we ⟨rfl, rfl⟩
        go_wp2_with fail
        go_round
        case rel => exact ⟨I + 1, G ||| 2 ^ I, by omega, by go_num, by go_num, hG.or (Fam.bit hI64), Lib.hid (by rw [hGe.out, pickN_yes hI64 Hd.out.symm])⟩
        case measure => simp [intOf]; omega
    · obtain rfl : I = N := by omega
      have hmm : ¬ ((I : Int) < 2 ^ m) := by rw [hNe]; omega
      go_wp2_with fail
      go_ret
      exact ⟨by rw [← hGe.out]; rfl, rfl⟩

theorem drop_any_no {L : List Nat} {k : Nat} {f : Nat → Bool} (h : ∀ j, k + 1 ≤ j → j < L.length → f (nthN L j) = false) : (L.drop (k + 1)).any f = false := by
  rw [List.any_eq_false]
  intro x hx
  obtain ⟨i, hi, rfl⟩ := List.mem_iff_getElem.1 hx
  rw [List.length_drop] at hi
  have := h (k + 1 + i) (by omega) (by omega)
  rw [nthN_eq (by omega)] at this
  rw [List.getElem_drop]
  simp [this]
theorem drop_any_yes {L : List Nat} {k j : Nat} {f : Nat → Bool} (h1 : k + 1 ≤ j) (h2 : j < L.length) (h : f (nthN L j) = true) : (L.drop (k + 1)).any f = true := by
  rw [List.any_eq_true]
  refine ⟨nthN L j, ?_, h⟩
  rw [List.mem_iff_getElem]
  refine ⟨j - (k + 1), by rw [List.length_drop]; omega, ?_⟩
  rw [List.getElem_drop, nthN_eq h2]
  congr 1
  omega
set_option maxHeartbeats 2000000 in
theorem maximalIn_any (F : Nat) (w : World) (hF : Fam F) :
    Calls Tryz.prog 179 #[.int .u64 F] w (RetInts w (up (maxL F.testBit))) := by
  go_enter Tryz.func179, Tryz.ntmps179
  go_wp2_with (go_at_call 133; (with_reducible refine (setsIn_any F _ hF).mono ?_); rintro e w1 ⟨la, ln, lc, rfl, hl, hb1⟩)
  obtain ⟨L, hL⟩ : ∃ L, L = ord F.testBit := ⟨_, rfl⟩
  rw [← hL] at hl
  have hL64 : ∀ s ∈ L, s < 64 := by rw [hL]; exact ord_lt
  have hLlen : L.length ≤ 64 := by rw [hL]; exact ord_len _
  have HL := Lib.hid hL; clear hL
  have hln : L.length = ln := by rw [← up_len]; exact hl.len
  have h64 : ln ≤ 64 := by omega
  have Hln := Lib.hid hln; clear hln hLlen
  have Hcap := Lib.hid hl.fit.cap
  have Hr1 := Lib.hid hl.reads
  obtain ⟨B1, hB1⟩ : ∃ B1, B1 = w1.heap.size := ⟨_, rfl⟩
  have HB1 := Lib.hid hB1; clear hB1
  have Hb1 := Lib.hid hb1; clear hb1
  have HL64 := Lib.hid hL64; clear hL64
  clear hl
  go_loopw [4, 5, 6, 7, 9, 14, 24] (fun v _ _ _ _ i _ wr => ∃ k : Nat, k ≤ ln ∧ i = .int .i64 k ∧ Below B1 w1 wr ∧ ∃ ad n c, n ≤ k ∧ v = .slice ad n c ∧ Own 3 wr B1 ad n c (up (maxTo L k))) (fun _ _ _ _ _ i _ _ => ln - (intOf i).toNat)
  case atStart => exact ⟨0, Nat.zero_le _, rfl, Below.refl _ _, none, 0, 0, Nat.le_refl _, rfl, Own.nil _ _ _⟩
  case round =>
    obtain ⟨k, hk, rfl, hb, ad, n, c, hn, rfl, hown⟩ := hrel
    have hr := Hr1.out.keep (by rw [← HB1.out]; exact hb)
    have hsz := hb.size
    rw [← HB1.out] at hsz
    by_cases hlt : k < ln
    · obtain ⟨b, off, rfl, hc⟩ := hr.cells (by omega)
      have hck := hc k hlt
      rw [nth_up] at hck
      have hlk : k < L.length := by rw [Hln.out]; exact hlt
      obtain ⟨s, hs⟩ : ∃ s, s = nthN L k := ⟨_, rfl⟩
      have hs64 : s < 64 := by rw [hs]; exact HL64.out _ (nthN_mem hlk)
      rw [← hs] at hck
      have Hs := Lib.hid hs; clear hs
      have Hc := Lib.hid hc; clear hc hr
      have Hown := Lib.hid hown; clear hown
      have Hlk := Lib.hid hlk; clear hlk
      obtain ⟨wo, rfl⟩ : ∃ wo : World, wo = wr := ⟨_, rfl⟩
      go_wp2_with fail
      case inl =>
        have hk1 : ln = k + 1 := by have := Hcap.out; omega
        have hnn : ¬ ((0 : Nat) : Int) < ((ln - (k + 1) : Nat) : Int) := by omega
        have Hkeep := Lib.hid (maxTo_yes (l := L) (k := k) (by unfold keepMax; rw [drop_any_no (fun j h1 h2 => by rw [Hln.out] at h2; omega)]; rfl))
        go_loop [7, 9, 24] (fun f _ j => ∃ J : Nat, J = 0 ∧ j = .int .i64 J ∧ f = .bool false) (fun _ _ _ => 0)
        case atStart => exact ⟨0, rfl, rfl, rfl⟩
        case round =>
          obtain ⟨J, hJ, rfl, rfl⟩ := hrel
          have hnn : ¬ (J : Int) < ((ln - (k + 1) : Nat) : Int) := by omega
          go_wp2_with (at_builtin; refine ap rfl _ _ rfl B1 _ _ _ _ _ rfl Hown.out rfl (by omega) hsz ?_; intro ad' c' w' hown' hb')
          go_roundw
          case rel => exact ⟨_, _, _, _, _, _, ⟨k + 1, by omega, rfl, hb.trans hb', ad', n + 1, by omega, c', rfl, by rw [Hkeep.out, up_append, ← Hs.out]; exact hown'⟩, rfl, rfl, rfl, rfl, rfl, by simp⟩
          case measure => first | (simp [intOf]; done) | (simp [intOf]; omega)
      case inr =>
        obtain ⟨M, hM⟩ : ∃ M, ln - (k + 1) = M := ⟨_, rfl⟩
        have HM := Lib.hid hM
        clear h
        go_loop [7, 9, 24] (fun f _ j => ∃ J : Nat, J ≤ M ∧ j = .int .i64 J ∧ f = .bool false ∧ Hid (∀ i, k + 1 ≤ i → i < k + 1 + J → sub s (nthN L i) = false)) (fun _ _ j => M - (intOf j).toNat)
        case atStart => exact ⟨0, Nat.zero_le _, rfl, rfl, Lib.hid fun i h1 h2 => by omega⟩
        case round =>
          obtain ⟨J, hJ, rfl, rfl, hno⟩ := hrel
          by_cases hlt2 : J < M
          · have hcJ := Hc.out (k + 1 + J) (by omega)
            rw [nth_up, ← Nat.add_assoc] at hcJ
            obtain ⟨t, ht⟩ : ∃ t, t = nthN L (k + 1 + J) := ⟨_, rfl⟩
            have hjl : k + 1 + J < L.length := by rw [Hln.out]; omega
            have ht64 : t < 64 := by rw [ht]; exact HL64.out _ (nthN_mem hjl)
            rw [← ht] at hcJ
            have Ht := Lib.hid ht; have Hjl := Lib.hid hjl
            have hJM : (J : Int) < M := by omega
            clear ht hjl
            cases hst : (((sdiff s t : Nat) : Int) == 0)
            · go_wp2_with fail
              go_round
              case rel =>
                refine ⟨J + 1, by omega, by go_num, rfl, Lib.hid fun i h1 h2 => ?_⟩
                rcases Nat.lt_or_ge i (k + 1 + J) with h | h
                · exact hno.out i h1 h
                · obtain rfl : i = k + 1 + J := by omega
                  rw [← Ht.out, ← sdiff_zero hs64 ht64]; exact hst
              case measure => simp [intOf]; omega
            · have Hdrop := Lib.hid (maxTo_no (l := L) (k := k) (by unfold keepMax; rw [drop_any_yes (j := k + 1 + J) (by omega) Hjl.out (by rw [← Hs.out, ← Ht.out, ← sdiff_zero hs64 ht64]; exact hst)]; rfl))
              go_wp2_with fail
              go_roundw
              case rel => exact ⟨k + 1, by omega, by go_num, hb, ad, n, c, by omega, rfl, by rw [Hdrop.out]; exact Hown.out⟩
              case measure => simp [intOf]; omega
          · obtain rfl : J = M := by omega
            have hJJ : ¬ ((J : Int) < J) := by omega
            have Hkeep := Lib.hid (maxTo_yes (l := L) (k := k) (by unfold keepMax; rw [← Hs.out, drop_any_no (fun j h1 h2 => hno.out j h1 (by rw [Hln.out] at h2; have := HM.out; omega))]; rfl))
            go_wp2_with (at_builtin; refine ap rfl _ _ rfl B1 _ _ _ _ _ rfl Hown.out rfl (by omega) hsz ?_; intro ad' c' w' hown' hb')
            go_roundw
            case rel => exact ⟨k + 1, by omega, by go_num, hb.trans hb', ad', n + 1, c', by omega, rfl, by rw [Hkeep.out, up_append, ← Hs.out]; exact hown'⟩
            case measure => simp [intOf]; omega
    · obtain rfl : k = ln := by omega
      have hkk : ¬ ((k : Int) < k) := by omega
      go_wp2
      go_ret
      have hle := Hb1.out.size
      rw [← HB1.out] at hle
      refine ⟨ad, n, c, rfl, ?_, Hb1.out.trans (hb.mono hle)⟩
      rw [← Hln.out, HL.out, maxC_ord] at hown
      exact hown.mono hle
end Go.Proofs.YtihfhfihladlcaaGreatDoor

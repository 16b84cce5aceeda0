/- Contracts of RepeatedCounts, the program's and the reference's: the sums over all sizes of the numbers times the words onto k kinds. -/
import Derived.Test.YtihfhfihladlcaaGreatDoorHelp
import Derived.Test.YtihfhfihladlcaaGreatDoorSet
namespace Go.Proofs.YtihfhfihladlcaaGreatDoor
set_option maxRecDepth 20000
open Go.RowKit
set_option linter.unusedSimpArgs false

/-- a list that RepeatedCounts takes -/
def RepOk (xs : List Int) : Prop := 1 ≤ xs.length ∧ xs.length ≤ 7 ∧ ∀ i, i < xs.length → 0 ≤ nth xs i ∧ nth xs i ≤ 1000000
def repTo (xs : List Int) (k i : Nat) : Nat := ((List.range i).map fun j => (nth xs j).toNat * onto j k).sum
theorem repTo_succ (xs : List Int) (k i : Nat) : repTo xs k (i + 1) = repTo xs k i + (nth xs i).toNat * onto i k := by unfold repTo; rw [List.range_succ, List.map_append, List.sum_append]; simp
theorem rep_mul {xs : List Int} {i : Nat} (h : 0 ≤ nth xs i ∧ nth xs i ≤ 1000000) (k : Int) : (nth xs i).toNat * onto i k ≤ 20000000000 := by
  have h1 := onto_le i k
  have : (nth xs i).toNat * onto i k ≤ 1000000 * 20000 := Nat.mul_le_mul (by omega) h1
  omega
theorem repTo_le (xs : List Int) (h : RepOk xs) (k : Nat) : ∀ i, i ≤ xs.length → repTo xs k i ≤ 20000000000 * i := by
  intro i
  induction i with
  | zero => intro _; simp [repTo]
  | succ i ih =>
    intro hi
    have := rep_mul (h.2.2 i (by omega)) (k : Int)
    have := ih (by omega)
    rw [repTo_succ]; omega
/-- what RepeatedCounts returns: its first k numbers -/
def repL (xs : List Int) (k : Nat) : List Nat := (List.range k).map fun k => if k = 0 then 1 else repTo xs k xs.length
theorem repL_succ (xs : List Int) (k : Nat) (hk : 1 ≤ k) : repL xs (k + 1) = repL xs k ++ [repTo xs k xs.length] := by
  unfold repL; rw [List.range_succ, List.map_append]; simp; omega


set_option maxHeartbeats 1000000 in
theorem sRep_no (a : Option Addr) (n c : Nat) (xs : List Int) (w : World) (h : IntsAt w a n xs) (hno : ¬ RepOk xs) :
    Calls Tryz.prog 139 #[.slice a n c] w (RetInts w []) := by
  have hsm := h.small
  have hlen := Lib.hid h.len
  have Hh := Lib.hid h; clear h
  have Hno := Lib.hid hno; clear hno
  by_cases h0 : 1 ≤ (n : Int) ∧ (n : Int) ≤ 7
  · go_enter Tryz.func139, Tryz.ntmps139
    go_wp2_with (go_at_call 110; (with_reducible refine (l1In_yes (n : Int) 1 7 _ h0.1 h0.2).mono ?_); rintro e w' ⟨rfl, rfl⟩)
    go_loop [3] (fun i => ∃ k : Nat, k ≤ n ∧ i = .int .i64 k ∧ Hid (∀ j, j < k → 0 ≤ nth xs j ∧ nth xs j ≤ 1000000)) (fun i => n - (intOf i).toNat)
    case atStart => exact ⟨0, Nat.zero_le _, rfl, Lib.hid (fun j hj => absurd hj (Nat.not_lt_zero _))⟩
    case round =>
      obtain ⟨k, hk, rfl, hok⟩ := hrel
      by_cases hlt : k < n
      · obtain ⟨b, off, rfl, hc⟩ := Hh.out.cells (by omega)
        have hck := hc k hlt
        clear hc
        by_cases h1 : 0 ≤ nth xs k ∧ nth xs k ≤ 1000000
        · go_wp2_with (go_at_call 110; (with_reducible refine (l1In_yes (nth xs k) 0 1000000 _ h1.1 h1.2).mono ?_); rintro e w' ⟨rfl, rfl⟩)
          go_round
          case rel =>
            refine ⟨k + 1, by omega, by go_num, Lib.hid fun j hj => ?_⟩
            rcases Nat.lt_or_ge j k with h | h
            · exact hok.out j h
            · obtain rfl : j = k := by omega
              exact h1
          case measure => simp [intOf]; omega
        · go_wp2_with (go_at_call 110; (with_reducible refine (l1In_no (nth xs k) 0 1000000 _ h1).mono ?_); rintro e w' ⟨rfl, rfl⟩)
          go_ret
          exact ⟨_, 0, 0, rfl, Own.empty _ _ _ (Nat.le_refl _), (Below.refl _ _).alloc (Nat.le_refl _) _⟩
      · exfalso
        have hkn : k = n := by omega
        exact Hno.out ⟨by rw [hlen.out]; omega, by rw [hlen.out]; omega, fun i hi => hok.out i (by rw [hlen.out] at hi; omega)⟩
  · go_enter Tryz.func139, Tryz.ntmps139
    go_wp2_with (go_at_call 110; (with_reducible refine (l1In_no (n : Int) 1 7 _ h0).mono ?_); rintro e w' ⟨rfl, rfl⟩)
    go_ret
    exact ⟨_, 0, 0, rfl, Own.empty _ _ _ (Nat.le_refl _), (Below.refl _ _).alloc (Nat.le_refl _) _⟩
set_option maxHeartbeats 2000000 in
theorem sRep_yes (a : Option Addr) (n c : Nat) (xs : List Int) (w : World) (h : IntsAt w a n xs) (hok : RepOk xs) :
    Calls Tryz.prog 139 #[.slice a n c] w (RetInts w (up (repL xs xs.length))) := by
  have hlen := Lib.hid h.len
  have hn7 : n ≤ 7 := by rw [← h.len]; exact hok.2.1
  have hn1 : 1 ≤ n := by rw [← h.len]; exact hok.1
  have Hh := Lib.hid h; clear h
  have Hok := Lib.hid hok; clear hok
  go_enter Tryz.func139, Tryz.ntmps139
  go_wp2_with (go_at_call 110; (with_reducible refine (l1In_yes (n : Int) 1 7 _ (by omega) (by omega)).mono ?_); rintro e w' ⟨rfl, rfl⟩)
  go_loop [3] (fun i => ∃ k : Nat, k ≤ n ∧ i = .int .i64 k) (fun i => n - (intOf i).toNat)
  case atStart => exact ⟨0, Nat.zero_le _, rfl⟩
  case round =>
    obtain ⟨k, hk, rfl⟩ := hrel
    by_cases hlt : k < n
    · obtain ⟨b, off, rfl, hc⟩ := Hh.out.cells (by omega)
      have hck := hc k hlt
      have hx := Hok.out.2.2 k (by rw [hlen.out]; exact hlt)
      clear hc
      go_wp2_with (go_at_call 110; (with_reducible refine (l1In_yes (nth xs k) 0 1000000 _ hx.1 hx.2).mono ?_); rintro e w' ⟨rfl, rfl⟩)
      go_round
      case rel => exact ⟨k + 1, by omega, by go_num⟩
      case measure => simp [intOf]; omega
    · obtain rfl : k = n := by omega
      have hkk : ¬ ((k : Int) < k) := by omega
      go_wp2_with fail
      obtain ⟨B, hB⟩ : ∃ B, B = w.heap.size := ⟨_, rfl⟩
      have hown0 : Own 3 (w.alloc (.cells #[.int .i64 1] 3)) B (some ⟨w.heap.size, 0, none⟩) 1 1 [1] := Own.lit _ _ _ (by omega) 1
      have HB := Lib.hid hB; clear hB
      go_loopw [4, 5, 6, 7] (fun v q _ _ wr => ∃ K : Nat, 1 ≤ K ∧ K ≤ k ∧ q = .int .i64 K ∧ Below B w wr ∧ ∃ ad m d, m = K ∧ v = .slice ad m d ∧ Own 3 wr B ad m d (up (repL xs K))) (fun _ q _ _ _ => k - (intOf q).toNat)
      case atStart => exact ⟨1, Nat.le_refl _, hn1, rfl, (Below.refl _ _).alloc (by have := HB.out; omega) _, _, 1, 1, rfl, rfl, hown0⟩
      case round =>
        clear hown0
        obtain ⟨K, hK1, hK, rfl, hb, ad, m, d, rfl, rfl, hown⟩ := hrel
        by_cases hlt2 : m < k
        · have hmk : (m : Int) < k := by omega
          have Hb := Lib.hid hb; clear hb
          have Hown := Lib.hid hown; clear hown
          obtain ⟨wo, rfl⟩ : ∃ wo : World, wo = wr := ⟨_, rfl⟩
          go_wp2_with fail
          go_loopw [6, 7] (fun t i wr => ∃ I S : Nat, I ≤ k ∧ i = .int .i64 I ∧ t = .int .i64 S ∧ S ≤ 20000000000 * I ∧ Hid (S = repTo xs m I) ∧ Below wo.heap.size wo wr) (fun _ i _ => k - (intOf i).toNat)
          case atStart => exact ⟨0, 0, Nat.zero_le _, rfl, rfl, by omega, Lib.hid rfl, Below.refl _ _⟩
          case round =>
            obtain ⟨I, S, hI, rfl, rfl, hSb, hS, hbo⟩ := hrel
            have Hbo := Lib.hid hbo; clear hbo
            by_cases hlt3 : I < k
            · have hh := (Hh.out.keep (by rw [← HB.out]; exact Hb.out)).keep Hbo.out
              obtain ⟨b, off, rfl, hc⟩ := hh.cells (by omega)
              have hcI := hc I hlt3
              have hx := Hok.out.2.2 I (by rw [hlen.out]; exact hlt3)
              obtain ⟨C, hC⟩ : ∃ C, C = (nth xs I).toNat * onto I m := ⟨_, rfl⟩
              have hCb : C ≤ 20000000000 := by rw [hC]; exact rep_mul hx _
              have hw : IntKind.i64.wrap (nth xs I * ((onto I m : Nat) : Int)) = (C : Int) := mul_i64 (show nth xs I = ((nth xs I).toNat : Int) by omega) rfl hC.symm (by omega)
              have hw2 : IntKind.i64.wrap ((S : Int) + (C : Int)) = (S : Int) + (C : Int) := IntWalk.i64_in _ (by omega)
              have HC := Lib.hid hC
              have hI0 : (0 : Int) ≤ I := by omega
              have hIk : (I : Int) < k := by omega
              clear hC hx hc hh
              go_wp2_with fail
              go_quiet ((go_at_call 187; exact ql (sOnto_any _ _ _)))
              go_wp2_with fail
              go_roundw
              case rel => exact ⟨I + 1, S + C, by omega, by go_num, by go_num, by omega, Lib.hid (by rw [repTo_succ, hS.out, HC.out]), below_drewN Hbo.out _⟩
              case measure => simp [intOf]; omega
            · obtain rfl : I = k := by omega
              have hII : ¬ ((I : Int) < I) := by omega
              have hsz : B ≤ wr.heap.size := by have := Hb.out.size; have := HB.out; have := Hbo.out.size; omega
              have hown := Hown.out.keep Hbo.out
              go_wp2_with (at_builtin; refine ap rfl _ _ rfl B _ _ _ _ _ rfl hown rfl (by omega) hsz ?_; intro ad' d' w' hown' hb')
              go_roundw
              case rel => exact ⟨m + 1, by omega, by omega, by go_num, (Hb.out.trans (Hbo.out.mono (by have := Hb.out.size; have := HB.out; omega))).trans hb', ad', m + 1, d', rfl, rfl, by rw [repL_succ _ _ hK1, up_append, hlen.out, ← hS.out]; exact hown'⟩
              case measure => simp [intOf]; omega
        · obtain rfl : m = k := by omega
          have hmm : ¬ ((m : Int) < m) := by omega
          go_wp2_with fail
          go_ret
          exact ⟨ad, m, d, rfl, by rw [hlen.out, ← HB.out]; exact hown, by rw [← HB.out]; exact hb⟩

end Go.Proofs.YtihfhfihladlcaaGreatDoor

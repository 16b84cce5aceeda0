/- pickSets with a wanted-function that may make memory of its own. -/
import Derived.Test.YtplbegfebnnbaaaPick
namespace Go.Proofs.Ytplbegfebnnbaaa
open Go.RowKit
set_option linter.unusedSimpArgs false
set_option linter.unusedVariables false

set_option maxRecDepth 100000 in
set_option maxHeartbeats 1000000 in
theorem pickSets_grow (K : FuncId) (caps : Array Value) (q : Nat → Bool) (m : Nat) (w : World) (hm6 : m ≤ 6) (hf : ∀ args w, Sem.run Try.prog (callFunc K args) w = .ok (.enter K args) w)
    (hK : ∀ s, s < 2 ^ m → ∀ W, Below w.heap.size w W → Calls Try.prog K (#[.int .i64 (s : Nat)] ++ caps) W fun e W' => e = .returned (.bool (q s)) ∧ Below W.heap.size W W') :
    Calls Try.prog 69 #[.int .i64 m, .func (.func K) #[] caps] w fun e w' => e = .returned (.int .u64 (pickN q (2 ^ m))) ∧ Below w.heap.size w w' := by
  have hm8 : m < 8 := by omega
  obtain ⟨N, hN⟩ : ∃ N, N = 2 ^ m := ⟨_, rfl⟩
  have hN64 : N ≤ 64 := by rw [hN]; exact Nat.pow_le_pow_right (n := 2) (by omega) hm6
  have hNe : (2 : Int) ^ m = (N : Int) := by rw [hN]; norm_cast
  rw [← hN] at hK ⊢
  have HN := Lib.hid hN; clear hN
  have HK := Lib.hid hK; clear hK
  have Hf := Lib.hid hf; clear hf
  go_enter Try.func69, Try.ntmps69
  go_wp2_with fail
  go_loopw [5, 6] (fun f i wr => ∃ I G : Nat, I ≤ N ∧ i = .int .i64 I ∧ f = .int .u64 G ∧ Fam G ∧ Hid (G = pickN q I) ∧ Below w.heap.size w wr) (fun _ i _ => N - (intOf i).toNat)
  case atStart => exact ⟨0, 0, Nat.zero_le _, rfl, rfl, Fam.zero, Lib.hid (pickN_zero q).symm, Below.refl _ _⟩
  case round =>
    obtain ⟨I, G, hI, rfl, rfl, hG, hGe, hb⟩ := hrel
    have HB := Lib.hid hb; clear hb
    by_cases hlt : I < N
    · have hlt' : (I : Int) < 2 ^ m := by rw [hNe]; omega
      have hI64 : I < 64 := by omega
      have hcall := HK.out I hlt wr HB.out
      obtain ⟨d, hd⟩ : ∃ d, d = q I := ⟨_, rfl⟩
      rw [← hd] at hcall
      have Hd := Lib.hid hd; clear hd
      have Hcall := Lib.hid hcall; clear hcall
      cases d
      · go_wp2_with fail
        rw [Hf.out, Oper.upon_enter]
        refine Hcall.out.mono ?_
        rintro e we ⟨rfl, hbe⟩
        have HB2 := Lib.hid (HB.out.trans (hbe.mono HB.out.size)); clear hbe
        go_wp2_with fail
        go_roundw
        case rel => exact ⟨I + 1, G, by omega, by go_num, rfl, hG, Lib.hid (by rw [hGe.out, pickN_no Hd.out.symm]), HB2.out⟩
        case measure => simp [intOf]; omega
      · go_wp2_with fail
        rw [Hf.out, Oper.upon_enter]
        refine Hcall.out.mono ?_
        rintro e we ⟨rfl, hbe⟩
        have HB2 := Lib.hid (HB.out.trans (hbe.mono HB.out.size)); clear hbe
        go_wp2_with fail
        go_roundw
        case rel => exact ⟨I + 1, G ||| 2 ^ I, by omega, by go_num, by go_num, hG.or (Fam.bit hI64), Lib.hid (by rw [hGe.out, pickN_yes hI64 Hd.out.symm]), HB2.out⟩
        case measure => simp [intOf]; omega
    · obtain rfl : I = N := by omega
      have hmm : ¬ ((I : Int) < 2 ^ m) := by rw [hNe]; omega
      go_wp2_with fail
      go_ret
      exact ⟨by rw [← hGe.out]; rfl, HB.out⟩
end Go.Proofs.Ytplbegfebnnbaaa

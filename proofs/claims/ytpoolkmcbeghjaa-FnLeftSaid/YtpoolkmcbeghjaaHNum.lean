/- Contracts of the h numbers, the program's and the reference's: alternating sums of the face counts. -/
import Derived.Test.YtpoolkmcbeghjaaLeft
namespace Go.Proofs.Ytpoolkmcbeghjaa
set_option maxRecDepth 20000
open Go.RowKit
set_option linter.unusedSimpArgs false
set_option linter.unusedVariables false

/-- the term of an odd or an even place -/
def sgn (q : Nat) (z : Nat) : Int := if q % 2 = 1 then -(z : Int) else (z : Int)
theorem sgn_bd (q z : Nat) : -(z : Int) ≤ sgn q z ∧ sgn q z ≤ (z : Int) := by unfold sgn; split <;> omega
/-- the k-th h number, its first i terms -/
def hs (f : List Nat) (d k : Nat) : Nat → Int
  | 0 => 0
  | i + 1 => hs f d k i + sgn (k - i) (nthN f i * chz (d - i) (k - i))
theorem hterm {f : List Nat} (hf : ∀ x ∈ f, x ≤ 64) {d k i : Nat} (hd : d ≤ 6) (hk : k ≤ 6) (hi : i < f.length) : nthN f i * chz (d - i) (k - i) ≤ 320000000000 := by
  have h1 : nthN f i ≤ 64 := hf _ (nthN_mem hi)
  have h2 := chz_bd (n := d - i) (k := k - i) (by omega) (by omega)
  have : nthN f i * chz (d - i) (k - i) ≤ 64 * 5000000000 := Nat.mul_le_mul h1 h2
  omega
theorem hs_bd {f : List Nat} (hf : ∀ x ∈ f, x ≤ 64) {d k : Nat} (hd : d ≤ 6) (hk : k ≤ 6) : ∀ i, i ≤ f.length → -((i : Int) * 320000000000) ≤ hs f d k i ∧ hs f d k i ≤ (i : Int) * 320000000000 := by
  intro i
  induction i with
  | zero => intro _; simp [hs]
  | succ i ih =>
    intro hi
    have h1 := ih (by omega)
    have h2 := hterm hf hd hk (show i < f.length by omega)
    have h3 := sgn_bd (k - i) (nthN f i * chz (d - i) (k - i))
    unfold hs
    omega
/-- the first k h numbers -/
def hTo (f : List Nat) (d k : Nat) : List Int := (List.range k).map fun k => hs f d k (k + 1)
theorem hTo_succ (f : List Nat) (d k : Nat) : hTo f d (k + 1) = hTo f d k ++ [hs f d k (k + 1)] := by unfold hTo; rw [List.range_succ, List.map_append]; rfl
theorem hTo_len (f : List Nat) (d k : Nat) : (hTo f d k).length = k := by simp [hTo]
/-- the h numbers of a list of counts -/
def hOf (f : List Nat) : List Int := hTo f (f.length - 1) f.length
theorem hOf_bd {f : List Nat} (hf : ∀ x ∈ f, x ≤ 64) (hl : f.length ≤ 7) : ∀ x ∈ hOf f, -2240000000000 ≤ x ∧ x ≤ 2240000000000 := by
  intro x hx
  unfold hOf hTo at hx
  obtain ⟨k, hk, rfl⟩ := List.mem_map.1 hx
  rw [List.mem_range] at hk
  have := hs_bd hf (d := f.length - 1) (k := k) (by omega) (by omega) (k + 1) (by omega)
  omega
theorem hOf_len (f : List Nat) : (hOf f).length = f.length := hTo_len _ _ _

set_option maxRecDepth 100000 in
set_option maxHeartbeats 2000000 in
theorem hOfCounts_any (a : Option Addr) (n c : Nat) (f : List Nat) (w : World) (h : IntsAt w a n (up f)) (hf : ∀ x ∈ f, x ≤ 64) (hl : f.length ≤ 7) :
    Calls Try.prog 104 #[.slice a n c] w (RetInts w (hOf f)) := by
  have hfl : f.length = n := by have := h.len; rwa [up_len] at this
  have Hx := Lib.hid h; have Hf := Lib.hid hf; have Hfl := Lib.hid hfl
  rw [hfl] at hl
  clear h hf hfl
  obtain ⟨V, hV⟩ : ∃ V, V = hOf f := ⟨_, rfl⟩
  rw [← hV]
  have HV := Lib.hid hV
  clear hV
  rcases Nat.eq_zero_or_pos n with h0 | h0
  · subst h0
    have hv : V = [] := by rw [HV.out]; exact List.eq_nil_of_length_eq_zero (by rw [hOf_len]; exact Hfl.out)
    subst hv
    go_enter Try.func104, Try.ntmps104
    go_wp2_with fail
    go_loopw [4, 5] (fun o i wr => o = .slice none 0 0 ∧ i = .int .i64 0 ∧ Below w.heap.size w wr) (fun _ _ _ => 0)
    case atStart => exact ⟨rfl, rfl, Below.refl _ _⟩
    case round =>
      obtain ⟨rfl, rfl, hbr⟩ := hrel
      have HBr := Lib.hid hbr; clear hbr
      go_wp2_with fail
      go_ret
      exact ⟨none, 0, 0, rfl, Own.nil _ _ _, HBr.out⟩
  · obtain ⟨D, rfl⟩ : ∃ D, n = D + 1 := ⟨n - 1, by omega⟩
    have hD6 : D ≤ 6 := by omega
    have hd1 : ((D + 1 : Nat) : Int) - 1 = (D : Int) := by omega
    have hd2 : (D : Int) + 1 - 1 = (D : Int) := by omega
    have Hv : Hid (V = hTo f D (D + 1)) := Lib.hid (by rw [HV.out]; unfold hOf; rw [Hfl.out]; rfl)
    clear h0 HV
    go_enter Try.func104, Try.ntmps104
    go_wp2_with fail
    go_loopw [4, 5, 6, 7, 8] (fun o k _ _ _ wr => ∃ K : Nat, K ≤ D + 1 ∧ k = .int .i64 K ∧ Below w.heap.size w wr ∧ ∃ ad c, o = .slice ad K c ∧ Own 3 wr w.heap.size ad K c (hTo f D K)) (fun _ k _ _ _ _ => D + 1 - (intOf k).toNat)
    case atStart => exact ⟨0, Nat.zero_le _, rfl, Below.refl _ _, none, 0, rfl, Own.nil _ _ _⟩
    case round =>
      obtain ⟨K, hK, rfl, hbr, ad, c, rfl, hown⟩ := hrel
      obtain ⟨wo, rfl⟩ : ∃ x : World, x = wr := ⟨_, rfl⟩
      have HBr := Lib.hid hbr; have HO := Lib.hid hown
      have HXr := Lib.hid (Hx.out.keep hbr)
      have hzr : w.heap.size ≤ wo.heap.size := hbr.size
      clear hbr hown
      by_cases hlt : K ≤ D
      · have hlt' : (K : Int) ≤ D := by omega
        go_wp2_with fail
        go_loopw [6, 7, 8] (fun s i _ wr => ∃ (I : Nat) (S : Int), I ≤ K + 1 ∧ i = .int .i64 I ∧ s = .int .i64 S ∧ Hid (S = hs f D K I) ∧ Below wo.heap.size wo wr) (fun _ i _ _ => K + 1 - (intOf i).toNat)
        case atStart => exact ⟨0, 0, Nat.zero_le _, rfl, rfl, Lib.hid rfl, Below.refl _ _⟩
        case round =>
          obtain ⟨I, S, hI, rfl, rfl, hS, hbi⟩ := hrel
          have HBi := Lib.hid hbi
          have HXi := Lib.hid (HXr.out.keep hbi)
          have HOi := Lib.hid (HO.out.keep hbi)
          clear hbi
          by_cases hlt2 : I ≤ K
          · have hlt2' : (I : Int) ≤ K := by omega
            obtain ⟨b1, o1, rfl, hcc⟩ := HXi.out.cells (by omega)
            have hck := hcc I (by omega)
            rw [nth_up] at hck
            have hterm0 := hterm Hf.out (d := D) (k := K) (i := I) hD6 (by omega) (by rw [Hfl.out]; omega)
            have hSb := hs_bd Hf.out (d := D) (k := K) hD6 (by omega) I (by rw [Hfl.out]; omega)
            rw [← hS.out] at hSb
            have hS1 : hs f D K (I + 1) = S + sgn (K - I) (nthN f I * chz (D - I) (K - I)) := by rw [hS.out]; rfl
            have hf64 := Hf.out _ (nthN_mem (xs := f) (k := I) (by rw [Hfl.out]; omega))
            have hcb := chz_bd (n := D - I) (k := K - I) (by omega) (by omega)
            obtain ⟨m, hm⟩ : ∃ m, m = D - I := ⟨_, rfl⟩
            obtain ⟨q, hq⟩ : ∃ q, q = K - I := ⟨_, rfl⟩
            obtain ⟨x, hx⟩ : ∃ x, x = nthN f I := ⟨_, rfl⟩
            rw [← hm, ← hq] at hcb hterm0 hS1
            rw [← hx] at hck hf64 hS1 hterm0
            obtain ⟨y, hy⟩ : ∃ y, y = chz m q := ⟨_, rfl⟩
            rw [← hy] at hcb hS1 hterm0
            obtain ⟨z, hz⟩ : ∃ z, z = x * y := ⟨_, rfl⟩
            rw [← hz] at hS1 hterm0
            have hmul : IntKind.i64.wrap ((x : Int) * (y : Int)) = (z : Int) := mul_i64 rfl rfl hz.symm (by omega)
            have hmul2 : (x : Int) * (y : Int) = (z : Int) := by rw [hz]; norm_cast
            have hmi : (D : Int) - I = (m : Int) := by omega
            have hqi : (K : Int) - I = (q : Int) := by omega
            have hm30 : m ≤ 30 := by omega
            have hq30 : q ≤ 30 := by omega
            have Hy := Lib.hid hy
            have hS6 : -2240000000000 ≤ S ∧ S ≤ 2240000000000 := by omega
            obtain ⟨hSa, hSc⟩ := hS6
            have hi0 : (0 : Int) ≤ (I : Int) := by omega
            clear hcc hm hq hx hy hz hSb
            rcases Nat.mod_two_eq_zero_or_one q with hpar | hpar
            · have hpi : (q : Int) % 2 = 0 := by omega
              have HS1 := Lib.hid (show hs f D K (I + 1) = S + (z : Int) by rw [hS1]; unfold sgn; rw [if_neg (by omega)])
              clear hS1 hpar
              go_wp2_with fail
              go_quiet (first | (go_at_call 68; exact ql ((iChoose_any m q _ hm30 hq30).mono fun e w' ⟨h1, h2⟩ => ⟨by rw [h1, ← Hy.out], h2⟩)))
              go_wp2_with fail
              go_roundw
              case rel => exact ⟨I + 1, _, by omega, by go_num, rfl, Lib.hid (by rw [HS1.out]), below_drewN HBi.out _⟩
              case measure => simp [intOf]; omega
            · have hpi : (q : Int) % 2 = 1 := by omega
              have HS1 := Lib.hid (show hs f D K (I + 1) = S + -(z : Int) by rw [hS1]; unfold sgn; rw [if_pos hpar])
              clear hS1 hpar
              go_wp2_with fail
              go_quiet (first | (go_at_call 68; exact ql ((iChoose_any m q _ hm30 hq30).mono fun e w' ⟨h1, h2⟩ => ⟨by rw [h1, ← Hy.out], h2⟩)))
              go_wp2_with fail
              go_roundw
              case rel => exact ⟨I + 1, _, by omega, by go_num, rfl, Lib.hid (by rw [HS1.out]), below_drewN HBi.out _⟩
              case measure => simp [intOf]; omega
          · obtain rfl : I = K + 1 := by omega
            have hgt : ¬ ((K : Int) + 1 ≤ K) := by omega
            have Hs1 := Lib.hid (hTo_succ f D K)
            have hzi : w.heap.size ≤ wr.heap.size := Nat.le_trans hzr HBi.out.size
            go_wp2_with (at_builtin; refine ap rfl _ _ rfl w.heap.size _ _ _ _ _ rfl HOi.out rfl (by omega) hzi ?_; intro ad' d' w' hown' hb'; have HO3 := Lib.hid hown'; have HB3 := Lib.hid hb'; clear hown' hb')
            go_roundw
            case rel => exact ⟨K + 1, by omega, by go_num, (HBr.out.trans (HBi.out.mono hzr)).trans HB3.out, ad', d', rfl, by rw [Hs1.out, ← hS.out]; exact HO3.out⟩
            case measure => simp [intOf]; omega
      · obtain rfl : K = D + 1 := by omega
        have hgt : ¬ ((D : Int) + 1 ≤ D) := by omega
        go_wp2_with fail
        go_ret
        exact ⟨ad, D + 1, c, rfl, by rw [Hv.out]; exact HO.out, HBr.out⟩
end Go.Proofs.Ytpoolkmcbeghjaa

/- Texts of this claim, one behind the other: what each says stands at its head. -/
import Derived.Deep.RegionWith
import Derived.StillTailTactics
import Derived.Test.YtihfhfihladlcaaGreatDoorBase
import Derived.Test.YtihfhfihladlcaaGreatDoorChain1
import Derived.Test.YtihfhfihladlcaaGreatDoorCore
import Derived.Test.YtihfhfihladlcaaGreatDoorSet
/- Contracts of the small functions over a prime field: remainders, inverses, the sign of a face in a border. -/
namespace Go.Proofs.YtihfhfihladlcaaGreatDoor
set_option maxRecDepth 20000
open Go.RowKit
set_option linter.unusedSimpArgs false
set_option linter.unusedVariables false

theorem prm_cases {p : Nat} (hp : Prm p) : p = 2 ∨ p = 3 ∨ p = 5 := hp
theorem prm_bd {p : Nat} (hp : Prm p) : 2 ≤ p ∧ p ≤ 5 := by rcases hp with rfl | rfl | rfl <;> omega
/-- Go's remainder, turned to one that is not negative -/
theorem mod_twice {a : Int} {p : Nat} : (a.tmod p + p) % (p : Int) = a % (p : Int) := by
  rw [Int.add_emod_right]
  exact (Int.emod_eq_emod_iff_emod_sub_eq_zero.2 (Int.emod_eq_zero_of_dvd ⟨-(a.tdiv p), by have := Int.mul_tdiv_add_tmod a p; rw [Int.mul_neg]; omega⟩))
theorem tmod_bd (a : Int) {p : Nat} (hp : 2 ≤ p) : -(p : Int) < a.tmod p ∧ a.tmod p < p := ⟨Int.lt_tmod_of_pos a (by omega), Int.tmod_lt_of_pos a (by omega)⟩

theorem l13Mod_any (a : Int) (p : Nat) (w : World) (hp : 2 ≤ p ∧ p ≤ 5) (ha : -1000000 ≤ a ∧ a ≤ 1000000) :
    Calls Tryz.prog 209 #[.int .i64 a, .int .i64 p] w fun e w' => e = .returned (.int .i64 (a % (p : Int))) ∧ w = w' := by
  have hm := mod_twice (a := a) (p := p)
  obtain ⟨h2, h1⟩ := tmod_bd a hp.1
  have hp0 : ((p : Int) == 0) = false := by simp; omega
  have hpp : (p : Int) ≠ 0 := by omega
  have HM := Lib.hid hm; clear hm
  go_enter Tryz.func209, Tryz.ntmps209
  go_wp2
  go_ret
  exact ⟨ret_int HM.out, rfl⟩
theorem restMod_any (a : Int) (p : Nat) (w : World) (hp : 2 ≤ p ∧ p ≤ 5) (ha : -1000000 ≤ a ∧ a ≤ 1000000) :
    Calls Tryz.prog 229 #[.int .i64 a, .int .i64 p] w fun e w' => e = .returned (.int .i64 (a % (p : Int))) ∧ w = w' := by
  have hm := mod_twice (a := a) (p := p)
  obtain ⟨h2, h1⟩ := tmod_bd a hp.1
  have hp0 : ((p : Int) == 0) = false := by simp; omega
  have hpp : (p : Int) ≠ 0 := by omega
  have HM := Lib.hid hm; clear hm
  by_cases hneg : a.tmod p < 0
  · go_enter Tryz.func229, Tryz.ntmps229
    go_wp2
    go_ret
    refine ⟨ret_int ?_, rfl⟩
    rw [← HM.out, Int.emod_eq_of_lt] <;> omega
  · go_enter Tryz.func229, Tryz.ntmps229
    go_wp2
    go_ret
    refine ⟨ret_int ?_, rfl⟩
    rw [← HM.out, Int.add_emod_right, Int.emod_eq_of_lt] <;> omega
theorem invM_first0 : ∀ p : Nat, p ∈ [2, 3, 5] → ∀ a : Nat, a < p → ∀ b : Nat, b < p → (1 ≤ b ∧ ((a : Int) * b) % p = 1 ∧ (∀ c : Nat, c < b → ¬ (1 ≤ c ∧ ((a : Int) * c) % p = 1))) → invM p a = b := by decide +kernel
theorem invM_none0 : ∀ p : Nat, p ∈ [2, 3, 5] → ∀ a : Nat, a < p → (∀ c : Nat, c < p → ¬ (1 ≤ c ∧ ((a : Int) * c) % p = 1)) → invM p a = 0 := by decide +kernel
theorem invM_first {p : Nat} (hp : Prm p) (a : Nat) (ha : a < p) (b : Nat) (hb : b < p) (h1 : 1 ≤ b) (h : ((a : Int) * b) % p = 1) (hc : ∀ c : Nat, c < b → 1 ≤ c → ((a : Int) * c) % p ≠ 1) : invM p a = b :=
  invM_first0 p (by rcases hp with rfl | rfl | rfl <;> simp) a ha b hb ⟨h1, h, fun c h1 h2 => hc c h1 h2.1 h2.2⟩
theorem invM_none {p : Nat} (hp : Prm p) (a : Nat) (ha : a < p) (hc : ∀ c : Nat, c < p → 1 ≤ c → ((a : Int) * c) % p ≠ 1) : invM p a = 0 :=
  invM_none0 p (by rcases hp with rfl | rfl | rfl <;> simp) a ha fun c h1 h2 => hc c h1 h2.1 h2.2
theorem specPrime_yes (p : Nat) (w : World) (hp : Prm p) : Calls Tryz.prog 140 #[.int .i64 p] w fun e w' => e = .returned (.bool true) ∧ w = w' := by
  rcases hp with rfl | rfl | rfl
  all_goals (go_enter Tryz.func140, Tryz.ntmps140; go_wp2; go_ret; exact ⟨rfl, rfl⟩)
theorem implPrime_yes (p : Nat) (w : World) (hp : Prm p) : Calls Tryz.prog 196 #[.int .i64 p] w fun e w' => e = .returned (.bool true) ∧ w = w' := by
  rcases hp with rfl | rfl | rfl
  all_goals (go_enter Tryz.func196, Tryz.ntmps196; go_wp2; go_ret; exact ⟨rfl, rfl⟩)
theorem sInv_any (a : Nat) (p : Nat) (w : World) (hp : Prm p) (ha : a < p) :
    Calls Tryz.prog 218 #[.int .i64 a, .int .i64 p] w fun e w' => e = .returned (.int .i64 (invM p a)) ∧ w = w' := by
  obtain ⟨hp2, hp5⟩ := prm_bd hp
  have HP := Lib.hid hp; clear hp
  have ham : ((a : Int) % (p : Int)) = a := Int.emod_eq_of_lt (by omega) (by omega)
  have Ham := Lib.hid ham; clear ham
  go_enter Tryz.func218, Tryz.ntmps218
  go_wp2_with (go_at_call 140; (with_reducible refine (specPrime_yes p _ HP.out).mono ?_); rintro e w' ⟨rfl, rfl⟩)
  go_loop [5] (fun i => ∃ b : Nat, 1 ≤ b ∧ b ≤ p ∧ i = .int .i64 b ∧ Hid (∀ c : Nat, c < b → 1 ≤ c → ((a : Int) * c) % (p : Int) ≠ 1)) (fun i => p - (intOf i).toNat)
  case atStart => exact ⟨1, by omega, by omega, rfl, Lib.hid fun c h1 h2 => by omega⟩
  case round =>
    obtain ⟨b, hb1, hbp, rfl, H⟩ := hrel
    by_cases hlt : b < p
    · have hmul : (a : Int) * b ≤ 5 * 5 := Int.mul_le_mul (by omega) (by omega) (by omega) (by omega)
      have hmul0 : 0 ≤ (a : Int) * b := Int.mul_nonneg (by omega) (by omega)
      obtain ⟨q, hq⟩ : ∃ q : Nat, (a : Int) * b = q := Int.eq_ofNat_of_zero_le hmul0
      have hq25 : q ≤ 25 := by omega
      have Hq := Lib.hid hq
      have hpp : (p : Int) ≠ 0 := by omega
      have hbpi : (b : Int) < p := by omega
      have hw : wrap64 ((a : Int) % (p : Int) * b) = q := by rw [Ham.out, hq]; unfold wrap64; omega
      have htm : (q : Int).tmod p = (q : Int) % p := Int.tmod_eq_emod_of_nonneg (by omega)
      obtain ⟨z, hz⟩ : ∃ z, ((wrap64 ((a : Int) % (p : Int) * b)).tmod p == 1) = z := ⟨_, rfl⟩
      have hz2 := hz
      rw [hw, htm, ← hq] at hz2
      have Hz := Lib.hid hz2
      clear hmul hmul0 hz2 hw htm hq
      cases z
      · go_wp2_with (go_at_call 209; (with_reducible refine (l13Mod_any a p _ ⟨hp2, hp5⟩ (by omega)).mono ?_); rintro e w' ⟨rfl, rfl⟩)
        go_round
        case rel => exact ⟨b + 1, by omega, by omega, by go_num, Lib.hid fun c h1 h2 => by
          by_cases e : c = b
          · rw [e]; have := Hz.out; simpa using this
          · exact H.out c (by omega) h2⟩
        case measure => simp [intOf]; omega
      · go_wp2_with (go_at_call 209; (with_reducible refine (l13Mod_any a p _ ⟨hp2, hp5⟩ (by omega)).mono ?_); rintro e w' ⟨rfl, rfl⟩)
        go_ret
        exact ⟨ret_int (invM_first HP.out a ha b hlt hb1 (by have := Hz.out; simpa using this) H.out).symm, rfl⟩
    · obtain rfl : b = p := by omega
      have hbp2 : ¬ ((b : Int) < b) := by omega
      go_wp2
      go_ret
      exact ⟨ret_int (invM_none HP.out a ha H.out).symm, rfl⟩
end Go.Proofs.YtihfhfihladlcaaGreatDoor

/- Contract of the reference's l13Clear: one step of elimination, in place. -/
namespace Go.Proofs.YtihfhfihladlcaaGreatDoor
set_option maxRecDepth 20000
open Go.RowKit
set_option linter.unusedSimpArgs false
set_option linter.unusedVariables false

set_option maxRecDepth 100000 in
set_option maxHeartbeats 2000000 in
theorem sClear_any (a : Option Addr) (n c N p d col : Nat) (f : Nat → Sl) (R : Nat → List Int) (w : World) (B U : Nat) (h : Mx w B U a n c f R) (hp : Prm p) (hd : d < n) (hc : col < N) (hn : n ≤ 64) (hN : N ≤ 64)
    (hl : ∀ i, i < n → (R i).length = N) (hb : ∀ i, i < n → ∀ j, j < N → 0 ≤ nth (R i) j ∧ nth (R i) j < p) :
    Calls Tryz.prog 210 #[.slice a n c, .int .i64 d, .int .i64 col, .int .i64 p] w fun e w' => e = .returned (.slice a n c) ∧ Mx w' B U a n c f (clearR p N d col R) ∧ Within w w' B U := by
  obtain ⟨hp2, hp5⟩ := prm_bd hp
  have HM := Lib.hid h
  have Hl := Lib.hid hl; have Hb := Lib.hid hb; have HP := Lib.hid hp
  obtain ⟨g, rfl, hg1, hg2, hg3, hgc⟩ := h.head (by omega)
  obtain ⟨gd, kd, hfd, hd1, hd2, hd3, hdc⟩ := h.at hd (hl d hd) (by omega)
  have Hfd := Lib.hid hfd
  have hcd := (hgc d hd).1
  rw [hfd] at hcd
  simp only [Sl.val] at hcd
  have hvc := (hdc col hc).1
  have hvb := hb d hd col hc
  obtain ⟨v, hv⟩ := Int.eq_ofNat_of_zero_le hvb.1
  rw [hv] at hvc hvb
  have hvp : v < p := by omega
  have Hv := Lib.hid hv
  have hI := invM_bd hp (v : Int)
  have HInv : Hid (∀ W, Calls Tryz.prog 218 #[.int .i64 v, .int .i64 p] W fun e w' => e = .returned (.int .i64 (invM p v)) ∧ W = w') := Lib.hid fun W => sInv_any v p W hp hvp
  obtain ⟨b, hbe⟩ := Int.eq_ofNat_of_zero_le hI.1
  rw [hbe] at HInv hI
  have Hbe := Lib.hid hbe
  have hbp : b < p := by omega
  have hd0 : (0 : Int) ≤ d := by omega
  have hdn : (d : Int) < n := by omega
  have hc0 : (0 : Int) ≤ col := by omega
  have hcN : (col : Int) < N := by omega
  clear h hl hb hp hgc hdc hfd hv hI hvb hbe
  go_enter Tryz.func210, Tryz.ntmps210
  go_wp2_with (go_at_call 218; (with_reducible refine (HInv.out _).mono ?_); rintro e w' ⟨rfl, rfl⟩)
  clear hcd hvc
  obtain ⟨nrm, hnrm⟩ : ∃ nrm : Nat → Int, nrm = fun j => nth (R d) j * b % p := ⟨_, rfl⟩
  have Hnrm : Hid (normR p N (R d) col = mkL N nrm) := Lib.hid (by rw [hnrm]; unfold normR; rw [Hv.out, Hbe.out])
  have Hna : Hid (∀ j, nrm j = nth (R d) j * b % p) := Lib.hid fun j => by rw [hnrm]
  clear hnrm
  go_loopw [10] (fun i wr => ∃ J : Nat, J ≤ N ∧ i = .int .i64 J ∧ Mx wr B U (some ⟨g, 0, none⟩) n c f (fun r => if r = d then partL N J nrm (nth (R d)) else R r) ∧ Within w wr B U) (fun i _ => N - (intOf i).toNat)
  case atStart => exact ⟨0, Nat.zero_le _, rfl, HM.out.congr fun r hr => by
    by_cases e : r = d
    · rw [if_pos e, e, partL_zero (Hl.out d hd)]
    · rw [if_neg e], Within.refl _ _ _⟩
  case round =>
    obtain ⟨J, hJ, rfl, hm, hwi⟩ := hrel
    have HMr := Lib.hid hm; have HWr := Lib.hid hwi
    obtain ⟨g', hg', _, _, _, hgc⟩ := hm.head (by omega)
    cases hg'
    have hcd := (hgc d hd).1
    rw [Hfd.out] at hcd
    simp only [Sl.val] at hcd
    clear hm hwi hgc
    by_cases hlt : J < N
    · obtain ⟨g2, k2, hf2, _, _, _, hdc⟩ := HMr.out.at (N := N) hd (by rw [if_pos rfl, partL_len]) (by omega)
      rw [Hfd.out] at hf2
      simp only [Prod.mk.injEq, Option.some.injEq, Addr.mk.injEq, and_true, true_and] at hf2
      obtain ⟨rfl, rfl⟩ := hf2
      have hx := (hdc J hlt).1
      have hfz := (hdc J hlt).2
      rw [if_pos rfl, partL_at hlt] at hx
      have hxb := Hb.out d hd J hlt
      obtain ⟨x, hxe⟩ := Int.eq_ofNat_of_zero_le hxb.1
      rw [hxe] at hx hxb
      have hxp : x < p := by omega
      have Hset := Lib.hid fun u => HMr.out.write hd Hfd.out J u
      have Hval : Hid (nrm J = ((x : Int) * b) % p) := Lib.hid (by rw [Hna.out, hxe])
      have hJ0 : (0 : Int) ≤ J := by omega
      have hJN : (J : Int) < N := by omega
      clear hdc hxb hxe
      go_wp2_with fail
      have Hw : Hid ((wrap64 ((x : Int) * b)).tmod p = nrm J) := Lib.hid (by
        rw [Hval.out]
        have h1 : (x : Int) * b ≤ 5 * 5 := Int.mul_le_mul (by omega) (by omega) (by omega) (by omega)
        have h0 : 0 ≤ (x : Int) * b := Int.mul_nonneg (by omega) (by omega)
        rw [show wrap64 ((x : Int) * b) = (x : Int) * b by unfold wrap64; omega]
        exact Int.tmod_eq_emod_of_nonneg h0)
      have HMn : Hid (Mx (wr.setCell ⟨gd, J, none⟩ (.int .i64 (nrm J))) B U (some ⟨g, 0, none⟩) n c f (fun r => if r = d then partL N (J + 1) nrm (nth (R d)) else R r)) := Lib.hid ((Hset.out (nrm J)).congr fun r hr => by
        by_cases e : r = d
        · subst e; simp [partL_set hlt]
        · simp [e])
      have HWn := Lib.hid (HWr.out.set (g := gd) (by omega) (by omega) J (.int .i64 (nrm J)))
      clear Hset Hval
      go_region
      all_goals (
        go_wp2_with fail
        go_roundw
        case rel => exact ⟨J + 1, by omega, by go_num, by rw [Hw.out]; exact HMn.out.drew, by rw [Hw.out]; exact HWn.out.drew⟩
        case measure => simp [intOf]; omega)
    · obtain rfl : J = N := by omega
      have hJJ : ¬ ((J : Int) < J) := by omega
      have HM1 : Hid (Mx wr B U (some ⟨g, 0, none⟩) n c f (fun r => if r = d then mkL J nrm else R r)) := Lib.hid (by have := HMr.out; rwa [partL_all] at this)
      obtain ⟨clr, hclr⟩ : ∃ clr : Nat → Nat → Int, clr = fun r j => (nth (R r) j - nth (R r) col * nrm j) % p := ⟨_, rfl⟩
      have Hend : Hid (∀ i, clearR p J d col R i = if i = d then mkL J nrm else mkL J (clr i)) := Lib.hid fun i => by
        unfold clearR
        rw [Hnrm.out]
        by_cases e : i = d
        · rw [if_pos e, if_pos e]
        · rw [if_neg e, if_neg e, hclr]
          exact mkL_congr fun j hj => by rw [nth_mkL, if_pos hj]
      have Hclr : Hid (∀ r j, clr r j = (nth (R r) j - nth (R r) col * nrm j) % p) := Lib.hid fun r j => by rw [hclr]
      have Hnb : Hid (∀ j, 0 ≤ nrm j ∧ nrm j < p) := Lib.hid fun j => by rw [Hna.out]; exact ⟨Int.emod_nonneg _ (by omega), Int.emod_lt_of_pos _ (by omega)⟩
      clear hclr HMr hlt hJ Hna Hnrm
      go_wp2_with fail
      clear hcd hJJ
      go_loopw [11, 12, 13] (fun i _ _ wr => ∃ I : Nat, I ≤ n ∧ i = .int .i64 I ∧ Mx wr B U (some ⟨g, 0, none⟩) n c f (fun r => if r = d then mkL J nrm else if r < I then mkL J (clr r) else R r) ∧ Within w wr B U) (fun i _ _ _ => n - (intOf i).toNat)
      case atStart => exact ⟨0, Nat.zero_le _, rfl, HM1.out.congr fun r hr => by
        by_cases e : r = d
        · rw [if_pos e, if_pos e]
        · rw [if_neg e, if_neg e]; simp, HWr.out⟩
      case round =>
        clear HM1 HWr
        obtain ⟨wo, rfl⟩ : ∃ x : World, x = wr := ⟨_, rfl⟩
        obtain ⟨I, hI, rfl, hm, hwi⟩ := hrel
        have HMr := Lib.hid hm; have HWr := Lib.hid hwi
        obtain ⟨g', hg', _, _, _, hgc⟩ := hm.head (by omega)
        cases hg'
        clear hm hwi
        by_cases hlt : I < n
        · have hI0 : (0 : Int) ≤ I := by omega
          have hIn : (I : Int) < n := by omega
          by_cases hId : I = d
          · subst hId
            obtain ⟨g2, k2, hf2, _, _, _, hdc⟩ := HMr.out.at (N := J) hlt (by rw [if_pos rfl, mkL_len]) (by omega)
            have hci := (hgc I hlt).1
            rw [hf2] at hci
            simp only [Sl.val] at hci
            have hxc := (hdc col hc).1
            have hne : ((I : Int) != (I : Int)) = false := by simp
            have hJ0 : (0 : Int) < J := by omega
            clear hgc hdc
            go_wp2_with fail
            go_loop [13] (fun j => j = .int .i64 0) (fun _ => 0)
            case atStart => rfl
            case round =>
              subst hrel
              go_wp2_with fail
              go_roundw
              case rel => exact ⟨I + 1, by omega, by go_num, HMr.out.congr fun r hr => by
                by_cases e : r = I
                · rw [if_pos e, if_pos e]
                · rw [if_neg e, if_neg e]
                  by_cases e2 : r < I
                  · rw [if_pos e2, if_pos (by omega)]
                  · rw [if_neg e2, if_neg (by omega)], HWr.out⟩
              case measure => simp [intOf]; omega
          · have hne : ((I : Int) != (d : Int)) = true := by simp; omega
            have HrI : Hid ((if I = d then mkL J nrm else if I < I then mkL J (clr I) else R I) = R I) := Lib.hid (by
              rw [if_neg hId, if_neg (Nat.lt_irrefl _)])
            obtain ⟨g2, k2, hf2, hg21, hg22, hg23, hdc⟩ := HMr.out.at (N := J) hlt (by rw [HrI.out]; exact Hl.out I hlt) (by omega)
            have hci := (hgc I hlt).1
            rw [hf2] at hci
            simp only [Sl.val] at hci
            have hxc := (hdc col hc).1
            rw [HrI.out] at hxc
            have Hf2 := Lib.hid hf2
            have hFb := Hb.out I hlt col hc
            obtain ⟨F, hF⟩ := Int.eq_ofNat_of_zero_le hFb.1
            rw [hF] at hxc hFb
            have hFp : F < p := by omega
            have HF := Lib.hid hF
            have hJ0 : (0 : Int) < J := by omega
            clear hgc hdc hf2 hF hFb
            go_wp2_with fail
            clear hci hxc
            go_loopw [13] (fun j wr => ∃ K : Nat, K ≤ J ∧ j = .int .i64 K ∧ Mx wr B U (some ⟨g, 0, none⟩) n c f (fun r => if r = d then mkL J nrm else if r < I then mkL J (clr r) else if r = I then partL J K (clr I) (nth (R I)) else R r) ∧ Within w wr B U) (fun j _ => J - (intOf j).toNat)
            case atStart => exact ⟨0, Nat.zero_le _, rfl, HMr.out.congr fun r hr => by
              by_cases e : r = d
              · rw [if_pos e, if_pos e]
              · rw [if_neg e, if_neg e]
                by_cases e2 : r < I
                · rw [if_pos e2, if_pos e2]
                · rw [if_neg e2, if_neg e2]
                  by_cases e3 : r = I
                  · rw [if_pos e3, e3, partL_zero (Hl.out I hlt)]
                  · rw [if_neg e3], HWr.out⟩
            case round =>
              clear HMr HWr
              obtain ⟨K, hK, rfl, hm, hwi⟩ := hrel
              have HMr := Lib.hid hm; have HWr := Lib.hid hwi
              obtain ⟨g', hg', _, _, _, hgc⟩ := hm.head (by omega)
              cases hg'
              have hci := (hgc I hlt).1
              rw [Hf2.out] at hci
              simp only [Sl.val] at hci
              have hcd := (hgc d hd).1
              rw [Hfd.out] at hcd
              simp only [Sl.val] at hcd
              clear hm hwi hgc
              by_cases hltK : K < J
              · have HrK : Hid ((if I = d then mkL J nrm else if I < I then mkL J (clr I) else if I = I then partL J K (clr I) (nth (R I)) else R I) = partL J K (clr I) (nth (R I))) := Lib.hid (by
                  rw [if_neg hId, if_neg (Nat.lt_irrefl _), if_pos rfl])
                obtain ⟨g3, k3, hf3, _, _, _, hdc⟩ := HMr.out.at (N := J) hlt (by rw [HrK.out, partL_len]) (by omega)
                rw [Hf2.out] at hf3
                simp only [Prod.mk.injEq, Option.some.injEq, Addr.mk.injEq, and_true, true_and] at hf3
                obtain ⟨rfl, rfl⟩ := hf3
                have hx := (hdc K hltK).1
                have hfz := (hdc K hltK).2
                rw [HrK.out, partL_at hltK] at hx
                have hxb := Hb.out I hlt K hltK
                obtain ⟨x, hxe⟩ := Int.eq_ofNat_of_zero_le hxb.1
                rw [hxe] at hx hxb
                have hxp : x < p := by omega
                obtain ⟨g4, k4, hf4, _, _, _, hdd⟩ := HMr.out.at (i := d) (N := J) hd (by rw [if_pos rfl, mkL_len]) (by omega)
                rw [Hfd.out] at hf4
                simp only [Prod.mk.injEq, Option.some.injEq, Addr.mk.injEq, and_true, true_and] at hf4
                obtain ⟨rfl, rfl⟩ := hf4
                have hz := (hdd K hltK).1
                rw [if_pos rfl, nth_mkL, if_pos hltK] at hz
                have hzb := Hnb.out K
                obtain ⟨z, hze⟩ := Int.eq_ofNat_of_zero_le hzb.1
                rw [hze] at hz hzb
                have hzp : z < p := by omega
                have Hset := Lib.hid fun u => HMr.out.write hlt Hf2.out K u
                have hval : clr I K = ((x : Int) - F * z) % p := by rw [Hclr.out, hxe, HF.out, hze]
                have hm1 : (F : Int) * z ≤ 5 * 5 := Int.mul_le_mul (by omega) (by omega) (by omega) (by omega)
                have hm0 : 0 ≤ (F : Int) * z := Int.mul_nonneg (by omega) (by omega)
                obtain ⟨q, hq⟩ : ∃ q : Nat, (F : Int) * z = q := Int.eq_ofNat_of_zero_le hm0
                rw [hq] at hval hm1
                have hw1 : IntKind.i64.wrap ((F : Int) * z) = (q : Int) := by rw [hq]; exact IntWalk.i64_in _ (by omega)
                have hw2 : IntKind.i64.wrap ((x : Int) - q) = (x : Int) - q := IntWalk.i64_in _ (by omega)
                have HC : Hid (∀ W, Calls Tryz.prog 209 #[.int .i64 ((x : Int) - q), .int .i64 p] W fun e w' => e = .returned (.int .i64 (clr I K)) ∧ w' = W) := Lib.hid fun W => by
                  rw [hval]
                  exact (l13Mod_any _ p W ⟨hp2, hp5⟩ (by omega)).mono fun e w' h => ⟨h.1, h.2.symm⟩
                obtain ⟨y, hy⟩ : ∃ y, y = clr I K := ⟨_, rfl⟩
                have HMn : Hid (Mx (wr.setCell ⟨g2, K, none⟩ (.int .i64 y)) B U (some ⟨g, 0, none⟩) n c f (fun r => if r = d then mkL J nrm else if r < I then mkL J (clr r) else if r = I then partL J (K + 1) (clr I) (nth (R I)) else R r)) := Lib.hid ((Hset.out y).congr fun r hr => by
                  by_cases e : r = I
                  · subst e
                    rw [hy]
                    simp [hId, partL_set hltK]
                  · simp [e])
                have HWn := Lib.hid (HWr.out.set (g := g2) (by omega) (by omega) K (.int .i64 y))
                rw [← hy] at HC
                have hK0 : (0 : Int) ≤ K := by omega
                have hKJ : (K : Int) < J := by omega
                clear hdc hdd hxe hxb hze hzb Hset hval hm1 hm0 hq hy hltK
                go_wp2_with fail
                go_still_tail 25, (by kernel_rfl)
                still_call (HC.out _)
                repeat still_step
                refine wpStill_nil ?_
                change wpList _ _ _ _ _ wr.drew
                have hfz2 : wr.drew.frozen? ⟨g2, K, none⟩ = false := hfz
                have hx2 : wr.drew.cell? ⟨g2, K, none⟩ = some (.int .i64 x) := hx
                have HMd := Lib.hid HMn.out.drew
                have HWd := Lib.hid HWn.out.drew
                rw [← World.setCell_drew] at HMd HWd
                go_wp2_with fail
                go_roundw
                case rel => exact ⟨K + 1, by omega, by go_num, HMd.out, HWd.out⟩
                case measure => simp [intOf]; omega
              · obtain rfl : K = J := by omega
                have hKK : ¬ ((K : Int) < K) := by omega
                go_wp2_with fail
                go_roundw
                case rel => exact ⟨I + 1, by omega, by go_num, HMr.out.congr fun r hr => by
                  by_cases e : r = d
                  · rw [if_pos e, if_pos e]
                  · rw [if_neg e, if_neg e]
                    by_cases e2 : r < I
                    · rw [if_pos e2, if_pos (by omega)]
                    · rw [if_neg e2]
                      by_cases e3 : r = I
                      · rw [if_pos e3, if_pos (by omega), partL_all, e3]
                      · rw [if_neg e3, if_neg (by omega)], HWr.out⟩
                case measure => simp [intOf]; omega
        · obtain rfl : I = n := by omega
          have hII : ¬ ((I : Int) < I) := by omega
          go_wp2_with fail
          go_ret
          exact ⟨rfl, HMr.out.congr fun r hr => by
            rw [Hend.out]
            by_cases e : r = d
            · rw [if_pos e, if_pos e]
            · rw [if_neg e, if_neg e, if_pos hr], HWr.out⟩
end Go.Proofs.YtihfhfihladlcaaGreatDoor

/- Texts of this claim, one behind the other: what each says stands at its head. -/
import Derived.StillTailTactics
import Derived.Test.YtihfhfihladlcaaGreatDoorBase
import Derived.Test.YtihfhfihladlcaaGreatDoorChain1
import Derived.Test.YtihfhfihladlcaaGreatDoorCore
import Derived.Test.YtihfhfihladlcaaGreatDoorFaces3
import Derived.Test.YtihfhfihladlcaaGreatDoorSet
/- Contracts of the small functions over a prime field: remainders, inverses, the sign of a face in a border. -/
namespace Go.Proofs.YtihfhfihladlcaaGreatDoor
set_option maxRecDepth 20000
open Go.RowKit
set_option linter.unusedSimpArgs false
set_option linter.unusedVariables false

theorem prm_cases {p : Nat} (hp : Prm p) : p = 2 ∨ p = 3 ∨ p = 5 := hp
theorem prm_bd {p : Nat} (hp : Prm p) : 2 ≤ p ∧ p ≤ 5 := by rcases hp with rfl | rfl | rfl <;> omega
/-- Go's remainder, turned to one that is not negative -/
theorem mod_twice {a : Int} {p : Nat} : (a.tmod p + p) % (p : Int) = a % (p : Int) := by
  rw [Int.add_emod_right]
  exact (Int.emod_eq_emod_iff_emod_sub_eq_zero.2 (Int.emod_eq_zero_of_dvd ⟨-(a.tdiv p), by have := Int.mul_tdiv_add_tmod a p; rw [Int.mul_neg]; omega⟩))
theorem tmod_bd (a : Int) {p : Nat} (hp : 2 ≤ p) : -(p : Int) < a.tmod p ∧ a.tmod p < p := ⟨Int.lt_tmod_of_pos a (by omega), Int.tmod_lt_of_pos a (by omega)⟩

theorem l13Mod_any (a : Int) (p : Nat) (w : World) (hp : 2 ≤ p ∧ p ≤ 5) (ha : -1000000 ≤ a ∧ a ≤ 1000000) :
    Calls Tryz.prog 209 #[.int .i64 a, .int .i64 p] w fun e w' => e = .returned (.int .i64 (a % (p : Int))) ∧ w = w' := by
  have hm := mod_twice (a := a) (p := p)
  obtain ⟨h2, h1⟩ := tmod_bd a hp.1
  have hp0 : ((p : Int) == 0) = false := by simp; omega
  have hpp : (p : Int) ≠ 0 := by omega
  have HM := Lib.hid hm; clear hm
  go_enter Tryz.func209, Tryz.ntmps209
  go_wp2
  go_ret
  exact ⟨ret_int HM.out, rfl⟩
theorem restMod_any (a : Int) (p : Nat) (w : World) (hp : 2 ≤ p ∧ p ≤ 5) (ha : -1000000 ≤ a ∧ a ≤ 1000000) :
    Calls Tryz.prog 229 #[.int .i64 a, .int .i64 p] w fun e w' => e = .returned (.int .i64 (a % (p : Int))) ∧ w = w' := by
  have hm := mod_twice (a := a) (p := p)
  obtain ⟨h2, h1⟩ := tmod_bd a hp.1
  have hp0 : ((p : Int) == 0) = false := by simp; omega
  have hpp : (p : Int) ≠ 0 := by omega
  have HM := Lib.hid hm; clear hm
  by_cases hneg : a.tmod p < 0
  · go_enter Tryz.func229, Tryz.ntmps229
    go_wp2
    go_ret
    refine ⟨ret_int ?_, rfl⟩
    rw [← HM.out, Int.emod_eq_of_lt] <;> omega
  · go_enter Tryz.func229, Tryz.ntmps229
    go_wp2
    go_ret
    refine ⟨ret_int ?_, rfl⟩
    rw [← HM.out, Int.add_emod_right, Int.emod_eq_of_lt] <;> omega
theorem invM_first0 : ∀ p : Nat, p ∈ [2, 3, 5] → ∀ a : Nat, a < p → ∀ b : Nat, b < p → (1 ≤ b ∧ ((a : Int) * b) % p = 1 ∧ (∀ c : Nat, c < b → ¬ (1 ≤ c ∧ ((a : Int) * c) % p = 1))) → invM p a = b := by decide +kernel
theorem invM_none0 : ∀ p : Nat, p ∈ [2, 3, 5] → ∀ a : Nat, a < p → (∀ c : Nat, c < p → ¬ (1 ≤ c ∧ ((a : Int) * c) % p = 1)) → invM p a = 0 := by decide +kernel
theorem invM_first {p : Nat} (hp : Prm p) (a : Nat) (ha : a < p) (b : Nat) (hb : b < p) (h1 : 1 ≤ b) (h : ((a : Int) * b) % p = 1) (hc : ∀ c : Nat, c < b → 1 ≤ c → ((a : Int) * c) % p ≠ 1) : invM p a = b :=
  invM_first0 p (by rcases hp with rfl | rfl | rfl <;> simp) a ha b hb ⟨h1, h, fun c h1 h2 => hc c h1 h2.1 h2.2⟩
theorem invM_none {p : Nat} (hp : Prm p) (a : Nat) (ha : a < p) (hc : ∀ c : Nat, c < p → 1 ≤ c → ((a : Int) * c) % p ≠ 1) : invM p a = 0 :=
  invM_none0 p (by rcases hp with rfl | rfl | rfl <;> simp) a ha fun c h1 h2 => hc c h1 h2.1 h2.2
theorem specPrime_yes (p : Nat) (w : World) (hp : Prm p) : Calls Tryz.prog 140 #[.int .i64 p] w fun e w' => e = .returned (.bool true) ∧ w = w' := by
  rcases hp with rfl | rfl | rfl
  all_goals (go_enter Tryz.func140, Tryz.ntmps140; go_wp2; go_ret; exact ⟨rfl, rfl⟩)
theorem implPrime_yes (p : Nat) (w : World) (hp : Prm p) : Calls Tryz.prog 196 #[.int .i64 p] w fun e w' => e = .returned (.bool true) ∧ w = w' := by
  rcases hp with rfl | rfl | rfl
  all_goals (go_enter Tryz.func196, Tryz.ntmps196; go_wp2; go_ret; exact ⟨rfl, rfl⟩)
theorem sInv_any (a : Nat) (p : Nat) (w : World) (hp : Prm p) (ha : a < p) :
    Calls Tryz.prog 218 #[.int .i64 a, .int .i64 p] w fun e w' => e = .returned (.int .i64 (invM p a)) ∧ w = w' := by
  obtain ⟨hp2, hp5⟩ := prm_bd hp
  have HP := Lib.hid hp; clear hp
  have ham : ((a : Int) % (p : Int)) = a := Int.emod_eq_of_lt (by omega) (by omega)
  have Ham := Lib.hid ham; clear ham
  go_enter Tryz.func218, Tryz.ntmps218
  go_wp2_with (go_at_call 140; (with_reducible refine (specPrime_yes p _ HP.out).mono ?_); rintro e w' ⟨rfl, rfl⟩)
  go_loop [5] (fun i => ∃ b : Nat, 1 ≤ b ∧ b ≤ p ∧ i = .int .i64 b ∧ Hid (∀ c : Nat, c < b → 1 ≤ c → ((a : Int) * c) % (p : Int) ≠ 1)) (fun i => p - (intOf i).toNat)
  case atStart => exact ⟨1, by omega, by omega, rfl, Lib.hid fun c h1 h2 => by omega⟩
  case round =>
    obtain ⟨b, hb1, hbp, rfl, H⟩ := hrel
    by_cases hlt : b < p
    · have hmul : (a : Int) * b ≤ 5 * 5 := Int.mul_le_mul (by omega) (by omega) (by omega) (by omega)
      have hmul0 : 0 ≤ (a : Int) * b := Int.mul_nonneg (by omega) (by omega)
      obtain ⟨q, hq⟩ : ∃ q : Nat, (a : Int) * b = q := Int.eq_ofNat_of_zero_le hmul0
      have hq25 : q ≤ 25 := by omega
      have Hq := Lib.hid hq
      have hpp : (p : Int) ≠ 0 := by omega
      have hbpi : (b : Int) < p := by omega
      have hw : wrap64 ((a : Int) % (p : Int) * b) = q := by rw [Ham.out, hq]; unfold wrap64; omega
      have htm : (q : Int).tmod p = (q : Int) % p := Int.tmod_eq_emod_of_nonneg (by omega)
      obtain ⟨z, hz⟩ : ∃ z, ((wrap64 ((a : Int) % (p : Int) * b)).tmod p == 1) = z := ⟨_, rfl⟩
      have hz2 := hz
      rw [hw, htm, ← hq] at hz2
      have Hz := Lib.hid hz2
      clear hmul hmul0 hz2 hw htm hq
      cases z
      · go_wp2_with (go_at_call 209; (with_reducible refine (l13Mod_any a p _ ⟨hp2, hp5⟩ (by omega)).mono ?_); rintro e w' ⟨rfl, rfl⟩)
        go_round
        case rel => exact ⟨b + 1, by omega, by omega, by go_num, Lib.hid fun c h1 h2 => by
          by_cases e : c = b
          · rw [e]; have := Hz.out; simpa using this
          · exact H.out c (by omega) h2⟩
        case measure => simp [intOf]; omega
      · go_wp2_with (go_at_call 209; (with_reducible refine (l13Mod_any a p _ ⟨hp2, hp5⟩ (by omega)).mono ?_); rintro e w' ⟨rfl, rfl⟩)
        go_ret
        exact ⟨ret_int (invM_first HP.out a ha b hlt hb1 (by have := Hz.out; simpa using this) H.out).symm, rfl⟩
    · obtain rfl : b = p := by omega
      have hbp2 : ¬ ((b : Int) < b) := by omega
      go_wp2
      go_ret
      exact ⟨ret_int (invM_none HP.out a ha H.out).symm, rfl⟩
end Go.Proofs.YtihfhfihladlcaaGreatDoor

/- Inverses modulo a prime and the sign of a face, of the program. -/
namespace Go.Proofs.YtihfhfihladlcaaGreatDoor
set_option maxRecDepth 20000
open Go.RowKit
set_option linter.unusedSimpArgs false
set_option linter.unusedVariables false

theorem iInv_any (a : Nat) (p : Nat) (w : World) (hp : Prm p) (ha : a < p) :
    Calls Tryz.prog 228 #[.int .i64 a, .int .i64 p] w fun e w' => e = .returned (.int .i64 (invM p a)) ∧ w = w' := by
  obtain ⟨hp2, hp5⟩ := prm_bd hp
  have HP := Lib.hid hp; clear hp
  have ham : ((a : Int) % (p : Int)) = a := Int.emod_eq_of_lt (by omega) (by omega)
  have Ham := Lib.hid ham; clear ham
  go_enter Tryz.func228, Tryz.ntmps228
  have ha1 : -1000000 ≤ (a : Int) ∧ (a : Int) ≤ 1000000 := by omega
  have HRm : Hid (∀ W, Calls Tryz.prog 229 #[.int .i64 a, .int .i64 p] W fun e w' => e = .returned (.int .i64 a) ∧ W = w') := Lib.hid fun W => by
    have := restMod_any a p W ⟨hp2, hp5⟩ ha1
    rwa [Ham.out] at this
  go_wp2_with (first | (go_at_call 196; (with_reducible refine (implPrime_yes p _ HP.out).mono ?_); rintro e w' ⟨rfl, rfl⟩) | (go_at_call 229; (with_reducible refine (HRm.out _).mono ?_); rintro e w' ⟨rfl, rfl⟩))
  go_loop [6] (fun i => ∃ b : Nat, 1 ≤ b ∧ b ≤ p ∧ i = .int .i64 b ∧ Hid (∀ c : Nat, c < b → 1 ≤ c → ((a : Int) * c) % (p : Int) ≠ 1)) (fun i => p - (intOf i).toNat)
  case atStart => exact ⟨1, by omega, by omega, rfl, Lib.hid fun c h1 h2 => by omega⟩
  case round =>
    obtain ⟨b, hb1, hbp, rfl, H⟩ := hrel
    by_cases hlt : b < p
    · have hmul : (a : Int) * b ≤ 5 * 5 := Int.mul_le_mul (by omega) (by omega) (by omega) (by omega)
      have hmul0 : 0 ≤ (a : Int) * b := Int.mul_nonneg (by omega) (by omega)
      obtain ⟨q, hq⟩ : ∃ q : Nat, (a : Int) * b = q := Int.eq_ofNat_of_zero_le hmul0
      have hq25 : q ≤ 25 := by omega
      have Hq := Lib.hid hq
      have hpp : (p : Int) ≠ 0 := by omega
      have hbpi : (b : Int) < p := by omega
      have hw : wrap64 ((a : Int) * b) = q := by rw [hq]; unfold wrap64; omega
      have htm : (q : Int).tmod p = (q : Int) % p := Int.tmod_eq_emod_of_nonneg (by omega)
      obtain ⟨z, hz⟩ : ∃ z, ((wrap64 ((a : Int) * b)).tmod p == 1) = z := ⟨_, rfl⟩
      have hz2 := hz
      rw [hw, htm, ← hq] at hz2
      have Hz := Lib.hid hz2
      clear hmul hmul0 hz2 hw htm hq
      cases z
      · go_wp2_with fail
        go_round
        case rel => exact ⟨b + 1, by omega, by omega, by go_num, Lib.hid fun c h1 h2 => by
          by_cases e : c = b
          · rw [e]; have := Hz.out; simpa using this
          · exact H.out c (by omega) h2⟩
        case measure => simp [intOf]; omega
      · go_wp2_with fail
        go_ret
        exact ⟨ret_int (invM_first HP.out a ha b hlt hb1 (by have := Hz.out; simpa using this) H.out).symm, rfl⟩
    · obtain rfl : b = p := by omega
      have hbp2 : ¬ ((b : Int) < b) := by omega
      go_wp2
      go_ret
      exact ⟨ret_int (invM_none HP.out a ha H.out).symm, rfl⟩
theorem sdiff_subE : ∀ u, u < 64 → ∀ t, t < 64 → sub u t = true → sdiff t u = t - u := by decide +kernel
theorem sdiff_one : ∀ u, u < 64 → ∀ t, t < 64 → sz t = sz u + 1 → 1 ≤ sdiff t u := by decide +kernel
theorem bSign_any (u t : Nat) (w : World) (hu : u < 64) (ht : t < 64) (hs : sz t = sz u + 1) :
    Calls Tryz.prog 221 #[.int .i64 u, .int .i64 t] w fun e w' => e = .returned (.int .i64 (sgnF u t)) ∧ w = w' := by
  have hand := w_andNot u t hu ht
  have hz := sdiff_zero hu ht
  obtain ⟨v, hv⟩ : ∃ v, v = sdiff u t := ⟨_, rfl⟩
  rw [← hv] at hand hz
  clear hv
  cases hsb : sub u t
  · rw [hsb] at hz
    have hzn : ((v : Int) != 0) = true := by simp at hz ⊢; omega
    have hg : sgnF u t = 0 := by unfold sgnF; rw [hsb]; rfl
    rw [hg]
    clear hsb hg hz
    go_enter Tryz.func221, Tryz.ntmps221
    go_wp2_with fail
    go_ret
    exact ⟨rfl, rfl⟩
  · rw [hsb] at hz
    have hzn : ((v : Int) != 0) = false := by simp at hz ⊢; omega
    have hand2 := w_andNot t u ht hu
    have h1 := sdiff_one u hu t ht hs
    have h64 : sdiff t u < 64 := sdiff_lt ht
    have hg : sgnF u t = 1 - 2 * ((sz (t &&& (sdiff t u - 1)) % 2 : Nat) : Int) := by
      rw [sdiff_subE u hu t ht hsb]
      unfold sgnF
      rw [if_pos (by simp [hsb, hs])]
    obtain ⟨x, hx⟩ : ∃ x, x = sdiff t u := ⟨_, rfl⟩
    rw [← hx] at hand2 h1 h64 hg
    have hx1 : ((x : Int) - 1) = ((x - 1 : Nat) : Int) := by omega
    have hwx : IntKind.i64.wrap ((x : Int) - 1) = ((x - 1 : Nat) : Int) := by rw [hx1]; exact IntWalk.i64_in _ (by omega)
    have hwx2 : wrap64 ((x : Int) - 1) = ((x - 1 : Nat) : Int) := by unfold wrap64; omega
    obtain ⟨y, hy⟩ : ∃ y, y = x - 1 := ⟨_, rfl⟩
    have hy64 : y < 64 := by omega
    rw [← hy] at hx1 hwx hwx2 hg
    have hand3 := w_and t y ht hy64
    have ha64 : t &&& y < 64 := and_lt64 ht
    have HS : Hid (∀ W, Calls Tryz.prog 136 #[.int .i64 ((t &&& y : Nat) : Int)] W fun e w' => e = .returned (.int .i64 (sz (t &&& y))) ∧ W = w') := Lib.hid fun W => SizeOf_any _ W ha64
    have hz6 := sz_le (t &&& y)
    obtain ⟨q, hq⟩ : ∃ q, q = t &&& y := ⟨_, rfl⟩
    rw [← hq] at hand3 HS hz6 hg
    obtain ⟨z, hze⟩ : ∃ z, z = sz q := ⟨_, rfl⟩
    rw [← hze] at HS hz6 hg
    have htm : (z : Int).tmod 2 = ((z % 2 : Nat) : Int) := by rw [show (2 : Int) = ((2 : Nat) : Int) from rfl, Int.ofNat_tmod]
    rw [hg]
    clear hsb hg hz hy hx hq hze ha64
    rcases Nat.mod_two_eq_zero_or_one z with h | h
    · have hb : ((z : Int).tmod 2 == 0) = true := by rw [htm, h]; rfl
      rw [h]
      clear h
      go_enter Tryz.func221, Tryz.ntmps221
      go_wp2_with (go_at_call 136; (with_reducible refine (HS.out _).mono ?_); rintro e w' ⟨rfl, rfl⟩)
      go_ret
      exact ⟨rfl, rfl⟩
    · have hb : ((z : Int).tmod 2 == 0) = false := by rw [htm, h]; rfl
      rw [h]
      clear h
      go_enter Tryz.func221, Tryz.ntmps221
      go_wp2_with (go_at_call 136; (with_reducible refine (HS.out _).mono ?_); rintro e w' ⟨rfl, rfl⟩)
      go_ret
      exact ⟨rfl, rfl⟩
end Go.Proofs.YtihfhfihladlcaaGreatDoor

/- Matrices that the program makes: remainders and borders. -/
namespace Go.Proofs.YtihfhfihladlcaaGreatDoor
set_option maxRecDepth 20000
open Go.RowKit
set_option linter.unusedSimpArgs false
set_option linter.unusedVariables false

section
variable {w w' : World} {B g n : Nat} {f : Nat → Sl} {L : Nat → List Int}
theorem Grid.mx (h : Grid w B g n f L) : Mx w B w.heap.size (some ⟨g, 0, none⟩) n n f L :=
  ⟨h.row, h.own, fun i hi b d hb hd => by cases hd; exact h.far i hi b hb, fun i j hi hj hij b d hb hd => h.apart i j hi hj hij b d hb hd, fun d hd => by cases hd; exact h.glt.2,
    fun i hi b hb => ((h.own i hi).lt b.block (by rw [hb]; rfl)).2⟩
/-- a number is written into a row -/
theorem Grid.write (h : Grid w B g n f L) {i gi N k : Nat} (hi : i < n) (hf : f i = (some ⟨gi, 0, none⟩, N, k)) (j : Nat) (u : Int) :
    Grid (w.setCell ⟨gi, j, none⟩ (.int .i64 u)) B g n f (fun r => if r = i then (L i).set j u else L r) := by
  have hfi : (f i).1 = some ⟨gi, 0, none⟩ := by rw [hf]
  refine ⟨h.row.setOther _ fun e => h.far i hi _ hfi (by cases e; rfl), fun r hr => ?_, h.far, h.apart⟩
  by_cases e : r = i
  · subst e
    rw [if_pos rfl]
    have := h.own r hr
    rw [hfi] at this ⊢
    exact this.set j u
  · rw [if_neg e]
    exact (h.own r hr).setOther _ fun e2 => h.apart r i hr hi e _ _ e2 hfi rfl
end
/-- rows made one after the other, J of the next one's numbers written -/
def mkR (I J N : Nat) (v : Nat → Nat → Int) (i : Nat) : List Int := if i < I then mkL N (v i) else if i = I then partL N J (v i) (fun _ => 0) else []
theorem rep_part (N : Nat) (v : Nat → Int) : partL N 0 v (fun _ => 0) = List.replicate N 0 := by
  refine nth_ext (by rw [partL_len, List.length_replicate]) fun j hj => ?_
  rw [partL_len] at hj
  unfold partL
  rw [nth_mkL, if_pos hj, if_neg (Nat.not_lt_zero _), nth_eq (by simpa using hj)]; simp

/-- what a made matrix is: its rows' values, in new memory -/
def RetMx (w : World) (m N : Nat) (v : Nat → Nat → Int) (e : Ending) (w' : World) : Prop :=
  ∃ g f, e = .returned (.slice (some ⟨g, 0, none⟩) m m) ∧ Grid w' w.heap.size g m f (fun i => mkL N (v i)) ∧ Below w.heap.size w w'
set_option maxRecDepth 100000 in
set_option maxHeartbeats 4000000 in
theorem modMat_any (a : Option Addr) (m c N p : Nat) (L : List (List Int)) (w : World) (h : RowsAt w a m L) (hp : Prm p) (hm0 : 0 < m) (hm : m ≤ 64) (hN : N ≤ 64)
    (hl : ∀ i, i < m → (nthL L i).length = N) (hb : ∀ i, i < m → ∀ j, j < N → -1000 ≤ nth (nthL L i) j ∧ nth (nthL L i) j ≤ 1000) :
    Calls Tryz.prog 220 #[.slice a m c, .int .i64 p] w (RetMx w m N fun i j => nth (nthL L i) j % (p : Int)) := by
  obtain ⟨hp2, hp5⟩ := prm_bd hp
  obtain ⟨f0, hr⟩ := h
  have HR := Lib.hid hr
  have Hl := Lib.hid hl; have Hb := Lib.hid hb
  obtain ⟨v, hv⟩ : ∃ v : Nat → Nat → Int, v = fun i j => nth (nthL L i) j % (p : Int) := ⟨_, rfl⟩
  have Hv : Hid (∀ i j, v i j = nth (nthL L i) j % (p : Int)) := Lib.hid fun i j => by rw [hv]
  rw [← hv]
  clear hr hl hb hp hv
  obtain ⟨B, hB⟩ : ∃ B, B = w.heap.size := ⟨_, rfl⟩
  have HBe := Lib.hid hB
  clear hB
  go_enter Tryz.func220, Tryz.ntmps220
  go_wp2_with (at_make; refine mk_grid rfl _ _ rfl _ rfl rfl m (by first | omega | simp) (by omega) ?_; intro g w1 hgrid hb1; have HG1 : Hid (Grid w1 B g m (fun _ => (none, 0, 0)) (fun _ => [])) := Lib.hid (by rw [HBe.out]; exact hgrid); have HB1 : Hid (Below B w w1) := Lib.hid (by rw [HBe.out]; exact hb1); clear hgrid hb1)
  go_loopw [6, 7, 15] (fun _ _ i wr => ∃ (I : Nat) (f : Nat → Sl), I ≤ m ∧ i = .int .i64 I ∧ Grid wr B g m f (fun i => if i < I then mkL N (v i) else []) ∧ Below B w wr ∧ ∀ i, I ≤ i → f i = (none, 0, 0)) (fun _ _ i _ => m - (intOf i).toNat)
  case atStart => exact ⟨0, _, Nat.zero_le _, rfl, HG1.out.congr (fun _ _ => rfl) (fun i _ => by rw [if_neg (Nat.not_lt_zero _)]), HB1.out, fun _ _ => rfl⟩
  case round =>
    obtain ⟨wo, rfl⟩ : ∃ x : World, x = wr := ⟨_, rfl⟩
    obtain ⟨I, f, hI, rfl, hgr, hbl, hnil⟩ := hrel
    have HG := Lib.hid hgr; have HBl := Lib.hid hbl
    have hBw : B ≤ wo.heap.size := by rw [HBe.out]; have := hbl.size; have := HBe.out; omega
    by_cases hlt : I < m
    · have hRr := HR.out.keep (by rw [← HBe.out]; exact hbl)
      obtain ⟨b, off, rfl, hc⟩ := hRr.cells (by omega)
      have hci := hc I hlt
      have hrow := hRr.each I hlt
      obtain ⟨⟨a1, n1, c1⟩, hfe⟩ : ∃ x, x = f0 I := ⟨_, rfl⟩
      rw [← hfe] at hci hrow
      simp only [Sl.val] at hci hrow
      have hlen := hrow.len
      rw [Hl.out I hlt] at hlen
      subst hlen
      obtain ⟨xs, hxs⟩ : ∃ xs, xs = nthL L I := ⟨_, rfl⟩
      rw [← hxs] at hrow
      have Hxb : Hid (∀ j, j < N → -1000 ≤ nth xs j ∧ nth xs j ≤ 1000) := Lib.hid (by rw [hxs]; exact Hb.out I hlt)
      have Hvx : Hid (∀ j, v I j = nth xs j % (p : Int)) := Lib.hid fun j => by rw [Hv.out, hxs]
      have Hfe := Lib.hid hfe; have Hxs := Lib.hid hxs
      have hgl := hgr.glt
      have hfz0 := hgr.frozen hlt
      have hI0 : (0 : Int) ≤ I := by omega
      have hIm : (I : Int) < m := by omega
      have hfI := hnil I (Nat.le_refl _)
      have Hnil := Lib.hid hnil; have HfI := Lib.hid hfI
      clear hc hfe hrow hRr hxs hgr hbl hnil hfI
      have hcg0 := HG.out.cell hlt
      go_wp2_with (at_make; refine mk_ints rfl _ _ rfl _ rfl rfl N rfl (by omega) ?_; intro gi w2 hown2 hb2; have HO2 := Lib.hid hown2; have HB2 := Lib.hid hb2; have hfz2 : w2.frozen? ⟨g, I, none⟩ = false := (World.frozen?_of_block (a := ⟨g, I, none⟩) (hb2.block g hgl.2)).trans hfz0; have hcg2 := (HB2.out.cell (p := ⟨g, I, none⟩) hgl.2).trans hcg0; clear hown2 hb2)
      have hgi : wo.heap.size ≤ gi := (HO2.out.lt gi rfl).1
      have HG3 : Hid (Grid (w2.setCell ⟨g, I, none⟩ (.slice (some ⟨gi, 0, none⟩) N N)) B g m (fun i => if i = I then (some ⟨gi, 0, none⟩, N, N) else f i) (fun i => if i < I then mkL N (v i) else if i = I then partL N 0 (v I) (fun _ => 0) else [])) := Lib.hid (by
        have hgn : wo.grownBy w2 ((f I).val.ownBlock) := ⟨HB2.out.os, HB2.out.tape, HB2.out.output, HB2.out.size, fun k hk _ => HB2.out.block k hk⟩
        have := HG.out.step hlt (x := (some ⟨gi, 0, none⟩, N, N)) (HO2.out.mono hBw) hgn (fun b hb => by cases hb; exact .inr hgi)
        refine this.congr (fun _ _ => rfl) fun i hi => ?_
        by_cases e : i = I
        · subst e; rw [if_pos rfl, if_neg (Nat.lt_irrefl _), if_pos rfl, rep_part]
        · rw [if_neg e]
          by_cases e2 : i < I
          · rw [if_pos e2, if_pos e2]
          · rw [if_neg e2, if_neg e2, if_neg e])
      have HB3 : Hid (Below B w (w2.setCell ⟨g, I, none⟩ (.slice (some ⟨gi, 0, none⟩) N N))) := Lib.hid ((HBl.out.trans (HB2.out.mono hBw)).setCell (by simp only; omega) _)
      obtain ⟨w3, hw3⟩ : ∃ w3, w3 = w2.setCell ⟨g, I, none⟩ (.slice (some ⟨gi, 0, none⟩) N N) := ⟨_, rfl⟩
      rw [← hw3] at HG3 HB3
      rw [← hw3]
      clear hci hcg0 hcg2 hfz0 hfz2 hw3 HG
      go_loopw [8, 9, 28] (fun _ _ j wr => ∃ J : Nat, J ≤ N ∧ j = .int .i64 J ∧ Grid wr B g m (fun i => if i = I then (some ⟨gi, 0, none⟩, N, N) else f i) (fun i => if i < I then mkL N (v i) else if i = I then partL N J (v I) (fun _ => 0) else []) ∧ Below B w wr) (fun _ _ j _ => N - (intOf j).toNat)
      case atStart => exact ⟨0, Nat.zero_le _, rfl, HG3.out, HB3.out⟩
      case round =>
        clear HG3 HB3 HO2 HB2 HBl
        obtain ⟨J, hJ, rfl, hgr, hbl⟩ := hrel
        have HG := Lib.hid hgr; have HBl := Lib.hid hbl
        by_cases hltJ : J < N
        · have hrd := HR.out.keep (by rw [← HBe.out]; exact hbl)
          have hrow := hrd.each I hlt
          have hgl := hgr.glt
          have hcg := hgr.cell hlt
          rw [if_pos rfl] at hcg
          simp only [Sl.val] at hcg
          obtain ⟨g2, k2, hf2, hg2B, _, hg2l, hcc⟩ := hgr.mx.at (N := N) hlt (by rw [if_neg (Nat.lt_irrefl _), if_pos rfl, partL_len]) (by omega)
          rw [if_pos rfl] at hf2
          simp only [Prod.mk.injEq, Option.some.injEq, Addr.mk.injEq, and_true, true_and] at hf2
          obtain ⟨rfl, rfl⟩ := hf2
          have hx0 := (hcc J hltJ).1
          have hfz := (hcc J hltJ).2
          have hrow2 : IntsAt wr a1 N xs := by
            have h1 := hrow
            rw [← Hfe.out, ← Hxs.out] at h1
            exact h1
          obtain ⟨b3, o3, rfl, hc3⟩ := hrow2.cells (by omega)
          have hx := hc3 J hltJ
          have hxb := Hxb.out J hltJ
          obtain ⟨x, hxe⟩ : ∃ x, x = nth xs J := ⟨_, rfl⟩
          rw [← hxe] at hx hxb
          have hx1 : -1000000 ≤ x ∧ x ≤ 1000000 := by omega
          obtain ⟨y, hy⟩ : ∃ y, y = v I J := ⟨_, rfl⟩
          have HC : Hid (∀ W, Calls Tryz.prog 229 #[.int .i64 x, .int .i64 p] W fun e w' => e = .returned (.int .i64 y) ∧ w' = W) := Lib.hid fun W => by
            rw [hy, Hvx.out, ← hxe]
            exact (restMod_any x p W ⟨hp2, hp5⟩ hx1).mono fun e w' h => ⟨h.1, h.2.symm⟩
          have HGn : Hid (Grid (wr.setCell ⟨gi, J, none⟩ (.int .i64 y)) B g m (fun i => if i = I then (some ⟨gi, 0, none⟩, N, N) else f i) (fun i => if i < I then mkL N (v i) else if i = I then partL N (J + 1) (v I) (fun _ => 0) else [])) := Lib.hid ((HG.out.write hlt (by rw [if_pos rfl]) J y).congr (fun _ _ => rfl) fun r hr => by
            by_cases e : r = I
            · subst e
              rw [if_pos rfl, if_neg (Nat.lt_irrefl _), if_pos rfl, if_neg (Nat.lt_irrefl _), if_pos rfl, hy, partL_set hltJ]
            · simp [e])
          have HBn := Lib.hid (HBl.out.setCell (p := ⟨gi, J, none⟩) (by simp only; omega) (.int .i64 y))
          have hJ0 : (0 : Int) ≤ J := by omega
          have hJN : (J : Int) < N := by omega
          clear hrd hrow hcc hrow2 hc3 hxb hxe hy hgr hbl
          go_wp2_with fail
          go_still_tail 9, (by kernel_rfl)
          still_call (HC.out _)
          repeat still_step
          refine wpStill_nil ?_
          change wpList _ _ _ _ _ wr.drew
          have hfz2 : wr.drew.frozen? ⟨gi, J, none⟩ = false := hfz
          have hx02 : wr.drew.cell? ⟨gi, J, none⟩ = _ := hx0
          have HGd : Hid (Grid (wr.drew.setCell ⟨gi, J, none⟩ (.int .i64 y)) B g m (fun i => if i = I then (some ⟨gi, 0, none⟩, N, N) else f i) (fun i => if i < I then mkL N (v i) else if i = I then partL N (J + 1) (v I) (fun _ => 0) else [])) := Lib.hid (by rw [World.setCell_drew]; exact HGn.out.keep (Below.refl _ _).drew)
          have HBd : Hid (Below B w (wr.drew.setCell ⟨gi, J, none⟩ (.int .i64 y))) := Lib.hid (by rw [World.setCell_drew]; exact HBn.out.drew)
          go_wp2_with fail
          go_roundw
          case rel => exact ⟨J + 1, by omega, by go_num, HGd.out, HBd.out⟩
          case measure => simp [intOf]; omega
        · obtain rfl : J = N := by omega
          have hJJ : ¬ ((J : Int) < J) := by omega
          clear hgr hbl
          go_wp2_with fail
          go_roundw
          case rel => exact ⟨I + 1, _, by omega, by go_num, HG.out.congr (fun _ _ => rfl) fun i hi => by
              by_cases e : i < I
              · rw [if_pos e, if_pos (by omega)]
              · rw [if_neg e]
                by_cases e2 : i = I
                · rw [if_pos e2, if_pos (by omega), partL_all, e2]
                · rw [if_neg e2, if_neg (by omega)], HBl.out, fun i hi => by rw [if_neg (by omega)]; exact Hnil.out i (by omega)⟩
          case measure => simp [intOf]; omega
    · obtain rfl : I = m := by omega
      have hII : ¬ ((I : Int) < I) := by omega
      clear hgr hbl
      go_wp2_with fail
      go_ret
      exact ⟨g, f, rfl, by rw [← HBe.out]; exact HG.out.congr (fun _ _ => rfl) fun i hi => by rw [if_pos hi], by rw [← HBe.out]; exact HBl.out⟩
set_option maxRecDepth 100000 in
set_option maxHeartbeats 4000000 in
theorem border_of_any (a1 : Option Addr) (m c1 : Nat) (a2 : Option Addr) (N c2 : Nat) (Lo Hi : List Nat) (w : World) (h1 : IntsAt w a1 m (up Lo)) (h2 : IntsAt w a2 N (up Hi)) (hm : m ≤ 64) (hN : N ≤ 64)
    (hl1 : ∀ u ∈ Lo, u < 64) (hl2 : ∀ t ∈ Hi, t < 64) (hs : ∀ u ∈ Lo, ∀ t ∈ Hi, sz t = sz u + 1) :
    Calls Tryz.prog 214 #[.slice a1 m c1, .slice a2 N c2] w (RetMx w m N fun i j => sgnF (nthN Lo i) (nthN Hi j)) := by
  have H1 := Lib.hid h1; have H2 := Lib.hid h2
  have Hl1 := Lib.hid hl1; have Hl2 := Lib.hid hl2; have Hs := Lib.hid hs
  have HL1 : Hid (Lo.length = m) := Lib.hid (by have := h1.len; rwa [up_len] at this)
  have HL2 : Hid (Hi.length = N) := Lib.hid (by have := h2.len; rwa [up_len] at this)
  obtain ⟨v, hv⟩ : ∃ v : Nat → Nat → Int, v = fun i j => sgnF (nthN Lo i) (nthN Hi j) := ⟨_, rfl⟩
  have Hv : Hid (∀ i j, v i j = sgnF (nthN Lo i) (nthN Hi j)) := Lib.hid fun i j => by rw [hv]
  rw [← hv]
  clear h1 h2 hl1 hl2 hs hv
  obtain ⟨B, hB⟩ : ∃ B, B = w.heap.size := ⟨_, rfl⟩
  have HBe := Lib.hid hB
  clear hB
  go_enter Tryz.func214, Tryz.ntmps214
  go_wp2_with (at_make; refine mk_grid rfl _ _ rfl _ rfl rfl m (by first | omega | simp) (by omega) ?_; intro g w1 hgrid hb1; have HG1 : Hid (Grid w1 B g m (fun _ => (none, 0, 0)) (fun _ => [])) := Lib.hid (by rw [HBe.out]; exact hgrid); have HB1 : Hid (Below B w w1) := Lib.hid (by rw [HBe.out]; exact hb1); clear hgrid hb1)
  go_loopw [6, 7, 15] (fun _ _ i wr => ∃ (I : Nat) (f : Nat → Sl), I ≤ m ∧ i = .int .i64 I ∧ Grid wr B g m f (fun i => if i < I then mkL N (v i) else []) ∧ Below B w wr ∧ ∀ i, I ≤ i → f i = (none, 0, 0)) (fun _ _ i _ => m - (intOf i).toNat)
  case atStart => exact ⟨0, _, Nat.zero_le _, rfl, HG1.out.congr (fun _ _ => rfl) (fun i _ => by rw [if_neg (Nat.not_lt_zero _)]), HB1.out, fun _ _ => rfl⟩
  case round =>
    obtain ⟨wo, rfl⟩ : ∃ x : World, x = wr := ⟨_, rfl⟩
    obtain ⟨I, f, hI, rfl, hgr, hbl, hnil⟩ := hrel
    have HG := Lib.hid hgr; have HBl := Lib.hid hbl
    have hBw : B ≤ wo.heap.size := by rw [HBe.out]; have := hbl.size; have := HBe.out; omega
    by_cases hlt : I < m
    · have hRr := H1.out.keep (by rw [← HBe.out]; exact hbl)
      obtain ⟨b, off, rfl, hc⟩ := hRr.cells (by omega)
      have hci := hc I hlt
      rw [nth_up] at hci
      have humem : nthN Lo I ∈ Lo := nthN_mem2 (by rw [HL1.out]; exact hlt)
      obtain ⟨u, hu⟩ : ∃ u, u = nthN Lo I := ⟨_, rfl⟩
      rw [← hu] at hci humem
      have hu64 := Hl1.out u humem
      have Hvx : Hid (∀ j, v I j = sgnF u (nthN Hi j)) := Lib.hid fun j => by rw [Hv.out, hu]
      have Humem := Lib.hid humem
      have hgl := hgr.glt
      have hfz0 := hgr.frozen hlt
      have hI0 : (0 : Int) ≤ I := by omega
      have hIm : (I : Int) < m := by omega
      have hfI := hnil I (Nat.le_refl _)
      have Hnil := Lib.hid hnil; have HfI := Lib.hid hfI
      clear hc hRr hu humem hgr hbl hnil hfI
      have hcg0 := HG.out.cell hlt
      go_wp2_with (at_make; refine mk_ints rfl _ _ rfl _ rfl rfl N rfl (by omega) ?_; intro gi w2 hown2 hb2; have HO2 := Lib.hid hown2; have HB2 := Lib.hid hb2; have hfz2 : w2.frozen? ⟨g, I, none⟩ = false := (World.frozen?_of_block (a := ⟨g, I, none⟩) (hb2.block g hgl.2)).trans hfz0; have hcg2 := (HB2.out.cell (p := ⟨g, I, none⟩) hgl.2).trans hcg0; clear hown2 hb2)
      have hgi : wo.heap.size ≤ gi := (HO2.out.lt gi rfl).1
      have HG3 : Hid (Grid (w2.setCell ⟨g, I, none⟩ (.slice (some ⟨gi, 0, none⟩) N N)) B g m (fun i => if i = I then (some ⟨gi, 0, none⟩, N, N) else f i) (fun i => if i < I then mkL N (v i) else if i = I then partL N 0 (v I) (fun _ => 0) else [])) := Lib.hid (by
        have hgn : wo.grownBy w2 ((f I).val.ownBlock) := ⟨HB2.out.os, HB2.out.tape, HB2.out.output, HB2.out.size, fun k hk _ => HB2.out.block k hk⟩
        have := HG.out.step hlt (x := (some ⟨gi, 0, none⟩, N, N)) (HO2.out.mono hBw) hgn (fun b hb => by cases hb; exact .inr hgi)
        refine this.congr (fun _ _ => rfl) fun i hi => ?_
        by_cases e : i = I
        · subst e; rw [if_pos rfl, if_neg (Nat.lt_irrefl _), if_pos rfl, rep_part]
        · rw [if_neg e]
          by_cases e2 : i < I
          · rw [if_pos e2, if_pos e2]
          · rw [if_neg e2, if_neg e2, if_neg e])
      have HB3 : Hid (Below B w (w2.setCell ⟨g, I, none⟩ (.slice (some ⟨gi, 0, none⟩) N N))) := Lib.hid ((HBl.out.trans (HB2.out.mono hBw)).setCell (by simp only; omega) _)
      obtain ⟨w3, hw3⟩ : ∃ w3, w3 = w2.setCell ⟨g, I, none⟩ (.slice (some ⟨gi, 0, none⟩) N N) := ⟨_, rfl⟩
      rw [← hw3] at HG3 HB3
      rw [← hw3]
      clear hci hcg0 hcg2 hfz0 hfz2 hw3 HG
      go_loopw [8, 9, 28] (fun _ _ j wr => ∃ J : Nat, J ≤ N ∧ j = .int .i64 J ∧ Grid wr B g m (fun i => if i = I then (some ⟨gi, 0, none⟩, N, N) else f i) (fun i => if i < I then mkL N (v i) else if i = I then partL N J (v I) (fun _ => 0) else []) ∧ Below B w wr) (fun _ _ j _ => N - (intOf j).toNat)
      case atStart => exact ⟨0, Nat.zero_le _, rfl, HG3.out, HB3.out⟩
      case round =>
        clear HG3 HB3 HO2 HB2 HBl
        obtain ⟨J, hJ, rfl, hgr, hbl⟩ := hrel
        have HG := Lib.hid hgr; have HBl := Lib.hid hbl
        by_cases hltJ : J < N
        · have hrd := H2.out.keep (by rw [← HBe.out]; exact hbl)
          have hgl := hgr.glt
          have hcg := hgr.cell hlt
          rw [if_pos rfl] at hcg
          simp only [Sl.val] at hcg
          obtain ⟨g2, k2, hf2, hg2B, _, hg2l, hcc⟩ := hgr.mx.at (N := N) hlt (by rw [if_neg (Nat.lt_irrefl _), if_pos rfl, partL_len]) (by omega)
          rw [if_pos rfl] at hf2
          simp only [Prod.mk.injEq, Option.some.injEq, Addr.mk.injEq, and_true, true_and] at hf2
          obtain ⟨rfl, rfl⟩ := hf2
          have hx0 := (hcc J hltJ).1
          have hfz := (hcc J hltJ).2
          obtain ⟨b3, o3, rfl, hc3⟩ := hrd.cells (by omega)
          have hx := hc3 J hltJ
          rw [nth_up] at hx
          have htmem : nthN Hi J ∈ Hi := nthN_mem2 (by rw [HL2.out]; exact hltJ)
          obtain ⟨t, ht⟩ : ∃ t, t = nthN Hi J := ⟨_, rfl⟩
          rw [← ht] at hx htmem
          have ht64 := Hl2.out t htmem
          obtain ⟨y, hy⟩ : ∃ y, y = v I J := ⟨_, rfl⟩
          have HC : Hid (∀ W, Calls Tryz.prog 221 #[.int .i64 u, .int .i64 t] W fun e w' => e = .returned (.int .i64 y) ∧ w' = W) := Lib.hid fun W => by
            rw [hy, Hvx.out, ← ht]
            exact (bSign_any u t W hu64 ht64 (Hs.out u Humem.out t htmem)).mono fun e w' h => ⟨h.1, h.2.symm⟩
          have HGn : Hid (Grid (wr.setCell ⟨gi, J, none⟩ (.int .i64 y)) B g m (fun i => if i = I then (some ⟨gi, 0, none⟩, N, N) else f i) (fun i => if i < I then mkL N (v i) else if i = I then partL N (J + 1) (v I) (fun _ => 0) else [])) := Lib.hid ((HG.out.write hlt (by rw [if_pos rfl]) J y).congr (fun _ _ => rfl) fun r hr => by
            by_cases e : r = I
            · subst e
              rw [if_pos rfl, if_neg (Nat.lt_irrefl _), if_pos rfl, if_neg (Nat.lt_irrefl _), if_pos rfl, hy, partL_set hltJ]
            · simp [e])
          have HBn := Lib.hid (HBl.out.setCell (p := ⟨gi, J, none⟩) (by simp only; omega) (.int .i64 y))
          have hJ0 : (0 : Int) ≤ J := by omega
          have hJN : (J : Int) < N := by omega
          clear hrd hcc hc3 ht htmem hy hgr hbl
          go_wp2_with fail
          go_still_tail 9, (by kernel_rfl)
          still_call (HC.out _)
          repeat still_step
          refine wpStill_nil ?_
          change wpList _ _ _ _ _ wr.drew
          have hfz2 : wr.drew.frozen? ⟨gi, J, none⟩ = false := hfz
          have hx02 : wr.drew.cell? ⟨gi, J, none⟩ = _ := hx0
          have HGd : Hid (Grid (wr.drew.setCell ⟨gi, J, none⟩ (.int .i64 y)) B g m (fun i => if i = I then (some ⟨gi, 0, none⟩, N, N) else f i) (fun i => if i < I then mkL N (v i) else if i = I then partL N (J + 1) (v I) (fun _ => 0) else [])) := Lib.hid (by rw [World.setCell_drew]; exact HGn.out.keep (Below.refl _ _).drew)
          have HBd : Hid (Below B w (wr.drew.setCell ⟨gi, J, none⟩ (.int .i64 y))) := Lib.hid (by rw [World.setCell_drew]; exact HBn.out.drew)
          go_wp2_with fail
          go_roundw
          case rel => exact ⟨J + 1, by omega, by go_num, HGd.out, HBd.out⟩
          case measure => simp [intOf]; omega
        · obtain rfl : J = N := by omega
          have hJJ : ¬ ((J : Int) < J) := by omega
          clear hgr hbl
          go_wp2_with fail
          go_roundw
          case rel => exact ⟨I + 1, _, by omega, by go_num, HG.out.congr (fun _ _ => rfl) fun i hi => by
              by_cases e : i < I
              · rw [if_pos e, if_pos (by omega)]
              · rw [if_neg e]
                by_cases e2 : i = I
                · rw [if_pos e2, if_pos (by omega), partL_all, e2]
                · rw [if_neg e2, if_neg (by omega)], HBl.out, fun i hi => by rw [if_neg (by omega)]; exact Hnil.out i (by omega)⟩
          case measure => simp [intOf]; omega
    · obtain rfl : I = m := by omega
      have hII : ¬ ((I : Int) < I) := by omega
      clear hgr hbl
      go_wp2_with fail
      go_ret
      exact ⟨g, f, rfl, by rw [← HBe.out]; exact HG.out.congr (fun _ _ => rfl) fun i hi => by rw [if_pos hi], by rw [← HBe.out]; exact HBl.out⟩
end Go.Proofs.YtihfhfihladlcaaGreatDoor

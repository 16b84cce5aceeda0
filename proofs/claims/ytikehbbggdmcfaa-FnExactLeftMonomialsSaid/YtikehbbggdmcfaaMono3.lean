/- Contracts of MonomialsOf and of the supports, the program's and the reference's. -/
import Derived.Test.YtikehbbggdmcfaaMono2
import Derived.Test.YtikehbbggdmcfaaDiv2
namespace Go.Proofs.Ytikehbbggdmcfaa
open Go.RowKit
set_option linter.unusedSimpArgs false
set_option linter.unusedVariables false

theorem iMonos_any (n d : Nat) (w : World) (h1 : 1 ≤ n) (h6 : n ≤ 6) (h5 : d ≤ 5) :
    Calls Try.prog 28 #[.int .i64 n, .int .i64 d] w (RetInts2 w (monoL (n - 1) [] d)) := by
  have hlen := monoL_len (n - 1) (by omega) d h5 []
  have hp : 6 ^ (n - 1) ≤ 6 ^ 5 := Nat.pow_le_pow_right (by omega) (by omega)
  have hc : (w.alloc (.cells #[.slice none 0 0] 26)).cell? ⟨w.heap.size, 0, none⟩ = some (.slice none 0 0) := by rw [World.cell?_alloc_at _ _ _ _ rfl]; rfl
  have hadd := add_any (n - 1) [] d none 0 0 w.heap.size (w.heap.size + 1) none 0 0 [] (w.alloc (.cells #[.slice none 0 0] 26)) n (by omega) (by omega) h5 (by omega) (IntsAt.nil _) ⟨Nat.le_refl _, fun _ => rfl⟩ hc (by simp) (by omega) ⟨_, O2.nil _ _ _⟩ (by simp) (by omega) (fun b hb => by cases hb)
  have Hadd := Lib.hid hadd
  clear hadd hc hlen hp
  go_enter Try.func28, Try.ntmps28
  go_wp2_with fail
  refine Hadd.out.mono ?_
  rintro e w1 ⟨⟨v, rfl⟩, ad, k, c, hcell, hfro, hown, hchg, hloc⟩
  have HO := Lib.hid hown
  have HB : Hid (Below w.heap.size w w1) := Lib.hid (Below.trans ((Below.refl _ w).alloc (Nat.le_refl _) (.cells #[.slice none 0 0] 26)) ⟨hchg.os, hchg.tape, hchg.output, hchg.size, fun i hi => hchg.block i (by simp; omega) (by omega) (fun e => by cases e)⟩)
  clear hown hchg hloc
  go_wp2_with fail
  go_ret
  exact ⟨ad, k, c, rfl, by have := HO.out.mono (show w.heap.size ≤ w.heap.size + 1 by omega); simpa using this, HB.out⟩
theorem sMonos_any (n d : Nat) (w : World) (h1 : 1 ≤ n) (h6 : n ≤ 6) (h5 : d ≤ 5) :
    Calls Try.prog 22 #[.int .i64 n, .int .i64 d] w (RetInts2 w (monoL (n - 1) [] d)) := by
  have hlen := monoL_len (n - 1) (by omega) d h5 []
  have hp : 6 ^ (n - 1) ≤ 6 ^ 5 := Nat.pow_le_pow_right (by omega) (by omega)
  have hE := (Own.empty 3 w w.heap.size (Nat.le_refl _)).alloc (.cells #[] 22)
  have hO : Own2 ((w.alloc (.cells #[] 3)).alloc (.cells #[] 22)) w.heap.size ((w.alloc (.cells #[] 3)).alloc (.cells #[] 22)).heap.size (some ⟨w.heap.size + 1, 0, none⟩) 0 0 [] := by
    have := O2.empty (w.alloc (.cells #[] 3)) w.heap.size (by simp)
    simp only [World.size_alloc] at this
    exact ⟨_, this.up (by simp)⟩
  have hfill := fill_any n h6 (n - 1) [] d (some ⟨w.heap.size, 0, none⟩) 0 0 w.heap.size (some ⟨w.heap.size + 1, 0, none⟩) 0 0 [] _ (by simp; omega) h5 hE.reads hE.fit hO (by simp; omega) (by omega) (fun b e hb he => by cases hb; cases he; simp)
  have Hfill := Lib.hid hfill
  clear hfill hE hO hlen hp
  go_enter Try.func22, Try.ntmps22
  go_wp2_with (first | (go_at_call 21; (with_reducible refine (l1In_yes (n : Int) 1 6 _ (by omega) (by omega)).mono ?_); rintro e w' ⟨rfl, rfl⟩) | (go_at_call 21; (with_reducible refine (l1In_yes (d : Int) 0 5 _ (by omega) (by omega)).mono ?_); rintro e w' ⟨rfl, rfl⟩))
  refine Hfill.out.mono ?_
  rintro e w1 ⟨ad, k, c, rfl, hown, hg, hloc⟩
  have HO := Lib.hid hown
  have HB : Hid (Below w.heap.size w w1) := Lib.hid ((((Below.refl _ w).alloc (Nat.le_refl _) (.cells #[] 3)).alloc (by simp) (.cells #[] 22)).grown hg (by simp; omega) (fun k hk => by
    have : w.heap.size + 1 = k := by simpa [Value.ownBlock] using hk
    omega))
  clear hown hg hloc
  go_wp2_with fail
  go_ret
  exact ⟨ad, k, c, rfl, by simpa using HO.out, HB.out⟩

theorem iUsed_any (a : Option Addr) (n c : Nat) (e : List Int) (w : World) (h : IntsAt w a n e) (hn : n ≤ 6) :
    Calls Try.prog 30 #[.slice a n c] w fun r w' => r = .returned (.int .i64 (suppOf e)) ∧ w = w' := by
  have HR : Hid (suppOf e = suppTo e n) := Lib.hid (by unfold suppOf; rw [h.len])
  have Hx := Lib.hid h
  clear h
  go_enter Try.func30, Try.ntmps30
  go_wp2_with fail
  go_loop [3, 4, 5, 8] (fun r _ _ i => ∃ I R : Nat, I ≤ n ∧ i = .int .i64 I ∧ r = .int .i64 R ∧ R < 64 ∧ Hid (R = suppTo e I)) (fun _ _ _ i => n - (intOf i).toNat)
  case atStart => exact ⟨0, 0, Nat.zero_le _, rfl, rfl, by omega, Lib.hid rfl⟩
  case round =>
    obtain ⟨I, R, hI, rfl, rfl, hR, hRe⟩ := hrel
    by_cases hlt : I < n
    · obtain ⟨b1, o1, rfl, hc⟩ := Hx.out.cells (by omega)
      have hck := hc I hlt
      obtain ⟨x, hxe⟩ : ∃ x, x = nth e I := ⟨_, rfl⟩
      rw [← hxe] at hck
      have Hxe := Lib.hid hxe
      have hI0 : (0 : Int) ≤ I := by omega
      have hIn : (I : Int) < n := by omega
      have hwI : IntKind.u64.wrap (I : Int) = (I : Int) := by rw [IntKind.wrap_u64]; omega
      have hmI : min I 64 = I := by omega
      have hI6 : I < 6 := by omega
      have hI8 : I < 8 := by omega
      clear hc hxe
      by_cases hx : 0 < x
      · have Hyes := Lib.hid (suppTo_yes (e := e) (k := I) (by rw [← Hxe.out]; exact hx))
        have hor := w_or6bit R I hR hI6
        have hlt64 := or_lt64 hR (bit_lt64 hI6)
        go_wp2_with fail
        go_round
        case rel => exact ⟨I + 1, R ||| 2 ^ I, by omega, by go_num, by go_num, hlt64, Lib.hid (by rw [Hyes.out, hRe.out])⟩
        case measure => simp [intOf]; omega
      · have Hno := Lib.hid (suppTo_no (e := e) (k := I) (by rw [← Hxe.out]; exact hx))
        go_wp2_with fail
        go_round
        case rel => exact ⟨I + 1, R, by omega, by go_num, rfl, hR, Lib.hid (by rw [Hno.out]; exact hRe.out)⟩
        case measure => simp [intOf]; omega
    · obtain rfl : I = n := by omega
      go_wp2_with fail
      go_ret
      exact ⟨ret_int (by rw [HR.out, hRe.out]), rfl⟩
theorem l1Bit9 (b : Bool) (w : World) : Calls Try.prog 45 #[.bool b] w fun e w' => e = .returned (.int .i64 (if b then 1 else 0)) ∧ w = w' := by
  cases b
  · go_enter Try.func45, Try.ntmps45
    go_wp2_with fail
    go_ret
    exact ⟨rfl, rfl⟩
  · go_enter Try.func45, Try.ntmps45
    go_wp2_with fail
    go_ret
    exact ⟨rfl, rfl⟩
theorem bit_low1 {e : List Int} {k : Nat} (h : 0 < nth e k) (hk : k < 6) : suppTo e k + 2 ^ k = suppTo e (k + 1) := by
  rw [suppTo_yes h]; exact or_top k hk _ (suppTo_lt e k)
theorem sUsed_any (a : Option Addr) (n c : Nat) (e : List Int) (w : World) (h : IntsAt w a n e) (hn : n ≤ 6) :
    Calls Try.prog 24 #[.slice a n c] w fun r w' => r = .returned (.int .i64 (suppOf e)) ∧ w = w' := by
  have HR : Hid (suppOf e = suppTo e n) := Lib.hid (by unfold suppOf; rw [h.len])
  have Hx := Lib.hid h
  clear h
  go_enter Try.func24, Try.ntmps24
  go_wp2_with fail
  go_loop [3, 4] (fun r i => ∃ I R : Nat, I ≤ n ∧ i = .int .i64 I ∧ r = .int .i64 R ∧ R < 64 ∧ Hid (R = suppTo e I)) (fun _ i => n - (intOf i).toNat)
  case atStart => exact ⟨0, 0, Nat.zero_le _, rfl, rfl, by omega, Lib.hid rfl⟩
  case round =>
    obtain ⟨I, R, hI, rfl, rfl, hR, hRe⟩ := hrel
    by_cases hlt : I < n
    · obtain ⟨b1, o1, rfl, hc⟩ := Hx.out.cells (by omega)
      have hck := hc I hlt
      obtain ⟨x, hxe⟩ : ∃ x, x = nth e I := ⟨_, rfl⟩
      rw [← hxe] at hck
      have Hxe := Lib.hid hxe
      have hI0 : (0 : Int) ≤ I := by omega
      have hIn : (I : Int) < n := by omega
      have hwI : IntKind.u64.wrap (I : Int) = (I : Int) := by rw [IntKind.wrap_u64]; omega
      have hmI : min I 64 = I := by omega
      have hI6 : I < 6 := by omega
      have hI8 : I < 8 := by omega
      clear hc hxe
      by_cases hx : 0 < x
      · have hs := bit_low1 (e := e) (k := I) (by rw [← Hxe.out]; exact hx) hI6
        rw [← hRe.out] at hs
        obtain ⟨R2, hR2⟩ : ∃ R2, R2 = suppTo e (I + 1) := ⟨_, rfl⟩
        rw [← hR2] at hs
        have hR64 : R2 < 64 := by rw [hR2]; exact Nat.lt_of_lt_of_le (suppTo_lt e (I + 1)) (Nat.pow_le_pow_right (n := 2) (by omega) (show I + 1 ≤ 6 by omega))
        have hsum : IntKind.i64.wrap ((R : Int) + 2 ^ I) = (R2 : Int) := by
          have e : ((2 : Int) ^ I) = ((2 ^ I : Nat) : Int) := by norm_cast
          rw [e, IntKind.wrap_i64]; omega
        have HR2 := Lib.hid hR2
        have hdec : decide (x > 0) = true := by simp; omega
        clear hs hR2
        go_wp2_with (go_at_call 45; (with_reducible refine (l1Bit9 true _).mono ?_); rintro e w' ⟨rfl, rfl⟩)
        go_round
        case rel => exact ⟨I + 1, R2, by omega, by go_num, by first | rfl | go_num | (rw [← hsum]; rfl), hR64, HR2⟩
        case measure => simp [intOf]; omega
      · have Hno := Lib.hid (suppTo_no (e := e) (k := I) (by rw [← Hxe.out]; exact hx))
        have hdec : decide (x > 0) = false := by simp; omega
        go_wp2_with (go_at_call 45; (with_reducible refine (l1Bit9 false _).mono ?_); rintro e w' ⟨rfl, rfl⟩)
        go_round
        case rel => exact ⟨I + 1, R, by omega, by go_num, by first | rfl | go_num | simp, hR, Lib.hid (by rw [Hno.out]; exact hRe.out)⟩
        case measure => simp [intOf]; omega
    · obtain rfl : I = n := by omega
      have hii : ¬ ((I : Int) < I) := by omega
      go_wp2_with fail
      go_ret
      exact ⟨ret_int (by rw [HR.out, hRe.out]), rfl⟩
end Go.Proofs.Ytikehbbggdmcfaa

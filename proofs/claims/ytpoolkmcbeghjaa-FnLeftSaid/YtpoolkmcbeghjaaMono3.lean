/- Texts of this claim, one behind the other: what each says stands at its head. -/
import Derived.Deep.RegionHeld3
import Derived.Deep.DeepCutAuto
import Derived.Test.YtpoolkmcbeghjaaFlip
import Derived.Test.YtpoolkmcbeghjaaMono2
/- Contracts of MonomialsOf and of the supports, the program's and the reference's. -/
namespace Go.Proofs.Ytpoolkmcbeghjaa
set_option maxRecDepth 20000
open Go.RowKit
set_option linter.unusedSimpArgs false
set_option linter.unusedVariables false

theorem iMonos_any (n d : Nat) (w : World) (h1 : 1 ≤ n) (h6 : n ≤ 6) (h5 : d ≤ 5) :
    Calls Try.prog 64 #[.int .i64 n, .int .i64 d] w (RetInts2 w (monoL (n - 1) [] d)) := by
  have hlen := monoL_len (n - 1) (by omega) d h5 []
  have hp : 6 ^ (n - 1) ≤ 6 ^ 5 := Nat.pow_le_pow_right (by omega) (by omega)
  have hc : (w.alloc (.cells #[.slice none 0 0] 36)).cell? ⟨w.heap.size, 0, none⟩ = some (.slice none 0 0) := by rw [World.cell?_alloc_at _ _ _ _ rfl]; rfl
  have hadd := add_any (n - 1) [] d none 0 0 w.heap.size (w.heap.size + 1) none 0 0 [] (w.alloc (.cells #[.slice none 0 0] 36)) n (by omega) (by omega) h5 (by omega) (IntsAt.nil _) ⟨Nat.le_refl _, fun _ => rfl⟩ hc (by simp) (by omega) ⟨_, O2.nil _ _ _⟩ (by simp) (by omega) (fun b hb => by cases hb)
  have Hadd := Lib.hid hadd
  clear hadd hc hlen hp
  go_enter Try.func64, Try.ntmps64
  go_wp2_with fail
  refine Hadd.out.mono ?_
  rintro e w1 ⟨⟨v, rfl⟩, ad, k, c, hcell, hfro, hown, hchg, hloc⟩
  have HO := Lib.hid hown
  have HB : Hid (Below w.heap.size w w1) := Lib.hid (Below.trans ((Below.refl _ w).alloc (Nat.le_refl _) (.cells #[.slice none 0 0] 36)) ⟨hchg.os, hchg.tape, hchg.output, hchg.size, fun i hi => hchg.block i (by simp; omega) (by omega) (fun e => by cases e)⟩)
  clear hown hchg hloc
  go_wp2_with fail
  go_ret
  exact ⟨ad, k, c, rfl, by have := HO.out.mono (show w.heap.size ≤ w.heap.size + 1 by omega); simpa using this, HB.out⟩
theorem sMonos_any (n d : Nat) (w : World) (h1 : 1 ≤ n) (h6 : n ≤ 6) (h5 : d ≤ 5) :
    Calls Try.prog 71 #[.int .i64 n, .int .i64 d] w (RetInts2 w (monoL (n - 1) [] d)) := by
  have hlen := monoL_len (n - 1) (by omega) d h5 []
  have hp : 6 ^ (n - 1) ≤ 6 ^ 5 := Nat.pow_le_pow_right (by omega) (by omega)
  have hE := (Own.empty 3 w w.heap.size (Nat.le_refl _)).alloc (.cells #[] 22)
  have hO : Own2 ((w.alloc (.cells #[] 3)).alloc (.cells #[] 22)) w.heap.size ((w.alloc (.cells #[] 3)).alloc (.cells #[] 22)).heap.size (some ⟨w.heap.size + 1, 0, none⟩) 0 0 [] := by
    have := O2.empty (w.alloc (.cells #[] 3)) w.heap.size (by simp)
    simp only [World.size_alloc] at this
    exact ⟨_, this.up (by simp)⟩
  have hfill := fill_any n h6 (n - 1) [] d (some ⟨w.heap.size, 0, none⟩) 0 0 w.heap.size (some ⟨w.heap.size + 1, 0, none⟩) 0 0 [] _ (by simp; omega) h5 hE.reads hE.fit hO (by simp; omega) (by omega) (fun b e hb he => by cases hb; cases he; simp)
  have Hfill := Lib.hid hfill
  clear hfill hE hO hlen hp
  go_enter Try.func71, Try.ntmps71
  go_wp2_with (first | (go_at_call 70; (with_reducible refine (l1In_yes (n : Int) 1 6 _ (by omega) (by omega)).mono ?_); rintro e w' ⟨rfl, rfl⟩) | (go_at_call 70; (with_reducible refine (l1In_yes (d : Int) 0 5 _ (by omega) (by omega)).mono ?_); rintro e w' ⟨rfl, rfl⟩))
  refine Hfill.out.mono ?_
  rintro e w1 ⟨ad, k, c, rfl, hown, hg, hloc⟩
  have HO := Lib.hid hown
  have HB : Hid (Below w.heap.size w w1) := Lib.hid ((((Below.refl _ w).alloc (Nat.le_refl _) (.cells #[] 3)).alloc (by simp) (.cells #[] 22)).grown hg (by simp; omega) (fun k hk => by
    have : w.heap.size + 1 = k := by simpa [Value.ownBlock] using hk
    omega))
  clear hown hg hloc
  go_wp2_with fail
  go_ret
  exact ⟨ad, k, c, rfl, by simpa using HO.out, HB.out⟩

theorem iUsed_any (a : Option Addr) (n c : Nat) (e : List Int) (w : World) (h : IntsAt w a n e) (hn : n ≤ 6) :
    Calls Try.prog 66 #[.slice a n c] w fun r w' => r = .returned (.int .i64 (suppOf e)) ∧ w = w' := by
  have HR : Hid (suppOf e = suppTo e n) := Lib.hid (by unfold suppOf; rw [h.len])
  have Hx := Lib.hid h
  clear h
  go_enter Try.func66, Try.ntmps66
  go_wp2_with fail
  go_loop [3, 4, 5, 8] (fun r _ _ i => ∃ I R : Nat, I ≤ n ∧ i = .int .i64 I ∧ r = .int .i64 R ∧ R < 64 ∧ Hid (R = suppTo e I)) (fun _ _ _ i => n - (intOf i).toNat)
  case atStart => exact ⟨0, 0, Nat.zero_le _, rfl, rfl, by omega, Lib.hid rfl⟩
  case round =>
    obtain ⟨I, R, hI, rfl, rfl, hR, hRe⟩ := hrel
    by_cases hlt : I < n
    · obtain ⟨b1, o1, rfl, hc⟩ := Hx.out.cells (by omega)
      have hck := hc I hlt
      obtain ⟨x, hxe⟩ : ∃ x, x = nth e I := ⟨_, rfl⟩
      rw [← hxe] at hck
      have Hxe := Lib.hid hxe
      have hI0 : (0 : Int) ≤ I := by omega
      have hIn : (I : Int) < n := by omega
      have hwI : IntKind.u64.wrap (I : Int) = (I : Int) := by rw [IntKind.wrap_u64]; omega
      have hmI : min I 64 = I := by omega
      have hI6 : I < 6 := by omega
      have hI8 : I < 8 := by omega
      clear hc hxe
      by_cases hx : 0 < x
      · have Hyes := Lib.hid (suppTo_yes (e := e) (k := I) (by rw [← Hxe.out]; exact hx))
        have hor := w_or6bit R I hR hI6
        have hlt64 := or_lt64 hR (bit_lt64 hI6)
        go_wp2_with fail
        go_round
        case rel => exact ⟨I + 1, R ||| 2 ^ I, by omega, by go_num, by go_num, hlt64, Lib.hid (by rw [Hyes.out, hRe.out])⟩
        case measure => simp [intOf]; omega
      · have Hno := Lib.hid (suppTo_no (e := e) (k := I) (by rw [← Hxe.out]; exact hx))
        go_wp2_with fail
        go_round
        case rel => exact ⟨I + 1, R, by omega, by go_num, rfl, hR, Lib.hid (by rw [Hno.out]; exact hRe.out)⟩
        case measure => simp [intOf]; omega
    · obtain rfl : I = n := by omega
      go_wp2_with fail
      go_ret
      exact ⟨ret_int (by rw [HR.out, hRe.out]), rfl⟩
theorem l1Bit9 (b : Bool) (w : World) : Calls Try.prog 74 #[.bool b] w fun e w' => e = .returned (.int .i64 (if b then 1 else 0)) ∧ w = w' := by
  cases b
  · go_enter Try.func74, Try.ntmps74
    go_wp2_with fail
    go_ret
    exact ⟨rfl, rfl⟩
  · go_enter Try.func74, Try.ntmps74
    go_wp2_with fail
    go_ret
    exact ⟨rfl, rfl⟩
theorem bit_low1 {e : List Int} {k : Nat} (h : 0 < nth e k) (hk : k < 6) : suppTo e k + 2 ^ k = suppTo e (k + 1) := by
  rw [suppTo_yes h]; exact or_top k hk _ (suppTo_lt e k)
theorem sUsed_any (a : Option Addr) (n c : Nat) (e : List Int) (w : World) (h : IntsAt w a n e) (hn : n ≤ 6) :
    Calls Try.prog 73 #[.slice a n c] w fun r w' => r = .returned (.int .i64 (suppOf e)) ∧ w = w' := by
  have HR : Hid (suppOf e = suppTo e n) := Lib.hid (by unfold suppOf; rw [h.len])
  have Hx := Lib.hid h
  clear h
  go_enter Try.func73, Try.ntmps73
  go_wp2_with fail
  go_loop [3, 4] (fun r i => ∃ I R : Nat, I ≤ n ∧ i = .int .i64 I ∧ r = .int .i64 R ∧ R < 64 ∧ Hid (R = suppTo e I)) (fun _ i => n - (intOf i).toNat)
  case atStart => exact ⟨0, 0, Nat.zero_le _, rfl, rfl, by omega, Lib.hid rfl⟩
  case round =>
    obtain ⟨I, R, hI, rfl, rfl, hR, hRe⟩ := hrel
    by_cases hlt : I < n
    · obtain ⟨b1, o1, rfl, hc⟩ := Hx.out.cells (by omega)
      have hck := hc I hlt
      obtain ⟨x, hxe⟩ : ∃ x, x = nth e I := ⟨_, rfl⟩
      rw [← hxe] at hck
      have Hxe := Lib.hid hxe
      have hI0 : (0 : Int) ≤ I := by omega
      have hIn : (I : Int) < n := by omega
      have hwI : IntKind.u64.wrap (I : Int) = (I : Int) := by rw [IntKind.wrap_u64]; omega
      have hmI : min I 64 = I := by omega
      have hI6 : I < 6 := by omega
      have hI8 : I < 8 := by omega
      clear hc hxe
      by_cases hx : 0 < x
      · have hs := bit_low1 (e := e) (k := I) (by rw [← Hxe.out]; exact hx) hI6
        rw [← hRe.out] at hs
        obtain ⟨R2, hR2⟩ : ∃ R2, R2 = suppTo e (I + 1) := ⟨_, rfl⟩
        rw [← hR2] at hs
        have hR64 : R2 < 64 := by rw [hR2]; exact Nat.lt_of_lt_of_le (suppTo_lt e (I + 1)) (Nat.pow_le_pow_right (n := 2) (by omega) (show I + 1 ≤ 6 by omega))
        have hsum : IntKind.i64.wrap ((R : Int) + 2 ^ I) = (R2 : Int) := by
          have e : ((2 : Int) ^ I) = ((2 ^ I : Nat) : Int) := by norm_cast
          rw [e, IntKind.wrap_i64]; omega
        have HR2 := Lib.hid hR2
        have hdec : decide (x > 0) = true := by simp; omega
        clear hs hR2
        go_wp2_with (go_at_call 74; (with_reducible refine (l1Bit9 true _).mono ?_); rintro e w' ⟨rfl, rfl⟩)
        go_round
        case rel => exact ⟨I + 1, R2, by omega, by go_num, by first | rfl | go_num | (rw [← hsum]; rfl), hR64, HR2⟩
        case measure => simp [intOf]; omega
      · have Hno := Lib.hid (suppTo_no (e := e) (k := I) (by rw [← Hxe.out]; exact hx))
        have hdec : decide (x > 0) = false := by simp; omega
        go_wp2_with (go_at_call 74; (with_reducible refine (l1Bit9 false _).mono ?_); rintro e w' ⟨rfl, rfl⟩)
        go_round
        case rel => exact ⟨I + 1, R, by omega, by go_num, by first | rfl | go_num | simp, hR, Lib.hid (by rw [Hno.out]; exact hRe.out)⟩
        case measure => simp [intOf]; omega
    · obtain rfl : I = n := by omega
      have hii : ¬ ((I : Int) < I) := by omega
      go_wp2_with fail
      go_ret
      exact ⟨ret_int (by rw [HR.out, hRe.out]), rfl⟩
end Go.Proofs.Ytpoolkmcbeghjaa

/- Contracts of LeftMonomials, the program's and the reference's. -/
namespace Go.Proofs.Ytpoolkmcbeghjaa
set_option maxRecDepth 20000
open Go.RowKit
set_option linter.unusedSimpArgs false
set_option linter.unusedVariables false

/-- a complex and a degree up to 4 -/
def LeftP (p : Int) (xs : List Int) (d : Int) : Prop := Anti p xs ∧ 0 ≤ d ∧ d ≤ 4
theorem supp_lt64 {e : List Int} (h : e.length ≤ 6) : suppOf e < 64 := Nat.lt_of_lt_of_le (suppTo_lt e e.length) (Nat.pow_le_pow_right (n := 2) (by omega) h)
theorem mono_sizes {m d : Nat} (hm : m ≤ 6) (h1 : 1 ≤ m) (hd : d ≤ 5) : (monoL (m - 1) [] d).length ≤ 8000 ∧ ∀ e ∈ monoL (m - 1) [] d, e.length = m := by
  refine ⟨?_, fun e he => ?_⟩
  · have h2 := monoL_len (m - 1) (by omega) d hd []
    have hp : 6 ^ (m - 1) ≤ 6 ^ 5 := Nat.pow_le_pow_right (by omega) (by omega)
    omega
  · have := (monoL_each (r := m - 1) (h := []) (d := d) (fun i => by unfold nth; simp) hd e he).1
    simp at this; omega

theorem iLeftM_no (p : Int) (a : Option Addr) (n c : Nat) (xs : List Int) (d : Int) (w : World) (h : IntsAt w a n xs) (hcap : n ≤ c) (hno : ¬ LeftP p xs d) :
    Calls Try.prog 13 #[.agg #[.int .i64 p, .slice a n c], .int .i64 d] w (RetInts2 w []) := by
  have hx : IntsAt (w.alloc (.cells #[.int .i64 p, .slice a n c] 33)) a n xs := h.keep (by repeat (first | exact Below.refl _ _ | assumption | refine Below.setCell ?_ (by first | omega | (simp; done) | (simp; omega)) _ | refine Below.alloc ?_ (by first | omega | (simp; done) | (simp; omega)) _ | apply Below.drew))
  have Hx := Lib.hid hx; have Hcap := Lib.hid hcap; have Hno := Lib.hid hno
  clear hx h hcap hno
  by_cases hA : Anti p xs
  · have HA := Lib.hid hA
    have hd : ¬ (0 ≤ d ∧ d ≤ 4) := fun h => Hno.out ⟨hA, h⟩
    clear hA
    by_cases h0 : d < 0
    · clear hd
      go_enter Try.func13, Try.ntmps13
      go_wp2_with fail
      refine (iIsComplex_any p a n c xs _ Hx.out Hcap.out true (by simp [HA.out])).mono ?_
      rintro e w1 ⟨rfl, hb⟩
      have HB : Hid (Below w.heap.size w w1) := Lib.hid (Below.trans (by repeat (first | exact Below.refl _ _ | assumption | refine Below.setCell ?_ (by first | omega | (simp; done) | (simp; omega)) _ | refine Below.alloc ?_ (by first | omega | (simp; done) | (simp; omega)) _ | apply Below.drew)) (hb.mono (by simp <;> omega)))
      clear hb
      go_wp2_with fail
      go_ret
      exact ⟨none, 0, 0, rfl, ⟨_, O2.nil _ _ _⟩, HB.out⟩
    · have h4 : 4 < d := by omega
      clear hd
      go_enter Try.func13, Try.ntmps13
      go_wp2_with fail
      refine (iIsComplex_any p a n c xs _ Hx.out Hcap.out true (by simp [HA.out])).mono ?_
      rintro e w1 ⟨rfl, hb⟩
      have HB : Hid (Below w.heap.size w w1) := Lib.hid (Below.trans (by repeat (first | exact Below.refl _ _ | assumption | refine Below.setCell ?_ (by first | omega | (simp; done) | (simp; omega)) _ | refine Below.alloc ?_ (by first | omega | (simp; done) | (simp; omega)) _ | apply Below.drew)) (hb.mono (by simp <;> omega)))
      clear hb
      go_wp2_with fail
      go_ret
      exact ⟨none, 0, 0, rfl, ⟨_, O2.nil _ _ _⟩, HB.out⟩
  · have HA := Lib.hid hA; clear hA
    go_enter Try.func13, Try.ntmps13
    go_wp2_with fail
    refine (iIsComplex_any p a n c xs _ Hx.out Hcap.out false (by simp [HA.out])).mono ?_
    rintro e w1 ⟨rfl, hb⟩
    have HB : Hid (Below w.heap.size w w1) := Lib.hid (Below.trans (by repeat (first | exact Below.refl _ _ | assumption | refine Below.setCell ?_ (by first | omega | (simp; done) | (simp; omega)) _ | refine Below.alloc ?_ (by first | omega | (simp; done) | (simp; omega)) _ | apply Below.drew)) (hb.mono (by simp <;> omega)))
    clear hb
    go_wp2_with fail
    go_ret
    exact ⟨none, 0, 0, rfl, ⟨_, O2.nil _ _ _⟩, HB.out⟩
set_option maxRecDepth 100000 in
set_option maxHeartbeats 1000000 in
theorem iLeftM_yes (m : Nat) (a : Option Addr) (n c : Nat) (l : List Nat) (d : Nat) (w : World) (h : IntsAt w a n (up l)) (hcap : n ≤ c) (h1 : 1 ≤ m) (hm : m ≤ 6) (hd : d ≤ 4) (hA : Anti m (up l)) (hl : ∀ t ∈ l, t < 64) :
    Calls Try.prog 13 #[.agg #[.int .i64 m, .slice a n c], .int .i64 d] w (RetInts2 w (pickL (fun e => isFace l (suppOf e)) (monoL (m - 1) [] d))) := by
  have hx : IntsAt (w.alloc (.cells #[.int .i64 m, .slice a n c] 33)) a n (up l) := h.keep (by repeat (first | exact Below.refl _ _ | assumption | refine Below.setCell ?_ (by first | omega | (simp; done) | (simp; omega)) _ | refine Below.alloc ?_ (by first | omega | (simp; done) | (simp; omega)) _ | apply Below.drew))
  have Hx := Lib.hid hx; have Hcap := Lib.hid hcap; have HA := Lib.hid hA; have Hl := Lib.hid hl
  have XA := Lib.hid (BoxF.new w (.int .i64 m) (.slice a n c) 33)
  obtain ⟨hM1, hM2⟩ := mono_sizes hm h1 (show d ≤ 5 by omega)
  have hmon := fun W => iMonos_any m d W h1 hm (by omega)
  obtain ⟨M, hM⟩ : ∃ M, M = monoL (m - 1) [] d := ⟨_, rfl⟩
  rw [← hM] at hM1 hM2 hmon ⊢
  have HM2 := Lib.hid hM2; have Hmon := Lib.hid hmon
  have hFF := faceSet_Fam l
  have Hbit : Hid (∀ s, s < 64 → (faceSet l).testBit s = isFace l s) := Lib.hid fun s hs => faceSet_bit hs
  have hfc := fun W hW => facesIn_any m a n c l W hW hl
  obtain ⟨F, hFe⟩ : ∃ F, F = faceSet l := ⟨_, rfl⟩
  rw [← hFe] at hFF Hbit hfc
  have Hfc := Lib.hid hfc
  have Hpk : Hid (pickL (fun e => isFace l (suppOf e)) M = pickL (fun e => F.testBit (suppOf e)) M) := Lib.hid (pickL_congr fun e he => by
    rw [Hbit.out _ (supp_lt64 (by rw [hM2 e he]; exact hm))])
  obtain ⟨P, hP⟩ : ∃ P : List Int → Bool, P = fun e => F.testBit (suppOf e) := ⟨_, rfl⟩
  rw [← hP] at Hpk
  have HP := Lib.hid hP
  have hd0 : ¬ ((d : Int) < 0) := by omega
  have hd4 : ¬ (4 < (d : Int)) := by omega
  clear hx h hcap hA hl hM hM2 hmon hfc hFe hP
  go_enter Try.func13, Try.ntmps13
  go_wp2_with fail
  refine (iIsComplex_any m a n c _ _ Hx.out Hcap.out true (by simp [HA.out])).mono ?_
  rintro e w1 ⟨rfl, hb⟩
  have HB1 : Hid (Below w.heap.size w w1) := Lib.hid (Below.trans (by repeat (first | exact Below.refl _ _ | assumption | refine Below.setCell ?_ (by first | omega | (simp; done) | (simp; omega)) _ | refine Below.alloc ?_ (by first | omega | (simp; done) | (simp; omega)) _ | apply Below.drew)) (hb.mono (by simp <;> omega)))
  have XA1 := Lib.hid (XA.out.keep hb (by simp)); have Hx1 := Lib.hid (Hx.out.keep hb)
  have hz1 : w.heap.size + 1 ≤ w1.heap.size := by have := hb.size; simp at this; omega
  clear hb
  obtain ⟨p0, p1, _, _, _⟩ := XA1.out
  go_wp2_with fail
  refine (Hfc.out _ Hx1.out).mono ?_
  rintro e w2 ⟨rfl, hb⟩
  have HB2 := Lib.hid (HB1.out.trans (hb.mono HB1.out.size))
  obtain ⟨q0, q1, _, _, _⟩ := XA1.out.keep hb (by omega)
  have hz2 : w.heap.size + 1 ≤ w2.heap.size := by have := hb.size; omega
  clear hb p0 p1
  go_wp2_with fail
  refine (Hmon.out _).mono ?_
  rintro e w3 ⟨adA, nA, cA, rfl, hown, hb⟩
  have HB3 := Lib.hid (HB2.out.trans (hb.mono HB2.out.size))
  obtain ⟨f, hO⟩ := hown
  have HO := Lib.hid hO
  have hlM := hO.len
  have HlM := Lib.hid hlM
  have hz3 : w2.heap.size ≤ w3.heap.size := hb.size
  have hnA : nA ≤ 8000 := by omega
  clear hb hO hlM q0 q1
  go_wp2_with fail
  go_loopw [6, 8, 27] (fun o _ i wr => ∃ I : Nat, I ≤ nA ∧ i = .int .i64 I ∧ Below w3.heap.size w3 wr ∧ ∃ ad k d, o = .slice ad k d ∧ k ≤ I ∧ Row 22 wr w3.heap.size ad k d ((pickI P M I).map fun i => (f i).val)) (fun _ _ i _ => nA - (intOf i).toNat)
  case atStart => exact ⟨0, Nat.zero_le _, rfl, Below.refl _ _, none, 0, 0, rfl, Nat.le_refl _, Row.nil _ _ _⟩
  case round =>
    obtain ⟨I, hI, rfl, hbr, ad, k, dd, rfl, hk, hrow⟩ := hrel
    have HBr := Lib.hid hbr; have HR := Lib.hid hrow
    have HOr := Lib.hid (HO.out.pres (w' := wr) fun k _ h2 _ => hbr.block k h2)
    have hzr : w3.heap.size ≤ wr.heap.size := hbr.size
    clear hbr hrow
    by_cases hlt : I < nA
    · obtain ⟨gA, hga, hcg⟩ := HOr.out.cell hlt
      subst hga
      have hrd := (HOr.out.own I hlt).reads
      have hmem : nthL M I ∈ M := by rw [nthL_at (by rw [HlM.out]; exact hlt)]; exact List.getElem_mem _
      have hlen := HM2.out _ hmem
      have hy := pickI_yes (P := P) (L := M) (k := I)
      have hn := pickI_no (P := P) (L := M) (k := I)
      obtain ⟨⟨a1, n1, c1⟩, hfe⟩ : ∃ x, x = f I := ⟨_, rfl⟩
      rw [← hfe] at hcg hrd
      simp only [Sl.val] at hcg hrd
      have hval : (f I).val = .slice a1 n1 c1 := by rw [← hfe]; rfl
      have hn1 : n1 ≤ 6 := by have := hrd.len; omega
      obtain ⟨E, hE⟩ : ∃ E, E = nthL M I := ⟨_, rfl⟩
      rw [← hE] at hrd hlen hy hn
      have hs64 := supp_lt64 (e := E) (by omega)
      obtain ⟨q, hq⟩ : ∃ q, q = F.testBit (suppOf E) := ⟨_, rfl⟩
      have hPq : P E = q := by rw [HP.out, hq]
      have HX : Hid (∀ W, Calls Try.prog 65 #[.int .u64 F, .int .i64 (suppOf E)] W fun e w' => e = .returned (.bool q) ∧ W = w') := Lib.hid (fun W => by rw [hq]; exact hasSet_any F _ W hFF hs64)
      rw [hPq] at hy hn
      have Hy := Lib.hid hy; have Hn := Lib.hid hn; have Hrd := Lib.hid hrd; have Hval := Lib.hid hval
      have hI0 : (0 : Int) ≤ I := by omega
      have hIn : (I : Int) < nA := by omega
      clear hrd hmem hlen hy hn hfe hval hE hs64 hq hPq
      cases q
      · go_wp2_with (first | (go_at_call 66; (with_reducible refine (iUsed_any a1 n1 c1 E _ Hrd.out hn1).mono ?_); rintro e w' ⟨rfl, rfl⟩) | (go_at_call 65; (with_reducible refine (HX.out _).mono ?_); rintro e w' ⟨rfl, rfl⟩))
        go_roundw
        case rel => exact ⟨I + 1, by omega, by go_num, HBr.out, ad, k, dd, rfl, by omega, by rw [Hn.out (by simp)]; exact HR.out⟩
        case measure => simp [intOf]; omega
      · go_wp2_with (first
          | (go_at_call 66; (with_reducible refine (iUsed_any a1 n1 c1 E _ Hrd.out hn1).mono ?_); rintro e w' ⟨rfl, rfl⟩)
          | (go_at_call 65; (with_reducible refine (HX.out _).mono ?_); rintro e w' ⟨rfl, rfl⟩)
          | (at_builtin; refine list_apl rfl _ _ rfl w3.heap.size _ _ _ _ _ rfl HR.out rfl rfl (by omega) hzr ?_; intro ad5 d5 w5 hrow5 hg5 hl5; have HR5 := Lib.hid hrow5; have HB5 : Hid (Below w3.heap.size w3 w5) := Lib.hid ((HBr.out.alloc hzr _).grown hg5 (by simp; omega) (fun k hk => (HR.out.lt k hk).1)); clear hrow5 hg5 hl5))
        go_roundw
        case rel => exact ⟨I + 1, by omega, by go_num, HB5.out, ad5, k + 1, d5, rfl, by omega, by rw [Hy.out (by simp), List.map_append]; simp only [List.map_cons, List.map_nil]; rw [Hval.out]; exact HR5.out⟩
        case measure => simp [intOf]; omega
    · obtain rfl : I = nA := by omega
      go_wp2_with fail
      go_ret
      refine ⟨ad, k, dd, rfl, ?_, HB3.out.trans (HBr.out.mono (by omega))⟩
      have hc := HOr.out.choose (pickI P M I) (fun i hi => pickI_lt i hi) (pickI_nodup P M I) (HR.out.mono hz3) (fun i hi b e hb he => by
        have h1 := HOr.out.his i hi b hb
        have h2 := (HR.out.lt e.block (by rw [he]; rfl)).1
        omega) hzr (fun e he => (HR.out.lt e.block (by rw [he]; rfl)).2)
      obtain ⟨f9, h9⟩ := hc
      rw [Hpk.out]
      unfold pickL
      rw [HlM.out]
      exact ⟨f9, h9.mono (by omega)⟩
end Go.Proofs.Ytpoolkmcbeghjaa

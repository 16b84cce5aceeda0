/- Contracts of the program's Choose and of LeftCount, the program's and the reference's. -/
import Derived.Test.YtpoolkmcbeghjaaCounts2
namespace Go.Proofs.Ytpoolkmcbeghjaa
set_option maxRecDepth 20000
open Go.RowKit
set_option linter.unusedSimpArgs false
set_option linter.unusedVariables false

/-- n choose k, 0 beyond -/
def chz (n k : Nat) : Nat := if k ≤ n then ch n k else 0
theorem ch_sym : ∀ n, n < 31 → ∀ k, k ≤ n → ch n (n - k) = ch n k := by decide +kernel
theorem chz_bd {n k : Nat} (hn : n < 31) (hk : k < 31) : chz n k ≤ 5000000000 := by
  unfold chz; split
  · exact ch_bd1 n hn k (by omega)
  · omega
/-- the sum so far -/
def lsum (f : List Nat) (n : Nat) : Nat → Nat
  | 0 => 0
  | i + 1 => lsum f n i + nthN f (i + 1) * chz n i
theorem lsum_bd {f : List Nat} {n : Nat} (hf : ∀ x ∈ f, x ≤ 64) (hn : n < 31) : ∀ i, i < f.length → i < 31 → lsum f n i ≤ i * 320000000000 := by
  intro i
  induction i with
  | zero => intro _ _; unfold lsum; omega
  | succ i ih =>
    intro h1 h2
    have h3 := ih (by omega) (by omega)
    have h4 : nthN f (i + 1) ≤ 64 := hf _ (nthN_mem h1)
    have h5 := chz_bd (n := n) (k := i) hn (by omega)
    have h6 : nthN f (i + 1) * chz n i ≤ 64 * 5000000000 := Nat.mul_le_mul h4 h5
    unfold lsum
    omega

set_option maxHeartbeats 400000 in
theorem chooseAny_yes (n k : Nat) (w : World) (hn : n ≤ 30) (hk : k ≤ n) :
    Calls Try.prog 103 #[.int .i64 n, .int .i64 k] w fun e w' => e = .returned (.int .i64 (ch n k)) ∧ w = w' := by
  have hk0 : ¬ (k : Int) < 0 := by omega
  have hkn : ¬ (n : Int) < k := by omega
  go_enter Try.func103, Try.ntmps103
  go_wp2_with fail
  go_loop [5, 6] (fun r i => ∃ I R : Nat, I ≤ k ∧ i = .int .i64 I ∧ r = .int .i64 R ∧ Hid (R = ch n I)) (fun _ i => k - (intOf i).toNat)
  case atStart => exact ⟨0, 1, Nat.zero_le _, rfl, rfl, Lib.hid rfl⟩
  case round =>
    obtain ⟨I, R, hI, rfl, rfl, hR⟩ := hrel
    by_cases hlt : I < k
    · obtain ⟨Y, hY⟩ : ∃ Y : Nat, Y = R * (n - I) := ⟨_, rfl⟩
      have hYb : Y ≤ 5000000000 := by rw [hY, hR.out]; exact ch_bd n (by omega) I (by omega)
      have hw : IntKind.i64.wrap ((R : Int) * ((n : Int) - (I : Int))) = (Y : Int) := mul_i64 rfl (show (n : Int) - (I : Int) = ((n - I : Nat) : Int) by omega) hY.symm (by omega)
      have HY := Lib.hid (show ((Y : Int) / ((I : Int) + 1)) = ((ch n (I + 1) : Nat) : Int) by
        have e : ch n (I + 1) = Y / (I + 1) := by rw [hY, hR.out]; rfl
        rw [e, Int.natCast_ediv]; rfl)
      clear hY
      go_wp2
      go_round
      case rel => exact ⟨I + 1, ch n (I + 1), by omega, by go_num, by rw [HY.out, IntWalk.wrap64_in _ (by have := ch_bd1 n (by omega) (I + 1) (by omega); omega)], Lib.hid rfl⟩
      case measure => simp [intOf]; omega
    · obtain rfl : I = k := by omega
      go_wp2
      go_ret
      exact ⟨ret_int (by rw [hR.out]), rfl⟩
theorem iChoose_any (n k : Nat) (w : World) (hn : n ≤ 30) (hk : k ≤ 30) :
    Calls Try.prog 68 #[.int .i64 n, .int .i64 k] w fun e w' => e = .returned (.int .i64 (chz n k)) ∧ w = w' := by
  have h1 : ¬ (n : Int) < 0 := by omega
  have h2 : ¬ (60 : Int) < n := by omega
  have h3 : ¬ (k : Int) < 0 := by omega
  by_cases hkn : k ≤ n
  · have h4 : ¬ (n : Int) < k := by omega
    have he : chz n k = ch n k := by unfold chz; rw [if_pos hkn]
    rw [he]
    obtain ⟨m, hm⟩ : ∃ m, m = n - k := ⟨_, rfl⟩
    have hsub : (n : Int) - k = (m : Int) := by omega
    have hsym : ch n m = ch n k := by rw [hm]; exact ch_sym n (by omega) k hkn
    have hmn : m ≤ n := by omega
    have Hsym := Lib.hid hsym
    clear hm hsym he
    by_cases hbig : m < k
    · have h5 : (m : Int) < k := by omega
      go_enter Try.func68, Try.ntmps68
      go_wp2_with (go_at_call 103; (with_reducible refine (chooseAny_yes n m _ hn hmn).mono ?_); rintro e w' ⟨rfl, rfl⟩)
      go_ret
      exact ⟨ret_int (by rw [Hsym.out]), rfl⟩
    · have h5 : ¬ (m : Int) < k := by omega
      go_enter Try.func68, Try.ntmps68
      go_wp2_with (go_at_call 103; (with_reducible refine (chooseAny_yes n k _ hn hkn).mono ?_); rintro e w' ⟨rfl, rfl⟩)
      go_ret
      exact ⟨rfl, rfl⟩
  · have h4 : (n : Int) < k := by omega
    have he : chz n k = 0 := by unfold chz; rw [if_neg hkn]
    rw [he]
    clear he
    go_enter Try.func68, Try.ntmps68
    go_wp2_with fail
    go_ret
    exact ⟨rfl, rfl⟩
theorem sChoose_any (n k : Nat) (w : World) (hn : n ≤ 30) (hk : k ≤ 30) :
    Calls Try.prog 75 #[.int .i64 n, .int .i64 k] w fun e w' => e = .returned (.int .i64 (chz n k)) ∧ w = w' := by
  unfold chz
  by_cases hkn : k ≤ n
  · rw [if_pos hkn]; exact sChoose_yes n k w hn hkn
  · rw [if_neg hkn]; exact sChoose_no n k w (by omega)

/-- what LeftCount asks -/
def LcP (p : Int) (xs : List Int) (d : Int) : Prop := Anti p xs ∧ 0 ≤ d ∧ d ≤ 20
theorem iLeft_no (p : Int) (a : Option Addr) (n c : Nat) (xs : List Int) (d : Int) (w : World) (h : IntsAt w a n xs) (hcap : n ≤ c) (hno : ¬ LcP p xs d) :
    Calls Try.prog 19 #[.agg #[.int .i64 p, .slice a n c], .int .i64 d] w fun e w' => e = .returned (.int .i64 (-1)) ∧ Below w.heap.size w w' := by
  have hx : IntsAt (w.alloc (.cells #[.int .i64 p, .slice a n c] 33)) a n xs := h.keep (by repeat (first | exact Below.refl _ _ | assumption | refine Below.setCell ?_ (by first | omega | (simp; done) | (simp; omega)) _ | refine Below.alloc ?_ (by first | omega | (simp; done) | (simp; omega)) _ | apply Below.drew))
  have Hx := Lib.hid hx; have Hcap := Lib.hid hcap; clear hx h hcap
  by_cases hA : Anti p xs
  · have HA := Lib.hid hA
    by_cases h1 : d < 0
    · clear hA hno
      go_enter Try.func19, Try.ntmps19
      go_wp2_with fail
      refine (iIsComplex_any p a n c xs _ Hx.out Hcap.out true (by simp [HA.out])).mono ?_
      rintro e w1 ⟨rfl, hb⟩
      have HB : Hid (Below w.heap.size w w1) := Lib.hid (Below.trans (by repeat (first | exact Below.refl _ _ | assumption | refine Below.setCell ?_ (by first | omega | (simp; done) | (simp; omega)) _ | refine Below.alloc ?_ (by first | omega | (simp; done) | (simp; omega)) _ | apply Below.drew)) (hb.mono (by simp <;> omega)))
      clear hb
      go_wp2_with fail
      go_ret
      exact ⟨rfl, HB.out⟩
    · have h2 : 20 < d := by
        by_cases h2 : 20 < d
        · exact h2
        · exact absurd ⟨hA, by omega, by omega⟩ hno
      clear hA hno
      go_enter Try.func19, Try.ntmps19
      go_wp2_with fail
      refine (iIsComplex_any p a n c xs _ Hx.out Hcap.out true (by simp [HA.out])).mono ?_
      rintro e w1 ⟨rfl, hb⟩
      have HB : Hid (Below w.heap.size w w1) := Lib.hid (Below.trans (by repeat (first | exact Below.refl _ _ | assumption | refine Below.setCell ?_ (by first | omega | (simp; done) | (simp; omega)) _ | refine Below.alloc ?_ (by first | omega | (simp; done) | (simp; omega)) _ | apply Below.drew)) (hb.mono (by simp <;> omega)))
      clear hb
      go_wp2_with fail
      go_ret
      exact ⟨rfl, HB.out⟩
  · have HA := Lib.hid hA; clear hA hno
    go_enter Try.func19, Try.ntmps19
    go_wp2_with fail
    refine (iIsComplex_any p a n c xs _ Hx.out Hcap.out false (by simp [HA.out])).mono ?_
    rintro e w1 ⟨rfl, hb⟩
    have HB : Hid (Below w.heap.size w w1) := Lib.hid (Below.trans (by repeat (first | exact Below.refl _ _ | assumption | refine Below.setCell ?_ (by first | omega | (simp; done) | (simp; omega)) _ | refine Below.alloc ?_ (by first | omega | (simp; done) | (simp; omega)) _ | apply Below.drew)) (hb.mono (by simp <;> omega)))
    clear hb
    go_wp2_with fail
    go_ret
    exact ⟨rfl, HB.out⟩
theorem sLeft_no (p : Int) (a : Option Addr) (n c : Nat) (xs : List Int) (d : Int) (w : World) (h : IntsAt w a n xs) (hno : ¬ LcP p xs d) :
    Calls Try.prog 20 #[.agg #[.int .i64 p, .slice a n c], .int .i64 d] w fun e w' => e = .returned (.int .i64 (-1)) ∧ Below w.heap.size w w' := by
  have hx : IntsAt (w.alloc (.cells #[.int .i64 p, .slice a n c] 33)) a n xs := h.keep (by repeat (first | exact Below.refl _ _ | assumption | refine Below.setCell ?_ (by first | omega | (simp; done) | (simp; omega)) _ | refine Below.alloc ?_ (by first | omega | (simp; done) | (simp; omega)) _ | apply Below.drew))
  have Hx := Lib.hid hx; clear hx h
  by_cases hA : Anti p xs
  · have HA := Lib.hid hA
    have h1 : ¬ (0 ≤ d ∧ d ≤ 20) := fun h => hno ⟨hA, h.1, h.2⟩
    have H1 := Lib.hid h1
    clear hA hno h1
    go_enter Try.func20, Try.ntmps20
    go_wp2_with fail
    refine (sIsComplex_any p a n c xs _ Hx.out true (by simp [HA.out])).mono ?_
    rintro e w1 ⟨rfl, hb⟩
    have HB : Hid (Below w.heap.size w w1) := Lib.hid (Below.trans (by repeat (first | exact Below.refl _ _ | assumption | refine Below.setCell ?_ (by first | omega | (simp; done) | (simp; omega)) _ | refine Below.alloc ?_ (by first | omega | (simp; done) | (simp; omega)) _ | apply Below.drew)) (hb.mono (by simp <;> omega)))
    clear hb
    go_wp2_with (go_at_call 70; (with_reducible refine (l1In_no d 0 20 _ H1.out).mono ?_); rintro e w' ⟨rfl, rfl⟩)
    go_ret
    exact ⟨rfl, HB.out⟩
  · have HA := Lib.hid hA; clear hA hno
    go_enter Try.func20, Try.ntmps20
    go_wp2_with fail
    refine (sIsComplex_any p a n c xs _ Hx.out false (by simp [HA.out])).mono ?_
    rintro e w1 ⟨rfl, hb⟩
    have HB : Hid (Below w.heap.size w w1) := Lib.hid (Below.trans (by repeat (first | exact Below.refl _ _ | assumption | refine Below.setCell ?_ (by first | omega | (simp; done) | (simp; omega)) _ | refine Below.alloc ?_ (by first | omega | (simp; done) | (simp; omega)) _ | apply Below.drew)) (hb.mono (by simp <;> omega)))
    clear hb
    go_wp2_with fail
    go_ret
    exact ⟨rfl, HB.out⟩
theorem l1Bit_any (b : Bool) (w : World) : Calls Try.prog 74 #[.bool b] w fun e w' => e = .returned (.int .i64 (if b then 1 else 0)) ∧ w = w' := by
  cases b
  · go_enter Try.func74, Try.ntmps74
    go_wp2_with fail
    go_ret
    exact ⟨rfl, rfl⟩
  · go_enter Try.func74, Try.ntmps74
    go_wp2_with fail
    go_ret
    exact ⟨rfl, rfl⟩
/-- what LeftCount counts -/
def leftN (f : List Nat) (d : Nat) : Nat := if d = 0 then (if 0 < f.length then 1 else 0) else lsum f (d - 1) (f.length - 1)

set_option maxRecDepth 100000 in
set_option maxHeartbeats 2000000 in
theorem iLeft_yes (p : Int) (a : Option Addr) (n c : Nat) (l : List Nat) (d : Nat) (w : World) (h : IntsAt w a n (up l)) (hcap : n ≤ c) (hA : Anti p (up l)) (hl : ∀ t ∈ l, t < 64) (hd : d ≤ 20) :
    Calls Try.prog 19 #[.agg #[.int .i64 p, .slice a n c], .int .i64 d] w fun e w' => e = .returned (.int .i64 (leftN (cntOf (isFace l)) d : Nat)) ∧ Below w.heap.size w w' := by
  have hx : IntsAt (w.alloc (.cells #[.int .i64 p, .slice a n c] 33)) a n (up l) := h.keep (by repeat (first | exact Below.refl _ _ | assumption | refine Below.setCell ?_ (by first | omega | (simp; done) | (simp; omega)) _ | refine Below.alloc ?_ (by first | omega | (simp; done) | (simp; omega)) _ | apply Below.drew))
  have Hx := Lib.hid hx; have Hcap := Lib.hid hcap; have HA := Lib.hid hA; have Hl := Lib.hid hl
  clear hx h hcap hA hl
  have hd0 : ¬ (d : Int) < 0 := by omega
  have hd20 : ¬ (20 : Int) < d := by omega
  have hf7 := cnt_len (isFace l)
  have hf64 := cnt_le (isFace l)
  obtain ⟨f, hfe⟩ : ∃ f, f = cntOf (isFace l) := ⟨_, rfl⟩
  rw [← hfe] at hf7 hf64 ⊢
  have Hf64 := Lib.hid hf64; have Hfe := Lib.hid hfe
  obtain ⟨V, hV⟩ : ∃ V, V = leftN f d := ⟨_, rfl⟩
  rw [← hV]
  have HV := Lib.hid hV
  clear hf64 hfe hV
  go_enter Try.func19, Try.ntmps19
  go_wp2_with fail
  refine (iIsComplex_any p a n c _ _ Hx.out Hcap.out true (by simp [HA.out])).mono ?_
  rintro e w1 ⟨rfl, hb⟩
  have HB : Hid (Below w.heap.size w w1) := Lib.hid (Below.trans (by repeat (first | exact Below.refl _ _ | assumption | refine Below.setCell ?_ (by first | omega | (simp; done) | (simp; omega)) _ | refine Below.alloc ?_ (by first | omega | (simp; done) | (simp; omega)) _ | apply Below.drew)) (hb.mono (by simp <;> omega)))
  obtain ⟨hc, hf⟩ := bcell hb
  have hz : w.heap.size + 1 ≤ w1.heap.size := by have := hb.size; simp at this; omega
  have Hx1 := Lib.hid (Hx.out.keep hb)
  clear hb
  go_wp2_with fail
  refine (iCounts_yes p a n c l _ Hx1.out Hcap.out HA.out Hl.out).mono ?_
  rw [← Hfe.out]
  rintro e w2 ⟨ad, k, c2, rfl, hown, hb⟩
  have HB2 := Lib.hid (HB.out.trans (hb.mono HB.out.size))
  have HR := Lib.hid hown.reads
  have hfl : f.length = k := by have := hown.len; rwa [up_len] at this
  have Hfl := Lib.hid hfl
  rw [hfl] at hf7
  clear hb hown hfl
  by_cases h0 : d = 0
  · subst h0
    by_cases hk : 0 < k
    · have hmin : min (k : Int) 1 = 1 := by omega
      have hk1 : ¬ (k : Int) < 1 := by omega
      have Hv : Hid (V = 1) := Lib.hid (by rw [HV.out]; unfold leftN; rw [if_pos rfl, if_pos (by rw [Hfl.out]; exact hk)])
      go_wp2_with fail
      all_goals go_ret
      all_goals exact ⟨ret_int (by have := Hv.out; omega), HB2.out⟩
    · obtain rfl : k = 0 := by omega
      have Hv : Hid (V = 0) := Lib.hid (by rw [HV.out]; unfold leftN; rw [if_pos rfl, if_neg (by rw [Hfl.out]; omega)])
      go_wp2_with fail
      all_goals go_ret
      all_goals exact ⟨ret_int (by have := Hv.out; omega), HB2.out⟩
  · have hd1 : ((d : Int) == 0) = false := by simp; omega
    obtain ⟨m, rfl⟩ : ∃ m, d = m + 1 := ⟨d - 1, by omega⟩
    have hm19 : m ≤ 19 := by omega
    have hmm : ((m + 1 : Nat) : Int) - 1 = (m : Int) := by omega
    have hmm2 : (m : Int) + 1 - 1 = (m : Int) := by omega
    have Hv : Hid (V = lsum f m (k - 1)) := Lib.hid (by rw [HV.out]; unfold leftN; rw [if_neg (by omega), Hfl.out]; rfl)
    go_wp2_with fail
    go_loopw [6, 7] (fun s i wr => ∃ I : Nat, I ≤ k - 1 ∧ i = .int .i64 ((I : Int) + 1) ∧ s = .int .i64 (lsum f m I : Nat) ∧ Below w2.heap.size w2 wr) (fun _ i _ => k + 1 - (intOf i).toNat)
    case atStart => exact ⟨0, by omega, by first | rfl | go_num, rfl, Below.refl _ _⟩
    case round =>
      obtain ⟨I, hI, rfl, rfl, hbr⟩ := hrel
      have HBr := Lib.hid hbr
      have HRr := Lib.hid (HR.out.keep hbr)
      clear hbr
      by_cases hlt : I + 1 < k
      · have hlt' : (I : Int) + 1 < k := by omega
        obtain ⟨b1, o1, rfl, hcc⟩ := HRr.out.cells (by omega)
        have hck := hcc (I + 1) hlt
        rw [nth_up] at hck
        have hfI := Hf64.out _ (nthN_mem (xs := f) (k := I + 1) (by rw [Hfl.out]; exact hlt))
        have hls := lsum_bd (f := f) (n := m) Hf64.out (by omega) I (by rw [Hfl.out]; omega) (by omega)
        have hls1 : lsum f m (I + 1) = lsum f m I + nthN f (I + 1) * chz m I := rfl
        have hcb := chz_bd (n := m) (k := I) (by omega) (by omega)
        have Hls1 := Lib.hid hls1
        obtain ⟨s0, hs0⟩ : ∃ s0, s0 = lsum f m I := ⟨_, rfl⟩
        obtain ⟨x, hx⟩ : ∃ x, x = nthN f (I + 1) := ⟨_, rfl⟩
        obtain ⟨y, hy⟩ : ∃ y, y = chz m I := ⟨_, rfl⟩
        rw [← hs0] at hls ⊢
        rw [← hx] at hck hfI
        rw [← hy] at hcb
        have Hs0 := Lib.hid hs0; have Hx' := Lib.hid hx; have Hy' := Lib.hid hy
        obtain ⟨z, hz2⟩ : ∃ z, z = x * y := ⟨_, rfl⟩
        have hzb : z ≤ 64 * 5000000000 := by rw [hz2]; exact Nat.mul_le_mul hfI hcb
        have hmul : IntKind.i64.wrap ((x : Int) * (y : Int)) = (z : Int) := mul_i64 rfl rfl hz2.symm (by omega)
        have hmul2 : (x : Int) * (y : Int) = (z : Int) := by rw [hz2]; norm_cast
        have Hz2 := Lib.hid hz2
        have hIm : (I : Int) + 1 - 1 = (I : Int) := by omega
        have hi0 : (0 : Int) ≤ (I : Int) + 1 := by omega
        have hI6 : I ≤ 6 := by omega
        have hls2 : s0 ≤ 1920000000000 := by omega
        clear hcc hls1 hs0 hx hy hz2 hls
        go_wp2_with fail
        go_quiet (first | (go_at_call 68; exact ql ((iChoose_any m I _ (by omega) (by omega)).mono fun e w' ⟨h1, h2⟩ => ⟨by rw [h1, ← Hy'.out], h2⟩)))
        go_wp2_with fail
        go_roundw
        case rel => exact ⟨I + 1, by omega, by go_num, by rw [Hls1.out, ← Hs0.out, ← Hx'.out, ← Hy'.out, ← Hz2.out]; go_num, below_drewN HBr.out _⟩
        case measure => simp [intOf]; omega
      · have hIk : I = k - 1 := by omega
        subst hIk
        have hlt' : ¬ ((k - 1 : Nat) : Int) + 1 < k := by omega
        go_wp2_with fail
        go_ret
        exact ⟨ret_int (by rw [Hv.out]), HB2.out.trans (HBr.out.mono HB2.out.size)⟩
set_option maxRecDepth 100000 in
set_option maxHeartbeats 2000000 in
theorem sLeft_yes (p : Int) (a : Option Addr) (n c : Nat) (l : List Nat) (d : Nat) (w : World) (h : IntsAt w a n (up l)) (hcap : n ≤ c) (hA : Anti p (up l)) (hl : ∀ t ∈ l, t < 64) (hd : d ≤ 20) :
    Calls Try.prog 20 #[.agg #[.int .i64 p, .slice a n c], .int .i64 d] w fun e w' => e = .returned (.int .i64 (leftN (cntOf (isFace l)) d : Nat)) ∧ Below w.heap.size w w' := by
  have hx : IntsAt (w.alloc (.cells #[.int .i64 p, .slice a n c] 33)) a n (up l) := h.keep (by repeat (first | exact Below.refl _ _ | assumption | refine Below.setCell ?_ (by first | omega | (simp; done) | (simp; omega)) _ | refine Below.alloc ?_ (by first | omega | (simp; done) | (simp; omega)) _ | apply Below.drew))
  have Hx := Lib.hid hx; have Hcap := Lib.hid hcap; have HA := Lib.hid hA; have Hl := Lib.hid hl
  clear hx h hcap hA hl
  have hd0' : (0 : Int) ≤ d := by omega
  have hd20' : (d : Int) ≤ 20 := by omega
  have hf7 := cnt_len (isFace l)
  have hf64 := cnt_le (isFace l)
  obtain ⟨f, hfe⟩ : ∃ f, f = cntOf (isFace l) := ⟨_, rfl⟩
  rw [← hfe] at hf7 hf64 ⊢
  have Hf64 := Lib.hid hf64; have Hfe := Lib.hid hfe
  obtain ⟨V, hV⟩ : ∃ V, V = leftN f d := ⟨_, rfl⟩
  rw [← hV]
  have HV := Lib.hid hV
  clear hf64 hfe hV
  go_enter Try.func20, Try.ntmps20
  go_wp2_with fail
  refine (sIsComplex_any p a n c _ _ Hx.out true (by simp [HA.out])).mono ?_
  rintro e w1 ⟨rfl, hb⟩
  have HB : Hid (Below w.heap.size w w1) := Lib.hid (Below.trans (by repeat (first | exact Below.refl _ _ | assumption | refine Below.setCell ?_ (by first | omega | (simp; done) | (simp; omega)) _ | refine Below.alloc ?_ (by first | omega | (simp; done) | (simp; omega)) _ | apply Below.drew)) (hb.mono (by simp <;> omega)))
  obtain ⟨hc, hf⟩ := bcell hb
  have hz : w.heap.size + 1 ≤ w1.heap.size := by have := hb.size; simp at this; omega
  have Hx1 := Lib.hid (Hx.out.keep hb)
  clear hb
  go_wp2_with (go_at_call 70; (with_reducible refine (l1In_yes d 0 20 _ hd0' hd20').mono ?_); rintro e w' ⟨rfl, rfl⟩)
  refine (sCounts_yes p a n c l _ Hx1.out HA.out Hl.out).mono ?_
  rw [← Hfe.out]
  rintro e w2 ⟨ad, k, c2, rfl, hown, hb⟩
  have HB2 := Lib.hid (HB.out.trans (hb.mono HB.out.size))
  have HR := Lib.hid hown.reads
  have hfl : f.length = k := by have := hown.len; rwa [up_len] at this
  have Hfl := Lib.hid hfl
  rw [hfl] at hf7
  clear hb hown hfl
  by_cases h0 : d = 0
  · subst h0
    by_cases hk : 0 < k
    · have hk1 : (0 : Int) < k := by omega
      have Hv : Hid (V = 1) := Lib.hid (by rw [HV.out]; unfold leftN; rw [if_pos rfl, if_pos (by rw [Hfl.out]; exact hk)])
      go_wp2_with (go_at_call 74; refine (l1Bit_any _ _).mono ?_; rintro e we ⟨rfl, rfl⟩)
      all_goals go_ret
      all_goals exact ⟨ret_int (by have := Hv.out; first | omega | (simp; omega)), HB2.out⟩
    · obtain rfl : k = 0 := by omega
      have Hv : Hid (V = 0) := Lib.hid (by rw [HV.out]; unfold leftN; rw [if_pos rfl, if_neg (by rw [Hfl.out]; omega)])
      go_wp2_with (go_at_call 74; refine (l1Bit_any _ _).mono ?_; rintro e we ⟨rfl, rfl⟩)
      all_goals go_ret
      all_goals exact ⟨ret_int (by have := Hv.out; first | omega | (simp; omega)), HB2.out⟩
  · have hd1 : ((d : Int) == 0) = false := by simp; omega
    obtain ⟨m, rfl⟩ : ∃ m, d = m + 1 := ⟨d - 1, by omega⟩
    have hm19 : m ≤ 19 := by omega
    have hmm : ((m + 1 : Nat) : Int) - 1 = (m : Int) := by omega
    have hmm2 : (m : Int) + 1 - 1 = (m : Int) := by omega
    have Hv : Hid (V = lsum f m (k - 1)) := Lib.hid (by rw [HV.out]; unfold leftN; rw [if_neg (by omega), Hfl.out]; rfl)
    go_wp2_with fail
    go_loopw [6, 7] (fun s i wr => ∃ I : Nat, I ≤ k - 1 ∧ i = .int .i64 ((I : Int) + 1) ∧ s = .int .i64 (lsum f m I : Nat) ∧ Below w2.heap.size w2 wr) (fun _ i _ => k + 1 - (intOf i).toNat)
    case atStart => exact ⟨0, by omega, by first | rfl | go_num, rfl, Below.refl _ _⟩
    case round =>
      obtain ⟨I, hI, rfl, rfl, hbr⟩ := hrel
      have HBr := Lib.hid hbr
      have HRr := Lib.hid (HR.out.keep hbr)
      clear hbr
      by_cases hlt : I + 1 < k
      · have hlt' : (I : Int) + 1 < k := by omega
        obtain ⟨b1, o1, rfl, hcc⟩ := HRr.out.cells (by omega)
        have hck := hcc (I + 1) hlt
        rw [nth_up] at hck
        have hfI := Hf64.out _ (nthN_mem (xs := f) (k := I + 1) (by rw [Hfl.out]; exact hlt))
        have hls := lsum_bd (f := f) (n := m) Hf64.out (by omega) I (by rw [Hfl.out]; omega) (by omega)
        have hls1 : lsum f m (I + 1) = lsum f m I + nthN f (I + 1) * chz m I := rfl
        have hcb := chz_bd (n := m) (k := I) (by omega) (by omega)
        have Hls1 := Lib.hid hls1
        obtain ⟨s0, hs0⟩ : ∃ s0, s0 = lsum f m I := ⟨_, rfl⟩
        obtain ⟨x, hx⟩ : ∃ x, x = nthN f (I + 1) := ⟨_, rfl⟩
        obtain ⟨y, hy⟩ : ∃ y, y = chz m I := ⟨_, rfl⟩
        rw [← hs0] at hls ⊢
        rw [← hx] at hck hfI
        rw [← hy] at hcb
        have Hs0 := Lib.hid hs0; have Hx' := Lib.hid hx; have Hy' := Lib.hid hy
        obtain ⟨z, hz2⟩ : ∃ z, z = x * y := ⟨_, rfl⟩
        have hzb : z ≤ 64 * 5000000000 := by rw [hz2]; exact Nat.mul_le_mul hfI hcb
        have hmul : IntKind.i64.wrap ((x : Int) * (y : Int)) = (z : Int) := mul_i64 rfl rfl hz2.symm (by omega)
        have hmul2 : (x : Int) * (y : Int) = (z : Int) := by rw [hz2]; norm_cast
        have Hz2 := Lib.hid hz2
        have hIm : (I : Int) + 1 - 1 = (I : Int) := by omega
        have hi0 : (0 : Int) ≤ (I : Int) + 1 := by omega
        have hI6 : I ≤ 6 := by omega
        have hls2 : s0 ≤ 1920000000000 := by omega
        clear hcc hls1 hs0 hx hy hz2 hls
        go_wp2_with fail
        go_quiet (first | (go_at_call 75; exact ql ((sChoose_any m I _ (by omega) (by omega)).mono fun e w' ⟨h1, h2⟩ => ⟨by rw [h1, ← Hy'.out], h2⟩)))
        go_wp2_with fail
        go_roundw
        case rel => exact ⟨I + 1, by omega, by go_num, by rw [Hls1.out, ← Hs0.out, ← Hx'.out, ← Hy'.out, ← Hz2.out]; go_num, below_drewN HBr.out _⟩
        case measure => simp [intOf]; omega
      · have hIk : I = k - 1 := by omega
        subst hIk
        have hlt' : ¬ ((k - 1 : Nat) : Int) + 1 < k := by omega
        go_wp2_with fail
        go_ret
        exact ⟨ret_int (by rw [Hv.out]), HB2.out.trans (HBr.out.mono HB2.out.size)⟩
end Go.Proofs.Ytpoolkmcbeghjaa

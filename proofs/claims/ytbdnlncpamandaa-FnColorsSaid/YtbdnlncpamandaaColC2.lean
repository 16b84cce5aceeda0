/- Contract of the reference's ColorCounts. -/
import Derived.Test.YtbdnlncpamandaaColM
namespace Go.Proofs.Ytbdnlncpamandaa
set_option maxRecDepth 20000
open Go.RowKit
set_option linter.unusedSimpArgs false
set_option linter.unusedVariables false

theorem sColC_no (p : Int) (a : Option Addr) (n c : Nat) (xs : List Int) (a' : Option Addr) (n' c' : Nat) (cs : List Int) (w : World) (h : IntsAt w a n xs) (h' : IntsAt w a' n' cs) (hF : ∀ W, IntsAt W a n xs → IntsAt W a' n' cs → Calls Try.prog 22 #[.agg #[.int .i64 p, .slice a n c], .slice a' n' c'] W fun e w' => e = .returned (.bool false) ∧ Below W.heap.size W w') :
    Calls Try.prog 15 #[.agg #[.int .i64 p, .slice a n c], .slice a' n' c'] w (RetInts w []) := by
  have hx : IntsAt (w.alloc (.cells #[.int .i64 p, .slice a n c] 26)) a n xs := h.keep (by repeat (first | exact Below.refl _ _ | assumption | refine Below.setCell ?_ (by first | omega | (simp; done) | (simp; omega)) _ | refine Below.alloc ?_ (by first | omega | (simp; done) | (simp; omega)) _ | apply Below.drew))
  have hy : IntsAt (w.alloc (.cells #[.int .i64 p, .slice a n c] 26)) a' n' cs := h'.keep (by repeat (first | exact Below.refl _ _ | assumption | refine Below.setCell ?_ (by first | omega | (simp; done) | (simp; omega)) _ | refine Below.alloc ?_ (by first | omega | (simp; done) | (simp; omega)) _ | apply Below.drew))
  have Hx := Lib.hid hx; have Hy := Lib.hid hy; have HF := Lib.hid hF
  clear hx hy h h' hF
  go_enter Try.func15, Try.ntmps15
  go_wp2_with fail
  refine (HF.out _ Hx.out Hy.out).mono ?_
  rintro e w1 ⟨rfl, hb⟩
  have HB : Hid (Below w.heap.size w w1) := Lib.hid (Below.trans (by repeat (first | exact Below.refl _ _ | assumption | refine Below.setCell ?_ (by first | omega | (simp; done) | (simp; omega)) _ | refine Below.alloc ?_ (by first | omega | (simp; done) | (simp; omega)) _ | apply Below.drew)) (hb.mono (by simp <;> omega)))
  clear hb
  go_wp2_with fail
  go_ret
  exact ⟨_, 0, 0, rfl, Own.empty 3 _ _ HB.out.size, by have := HB.out.alloc HB.out.size (.cells #[] 3); exact this⟩
set_option maxRecDepth 100000 in
set_option maxHeartbeats 1000000 in
theorem sColC_yes (m : Nat) (a : Option Addr) (n c : Nat) (l : List Nat) (a' : Option Addr) (n' c' : Nat) (cs : List Int) (w : World) (h : IntsAt w a n (up l)) (h' : IntsAt w a' n' cs) (hm : m ≤ 6) (hA : Anti m (up l)) (hl : ∀ t ∈ l, t < 64) (hQ : ColsP m cs) (hF : ∀ W, IntsAt W a n (up l) → IntsAt W a' n' cs → Calls Try.prog 22 #[.agg #[.int .i64 m, .slice a n c], .slice a' n' c'] W fun e w' => e = .returned (.bool true) ∧ Below W.heap.size W w') :
    Calls Try.prog 15 #[.agg #[.int .i64 m, .slice a n c], .slice a' n' c'] w (RetInts w (up (colC l cs))) := by
  have hx : IntsAt (w.alloc (.cells #[.int .i64 m, .slice a n c] 26)) a n (up l) := h.keep (by repeat (first | exact Below.refl _ _ | assumption | refine Below.setCell ?_ (by first | omega | (simp; done) | (simp; omega)) _ | refine Below.alloc ?_ (by first | omega | (simp; done) | (simp; omega)) _ | apply Below.drew))
  have hy : IntsAt (w.alloc (.cells #[.int .i64 m, .slice a n c] 26)) a' n' cs := h'.keep (by repeat (first | exact Below.refl _ _ | assumption | refine Below.setCell ?_ (by first | omega | (simp; done) | (simp; omega)) _ | refine Below.alloc ?_ (by first | omega | (simp; done) | (simp; omega)) _ | apply Below.drew))
  have hlc := h'.len
  have hn6 : n' ≤ 6 := by have := hQ.1; omega
  have Hx := Lib.hid hx; have Hy := Lib.hid hy; have HF := Lib.hid hF; have HA := Lib.hid hA; have Hl := Lib.hid hl; have HQ := Lib.hid hQ
  have XA := Lib.hid (BoxF.new w (.int .i64 m) (.slice a n c) 26)
  obtain ⟨D, hD⟩ : ∃ D, D = ord (isFace l) := ⟨_, rfl⟩
  have HDn : Hid (D.length ≤ 64) := Lib.hid (by rw [hD]; exact ord_len _)
  have HD64 : Hid (∀ x ∈ D, x < 64) := Lib.hid (by rw [hD]; exact ord_lt)
  have HD := Lib.hid hD
  have HC : Hid (colC l cs = tly (rcOf cs) D) := Lib.hid (by rw [hD]; rfl)
  have Hg64 : Hid (∀ s, rcOf cs s < 64) := Lib.hid fun s => rcTo_lt hQ.2 s _ (Nat.le_refl _)
  have Hr64 : Hid (∀ s k, k ≤ n' → rcTo cs s k < 64) := Lib.hid fun s k hk => rcTo_lt hQ.2 s k (by omega)
  have Hlc := Lib.hid hlc
  clear hx hy h h' hF hA hl hQ hD hlc
  go_enter Try.func15, Try.ntmps15
  go_wp2_with fail
  refine (HF.out _ Hx.out Hy.out).mono ?_
  rintro e w1 ⟨rfl, hb⟩
  have HB : Hid (Below w.heap.size w w1) := Lib.hid (Below.trans (by repeat (first | exact Below.refl _ _ | assumption | refine Below.setCell ?_ (by first | omega | (simp; done) | (simp; omega)) _ | refine Below.alloc ?_ (by first | omega | (simp; done) | (simp; omega)) _ | apply Below.drew)) (hb.mono (by simp <;> omega)))
  have XA1 := Lib.hid (XA.out.keep hb (by simp)); have Hx1 := Lib.hid (Hx.out.keep hb); have Hy1 := Lib.hid (Hy.out.keep hb)
  have hz : w.heap.size + 1 ≤ w1.heap.size := by have := hb.size; simp at this; omega
  clear hb
  go_wp2_with (at_make; refine mk_ints rfl _ _ rfl _ rfl rfl 64 rfl (by omega) ?_; intro g w2 hown2 hb2; have HO2 := Lib.hid hown2; have HB2 := Lib.hid hb2; obtain ⟨p0, p1, _, _, _⟩ := XA1.out.keep hb2 (by omega); clear hown2 hb2)
  have Hx2 := Lib.hid (Hx1.out.keep HB2.out)
  have hgB := HO2.out.lt g rfl
  refine (sFacesOf_yes m a n c l _ Hx2.out HA.out Hl.out).mono ?_
  rw [← HD.out]
  rintro e w3 ⟨ad, k, d, rfl, hown, hb⟩
  have HO3 := Lib.hid (HO2.out.keep hb)
  have HB3 := Lib.hid (HB2.out.trans (hb.mono HB2.out.size))
  have hdl : D.length = k := by have := hown.len; rwa [up_len] at this
  have Hdl := Lib.hid hdl
  have HX := Lib.hid hown
  have hne : ad ≠ some ⟨g, 0, none⟩ := fun e => by subst e; have := hown.lt g rfl; omega
  have Hne := Lib.hid hne
  have hk64 : k ≤ 64 := by have := HDn.out; omega
  clear hb hown hne hdl p0 p1
  go_wp2_with fail
  go_loopw [7, 8, 9] (fun i _ _ wr => ∃ I : Nat, I ≤ k ∧ i = .int .i64 I ∧ Below w1.heap.size w1 wr ∧ Own 3 wr w1.heap.size (some ⟨g, 0, none⟩) 64 64 (up (tly (rcOf cs) (D.take I))) ∧ Own 3 wr w2.heap.size ad k d (up D)) (fun i _ _ _ => k - (intOf i).toNat)
  case atStart => exact ⟨0, Nat.zero_le _, rfl, HB3.out, by rw [List.take_zero, tly_nil]; exact HO3.out, HX.out⟩
  case round =>
    obtain ⟨wo, rfl⟩ : ∃ x : World, x = wr := ⟨_, rfl⟩
    obtain ⟨I, hI, rfl, hbr, hor, hxr⟩ := hrel
    have HBr := Lib.hid hbr; have HOr := Lib.hid hor; have HXr := Lib.hid hxr
    have Hyr := Lib.hid (Hy1.out.keep hbr)
    clear hbr hor hxr
    by_cases hlt : I < k
    · obtain ⟨b1, o1, had, hcc⟩ := HXr.out.reads.cells (by omega)
      subst had
      have hck := hcc I hlt
      rw [nth_up] at hck
      have hu64 := HD64.out _ (nthN_mem (xs := D) (k := I) (by rw [Hdl.out]; exact hlt))
      have htk := nthN_take D I (by rw [Hdl.out]; exact hlt)
      obtain ⟨u, hu⟩ : ∃ u, u = nthN D I := ⟨_, rfl⟩
      rw [← hu] at hck hu64 htk
      have hg := Hg64.out u
      have hadd := tly_add (g := rcOf cs) (L := D.take I) (u := u) hg
      rw [← htk] at hadd
      have hgt : rcOf cs u = rcTo cs u n' := by unfold rcOf; rw [Hlc.out]
      obtain ⟨t, ht⟩ : ∃ t, t = rcOf cs u := ⟨_, rfl⟩
      rw [← ht] at hg hadd hgt
      have Hgt := Lib.hid hgt
      have hle := tly_le (g := rcOf cs) (L := D.take I) (by rw [List.length_take]; omega) t
      have hcg := HOr.out.reads.cellAt t (by omega)
      rw [nth_up, Nat.zero_add] at hcg
      have hfro : wo.frozen? ⟨g, t, none⟩ = false := by
        obtain ⟨g', hg', _, _, _, hf⟩ := Row.cells HOr.out (by omega)
        cases hg'; exact hf t
      obtain ⟨v, hv⟩ : ∃ v, v = nthN (tly (rcOf cs) (D.take I)) t := ⟨_, rfl⟩
      rw [← hv] at hcg hle hadd
      have Hadd := Lib.hid hadd
      have ht0 : (0 : Int) ≤ t := by omega
      have ht64 : (t : Int) < 64 := by omega
      have hI0 : (0 : Int) ≤ I := by omega
      have hIn : (I : Int) < k := by omega
      have hwadd : IntKind.i64.wrap ((v : Int) + 1) = (v : Int) + 1 := by rw [IntKind.wrap_i64]; omega
      have HO5 : Hid (Own 3 (wo.setCell ⟨g, t, none⟩ (.int .i64 ((v : Int) + 1))) w1.heap.size (some ⟨g, 0, none⟩) 64 64 (up (tly (rcOf cs) (D.take (I + 1))))) := Lib.hid (by
        have := HOr.out.set t (((v + 1 : Nat)) : Int)
        rw [up_set, Hadd.out] at this
        exact this)
      have HX5 := Lib.hid (HXr.out.setOther (g := g) (i := t) (.int .i64 ((v : Int) + 1)) Hne.out)
      have HB5 := Lib.hid (HBr.out.setCell (p := ⟨g, t, none⟩) (by simp; omega) (.int .i64 ((v : Int) + 1)))
      have Hcg := Lib.hid hcg; have Hfro := Lib.hid hfro
      clear hcc hu htk hadd ht hv hgt hcg hfro
      go_wp2_with fail
      go_loopw [8, 9] (fun r j wr => ∃ J R : Nat, J ≤ n' ∧ j = .int .i64 J ∧ r = .int .i64 R ∧ R < 64 ∧ Hid (R = rcTo cs u J) ∧ wr = wo) (fun _ j _ => n' - (intOf j).toNat)
      case atStart => exact ⟨0, 0, Nat.zero_le _, rfl, rfl, by omega, Lib.hid rfl, rfl⟩
      case round =>
        obtain ⟨J, R, hJ, rfl, rfl, hR, hRe, rfl⟩ := hrel
        by_cases hjt : J < n'
        · obtain ⟨b2, o2, rfl, hc⟩ := Hyr.out.cells (by omega)
          have hcj := hc J hjt
          obtain ⟨X, hX, hX5⟩ := nat_col (HQ.out.2 J (by rw [Hlc.out]; exact hjt))
          rw [hX] at hcj
          have HX9 : Hid ((nth cs J).toNat = X) := Lib.hid (by omega)
          have hJ0 : (0 : Int) ≤ J := by omega
          have hJn : (J : Int) < n' := by omega
          have hwJ : IntKind.u64.wrap (J : Int) = (J : Int) := by rw [IntKind.wrap_u64]; omega
          have hmJ : min J 64 = J := by omega
          have hwX : IntKind.u64.wrap (X : Int) = (X : Int) := by rw [IntKind.wrap_u64]; omega
          have hmX : min X 64 = X := by omega
          have hX6 : X < 6 := by omega
          have hX8 : X < 8 := by omega
          clear hc hX
          cases hbit : u.testBit J
          · have hbv := bitv_no hu64 hbit
            have Hno := Lib.hid (rcTo_no (cs := cs) hbit)
            clear hbit
            go_wp2_with fail
            go_roundw
            case rel => exact ⟨J + 1, R, by omega, by go_num, rfl, hR, Lib.hid (by rw [Hno.out]; exact hRe.out), by first | rfl | trivial⟩
            case measure => simp [intOf]; omega
          · have hbv := bitv_yes hu64 hbit
            have Hyes := Lib.hid (rcTo_yes (cs := cs) hbit)
            have hor := w_or6bit R X hR hX6
            have hlt64 := or_lt64 hR (bit_lt64 hX6)
            clear hbit
            go_wp2_with fail
            go_roundw
            case rel => exact ⟨J + 1, R ||| 2 ^ X, by omega, by go_num, by go_num, hlt64, Lib.hid (by rw [Hyes.out, HX9.out, hRe.out]), by first | rfl | trivial⟩
            case measure => simp [intOf]; omega
        · obtain rfl : J = n' := by omega
          have hjj : ¬ ((J : Int) < J) := by omega
          obtain rfl : R = t := by rw [hRe.out, Hgt.out]
          have hcg := Hcg.out; have hfro := Hfro.out
          go_wp2_with fail
          go_roundw
          case rel => exact ⟨I + 1, by omega, by go_num, HB5.out, HO5.out, HX5.out⟩
          case measure => simp [intOf]; omega
    · obtain rfl : I = k := by omega
      have hii : ¬ ((I : Int) < I) := by omega
      have HOf : Hid (Own 3 wo w1.heap.size (some ⟨g, 0, none⟩) 64 64 (up (tly (rcOf cs) D))) := Lib.hid (by have := HOr.out; rw [← Hdl.out, List.take_length] at this; exact this)
      go_wp2_with fail
      go_ret
      exact ⟨_, 64, 64, rfl, by rw [HC.out]; exact HOf.out.mono (by omega), HB.out.trans (HBr.out.mono (by omega))⟩
end Go.Proofs.Ytbdnlncpamandaa

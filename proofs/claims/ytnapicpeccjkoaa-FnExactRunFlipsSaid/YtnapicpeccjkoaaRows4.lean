/- Contracts of the laws' functions that measure and copy a list of lists; how such an argument is opened. -/
import Derived.Test.YtnapicpeccjkoaaRun2
import Derived.Test.YtnapicpeccjkoaaFaces3
import Derived.Test.YtnapicpeccjkoaaHelpS
import Derived.Test.YtnapicpeccjkoaaFrame
import Derived.Deep.Matrix
namespace Go.Proofs.Ytnapicpeccjkoaa
open Go.RowKit Go.ChangeShapes Go.WideShapes Go.ChangeAt
set_option linter.unusedSimpArgs false
set_option linter.unusedVariables false

theorem Grid.own2 {w : World} {B g n : Nat} {f : Nat → Sl} {L : Nat → List Int} {LL : List (List Int)} (h : Grid w B g n f L) (hl : LL.length = n) (hL : ∀ i, i < n → L i = nthL LL i) : Own2 w B w.heap.size (some ⟨g, 0, none⟩) n n LL := by
  refine ⟨f, hl, h.row, fun i hi => by rw [← hL i hi]; exact h.own i hi, fun i hi b d hb hd => ?_, fun i j hi hj hij b d hb hd => h.apart i j hi hj hij b d hb hd, fun d hd => ?_, fun i hi b hb => ?_⟩
  · cases hd; exact h.far i hi b hb
  · cases hd; exact h.glt.2
  · exact ((h.own i hi).lt b.block (by rw [hb]; rfl)).2
theorem RowsAt.len {w : World} {a : Option Addr} {n : Nat} {L : List (List Int)} (h : RowsAt w a n L) : L.length = n := by
  obtain ⟨f, h⟩ := h; exact h.len
theorem len_tot {L : List (List Int)} {x : List Int} (hx : x ∈ L) : x.length ≤ tot2 L := by
  obtain ⟨i, hi, rfl⟩ := List.mem_iff_getElem.1 hx
  have h1 := totTo_up L (i + 1) L.length (by omega)
  have h2 : totTo L (i + 1) = totTo L i + (nthL L i).length := rfl
  rw [nthL_at hi] at h2
  unfold tot2; omega
theorem Own.within {T : Nat} {w w' : World} {B U B' : Nat} {a : Option Addr} {n c : Nat} {xs : List Int} (h : Own T w B' a n c xs) (hw : Within w w' B U) (hne : ∀ k, (Value.slice a n c).ownBlock = some k → k < B ∨ U ≤ k) : Own T w' B' a n c xs :=
  Row.other h fun g hag hl => hw.block g hl (hne g (by rw [hag]; rfl))
set_option maxRecDepth 100000 in
theorem toIntSS_any (a : Option Addr) (n c : Nat) (L : List (List Int)) (w : World) (h : RowsAt w a n L) (hn : n ≤ 1048576) (hL : ∀ x ∈ L, x.length ≤ 1048576) :
    Calls Try.prog 45 #[.slice a n c] w (RetInts2 w L) := by
  obtain ⟨f, hR⟩ := h
  have hll := hR.len
  have Hll := Lib.hid hll
  have HR := Lib.hid hR
  have HL := Lib.hid hL
  clear hR hll hL
  go_enter Try.func45, Try.ntmps45
  go_wp2_with (at_make; refine mk_grid rfl _ _ rfl _ rfl rfl n rfl (by omega) ?_; intro g w2 hgrid hb2; have HG := Lib.hid hgrid; have HB2 := Lib.hid hb2; clear hgrid hb2)
  go_loopw [4] (fun i wr => ∃ I : Nat, I ≤ n ∧ i = .int .i64 I ∧ Below w.heap.size w wr ∧ ∃ f2, Grid wr w.heap.size g n f2 (fun i => if i < I then nthL L i else []) ∧ ∀ i, I ≤ i → f2 i = (none, 0, 0)) (fun i _ => n - (intOf i).toNat)
  case atStart => exact ⟨0, Nat.zero_le _, rfl, HB2.out, _, HG.out.congr (fun _ _ => rfl) (fun i _ => by simp), fun _ _ => rfl⟩
  case round =>
    obtain ⟨wo, rfl⟩ : ∃ x : World, x = wr := ⟨_, rfl⟩
    obtain ⟨I, hI, rfl, hbr, f2, hgrid, hf2⟩ := hrel
    have HBr := Lib.hid hbr; have HGr := Lib.hid hgrid; have Hf2 := Lib.hid hf2
    have hRr := HR.out.keep hbr
    have hzr : w.heap.size ≤ wo.heap.size := hbr.size
    clear hbr hgrid hf2
    by_cases hlt : I < n
    · obtain ⟨b, off, rfl, hc⟩ := hRr.cells (by omega)
      have hci := hc I hlt
      have hrow := hRr.each I hlt
      obtain ⟨⟨a1, n1, c1⟩, hfe⟩ : ∃ x, x = f I := ⟨_, rfl⟩
      rw [← hfe] at hci hrow
      simp only [Sl.val] at hci hrow
      have hlen := hrow.len
      have hn1 : n1 ≤ 1048576 := by rw [← hlen]; exact HL.out _ (by rw [nthL_at (by rw [Hll.out]; exact hlt)]; exact List.getElem_mem _)
      have Hrow := Lib.hid hrow
      have hI0 : (0 : Int) ≤ I := by omega
      have hIn : (I : Int) < n := by omega
      have hgl := HGr.out.glt
      clear hc hfe hRr hrow hlen
      go_wp2_with fail
      refine (toIntS_any a1 n1 c1 _ _ Hrow.out hn1).mono ?_
      rintro e w3 ⟨ad, k, d, rfl, hown, hb⟩
      have HB3 := Lib.hid (HBr.out.trans (hb.mono hzr))
      have hstep := HGr.out.step (k := I) hlt (x := (ad, k, d)) (hown.mono hzr) (by rw [Hf2.out I (Nat.le_refl _)]; exact ⟨hb.os, hb.tape, hb.output, hb.size, fun k hk _ => hb.block k hk⟩) (fun b hb' => .inr (hown.lt b.block (by simp only at hb'; rw [hb']; rfl)).1)
      have hfro := (HGr.out.keep hb).frozen hlt
      have hcell := (HGr.out.keep hb).cell hlt
      have HS := Lib.hid hstep
      clear hown hb hstep
      go_wp2_with fail
      go_roundw
      case rel =>
        refine ⟨I + 1, by omega, by go_num, HB3.out.setCell (by simp; omega) _, _, HS.out.congr (fun _ _ => rfl) (fun i hi => ?_), fun i hi => ?_⟩
        · by_cases hiI : i = I
          · subst hiI; simp
          · have e : (i < I + 1) = (i < I) := by apply propext; omega
            simp [hiI, e]
        · have : ¬ i = I := by omega
          simp only [if_neg this]
          exact Hf2.out i (by omega)
      case measure => simp [intOf]; omega
    · obtain rfl : I = n := by omega
      have hii : ¬ ((I : Int) < I) := by omega
      go_wp2_with fail
      go_ret
      exact ⟨_, I, I, rfl, HGr.out.own2 Hll.out (fun i hi => by simp [hi]), HBr.out⟩
set_option maxRecDepth 100000 in
theorem szIntSS_yes (a : Option Addr) (n c : Nat) (L : List (List Int)) (left : Nat) (w : World) (h : RowsAt w a n L) (hn : n + tot2 L ≤ left) (hL : left ≤ 1048576) :
    Calls Try.prog 43 #[.slice a n c, .int .i64 left] w fun e w' => e = .returned (.int .i64 ((left - n - tot2 L : Nat) : Int)) ∧ w = w' := by
  obtain ⟨f, hR⟩ := h
  have hll := hR.len
  have Hll := Lib.hid hll
  have HR := Lib.hid hR
  have Ht : Hid (∀ k, k ≤ n → totTo L k ≤ tot2 L) := Lib.hid fun k hk => totTo_up L k _ (by omega)
  have He : Hid (tot2 L = totTo L n) := Lib.hid (by unfold tot2; rw [hll])
  obtain ⟨T, hT⟩ : ∃ T, T = tot2 L := ⟨_, rfl⟩
  rw [← hT] at hn Ht He ⊢
  obtain ⟨R, hRm⟩ : ∃ R, R = left - n := ⟨_, rfl⟩
  have hRi : (left : Int) - n = (R : Int) := by omega
  have HRm := Lib.hid hRm
  rw [← hRm]
  have hTR : T ≤ R := by omega
  have hR1 : R ≤ 1048576 := by omega
  clear hR hll hT hRm hn
  go_enter Try.func43, Try.ntmps43
  go_wp2_with fail
  go_loop [1, 5] (fun q i => ∃ I : Nat, I ≤ n ∧ i = .int .i64 I ∧ q = .int .i64 ((R - totTo L I : Nat) : Int)) (fun _ i => n - (intOf i).toNat)
  case atStart => exact ⟨0, Nat.zero_le _, rfl, rfl⟩
  case round =>
    obtain ⟨I, hI, rfl, rfl⟩ := hrel
    by_cases hlt : I < n
    · obtain ⟨b, off, rfl, hc⟩ := HR.out.cells (by omega)
      have hci := hc I hlt
      have hrow := HR.out.each I hlt
      obtain ⟨⟨a1, n1, c1⟩, hfe⟩ : ∃ x, x = f I := ⟨_, rfl⟩
      rw [← hfe] at hci hrow
      simp only [Sl.val] at hci hrow
      have hlen := hrow.len
      have hs1 : totTo L (I + 1) = totTo L I + n1 := by rw [← hlen]; rfl
      have h1 := Ht.out (I + 1) (by omega)
      obtain ⟨q, hq⟩ : ∃ q, q = R - totTo L I := ⟨_, rfl⟩
      rw [← hq]
      have hnq : n1 ≤ q := by omega
      have hq1 : q ≤ 1048576 := by omega
      have Hnx : Hid (R - totTo L (I + 1) = q - n1) := Lib.hid (by omega)
      have hI0 : (0 : Int) ≤ I := by omega
      have hIn : (I : Int) < n := by omega
      have hpos : ¬ (((q - n1 : Nat) : Int) < 0) := by omega
      clear hc hfe hrow hlen hs1 h1 hq
      go_wp2_with (go_at_call 47; (with_reducible refine (szIntS_yes a1 n1 c1 q _ hnq hq1).mono ?_); rintro e w' ⟨rfl, rfl⟩)
      go_round
      case rel => exact ⟨I + 1, by omega, by go_num, by rw [Hnx.out]⟩
      case measure => simp [intOf]; omega
    · obtain rfl : I = n := by omega
      have hii : ¬ ((I : Int) < I) := by omega
      go_wp2_with fail
      go_ret
      exact ⟨by simp [He.out], rfl⟩
set_option maxRecDepth 100000 in
theorem szIntSS_no (a : Option Addr) (n c : Nat) (L : List (List Int)) (left : Nat) (w : World) (h : RowsAt w a n L) (hn : left < n + tot2 L) (hL : left ≤ 1048576) :
    Calls Try.prog 43 #[.slice a n c, .int .i64 left] w fun e w' => e = .returned (.int .i64 (-1)) ∧ w = w' := by
  obtain ⟨f, hR⟩ := h
  have hll := hR.len
  have hsm := hR.small
  by_cases hnl : left < n
  · have hneg : (left : Int) - n < 0 := by omega
    clear hR hll
    go_enter Try.func43, Try.ntmps43
    go_wp2_with fail
    go_ret
    exact ⟨rfl, rfl⟩
  · have Hll := Lib.hid hll
    have HR := Lib.hid hR
    have He : Hid (tot2 L = totTo L n) := Lib.hid (by unfold tot2; rw [hll])
    obtain ⟨T, hT⟩ : ∃ T, T = tot2 L := ⟨_, rfl⟩
    rw [← hT] at hn He
    obtain ⟨R, hRm⟩ : ∃ R, R = left - n := ⟨_, rfl⟩
    have hRi : (left : Int) - n = (R : Int) := by omega
    have hTR : R < T := by omega
    have hR1 : R ≤ 1048576 := by omega
    clear hR hll hT hRm hn hnl hsm
    have hn1 : n ≤ 1048576 := by omega
    go_enter Try.func43, Try.ntmps43
    go_wp2_with fail
    go_loop [1, 5] (fun q i => ∃ I : Nat, I ≤ n ∧ i = .int .i64 I ∧ totTo L I ≤ R ∧ q = .int .i64 ((R - totTo L I : Nat) : Int)) (fun _ i => n - (intOf i).toNat)
    case atStart => exact ⟨0, Nat.zero_le _, rfl, Nat.zero_le _, rfl⟩
    case round =>
      obtain ⟨I, hI, rfl, htot, rfl⟩ := hrel
      by_cases hlt : I < n
      · obtain ⟨b, off, rfl, hc⟩ := HR.out.cells (by omega)
        have hci := hc I hlt
        have hrow := HR.out.each I hlt
        obtain ⟨⟨a1, n1, c1⟩, hfe⟩ : ∃ x, x = f I := ⟨_, rfl⟩
        rw [← hfe] at hci hrow
        simp only [Sl.val] at hci hrow
        have hlen := hrow.len
        have hsm1 := hrow.small
        have hs1 : totTo L (I + 1) = totTo L I + n1 := by rw [← hlen]; rfl
        obtain ⟨q, hq⟩ : ∃ q, q = R - totTo L I := ⟨_, rfl⟩
        rw [← hq]
        have hq1 : q ≤ 1048576 := by omega
        have hI0 : (0 : Int) ≤ I := by omega
        have hIn : (I : Int) < n := by omega
        by_cases hnq : n1 ≤ q
        · have Hnx : Hid (R - totTo L (I + 1) = q - n1 ∧ totTo L (I + 1) ≤ R) := Lib.hid (by omega)
          have hpos : ¬ (((q - n1 : Nat) : Int) < 0) := by omega
          clear hc hfe hrow hlen hs1 hq htot
          go_wp2_with (go_at_call 47; (with_reducible refine (szIntS_yes a1 n1 c1 q _ hnq hq1).mono ?_); rintro e w' ⟨rfl, rfl⟩)
          go_round
          case rel => exact ⟨I + 1, by omega, by go_num, Hnx.out.2, by rw [Hnx.out.1]⟩
          case measure => simp [intOf]; omega
        · have hqn : q < n1 := by omega
          clear hc hfe hrow hlen hs1 hq htot hnq
          go_wp2_with (go_at_call 47; (with_reducible refine (szIntS_no a1 n1 c1 q _ hqn hq1 hsm1).mono ?_); rintro e w' ⟨rfl, rfl⟩)
          go_ret
          exact ⟨rfl, rfl⟩
      · obtain rfl : I = n := by omega
        exfalso
        have := He.out
        omega

section
variable {H : Type} {enc : TypeId × Value → H}
theorem cellsInts : Try.prog.cellsOf 22 = 1 := by kernel_rfl
/-- A slice of slices of numbers that came in. -/
theorem open_rows {W : World} {fuel : Nat} {v : Value} {x : DataW H × List MemPlace} (h : DataW.trod enc Try.prog W 0 (fun _ => true) true fuel 43 [v] = some x) :
    ∃ a n c L, v = .slice a n c ∧ RowsAt W a n L := by
  rcases Go.Deep.open_int_rows Try.underlying43 Try.underlying22 Try.underlying3 cellsInts cellsInt h with ⟨hcs, _⟩ | ⟨a, len, cap, A, Ln, C, Z, hcs, _, hl, hm, _, hrow⟩
  · simp only [List.cons.injEq, and_true] at hcs
    exact ⟨none, 0, 0, [], hcs, fun _ => (none, 0, 0), rfl, by omega, fun h => absurd h (Nat.lt_irrefl _), fun i hi => absurd hi (Nat.not_lt_zero _)⟩
  · simp only [List.cons.injEq, and_true] at hcs
    refine ⟨some a, len, cap, (List.range len).map fun r => (Z r).take (Ln r), hcs, fun r => (A r, Ln r, C r), by simp, by unfold maxLen at hm; omega, fun hn => ?_, fun i hi => ?_⟩
    · have h0 := (hrow 0 (by omega)).1
      obtain ⟨b, off, st⟩ := a
      have hspot : st = none := by simpa [Addr.add] using World.cell?_spot h0
      subst hspot
      refine ⟨b, off, rfl, fun i hi => ?_⟩
      have := (hrow i (by omega)).1
      rw [add_plain] at this
      exact this
    · obtain ⟨hc, h1, h2, h3, _, h5, h6⟩ := hrow i (by omega)
      have e : nthL ((List.range len).map fun r => (Z r).take (Ln r)) i = (Z i).take (Ln i) := by
        rw [nthL_at (by simpa using hi)]; simp
      rw [e]
      show IntsAt W (A i) (Ln i) ((Z i).take (Ln i))
      refine ⟨by rw [List.length_take]; omega, by unfold maxLen at h2; omega, fun hn => ?_⟩
      cases hA : A i with
      | none => have := h5 hA; omega
      | some a' =>
        obtain ⟨_, hcell⟩ := h6 a' hA
        obtain ⟨b, off, rfl, hcc⟩ := ints_at (zs := Z i) (k := .i64) (fun j hj => hcell j (by rw [← h3]; exact hj)) (by omega)
        refine ⟨b, off, rfl, fun j hj => ?_⟩
        rw [hcc j (by omega)]
        unfold nth
        rw [List.getD_eq_getElem?_getD, List.getD_eq_getElem?_getD, List.getElem?_take_of_lt hj]
end
end Go.Proofs.Ytnapicpeccjkoaa

/- The law FnExactRunFlips: for all arguments the program's RunFlips returns what the reference's returns. No condition. -/
import Derived.Test.YtnapicpeccjkoaaRun3
import Derived.Test.YtnapicpeccjkoaaRows4
import Derived.Test.YtnapicpeccjkoaaFrame
import Derived.Deep.RegionWith
import Derived.Deep.DeepCutAuto
namespace Go.Proofs.Ytnapicpeccjkoaa.lawRunFlips
open Go.ChangeShapes Go.WideShapes Go.ChangeAt Go.RowKit
set_option linter.unusedVariables false
set_option linter.unusedSimpArgs false

theorem same (a0 : Int) (xs : List Int) (hl : xs.length ≤ 1048576) (L : List (List Int)) (hl1 : L.length + tot2 L ≤ 1048576) : ∃ (p : Int) (zs : List Int) (b : Bool),
    (∀ W ad n c, IntsAt W ad n xs → Fit ad n c → ∀ ad' n' c', RowsAt W ad' n' L → Calls Try.prog 44 #[.agg #[.int .i64 a0, .slice ad n c], .slice ad' n' c'] W (RetBox2 W p zs b)) ∧
    (∀ W ad n c, IntsAt W ad n xs → Fit ad n c → ∀ ad' n' c', RowsAt W ad' n' L → Calls Try.prog 46 #[.agg #[.int .i64 a0, .slice ad n c], .slice ad' n' c'] W (RetBox2 W p zs b)) ∧ zs.length ≤ 1048576 := by
  by_cases h : runP a0 xs L
  · obtain ⟨hA, h20⟩ := h
    obtain ⟨l, rfl, hl2, hs, _⟩ := hA.nat
    obtain ⟨m, rfl⟩ := Int.eq_ofNat_of_zero_le (show 0 ≤ a0 by have := hA.1; omega)
    have hC := Cpx.of hA
    cases hr : runTo m l L L.length with
    | none =>
      refine ⟨0, [], false, fun W ad n c hx hf ad' n' c' hR => ?_, fun W ad n c hx hf ad' n' c' hR => ?_, by simp⟩
      · have := sRun_ok m ad n c l ad' n' c' L W hx hf hC hR (by rw [← hR.len]; exact h20)
        rw [← hR.len, hr] at this; rw [← hR.len]; exact this
      · have := iRun_ok m ad n c l ad' n' c' L W hx hf hC hR (by rw [← hR.len]; exact h20)
        rw [← hR.len, hr] at this; rw [← hR.len]; exact this
    | some l' =>
      refine ⟨m, up l', true, fun W ad n c hx hf ad' n' c' hR => ?_, fun W ad n c hx hf ad' n' c' hR => ?_, by rw [up_len]; have := (runTo_cpx hC _ l' hr).len; omega⟩
      · have := sRun_ok m ad n c l ad' n' c' L W hx hf hC hR (by rw [← hR.len]; exact h20)
        rw [← hR.len, hr] at this; rw [← hR.len]; exact this
      · have := iRun_ok m ad n c l ad' n' c' L W hx hf hC hR (by rw [← hR.len]; exact h20)
        rw [← hR.len, hr] at this; rw [← hR.len]; exact this
  · exact ⟨0, [], false, fun W ad n c hx hf ad' n' c' hR => sRun_bad a0 ad n c xs ad' n' c' L W hx hf.cap hR.len h, fun W ad n c hx hf ad' n' c' hR => iRun_bad a0 ad n c xs ad' n' c' L W hx hf.cap hR.len h, by simp⟩

set_option maxRecDepth 100000 in
set_option maxHeartbeats 4000000 in
theorem walk (w : World) (a0 : Int) (wf0 : (Lit.int .i64 a0).wf = true) (ad0 : Option Addr) (n0 c0 : Nat) (xs0 : List Int) (hs0 : IntsAt w ad0 n0 xs0) (wl0 : ∀ y ∈ xs0, (Lit.int .i64 y).wf = true) (ad1 : Option Addr) (n1 c1 : Nat) (L1 : List (List Int)) (hs1 : RowsAt w ad1 n1 L1) :
    Calls Try.prog 12 #[.agg #[.int .i64 a0, .slice ad0 n0 c0], .slice ad1 n1 c1] w fun e w' => e = .returned (.bool true) ∧ Below w.heap.size w w' := by
  clear wf0 wl0
  have Hs0 := Lib.hid hs0; clear hs0
  have Hs1 := Lib.hid hs1; clear hs1
  by_cases hn0 : n0 ≤ 1048576
  · by_cases hn1 : n1 + tot2 L1 ≤ (1048576 - n0)
    · have hl0 : xs0.length ≤ 1048576 := by rw [Hs0.out.len]; omega
      have hl1 : L1.length + tot2 L1 ≤ 1048576 := by rw [Hs1.out.len]; omega
      obtain ⟨p, ys, b, hS, hI, hbd⟩ := same a0 xs0 hl0 L1 hl1
      have HS := Lib.hid hS; have HI := Lib.hid hI
      clear hS hI
      have hbb : (b != b) = false := by simp
      have Hbd := Lib.hid hbd; clear hbd
      clear hl0
      clear hl1
      go_enter Try.func12, Try.ntmps12
      go_wp2_with fail
      refine (szComplex_yes a0 ad0 n0 c0 1048576 _ hn0 (by omega)).mono ?_
      rintro e w1 ⟨rfl, hb⟩
      have ST1 : Hid (Below w.heap.size w w1) := Lib.hid (Below.trans (Below.alloc (Below.refl _ _) (by first | exact Nat.le_refl _ | (simp; done) | (simp; omega)) _) (hb.mono (by first | exact Nat.le_refl _ | (simp; done) | (simp; omega))))
      have SZ1 : Hid (w.heap.size + 1 ≤ w1.heap.size) := Lib.hid (Nat.le_trans (by simp) hb.size)
      have HB1 : Hid (Below w.heap.size w w1) := ST1
      have BX1 := Lib.hid (((Boxes.nil w).alloc _ _ _).keep hb)
      have bx1 := BX1.out
      simp only [Boxes, and_true, World.size_alloc] at bx1
      clear hb
      go_wp2_with fail
      refine (szIntSS_yes ad1 n1 c1 L1 (1048576 - n0) _ (Hs1.out.keep HB1.out) hn1 (by omega)).mono ?_
      rintro e w' ⟨rfl, rfl⟩
      go_wp2_with fail
      refine (toComplex_any a0 ad0 n0 c0 xs0 _ (Hs0.out.keep HB1.out) (by omega)).mono ?_
      rintro e w2 ⟨adX1, nX1, cX1, rfl, ownX1, hb⟩
      have ST2 : Hid (Below w1.heap.size w1 w2) := Lib.hid (Below.trans (Below.refl _ _) (hb.mono (by first | exact Nat.le_refl _ | (simp; done) | (simp; omega))))
      have SZ2 : Hid (w1.heap.size + 0 ≤ w2.heap.size) := Lib.hid (Nat.le_trans (by simp) hb.size)
      have HB2 : Hid (Below w.heap.size w w2) := Lib.hid (HB1.out.trans (ST2.out.mono HB1.out.size))
      have BX2 := Lib.hid (BX1.out.keep hb)
      have bx2 := BX2.out
      simp only [Boxes, and_true, World.size_alloc] at bx2
      have LTX1 : Hid (∀ k, (Value.slice adX1 nX1 cX1).ownBlock = some k → w1.heap.size + 0 ≤ k ∧ k < w2.heap.size) := Lib.hid (fun k hk => ⟨Nat.le_trans (by simp) (ownX1.lt k hk).1, (ownX1.lt k hk).2⟩)
      have OWX1_2 := Lib.hid ownX1
      clear ownX1
      clear hb bx1
      go_wp2_with fail
      refine (toIntSS_any ad1 n1 c1 L1 _ (Hs1.out.keep HB2.out) (by omega) (fun x hx => Nat.le_trans (len_tot hx) (by omega))).mono ?_
      rintro e w3 ⟨adX2, nX2, cX2, rfl, ownX2, hb⟩
      have ST3 : Hid (Below w2.heap.size w2 w3) := Lib.hid (Below.trans (Below.refl _ _) (hb.mono (by first | exact Nat.le_refl _ | (simp; done) | (simp; omega))))
      have SZ3 : Hid (w2.heap.size + 0 ≤ w3.heap.size) := Lib.hid (Nat.le_trans (by simp) hb.size)
      have HB3 : Hid (Below w.heap.size w w3) := Lib.hid (HB2.out.trans (ST3.out.mono HB2.out.size))
      have BX3 := Lib.hid (BX2.out.keep hb)
      have bx3 := BX3.out
      simp only [Boxes, and_true, World.size_alloc] at bx3
      have OWX1_3 := Lib.hid (OWX1_2.out.keep ST3.out)
      have LTX2 : Hid (∀ k, (Value.slice adX2 nX2 cX2).ownBlock = some k → w2.heap.size + 0 ≤ k ∧ k < w3.heap.size) := Lib.hid (fun k hk => ⟨Nat.le_trans (by simp) (ownX2.lt k hk).1, (ownX2.lt k hk).2⟩)
      have OWX2_3 := Lib.hid ownX2
      clear ownX2
      clear hb bx2
      go_wp2_with fail
      refine (HS.out _ adX1 nX1 cX1 OWX1_3.out.reads OWX1_3.out.fit adX2 nX2 cX2 OWX2_3.out.reads).mono ?_
      rintro e w4 ⟨adW, nW, cW, rfl, ownW, hb⟩
      have ST4 : Hid (Below w3.heap.size w3 w4) := Lib.hid (Below.trans (Below.refl _ _) (hb.mono (by first | exact Nat.le_refl _ | (simp; done) | (simp; omega))))
      have SZ4 : Hid (w3.heap.size + 0 ≤ w4.heap.size) := Lib.hid (Nat.le_trans (by simp) hb.size)
      have HB4 : Hid (Below w.heap.size w w4) := Lib.hid (HB3.out.trans (ST4.out.mono HB3.out.size))
      have BX4 := Lib.hid (BX3.out.keep hb)
      have bx4 := BX4.out
      simp only [Boxes, and_true, World.size_alloc] at bx4
      have OWX1_4 := Lib.hid (OWX1_3.out.keep ST4.out)
      have OWX2_4 := Lib.hid (OWX2_3.out.keep ST4.out)
      have LTW : Hid (∀ k, (Value.slice adW nW cW).ownBlock = some k → w3.heap.size + 0 ≤ k ∧ k < w4.heap.size) := Lib.hid (fun k hk => ⟨Nat.le_trans (by simp) (ownW.lt k hk).1, (ownW.lt k hk).2⟩)
      have OWW_4 := Lib.hid ownW
      clear ownW
      clear hb bx3
      go_wp2_with fail
      refine (toComplex_any a0 ad0 n0 c0 xs0 _ (Hs0.out.keep (HB4.out.trans ((Below.alloc (Below.refl _ _) (by first | exact Nat.le_refl _ | (simp; done) | (simp; omega)) _).mono HB4.out.size))) (by omega)).mono ?_
      rintro e w5 ⟨adX3, nX3, cX3, rfl, ownX3, hb⟩
      have ST5 : Hid (Below w4.heap.size w4 w5) := Lib.hid (Below.trans (Below.alloc (Below.refl _ _) (by first | exact Nat.le_refl _ | (simp; done) | (simp; omega)) _) (hb.mono (by first | exact Nat.le_refl _ | (simp; done) | (simp; omega))))
      have SZ5 : Hid (w4.heap.size + 1 ≤ w5.heap.size) := Lib.hid (Nat.le_trans (by simp) hb.size)
      have HB5 : Hid (Below w.heap.size w w5) := Lib.hid (HB4.out.trans (ST5.out.mono HB4.out.size))
      have BX5 := Lib.hid ((BX4.out.alloc _ _ _).keep hb)
      have bx5 := BX5.out
      simp only [Boxes, and_true, World.size_alloc] at bx5
      have OWW_5 := Lib.hid (OWW_4.out.keep ST5.out)
      have LTX3 : Hid (∀ k, (Value.slice adX3 nX3 cX3).ownBlock = some k → w4.heap.size + 1 ≤ k ∧ k < w5.heap.size) := Lib.hid (fun k hk => ⟨Nat.le_trans (by simp) (ownX3.lt k hk).1, (ownX3.lt k hk).2⟩)
      have OWX3_5 := Lib.hid ownX3
      clear ownX3
      clear hb bx4
      go_wp2_with fail
      refine (toIntSS_any ad1 n1 c1 L1 _ (Hs1.out.keep (HB5.out.trans ((Below.alloc (Below.refl _ _) (by first | exact Nat.le_refl _ | (simp; done) | (simp; omega)) _).mono HB5.out.size))) (by omega) (fun x hx => Nat.le_trans (len_tot hx) (by omega))).mono ?_
      rintro e w6 ⟨adX4, nX4, cX4, rfl, ownX4, hb⟩
      have ST6 : Hid (Below w5.heap.size w5 w6) := Lib.hid (Below.trans (Below.alloc (Below.refl _ _) (by first | exact Nat.le_refl _ | (simp; done) | (simp; omega)) _) (hb.mono (by first | exact Nat.le_refl _ | (simp; done) | (simp; omega))))
      have SZ6 : Hid (w5.heap.size + 1 ≤ w6.heap.size) := Lib.hid (Nat.le_trans (by simp) hb.size)
      have HB6 : Hid (Below w.heap.size w w6) := Lib.hid (HB5.out.trans (ST6.out.mono HB5.out.size))
      have BX6 := Lib.hid ((BX5.out.alloc _ _ _).keep hb)
      have bx6 := BX6.out
      simp only [Boxes, and_true, World.size_alloc] at bx6
      have OWW_6 := Lib.hid (OWW_5.out.keep ST6.out)
      have OWX3_6 := Lib.hid (OWX3_5.out.keep ST6.out)
      have LTX4 : Hid (∀ k, (Value.slice adX4 nX4 cX4).ownBlock = some k → w5.heap.size + 1 ≤ k ∧ k < w6.heap.size) := Lib.hid (fun k hk => ⟨Nat.le_trans (by simp) (ownX4.lt k hk).1, (ownX4.lt k hk).2⟩)
      have OWX4_6 := Lib.hid ownX4
      clear ownX4
      clear hb bx5
      go_wp2_with fail
      refine (HI.out _ adX3 nX3 cX3 OWX3_6.out.reads OWX3_6.out.fit adX4 nX4 cX4 OWX4_6.out.reads).mono ?_
      rintro e w7 ⟨adG, nG, cG, rfl, ownG, hb⟩
      have ST7 : Hid (Below w6.heap.size w6 w7) := Lib.hid (Below.trans (Below.refl _ _) (hb.mono (by first | exact Nat.le_refl _ | (simp; done) | (simp; omega))))
      have SZ7 : Hid (w6.heap.size + 0 ≤ w7.heap.size) := Lib.hid (Nat.le_trans (by simp) hb.size)
      have HB7 : Hid (Below w.heap.size w w7) := Lib.hid (HB6.out.trans (ST7.out.mono HB6.out.size))
      have BX7 := Lib.hid (BX6.out.keep hb)
      have bx7 := BX7.out
      simp only [Boxes, and_true, World.size_alloc] at bx7
      have OWW_7 := Lib.hid (OWW_6.out.keep ST7.out)
      have OWX3_7 := Lib.hid (OWX3_6.out.keep ST7.out)
      have OWX4_7 := Lib.hid (OWX4_6.out.keep ST7.out)
      have LTG : Hid (∀ k, (Value.slice adG nG cG).ownBlock = some k → w6.heap.size + 0 ≤ k ∧ k < w7.heap.size) := Lib.hid (fun k hk => ⟨Nat.le_trans (by simp) (ownG.lt k hk).1, (ownG.lt k hk).2⟩)
      have OWG_7 := Lib.hid ownG
      clear ownG
      clear hb bx6
      go_wp2_with fail
      refine (eqComplex_yes p p adG adW nG nW cG cW ys ys _ (OWG_7.out.reads.keep (Below.alloc (Below.refl _ _) (by first | exact Nat.le_refl _ | (simp; done) | (simp; omega)) _)) (OWW_7.out.reads.keep (Below.alloc (Below.refl _ _) (by first | exact Nat.le_refl _ | (simp; done) | (simp; omega)) _)) rfl rfl).mono ?_
      rintro e w8 ⟨rfl, hb⟩
      have ST8 : Hid (Below w7.heap.size w7 w8) := Lib.hid (Below.trans (Below.alloc (Below.refl _ _) (by first | exact Nat.le_refl _ | (simp; done) | (simp; omega)) _) (hb.mono (by first | exact Nat.le_refl _ | (simp; done) | (simp; omega))))
      have SZ8 : Hid (w7.heap.size + 1 ≤ w8.heap.size) := Lib.hid (Nat.le_trans (by simp) hb.size)
      have HB8 : Hid (Below w.heap.size w w8) := Lib.hid (HB7.out.trans (ST8.out.mono HB7.out.size))
      have BX8 := Lib.hid ((BX7.out.alloc _ _ _).keep hb)
      have bx8 := BX8.out
      simp only [Boxes, and_true, World.size_alloc] at bx8
      have OWW_8 := Lib.hid (OWW_7.out.keep ST8.out)
      have OWX3_8 := Lib.hid (OWX3_7.out.keep ST8.out)
      have OWX4_8 := Lib.hid (OWX4_7.out.keep ST8.out)
      have OWG_8 := Lib.hid (OWG_7.out.keep ST8.out)
      clear hb bx7
      go_wp2_with fail
      have hsd := Lib.hid (Hs0.out.keep HB8.out.drew)
      have rdd := Lib.hid (OWX3_8.out.reads.keep (Below.drew (Below.refl _ _)))
      go_cut [58] (fun v wx => v = .bool false ∧ Below w8.heap.size w8 wx)
      case first =>
        go_region_with (first | (go_at_call 15; (with_reducible refine (toComplex_any a0 ad0 n0 c0 xs0 _ hsd.out (by omega)).mono ?_); rintro e wz ⟨adz, nz, cz, rfl, ownz, hbz⟩; have rdz := ownz.reads; have bxz := (BX8.out.keep ((Below.refl _ _).drew)).keep hbz; simp only [Boxes, and_true, World.size_alloc] at bxz; have Hbz := Lib.hid hbz; clear ownz hbz) | (go_at_call 18; (with_reducible refine (eqComplex_yes a0 a0 adX3 adz nX3 nz cX3 cz xs0 xs0 _ (rdd.out.keep Hbz.out) rdz rfl rfl).mono ?_); rintro e wy ⟨rfl, hby⟩))
        all_goals (go_wp2_with fail; go_meet; exact ⟨rfl, ((Below.refl _ w8).drew).trans (Below.trans Hbz.out (hby.mono Hbz.out.size))⟩)
      case rest =>
        obtain ⟨rfl, hbc⟩ := hcut
        obtain ⟨w9, rfl⟩ : ∃ x : World, x = wc := ⟨_, rfl⟩
        have ST9 : Hid (Below w8.heap.size w8 w9) := Lib.hid (Below.trans (Below.refl _ _) (hbc.mono (by first | exact Nat.le_refl _ | (simp; done) | (simp; omega))))
        have SZ9 : Hid (w8.heap.size + 0 ≤ w9.heap.size) := Lib.hid (Nat.le_trans (by simp) hbc.size)
        have HB9 : Hid (Below w.heap.size w w9) := Lib.hid (HB8.out.trans (ST9.out.mono HB8.out.size))
        have BX9 := Lib.hid (BX8.out.keep hbc)
        have bx9 := BX9.out
        simp only [Boxes, and_true, World.size_alloc] at bx9
        have OWW_9 := Lib.hid (OWW_8.out.keep ST9.out)
        have OWX3_9 := Lib.hid (OWX3_8.out.keep ST9.out)
        have OWX4_9 := Lib.hid (OWX4_8.out.keep ST9.out)
        have OWG_9 := Lib.hid (OWG_8.out.keep ST9.out)
        clear hbc bx8
        go_wp2_with fail
        refine (toIntSS_any ad1 n1 c1 L1 _ (Hs1.out.keep HB9.out) (by omega) (fun x hx => Nat.le_trans (len_tot hx) (by omega))).mono ?_
        rintro e w10 ⟨adX5, nX5, cX5, rfl, ownX5, hb⟩
        have ST10 : Hid (Below w9.heap.size w9 w10) := Lib.hid (Below.trans (Below.refl _ _) (hb.mono (by first | exact Nat.le_refl _ | (simp; done) | (simp; omega))))
        have SZ10 : Hid (w9.heap.size + 0 ≤ w10.heap.size) := Lib.hid (Nat.le_trans (by simp) hb.size)
        have HB10 : Hid (Below w.heap.size w w10) := Lib.hid (HB9.out.trans (ST10.out.mono HB9.out.size))
        have BX10 := Lib.hid (BX9.out.keep hb)
        have bx10 := BX10.out
        simp only [Boxes, and_true, World.size_alloc] at bx10
        have OWW_10 := Lib.hid (OWW_9.out.keep ST10.out)
        have OWX3_10 := Lib.hid (OWX3_9.out.keep ST10.out)
        have OWX4_10 := Lib.hid (OWX4_9.out.keep ST10.out)
        have OWG_10 := Lib.hid (OWG_9.out.keep ST10.out)
        have LTX5 : Hid (∀ k, (Value.slice adX5 nX5 cX5).ownBlock = some k → w9.heap.size + 0 ≤ k ∧ k < w10.heap.size) := Lib.hid (fun k hk => ⟨Nat.le_trans (by simp) (ownX5.lt k hk).1, (ownX5.lt k hk).2⟩)
        have OWX5_10 := Lib.hid ownX5
        clear ownX5
        clear hb bx9
        go_wp2_with fail
        refine (eqIntSS_yes adX4 adX5 nX4 nX5 cX4 cX5 _ _ _ _ L1 _ OWX4_10.out OWX5_10.out (by have h1 := OWX4_10.out.len; have h2 := Hs1.out.len; omega)).mono ?_
        rintro e w11 ⟨rfl, hb⟩
        have ST11 : Hid (Below w10.heap.size w10 w11) := Lib.hid (Below.trans (Below.refl _ _) (hb.mono (by first | exact Nat.le_refl _ | (simp; done) | (simp; omega))))
        have SZ11 : Hid (w10.heap.size + 0 ≤ w11.heap.size) := Lib.hid (Nat.le_trans (by simp) hb.size)
        have HB11 : Hid (Below w.heap.size w w11) := Lib.hid (HB10.out.trans (ST11.out.mono HB10.out.size))
        have BX11 := Lib.hid (BX10.out.keep hb)
        have bx11 := BX11.out
        simp only [Boxes, and_true, World.size_alloc] at bx11
        have OWW_11 := Lib.hid (OWW_10.out.keep ST11.out)
        have OWX3_11 := Lib.hid (OWX3_10.out.keep ST11.out)
        have OWX4_11 := Lib.hid (OWX4_10.out.keep ST11.out)
        have OWG_11 := Lib.hid (OWG_10.out.keep ST11.out)
        have OWX5_11 := Lib.hid (OWX5_10.out.keep ST11.out)
        clear hb bx10
        have lnx0 : nX3 ≤ 1048576 := by have h1 := OWX3_11.out.len; have h2 := Hs0.out.len; omega
        go_wp2_with fail
        refine (markComplex_any _ a0 adX3 nX3 cX3 (1) xs0 _ OWX3_11.out (by have := Hs0.out.len; omega) (by have := OWX3_11.out.len; have := Hs0.out.len; omega)).mono ?_
        rintro e w12 ⟨rfl, ownX3, hg⟩
        have HB12 : Hid (Below w.heap.size w w12) := Lib.hid (HB11.out.grown hg HB11.out.size (fun k hk => by have h1 := LTX3.out k hk; have z1 := SZ1.out; have z2 := SZ2.out; have z3 := SZ3.out; have z4 := SZ4.out; have z5 := SZ5.out; have z6 := SZ6.out; have z7 := SZ7.out; have z8 := SZ8.out; have z9 := SZ9.out; have z10 := SZ10.out; have z11 := SZ11.out; omega))
        have BX12 := Lib.hid (BX11.out.grown hg (fun k hk b hb => by have h1 := LTX3.out k hk; have z1 := SZ1.out; have z2 := SZ2.out; have z3 := SZ3.out; have z4 := SZ4.out; have z5 := SZ5.out; have z6 := SZ6.out; have z7 := SZ7.out; have z8 := SZ8.out; have z9 := SZ9.out; have z10 := SZ10.out; have z11 := SZ11.out;  simp only [List.mem_cons, List.not_mem_nil, or_false] at hb; rcases hb with rfl | rfl | rfl | rfl <;> simp only [World.size_alloc] <;> omega))
        have bx12 := BX12.out
        simp only [Boxes, and_true, World.size_alloc] at bx12
        have OWW_12 := Lib.hid (OWW_11.out.grownNe hg (fun k hk k2 hk2 => by have h1 := LTX3.out k hk; have h2 := LTW.out k2 hk2; have z1 := SZ1.out; have z2 := SZ2.out; have z3 := SZ3.out; have z4 := SZ4.out; have z5 := SZ5.out; have z6 := SZ6.out; have z7 := SZ7.out; have z8 := SZ8.out; have z9 := SZ9.out; have z10 := SZ10.out; have z11 := SZ11.out;  omega))
        have OWX3_12 := Lib.hid ownX3
        have OWX4_12 := Lib.hid (OWX4_11.out.grown2 hg (fun k hk => by have h1 := LTX3.out k hk; have z1 := SZ1.out; have z2 := SZ2.out; have z3 := SZ3.out; have z4 := SZ4.out; have z5 := SZ5.out; have z6 := SZ6.out; have z7 := SZ7.out; have z8 := SZ8.out; have z9 := SZ9.out; have z10 := SZ10.out; have z11 := SZ11.out;  (try simp only [World.size_alloc]); omega))
        have OWG_12 := Lib.hid (OWG_11.out.grownNe hg (fun k hk k2 hk2 => by have h1 := LTX3.out k hk; have h2 := LTG.out k2 hk2; have z1 := SZ1.out; have z2 := SZ2.out; have z3 := SZ3.out; have z4 := SZ4.out; have z5 := SZ5.out; have z6 := SZ6.out; have z7 := SZ7.out; have z8 := SZ8.out; have z9 := SZ9.out; have z10 := SZ10.out; have z11 := SZ11.out;  omega))
        have SZ12 : Hid (w11.heap.size ≤ w12.heap.size) := Lib.hid hg.size
        clear hg ownX3 bx11
        go_wp2_with fail
        refine (markIntSS_any _ _ adX4 nX4 cX4 (1 + nX3) L1 _ OWX4_12.out (by omega) (by omega) (by have h1 := OWX4_12.out.len; have h2 := Hs1.out.len; omega)).mono ?_
        rintro e w13 ⟨rfl, ownX4, hg⟩
        have HB13 : Hid (Below w.heap.size w w13) := Lib.hid (below_within HB12.out hg (by have z1 := SZ1.out; have z2 := SZ2.out; have z3 := SZ3.out; have z4 := SZ4.out; have z5 := SZ5.out; have z6 := SZ6.out; have z7 := SZ7.out; have z8 := SZ8.out; have z9 := SZ9.out; have z10 := SZ10.out; have z11 := SZ11.out; have z12 := SZ12.out; (try simp only [World.size_alloc]); omega) HB12.out.size)
        have BX13 := Lib.hid (BX12.out.within hg (fun b hb => by have z1 := SZ1.out; have z2 := SZ2.out; have z3 := SZ3.out; have z4 := SZ4.out; have z5 := SZ5.out; have z6 := SZ6.out; have z7 := SZ7.out; have z8 := SZ8.out; have z9 := SZ9.out; have z10 := SZ10.out; have z11 := SZ11.out; have z12 := SZ12.out; simp only [List.mem_cons, List.not_mem_nil, or_false] at hb; rcases hb with rfl | rfl | rfl | rfl <;> simp only [World.size_alloc] <;> omega))
        have bx13 := BX13.out
        simp only [Boxes, and_true, World.size_alloc] at bx13
        have OWW_13 := Lib.hid (OWW_12.out.within hg (fun k hk => by have h1 := LTW.out k hk; have z1 := SZ1.out; have z2 := SZ2.out; have z3 := SZ3.out; have z4 := SZ4.out; have z5 := SZ5.out; have z6 := SZ6.out; have z7 := SZ7.out; have z8 := SZ8.out; have z9 := SZ9.out; have z10 := SZ10.out; have z11 := SZ11.out; have z12 := SZ12.out; (try simp only [World.size_alloc]); omega))
        have OWX3_13 := Lib.hid (OWX3_12.out.within hg (fun k hk => by have h1 := LTX3.out k hk; have z1 := SZ1.out; have z2 := SZ2.out; have z3 := SZ3.out; have z4 := SZ4.out; have z5 := SZ5.out; have z6 := SZ6.out; have z7 := SZ7.out; have z8 := SZ8.out; have z9 := SZ9.out; have z10 := SZ10.out; have z11 := SZ11.out; have z12 := SZ12.out; (try simp only [World.size_alloc]); omega))
        have OWX4_13 := Lib.hid ownX4
        have OWG_13 := Lib.hid (OWG_12.out.within hg (fun k hk => by have h1 := LTG.out k hk; have z1 := SZ1.out; have z2 := SZ2.out; have z3 := SZ3.out; have z4 := SZ4.out; have z5 := SZ5.out; have z6 := SZ6.out; have z7 := SZ7.out; have z8 := SZ8.out; have z9 := SZ9.out; have z10 := SZ10.out; have z11 := SZ11.out; have z12 := SZ12.out; (try simp only [World.size_alloc]); omega))
        have SZ13 : Hid (w12.heap.size ≤ w13.heap.size) := Lib.hid hg.size
        clear hg ownX4 bx12
        go_wp2_with fail
        refine (eqComplex_yes p p adG adW nG nW cG cW ys ys _ (OWG_13.out.reads.keep (Below.refl _ _)) (OWW_13.out.reads.keep (Below.refl _ _)) rfl rfl).mono ?_
        rintro e w14 ⟨rfl, hb⟩
        have ST14 : Hid (Below w13.heap.size w13 w14) := Lib.hid (Below.trans (Below.refl _ _) (hb.mono (by first | exact Nat.le_refl _ | (simp; done) | (simp; omega))))
        have SZ14 : Hid (w13.heap.size + 0 ≤ w14.heap.size) := Lib.hid (Nat.le_trans (by simp) hb.size)
        have HB14 : Hid (Below w.heap.size w w14) := Lib.hid (HB13.out.trans (ST14.out.mono HB13.out.size))
        have BX14 := Lib.hid (BX13.out.keep hb)
        have bx14 := BX14.out
        simp only [Boxes, and_true, World.size_alloc] at bx14
        have OWW_14 := Lib.hid (OWW_13.out.keep ST14.out)
        have OWX3_14 := Lib.hid (OWX3_13.out.keep ST14.out)
        have OWX4_14 := Lib.hid (OWX4_13.out.keep ST14.out)
        have OWG_14 := Lib.hid (OWG_13.out.keep ST14.out)
        clear hb bx13
        have Hng := Lib.hid (show nG ≤ 1099511627776 by have h1 := OWG_14.out.len; have h2 := Hbd.out; omega)
        go_wp2_with fail
        refine (markComplex_any _ p adG nG cG 1 ys _ OWG_14.out (by omega) Hng.out).mono ?_
        rintro e w15 ⟨rfl, ownG, hg⟩
        have HB15 : Hid (Below w.heap.size w w15) := Lib.hid (HB14.out.grown hg HB14.out.size (fun k hk => by have h1 := LTG.out k hk; have z1 := SZ1.out; have z2 := SZ2.out; have z3 := SZ3.out; have z4 := SZ4.out; have z5 := SZ5.out; have z6 := SZ6.out; have z7 := SZ7.out; have z8 := SZ8.out; have z9 := SZ9.out; have z10 := SZ10.out; have z11 := SZ11.out; have z12 := SZ12.out; have z13 := SZ13.out; have z14 := SZ14.out; omega))
        have BX15 := Lib.hid (BX14.out.grown hg (fun k hk b hb => by have h1 := LTG.out k hk; have z1 := SZ1.out; have z2 := SZ2.out; have z3 := SZ3.out; have z4 := SZ4.out; have z5 := SZ5.out; have z6 := SZ6.out; have z7 := SZ7.out; have z8 := SZ8.out; have z9 := SZ9.out; have z10 := SZ10.out; have z11 := SZ11.out; have z12 := SZ12.out; have z13 := SZ13.out; have z14 := SZ14.out;  simp only [List.mem_cons, List.not_mem_nil, or_false] at hb; rcases hb with rfl | rfl | rfl | rfl <;> simp only [World.size_alloc] <;> omega))
        have bx15 := BX15.out
        simp only [Boxes, and_true, World.size_alloc] at bx15
        have OWW_15 := Lib.hid (OWW_14.out.grownNe hg (fun k hk k2 hk2 => by have h1 := LTG.out k hk; have h2 := LTW.out k2 hk2; have z1 := SZ1.out; have z2 := SZ2.out; have z3 := SZ3.out; have z4 := SZ4.out; have z5 := SZ5.out; have z6 := SZ6.out; have z7 := SZ7.out; have z8 := SZ8.out; have z9 := SZ9.out; have z10 := SZ10.out; have z11 := SZ11.out; have z12 := SZ12.out; have z13 := SZ13.out; have z14 := SZ14.out;  omega))
        have OWG_15 := Lib.hid ownG
        have SZ15 : Hid (w14.heap.size ≤ w15.heap.size) := Lib.hid hg.size
        clear hg ownG bx14
        go_wp2_with fail
        refine (heldComplex_yes p adG nG cG 1 _ _ (OWG_15.out.reads.keep (Below.refl _ _)) rfl (by omega) Hng.out).mono ?_
        rintro e w16 ⟨rfl, hb⟩
        have ST16 : Hid (Below w15.heap.size w15 w16) := Lib.hid (Below.trans (Below.refl _ _) (hb.mono (by first | exact Nat.le_refl _ | (simp; done) | (simp; omega))))
        have SZ16 : Hid (w15.heap.size + 0 ≤ w16.heap.size) := Lib.hid (Nat.le_trans (by simp) hb.size)
        have HB16 : Hid (Below w.heap.size w w16) := Lib.hid (HB15.out.trans (ST16.out.mono HB15.out.size))
        have BX16 := Lib.hid (BX15.out.keep hb)
        have bx16 := BX16.out
        simp only [Boxes, and_true, World.size_alloc] at bx16
        have OWW_16 := Lib.hid (OWW_15.out.keep ST16.out)
        have OWG_16 := Lib.hid (OWG_15.out.keep ST16.out)
        clear hb bx15
        go_wp2_with fail
        refine (toComplex_any a0 ad0 n0 c0 xs0 _ (Hs0.out.keep HB16.out) (by omega)).mono ?_
        rintro e w17 ⟨adX6, nX6, cX6, rfl, ownX6, hb⟩
        have ST17 : Hid (Below w16.heap.size w16 w17) := Lib.hid (Below.trans (Below.refl _ _) (hb.mono (by first | exact Nat.le_refl _ | (simp; done) | (simp; omega))))
        have SZ17 : Hid (w16.heap.size + 0 ≤ w17.heap.size) := Lib.hid (Nat.le_trans (by simp) hb.size)
        have HB17 : Hid (Below w.heap.size w w17) := Lib.hid (HB16.out.trans (ST17.out.mono HB16.out.size))
        have BX17 := Lib.hid (BX16.out.keep hb)
        have bx17 := BX17.out
        simp only [Boxes, and_true, World.size_alloc] at bx17
        have OWW_17 := Lib.hid (OWW_16.out.keep ST17.out)
        have OWG_17 := Lib.hid (OWG_16.out.keep ST17.out)
        have LTX6 : Hid (∀ k, (Value.slice adX6 nX6 cX6).ownBlock = some k → w16.heap.size + 0 ≤ k ∧ k < w17.heap.size) := Lib.hid (fun k hk => ⟨Nat.le_trans (by simp) (ownX6.lt k hk).1, (ownX6.lt k hk).2⟩)
        have OWX6_17 := Lib.hid ownX6
        clear ownX6
        clear hb bx16
        go_wp2_with fail
        refine (toIntSS_any ad1 n1 c1 L1 _ (Hs1.out.keep HB17.out) (by omega) (fun x hx => Nat.le_trans (len_tot hx) (by omega))).mono ?_
        rintro e w18 ⟨adX7, nX7, cX7, rfl, ownX7, hb⟩
        have ST18 : Hid (Below w17.heap.size w17 w18) := Lib.hid (Below.trans (Below.refl _ _) (hb.mono (by first | exact Nat.le_refl _ | (simp; done) | (simp; omega))))
        have SZ18 : Hid (w17.heap.size + 0 ≤ w18.heap.size) := Lib.hid (Nat.le_trans (by simp) hb.size)
        have HB18 : Hid (Below w.heap.size w w18) := Lib.hid (HB17.out.trans (ST18.out.mono HB17.out.size))
        have BX18 := Lib.hid (BX17.out.keep hb)
        have bx18 := BX18.out
        simp only [Boxes, and_true, World.size_alloc] at bx18
        have OWW_18 := Lib.hid (OWW_17.out.keep ST18.out)
        have OWG_18 := Lib.hid (OWG_17.out.keep ST18.out)
        have OWX6_18 := Lib.hid (OWX6_17.out.keep ST18.out)
        have LTX7 : Hid (∀ k, (Value.slice adX7 nX7 cX7).ownBlock = some k → w17.heap.size + 0 ≤ k ∧ k < w18.heap.size) := Lib.hid (fun k hk => ⟨Nat.le_trans (by simp) (ownX7.lt k hk).1, (ownX7.lt k hk).2⟩)
        have OWX7_18 := Lib.hid ownX7
        clear ownX7
        clear hb bx17
        go_wp2_with fail
        refine (HI.out _ adX6 nX6 cX6 OWX6_18.out.reads OWX6_18.out.fit adX7 nX7 cX7 OWX7_18.out.reads).mono ?_
        rintro e w19 ⟨adH, nH, cH, rfl, ownH, hb⟩
        have ST19 : Hid (Below w18.heap.size w18 w19) := Lib.hid (Below.trans (Below.refl _ _) (hb.mono (by first | exact Nat.le_refl _ | (simp; done) | (simp; omega))))
        have SZ19 : Hid (w18.heap.size + 0 ≤ w19.heap.size) := Lib.hid (Nat.le_trans (by simp) hb.size)
        have HB19 : Hid (Below w.heap.size w w19) := Lib.hid (HB18.out.trans (ST19.out.mono HB18.out.size))
        have BX19 := Lib.hid (BX18.out.keep hb)
        have bx19 := BX19.out
        simp only [Boxes, and_true, World.size_alloc] at bx19
        have OWW_19 := Lib.hid (OWW_18.out.keep ST19.out)
        have OWG_19 := Lib.hid (OWG_18.out.keep ST19.out)
        have OWX6_19 := Lib.hid (OWX6_18.out.keep ST19.out)
        have OWX7_19 := Lib.hid (OWX7_18.out.keep ST19.out)
        have LTH : Hid (∀ k, (Value.slice adH nH cH).ownBlock = some k → w18.heap.size + 0 ≤ k ∧ k < w19.heap.size) := Lib.hid (fun k hk => ⟨Nat.le_trans (by simp) (ownH.lt k hk).1, (ownH.lt k hk).2⟩)
        have OWH_19 := Lib.hid ownH
        clear ownH
        clear hb bx18
        go_wp2_with fail
        refine (eqComplex_yes p p adH adW nH nW cH cW ys ys _ (OWH_19.out.reads.keep (Below.alloc (Below.refl _ _) (by first | exact Nat.le_refl _ | (simp; done) | (simp; omega)) _)) (OWW_19.out.reads.keep (Below.alloc (Below.refl _ _) (by first | exact Nat.le_refl _ | (simp; done) | (simp; omega)) _)) rfl rfl).mono ?_
        rintro e w20 ⟨rfl, hb⟩
        have ST20 : Hid (Below w19.heap.size w19 w20) := Lib.hid (Below.trans (Below.alloc (Below.refl _ _) (by first | exact Nat.le_refl _ | (simp; done) | (simp; omega)) _) (hb.mono (by first | exact Nat.le_refl _ | (simp; done) | (simp; omega))))
        have SZ20 : Hid (w19.heap.size + 1 ≤ w20.heap.size) := Lib.hid (Nat.le_trans (by simp) hb.size)
        have HB20 : Hid (Below w.heap.size w w20) := Lib.hid (HB19.out.trans (ST20.out.mono HB19.out.size))
        have BX20 := Lib.hid ((BX19.out.alloc _ _ _).keep hb)
        have bx20 := BX20.out
        simp only [Boxes, and_true, World.size_alloc] at bx20
        have OWW_20 := Lib.hid (OWW_19.out.keep ST20.out)
        have OWG_20 := Lib.hid (OWG_19.out.keep ST20.out)
        have OWH_20 := Lib.hid (OWH_19.out.keep ST20.out)
        clear hb bx19
        go_wp2_with fail
        refine (heldComplex_yes p adG nG cG 1 _ _ (OWG_20.out.reads.keep (Below.refl _ _)) rfl (by omega) Hng.out).mono ?_
        rintro e w21 ⟨rfl, hb⟩
        have ST21 : Hid (Below w20.heap.size w20 w21) := Lib.hid (Below.trans (Below.refl _ _) (hb.mono (by first | exact Nat.le_refl _ | (simp; done) | (simp; omega))))
        have SZ21 : Hid (w20.heap.size + 0 ≤ w21.heap.size) := Lib.hid (Nat.le_trans (by simp) hb.size)
        have HB21 : Hid (Below w.heap.size w w21) := Lib.hid (HB20.out.trans (ST21.out.mono HB20.out.size))
        have BX21 := Lib.hid (BX20.out.keep hb)
        have bx21 := BX21.out
        simp only [Boxes, and_true, World.size_alloc] at bx21
        have OWW_21 := Lib.hid (OWW_20.out.keep ST21.out)
        have OWG_21 := Lib.hid (OWG_20.out.keep ST21.out)
        have OWH_21 := Lib.hid (OWH_20.out.keep ST21.out)
        clear hb bx20
        go_wp2_with fail
        go_ret
        exact ⟨rfl, HB21.out⟩
    · have hbig1 : (1048576 - n0) < n1 + tot2 L1 := by omega
      clear hn1
      have hsm0 := Hs0.out.small
      go_enter Try.func12, Try.ntmps12
      go_wp2_with fail
      refine (szComplex_yes a0 ad0 n0 c0 1048576 _ hn0 (by omega)).mono ?_
      rintro e w1 ⟨rfl, hb1⟩
      have HB1 : Hid (Below w.heap.size w w1) := Lib.hid (Below.trans (by repeat (first | exact Below.refl _ _ | assumption | refine Below.setCell ?_ (by first | omega | (simp; done) | (simp; omega)) _ | refine Below.alloc ?_ (by first | omega | (simp; done) | (simp; omega)) _ | apply Below.drew)) (hb1.mono (by simp <;> omega)))
      have BX1 := Lib.hid (((Boxes.nil w).alloc _ _ _).keep hb1)
      have bx1 := BX1.out
      simp only [Boxes, and_true, World.size_alloc] at bx1
      clear hb1
      go_wp2_with fail
      refine (szIntSS_no ad1 n1 c1 L1 (1048576 - n0) _ (Hs1.out.keep HB1.out) hbig1 (by omega)).mono ?_
      rintro e w' ⟨rfl, rfl⟩
      go_wp2_with fail
      go_ret
      exact ⟨rfl, HB1.out⟩
  · have hbig0 : 1048576 < n0 := by omega
    clear hn0
    have hsm0 := Hs0.out.small
    go_enter Try.func12, Try.ntmps12
    go_wp2_with fail
    refine (szComplex_no a0 ad0 n0 c0 1048576 _ hbig0 (by omega) hsm0).mono ?_
    rintro e w1 ⟨rfl, hb1⟩
    have HB1 : Hid (Below w.heap.size w w1) := Lib.hid (Below.trans (by repeat (first | exact Below.refl _ _ | assumption | refine Below.setCell ?_ (by first | omega | (simp; done) | (simp; omega)) _ | refine Below.alloc ?_ (by first | omega | (simp; done) | (simp; omega)) _ | apply Below.drew)) (hb1.mono (by simp <;> omega)))
    have BX1 := Lib.hid (((Boxes.nil w).alloc _ _ _).keep hb1)
    have bx1 := BX1.out
    simp only [Boxes, and_true, World.size_alloc] at bx1
    clear hb1
    go_wp2_with fail
    go_ret
    exact ⟨rfl, HB1.out⟩

set_option maxRecDepth 100000 in
theorem lifted (os : Os) (started : os.Started) (H : Type) (enc : TypeId × Value → H) :
    ReturnsInHanded {} Try.checked os 12 .any (Rows.fnExactRunFlipsSpec.pre6 enc Try.prog Try.f12 Rows.fnExactRunFlipsRow.domain false) (Rows.fnExactRunFlipsSpec.post enc Try.prog Try.f12 false true false false) := by
  refine returnsInHanded_of_change (C := Try.checked) own started (by kernel_rfl) Try.func12
    (ChangeSpec.witness6 (enc := enc) (C := Try.checked) false ⟨#[], #[.agg #[.int .i64 0, .slice none 0 0], .slice none 0 0], []⟩ 8 (by kernel_rfl) (by kernel_rfl) (by kernel_rfl) (by kernel_rfl)) ?_
  intro W base args ds gs before hval0 hW hcnd _
  have hval : ∀ (j : Nat) t v, Try.f12.params[j]? = some t → args[j]? = some v → Value.okWide Try.prog W .any base t v := hval0
  have hW2 := hW
  obtain ⟨p, q, hA0, hV, hpq, hfz, hnd⟩ := hW
  have hA : DataW.TrodAll enc Try.prog W 0 (fun _ => true) true Try.f12.params.toList args.toList ds p := hA0
  rw [Try.params12] at hA hval
  obtain ⟨v0, vs0, d0, ds0, p0, q0, hargs, rfl, hp0, h0, r0⟩ := trodAll_cons hA
  obtain ⟨v1, vs1, d1, ds1, p1, q1, rfl, rfl, hp1, h1, r1⟩ := trodAll_cons r0
  obtain ⟨rfl, rfl, _⟩ := trodAll_nil r1
  obtain rfl : args = #[v0, v1] := by cases args; simp_all
  have hgs : gs = [] := (trodVars_none hV).1
  subst hgs
  obtain ⟨u0, z0, y0, x0, m0, rfl, rfl, _, hy0, hx0⟩ := Joins.open_agg2 Try.underlying24 (by kernel_rfl) (show Try.prog.cellsOf 24 = 2 by kernel_rfl) (hval 0 24 v0 rfl rfl) h0
  obtain ⟨a0, e0, _, w0⟩ := DataW.trod_int Try.underlying3 hy0
  simp only [List.cons.injEq, and_true] at e0
  subst e0
  obtain ⟨ad0, n0, c0, xs0, rfl, hs0, wl0⟩ := open_row hx0
  obtain ⟨ad1, n1, c1, rfl⟩ := okWide_slice Try.underlying43 (hval 1 43 v1 rfl rfl)
  obtain ⟨fuel1, hf1⟩ := h1
  obtain ⟨ad1, n1, c1, L1, e1, hs1⟩ := open_rows hf1
  rw [e1]
  rw [e1] at hW2
  refine (walk W a0 w0 ad0 n0 c0 xs0 hs0 wl0 ad1 n1 c1 L1 hs1).mono fun e W2 ⟨he, hb⟩ => ?_
  subst he
  exact ⟨_, rfl, law_post rfl hW2 (by kernel_rfl) rfl rfl rfl rfl hb⟩

theorem over : Rows.fnExactRunFlipsRow.holds Try.pinned (OpenSpec.ofChange Rows.fnExactRunFlipsSpec) :=
  OpenClaim.holds_of_wide 12 Try.f12 rfl rfl rfl rfl rfl rfl rfl ⟨rfl, rfl, rfl, rfl, rfl⟩ rfl rfl rfl rfl rfl (by kernel_rfl) Try.func12 (by kernel_rfl)
    (of_decide_eq_true (by kernel_rfl)) (by unfold Func.isWrapper; first | (rw [if_pos (by decide +kernel)]; kernel_rfl) | (rw [if_neg (by decide +kernel)]; exact ⟨rfl, rfl⟩))
    (fun os started H enc _ => lifted os started H enc)

/-- THE STATEMENT -/
theorem proved : Rows.FnExactRunFlipsSaid := over
end Go.Proofs.Ytnapicpeccjkoaa.lawRunFlips

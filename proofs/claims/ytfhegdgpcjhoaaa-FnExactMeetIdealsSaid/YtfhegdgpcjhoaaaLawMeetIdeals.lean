/- The law FnExactMeetIdeals: for all arguments the program's MeetIdeals returns what the reference's returns. No condition. -/
import Derived.Test.YtfhegdgpcjhoaaaSumS
import Derived.Test.YtfhegdgpcjhoaaaFrame
import Derived.Test.YtfhegdgpcjhoaaaDraw
import Derived.Deep.RegionWith
import Derived.Deep.DeepCutAuto
namespace Go.Proofs.Ytfhegdgpcjhoaaa.lawMeetIdeals
open Go.ChangeShapes Go.WideShapes Go.ChangeAt Go.RowKit
set_option linter.unusedVariables false
set_option linter.unusedSimpArgs false

theorem same (a0 : Int) (xs : List Int) (hl : xs.length ≤ 1048576) (a1 : Int) (ys : List Int) (hl1 : ys.length ≤ 1048576) : ∃ (p : Int) (zs : List Int) (b : Bool),
    (∀ W ad n c, IntsAt W ad n xs → Fit ad n c → ∀ ad' n' c', IntsAt W ad' n' ys → Fit ad' n' c' → Calls Try.prog 51 #[.agg #[.int .i64 a0, .slice ad n c], .agg #[.int .i64 a1, .slice ad' n' c']] W (RetBox2 W p zs b)) ∧
    (∀ W ad n c, IntsAt W ad n xs → Fit ad n c → ∀ ad' n' c', IntsAt W ad' n' ys → Fit ad' n' c' → Calls Try.prog 52 #[.agg #[.int .i64 a0, .slice ad n c], .agg #[.int .i64 a1, .slice ad' n' c']] W (RetBox2 W p zs b)) ∧ zs.length ≤ 1048576 := by
  by_cases h : TwoP a0 xs a1 ys
  · obtain ⟨h1, h2, rfl⟩ := h
    obtain ⟨l, rfl, hl2, hs, _⟩ := h1.nat
    obtain ⟨k, rfl, hk2, hs', _⟩ := h2.nat
    obtain ⟨m, rfl⟩ := Int.eq_ofNat_of_zero_le (show 0 ≤ a0 by have := h1.1; omega)
    have hm : m ≤ 6 := by have := h1.2.1; omega
    have hl64 : ∀ t ∈ l, t < 64 := fun t ht => (hl2 t ht).2
    have hk64 : ∀ t ∈ k, t < 64 := fun t ht => (hk2 t ht).2
    have hll := sorted_len hs hl64
    have hkl := sorted_len hs' hk64
    refine ⟨m, up (minL fun s => above l (2 ^ m) s && above k (2 ^ m) s), true, fun W ad n c hx hf ad' n' c' hy hf' => ?_, fun W ad n c hx hf ad' n' c' hy hf' => ?_, ?_⟩
    · rw [← minL_meet (pow_le64 hm) (fun s hs => (hl2 s hs).1) (fun s hs => (hk2 s hs).1)]
      exact sMeetIdeals_yes m ad n c l ad' n' c' k W hx hy hm h1 h2 hl64 hk64 (by have := hx.len; rw [up_len] at this; omega) (by have := hy.len; rw [up_len] at this; omega)
    · exact iMeetIdeals_yes m ad n c l ad' n' c' k W hx hy hf hf' hm h1 h2 hl64 hk64
    · rw [up_len]; unfold minL; exact Nat.le_trans (ord_len _) (by omega)
  · exact ⟨0, [], false, fun W ad n c hx _ ad' n' c' hy _ => sMeetIdeals_no a0 ad n c xs a1 ad' n' c' ys W hx hy h, fun W ad n c hx hf ad' n' c' hy hf' => iMeetIdeals_no a0 ad n c xs a1 ad' n' c' ys W hx hy hf hf' h, by simp⟩

set_option maxRecDepth 100000 in
set_option maxHeartbeats 4000000 in
theorem walk (w : World) (a0 : Int) (wf0 : (Lit.int .i64 a0).wf = true) (ad0 : Option Addr) (n0 c0 : Nat) (xs0 : List Int) (hs0 : IntsAt w ad0 n0 xs0) (wl0 : ∀ y ∈ xs0, (Lit.int .i64 y).wf = true) (a1 : Int) (wf1 : (Lit.int .i64 a1).wf = true) (ad1 : Option Addr) (n1 c1 : Nat) (xs1 : List Int) (hs1 : IntsAt w ad1 n1 xs1) (wl1 : ∀ y ∈ xs1, (Lit.int .i64 y).wf = true) :
    Calls Try.prog 11 #[.agg #[.int .i64 a0, .slice ad0 n0 c0], .agg #[.int .i64 a1, .slice ad1 n1 c1]] w fun e w' => e = .returned (.bool true) ∧ Below w.heap.size w w' := by
  clear wf0 wl0
  have Hs0 := Lib.hid hs0; clear hs0
  clear wf1 wl1
  have Hs1 := Lib.hid hs1; clear hs1
  by_cases hn0 : n0 ≤ 1048576
  · by_cases hn1 : n1 ≤ (1048576 - n0)
    · have hl0 : xs0.length ≤ 1048576 := by rw [Hs0.out.len]; omega
      have hl1 : xs1.length ≤ 1048576 := by rw [Hs1.out.len]; omega
      obtain ⟨p, ys, b, hS, hI, hbd⟩ := same a0 xs0 hl0 a1 xs1 hl1
      have HS := Lib.hid hS; have HI := Lib.hid hI
      clear hS hI
      have hbb : (b != b) = false := by simp
      have Hbd := Lib.hid hbd; clear hbd
      clear hl0
      clear hl1
      go_enter Try.func11, Try.ntmps11
      go_wp2_with fail
      refine (szIdeal_yes a0 ad0 n0 c0 1048576 _ hn0 (by omega)).mono ?_
      rintro e w1 ⟨rfl, hb⟩
      have ST1 : Hid (Below w.heap.size w w1) := Lib.hid (Below.trans (Below.alloc (Below.alloc (Below.refl _ _) (by first | exact Nat.le_refl _ | (simp; done) | (simp; omega)) _) (by first | exact Nat.le_refl _ | (simp; done) | (simp; omega)) _) (hb.mono (by first | exact Nat.le_refl _ | (simp; done) | (simp; omega))))
      have SZ1 : Hid (w.heap.size + 2 ≤ w1.heap.size) := Lib.hid (Nat.le_trans (by simp) hb.size)
      have HB1 : Hid (Below w.heap.size w w1) := ST1
      have BX1 := Lib.hid ((((Boxes.nil w).alloc _ _ _).alloc _ _ _).keep hb)
      have bx1 := BX1.out
      simp only [Boxes, and_true, World.size_alloc] at bx1
      clear hb
      go_wp2_with fail
      refine (szIdeal_yes a1 ad1 n1 c1 (1048576 - n0) _ hn1 (by omega)).mono ?_
      rintro e w2 ⟨rfl, hb⟩
      have ST2 : Hid (Below w1.heap.size w1 w2) := Lib.hid (Below.trans (Below.refl _ _) (hb.mono (by first | exact Nat.le_refl _ | (simp; done) | (simp; omega))))
      have SZ2 : Hid (w1.heap.size + 0 ≤ w2.heap.size) := Lib.hid (Nat.le_trans (by simp) hb.size)
      have HB2 : Hid (Below w.heap.size w w2) := Lib.hid (HB1.out.trans (ST2.out.mono HB1.out.size))
      have BX2 := Lib.hid (BX1.out.keep hb)
      have bx2 := BX2.out
      simp only [Boxes, and_true, World.size_alloc] at bx2
      clear hb bx1
      go_wp2_with fail
      go_cut [6, 7] (fun v6 v7 wx => ∃ g ad n c, v6 = .pointer (some ⟨g, 0, none⟩) ∧ v7 = .bool b ∧ Below w2.heap.size w2 wx ∧ w2.heap.size ≤ g ∧ wx.cell? ⟨g, 0, none⟩ = some (.int .i64 p) ∧ wx.cell? ⟨g, 1, none⟩ = some (.slice ad n c) ∧ g < wx.heap.size ∧ Own 3 wx w2.heap.size ad n c ys)
      case first =>
        have hz0 : Hid (Below w2.heap.size w2 w2.drew) := Lib.hid (Below.refl _ _).drew
        have hq : w.heap.size < w2.heap.size ∧ w.heap.size + 1 < w2.heap.size := by have h1 := HB2.out.size; have h2 := SZ1.out; omega
        go_region_held3 (fun W => W.cell? ⟨w.heap.size, 0, none⟩ = some (.int .i64 a0) ∧ W.cell? ⟨w.heap.size, 1, none⟩ = some (.slice ad0 n0 c0) ∧ W.cell? ⟨w.heap.size + 1, 0, none⟩ = some (.int .i64 a1) ∧ W.cell? ⟨w.heap.size + 1, 1, none⟩ = some (.slice ad1 n1 c1)) (first | go_keep) (first | (go_simp; go_at_call 34; (with_reducible refine (toIdeal_any a0 ad0 n0 c0 xs0 _ (by first | exact Hs0.out.keep (HB2.out.trans (hz0.out.mono HB2.out.size)) | exact Hs0.out.keep (HB2.out.trans ((hz0.out.alloc hz0.out.size _).mono HB2.out.size)) | exact Hs0.out.keep (HB2.out.trans ((beld _).mono HB2.out.size))) (by omega)).mono ?_); rintro e wDW0 ⟨adDW0, nDW0, cDW0, rfl, ownDW0, hbDW0⟩; have hzA := Lib.hid (hz0.out.size); (first | (have HR := Lib.hid (HR.out.keep hbDW0); have ne0 := HR.out.ne hq.1; have ne1 := HR.out.ne hq.2; obtain ⟨rc0, rc1, rf0, rf1, _⟩ := HR.out.box) | (have HR := Lib.hid (BoxR.newe hbDW0); have ne0 := HR.out.ne hq.1; have ne1 := HR.out.ne hq.2; obtain ⟨rc0, rc1, rf0, rf1, _⟩ := HR.out.box) | (have HR := Lib.hid (BoxR.new hzA.out hbDW0); have ne0 := HR.out.ne hq.1; have ne1 := HR.out.ne hq.2; obtain ⟨rc0, rc1, rf0, rf1, _⟩ := HR.out.box) | (have HR := Lib.hid (BoxR.newd (Nat.le_refl _) hbDW0); have ne0 := HR.out.ne hq.1; have ne1 := HR.out.ne hq.2; obtain ⟨rc0, rc1, rf0, rf1, _⟩ := HR.out.box) | skip); have HDW0 : Hid (Below w2.heap.size w2 wDW0) := Lib.hid (by first | exact chain1 hz0.out hz0.out.size hbDW0 | exact chain2 hz0.out hz0.out.size hbDW0 | exact chaind hbDW0); have ODW0 := Lib.hid ownDW0; have bxDW0 := (BX2.out).keep HDW0.out; simp only [Boxes, and_true, World.size_alloc] at bxDW0; clear ownDW0 hbDW0 hzA) | (go_simp; go_at_call 34; (with_reducible refine (toIdeal_any a1 ad1 n1 c1 xs1 _ (by first | exact Hs1.out.keep (HB2.out.trans (HDW0.out.mono HB2.out.size)) | exact Hs1.out.keep (HB2.out.trans ((HDW0.out.alloc HDW0.out.size _).mono HB2.out.size)) | exact Hs1.out.keep (HB2.out.trans ((beld _).mono HB2.out.size))) (by omega)).mono ?_); rintro e wDW1 ⟨adDW1, nDW1, cDW1, rfl, ownDW1, hbDW1⟩; have hzA := Lib.hid (HDW0.out.size); (first | (have HR := Lib.hid (HR.out.keep hbDW1); have ne0 := HR.out.ne hq.1; have ne1 := HR.out.ne hq.2; obtain ⟨rc0, rc1, rf0, rf1, _⟩ := HR.out.box) | (have HR := Lib.hid (BoxR.newe hbDW1); have ne0 := HR.out.ne hq.1; have ne1 := HR.out.ne hq.2; obtain ⟨rc0, rc1, rf0, rf1, _⟩ := HR.out.box) | (have HR := Lib.hid (BoxR.new hzA.out hbDW1); have ne0 := HR.out.ne hq.1; have ne1 := HR.out.ne hq.2; obtain ⟨rc0, rc1, rf0, rf1, _⟩ := HR.out.box) | (have HR := Lib.hid (BoxR.newd (Nat.le_refl _) hbDW1); have ne0 := HR.out.ne hq.1; have ne1 := HR.out.ne hq.2; obtain ⟨rc0, rc1, rf0, rf1, _⟩ := HR.out.box) | skip); have HDW1 : Hid (Below w2.heap.size w2 wDW1) := Lib.hid (by first | exact chain1 HDW0.out HDW0.out.size hbDW1 | exact chain2 HDW0.out HDW0.out.size hbDW1 | exact chaind hbDW1); have ODW1 := Lib.hid ownDW1; (first | have ODW0_DW1 := Lib.hid (ODW0.out.keep hbDW1) | have ODW0_DW1 := Lib.hid ((ODW0.out.alloc _).keep hbDW1)); have bxDW1 := (BX2.out).keep HDW1.out; simp only [Boxes, and_true, World.size_alloc] at bxDW1; clear ownDW1 hbDW1 hzA) | (go_simp; go_at_call 51; (with_reducible refine (HS.out _ adDW0 nDW0 cDW0 (by first | exact ODW0_DW1.out.reads | exact (ODW0_DW1.out.alloc _).reads) ODW0_DW1.out.fit adDW1 nDW1 cDW1 (by first | exact ODW1.out.reads | exact (ODW1.out.alloc _).reads) ODW1.out.fit).mono ?_); rintro e wDW ⟨adDW, nDW, cDW, rfl, ownDW, hbDW⟩; have hzA := Lib.hid (HDW1.out.size); (first | (have HR := Lib.hid (HR.out.keep hbDW); have ne0 := HR.out.ne hq.1; have ne1 := HR.out.ne hq.2; obtain ⟨rc0, rc1, rf0, rf1, _⟩ := HR.out.box) | (have HR := Lib.hid (BoxR.newe hbDW); have ne0 := HR.out.ne hq.1; have ne1 := HR.out.ne hq.2; obtain ⟨rc0, rc1, rf0, rf1, _⟩ := HR.out.box) | (have HR := Lib.hid (BoxR.new hzA.out hbDW); have ne0 := HR.out.ne hq.1; have ne1 := HR.out.ne hq.2; obtain ⟨rc0, rc1, rf0, rf1, _⟩ := HR.out.box) | (have HR := Lib.hid (BoxR.newd (Nat.le_refl _) hbDW); have ne0 := HR.out.ne hq.1; have ne1 := HR.out.ne hq.2; obtain ⟨rc0, rc1, rf0, rf1, _⟩ := HR.out.box) | skip); have HDW : Hid (Below w2.heap.size w2 wDW) := Lib.hid (by first | exact chain1 HDW1.out HDW1.out.size hbDW | exact chain2 HDW1.out HDW1.out.size hbDW | exact chaind hbDW); have ODW := Lib.hid ownDW; clear ownDW; have bxDW := (BX2.out).keep HDW.out; simp only [Boxes, and_true, World.size_alloc] at bxDW; clear hbDW hzA))
        all_goals (go_wp2_with fail; go_meet)
        all_goals first | exact ⟨_, adDW, nDW, cDW, rfl, rfl, late_fin' HDW.out HDW.out.size ODW.out (by first | exact HDW1.out.size | exact chainS _ HDW1.out.size)⟩ | exact ⟨_, adDW, nDW, cDW, rfl, rfl, late_fin HDW.out HDW.out.size ODW.out (by first | exact HDW1.out.size | exact chainS _ HDW1.out.size)⟩ | exact ⟨_, adDW, nDW, cDW, rfl, rfl, HR.out.fin HDW.out ODW.out (by first | exact HDW1.out.size | exact chainS _ HDW1.out.size)⟩
      case rest =>
        obtain ⟨gW, adW, nW, cW, rfl, rfl, hbc, gleW, cx0, cx1, gltW, ownW⟩ := hcut
        obtain ⟨w3, rfl⟩ : ∃ x : World, x = wc := ⟨_, rfl⟩
        have ST3 : Hid (Below w2.heap.size w2 w3) := Lib.hid (Below.trans (Below.refl _ _) (hbc.mono (by first | exact Nat.le_refl _ | (simp; done) | (simp; omega))))
        have SZ3 : Hid (w2.heap.size + 0 ≤ w3.heap.size) := Lib.hid (Nat.le_trans (by simp) hbc.size)
        have HB3 : Hid (Below w.heap.size w w3) := Lib.hid (HB2.out.trans (ST3.out.mono HB2.out.size))
        have BX3 := Lib.hid (BX2.out.keep hbc)
        have bx3 := BX3.out
        simp only [Boxes, and_true, World.size_alloc] at bx3
        have LTW : Hid (∀ k, (Value.slice adW nW cW).ownBlock = some k → w2.heap.size + 0 ≤ k ∧ k < w3.heap.size) := Lib.hid (fun k hk => ⟨Nat.le_trans (by simp) (ownW.lt k hk).1, (ownW.lt k hk).2⟩)
        have OWW_3 := Lib.hid ownW
        clear ownW
        clear hbc bx2
        have BX3 := Lib.hid (show Boxes w3 ((gW, _, _) :: _) from ⟨⟨cx0, cx1, gltW⟩, BX3.out⟩)
        clear bx3 cx0 cx1
        have bx3 := BX3.out
        simp only [Boxes, and_true, World.size_alloc] at bx3
        go_wp2_with fail
        refine (toIdeal_any a0 ad0 n0 c0 xs0 _ (Hs0.out.keep HB3.out) (by omega)).mono ?_
        rintro e w4 ⟨adX1, nX1, cX1, rfl, ownX1, hb⟩
        have ST4 : Hid (Below w3.heap.size w3 w4) := Lib.hid (Below.trans (Below.refl _ _) (hb.mono (by first | exact Nat.le_refl _ | (simp; done) | (simp; omega))))
        have SZ4 : Hid (w3.heap.size + 0 ≤ w4.heap.size) := Lib.hid (Nat.le_trans (by simp) hb.size)
        have HB4 : Hid (Below w.heap.size w w4) := Lib.hid (HB3.out.trans (ST4.out.mono HB3.out.size))
        have BX4 := Lib.hid (BX3.out.keep hb)
        have bx4 := BX4.out
        simp only [Boxes, and_true, World.size_alloc] at bx4
        have OWW_4 := Lib.hid (OWW_3.out.keep ST4.out)
        have LTX1 : Hid (∀ k, (Value.slice adX1 nX1 cX1).ownBlock = some k → w3.heap.size + 0 ≤ k ∧ k < w4.heap.size) := Lib.hid (fun k hk => ⟨Nat.le_trans (by simp) (ownX1.lt k hk).1, (ownX1.lt k hk).2⟩)
        have OWX1_4 := Lib.hid ownX1
        clear ownX1
        clear hb bx3
        go_wp2_with fail
        refine (toIdeal_any a1 ad1 n1 c1 xs1 _ (Hs1.out.keep (HB4.out.trans ((Below.alloc (Below.refl _ _) (by first | exact Nat.le_refl _ | (simp; done) | (simp; omega)) _).mono HB4.out.size))) (by omega)).mono ?_
        rintro e w5 ⟨adX2, nX2, cX2, rfl, ownX2, hb⟩
        have ST5 : Hid (Below w4.heap.size w4 w5) := Lib.hid (Below.trans (Below.alloc (Below.refl _ _) (by first | exact Nat.le_refl _ | (simp; done) | (simp; omega)) _) (hb.mono (by first | exact Nat.le_refl _ | (simp; done) | (simp; omega))))
        have SZ5 : Hid (w4.heap.size + 1 ≤ w5.heap.size) := Lib.hid (Nat.le_trans (by simp) hb.size)
        have HB5 : Hid (Below w.heap.size w w5) := Lib.hid (HB4.out.trans (ST5.out.mono HB4.out.size))
        have BX5 := Lib.hid ((BX4.out.alloc _ _ _).keep hb)
        have bx5 := BX5.out
        simp only [Boxes, and_true, World.size_alloc] at bx5
        have OWW_5 := Lib.hid (OWW_4.out.keep ST5.out)
        have OWX1_5 := Lib.hid (OWX1_4.out.keep ST5.out)
        have LTX2 : Hid (∀ k, (Value.slice adX2 nX2 cX2).ownBlock = some k → w4.heap.size + 1 ≤ k ∧ k < w5.heap.size) := Lib.hid (fun k hk => ⟨Nat.le_trans (by simp) (ownX2.lt k hk).1, (ownX2.lt k hk).2⟩)
        have OWX2_5 := Lib.hid ownX2
        clear ownX2
        clear hb bx4
        go_wp2_with fail
        refine (HI.out _ adX1 nX1 cX1 (OWX1_5.out.reads.keep (Below.alloc (Below.refl _ _) (by first | exact Nat.le_refl _ | (simp; done) | (simp; omega)) _)) OWX1_5.out.fit adX2 nX2 cX2 (OWX2_5.out.reads.keep (Below.alloc (Below.refl _ _) (by first | exact Nat.le_refl _ | (simp; done) | (simp; omega)) _)) OWX2_5.out.fit).mono ?_
        rintro e w6 ⟨adG, nG, cG, rfl, ownG, hb⟩
        have ST6 : Hid (Below w5.heap.size w5 w6) := Lib.hid (Below.trans (Below.alloc (Below.refl _ _) (by first | exact Nat.le_refl _ | (simp; done) | (simp; omega)) _) (hb.mono (by first | exact Nat.le_refl _ | (simp; done) | (simp; omega))))
        have SZ6 : Hid (w5.heap.size + 1 ≤ w6.heap.size) := Lib.hid (Nat.le_trans (by simp) hb.size)
        have HB6 : Hid (Below w.heap.size w w6) := Lib.hid (HB5.out.trans (ST6.out.mono HB5.out.size))
        have BX6 := Lib.hid ((BX5.out.alloc _ _ _).keep hb)
        have bx6 := BX6.out
        simp only [Boxes, and_true, World.size_alloc] at bx6
        have OWW_6 := Lib.hid (OWW_5.out.keep ST6.out)
        have OWX1_6 := Lib.hid (OWX1_5.out.keep ST6.out)
        have OWX2_6 := Lib.hid (OWX2_5.out.keep ST6.out)
        have LTG : Hid (∀ k, (Value.slice adG nG cG).ownBlock = some k → w5.heap.size + 1 ≤ k ∧ k < w6.heap.size) := Lib.hid (fun k hk => ⟨Nat.le_trans (by simp) (ownG.lt k hk).1, (ownG.lt k hk).2⟩)
        have OWG_6 := Lib.hid ownG
        clear ownG
        clear hb bx5
        go_wp2_with fail
        refine (eqIdeal_yes p p adG adW nG nW cG cW ys ys _ (OWG_6.out.reads.keep (Below.alloc (Below.refl _ _) (by first | exact Nat.le_refl _ | (simp; done) | (simp; omega)) _)) (OWW_6.out.reads.keep (Below.alloc (Below.refl _ _) (by first | exact Nat.le_refl _ | (simp; done) | (simp; omega)) _)) rfl rfl).mono ?_
        rintro e w7 ⟨rfl, hb⟩
        have ST7 : Hid (Below w6.heap.size w6 w7) := Lib.hid (Below.trans (Below.alloc (Below.refl _ _) (by first | exact Nat.le_refl _ | (simp; done) | (simp; omega)) _) (hb.mono (by first | exact Nat.le_refl _ | (simp; done) | (simp; omega))))
        have SZ7 : Hid (w6.heap.size + 1 ≤ w7.heap.size) := Lib.hid (Nat.le_trans (by simp) hb.size)
        have HB7 : Hid (Below w.heap.size w w7) := Lib.hid (HB6.out.trans (ST7.out.mono HB6.out.size))
        have BX7 := Lib.hid ((BX6.out.alloc _ _ _).keep hb)
        have bx7 := BX7.out
        simp only [Boxes, and_true, World.size_alloc] at bx7
        have OWW_7 := Lib.hid (OWW_6.out.keep ST7.out)
        have OWX1_7 := Lib.hid (OWX1_6.out.keep ST7.out)
        have OWX2_7 := Lib.hid (OWX2_6.out.keep ST7.out)
        have OWG_7 := Lib.hid (OWG_6.out.keep ST7.out)
        clear hb bx6
        go_wp2_with fail
        have hsd := Lib.hid (Hs0.out.keep HB7.out.drew)
        have rdd := Lib.hid (OWX1_7.out.reads.keep (Below.drew (Below.refl _ _)))
        go_cut [58] (fun v wx => v = .bool false ∧ Below w7.heap.size w7 wx)
        case first =>
          go_region_with (first | (go_at_call 34; (with_reducible refine (toIdeal_any a0 ad0 n0 c0 xs0 _ hsd.out (by omega)).mono ?_); rintro e wz ⟨adz, nz, cz, rfl, ownz, hbz⟩; have rdz := ownz.reads; have bxz := (BX7.out.keep ((Below.refl _ _).drew)).keep hbz; simp only [Boxes, and_true, World.size_alloc] at bxz; have Hbz := Lib.hid hbz; clear ownz hbz) | (go_at_call 36; (with_reducible refine (eqIdeal_yes a0 a0 adX1 adz nX1 nz cX1 cz xs0 xs0 _ (rdd.out.keep Hbz.out) rdz rfl rfl).mono ?_); rintro e wy ⟨rfl, hby⟩))
          all_goals (go_wp2_with fail; go_meet; exact ⟨rfl, ((Below.refl _ w7).drew).trans (Below.trans Hbz.out (hby.mono Hbz.out.size))⟩)
        case rest =>
          obtain ⟨rfl, hbc⟩ := hcut
          obtain ⟨w8, rfl⟩ : ∃ x : World, x = wc := ⟨_, rfl⟩
          have ST8 : Hid (Below w7.heap.size w7 w8) := Lib.hid (Below.trans (Below.refl _ _) (hbc.mono (by first | exact Nat.le_refl _ | (simp; done) | (simp; omega))))
          have SZ8 : Hid (w7.heap.size + 0 ≤ w8.heap.size) := Lib.hid (Nat.le_trans (by simp) hbc.size)
          have HB8 : Hid (Below w.heap.size w w8) := Lib.hid (HB7.out.trans (ST8.out.mono HB7.out.size))
          have BX8 := Lib.hid (BX7.out.keep hbc)
          have bx8 := BX8.out
          simp only [Boxes, and_true, World.size_alloc] at bx8
          have OWW_8 := Lib.hid (OWW_7.out.keep ST8.out)
          have OWX1_8 := Lib.hid (OWX1_7.out.keep ST8.out)
          have OWX2_8 := Lib.hid (OWX2_7.out.keep ST8.out)
          have OWG_8 := Lib.hid (OWG_7.out.keep ST8.out)
          clear hbc bx7
          go_wp2_with fail
          have hsd := Lib.hid (Hs1.out.keep HB8.out.drew)
          have rdd := Lib.hid (OWX2_8.out.reads.keep (Below.drew (Below.refl _ _)))
          go_cut [63] (fun v wx => v = .bool false ∧ Below w8.heap.size w8 wx)
          case first =>
            go_region_with (first | (go_at_call 34; (with_reducible refine (toIdeal_any a1 ad1 n1 c1 xs1 _ hsd.out (by omega)).mono ?_); rintro e wz ⟨adz, nz, cz, rfl, ownz, hbz⟩; have rdz := ownz.reads; have bxz := (BX8.out.keep ((Below.refl _ _).drew)).keep hbz; simp only [Boxes, and_true, World.size_alloc] at bxz; have Hbz := Lib.hid hbz; clear ownz hbz) | (go_at_call 36; (with_reducible refine (eqIdeal_yes a1 a1 adX2 adz nX2 nz cX2 cz xs1 xs1 _ (rdd.out.keep Hbz.out) rdz rfl rfl).mono ?_); rintro e wy ⟨rfl, hby⟩))
            all_goals (go_wp2_with fail; go_meet; exact ⟨rfl, ((Below.refl _ w8).drew).trans (Below.trans Hbz.out (hby.mono Hbz.out.size))⟩)
          case rest =>
            obtain ⟨rfl, hbc⟩ := hcut
            obtain ⟨w9, rfl⟩ : ∃ x : World, x = wc := ⟨_, rfl⟩
            have ST9 : Hid (Below w8.heap.size w8 w9) := Lib.hid (Below.trans (Below.refl _ _) (hbc.mono (by first | exact Nat.le_refl _ | (simp; done) | (simp; omega))))
            have SZ9 : Hid (w8.heap.size + 0 ≤ w9.heap.size) := Lib.hid (Nat.le_trans (by simp) hbc.size)
            have HB9 : Hid (Below w.heap.size w w9) := Lib.hid (HB8.out.trans (ST9.out.mono HB8.out.size))
            have BX9 := Lib.hid (BX8.out.keep hbc)
            have bx9 := BX9.out
            simp only [Boxes, and_true, World.size_alloc] at bx9
            have OWW_9 := Lib.hid (OWW_8.out.keep ST9.out)
            have OWX1_9 := Lib.hid (OWX1_8.out.keep ST9.out)
            have OWX2_9 := Lib.hid (OWX2_8.out.keep ST9.out)
            have OWG_9 := Lib.hid (OWG_8.out.keep ST9.out)
            clear hbc bx8
            have lnx0 : nX1 ≤ 1048576 := by have h1 := OWX1_9.out.len; have h2 := Hs0.out.len; omega
            go_wp2_with fail
            refine (markIdeal_any _ a0 adX1 nX1 cX1 (1) xs0 _ OWX1_9.out (by have := Hs0.out.len; omega) (by have := OWX1_9.out.len; have := Hs0.out.len; omega)).mono ?_
            rintro e w10 ⟨rfl, ownX1, hg⟩
            have HB10 : Hid (Below w.heap.size w w10) := Lib.hid (HB9.out.grown hg HB9.out.size (fun k hk => by have h1 := LTX1.out k hk; have z1 := SZ1.out; have z2 := SZ2.out; have z3 := SZ3.out; have z4 := SZ4.out; have z5 := SZ5.out; have z6 := SZ6.out; have z7 := SZ7.out; have z8 := SZ8.out; have z9 := SZ9.out; omega))
            have BX10 := Lib.hid (BX9.out.grown hg (fun k hk b hb => by have h1 := LTX1.out k hk; have z1 := SZ1.out; have z2 := SZ2.out; have z3 := SZ3.out; have z4 := SZ4.out; have z5 := SZ5.out; have z6 := SZ6.out; have z7 := SZ7.out; have z8 := SZ8.out; have z9 := SZ9.out;  simp only [List.mem_cons, List.not_mem_nil, or_false] at hb; rcases hb with rfl | rfl | rfl | rfl | rfl | rfl <;> simp only [World.size_alloc] <;> omega))
            have bx10 := BX10.out
            simp only [Boxes, and_true, World.size_alloc] at bx10
            have OWW_10 := Lib.hid (OWW_9.out.grownNe hg (fun k hk k2 hk2 => by have h1 := LTX1.out k hk; have h2 := LTW.out k2 hk2; have z1 := SZ1.out; have z2 := SZ2.out; have z3 := SZ3.out; have z4 := SZ4.out; have z5 := SZ5.out; have z6 := SZ6.out; have z7 := SZ7.out; have z8 := SZ8.out; have z9 := SZ9.out;  omega))
            have OWX1_10 := Lib.hid ownX1
            have OWX2_10 := Lib.hid (OWX2_9.out.grownNe hg (fun k hk k2 hk2 => by have h1 := LTX1.out k hk; have h2 := LTX2.out k2 hk2; have z1 := SZ1.out; have z2 := SZ2.out; have z3 := SZ3.out; have z4 := SZ4.out; have z5 := SZ5.out; have z6 := SZ6.out; have z7 := SZ7.out; have z8 := SZ8.out; have z9 := SZ9.out;  omega))
            have OWG_10 := Lib.hid (OWG_9.out.grownNe hg (fun k hk k2 hk2 => by have h1 := LTX1.out k hk; have h2 := LTG.out k2 hk2; have z1 := SZ1.out; have z2 := SZ2.out; have z3 := SZ3.out; have z4 := SZ4.out; have z5 := SZ5.out; have z6 := SZ6.out; have z7 := SZ7.out; have z8 := SZ8.out; have z9 := SZ9.out;  omega))
            have SZ10 : Hid (w9.heap.size ≤ w10.heap.size) := Lib.hid hg.size
            clear hg ownX1 bx9
            have lnx1 : nX2 ≤ 1048576 := by have h1 := OWX2_10.out.len; have h2 := Hs1.out.len; omega
            go_wp2_with fail
            refine (markIdeal_any _ a1 adX2 nX2 cX2 (1 + nX1) xs1 _ OWX2_10.out (by omega) (by have := OWX2_10.out.len; have := Hs1.out.len; omega)).mono ?_
            rintro e w11 ⟨rfl, ownX2, hg⟩
            have HB11 : Hid (Below w.heap.size w w11) := Lib.hid (HB10.out.grown hg HB10.out.size (fun k hk => by have h1 := LTX2.out k hk; have z1 := SZ1.out; have z2 := SZ2.out; have z3 := SZ3.out; have z4 := SZ4.out; have z5 := SZ5.out; have z6 := SZ6.out; have z7 := SZ7.out; have z8 := SZ8.out; have z9 := SZ9.out; have z10 := SZ10.out; omega))
            have BX11 := Lib.hid (BX10.out.grown hg (fun k hk b hb => by have h1 := LTX2.out k hk; have z1 := SZ1.out; have z2 := SZ2.out; have z3 := SZ3.out; have z4 := SZ4.out; have z5 := SZ5.out; have z6 := SZ6.out; have z7 := SZ7.out; have z8 := SZ8.out; have z9 := SZ9.out; have z10 := SZ10.out;  simp only [List.mem_cons, List.not_mem_nil, or_false] at hb; rcases hb with rfl | rfl | rfl | rfl | rfl | rfl <;> simp only [World.size_alloc] <;> omega))
            have bx11 := BX11.out
            simp only [Boxes, and_true, World.size_alloc] at bx11
            have OWW_11 := Lib.hid (OWW_10.out.grownNe hg (fun k hk k2 hk2 => by have h1 := LTX2.out k hk; have h2 := LTW.out k2 hk2; have z1 := SZ1.out; have z2 := SZ2.out; have z3 := SZ3.out; have z4 := SZ4.out; have z5 := SZ5.out; have z6 := SZ6.out; have z7 := SZ7.out; have z8 := SZ8.out; have z9 := SZ9.out; have z10 := SZ10.out;  omega))
            have OWX1_11 := Lib.hid (OWX1_10.out.grownNe hg (fun k hk k2 hk2 => by have h1 := LTX2.out k hk; have h2 := LTX1.out k2 hk2; have z1 := SZ1.out; have z2 := SZ2.out; have z3 := SZ3.out; have z4 := SZ4.out; have z5 := SZ5.out; have z6 := SZ6.out; have z7 := SZ7.out; have z8 := SZ8.out; have z9 := SZ9.out; have z10 := SZ10.out;  omega))
            have OWX2_11 := Lib.hid ownX2
            have OWG_11 := Lib.hid (OWG_10.out.grownNe hg (fun k hk k2 hk2 => by have h1 := LTX2.out k hk; have h2 := LTG.out k2 hk2; have z1 := SZ1.out; have z2 := SZ2.out; have z3 := SZ3.out; have z4 := SZ4.out; have z5 := SZ5.out; have z6 := SZ6.out; have z7 := SZ7.out; have z8 := SZ8.out; have z9 := SZ9.out; have z10 := SZ10.out;  omega))
            have SZ11 : Hid (w10.heap.size ≤ w11.heap.size) := Lib.hid hg.size
            clear hg ownX2 bx10
            go_wp2_with fail
            refine (eqIdeal_yes p p adG adW nG nW cG cW ys ys _ (OWG_11.out.reads.keep (Below.refl _ _)) (OWW_11.out.reads.keep (Below.refl _ _)) rfl rfl).mono ?_
            rintro e w12 ⟨rfl, hb⟩
            have ST12 : Hid (Below w11.heap.size w11 w12) := Lib.hid (Below.trans (Below.refl _ _) (hb.mono (by first | exact Nat.le_refl _ | (simp; done) | (simp; omega))))
            have SZ12 : Hid (w11.heap.size + 0 ≤ w12.heap.size) := Lib.hid (Nat.le_trans (by simp) hb.size)
            have HB12 : Hid (Below w.heap.size w w12) := Lib.hid (HB11.out.trans (ST12.out.mono HB11.out.size))
            have BX12 := Lib.hid (BX11.out.keep hb)
            have bx12 := BX12.out
            simp only [Boxes, and_true, World.size_alloc] at bx12
            have OWW_12 := Lib.hid (OWW_11.out.keep ST12.out)
            have OWX1_12 := Lib.hid (OWX1_11.out.keep ST12.out)
            have OWX2_12 := Lib.hid (OWX2_11.out.keep ST12.out)
            have OWG_12 := Lib.hid (OWG_11.out.keep ST12.out)
            clear hb bx11
            have Hng := Lib.hid (show nG ≤ 1099511627776 by have h1 := OWG_12.out.len; have h2 := Hbd.out; omega)
            go_wp2_with fail
            refine (markIdeal_any _ p adG nG cG 1 ys _ OWG_12.out (by omega) Hng.out).mono ?_
            rintro e w13 ⟨rfl, ownG, hg⟩
            have HB13 : Hid (Below w.heap.size w w13) := Lib.hid (HB12.out.grown hg HB12.out.size (fun k hk => by have h1 := LTG.out k hk; have z1 := SZ1.out; have z2 := SZ2.out; have z3 := SZ3.out; have z4 := SZ4.out; have z5 := SZ5.out; have z6 := SZ6.out; have z7 := SZ7.out; have z8 := SZ8.out; have z9 := SZ9.out; have z10 := SZ10.out; have z11 := SZ11.out; have z12 := SZ12.out; omega))
            have BX13 := Lib.hid (BX12.out.grown hg (fun k hk b hb => by have h1 := LTG.out k hk; have z1 := SZ1.out; have z2 := SZ2.out; have z3 := SZ3.out; have z4 := SZ4.out; have z5 := SZ5.out; have z6 := SZ6.out; have z7 := SZ7.out; have z8 := SZ8.out; have z9 := SZ9.out; have z10 := SZ10.out; have z11 := SZ11.out; have z12 := SZ12.out;  simp only [List.mem_cons, List.not_mem_nil, or_false] at hb; rcases hb with rfl | rfl | rfl | rfl | rfl | rfl <;> simp only [World.size_alloc] <;> omega))
            have bx13 := BX13.out
            simp only [Boxes, and_true, World.size_alloc] at bx13
            have OWW_13 := Lib.hid (OWW_12.out.grownNe hg (fun k hk k2 hk2 => by have h1 := LTG.out k hk; have h2 := LTW.out k2 hk2; have z1 := SZ1.out; have z2 := SZ2.out; have z3 := SZ3.out; have z4 := SZ4.out; have z5 := SZ5.out; have z6 := SZ6.out; have z7 := SZ7.out; have z8 := SZ8.out; have z9 := SZ9.out; have z10 := SZ10.out; have z11 := SZ11.out; have z12 := SZ12.out;  omega))
            have OWG_13 := Lib.hid ownG
            have SZ13 : Hid (w12.heap.size ≤ w13.heap.size) := Lib.hid hg.size
            clear hg ownG bx12
            go_wp2_with fail
            refine (heldIdeal_yes p adG nG cG 1 _ _ (OWG_13.out.reads.keep (Below.refl _ _)) rfl (by omega) Hng.out).mono ?_
            rintro e w14 ⟨rfl, hb⟩
            have ST14 : Hid (Below w13.heap.size w13 w14) := Lib.hid (Below.trans (Below.refl _ _) (hb.mono (by first | exact Nat.le_refl _ | (simp; done) | (simp; omega))))
            have SZ14 : Hid (w13.heap.size + 0 ≤ w14.heap.size) := Lib.hid (Nat.le_trans (by simp) hb.size)
            have HB14 : Hid (Below w.heap.size w w14) := Lib.hid (HB13.out.trans (ST14.out.mono HB13.out.size))
            have BX14 := Lib.hid (BX13.out.keep hb)
            have bx14 := BX14.out
            simp only [Boxes, and_true, World.size_alloc] at bx14
            have OWW_14 := Lib.hid (OWW_13.out.keep ST14.out)
            have OWG_14 := Lib.hid (OWG_13.out.keep ST14.out)
            clear hb bx13
            go_wp2_with fail
            go_cut [15, 16] (fun v6 v7 wx => ∃ g ad n c, v6 = .pointer (some ⟨g, 0, none⟩) ∧ v7 = .bool b ∧ Below w14.heap.size w14 wx ∧ w14.heap.size ≤ g ∧ wx.cell? ⟨g, 0, none⟩ = some (.int .i64 p) ∧ wx.cell? ⟨g, 1, none⟩ = some (.slice ad n c) ∧ g < wx.heap.size ∧ Own 3 wx w14.heap.size ad n c ys)
            case first =>
              have hz0 : Hid (Below w14.heap.size w14 w14.drew) := Lib.hid (Below.refl _ _).drew
              have hq : w.heap.size < w14.heap.size ∧ w.heap.size + 1 < w14.heap.size := by have h1 := HB14.out.size; have h2 := SZ1.out; omega
              go_region_held3 (fun W => W.cell? ⟨w.heap.size, 0, none⟩ = some (.int .i64 a0) ∧ W.cell? ⟨w.heap.size, 1, none⟩ = some (.slice ad0 n0 c0) ∧ W.cell? ⟨w.heap.size + 1, 0, none⟩ = some (.int .i64 a1) ∧ W.cell? ⟨w.heap.size + 1, 1, none⟩ = some (.slice ad1 n1 c1)) (first | go_keep) (first | (go_simp; go_at_call 34; (with_reducible refine (toIdeal_any a0 ad0 n0 c0 xs0 _ (by first | exact Hs0.out.keep (HB14.out.trans (hz0.out.mono HB14.out.size)) | exact Hs0.out.keep (HB14.out.trans ((hz0.out.alloc hz0.out.size _).mono HB14.out.size)) | exact Hs0.out.keep (HB14.out.trans ((beld _).mono HB14.out.size))) (by omega)).mono ?_); rintro e wDH0 ⟨adDH0, nDH0, cDH0, rfl, ownDH0, hbDH0⟩; have hzA := Lib.hid (hz0.out.size); (first | (have HR := Lib.hid (HR.out.keep hbDH0); have ne0 := HR.out.ne hq.1; have ne1 := HR.out.ne hq.2; obtain ⟨rc0, rc1, rf0, rf1, _⟩ := HR.out.box) | (have HR := Lib.hid (BoxR.newe hbDH0); have ne0 := HR.out.ne hq.1; have ne1 := HR.out.ne hq.2; obtain ⟨rc0, rc1, rf0, rf1, _⟩ := HR.out.box) | (have HR := Lib.hid (BoxR.new hzA.out hbDH0); have ne0 := HR.out.ne hq.1; have ne1 := HR.out.ne hq.2; obtain ⟨rc0, rc1, rf0, rf1, _⟩ := HR.out.box) | (have HR := Lib.hid (BoxR.newd (Nat.le_refl _) hbDH0); have ne0 := HR.out.ne hq.1; have ne1 := HR.out.ne hq.2; obtain ⟨rc0, rc1, rf0, rf1, _⟩ := HR.out.box) | skip); have HDH0 : Hid (Below w14.heap.size w14 wDH0) := Lib.hid (by first | exact chain1 hz0.out hz0.out.size hbDH0 | exact chain2 hz0.out hz0.out.size hbDH0 | exact chaind hbDH0); have ODH0 := Lib.hid ownDH0; have bxDH0 := (BX14.out).keep HDH0.out; simp only [Boxes, and_true, World.size_alloc] at bxDH0; clear ownDH0 hbDH0 hzA) | (go_simp; go_at_call 34; (with_reducible refine (toIdeal_any a1 ad1 n1 c1 xs1 _ (by first | exact Hs1.out.keep (HB14.out.trans (HDH0.out.mono HB14.out.size)) | exact Hs1.out.keep (HB14.out.trans ((HDH0.out.alloc HDH0.out.size _).mono HB14.out.size)) | exact Hs1.out.keep (HB14.out.trans ((beld _).mono HB14.out.size))) (by omega)).mono ?_); rintro e wDH1 ⟨adDH1, nDH1, cDH1, rfl, ownDH1, hbDH1⟩; have hzA := Lib.hid (HDH0.out.size); (first | (have HR := Lib.hid (HR.out.keep hbDH1); have ne0 := HR.out.ne hq.1; have ne1 := HR.out.ne hq.2; obtain ⟨rc0, rc1, rf0, rf1, _⟩ := HR.out.box) | (have HR := Lib.hid (BoxR.newe hbDH1); have ne0 := HR.out.ne hq.1; have ne1 := HR.out.ne hq.2; obtain ⟨rc0, rc1, rf0, rf1, _⟩ := HR.out.box) | (have HR := Lib.hid (BoxR.new hzA.out hbDH1); have ne0 := HR.out.ne hq.1; have ne1 := HR.out.ne hq.2; obtain ⟨rc0, rc1, rf0, rf1, _⟩ := HR.out.box) | (have HR := Lib.hid (BoxR.newd (Nat.le_refl _) hbDH1); have ne0 := HR.out.ne hq.1; have ne1 := HR.out.ne hq.2; obtain ⟨rc0, rc1, rf0, rf1, _⟩ := HR.out.box) | skip); have HDH1 : Hid (Below w14.heap.size w14 wDH1) := Lib.hid (by first | exact chain1 HDH0.out HDH0.out.size hbDH1 | exact chain2 HDH0.out HDH0.out.size hbDH1 | exact chaind hbDH1); have ODH1 := Lib.hid ownDH1; (first | have ODH0_DH1 := Lib.hid (ODH0.out.keep hbDH1) | have ODH0_DH1 := Lib.hid ((ODH0.out.alloc _).keep hbDH1)); have bxDH1 := (BX14.out).keep HDH1.out; simp only [Boxes, and_true, World.size_alloc] at bxDH1; clear ownDH1 hbDH1 hzA) | (go_simp; go_at_call 52; (with_reducible refine (HI.out _ adDH0 nDH0 cDH0 (by first | exact ODH0_DH1.out.reads | exact (ODH0_DH1.out.alloc _).reads) ODH0_DH1.out.fit adDH1 nDH1 cDH1 (by first | exact ODH1.out.reads | exact (ODH1.out.alloc _).reads) ODH1.out.fit).mono ?_); rintro e wDH ⟨adDH, nDH, cDH, rfl, ownDH, hbDH⟩; have hzA := Lib.hid (HDH1.out.size); (first | (have HR := Lib.hid (HR.out.keep hbDH); have ne0 := HR.out.ne hq.1; have ne1 := HR.out.ne hq.2; obtain ⟨rc0, rc1, rf0, rf1, _⟩ := HR.out.box) | (have HR := Lib.hid (BoxR.newe hbDH); have ne0 := HR.out.ne hq.1; have ne1 := HR.out.ne hq.2; obtain ⟨rc0, rc1, rf0, rf1, _⟩ := HR.out.box) | (have HR := Lib.hid (BoxR.new hzA.out hbDH); have ne0 := HR.out.ne hq.1; have ne1 := HR.out.ne hq.2; obtain ⟨rc0, rc1, rf0, rf1, _⟩ := HR.out.box) | (have HR := Lib.hid (BoxR.newd (Nat.le_refl _) hbDH); have ne0 := HR.out.ne hq.1; have ne1 := HR.out.ne hq.2; obtain ⟨rc0, rc1, rf0, rf1, _⟩ := HR.out.box) | skip); have HDH : Hid (Below w14.heap.size w14 wDH) := Lib.hid (by first | exact chain1 HDH1.out HDH1.out.size hbDH | exact chain2 HDH1.out HDH1.out.size hbDH | exact chaind hbDH); have ODH := Lib.hid ownDH; clear ownDH; have bxDH := (BX14.out).keep HDH.out; simp only [Boxes, and_true, World.size_alloc] at bxDH; clear hbDH hzA))
              all_goals (go_wp2_with fail; go_meet)
              all_goals first | exact ⟨_, adDH, nDH, cDH, rfl, rfl, late_fin' HDH.out HDH.out.size ODH.out (by first | exact HDH1.out.size | exact chainS _ HDH1.out.size)⟩ | exact ⟨_, adDH, nDH, cDH, rfl, rfl, late_fin HDH.out HDH.out.size ODH.out (by first | exact HDH1.out.size | exact chainS _ HDH1.out.size)⟩ | exact ⟨_, adDH, nDH, cDH, rfl, rfl, HR.out.fin HDH.out ODH.out (by first | exact HDH1.out.size | exact chainS _ HDH1.out.size)⟩
            case rest =>
              obtain ⟨gH, adH, nH, cH, rfl, rfl, hbc, gleH, cx0, cx1, gltH, ownH⟩ := hcut
              obtain ⟨w15, rfl⟩ : ∃ x : World, x = wc := ⟨_, rfl⟩
              have ST15 : Hid (Below w14.heap.size w14 w15) := Lib.hid (Below.trans (Below.refl _ _) (hbc.mono (by first | exact Nat.le_refl _ | (simp; done) | (simp; omega))))
              have SZ15 : Hid (w14.heap.size + 0 ≤ w15.heap.size) := Lib.hid (Nat.le_trans (by simp) hbc.size)
              have HB15 : Hid (Below w.heap.size w w15) := Lib.hid (HB14.out.trans (ST15.out.mono HB14.out.size))
              have BX15 := Lib.hid (BX14.out.keep hbc)
              have bx15 := BX15.out
              simp only [Boxes, and_true, World.size_alloc] at bx15
              have OWW_15 := Lib.hid (OWW_14.out.keep ST15.out)
              have OWG_15 := Lib.hid (OWG_14.out.keep ST15.out)
              have LTH : Hid (∀ k, (Value.slice adH nH cH).ownBlock = some k → w14.heap.size + 0 ≤ k ∧ k < w15.heap.size) := Lib.hid (fun k hk => ⟨Nat.le_trans (by simp) (ownH.lt k hk).1, (ownH.lt k hk).2⟩)
              have OWH_15 := Lib.hid ownH
              clear ownH
              clear hbc bx14
              have BX15 := Lib.hid (show Boxes w15 ((gH, _, _) :: _) from ⟨⟨cx0, cx1, gltH⟩, BX15.out⟩)
              clear bx15 cx0 cx1
              have bx15 := BX15.out
              simp only [Boxes, and_true, World.size_alloc] at bx15
              go_wp2_with fail
              refine (eqIdeal_yes p p adH adW nH nW cH cW ys ys _ (OWH_15.out.reads.keep (Below.refl _ _)) (OWW_15.out.reads.keep (Below.refl _ _)) rfl rfl).mono ?_
              rintro e w16 ⟨rfl, hb⟩
              have ST16 : Hid (Below w15.heap.size w15 w16) := Lib.hid (Below.trans (Below.refl _ _) (hb.mono (by first | exact Nat.le_refl _ | (simp; done) | (simp; omega))))
              have SZ16 : Hid (w15.heap.size + 0 ≤ w16.heap.size) := Lib.hid (Nat.le_trans (by simp) hb.size)
              have HB16 : Hid (Below w.heap.size w w16) := Lib.hid (HB15.out.trans (ST16.out.mono HB15.out.size))
              have BX16 := Lib.hid (BX15.out.keep hb)
              have bx16 := BX16.out
              simp only [Boxes, and_true, World.size_alloc] at bx16
              have OWW_16 := Lib.hid (OWW_15.out.keep ST16.out)
              have OWG_16 := Lib.hid (OWG_15.out.keep ST16.out)
              have OWH_16 := Lib.hid (OWH_15.out.keep ST16.out)
              clear hb bx15
              go_wp2_with fail
              refine (heldIdeal_yes p adG nG cG 1 _ _ (OWG_16.out.reads.keep (Below.refl _ _)) rfl (by omega) Hng.out).mono ?_
              rintro e w17 ⟨rfl, hb⟩
              have ST17 : Hid (Below w16.heap.size w16 w17) := Lib.hid (Below.trans (Below.refl _ _) (hb.mono (by first | exact Nat.le_refl _ | (simp; done) | (simp; omega))))
              have SZ17 : Hid (w16.heap.size + 0 ≤ w17.heap.size) := Lib.hid (Nat.le_trans (by simp) hb.size)
              have HB17 : Hid (Below w.heap.size w w17) := Lib.hid (HB16.out.trans (ST17.out.mono HB16.out.size))
              have BX17 := Lib.hid (BX16.out.keep hb)
              have bx17 := BX17.out
              simp only [Boxes, and_true, World.size_alloc] at bx17
              have OWW_17 := Lib.hid (OWW_16.out.keep ST17.out)
              have OWG_17 := Lib.hid (OWG_16.out.keep ST17.out)
              have OWH_17 := Lib.hid (OWH_16.out.keep ST17.out)
              clear hb bx16
              go_wp2_with fail
              go_ret
              exact ⟨rfl, HB17.out⟩
    · have hbig1 : (1048576 - n0) < n1 := by omega
      clear hn1
      have hsm0 := Hs0.out.small
      have hsm1 := Hs1.out.small
      go_enter Try.func11, Try.ntmps11
      go_wp2_with fail
      refine (szIdeal_yes a0 ad0 n0 c0 1048576 _ hn0 (by omega)).mono ?_
      rintro e w1 ⟨rfl, hb1⟩
      have HB1 : Hid (Below w.heap.size w w1) := Lib.hid (Below.trans (by repeat (first | exact Below.refl _ _ | assumption | refine Below.setCell ?_ (by first | omega | (simp; done) | (simp; omega)) _ | refine Below.alloc ?_ (by first | omega | (simp; done) | (simp; omega)) _ | apply Below.drew)) (hb1.mono (by simp <;> omega)))
      have BX1 := Lib.hid ((((Boxes.nil w).alloc _ _ _).alloc _ _ _).keep hb1)
      have bx1 := BX1.out
      simp only [Boxes, and_true, World.size_alloc] at bx1
      clear hb1
      go_wp2_with fail
      refine (szIdeal_no a1 ad1 n1 c1 (1048576 - n0) _ hbig1 (by omega) hsm1).mono ?_
      rintro e w2 ⟨rfl, hb2⟩
      have HB2 : Hid (Below w.heap.size w w2) := Lib.hid (HB1.out.trans (hb2.mono HB1.out.size))
      have BX2 := Lib.hid ((BX1.out).keep hb2)
      have bx2 := BX2.out
      simp only [Boxes, and_true, World.size_alloc] at bx2
      clear hb2
      go_wp2_with fail
      go_ret
      exact ⟨rfl, HB2.out⟩
  · have hbig0 : 1048576 < n0 := by omega
    clear hn0
    have hsm0 := Hs0.out.small
    have hsm1 := Hs1.out.small
    go_enter Try.func11, Try.ntmps11
    go_wp2_with fail
    refine (szIdeal_no a0 ad0 n0 c0 1048576 _ hbig0 (by omega) hsm0).mono ?_
    rintro e w1 ⟨rfl, hb1⟩
    have HB1 : Hid (Below w.heap.size w w1) := Lib.hid (Below.trans (by repeat (first | exact Below.refl _ _ | assumption | refine Below.setCell ?_ (by first | omega | (simp; done) | (simp; omega)) _ | refine Below.alloc ?_ (by first | omega | (simp; done) | (simp; omega)) _ | apply Below.drew)) (hb1.mono (by simp <;> omega)))
    have BX1 := Lib.hid ((((Boxes.nil w).alloc _ _ _).alloc _ _ _).keep hb1)
    have bx1 := BX1.out
    simp only [Boxes, and_true, World.size_alloc] at bx1
    clear hb1
    go_wp2_with fail
    go_ret
    exact ⟨rfl, HB1.out⟩

set_option maxRecDepth 100000 in
theorem lifted (os : Os) (started : os.Started) (H : Type) (enc : TypeId × Value → H) :
    ReturnsInHanded {} Try.checked os 11 .any (Rows.fnExactMeetIdealsSpec.pre6 enc Try.prog Try.f11 Rows.fnExactMeetIdealsRow.domain false) (Rows.fnExactMeetIdealsSpec.post enc Try.prog Try.f11 false true false false) := by
  refine returnsInHanded_of_change (C := Try.checked) own started (by kernel_rfl) Try.func11
    (ChangeSpec.witness6 (enc := enc) (C := Try.checked) false ⟨#[], #[.agg #[.int .i64 0, .slice none 0 0], .agg #[.int .i64 0, .slice none 0 0]], []⟩ 8 (by kernel_rfl) (by kernel_rfl) (by kernel_rfl) (by kernel_rfl)) ?_
  intro W base args ds gs before hval0 hW hcnd _
  have hval : ∀ (j : Nat) t v, Try.f11.params[j]? = some t → args[j]? = some v → Value.okWide Try.prog W .any base t v := hval0
  have hW2 := hW
  obtain ⟨p, q, hA0, hV, hpq, hfz, hnd⟩ := hW
  have hA : DataW.TrodAll enc Try.prog W 0 (fun _ => true) true Try.f11.params.toList args.toList ds p := hA0
  rw [Try.params11] at hA hval
  obtain ⟨v0, vs0, d0, ds0, p0, q0, hargs, rfl, hp0, h0, r0⟩ := trodAll_cons hA
  obtain ⟨v1, vs1, d1, ds1, p1, q1, rfl, rfl, hp1, h1, r1⟩ := trodAll_cons r0
  obtain ⟨rfl, rfl, _⟩ := trodAll_nil r1
  obtain rfl : args = #[v0, v1] := by cases args; simp_all
  have hgs : gs = [] := (trodVars_none hV).1
  subst hgs
  obtain ⟨u0, z0, y0, x0, m0, rfl, rfl, _, hy0, hx0⟩ := Joins.open_agg2 Try.underlying49 (by kernel_rfl) (show Try.prog.cellsOf 49 = 2 by kernel_rfl) (hval 0 49 v0 rfl rfl) h0
  obtain ⟨a0, e0, _, w0⟩ := DataW.trod_int Try.underlying3 hy0
  simp only [List.cons.injEq, and_true] at e0
  subst e0
  obtain ⟨ad0, n0, c0, xs0, rfl, hs0, wl0⟩ := open_row hx0
  obtain ⟨u1, z1, y1, x1, m1, rfl, rfl, _, hy1, hx1⟩ := Joins.open_agg2 Try.underlying49 (by kernel_rfl) (show Try.prog.cellsOf 49 = 2 by kernel_rfl) (hval 1 49 v1 rfl rfl) h1
  obtain ⟨a1, e1, _, w1⟩ := DataW.trod_int Try.underlying3 hy1
  simp only [List.cons.injEq, and_true] at e1
  subst e1
  obtain ⟨ad1, n1, c1, xs1, rfl, hs1, wl1⟩ := open_row hx1
  refine (walk W a0 w0 ad0 n0 c0 xs0 hs0 wl0 a1 w1 ad1 n1 c1 xs1 hs1 wl1).mono fun e W2 ⟨he, hb⟩ => ?_
  subst he
  exact ⟨_, rfl, law_post rfl hW2 (by kernel_rfl) rfl rfl rfl rfl hb⟩

theorem over : Rows.fnExactMeetIdealsRow.holds Try.pinned (OpenSpec.ofChange Rows.fnExactMeetIdealsSpec) :=
  OpenClaim.holds_of_wide 11 Try.f11 rfl rfl rfl rfl rfl rfl rfl ⟨rfl, rfl, rfl, rfl, rfl⟩ rfl rfl rfl rfl rfl (by kernel_rfl) Try.func11 (by kernel_rfl)
    (of_decide_eq_true (by kernel_rfl)) (by unfold Func.isWrapper; first | (rw [if_pos (by decide +kernel)]; kernel_rfl) | (rw [if_neg (by decide +kernel)]; exact ⟨rfl, rfl⟩))
    (fun os started H enc _ => lifted os started H enc)

/-- THE STATEMENT -/
theorem proved : Rows.FnExactMeetIdealsSaid := over
end Go.Proofs.Ytfhegdgpcjhoaaa.lawMeetIdeals

/- The law FnExactLeftMonomials: for all arguments the program's LeftMonomials returns what the reference's returns. No condition. -/
import Derived.Test.YtikehbbggdmcfaaMono5
import Derived.Test.YtikehbbggdmcfaaFrame
import Derived.Test.YtikehbbggdmcfaaHelpS
import Derived.Deep.RegionWith
import Derived.Deep.DeepCutAuto
namespace Go.Proofs.Ytikehbbggdmcfaa.lawLeftMonomials
open Go.ChangeShapes Go.WideShapes Go.ChangeAt Go.RowKit
set_option linter.unusedVariables false
set_option linter.unusedSimpArgs false

theorem same (a0 : Int) (xs : List Int) (hl : xs.length ≤ 1048576) (a1 : Int) : ∃ L : List (List Int),
    (∀ W ad n c, IntsAt W ad n xs → n ≤ c → Calls Try.prog 6 #[.agg #[.int .i64 a0, .slice ad n c], .int .i64 a1] W (RetInts2 W L)) ∧
    (∀ W ad n c, IntsAt W ad n xs → n ≤ c → Calls Try.prog 8 #[.agg #[.int .i64 a0, .slice ad n c], .int .i64 a1] W (RetInts2 W L)) ∧ (L.length ≤ 1048576 ∧ tot2 L ≤ 1048576) := by
  by_cases hL : LeftP a0 xs a1
  · obtain ⟨h, hd0, hd4⟩ := id hL
    obtain ⟨l, rfl, hl2, hs, _⟩ := h.nat
    obtain ⟨m, rfl⟩ := Int.eq_ofNat_of_zero_le (show 0 ≤ a0 by have := h.1; omega)
    obtain ⟨d, rfl⟩ := Int.eq_ofNat_of_zero_le hd0
    have hm : m ≤ 6 := by have := h.2.1; omega
    have h1 : 1 ≤ m := by have := h.1; omega
    have hl64 : ∀ t ∈ l, t < 64 := fun t ht => (hl2 t ht).2
    obtain ⟨hM1, hM2⟩ := mono_sizes hm h1 (show d ≤ 5 by omega)
    refine ⟨pickL (fun e => isFace l (suppOf e)) (monoL (m - 1) [] d), fun W ad n c hx hc => sLeftM_yes m ad n c l d W hx h1 hm (by omega) h hl64, fun W ad n c hx hc => iLeftM_yes m ad n c l d W hx hc h1 hm (by omega) h hl64, ?_⟩
    have hlen : (pickL (fun e => isFace l (suppOf e)) (monoL (m - 1) [] d)).length ≤ 8000 := by
      unfold pickL; rw [List.length_map]; exact Nat.le_trans (pickI_len _ _ _) hM1
    refine ⟨by omega, ?_⟩
    have h9 := totTo_le (L := pickL (fun e => isFace l (suppOf e)) (monoL (m - 1) [] d)) (M := 6) (fun x hx => by rw [hM2 x (pickL_mem x hx)]; exact hm) _ (Nat.le_refl _)
    unfold tot2; omega
  · exact ⟨[], fun W ad n c hx hc => sLeftM_no a0 ad n c xs a1 W hx hL, fun W ad n c hx hc => iLeftM_no a0 ad n c xs a1 W hx hc hL, by simp, by simp [tot2, totTo]⟩

set_option maxRecDepth 100000 in
set_option maxHeartbeats 4000000 in
theorem walk (w : World) (a0 : Int) (wf0 : (Lit.int .i64 a0).wf = true) (ad0 : Option Addr) (n0 c0 : Nat) (xs0 : List Int) (hs0 : IntsAt w ad0 n0 xs0) (wl0 : ∀ y ∈ xs0, (Lit.int .i64 y).wf = true) (a1 : Int) (wf1 : (Lit.int .i64 a1).wf = true) :
    Calls Try.prog 3 #[.agg #[.int .i64 a0, .slice ad0 n0 c0], .int .i64 a1] w fun e w' => e = .returned (.bool true) ∧ Below w.heap.size w w' := by
  clear wf0 wl0
  have Hs0 := Lib.hid hs0; clear hs0
  clear wf1
  by_cases hn0 : n0 ≤ 1048576
  · have hl0 : xs0.length ≤ 1048576 := by rw [Hs0.out.len]; omega
    obtain ⟨L, hS, hI, hbd⟩ := same a0 xs0 hl0 a1
    have HS := Lib.hid hS; have HI := Lib.hid hI
    clear hS hI
    have Hbd := Lib.hid hbd; clear hbd
    clear hl0
    go_enter Try.func3, Try.ntmps3
    go_wp2_with fail
    refine (szComplex_yes a0 ad0 n0 c0 1048576 _ hn0 (by omega)).mono ?_
    rintro e w1 ⟨rfl, hb⟩
    have ST1 : Hid (Below w.heap.size w w1) := Lib.hid (Below.trans (Below.alloc (Below.refl _ _) (by first | exact Nat.le_refl _ | (simp; done) | (simp; omega)) _) (hb.mono (by first | exact Nat.le_refl _ | (simp; done) | (simp; omega))))
    have SZ1 : Hid (w.heap.size + 1 ≤ w1.heap.size) := Lib.hid (Nat.le_trans (by simp) hb.size)
    have HB1 : Hid (Below w.heap.size w w1) := ST1
    have BX1 := Lib.hid (((Boxes.nil w).alloc _ _ _).keep hb)
    have bx1 := BX1.out
    simp only [Boxes, and_true, World.size_alloc] at bx1
    clear hb
    go_wp2_with fail
    refine (toComplex_any a0 ad0 n0 c0 xs0 _ (Hs0.out.keep HB1.out) (by omega)).mono ?_
    rintro e w2 ⟨adX1, nX1, cX1, rfl, ownX1, hb⟩
    have ST2 : Hid (Below w1.heap.size w1 w2) := Lib.hid (Below.trans (Below.refl _ _) (hb.mono (by first | exact Nat.le_refl _ | (simp; done) | (simp; omega))))
    have SZ2 : Hid (w1.heap.size + 0 ≤ w2.heap.size) := Lib.hid (Nat.le_trans (by simp) hb.size)
    have HB2 : Hid (Below w.heap.size w w2) := Lib.hid (HB1.out.trans (ST2.out.mono HB1.out.size))
    have BX2 := Lib.hid (BX1.out.keep hb)
    have bx2 := BX2.out
    simp only [Boxes, and_true, World.size_alloc] at bx2
    have LTX1 : Hid (∀ k, (Value.slice adX1 nX1 cX1).ownBlock = some k → w1.heap.size + 0 ≤ k ∧ k < w2.heap.size) := Lib.hid (fun k hk => ⟨Nat.le_trans (by simp) (ownX1.lt k hk).1, (ownX1.lt k hk).2⟩)
    have OWX1_2 := Lib.hid ownX1
    clear ownX1
    clear hb bx1
    go_wp2_with fail
    refine (HS.out _ adX1 nX1 cX1 OWX1_2.out.reads OWX1_2.out.cap).mono ?_
    rintro e w3 ⟨adW, nW, cW, rfl, ownW, hb⟩
    have ST3 : Hid (Below w2.heap.size w2 w3) := Lib.hid (Below.trans (Below.refl _ _) (hb.mono (by first | exact Nat.le_refl _ | (simp; done) | (simp; omega))))
    have SZ3 : Hid (w2.heap.size + 0 ≤ w3.heap.size) := Lib.hid (Nat.le_trans (by simp) hb.size)
    have HB3 : Hid (Below w.heap.size w w3) := Lib.hid (HB2.out.trans (ST3.out.mono HB2.out.size))
    have BX3 := Lib.hid (BX2.out.keep hb)
    have bx3 := BX3.out
    simp only [Boxes, and_true, World.size_alloc] at bx3
    have OWX1_3 := Lib.hid (OWX1_2.out.keep ST3.out)
    have LTW : Hid (∀ k, (Value.slice adW nW cW).ownBlock = some k → w2.heap.size + 0 ≤ k ∧ k < w3.heap.size) := Lib.hid (fun k hk => ⟨Nat.le_trans (by simp) (ownW.lt k hk).1, (ownW.lt k hk).2⟩)
    have OWW_3 := Lib.hid ownW
    clear ownW
    clear hb bx2
    go_wp2_with fail
    refine (toComplex_any a0 ad0 n0 c0 xs0 _ (Hs0.out.keep HB3.out) (by omega)).mono ?_
    rintro e w4 ⟨adX2, nX2, cX2, rfl, ownX2, hb⟩
    have ST4 : Hid (Below w3.heap.size w3 w4) := Lib.hid (Below.trans (Below.refl _ _) (hb.mono (by first | exact Nat.le_refl _ | (simp; done) | (simp; omega))))
    have SZ4 : Hid (w3.heap.size + 0 ≤ w4.heap.size) := Lib.hid (Nat.le_trans (by simp) hb.size)
    have HB4 : Hid (Below w.heap.size w w4) := Lib.hid (HB3.out.trans (ST4.out.mono HB3.out.size))
    have BX4 := Lib.hid (BX3.out.keep hb)
    have bx4 := BX4.out
    simp only [Boxes, and_true, World.size_alloc] at bx4
    have OWW_4 := Lib.hid (OWW_3.out.keep ST4.out)
    have LTX2 : Hid (∀ k, (Value.slice adX2 nX2 cX2).ownBlock = some k → w3.heap.size + 0 ≤ k ∧ k < w4.heap.size) := Lib.hid (fun k hk => ⟨Nat.le_trans (by simp) (ownX2.lt k hk).1, (ownX2.lt k hk).2⟩)
    have OWX2_4 := Lib.hid ownX2
    clear ownX2
    clear hb bx3
    go_wp2_with fail
    refine (HI.out _ adX2 nX2 cX2 (OWX2_4.out.reads.keep (Below.alloc (Below.refl _ _) (by first | exact Nat.le_refl _ | (simp; done) | (simp; omega)) _)) OWX2_4.out.cap).mono ?_
    rintro e w5 ⟨adG, nG, cG, rfl, ownG, hb⟩
    have ST5 : Hid (Below w4.heap.size w4 w5) := Lib.hid (Below.trans (Below.alloc (Below.refl _ _) (by first | exact Nat.le_refl _ | (simp; done) | (simp; omega)) _) (hb.mono (by first | exact Nat.le_refl _ | (simp; done) | (simp; omega))))
    have SZ5 : Hid (w4.heap.size + 1 ≤ w5.heap.size) := Lib.hid (Nat.le_trans (by simp) hb.size)
    have HB5 : Hid (Below w.heap.size w w5) := Lib.hid (HB4.out.trans (ST5.out.mono HB4.out.size))
    have BX5 := Lib.hid ((BX4.out.alloc _ _ _).keep hb)
    have bx5 := BX5.out
    simp only [Boxes, and_true, World.size_alloc] at bx5
    have OWW_5 := Lib.hid (OWW_4.out.keep ST5.out)
    have OWX2_5 := Lib.hid (OWX2_4.out.keep ST5.out)
    have LTG : Hid (∀ k, (Value.slice adG nG cG).ownBlock = some k → w4.heap.size + 1 ≤ k ∧ k < w5.heap.size) := Lib.hid (fun k hk => ⟨Nat.le_trans (by simp) (ownG.lt k hk).1, (ownG.lt k hk).2⟩)
    have OWG_5 := Lib.hid ownG
    clear ownG
    clear hb bx4
    go_wp2_with fail
    refine (eqIntSS_yes adG adW nG nW cG cW _ _ _ _ _ _ (OWG_5.out.keep (Below.refl _ _)) (OWW_5.out.keep (Below.refl _ _)) (by have h1 := OWG_5.out.len; have h2 := Hbd.out.1; omega)).mono ?_
    rintro e w6 ⟨rfl, hb⟩
    have ST6 : Hid (Below w5.heap.size w5 w6) := Lib.hid (Below.trans (Below.refl _ _) (hb.mono (by first | exact Nat.le_refl _ | (simp; done) | (simp; omega))))
    have SZ6 : Hid (w5.heap.size + 0 ≤ w6.heap.size) := Lib.hid (Nat.le_trans (by simp) hb.size)
    have HB6 : Hid (Below w.heap.size w w6) := Lib.hid (HB5.out.trans (ST6.out.mono HB5.out.size))
    have BX6 := Lib.hid (BX5.out.keep hb)
    have bx6 := BX6.out
    simp only [Boxes, and_true, World.size_alloc] at bx6
    have OWW_6 := Lib.hid (OWW_5.out.keep ST6.out)
    have OWX2_6 := Lib.hid (OWX2_5.out.keep ST6.out)
    have OWG_6 := Lib.hid (OWG_5.out.keep ST6.out)
    clear hb bx5
    go_wp2_with fail
    have hsd := Lib.hid (Hs0.out.keep HB6.out.drew)
    have rdd := Lib.hid (OWX2_6.out.reads.keep (Below.drew (Below.refl _ _)))
    go_cut [35] (fun v wx => v = .bool false ∧ Below w6.heap.size w6 wx)
    case first =>
      go_region_with (first | (go_at_call 7; (with_reducible refine (toComplex_any a0 ad0 n0 c0 xs0 _ hsd.out (by omega)).mono ?_); rintro e wz ⟨adz, nz, cz, rfl, ownz, hbz⟩; have rdz := ownz.reads; have bxz := (BX6.out.keep ((Below.refl _ _).drew)).keep hbz; simp only [Boxes, and_true, World.size_alloc] at bxz; have Hbz := Lib.hid hbz; clear ownz hbz) | (go_at_call 10; (with_reducible refine (eqComplex_yes a0 a0 adX2 adz nX2 nz cX2 cz xs0 xs0 _ (rdd.out.keep Hbz.out) rdz rfl rfl).mono ?_); rintro e wy ⟨rfl, hby⟩))
      all_goals (go_wp2_with fail; go_meet; exact ⟨rfl, ((Below.refl _ w6).drew).trans (Below.trans Hbz.out (hby.mono Hbz.out.size))⟩)
    case rest =>
      obtain ⟨rfl, hbc⟩ := hcut
      obtain ⟨w7, rfl⟩ : ∃ x : World, x = wc := ⟨_, rfl⟩
      have ST7 : Hid (Below w6.heap.size w6 w7) := Lib.hid (Below.trans (Below.refl _ _) (hbc.mono (by first | exact Nat.le_refl _ | (simp; done) | (simp; omega))))
      have SZ7 : Hid (w6.heap.size + 0 ≤ w7.heap.size) := Lib.hid (Nat.le_trans (by simp) hbc.size)
      have HB7 : Hid (Below w.heap.size w w7) := Lib.hid (HB6.out.trans (ST7.out.mono HB6.out.size))
      have BX7 := Lib.hid (BX6.out.keep hbc)
      have bx7 := BX7.out
      simp only [Boxes, and_true, World.size_alloc] at bx7
      have OWW_7 := Lib.hid (OWW_6.out.keep ST7.out)
      have OWX2_7 := Lib.hid (OWX2_6.out.keep ST7.out)
      have OWG_7 := Lib.hid (OWG_6.out.keep ST7.out)
      clear hbc bx6
      have lnx0 : nX2 ≤ 1048576 := by have h1 := OWX2_7.out.len; have h2 := Hs0.out.len; omega
      go_wp2_with fail
      refine (markComplex_any _ a0 adX2 nX2 cX2 (1) xs0 _ OWX2_7.out (by have := Hs0.out.len; omega) (by have := OWX2_7.out.len; have := Hs0.out.len; omega)).mono ?_
      rintro e w8 ⟨rfl, ownX2, hg⟩
      have HB8 : Hid (Below w.heap.size w w8) := Lib.hid (HB7.out.grown hg HB7.out.size (fun k hk => by have h1 := LTX2.out k hk; have z1 := SZ1.out; have z2 := SZ2.out; have z3 := SZ3.out; have z4 := SZ4.out; have z5 := SZ5.out; have z6 := SZ6.out; have z7 := SZ7.out; omega))
      have BX8 := Lib.hid (BX7.out.grown hg (fun k hk b hb => by have h1 := LTX2.out k hk; have z1 := SZ1.out; have z2 := SZ2.out; have z3 := SZ3.out; have z4 := SZ4.out; have z5 := SZ5.out; have z6 := SZ6.out; have z7 := SZ7.out;  simp only [List.mem_cons, List.not_mem_nil, or_false] at hb; rcases hb with rfl | rfl <;> simp only [World.size_alloc] <;> omega))
      have bx8 := BX8.out
      simp only [Boxes, and_true, World.size_alloc] at bx8
      have OWW_8 := Lib.hid (OWW_7.out.grown2 hg (fun k hk => by have h1 := LTX2.out k hk; have z1 := SZ1.out; have z2 := SZ2.out; have z3 := SZ3.out; have z4 := SZ4.out; have z5 := SZ5.out; have z6 := SZ6.out; have z7 := SZ7.out;  (try simp only [World.size_alloc]); omega))
      have OWX2_8 := Lib.hid ownX2
      have OWG_8 := Lib.hid (OWG_7.out.grown2 hg (fun k hk => by have h1 := LTX2.out k hk; have z1 := SZ1.out; have z2 := SZ2.out; have z3 := SZ3.out; have z4 := SZ4.out; have z5 := SZ5.out; have z6 := SZ6.out; have z7 := SZ7.out;  (try simp only [World.size_alloc]); omega))
      have SZ8 : Hid (w7.heap.size ≤ w8.heap.size) := Lib.hid hg.size
      clear hg ownX2 bx7
      go_wp2_with fail
      refine (eqIntSS_yes adG adW nG nW cG cW _ _ _ _ _ _ (OWG_8.out.keep (Below.refl _ _)) (OWW_8.out.keep (Below.refl _ _)) (by have h1 := OWG_8.out.len; have h2 := Hbd.out.1; omega)).mono ?_
      rintro e w9 ⟨rfl, hb⟩
      have ST9 : Hid (Below w8.heap.size w8 w9) := Lib.hid (Below.trans (Below.refl _ _) (hb.mono (by first | exact Nat.le_refl _ | (simp; done) | (simp; omega))))
      have SZ9 : Hid (w8.heap.size + 0 ≤ w9.heap.size) := Lib.hid (Nat.le_trans (by simp) hb.size)
      have HB9 : Hid (Below w.heap.size w w9) := Lib.hid (HB8.out.trans (ST9.out.mono HB8.out.size))
      have BX9 := Lib.hid (BX8.out.keep hb)
      have bx9 := BX9.out
      simp only [Boxes, and_true, World.size_alloc] at bx9
      have OWW_9 := Lib.hid (OWW_8.out.keep ST9.out)
      have OWX2_9 := Lib.hid (OWX2_8.out.keep ST9.out)
      have OWG_9 := Lib.hid (OWG_8.out.keep ST9.out)
      clear hb bx8
      have Hng := Lib.hid (show nG ≤ 1099511627776 by have h1 := OWG_9.out.len; have h2 := Hbd.out.1; omega)
      go_wp2_with fail
      refine (markIntSS_any _ _ adG nG cG 1 L _ OWG_9.out (by omega) Hbd.out.2 Hng.out).mono ?_
      rintro e w10 ⟨rfl, ownG, hg⟩
      have HB10 : Hid (Below w.heap.size w w10) := Lib.hid (below_within HB9.out hg (by have z1 := SZ1.out; have z2 := SZ2.out; have z3 := SZ3.out; have z4 := SZ4.out; have z5 := SZ5.out; have z6 := SZ6.out; have z7 := SZ7.out; have z8 := SZ8.out; have z9 := SZ9.out; (try simp only [World.size_alloc]); omega) HB9.out.size)
      have BX10 := Lib.hid (BX9.out.within hg (fun b hb => by have z1 := SZ1.out; have z2 := SZ2.out; have z3 := SZ3.out; have z4 := SZ4.out; have z5 := SZ5.out; have z6 := SZ6.out; have z7 := SZ7.out; have z8 := SZ8.out; have z9 := SZ9.out; simp only [List.mem_cons, List.not_mem_nil, or_false] at hb; rcases hb with rfl | rfl <;> simp only [World.size_alloc] <;> omega))
      have bx10 := BX10.out
      simp only [Boxes, and_true, World.size_alloc] at bx10
      have OWW_10 := Lib.hid (OWW_9.out.within hg (.inl (by have z1 := SZ1.out; have z2 := SZ2.out; have z3 := SZ3.out; have z4 := SZ4.out; have z5 := SZ5.out; have z6 := SZ6.out; have z7 := SZ7.out; have z8 := SZ8.out; have z9 := SZ9.out; (try simp only [World.size_alloc]); omega)))
      have OWG_10 := Lib.hid ownG
      have SZ10 : Hid (w9.heap.size ≤ w10.heap.size) := Lib.hid hg.size
      clear hg ownG bx9
      go_wp2_with fail
      refine (heldIntSS_yes _ _ adG nG cG 1 L _ OWG_10.out (by omega) Hbd.out.2 Hng.out).mono ?_
      rintro e w' ⟨rfl, rfl⟩
      go_wp2_with fail
      refine (toComplex_any a0 ad0 n0 c0 xs0 _ (Hs0.out.keep HB10.out) (by omega)).mono ?_
      rintro e w11 ⟨adX3, nX3, cX3, rfl, ownX3, hb⟩
      have ST11 : Hid (Below w10.heap.size w10 w11) := Lib.hid (Below.trans (Below.refl _ _) (hb.mono (by first | exact Nat.le_refl _ | (simp; done) | (simp; omega))))
      have SZ11 : Hid (w10.heap.size + 0 ≤ w11.heap.size) := Lib.hid (Nat.le_trans (by simp) hb.size)
      have HB11 : Hid (Below w.heap.size w w11) := Lib.hid (HB10.out.trans (ST11.out.mono HB10.out.size))
      have BX11 := Lib.hid (BX10.out.keep hb)
      have bx11 := BX11.out
      simp only [Boxes, and_true, World.size_alloc] at bx11
      have OWW_11 := Lib.hid (OWW_10.out.keep ST11.out)
      have OWG_11 := Lib.hid (OWG_10.out.keep ST11.out)
      have LTX3 : Hid (∀ k, (Value.slice adX3 nX3 cX3).ownBlock = some k → w10.heap.size + 0 ≤ k ∧ k < w11.heap.size) := Lib.hid (fun k hk => ⟨Nat.le_trans (by simp) (ownX3.lt k hk).1, (ownX3.lt k hk).2⟩)
      have OWX3_11 := Lib.hid ownX3
      clear ownX3
      clear hb bx10
      go_wp2_with fail
      refine (HI.out _ adX3 nX3 cX3 OWX3_11.out.reads OWX3_11.out.cap).mono ?_
      rintro e w12 ⟨adH, nH, cH, rfl, ownH, hb⟩
      have ST12 : Hid (Below w11.heap.size w11 w12) := Lib.hid (Below.trans (Below.refl _ _) (hb.mono (by first | exact Nat.le_refl _ | (simp; done) | (simp; omega))))
      have SZ12 : Hid (w11.heap.size + 0 ≤ w12.heap.size) := Lib.hid (Nat.le_trans (by simp) hb.size)
      have HB12 : Hid (Below w.heap.size w w12) := Lib.hid (HB11.out.trans (ST12.out.mono HB11.out.size))
      have BX12 := Lib.hid (BX11.out.keep hb)
      have bx12 := BX12.out
      simp only [Boxes, and_true, World.size_alloc] at bx12
      have OWW_12 := Lib.hid (OWW_11.out.keep ST12.out)
      have OWG_12 := Lib.hid (OWG_11.out.keep ST12.out)
      have OWX3_12 := Lib.hid (OWX3_11.out.keep ST12.out)
      have LTH : Hid (∀ k, (Value.slice adH nH cH).ownBlock = some k → w11.heap.size + 0 ≤ k ∧ k < w12.heap.size) := Lib.hid (fun k hk => ⟨Nat.le_trans (by simp) (ownH.lt k hk).1, (ownH.lt k hk).2⟩)
      have OWH_12 := Lib.hid ownH
      clear ownH
      clear hb bx11
      go_wp2_with fail
      refine (eqIntSS_yes adH adW nH nW cH cW _ _ _ _ _ _ (OWH_12.out.keep (Below.refl _ _)) (OWW_12.out.keep (Below.refl _ _)) (by have h1 := OWH_12.out.len; have h2 := Hbd.out.1; omega)).mono ?_
      rintro e w13 ⟨rfl, hb⟩
      have ST13 : Hid (Below w12.heap.size w12 w13) := Lib.hid (Below.trans (Below.refl _ _) (hb.mono (by first | exact Nat.le_refl _ | (simp; done) | (simp; omega))))
      have SZ13 : Hid (w12.heap.size + 0 ≤ w13.heap.size) := Lib.hid (Nat.le_trans (by simp) hb.size)
      have HB13 : Hid (Below w.heap.size w w13) := Lib.hid (HB12.out.trans (ST13.out.mono HB12.out.size))
      have BX13 := Lib.hid (BX12.out.keep hb)
      have bx13 := BX13.out
      simp only [Boxes, and_true, World.size_alloc] at bx13
      have OWW_13 := Lib.hid (OWW_12.out.keep ST13.out)
      have OWG_13 := Lib.hid (OWG_12.out.keep ST13.out)
      have OWH_13 := Lib.hid (OWH_12.out.keep ST13.out)
      clear hb bx12
      go_wp2_with fail
      refine (heldIntSS_yes _ _ adG nG cG 1 L _ OWG_13.out (by omega) Hbd.out.2 Hng.out).mono ?_
      rintro e w' ⟨rfl, rfl⟩
      go_wp2_with fail
      go_ret
      exact ⟨rfl, HB13.out⟩
  · have hbig0 : 1048576 < n0 := by omega
    clear hn0
    have hsm0 := Hs0.out.small
    go_enter Try.func3, Try.ntmps3
    go_wp2_with fail
    refine (szComplex_no a0 ad0 n0 c0 1048576 _ hbig0 (by omega) hsm0).mono ?_
    rintro e w1 ⟨rfl, hb1⟩
    have HB1 : Hid (Below w.heap.size w w1) := Lib.hid (Below.trans (by repeat (first | exact Below.refl _ _ | assumption | refine Below.setCell ?_ (by first | omega | (simp; done) | (simp; omega)) _ | refine Below.alloc ?_ (by first | omega | (simp; done) | (simp; omega)) _ | apply Below.drew)) (hb1.mono (by simp <;> omega)))
    have BX1 := Lib.hid (((Boxes.nil w).alloc _ _ _).keep hb1)
    have bx1 := BX1.out
    simp only [Boxes, and_true, World.size_alloc] at bx1
    clear hb1
    go_wp2_with fail
    go_ret
    exact ⟨rfl, HB1.out⟩

set_option maxRecDepth 100000 in
theorem lifted (os : Os) (started : os.Started) (H : Type) (enc : TypeId × Value → H) :
    ReturnsInHanded {} Try.checked os 3 .any (Rows.fnExactLeftMonomialsSpec.pre6 enc Try.prog Try.f3 Rows.fnExactLeftMonomialsRow.domain false) (Rows.fnExactLeftMonomialsSpec.post enc Try.prog Try.f3 false true false false) := by
  refine returnsInHanded_of_change (C := Try.checked) own started (by kernel_rfl) Try.func3
    (ChangeSpec.witness6 (enc := enc) (C := Try.checked) false ⟨#[], #[.agg #[.int .i64 0, .slice none 0 0], .int .i64 0], []⟩ 8 (by kernel_rfl) (by kernel_rfl) (by kernel_rfl) (by kernel_rfl)) ?_
  intro W base args ds gs before hval0 hW hcnd _
  have hval : ∀ (j : Nat) t v, Try.f3.params[j]? = some t → args[j]? = some v → Value.okWide Try.prog W .any base t v := hval0
  have hW2 := hW
  obtain ⟨p, q, hA0, hV, hpq, hfz, hnd⟩ := hW
  have hA : DataW.TrodAll enc Try.prog W 0 (fun _ => true) true Try.f3.params.toList args.toList ds p := hA0
  rw [Try.params3] at hA hval
  obtain ⟨v0, vs0, d0, ds0, p0, q0, hargs, rfl, hp0, h0, r0⟩ := trodAll_cons hA
  obtain ⟨v1, vs1, d1, ds1, p1, q1, rfl, rfl, hp1, h1, r1⟩ := trodAll_cons r0
  obtain ⟨rfl, rfl, _⟩ := trodAll_nil r1
  obtain rfl : args = #[v0, v1] := by cases args; simp_all
  have hgs : gs = [] := (trodVars_none hV).1
  subst hgs
  obtain ⟨u0, z0, y0, x0, m0, rfl, rfl, _, hy0, hx0⟩ := Joins.open_agg2 Try.underlying24 (by kernel_rfl) (show Try.prog.cellsOf 24 = 2 by kernel_rfl) (hval 0 24 v0 rfl rfl) h0
  obtain ⟨a0, e0, _, w0⟩ := DataW.trod_int Try.underlying3 hy0
  simp only [List.cons.injEq, and_true] at e0
  subst e0
  obtain ⟨ad0, n0, c0, xs0, rfl, hs0, wl0⟩ := open_row hx0
  obtain ⟨a1, rfl, rfl, _, w1⟩ := open_int Try.underlying3 (hval 1 3 v1 rfl rfl) h1
  refine (walk W a0 w0 ad0 n0 c0 xs0 hs0 wl0 a1 w1).mono fun e W2 ⟨he, hb⟩ => ?_
  subst he
  exact ⟨_, rfl, law_post rfl hW2 (by kernel_rfl) rfl rfl rfl rfl hb⟩

theorem over : Rows.fnExactLeftMonomialsRow.holds Try.pinned (OpenSpec.ofChange Rows.fnExactLeftMonomialsSpec) :=
  OpenClaim.holds_of_wide 3 Try.f3 rfl rfl rfl rfl rfl rfl rfl ⟨rfl, rfl, rfl, rfl, rfl⟩ rfl rfl rfl rfl rfl (by kernel_rfl) Try.func3 (by kernel_rfl)
    (of_decide_eq_true (by kernel_rfl)) (by unfold Func.isWrapper; first | (rw [if_pos (by decide +kernel)]; kernel_rfl) | (rw [if_neg (by decide +kernel)]; exact ⟨rfl, rfl⟩))
    (fun os started H enc _ => lifted os started H enc)

/-- THE STATEMENT -/
theorem proved : Rows.FnExactLeftMonomialsSaid := over
end Go.Proofs.Ytikehbbggdmcfaa.lawLeftMonomials

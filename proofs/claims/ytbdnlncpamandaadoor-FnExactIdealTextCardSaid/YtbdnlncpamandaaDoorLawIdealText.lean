/- The law FnExactIdealText: for all arguments the program's IdealText returns what the reference's returns. -/
import Derived.Deep.RegionWith
import Derived.Deep.DeepCutAuto
import Derived.Test.YtbdnlncpamandaaDoorFrame
import Derived.Test.YtbdnlncpamandaaDoorHelpS
import Derived.Test.YtbdnlncpamandaaDoorIdealText
import Derived.Test.YtbdnlncpamandaaDoorMath4
namespace Go.Proofs.YtbdnlncpamandaaDoor.lawIdealText
set_option maxRecDepth 20000
open Go.ChangeShapes Go.WideShapes Go.ChangeAt Go.RowKit
set_option linter.unusedVariables false
set_option linter.unusedSimpArgs false

theorem same (a0 : Int) (xs : List Int) (hl : xs.length ≤ 1048576) : ∃ r : ByteArray,
    (∀ W ad n c, IntsAt W ad n xs → n ≤ c → Calls Tryd.prog 5 #[.agg #[.int .i64 a0, .slice ad n c]] W fun e w' => e = .returned (.string r) ∧ Below W.heap.size W w') ∧
    (∀ W ad n c, IntsAt W ad n xs → n ≤ c → Calls Tryd.prog 7 #[.agg #[.int .i64 a0, .slice ad n c]] W fun e w' => e = .returned (.string r) ∧ Below W.heap.size W w') := by
  by_cases h : Anti a0 xs
  · obtain ⟨l, rfl, hl2, hs, _⟩ := h.nat
    obtain ⟨m, rfl⟩ := Int.eq_ofNat_of_zero_le (show 0 ≤ a0 by have := h.1; omega)
    have hl64 : ∀ t ∈ l, t < 64 := fun t ht => (hl2 t ht).2
    have hll := sorted_len hs hl64
    refine ⟨str (posText m l), fun W ad n c hx hc => ?_, fun W ad n c hx hc => ?_⟩
    · exact sIdealText_yes m ad n c l W hx h hl64 (by have := hx.len; rw [up_len] at this; omega)
    · exact iIdealText_yes m ad n c l W hx hc h hl64 (by have := hx.len; rw [up_len] at this; omega)
  · exact ⟨str [], fun W ad n c hx _ => sIdealText_no a0 ad n c xs W hx h, fun W ad n c hx hc => iIdealText_no a0 ad n c xs W hx hc h⟩

set_option maxRecDepth 100000 in
set_option maxHeartbeats 4000000 in
theorem walk (w : World) (a0 : Int) (wf0 : (Lit.int .i64 a0).wf = true) (ad0 : Option Addr) (n0 c0 : Nat) (xs0 : List Int) (hs0 : IntsAt w ad0 n0 xs0) (wl0 : ∀ y ∈ xs0, (Lit.int .i64 y).wf = true) :
    Calls Tryd.prog 3 #[.agg #[.int .i64 a0, .slice ad0 n0 c0]] w fun e w' => e = .returned (.bool true) ∧ Below w.heap.size w w' := by
  clear wf0 wl0
  have Hs0 := Lib.hid hs0; clear hs0
  by_cases hn0 : n0 ≤ 1048576
  · have hl0 : xs0.length ≤ 1048576 := by rw [Hs0.out.len]; omega
    obtain ⟨r, hS, hI⟩ := same a0 xs0 hl0
    have HS := Lib.hid hS; have HI := Lib.hid hI
    clear hS hI
    have hbb : (r.toList != r.toList) = false := by simp
    clear hl0
    go_enter Tryd.func3, Tryd.ntmps3
    go_wp2_with fail
    refine (szIdeal_yes a0 ad0 n0 c0 1048576 _ hn0 (by omega)).mono ?_
    rintro e w1 ⟨rfl, hb⟩
    have ST1 : Hid (Below w.heap.size w w1) := Lib.hid (Below.trans (Below.alloc (Below.refl _ _) (by first | exact Nat.le_refl _ | (simp; done) | (simp; omega)) _) (hb.mono (by first | exact Nat.le_refl _ | (simp; done) | (simp; omega))))
    have SZ1 : Hid (w.heap.size + 1 ≤ w1.heap.size) := Lib.hid (Nat.le_trans (by simp) hb.size)
    have HB1 : Hid (Below w.heap.size w w1) := ST1
    have BX1 := Lib.hid (((Boxes.nil w).alloc _ _ _).keep hb)
    have bx1 := BX1.out
    simp only [Boxes, and_true, World.size_alloc] at bx1
    clear hb
    go_wp2_with fail
    refine (toIdeal_any a0 ad0 n0 c0 xs0 _ (Hs0.out.keep HB1.out) (by omega)).mono ?_
    rintro e w2 ⟨adX1, nX1, cX1, rfl, ownX1, hb⟩
    have ST2 : Hid (Below w1.heap.size w1 w2) := Lib.hid (Below.trans (Below.refl _ _) (hb.mono (by first | exact Nat.le_refl _ | (simp; done) | (simp; omega))))
    have SZ2 : Hid (w1.heap.size + 0 ≤ w2.heap.size) := Lib.hid (Nat.le_trans (by simp) hb.size)
    have HB2 : Hid (Below w.heap.size w w2) := Lib.hid (HB1.out.trans (ST2.out.mono HB1.out.size))
    have BX2 := Lib.hid (BX1.out.keep hb)
    have bx2 := BX2.out
    simp only [Boxes, and_true, World.size_alloc] at bx2
    have LTX1 : Hid (∀ k, (Value.slice adX1 nX1 cX1).ownBlock = some k → w1.heap.size + 0 ≤ k ∧ k < w2.heap.size) := Lib.hid (fun k hk => ⟨Nat.le_trans (by simp) (ownX1.lt k hk).1, (ownX1.lt k hk).2⟩)
    have OWX1_2 := Lib.hid ownX1
    clear ownX1
    clear hb bx1
    go_wp2_with fail
    refine (HS.out _ adX1 nX1 cX1 OWX1_2.out.reads OWX1_2.out.cap).mono ?_
    rintro e w3 ⟨rfl, hb⟩
    have ST3 : Hid (Below w2.heap.size w2 w3) := Lib.hid (Below.trans (Below.refl _ _) (hb.mono (by first | exact Nat.le_refl _ | (simp; done) | (simp; omega))))
    have SZ3 : Hid (w2.heap.size + 0 ≤ w3.heap.size) := Lib.hid (Nat.le_trans (by simp) hb.size)
    have HB3 : Hid (Below w.heap.size w w3) := Lib.hid (HB2.out.trans (ST3.out.mono HB2.out.size))
    have BX3 := Lib.hid (BX2.out.keep hb)
    have bx3 := BX3.out
    simp only [Boxes, and_true, World.size_alloc] at bx3
    have OWX1_3 := Lib.hid (OWX1_2.out.keep ST3.out)
    clear hb bx2
    go_wp2_with fail
    refine (toIdeal_any a0 ad0 n0 c0 xs0 _ (Hs0.out.keep HB3.out) (by omega)).mono ?_
    rintro e w4 ⟨adX2, nX2, cX2, rfl, ownX2, hb⟩
    have ST4 : Hid (Below w3.heap.size w3 w4) := Lib.hid (Below.trans (Below.refl _ _) (hb.mono (by first | exact Nat.le_refl _ | (simp; done) | (simp; omega))))
    have SZ4 : Hid (w3.heap.size + 0 ≤ w4.heap.size) := Lib.hid (Nat.le_trans (by simp) hb.size)
    have HB4 : Hid (Below w.heap.size w w4) := Lib.hid (HB3.out.trans (ST4.out.mono HB3.out.size))
    have BX4 := Lib.hid (BX3.out.keep hb)
    have bx4 := BX4.out
    simp only [Boxes, and_true, World.size_alloc] at bx4
    have LTX2 : Hid (∀ k, (Value.slice adX2 nX2 cX2).ownBlock = some k → w3.heap.size + 0 ≤ k ∧ k < w4.heap.size) := Lib.hid (fun k hk => ⟨Nat.le_trans (by simp) (ownX2.lt k hk).1, (ownX2.lt k hk).2⟩)
    have OWX2_4 := Lib.hid ownX2
    clear ownX2
    clear hb bx3
    go_wp2_with fail
    refine (HI.out _ adX2 nX2 cX2 (OWX2_4.out.reads.keep (Below.alloc (Below.refl _ _) (by first | exact Nat.le_refl _ | (simp; done) | (simp; omega)) _)) OWX2_4.out.cap).mono ?_
    rintro e w5 ⟨rfl, hb⟩
    have ST5 : Hid (Below w4.heap.size w4 w5) := Lib.hid (Below.trans (Below.alloc (Below.refl _ _) (by first | exact Nat.le_refl _ | (simp; done) | (simp; omega)) _) (hb.mono (by first | exact Nat.le_refl _ | (simp; done) | (simp; omega))))
    have SZ5 : Hid (w4.heap.size + 1 ≤ w5.heap.size) := Lib.hid (Nat.le_trans (by simp) hb.size)
    have HB5 : Hid (Below w.heap.size w w5) := Lib.hid (HB4.out.trans (ST5.out.mono HB4.out.size))
    have BX5 := Lib.hid ((BX4.out.alloc _ _ _).keep hb)
    have bx5 := BX5.out
    simp only [Boxes, and_true, World.size_alloc] at bx5
    have OWX2_5 := Lib.hid (OWX2_4.out.keep ST5.out)
    clear hb bx4
    go_wp2_with fail
    have hsd := Lib.hid (Hs0.out.keep HB5.out.drew)
    have rdd := Lib.hid (OWX2_5.out.reads.keep (Below.drew (Below.refl _ _)))
    go_cut [26] (fun v wx => v = .bool false ∧ Below w5.heap.size w5 wx)
    case first =>
      go_region_with (first | (go_at_call 6; (with_reducible refine (toIdeal_any a0 ad0 n0 c0 xs0 _ hsd.out (by omega)).mono ?_); rintro e wz ⟨adz, nz, cz, rfl, ownz, hbz⟩; have rdz := ownz.reads; have bxz := (BX5.out.keep ((Below.refl _ _).drew)).keep hbz; simp only [Boxes, and_true, World.size_alloc] at bxz; have Hbz := Lib.hid hbz; clear ownz hbz) | (go_at_call 8; (with_reducible refine (eqIdeal_yes a0 a0 adX2 adz nX2 nz cX2 cz xs0 xs0 _ (rdd.out.keep Hbz.out) rdz rfl rfl).mono ?_); rintro e wy ⟨rfl, hby⟩))
      all_goals (go_wp2_with fail; go_meet; exact ⟨rfl, ((Below.refl _ w5).drew).trans (Below.trans Hbz.out (hby.mono Hbz.out.size))⟩)
    case rest =>
      obtain ⟨rfl, hbc⟩ := hcut
      obtain ⟨w6, rfl⟩ : ∃ x : World, x = wc := ⟨_, rfl⟩
      have ST6 : Hid (Below w5.heap.size w5 w6) := Lib.hid (Below.trans (Below.refl _ _) (hbc.mono (by first | exact Nat.le_refl _ | (simp; done) | (simp; omega))))
      have SZ6 : Hid (w5.heap.size + 0 ≤ w6.heap.size) := Lib.hid (Nat.le_trans (by simp) hbc.size)
      have HB6 : Hid (Below w.heap.size w w6) := Lib.hid (HB5.out.trans (ST6.out.mono HB5.out.size))
      have BX6 := Lib.hid (BX5.out.keep hbc)
      have bx6 := BX6.out
      simp only [Boxes, and_true, World.size_alloc] at bx6
      have OWX2_6 := Lib.hid (OWX2_5.out.keep ST6.out)
      clear hbc bx5
      go_wp2_with fail
      go_ret
      exact ⟨rfl, HB6.out⟩
  · have hbig0 : 1048576 < n0 := by omega
    clear hn0
    have hsm0 := Hs0.out.small
    go_enter Tryd.func3, Tryd.ntmps3
    go_wp2_with fail
    refine (szIdeal_no a0 ad0 n0 c0 1048576 _ hbig0 (by omega) hsm0).mono ?_
    rintro e w1 ⟨rfl, hb1⟩
    have HB1 : Hid (Below w.heap.size w w1) := Lib.hid (Below.trans (by repeat (first | exact Below.refl _ _ | assumption | refine Below.setCell ?_ (by first | omega | (simp; done) | (simp; omega)) _ | refine Below.alloc ?_ (by first | omega | (simp; done) | (simp; omega)) _ | apply Below.drew)) (hb1.mono (by simp <;> omega)))
    have BX1 := Lib.hid (((Boxes.nil w).alloc _ _ _).keep hb1)
    have bx1 := BX1.out
    simp only [Boxes, and_true, World.size_alloc] at bx1
    clear hb1
    go_wp2_with fail
    go_ret
    exact ⟨rfl, HB1.out⟩

end Go.Proofs.YtbdnlncpamandaaDoor.lawIdealText

/- The law FnFlips: flips can be undone and keep all holes. No condition. -/
import Derived.Deep.RegionHeld3
import Derived.Deep.RegionWith
import Derived.Deep.DeepCutAuto
import Derived.Deep.QuietTactic
import Derived.BigQuiet
import Derived.Test.YtbdnlncpamandaaCore
import Derived.Test.YtbdnlncpamandaaDrw11
import Derived.Test.YtbdnlncpamandaaDrw5
import Derived.Test.YtbdnlncpamandaaFlipAt
import Derived.Test.YtbdnlncpamandaaFlipsM
import Derived.Test.YtbdnlncpamandaaLeft
import Derived.Test.YtbdnlncpamandaaSet3
namespace Go.Proofs.Ytbdnlncpamandaa.lawFnFlips
set_option maxRecDepth 20000
open Go.ChangeShapes Go.WideShapes Go.ChangeAt Go.RowKit
set_option linter.unusedVariables false
set_option linter.unusedSimpArgs false

/-- what lies in memory while the law runs -/
structure St (wb : World) (G1 : Nat) (p : Int) (a1 : Option Addr) (n1 c1 : Nat) (xs : List Int) (G2 : Nat) (P : Int) (a2 : Option Addr) (n2 c2 : Nat) (zs : List Int) (G3 : Nat) (a3 : Option Addr) (n3 c3 : Nat) (G4 : Nat) (q : Int) (a4 : Option Addr) (n4 c4 : Nat) (ys : List Int) (BL UL : Nat) (aL : Option Addr) (nL cL : Nat) (L : List (List Int)) (G5 : Nat) (r : Int) (a5 : Option Addr) (n5 c5 : Nat) (vs : List Int) (G6 : Nat) (R : Int) (a6 : Option Addr) (n6 c6 : Nat) (us : List Int) (G7 : Nat) (a7 : Option Addr) (n7 c7 : Nat) (W : World) : Prop where
  below : Below wb.heap.size wb W
  x1 : BoxF W G1 (.int .i64 p) (.slice a1 n1 c1)
  i1 : IntsAt W a1 n1 xs
  x2 : BoxF W G2 (.int .i64 P) (.slice a2 n2 c2)
  i2 : IntsAt W a2 n2 zs
  x3 : BoxF W G3 (.int .i64 P) (.slice a3 n3 c3)
  i3 : IntsAt W a3 n3 zs
  x4 : BoxF W G4 (.int .i64 q) (.slice a4 n4 c4)
  i4 : IntsAt W a4 n4 ys
  l : Own2 W BL UL aL nL cL L
  x5 : BoxF W G5 (.int .i64 r) (.slice a5 n5 c5)
  i5 : IntsAt W a5 n5 vs
  x6 : BoxF W G6 (.int .i64 R) (.slice a6 n6 c6)
  i6 : IntsAt W a6 n6 us
  x7 : BoxF W G7 (.int .i64 R) (.slice a7 n7 c7)
  i7 : IntsAt W a7 n7 us
theorem St.keep {wb : World} {G1 : Nat} {p : Int} {a1 : Option Addr} {n1 c1 : Nat} {xs : List Int} {G2 : Nat} {P : Int} {a2 : Option Addr} {n2 c2 : Nat} {zs : List Int} {G3 : Nat} {a3 : Option Addr} {n3 c3 : Nat} {G4 : Nat} {q : Int} {a4 : Option Addr} {n4 c4 : Nat} {ys : List Int} {BL UL : Nat} {aL : Option Addr} {nL cL : Nat} {L : List (List Int)} {G5 : Nat} {r : Int} {a5 : Option Addr} {n5 c5 : Nat} {vs : List Int} {G6 : Nat} {R : Int} {a6 : Option Addr} {n6 c6 : Nat} {us : List Int} {G7 : Nat} {a7 : Option Addr} {n7 c7 : Nat} {W W' : World}
    (h : St wb G1 p a1 n1 c1 xs G2 P a2 n2 c2 zs G3 a3 n3 c3 G4 q a4 n4 c4 ys BL UL aL nL cL L G5 r a5 n5 c5 vs G6 R a6 n6 c6 us G7 a7 n7 c7 W) (hb : Below W.heap.size W W') : St wb G1 p a1 n1 c1 xs G2 P a2 n2 c2 zs G3 a3 n3 c3 G4 q a4 n4 c4 ys BL UL aL nL cL L G5 r a5 n5 c5 vs G6 R a6 n6 c6 us G7 a7 n7 c7 W' :=
  ⟨h.below.trans (hb.mono h.below.size), h.x1.keep hb h.x1.lt, h.i1.keep hb, h.x2.keep hb h.x2.lt, h.i2.keep hb, h.x3.keep hb h.x3.lt, h.i3.keep hb, h.x4.keep hb h.x4.lt, h.i4.keep hb, h.l.keep hb, h.x5.keep hb h.x5.lt, h.i5.keep hb, h.x6.keep hb h.x6.lt, h.i6.keep hb, h.x7.keep hb h.x7.lt, h.i7.keep hb⟩

set_option maxRecDepth 100000 in
set_option maxHeartbeats 8000000 in
theorem walk (w : World) (ad : Option Addr) (n c : Nat) (hs : CodeAt w ad n) :
    Calls Try.prog 5 #[.slice ad n c] w fun e w' => e = .returned (.bool true) ∧ Below w.heap.size w w' := by
  have HS := Lib.hid hs
  have hnm := hs.1
  clear hs
  by_cases hn : n ≤ 1048576
  · go_enter Try.func5, Try.ntmps5
    go_wp2_with (go_at_call 6; (with_reducible refine (big_no ad n c _ hn).mono ?_); rintro e w' ⟨rfl, rfl⟩)
    refine (drawFlipAt_any ad n c w HS.out hn).mono ?_
    rintro e w1 ⟨p, a1, n1, c1, xs, s, t, rfl, own1, hxl, hst, hb1⟩
    have HB1 : Hid (Below w.heap.size w w1) := Lib.hid hb1
    have i1_1 : Hid (IntsAt w1 a1 n1 xs) := Lib.hid (own1.reads)
    have F1 := own1.cap
    clear hb1 own1
    obtain ⟨W2, hW2⟩ : ∃ W, W = w1.alloc (.cells #[.int .i64 p, .slice a1 n1 c1] 26) := ⟨_, rfl⟩
    obtain ⟨G1, hG2⟩ : ∃ G, G = w1.heap.size := ⟨_, rfl⟩
    have hbx : Below w1.heap.size w1 W2 := by rw [hW2]; exact (by repeat (first | exact Below.refl _ _ | assumption | refine Below.setCell ?_ (by first | omega | (simp; done) | (simp; omega)) _ | refine Below.alloc ?_ (by first | omega | (simp; done) | (simp; omega)) _ | apply Below.drew))
    have HW2 := Lib.hid hW2; have HG2 := Lib.hid hG2
    have HB2 : Hid (Below w.heap.size w W2) := Lib.hid (HB1.out.trans (hbx.mono HB1.out.size))
    have i1_2 := Lib.hid (i1_1.out.keep hbx)
    have x1_2 : Hid (BoxF W2 G1 (.int .i64 p) (.slice a1 n1 c1)) := Lib.hid (by rw [hW2, hG2]; exact BoxF.new _ _ _ _)
    clear hbx hW2 hG2 HB1 i1_1
    obtain ⟨P, zs, b, hDs, hDi, hCf, hDk⟩ := flipped p xs s t
    have HDs := Lib.hid hDs; have HDi := Lib.hid hDi; have HDk := Lib.hid hDk; have HCf := Lib.hid hCf
    clear hDs hDi hDk hCf
    go_wp2_with fail
    rw [← HG2.out, ← HW2.out]
    refine (HDi.out _ a1 n1 c1 i1_2.out F1).mono ?_
    rintro e w3 ⟨a2, n2, c2, rfl, own2, hb2⟩
    have HB3 : Hid (Below w.heap.size w w3) := Lib.hid (HB2.out.trans (hb2.mono HB2.out.size))
    have i1_3 := Lib.hid (i1_2.out.keep hb2)
    have x1_3 := Lib.hid (x1_2.out.keep hb2 x1_2.out.lt)
    have i2_3 : Hid (IntsAt w3 a2 n2 zs) := Lib.hid (own2.reads)
    have F2 := own2.cap
    clear hb2 HB2 i1_2 x1_2 own2
    obtain ⟨W4, hW4⟩ : ∃ W, W = w3.alloc (.cells #[.int .i64 P, .slice a2 n2 c2] 26) := ⟨_, rfl⟩
    obtain ⟨G2, hG4⟩ : ∃ G, G = w3.heap.size := ⟨_, rfl⟩
    have hbx : Below w3.heap.size w3 W4 := by rw [hW4]; exact (by repeat (first | exact Below.refl _ _ | assumption | refine Below.setCell ?_ (by first | omega | (simp; done) | (simp; omega)) _ | refine Below.alloc ?_ (by first | omega | (simp; done) | (simp; omega)) _ | apply Below.drew))
    have HW4 := Lib.hid hW4; have HG4 := Lib.hid hG4
    have HB4 : Hid (Below w.heap.size w W4) := Lib.hid (HB3.out.trans (hbx.mono HB3.out.size))
    have i1_4 := Lib.hid (i1_3.out.keep hbx)
    have x1_4 := Lib.hid (x1_3.out.keep hbx x1_3.out.lt)
    have i2_4 := Lib.hid (i2_3.out.keep hbx)
    have x2_4 : Hid (BoxF W4 G2 (.int .i64 P) (.slice a2 n2 c2)) := Lib.hid (by rw [hW4, hG4]; exact BoxF.new _ _ _ _)
    clear hbx hW4 hG4 HB3 i1_3 x1_3 i2_3
    obtain ⟨q0x1, q1x1, _, _, _⟩ := x1_4.out
    rw [HW4.out] at q0x1 q1x1
    go_wp2_with fail
    rw [← HG4.out, ← HW4.out]
    refine (HDs.out _ a1 n1 c1 i1_4.out F1).mono ?_
    rintro e w5 ⟨a3, n3, c3, rfl, own3, hb3⟩
    have HB5 : Hid (Below w.heap.size w w5) := Lib.hid (HB4.out.trans (hb3.mono HB4.out.size))
    have i1_5 := Lib.hid (i1_4.out.keep hb3)
    have x1_5 := Lib.hid (x1_4.out.keep hb3 x1_4.out.lt)
    have i2_5 := Lib.hid (i2_4.out.keep hb3)
    have x2_5 := Lib.hid (x2_4.out.keep hb3 x2_4.out.lt)
    have i3_5 : Hid (IntsAt w5 a3 n3 zs) := Lib.hid (own3.reads)
    clear hb3 HB4 i1_4 x1_4 i2_4 x2_4 q0x1 q1x1 own3
    obtain ⟨W6, hW6⟩ : ∃ W, W = w5.alloc (.cells #[.int .i64 P, .slice a3 n3 c3] 26) := ⟨_, rfl⟩
    obtain ⟨G3, hG6⟩ : ∃ G, G = w5.heap.size := ⟨_, rfl⟩
    have hbx : Below w5.heap.size w5 W6 := by rw [hW6]; exact (by repeat (first | exact Below.refl _ _ | assumption | refine Below.setCell ?_ (by first | omega | (simp; done) | (simp; omega)) _ | refine Below.alloc ?_ (by first | omega | (simp; done) | (simp; omega)) _ | apply Below.drew))
    have HW6 := Lib.hid hW6; have HG6 := Lib.hid hG6
    have HB6 : Hid (Below w.heap.size w W6) := Lib.hid (HB5.out.trans (hbx.mono HB5.out.size))
    have i1_6 := Lib.hid (i1_5.out.keep hbx)
    have x1_6 := Lib.hid (x1_5.out.keep hbx x1_5.out.lt)
    have i2_6 := Lib.hid (i2_5.out.keep hbx)
    have x2_6 := Lib.hid (x2_5.out.keep hbx x2_5.out.lt)
    have i3_6 := Lib.hid (i3_5.out.keep hbx)
    have x3_6 : Hid (BoxF W6 G3 (.int .i64 P) (.slice a3 n3 c3)) := Lib.hid (by rw [hW6, hG6]; exact BoxF.new _ _ _ _)
    clear hbx hW6 hG6 HB5 i1_5 x1_5 i2_5 x2_5 i3_5
    go_wp2_with fail
    rw [← HG6.out, ← HW6.out]
    refine (drawFlipsOf_any ad n c _ (HS.out.keep HB6.out) hn).mono ?_
    rintro e w7 ⟨q, a4, n4, c4, ys, rfl, own4, hyl, hb4⟩
    have HB7 : Hid (Below w.heap.size w w7) := Lib.hid (HB6.out.trans (hb4.mono HB6.out.size))
    have i1_7 := Lib.hid (i1_6.out.keep hb4)
    have x1_7 := Lib.hid (x1_6.out.keep hb4 x1_6.out.lt)
    have i2_7 := Lib.hid (i2_6.out.keep hb4)
    have x2_7 := Lib.hid (x2_6.out.keep hb4 x2_6.out.lt)
    have i3_7 := Lib.hid (i3_6.out.keep hb4)
    have x3_7 := Lib.hid (x3_6.out.keep hb4 x3_6.out.lt)
    have i4_7 : Hid (IntsAt w7 a4 n4 ys) := Lib.hid (own4.reads)
    have F4 := own4.cap
    clear hb4 HB6 i1_6 x1_6 i2_6 x2_6 i3_6 x3_6 own4
    obtain ⟨W8, hW8⟩ : ∃ W, W = w7.alloc (.cells #[.int .i64 q, .slice a4 n4 c4] 26) := ⟨_, rfl⟩
    obtain ⟨G4, hG8⟩ : ∃ G, G = w7.heap.size := ⟨_, rfl⟩
    have hbx : Below w7.heap.size w7 W8 := by rw [hW8]; exact (by repeat (first | exact Below.refl _ _ | assumption | refine Below.setCell ?_ (by first | omega | (simp; done) | (simp; omega)) _ | refine Below.alloc ?_ (by first | omega | (simp; done) | (simp; omega)) _ | apply Below.drew))
    have HW8 := Lib.hid hW8; have HG8 := Lib.hid hG8
    have HB8 : Hid (Below w.heap.size w W8) := Lib.hid (HB7.out.trans (hbx.mono HB7.out.size))
    have i1_8 := Lib.hid (i1_7.out.keep hbx)
    have x1_8 := Lib.hid (x1_7.out.keep hbx x1_7.out.lt)
    have i2_8 := Lib.hid (i2_7.out.keep hbx)
    have x2_8 := Lib.hid (x2_7.out.keep hbx x2_7.out.lt)
    have i3_8 := Lib.hid (i3_7.out.keep hbx)
    have x3_8 := Lib.hid (x3_7.out.keep hbx x3_7.out.lt)
    have i4_8 := Lib.hid (i4_7.out.keep hbx)
    have x4_8 : Hid (BoxF W8 G4 (.int .i64 q) (.slice a4 n4 c4)) := Lib.hid (by rw [hW8, hG8]; exact BoxF.new _ _ _ _)
    clear hbx hW8 hG8 HB7 i1_7 x1_7 i2_7 x2_7 i3_7 x3_7 i4_7
    obtain ⟨L, hL4, hLi, hLs, hLk⟩ := listed q ys
    have HLs := Lib.hid hLs; have HLi := Lib.hid hLi; have HLk := Lib.hid hLk
    clear hLs hLi hLk
    go_wp2_with fail
    rw [← HG8.out, ← HW8.out]
    refine (HLi.out _ a4 n4 c4 i4_8.out F4).mono ?_
    rintro e w9 ⟨aL, nL, cL, rfl, ownL, hb5⟩
    obtain ⟨BL, hBL⟩ : ∃ x, x = W8.heap.size := ⟨_, rfl⟩; obtain ⟨UL, hUL⟩ : ∃ x, x = w9.heap.size := ⟨_, rfl⟩
    have HB9 : Hid (Below w.heap.size w w9) := Lib.hid (HB8.out.trans (hb5.mono HB8.out.size))
    have i1_9 := Lib.hid (i1_8.out.keep hb5)
    have x1_9 := Lib.hid (x1_8.out.keep hb5 x1_8.out.lt)
    have i2_9 := Lib.hid (i2_8.out.keep hb5)
    have x2_9 := Lib.hid (x2_8.out.keep hb5 x2_8.out.lt)
    have i3_9 := Lib.hid (i3_8.out.keep hb5)
    have x3_9 := Lib.hid (x3_8.out.keep hb5 x3_8.out.lt)
    have i4_9 := Lib.hid (i4_8.out.keep hb5)
    have x4_9 := Lib.hid (x4_8.out.keep hb5 x4_8.out.lt)
    have l_9 : Hid (Own2 w9 BL UL aL nL cL L) := Lib.hid (by rw [hBL, hUL]; exact ownL)
    have HnL : Hid (L.length = nL) := Lib.hid ownL.len
    have hnL : nL ≤ 4096 := by have := HnL.out; omega
    clear hb5 HB8 i1_8 x1_8 i2_8 x2_8 i3_8 x3_8 i4_8 x4_8 ownL hBL hUL
    go_wp2_with fail
    refine (drawRunFlips_any ad n c _ (HS.out.keep HB9.out) hn).mono ?_
    rintro e w10 ⟨r, a5, n5, c5, vs, aM, nM, cM, M, rfl, own5, hvl, ownM, hM8, hM2, hb6⟩
    have HB10 : Hid (Below w.heap.size w w10) := Lib.hid (HB9.out.trans (hb6.mono HB9.out.size))
    have i1_10 := Lib.hid (i1_9.out.keep hb6)
    have x1_10 := Lib.hid (x1_9.out.keep hb6 x1_9.out.lt)
    have i2_10 := Lib.hid (i2_9.out.keep hb6)
    have x2_10 := Lib.hid (x2_9.out.keep hb6 x2_9.out.lt)
    have i3_10 := Lib.hid (i3_9.out.keep hb6)
    have x3_10 := Lib.hid (x3_9.out.keep hb6 x3_9.out.lt)
    have i4_10 := Lib.hid (i4_9.out.keep hb6)
    have x4_10 := Lib.hid (x4_9.out.keep hb6 x4_9.out.lt)
    have l_10 := Lib.hid (l_9.out.keep hb6)
    have i5_10 : Hid (IntsAt w10 a5 n5 vs) := Lib.hid (own5.reads)
    have m_10 : Hid (RowsAt w10 aM nM M) := Lib.hid (ownM.reads)
    have F5 := own5.fit
    clear hb6 HB9 i1_9 x1_9 i2_9 x2_9 i3_9 x3_9 i4_9 x4_9 l_9 own5 ownM hM2
    obtain ⟨W11, hW11⟩ : ∃ W, W = w10.alloc (.cells #[.int .i64 r, .slice a5 n5 c5] 26) := ⟨_, rfl⟩
    obtain ⟨G5, hG11⟩ : ∃ G, G = w10.heap.size := ⟨_, rfl⟩
    have hbx : Below w10.heap.size w10 W11 := by rw [hW11]; exact (by repeat (first | exact Below.refl _ _ | assumption | refine Below.setCell ?_ (by first | omega | (simp; done) | (simp; omega)) _ | refine Below.alloc ?_ (by first | omega | (simp; done) | (simp; omega)) _ | apply Below.drew))
    have HW11 := Lib.hid hW11; have HG11 := Lib.hid hG11
    have HB11 : Hid (Below w.heap.size w W11) := Lib.hid (HB10.out.trans (hbx.mono HB10.out.size))
    have i1_11 := Lib.hid (i1_10.out.keep hbx)
    have x1_11 := Lib.hid (x1_10.out.keep hbx x1_10.out.lt)
    have i2_11 := Lib.hid (i2_10.out.keep hbx)
    have x2_11 := Lib.hid (x2_10.out.keep hbx x2_10.out.lt)
    have i3_11 := Lib.hid (i3_10.out.keep hbx)
    have x3_11 := Lib.hid (x3_10.out.keep hbx x3_10.out.lt)
    have i4_11 := Lib.hid (i4_10.out.keep hbx)
    have x4_11 := Lib.hid (x4_10.out.keep hbx x4_10.out.lt)
    have l_11 := Lib.hid (l_10.out.keep hbx)
    have i5_11 := Lib.hid (i5_10.out.keep hbx)
    have m_11 := Lib.hid (m_10.out.keep hbx)
    have x5_11 : Hid (BoxF W11 G5 (.int .i64 r) (.slice a5 n5 c5)) := Lib.hid (by rw [hW11, hG11]; exact BoxF.new _ _ _ _)
    clear hbx hW11 hG11 HB10 i1_10 x1_10 i2_10 x2_10 i3_10 x3_10 i4_10 x4_10 l_10 i5_10 m_10
    obtain ⟨R, us, b2, hRs, hRi, hRk⟩ := ran r vs M
    have HRs := Lib.hid hRs; have HRi := Lib.hid hRi; have HRk := Lib.hid hRk
    clear hRs hRi hRk
    go_wp2_with fail
    rw [← HG11.out, ← HW11.out]
    refine (HRi.out _ a5 n5 c5 i5_11.out F5 aM nM cM m_11.out).mono ?_
    rintro e w12 ⟨a6, n6, c6, rfl, own6, hb7⟩
    have HB12 : Hid (Below w.heap.size w w12) := Lib.hid (HB11.out.trans (hb7.mono HB11.out.size))
    have i1_12 := Lib.hid (i1_11.out.keep hb7)
    have x1_12 := Lib.hid (x1_11.out.keep hb7 x1_11.out.lt)
    have i2_12 := Lib.hid (i2_11.out.keep hb7)
    have x2_12 := Lib.hid (x2_11.out.keep hb7 x2_11.out.lt)
    have i3_12 := Lib.hid (i3_11.out.keep hb7)
    have x3_12 := Lib.hid (x3_11.out.keep hb7 x3_11.out.lt)
    have i4_12 := Lib.hid (i4_11.out.keep hb7)
    have x4_12 := Lib.hid (x4_11.out.keep hb7 x4_11.out.lt)
    have l_12 := Lib.hid (l_11.out.keep hb7)
    have i5_12 := Lib.hid (i5_11.out.keep hb7)
    have m_12 := Lib.hid (m_11.out.keep hb7)
    have x5_12 := Lib.hid (x5_11.out.keep hb7 x5_11.out.lt)
    have i6_12 : Hid (IntsAt w12 a6 n6 us) := Lib.hid (own6.reads)
    clear hb7 HB11 i1_11 x1_11 i2_11 x2_11 i3_11 x3_11 i4_11 x4_11 l_11 i5_11 m_11 x5_11 own6
    obtain ⟨W13, hW13⟩ : ∃ W, W = w12.alloc (.cells #[.int .i64 R, .slice a6 n6 c6] 26) := ⟨_, rfl⟩
    obtain ⟨G6, hG13⟩ : ∃ G, G = w12.heap.size := ⟨_, rfl⟩
    have hbx : Below w12.heap.size w12 W13 := by rw [hW13]; exact (by repeat (first | exact Below.refl _ _ | assumption | refine Below.setCell ?_ (by first | omega | (simp; done) | (simp; omega)) _ | refine Below.alloc ?_ (by first | omega | (simp; done) | (simp; omega)) _ | apply Below.drew))
    have HW13 := Lib.hid hW13; have HG13 := Lib.hid hG13
    have HB13 : Hid (Below w.heap.size w W13) := Lib.hid (HB12.out.trans (hbx.mono HB12.out.size))
    have i1_13 := Lib.hid (i1_12.out.keep hbx)
    have x1_13 := Lib.hid (x1_12.out.keep hbx x1_12.out.lt)
    have i2_13 := Lib.hid (i2_12.out.keep hbx)
    have x2_13 := Lib.hid (x2_12.out.keep hbx x2_12.out.lt)
    have i3_13 := Lib.hid (i3_12.out.keep hbx)
    have x3_13 := Lib.hid (x3_12.out.keep hbx x3_12.out.lt)
    have i4_13 := Lib.hid (i4_12.out.keep hbx)
    have x4_13 := Lib.hid (x4_12.out.keep hbx x4_12.out.lt)
    have l_13 := Lib.hid (l_12.out.keep hbx)
    have i5_13 := Lib.hid (i5_12.out.keep hbx)
    have m_13 := Lib.hid (m_12.out.keep hbx)
    have x5_13 := Lib.hid (x5_12.out.keep hbx x5_12.out.lt)
    have i6_13 := Lib.hid (i6_12.out.keep hbx)
    have x6_13 : Hid (BoxF W13 G6 (.int .i64 R) (.slice a6 n6 c6)) := Lib.hid (by rw [hW13, hG13]; exact BoxF.new _ _ _ _)
    clear hbx hW13 hG13 HB12 i1_12 x1_12 i2_12 x2_12 i3_12 x3_12 i4_12 x4_12 l_12 i5_12 m_12 x5_12 i6_12
    obtain ⟨q0x5, q1x5, _, _, _⟩ := x5_13.out
    rw [HW13.out] at q0x5 q1x5
    go_wp2_with fail
    rw [← HG13.out, ← HW13.out]
    refine (HRs.out _ a5 n5 c5 i5_13.out F5 aM nM cM m_13.out).mono ?_
    rintro e w14 ⟨a7, n7, c7, rfl, own7, hb8⟩
    have HB14 : Hid (Below w.heap.size w w14) := Lib.hid (HB13.out.trans (hb8.mono HB13.out.size))
    have i1_14 := Lib.hid (i1_13.out.keep hb8)
    have x1_14 := Lib.hid (x1_13.out.keep hb8 x1_13.out.lt)
    have i2_14 := Lib.hid (i2_13.out.keep hb8)
    have x2_14 := Lib.hid (x2_13.out.keep hb8 x2_13.out.lt)
    have i3_14 := Lib.hid (i3_13.out.keep hb8)
    have x3_14 := Lib.hid (x3_13.out.keep hb8 x3_13.out.lt)
    have i4_14 := Lib.hid (i4_13.out.keep hb8)
    have x4_14 := Lib.hid (x4_13.out.keep hb8 x4_13.out.lt)
    have l_14 := Lib.hid (l_13.out.keep hb8)
    have i5_14 := Lib.hid (i5_13.out.keep hb8)
    have m_14 := Lib.hid (m_13.out.keep hb8)
    have x5_14 := Lib.hid (x5_13.out.keep hb8 x5_13.out.lt)
    have i6_14 := Lib.hid (i6_13.out.keep hb8)
    have x6_14 := Lib.hid (x6_13.out.keep hb8 x6_13.out.lt)
    have i7_14 : Hid (IntsAt w14 a7 n7 us) := Lib.hid (own7.reads)
    clear hb8 HB13 i1_13 x1_13 i2_13 x2_13 i3_13 x3_13 i4_13 x4_13 l_13 i5_13 m_13 x5_13 i6_13 x6_13 q0x5 q1x5 own7
    obtain ⟨W15, hW15⟩ : ∃ W, W = w14.alloc (.cells #[.int .i64 R, .slice a7 n7 c7] 26) := ⟨_, rfl⟩
    obtain ⟨G7, hG15⟩ : ∃ G, G = w14.heap.size := ⟨_, rfl⟩
    have hbx : Below w14.heap.size w14 W15 := by rw [hW15]; exact (by repeat (first | exact Below.refl _ _ | assumption | refine Below.setCell ?_ (by first | omega | (simp; done) | (simp; omega)) _ | refine Below.alloc ?_ (by first | omega | (simp; done) | (simp; omega)) _ | apply Below.drew))
    have HW15 := Lib.hid hW15; have HG15 := Lib.hid hG15
    have HB15 : Hid (Below w.heap.size w W15) := Lib.hid (HB14.out.trans (hbx.mono HB14.out.size))
    have i1_15 := Lib.hid (i1_14.out.keep hbx)
    have x1_15 := Lib.hid (x1_14.out.keep hbx x1_14.out.lt)
    have i2_15 := Lib.hid (i2_14.out.keep hbx)
    have x2_15 := Lib.hid (x2_14.out.keep hbx x2_14.out.lt)
    have i3_15 := Lib.hid (i3_14.out.keep hbx)
    have x3_15 := Lib.hid (x3_14.out.keep hbx x3_14.out.lt)
    have i4_15 := Lib.hid (i4_14.out.keep hbx)
    have x4_15 := Lib.hid (x4_14.out.keep hbx x4_14.out.lt)
    have l_15 := Lib.hid (l_14.out.keep hbx)
    have i5_15 := Lib.hid (i5_14.out.keep hbx)
    have m_15 := Lib.hid (m_14.out.keep hbx)
    have x5_15 := Lib.hid (x5_14.out.keep hbx x5_14.out.lt)
    have i6_15 := Lib.hid (i6_14.out.keep hbx)
    have x6_15 := Lib.hid (x6_14.out.keep hbx x6_14.out.lt)
    have i7_15 := Lib.hid (i7_14.out.keep hbx)
    have x7_15 : Hid (BoxF W15 G7 (.int .i64 R) (.slice a7 n7 c7)) := Lib.hid (by rw [hW15, hG15]; exact BoxF.new _ _ _ _)
    clear hbx hW15 hG15 HB14 i1_14 x1_14 i2_14 x2_14 i3_14 x3_14 i4_14 x4_14 l_14 i5_14 m_14 x5_14 i6_14 x6_14 i7_14
    go_wp2_with fail
    rw [← HG15.out, ← HW15.out]
    refine (drawFlipText_any ad n c _ (HS.out.keep HB15.out) hn).mono ?_
    rintro e w16 ⟨ta, tb, rfl, hab, hb9⟩
    have HB16 : Hid (Below w.heap.size w w16) := Lib.hid (HB15.out.trans (hb9.mono HB15.out.size))
    have i1_16 := Lib.hid (i1_15.out.keep hb9)
    have x1_16 := Lib.hid (x1_15.out.keep hb9 x1_15.out.lt)
    have i2_16 := Lib.hid (i2_15.out.keep hb9)
    have x2_16 := Lib.hid (x2_15.out.keep hb9 x2_15.out.lt)
    have i3_16 := Lib.hid (i3_15.out.keep hb9)
    have x3_16 := Lib.hid (x3_15.out.keep hb9 x3_15.out.lt)
    have i4_16 := Lib.hid (i4_15.out.keep hb9)
    have x4_16 := Lib.hid (x4_15.out.keep hb9 x4_15.out.lt)
    have l_16 := Lib.hid (l_15.out.keep hb9)
    have i5_16 := Lib.hid (i5_15.out.keep hb9)
    have m_16 := Lib.hid (m_15.out.keep hb9)
    have x5_16 := Lib.hid (x5_15.out.keep hb9 x5_15.out.lt)
    have i6_16 := Lib.hid (i6_15.out.keep hb9)
    have x6_16 := Lib.hid (x6_15.out.keep hb9 x6_15.out.lt)
    have i7_16 := Lib.hid (i7_15.out.keep hb9)
    have x7_16 := Lib.hid (x7_15.out.keep hb9 x7_15.out.lt)
    have S0 : Hid (St w G1 p a1 n1 c1 xs G2 P a2 n2 c2 zs G3 a3 n3 c3 G4 q a4 n4 c4 ys BL UL aL nL cL L G5 r a5 n5 c5 vs G6 R a6 n6 c6 us G7 a7 n7 c7 w16) := Lib.hid ⟨HB16.out, x1_16.out, i1_16.out, x2_16.out, i2_16.out, x3_16.out, i3_16.out, x4_16.out, i4_16.out, l_16.out, x5_16.out, i5_16.out, x6_16.out, i6_16.out, x7_16.out, i7_16.out⟩
    clear hb9 HB15 i1_15 x1_15 i2_15 x2_15 i3_15 x3_15 i4_15 x4_15 l_15 i5_15 m_15 x5_15 i6_15 x6_15 i7_15 x7_15 i1_16 x1_16 i2_16 x2_16 i3_16 x3_16 i4_16 x4_16 l_16 i5_16 m_16 x5_16 i6_16 x6_16 i7_16 x7_16 HB16
    have hbb : (b != b) = false := by cases b <;> rfl
    have hbb2 : (b2 != b2) = false := by cases b2 <;> rfl
    obtain ⟨T, hT⟩ : ∃ T, T = flipText ta tb := ⟨_, rfl⟩
    have HTi : Hid (∀ W, Calls Try.prog 58 #[.int .i64 ta, .int .i64 tb] W fun e w' => e = .returned (.string T) ∧ Below W.heap.size W w') := Lib.hid fun W => by rw [hT]; exact iFlipText_any ta tb W
    have HTs : Hid (∀ W, Calls Try.prog 59 #[.int .i64 ta, .int .i64 tb] W fun e w' => e = .returned (.string T) ∧ W = w') := Lib.hid fun W => by rw [hT]; exact sFlipText_any ta tb W
    clear hT
    obtain ⟨x20, x21, _, _, _⟩ := S0.out.x2
    obtain ⟨x30, x31, _, _, _⟩ := S0.out.x3
    go_wp2_with fail
    refine (sameComplex_yes P a2 a3 n2 n3 c2 c3 zs _ S0.out.i2 S0.out.i3).mono ?_
    rintro e v1 ⟨rfl, hb⟩
    have S1 := Lib.hid (S0.out.keep hb)
    clear hb x20 x21 x30 x31 S0
    obtain ⟨x40, x41, _, _, _⟩ := S1.out.x4
    go_wp2_with fail
    refine (HLs.out v1 a4 n4 c4 S1.out.i4 F4).mono ?_
    rintro e v2 ⟨aS, nS, cS, rfl, ownS, hb⟩
    have S2 := Lib.hid (S1.out.keep hb)
    have HS2 := Lib.hid ownS
    clear hb ownS x40 x41 S1
    go_wp2_with fail
    refine (sameLists_yes aL aS nL nS cL cS _ _ _ _ L v2 S2.out.l HS2.out (by omega)).mono ?_
    rintro e v3 ⟨rfl, hb⟩
    have S3 := Lib.hid (S2.out.keep hb)
    clear hb S2 HS2
    obtain ⟨x60, x61, _, _, _⟩ := S3.out.x6
    obtain ⟨x70, x71, _, _, _⟩ := S3.out.x7
    go_wp2_with fail
    refine (sameComplex_yes R a6 a7 n6 n7 c6 c7 us v3 S3.out.i6 S3.out.i7).mono ?_
    rintro e v4 ⟨rfl, hb⟩
    have S4 := Lib.hid (S3.out.keep hb)
    clear hb x60 x61 x70 x71 S3
    go_wp2_with fail
    refine (HTi.out v4).mono ?_
    rintro e v5 ⟨rfl, hb⟩
    have S5 := Lib.hid (S4.out.keep hb)
    clear hb S4
    obtain ⟨x10, x11, _, _, _⟩ := S5.out.x1
    go_wp2_with (go_at_call 59; (with_reducible refine (HTs.out _).mono ?_); rintro e w' ⟨rfl, rfl⟩)
    refine (HCf.out v5 a1 n1 c1 S5.out.i1 F1).mono ?_
    rintro e v6 ⟨rfl, hb⟩
    have S6 := Lib.hid (S5.out.keep hb)
    clear hb x10 x11 S5
    go_wp2_with fail
    go_loopw [20] (fun k wr => ∃ K : Nat, K ≤ nL ∧ k = .int .i64 K ∧ St w G1 p a1 n1 c1 xs G2 P a2 n2 c2 zs G3 a3 n3 c3 G4 q a4 n4 c4 ys BL UL aL nL cL L G5 r a5 n5 c5 vs G6 R a6 n6 c6 us G7 a7 n7 c7 wr) (fun k _ => nL - (intOf k).toNat)
    case atStart => exact ⟨0, Nat.zero_le _, rfl, S6.out⟩
    case round =>
      obtain ⟨K, hK, rfl, hst⟩ := hrel
      have SR := Lib.hid hst
      clear hst S6
      by_cases hlt : K < nL
      · have hK0 : (0 : Int) ≤ K := by omega
        have hKn : (K : Int) < nL := by omega
        obtain ⟨h2l, hCk⟩ := HLk.out K (by rw [HnL.out]; exact hlt)
        obtain ⟨f, hO2⟩ := SR.out.l
        obtain ⟨gL, hgL, hcL⟩ := hO2.cell hlt
        have hgLl := World.block_lt_of_cell? wr _ hcL
        have hrow := hO2.own K hlt
        obtain ⟨⟨aR, nR, cR⟩, hfe⟩ : ∃ y, y = f K := ⟨_, rfl⟩
        rw [← hfe] at hcL hrow
        simp only [Sl.val] at hcL hrow
        have hnR : nR = 2 := by have := hrow.len; omega
        subst hnR
        obtain ⟨gR, hgR, _, hgRl, hcM, _⟩ := Row.cells hrow (by omega)
        subst hgR
        obtain ⟨u0, hu0⟩ : ∃ u0, u0 = nth (nthL L K) 0 := ⟨_, rfl⟩
        obtain ⟨u1, hu1⟩ : ∃ u1, u1 = nth (nthL L K) 1 := ⟨_, rfl⟩
        have e0 : ((nthL L K).map (Value.int .i64))[0]? = some (.int .i64 u0) := by rw [List.getElem?_map, List.getElem?_eq_getElem (by omega), hu0, nth_eq (by omega)]; rfl
        have e1 : ((nthL L K).map (Value.int .i64))[1]? = some (.int .i64 u1) := by rw [List.getElem?_map, List.getElem?_eq_getElem (by omega), hu1, nth_eq (by omega)]; rfl
        have m0 := (hcM 0 (by omega)).trans e0
        have m1 := (hcM 1 (by omega)).trans e1
        rw [← hu0, ← hu1] at hCk
        have HCk := Lib.hid hCk
        have SW := Lib.hid (SR.out.keep (W' := wr.drew) (Below.refl _ _).drew)
        obtain ⟨x40, x41, _, _, _⟩ := SR.out.x4
        subst hgL
        clear hCk hO2 hrow hfe hcM hu0 hu1 e0 e1 h2l
        go_wp2_with fail
        go_region_held3 (fun W => W.cell? ⟨gL, K, none⟩ = some (.slice (some ⟨gR, 0, none⟩) 2 cR) ∧ W.cell? ⟨gR, 0, none⟩ = some (.int .i64 u0) ∧ W.cell? ⟨gR, 1, none⟩ = some (.int .i64 u1) ∧ W.cell? ⟨G4, 0, none⟩ = some (.int .i64 q) ∧ W.cell? ⟨G4, 1, none⟩ = some (.slice a4 n4 c4)) (first | exact ⟨hcL, m0, m1, x40, x41⟩ | exact ⟨y2, y0, y1, SW.out.x4.c0, SW.out.x4.c1⟩ | go_keep) (first
          | (go_simp; go_at_call 60; (with_reducible refine (HCk.out _ a4 n4 c4 SW.out.i4 F4).mono ?_); rintro e w6 ⟨rfl, hb6⟩; have SW := Lib.hid (SW.out.keep hb6); have y0 := (hb6.cell (p := ⟨gR, 0, none⟩) hgRl).trans m0; have y1 := (hb6.cell (p := ⟨gR, 1, none⟩) hgRl).trans m1; have y2 := (hb6.cell (p := ⟨gL, K, none⟩) hgLl).trans hcL; clear hb6))
        all_goals (
          go_wp2_with fail
          go_roundw
          case rel => exact ⟨K + 1, by omega, by go_num, SW.out⟩
          case measure => simp [intOf]; omega)
      · obtain rfl : nL = K := by omega
        clear HLk HLs HCf HDs HDi HRs HRi hK hlt
        go_upto_region 19 with fail
        go_cut [163] (fun v W => v = .bool false ∧ St w G1 p a1 n1 c1 xs G2 P a2 n2 c2 zs G3 a3 n3 c3 G4 q a4 n4 c4 ys BL UL aL nL cL L G5 r a5 n5 c5 vs G6 R a6 n6 c6 us G7 a7 n7 c7 W)
        case first =>
          have SW := Lib.hid (SR.out.keep (W' := wr.drew) (Below.refl _ _).drew)
          have hcells : wr.cell? ⟨G5, 0, none⟩ = some (.int .i64 r) ∧ wr.cell? ⟨G5, 1, none⟩ = some (.slice a5 n5 c5) ∧ wr.cell? ⟨G6, 0, none⟩ = some (.int .i64 R) ∧ wr.cell? ⟨G6, 1, none⟩ = some (.slice a6 n6 c6) := ⟨SR.out.x5.c0, SR.out.x5.c1, SR.out.x6.c0, SR.out.x6.c1⟩
          cases b2
          · go_quiet (fail)
            all_goals (go_wp2_with fail; go_meet)
            all_goals exact ⟨rfl, SR.out.keep (below_drewN (Below.refl _ _) _)⟩
          · obtain ⟨B, E, H, hP, hEH⟩ := HRk.out rfl
            have HP := Lib.hid hP
            clear hP
            cases B
            · clear hEH
              refine wp_region_held_drew (S := fun W => W.cell? ⟨G5, 0, none⟩ = some (.int .i64 r) ∧ W.cell? ⟨G5, 1, none⟩ = some (.slice a5 n5 c5) ∧ W.cell? ⟨G6, 0, none⟩ = some (.int .i64 R) ∧ W.cell? ⟨G6, 1, none⟩ = some (.slice a6 n6 c6)) (by kernel_rfl) hcells (fun hHeld => ?_)
              refine wpAnyH_take (i := 0) (oi := { dst := some 144, op := Op.move (Operand.tmp 15), type := 4, pos := "laws.go:979", after := #[], guard := none }) (v := ?_) rfl (by kernel_rfl) (by kernel_rfl) (by kernel_rfl) (fun _ _ _ h => h) (Or.inl ⟨by rfl, ?_⟩) (by assumption) ?_
              rotate_left
              · intro w hSw
                try dsimp only at hSw
                go_simp
                try (with_reducible rfl)
              try simp only [Act.put, List.setIfInBounds_toArray, List.set_cons_zero, List.set_cons_succ]
              refine wpAnyH_take (i := 1) (oi := { dst := some 145, op := Op.move (Operand.tmp 144), type := 4, pos := "laws.go:979", after := #[{ on := 0, ground := Ground.data }], guard := none }) (v := ?_) rfl (by kernel_rfl) (by kernel_rfl) (by kernel_rfl) (fun _ _ _ h => h) (Or.inl ⟨by rfl, ?_⟩) (by assumption) ?_
              rotate_left
              · intro w hSw
                try dsimp only at hSw
                go_simp
                try (with_reducible rfl)
              try simp only [Act.put, List.setIfInBounds_toArray, List.set_cons_zero, List.set_cons_succ]
              refine wpAnyH_take (i := 2) (oi := { dst := some 146, op := Op.load 26 (Operand.tmp 12), type := 26, pos := "laws.go:979", after := #[{ on := 1, ground := Ground.guard }], guard := some (1, true) }) (v := ?_) rfl (by kernel_rfl) (by kernel_rfl) (by kernel_rfl) (fun _ _ _ h => h) (Or.inl ⟨by rfl, ?_⟩) (by assumption) ?_
              rotate_left
              · intro w hSw
                try dsimp only at hSw
                go_simp
                try (with_reducible rfl)
              try simp only [Act.put, List.setIfInBounds_toArray, List.set_cons_zero, List.set_cons_succ]
              refine wpAnyH_ready (rs := [3]) (by kernel_rfl) (by simp) ?_
              refine AllReadyH.cons (o := { dst := some 147, op := Op.call { callee := Callee.value (Operand.func 46), args := #[Operand.tmp 146], argTypes := #[26] }, type := 4, pos := "laws.go:979", after := #[{ on := 2, ground := Ground.data }, { on := 1, ground := Ground.chain }, { on := 1, ground := Ground.guard }], guard := some (1, true) }) rfl (fun K hK => ?_) ?_
              · go_simp
                go_simp; go_at_call 46; (with_reducible refine (HP.out _ a5 n5 c5 SW.out.i5).mono ?_); rintro e w6 ⟨rfl, hb6⟩; have SW := Lib.hid (SW.out.keep hb6); clear hb6
                try (go_wp2_with fail)
                refine hK.out _ _ ?_ (fun hHeld => ?_)
                · exact ⟨SW.out.x5.c0, SW.out.x5.c1, SW.out.x6.c0, SW.out.x6.c1⟩
                clear hK K
                try simp only [Act.put, List.setIfInBounds_toArray, List.set_cons_zero, List.set_cons_succ]
                refine wpAnyH_take (i := 4) (oi := { dst := some 148, op := Op.pick (Operand.tmp 145) (Operand.tmp 147) (Operand.const (Value.bool false)), type := 4, pos := "laws.go:979", after := #[{ on := 1, ground := Ground.data }, { on := 3, ground := Ground.data }], guard := none }) (v := ?_) rfl (by kernel_rfl) (by kernel_rfl) (by kernel_rfl) (fun _ _ _ h => h) (Or.inl ⟨by rfl, ?_⟩) (by assumption) ?_
                rotate_left
                · intro w hSw
                  try dsimp only at hSw
                  go_simp
                  try (with_reducible rfl)
                try simp only [Act.put, List.setIfInBounds_toArray, List.set_cons_zero, List.set_cons_succ]
                refine wpAnyH_take (i := 5) (oi := { dst := some 149, op := Op.move (Operand.tmp 148), type := 4, pos := "laws.go:979", after := #[{ on := 4, ground := Ground.data }, { on := 3, ground := Ground.chain }], guard := none }) (v := ?_) rfl (by kernel_rfl) (by kernel_rfl) (by kernel_rfl) (fun _ _ _ h => h) (Or.inl ⟨by rfl, ?_⟩) (by assumption) ?_
                rotate_left
                · intro w hSw
                  try dsimp only at hSw
                  go_simp
                  try (with_reducible rfl)
                try simp only [Act.put, List.setIfInBounds_toArray, List.set_cons_zero, List.set_cons_succ]
                refine wpAnyH_take (i := 6) (oi := { dst := some 150, op := Op.load 26 (Operand.tmp 14), type := 26, pos := "laws.go:979", after := #[{ on := 5, ground := Ground.guard }], guard := some (5, true) }) (v := undef) rfl (by kernel_rfl) (by kernel_rfl) (by kernel_rfl) (fun _ _ _ h => h) (Or.inr ⟨by rfl, rfl⟩) (by assumption) ?_
                try simp only [Act.put, List.setIfInBounds_toArray, List.set_cons_zero, List.set_cons_succ]
                refine wpAnyH_take (i := 7) (oi := { dst := some 151, op := Op.call { callee := Callee.value (Operand.func 43), args := #[Operand.tmp 150], argTypes := #[26] }, type := 3, pos := "laws.go:979", after := #[{ on := 6, ground := Ground.data }, { on := 5, ground := Ground.chain }, { on := 5, ground := Ground.guard }], guard := some (5, true) }) (v := undef) rfl (by kernel_rfl) (by kernel_rfl) (by kernel_rfl) (fun _ _ _ h => h) (Or.inr ⟨by rfl, rfl⟩) (by assumption) ?_
                try simp only [Act.put, List.setIfInBounds_toArray, List.set_cons_zero, List.set_cons_succ]
                refine wpAnyH_take (i := 8) (oi := { dst := some 152, op := Op.load 26 (Operand.tmp 12), type := 26, pos := "laws.go:979", after := #[{ on := 5, ground := Ground.guard }], guard := some (5, true) }) (v := undef) rfl (by kernel_rfl) (by kernel_rfl) (by kernel_rfl) (fun _ _ _ h => h) (Or.inr ⟨by rfl, rfl⟩) (by assumption) ?_
                try simp only [Act.put, List.setIfInBounds_toArray, List.set_cons_zero, List.set_cons_succ]
                refine wpAnyH_take (i := 9) (oi := { dst := some 153, op := Op.call { callee := Callee.value (Operand.func 43), args := #[Operand.tmp 152], argTypes := #[26] }, type := 3, pos := "laws.go:979", after := #[{ on := 8, ground := Ground.data }, { on := 7, ground := Ground.chain }, { on := 5, ground := Ground.guard }], guard := some (5, true) }) (v := undef) rfl (by kernel_rfl) (by kernel_rfl) (by kernel_rfl) (fun _ _ _ h => h) (Or.inr ⟨by rfl, rfl⟩) (by assumption) ?_
                try simp only [Act.put, List.setIfInBounds_toArray, List.set_cons_zero, List.set_cons_succ]
                refine wpAnyH_take (i := 10) (oi := { dst := some 154, op := Op.binOp BinOp.neq 3 (Operand.tmp 151) (Operand.tmp 153) 3, type := 4, pos := "laws.go:979", after := #[{ on := 7, ground := Ground.data }, { on := 9, ground := Ground.data }, { on := 5, ground := Ground.guard }], guard := some (5, true) }) (v := undef) rfl (by kernel_rfl) (by kernel_rfl) (by kernel_rfl) (fun _ _ _ h => h) (Or.inr ⟨by rfl, rfl⟩) (by assumption) ?_
                try simp only [Act.put, List.setIfInBounds_toArray, List.set_cons_zero, List.set_cons_succ]
                refine wpAnyH_take (i := 11) (oi := { dst := some 155, op := Op.move (Operand.tmp 154), type := 4, pos := "laws.go:979", after := #[{ on := 10, ground := Ground.data }, { on := 9, ground := Ground.chain }, { on := 5, ground := Ground.guard }], guard := some (5, true) }) (v := undef) rfl (by kernel_rfl) (by kernel_rfl) (by kernel_rfl) (fun _ _ _ h => h) (Or.inr ⟨by rfl, rfl⟩) (by assumption) ?_
                try simp only [Act.put, List.setIfInBounds_toArray, List.set_cons_zero, List.set_cons_succ]
                refine wpAnyH_take (i := 12) (oi := { dst := some 156, op := Op.load 26 (Operand.tmp 14), type := 26, pos := "laws.go:979", after := #[{ on := 11, ground := Ground.guard }], guard := some (11, false) }) (v := undef) rfl (by kernel_rfl) (by kernel_rfl) (by kernel_rfl) (fun _ _ _ h => h) (Or.inr ⟨by rfl, rfl⟩) (by assumption) ?_
                try simp only [Act.put, List.setIfInBounds_toArray, List.set_cons_zero, List.set_cons_succ]
                refine wpAnyH_take (i := 13) (oi := { dst := some 157, op := Op.call { callee := Callee.value (Operand.func 45), args := #[Operand.tmp 156, Operand.const (Value.int IntKind.i64 3)], argTypes := #[26, 3] }, type := 24, pos := "laws.go:979", after := #[{ on := 12, ground := Ground.data }, { on := 11, ground := Ground.chain }, { on := 11, ground := Ground.guard }], guard := some (11, false) }) (v := undef) rfl (by kernel_rfl) (by kernel_rfl) (by kernel_rfl) (fun _ _ _ h => h) (Or.inr ⟨by rfl, rfl⟩) (by assumption) ?_
                try simp only [Act.put, List.setIfInBounds_toArray, List.set_cons_zero, List.set_cons_succ]
                refine wpAnyH_take (i := 14) (oi := { dst := some 158, op := Op.load 26 (Operand.tmp 12), type := 26, pos := "laws.go:979", after := #[{ on := 11, ground := Ground.guard }], guard := some (11, false) }) (v := undef) rfl (by kernel_rfl) (by kernel_rfl) (by kernel_rfl) (fun _ _ _ h => h) (Or.inr ⟨by rfl, rfl⟩) (by assumption) ?_
                try simp only [Act.put, List.setIfInBounds_toArray, List.set_cons_zero, List.set_cons_succ]
                refine wpAnyH_take (i := 15) (oi := { dst := some 159, op := Op.call { callee := Callee.value (Operand.func 45), args := #[Operand.tmp 158, Operand.const (Value.int IntKind.i64 3)], argTypes := #[26, 3] }, type := 24, pos := "laws.go:979", after := #[{ on := 14, ground := Ground.data }, { on := 13, ground := Ground.chain }, { on := 11, ground := Ground.guard }], guard := some (11, false) }) (v := undef) rfl (by kernel_rfl) (by kernel_rfl) (by kernel_rfl) (fun _ _ _ h => h) (Or.inr ⟨by rfl, rfl⟩) (by assumption) ?_
                try simp only [Act.put, List.setIfInBounds_toArray, List.set_cons_zero, List.set_cons_succ]
                refine wpAnyH_take (i := 16) (oi := { dst := some 160, op := Op.call { callee := Callee.value (Operand.func 14), args := #[Operand.tmp 157, Operand.tmp 159], argTypes := #[24, 24] }, type := 4, pos := "laws.go:979", after := #[{ on := 13, ground := Ground.data }, { on := 15, ground := Ground.data }, { on := 15, ground := Ground.chain }, { on := 11, ground := Ground.guard }], guard := some (11, false) }) (v := undef) rfl (by kernel_rfl) (by kernel_rfl) (by kernel_rfl) (fun _ _ _ h => h) (Or.inr ⟨by rfl, rfl⟩) (by assumption) ?_
                try simp only [Act.put, List.setIfInBounds_toArray, List.set_cons_zero, List.set_cons_succ]
                refine wpAnyH_take (i := 17) (oi := { dst := some 161, op := Op.unOp UnOp.not 4 (Operand.tmp 160), type := 4, pos := "laws.go:979", after := #[{ on := 16, ground := Ground.data }, { on := 11, ground := Ground.guard }], guard := some (11, false) }) (v := undef) rfl (by kernel_rfl) (by kernel_rfl) (by kernel_rfl) (fun _ _ _ h => h) (Or.inr ⟨by rfl, rfl⟩) (by assumption) ?_
                try simp only [Act.put, List.setIfInBounds_toArray, List.set_cons_zero, List.set_cons_succ]
                refine wpAnyH_take (i := 18) (oi := { dst := some 162, op := Op.pick (Operand.tmp 155) (Operand.const (Value.bool true)) (Operand.tmp 161), type := 4, pos := "laws.go:979", after := #[{ on := 11, ground := Ground.data }, { on := 17, ground := Ground.data }, { on := 5, ground := Ground.guard }], guard := some (5, true) }) (v := undef) rfl (by kernel_rfl) (by kernel_rfl) (by kernel_rfl) (fun _ _ _ h => h) (Or.inr ⟨by rfl, rfl⟩) (by assumption) ?_
                try simp only [Act.put, List.setIfInBounds_toArray, List.set_cons_zero, List.set_cons_succ]
                refine wpAnyH_take (i := 19) (oi := { dst := some 163, op := Op.pick (Operand.tmp 149) (Operand.tmp 162) (Operand.const (Value.bool false)), type := 4, pos := "laws.go:979", after := #[{ on := 5, ground := Ground.data }, { on := 18, ground := Ground.data }], guard := none }) (v := ?_) rfl (by kernel_rfl) (by kernel_rfl) (by kernel_rfl) (fun _ _ _ h => h) (Or.inl ⟨by rfl, ?_⟩) (by assumption) ?_
                rotate_left
                · intro w hSw
                  try dsimp only at hSw
                  go_simp
                  try (with_reducible rfl)
                try simp only [Act.put, List.setIfInBounds_toArray, List.set_cons_zero, List.set_cons_succ]
                refine wpAnyH_done (by kernel_rfl) ?_ _
                go_wp2_with fail
                go_meet
                exact ⟨rfl, SW.out⟩
              · exact AllReadyH.nil
            · obtain ⟨hE1, hE2, hH1, hH2⟩ := hEH rfl
              have HE1 := Lib.hid hE1; have HE2 := Lib.hid hE2; have HH1 := Lib.hid hH1; have HH2 := Lib.hid hH2
              clear hEH hE1 hE2 hH1 hH2
              have hEE : (E != E) = false := by simp
              go_region_held3 (fun W => W.cell? ⟨G5, 0, none⟩ = some (.int .i64 r) ∧ W.cell? ⟨G5, 1, none⟩ = some (.slice a5 n5 c5) ∧ W.cell? ⟨G6, 0, none⟩ = some (.int .i64 R) ∧ W.cell? ⟨G6, 1, none⟩ = some (.slice a6 n6 c6)) (first | exact hcells | exact ⟨SW.out.x5.c0, SW.out.x5.c1, SW.out.x6.c0, SW.out.x6.c1⟩ | go_keep) (first
                | (go_simp; go_at_call 46; (with_reducible refine (HP.out _ a5 n5 c5 SW.out.i5).mono ?_); rintro e w6 ⟨rfl, hb6⟩; have SW := Lib.hid (SW.out.keep hb6); clear hb6)
                | (go_simp; go_at_call 43; (with_reducible refine (HE1.out _ a6 n6 c6 SW.out.i6).mono ?_); rintro e w6 ⟨rfl, hb6⟩; have SW := Lib.hid (SW.out.keep hb6); clear hb6)
                | (go_simp; go_at_call 43; (with_reducible refine (HE2.out _ a5 n5 c5 SW.out.i5).mono ?_); rintro e w6 ⟨rfl, hb6⟩; have SW := Lib.hid (SW.out.keep hb6); clear hb6)
                | (go_simp; go_at_call 45; (with_reducible refine (HH1.out _ a6 n6 c6 SW.out.i6).mono ?_); rintro e w6 ⟨aA, nA, cA, rfl, ownA, hb6⟩; have SW := Lib.hid (SW.out.keep hb6); have HA := Lib.hid ownA.reads; clear ownA; clear hb6)
                | (go_simp; go_at_call 45; (with_reducible refine (HH2.out _ a5 n5 c5 SW.out.i5).mono ?_); rintro e w6 ⟨aB, nB, cB, rfl, ownB, hb6⟩; have SW := Lib.hid (SW.out.keep hb6); have HA := Lib.hid (HA.out.keep hb6); have HB := Lib.hid ownB.reads; clear ownB; clear hb6)
                | (go_simp; go_at_call 14; (with_reducible refine (sameInts_yes aA aB nA nB cA cB H H _ HA.out HB.out rfl).mono ?_); rintro e w6 ⟨rfl, hb6⟩; have SW := Lib.hid (SW.out.keep hb6); clear hb6))
              all_goals (go_wp2_with fail; go_meet)
              all_goals exact ⟨rfl, SW.out⟩
        case rest =>
          obtain ⟨rfl, hst⟩ := hcut
          have SD := Lib.hid hst
          clear hst HRk SR
          cases b
          · go_wp2_with fail
            go_ret
            exact ⟨rfl, SD.out.below⟩
          · obtain ⟨H, D, hDb, hbk, hpx, hdx, hdc, hhx, hhc⟩ := HDk.out rfl
            have HBk := Lib.hid hbk; have HPx := Lib.hid hpx; have HDx := Lib.hid hdx; have HDc := Lib.hid hdc; have HHx := Lib.hid hhx; have HHc := Lib.hid hhc
            clear hbk hpx hdx hdc hhx hhc HDk
            obtain ⟨x20, x21, _, _, _⟩ := SD.out.x2
            go_wp2_with fail
            refine (HBk.out _ a2 n2 c2 SD.out.i2 F2).mono ?_
            rintro e w8 ⟨a8, n8, c8, rfl, own8, hb8⟩
            obtain ⟨W8, hW8⟩ : ∃ W8, W8 = w8.alloc (.cells #[.int .i64 p, .slice a8 n8 c8] 26) := ⟨_, rfl⟩
            obtain ⟨G8, hG8⟩ : ∃ G8, G8 = w8.heap.size := ⟨_, rfl⟩
            have hb8a : Below wc.heap.size wc W8 := by rw [hW8]; exact hb8.alloc hb8.size _
            have X8 : Hid (BoxF W8 G8 (.int .i64 p) (.slice a8 n8 c8)) := Lib.hid (by rw [hW8, hG8]; exact BoxF.new _ _ _ _)
            have I8 : Hid (IntsAt W8 a8 n8 xs) := Lib.hid (by rw [hW8]; exact own8.reads.keep (by repeat (first | exact Below.refl _ _ | assumption | refine Below.setCell ?_ (by first | omega | (simp; done) | (simp; omega)) _ | refine Below.alloc ?_ (by first | omega | (simp; done) | (simp; omega)) _ | apply Below.drew)))
            have S8 := Lib.hid (SD.out.keep hb8a)
            have HW8 := Lib.hid hW8; have HG8 := Lib.hid hG8
            clear hW8 hG8 own8 hb8 hb8a SD x20 x21 HBk
            have hcells : W8.cell? ⟨G8, 0, none⟩ = some (.int .i64 p) ∧ W8.cell? ⟨G8, 1, none⟩ = some (.slice a8 n8 c8) ∧ W8.cell? ⟨G2, 0, none⟩ = some (.int .i64 P) ∧ W8.cell? ⟨G2, 1, none⟩ = some (.slice a2 n2 c2) ∧ W8.cell? ⟨G1, 0, none⟩ = some (.int .i64 p) ∧ W8.cell? ⟨G1, 1, none⟩ = some (.slice a1 n1 c1) := ⟨X8.out.c0, X8.out.c1, S8.out.x2.c0, S8.out.x2.c1, S8.out.x1.c0, S8.out.x1.c1⟩
            have SW := Lib.hid (S8.out.keep (W' := W8.drew) (Below.refl _ _).drew)
            have X8 := Lib.hid (X8.out.keep (W' := W8.drew) (Below.refl _ _).drew X8.out.lt)
            have I8 := Lib.hid (I8.out.keep (w' := W8.drew) (Below.refl _ _).drew)
            have hDD : (D == D) = true := by simp
            clear S8
            go_upto_region 24 with fail
            rw [← HG8.out, ← HW8.out]
            go_region_held3 (fun W => W.cell? ⟨G8, 0, none⟩ = some (.int .i64 p) ∧ W.cell? ⟨G8, 1, none⟩ = some (.slice a8 n8 c8) ∧ W.cell? ⟨G2, 0, none⟩ = some (.int .i64 P) ∧ W.cell? ⟨G2, 1, none⟩ = some (.slice a2 n2 c2) ∧ W.cell? ⟨G1, 0, none⟩ = some (.int .i64 p) ∧ W.cell? ⟨G1, 1, none⟩ = some (.slice a1 n1 c1)) (first | exact hcells | exact ⟨X8.out.c0, X8.out.c1, SW.out.x2.c0, SW.out.x2.c1, SW.out.x1.c0, SW.out.x1.c1⟩ | go_keep) (first
              | (go_simp; go_at_call 36; (with_reducible refine (sameComplex_yes p a8 a1 n8 n1 c8 c1 xs _ I8.out SW.out.i1).mono ?_); rintro e w6 ⟨rfl, hb6⟩; have SW := Lib.hid (SW.out.keep hb6); have X8 := Lib.hid (X8.out.keep hb6 X8.out.lt); have I8 := Lib.hid (I8.out.keep hb6); clear hb6)
              | (go_simp; go_at_call 46; (with_reducible refine (HPx.out _ a2 n2 c2 SW.out.i2).mono ?_); rintro e w6 ⟨rfl, hb6⟩; have SW := Lib.hid (SW.out.keep hb6); have X8 := Lib.hid (X8.out.keep hb6 X8.out.lt); have I8 := Lib.hid (I8.out.keep hb6); clear hb6)
              | (go_simp; go_at_call 27; (with_reducible refine (HDx.out _ a2 n2 c2 SW.out.i2).mono ?_); rintro e w6 ⟨rfl, hb6⟩; have SW := Lib.hid (SW.out.keep hb6); have X8 := Lib.hid (X8.out.keep hb6 X8.out.lt); have I8 := Lib.hid (I8.out.keep hb6); clear hb6)
              | (go_simp; go_at_call 27; (with_reducible refine (HDc.out _ a1 n1 c1 SW.out.i1).mono ?_); rintro e w6 ⟨rfl, hb6⟩; have SW := Lib.hid (SW.out.keep hb6); have X8 := Lib.hid (X8.out.keep hb6 X8.out.lt); have I8 := Lib.hid (I8.out.keep hb6); clear hb6)
              | (go_simp; go_at_call 45; (with_reducible refine (HHx.out _ a2 n2 c2 SW.out.i2).mono ?_); rintro e w6 ⟨aA, nA, cA, rfl, ownA, hb6⟩; have SW := Lib.hid (SW.out.keep hb6); have X8 := Lib.hid (X8.out.keep hb6 X8.out.lt); have I8 := Lib.hid (I8.out.keep hb6); have HA := Lib.hid ownA.reads; clear ownA; clear hb6)
              | (go_simp; go_at_call 45; (with_reducible refine (HHc.out _ a1 n1 c1 SW.out.i1).mono ?_); rintro e w6 ⟨aB, nB, cB, rfl, ownB, hb6⟩; have SW := Lib.hid (SW.out.keep hb6); have X8 := Lib.hid (X8.out.keep hb6 X8.out.lt); have I8 := Lib.hid (I8.out.keep hb6); have HA := Lib.hid (HA.out.keep hb6); have HB := Lib.hid ownB.reads; clear ownB; clear hb6)
              | (go_simp; go_at_call 14; (with_reducible refine (sameInts_yes aA aB nA nB cA cB H H _ HA.out HB.out rfl).mono ?_); rintro e w6 ⟨rfl, hb6⟩; have SW := Lib.hid (SW.out.keep hb6); have X8 := Lib.hid (X8.out.keep hb6 X8.out.lt); have I8 := Lib.hid (I8.out.keep hb6); clear hb6))
            all_goals (
              go_wp2_with fail
              go_ret
              exact ⟨rfl, SW.out.below⟩)
  · have hnn : 1048576 < n := by omega
    go_enter Try.func5, Try.ntmps5
    go_wp2_with (go_at_call 6; (with_reducible refine (big_yes ad n c _ hnn hnm).mono ?_); rintro e w' ⟨rfl, rfl⟩)
    go_ret
    exact ⟨rfl, Below.refl _ _⟩

set_option maxRecDepth 100000 in
theorem lifted (os : Os) (started : os.Started) (H : Type) (enc : TypeId × Value → H) :
    ReturnsInHanded {} Try.checked os 5 .any (Rows.fnFlipsSpec.pre6 enc Try.prog Try.f5 Rows.fnFlipsRow.domain false) (Rows.fnFlipsSpec.post enc Try.prog Try.f5 false true false false) := by
  refine returnsInHanded_of_change (C := Try.checked) own started (by kernel_rfl) Try.func5
    (ChangeSpec.witness6 (enc := enc) (C := Try.checked) false ⟨#[], #[.slice none 0 0], []⟩ 8 (by kernel_rfl) (by kernel_rfl) (by kernel_rfl) (by kernel_rfl)) ?_
  intro W base args ds gs before hval0 hW hcnd _
  have hval : ∀ (j : Nat) t v, Try.f5.params[j]? = some t → args[j]? = some v → Value.okWide Try.prog W .any base t v := hval0
  have hW2 := hW
  obtain ⟨p, q, hA0, hV, hpq, hfz, hnd⟩ := hW
  have hA : DataW.TrodAll enc Try.prog W 0 (fun _ => true) true Try.f5.params.toList args.toList ds p := hA0
  rw [Try.params5] at hA hval
  obtain ⟨v0, vs0, d0, ds0, p0, q0, hargs, rfl, hp0, h0, r0⟩ := trodAll_cons hA
  obtain ⟨rfl, rfl, _⟩ := trodAll_nil r0
  obtain rfl : args = #[v0] := by cases args; simp_all
  have hgs : gs = [] := (trodVars_none hV).1
  subst hgs
  obtain ⟨ad0, n0, c0, rfl⟩ := okWide_slice Try.underlying22 (hval 0 22 v0 rfl rfl)
  obtain ⟨fuel0, hf0⟩ := h0
  obtain ⟨ad0, n0, c0, e0, hs0⟩ := open_code hf0
  rw [e0]
  rw [e0] at hW2
  refine (walk W ad0 n0 c0 hs0).mono fun e W2 ⟨he, hb⟩ => ?_
  subst he
  exact ⟨_, rfl, law_post rfl hW2 (by kernel_rfl) rfl rfl rfl rfl hb⟩

theorem over : Rows.fnFlipsRow.holds Try.pinned (OpenSpec.ofChange Rows.fnFlipsSpec) :=
  OpenClaim.holds_of_wide 5 Try.f5 rfl rfl rfl rfl rfl rfl rfl ⟨rfl, rfl, rfl, rfl, rfl⟩ rfl rfl rfl rfl rfl (by kernel_rfl) Try.func5 (by kernel_rfl)
    (of_decide_eq_true (by kernel_rfl)) (by unfold Func.isWrapper; first | (rw [if_pos (by decide +kernel)]; kernel_rfl) | (rw [if_neg (by decide +kernel)]; exact ⟨rfl, rfl⟩))
    (fun os started H enc _ => lifted os started H enc)

/-- THE STATEMENT -/
theorem proved : Rows.FnFlipsSaid := over
end Go.Proofs.Ytbdnlncpamandaa.lawFnFlips

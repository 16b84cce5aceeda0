/- Texts of this claim, one behind the other: what each says stands at its head. -/
import Derived.Deep.RegionHeld3
import Derived.Deep.RegionWith
import Derived.Deep.DeepCutAuto
import Derived.Deep.QuietTactic
import Derived.BigQuiet
import Derived.Test.YtihfhfihladlcaaGreatDoorTie
import Derived.OpenShut
import Derived.LaidMore
import Derived.Lay
import Derived.SevenTiedAt
import Derived.Test.YtihfhfihladlcaaGreatDoorCore
import Derived.Test.YtihfhfihladlcaaGreatDoorDrw16
import Derived.Test.YtihfhfihladlcaaGreatDoorDrw5
import Derived.Test.YtihfhfihladlcaaGreatDoorDrwI
import Derived.Test.YtihfhfihladlcaaGreatDoorEuler
import Derived.Test.YtihfhfihladlcaaGreatDoorIdlC
import Derived.Test.YtihfhfihladlcaaGreatDoorLeft
/- The law FnIdeals: ideals and complexes tell each other; sums and meets are those of sets, and primes are complements of facets. No condition. -/
namespace Go.Proofs.YtihfhfihladlcaaGreatDoor.lawFnIdeals
set_option maxRecDepth 20000
open Go.ChangeShapes Go.WideShapes Go.ChangeAt Go.RowKit
set_option linter.unusedVariables false
set_option linter.unusedSimpArgs false

/-- what lies in memory while the law runs -/
structure St (wb : World) (p : Int) (xs : List Int) (q : Int) (ys : List Int) (P : Int) (zs : List Int) (P2 : Int) (zs2 : List Int) (r : Int) (us : List Int) (R : Int) (vs : List Int) (Q : Int) (fs : List Int) (u : Int) (ts : List Int) (H : Int) (hs2 : List Int) (KK : Int) (ks : List Int) (G1 : Nat) (a1 : Option Addr) (n1 c1 : Nat) (G2 : Nat) (a2 : Option Addr) (n2 c2 : Nat) (G3 : Nat) (a3 : Option Addr) (n3 c3 : Nat) (G4 : Nat) (a4 : Option Addr) (n4 c4 : Nat) (G5 : Nat) (a5 : Option Addr) (n5 c5 : Nat) (G6 : Nat) (a6 : Option Addr) (n6 c6 : Nat) (G7 : Nat) (a7 : Option Addr) (n7 c7 : Nat) (G8 : Nat) (a8 : Option Addr) (n8 c8 : Nat) (G9 : Nat) (a9 : Option Addr) (n9 c9 : Nat) (G10 : Nat) (a10 : Option Addr) (n10 c10 : Nat) (G11 : Nat) (a11 : Option Addr) (n11 c11 : Nat) (G12 : Nat) (a12 : Option Addr) (n12 c12 : Nat) (G13 : Nat) (a13 : Option Addr) (n13 c13 : Nat) (G14 : Nat) (a14 : Option Addr) (n14 c14 : Nat) (G15 : Nat) (a15 : Option Addr) (n15 c15 : Nat) (G16 : Nat) (a16 : Option Addr) (n16 c16 : Nat) (W : World) : Prop where
  below : Below wb.heap.size wb W
  x1 : BoxF W G1 (.int .i64 p) (.slice a1 n1 c1)
  i1 : IntsAt W a1 n1 xs
  x2 : BoxF W G2 (.int .i64 q) (.slice a2 n2 c2)
  i2 : IntsAt W a2 n2 ys
  x3 : BoxF W G3 (.int .i64 P) (.slice a3 n3 c3)
  i3 : IntsAt W a3 n3 zs
  x4 : BoxF W G4 (.int .i64 P) (.slice a4 n4 c4)
  i4 : IntsAt W a4 n4 zs
  x5 : BoxF W G5 (.int .i64 P2) (.slice a5 n5 c5)
  i5 : IntsAt W a5 n5 zs2
  x6 : BoxF W G6 (.int .i64 P2) (.slice a6 n6 c6)
  i6 : IntsAt W a6 n6 zs2
  x7 : BoxF W G7 (.int .i64 r) (.slice a7 n7 c7)
  i7 : IntsAt W a7 n7 us
  x8 : BoxF W G8 (.int .i64 R) (.slice a8 n8 c8)
  i8 : IntsAt W a8 n8 vs
  x9 : BoxF W G9 (.int .i64 R) (.slice a9 n9 c9)
  i9 : IntsAt W a9 n9 vs
  x10 : BoxF W G10 (.int .i64 Q) (.slice a10 n10 c10)
  i10 : IntsAt W a10 n10 fs
  x11 : BoxF W G11 (.int .i64 Q) (.slice a11 n11 c11)
  i11 : IntsAt W a11 n11 fs
  x12 : BoxF W G12 (.int .i64 u) (.slice a12 n12 c12)
  i12 : IntsAt W a12 n12 ts
  x13 : BoxF W G13 (.int .i64 H) (.slice a13 n13 c13)
  i13 : IntsAt W a13 n13 hs2
  x14 : BoxF W G14 (.int .i64 H) (.slice a14 n14 c14)
  i14 : IntsAt W a14 n14 hs2
  x15 : BoxF W G15 (.int .i64 KK) (.slice a15 n15 c15)
  i15 : IntsAt W a15 n15 ks
  x16 : BoxF W G16 (.int .i64 KK) (.slice a16 n16 c16)
  i16 : IntsAt W a16 n16 ks
theorem St.keep {wb : World} {p : Int} {xs : List Int} {q : Int} {ys : List Int} {P : Int} {zs : List Int} {P2 : Int} {zs2 : List Int} {r : Int} {us : List Int} {R : Int} {vs : List Int} {Q : Int} {fs : List Int} {u : Int} {ts : List Int} {H : Int} {hs2 : List Int} {KK : Int} {ks : List Int} {G1 : Nat} {a1 : Option Addr} {n1 c1 : Nat} {G2 : Nat} {a2 : Option Addr} {n2 c2 : Nat} {G3 : Nat} {a3 : Option Addr} {n3 c3 : Nat} {G4 : Nat} {a4 : Option Addr} {n4 c4 : Nat} {G5 : Nat} {a5 : Option Addr} {n5 c5 : Nat} {G6 : Nat} {a6 : Option Addr} {n6 c6 : Nat} {G7 : Nat} {a7 : Option Addr} {n7 c7 : Nat} {G8 : Nat} {a8 : Option Addr} {n8 c8 : Nat} {G9 : Nat} {a9 : Option Addr} {n9 c9 : Nat} {G10 : Nat} {a10 : Option Addr} {n10 c10 : Nat} {G11 : Nat} {a11 : Option Addr} {n11 c11 : Nat} {G12 : Nat} {a12 : Option Addr} {n12 c12 : Nat} {G13 : Nat} {a13 : Option Addr} {n13 c13 : Nat} {G14 : Nat} {a14 : Option Addr} {n14 c14 : Nat} {G15 : Nat} {a15 : Option Addr} {n15 c15 : Nat} {G16 : Nat} {a16 : Option Addr} {n16 c16 : Nat} {W W' : World}
    (h : St wb p xs q ys P zs P2 zs2 r us R vs Q fs u ts H hs2 KK ks G1 a1 n1 c1 G2 a2 n2 c2 G3 a3 n3 c3 G4 a4 n4 c4 G5 a5 n5 c5 G6 a6 n6 c6 G7 a7 n7 c7 G8 a8 n8 c8 G9 a9 n9 c9 G10 a10 n10 c10 G11 a11 n11 c11 G12 a12 n12 c12 G13 a13 n13 c13 G14 a14 n14 c14 G15 a15 n15 c15 G16 a16 n16 c16 W) (hb : Below W.heap.size W W') : St wb p xs q ys P zs P2 zs2 r us R vs Q fs u ts H hs2 KK ks G1 a1 n1 c1 G2 a2 n2 c2 G3 a3 n3 c3 G4 a4 n4 c4 G5 a5 n5 c5 G6 a6 n6 c6 G7 a7 n7 c7 G8 a8 n8 c8 G9 a9 n9 c9 G10 a10 n10 c10 G11 a11 n11 c11 G12 a12 n12 c12 G13 a13 n13 c13 G14 a14 n14 c14 G15 a15 n15 c15 G16 a16 n16 c16 W' :=
  ⟨h.below.trans (hb.mono h.below.size), h.x1.keep hb h.x1.lt, h.i1.keep hb, h.x2.keep hb h.x2.lt, h.i2.keep hb, h.x3.keep hb h.x3.lt, h.i3.keep hb, h.x4.keep hb h.x4.lt, h.i4.keep hb, h.x5.keep hb h.x5.lt, h.i5.keep hb, h.x6.keep hb h.x6.lt, h.i6.keep hb, h.x7.keep hb h.x7.lt, h.i7.keep hb, h.x8.keep hb h.x8.lt, h.i8.keep hb, h.x9.keep hb h.x9.lt, h.i9.keep hb, h.x10.keep hb h.x10.lt, h.i10.keep hb, h.x11.keep hb h.x11.lt, h.i11.keep hb, h.x12.keep hb h.x12.lt, h.i12.keep hb, h.x13.keep hb h.x13.lt, h.i13.keep hb, h.x14.keep hb h.x14.lt, h.i14.keep hb, h.x15.keep hb h.x15.lt, h.i15.keep hb, h.x16.keep hb h.x16.lt, h.i16.keep hb⟩

set_option maxRecDepth 100000 in
set_option maxHeartbeats 8000000 in
theorem walk (w : World) (ad : Option Addr) (n c : Nat) (hs : CodeAt w ad n) :
    Calls Tryz.prog 3 #[.slice ad n c] w fun e w' => e = .returned (.bool true) ∧ Below w.heap.size w w' := by
  have HS := Lib.hid hs
  have hnm := hs.1
  clear hs
  by_cases hn : n ≤ 1048576
  · go_enter Tryz.func3, Tryz.ntmps3
    go_wp2_with (go_at_call 7; (with_reducible refine (big_no ad n c _ hn).mono ?_); rintro e w' ⟨rfl, rfl⟩)
    refine (drawSumIdeals_any ad n c w HS.out hn).mono ?_
    rintro e w1 ⟨p, a1, n1, c1, xs, q, a2, n2, c2, ys, rfl, own1, _, own2, _, hb1⟩
    have HB1 : Hid (Below w.heap.size w w1) := Lib.hid hb1
    have i1_1 : Hid (IntsAt w1 a1 n1 xs) := Lib.hid (own1.reads)
    have i2_1 : Hid (IntsAt w1 a2 n2 ys) := Lib.hid (own2.reads)
    have F1 := own1.fit; have F2 := own2.fit; have D1 := own1.cap; have D2 := own2.cap
    clear hb1 own1 own2
    obtain ⟨W2, hW2⟩ : ∃ W, W = w1.alloc (.cells #[.int .i64 p, .slice a1 n1 c1] 26) := ⟨_, rfl⟩
    obtain ⟨G1, hG2⟩ : ∃ G, G = w1.heap.size := ⟨_, rfl⟩
    have hbx : Below w1.heap.size w1 W2 := by rw [hW2]; exact (by repeat (first | exact Below.refl _ _ | assumption | refine Below.setCell ?_ (by first | omega | (simp; done) | (simp; omega)) _ | refine Below.alloc ?_ (by first | omega | (simp; done) | (simp; omega)) _ | apply Below.drew))
    have HW2 := Lib.hid hW2; have HG2 := Lib.hid hG2
    have HB2 : Hid (Below w.heap.size w W2) := Lib.hid (HB1.out.trans (hbx.mono HB1.out.size))
    have i1_2 := Lib.hid (i1_1.out.keep hbx)
    have i2_2 := Lib.hid (i2_1.out.keep hbx)
    have x1_2 : Hid (BoxF W2 G1 (.int .i64 p) (.slice a1 n1 c1)) := Lib.hid (by rw [hW2, hG2]; exact BoxF.new _ _ _ _)
    clear hbx hW2 hG2 HB1 i1_1 i2_1
    obtain ⟨W3, hW3⟩ : ∃ W, W = W2.alloc (.cells #[.int .i64 q, .slice a2 n2 c2] 26) := ⟨_, rfl⟩
    obtain ⟨G2, hG3⟩ : ∃ G, G = W2.heap.size := ⟨_, rfl⟩
    have hbx : Below W2.heap.size W2 W3 := by rw [hW3]; exact (by repeat (first | exact Below.refl _ _ | assumption | refine Below.setCell ?_ (by first | omega | (simp; done) | (simp; omega)) _ | refine Below.alloc ?_ (by first | omega | (simp; done) | (simp; omega)) _ | apply Below.drew))
    have HW3 := Lib.hid hW3; have HG3 := Lib.hid hG3
    have HB3 : Hid (Below w.heap.size w W3) := Lib.hid (HB2.out.trans (hbx.mono HB2.out.size))
    have i1_3 := Lib.hid (i1_2.out.keep hbx)
    have i2_3 := Lib.hid (i2_2.out.keep hbx)
    have x1_3 := Lib.hid (x1_2.out.keep hbx x1_2.out.lt)
    have x2_3 : Hid (BoxF W3 G2 (.int .i64 q) (.slice a2 n2 c2)) := Lib.hid (by rw [hW3, hG3]; exact BoxF.new _ _ _ _)
    clear hbx hW3 hG3 HB2 i1_2 i2_2 x1_2
    obtain ⟨P, zs, P2, zs2, b, hSs, hSi, hMs, hMi, hSM⟩ := sums p xs q ys
    have HSs := Lib.hid hSs; have HSi := Lib.hid hSi; have HMs := Lib.hid hMs; have HMi := Lib.hid hMi; have HSM := Lib.hid hSM
    clear hSs hSi hMs hMi hSM
    have hg12 : G1 + 1 = G2 := by rw [HG3.out, HW2.out, HG2.out]; simp
    go_wp2_with fail
    rw [← HG2.out, ← HW2.out]
    rw [hg12, ← HW3.out]
    refine (HSi.out _ a1 n1 c1 i1_3.out F1 a2 n2 c2 i2_3.out F2).mono ?_
    rintro e w4 ⟨a3, n3, c3, rfl, own3, hb3⟩
    have HB4 : Hid (Below w.heap.size w w4) := Lib.hid (HB3.out.trans (hb3.mono HB3.out.size))
    have i1_4 := Lib.hid (i1_3.out.keep hb3)
    have i2_4 := Lib.hid (i2_3.out.keep hb3)
    have x1_4 := Lib.hid (x1_3.out.keep hb3 x1_3.out.lt)
    have x2_4 := Lib.hid (x2_3.out.keep hb3 x2_3.out.lt)
    have i3_4 : Hid (IntsAt w4 a3 n3 zs) := Lib.hid (own3.reads)
    have D3 := own3.cap
    clear hb3 HB3 i1_3 i2_3 x1_3 x2_3 own3
    obtain ⟨W5, hW5⟩ : ∃ W, W = w4.alloc (.cells #[.int .i64 P, .slice a3 n3 c3] 26) := ⟨_, rfl⟩
    obtain ⟨G3, hG5⟩ : ∃ G, G = w4.heap.size := ⟨_, rfl⟩
    have hbx : Below w4.heap.size w4 W5 := by rw [hW5]; exact (by repeat (first | exact Below.refl _ _ | assumption | refine Below.setCell ?_ (by first | omega | (simp; done) | (simp; omega)) _ | refine Below.alloc ?_ (by first | omega | (simp; done) | (simp; omega)) _ | apply Below.drew))
    have HW5 := Lib.hid hW5; have HG5 := Lib.hid hG5
    have HB5 : Hid (Below w.heap.size w W5) := Lib.hid (HB4.out.trans (hbx.mono HB4.out.size))
    have i1_5 := Lib.hid (i1_4.out.keep hbx)
    have i2_5 := Lib.hid (i2_4.out.keep hbx)
    have x1_5 := Lib.hid (x1_4.out.keep hbx x1_4.out.lt)
    have x2_5 := Lib.hid (x2_4.out.keep hbx x2_4.out.lt)
    have i3_5 := Lib.hid (i3_4.out.keep hbx)
    have x3_5 : Hid (BoxF W5 G3 (.int .i64 P) (.slice a3 n3 c3)) := Lib.hid (by rw [hW5, hG5]; exact BoxF.new _ _ _ _)
    clear hbx hW5 hG5 HB4 i1_4 i2_4 x1_4 x2_4 i3_4
    obtain ⟨q0x1, q1x1, _, _, _⟩ := x1_5.out
    rw [HW5.out] at q0x1 q1x1
    obtain ⟨q0x2, q1x2, _, _, _⟩ := x2_5.out
    rw [HW5.out] at q0x2 q1x2
    go_wp2_with fail
    rw [← HG5.out, ← HW5.out]
    refine (HSs.out _ a1 n1 c1 i1_5.out F1 a2 n2 c2 i2_5.out F2).mono ?_
    rintro e w6 ⟨a4, n4, c4, rfl, own4, hb4⟩
    have HB6 : Hid (Below w.heap.size w w6) := Lib.hid (HB5.out.trans (hb4.mono HB5.out.size))
    have i1_6 := Lib.hid (i1_5.out.keep hb4)
    have i2_6 := Lib.hid (i2_5.out.keep hb4)
    have x1_6 := Lib.hid (x1_5.out.keep hb4 x1_5.out.lt)
    have x2_6 := Lib.hid (x2_5.out.keep hb4 x2_5.out.lt)
    have i3_6 := Lib.hid (i3_5.out.keep hb4)
    have x3_6 := Lib.hid (x3_5.out.keep hb4 x3_5.out.lt)
    have i4_6 : Hid (IntsAt w6 a4 n4 zs) := Lib.hid (own4.reads)
    have D4 := own4.cap
    clear hb4 HB5 i1_5 i2_5 x1_5 x2_5 i3_5 x3_5 q0x1 q1x1 q0x2 q1x2 own4
    obtain ⟨W7, hW7⟩ : ∃ W, W = w6.alloc (.cells #[.int .i64 P, .slice a4 n4 c4] 26) := ⟨_, rfl⟩
    obtain ⟨G4, hG7⟩ : ∃ G, G = w6.heap.size := ⟨_, rfl⟩
    have hbx : Below w6.heap.size w6 W7 := by rw [hW7]; exact (by repeat (first | exact Below.refl _ _ | assumption | refine Below.setCell ?_ (by first | omega | (simp; done) | (simp; omega)) _ | refine Below.alloc ?_ (by first | omega | (simp; done) | (simp; omega)) _ | apply Below.drew))
    have HW7 := Lib.hid hW7; have HG7 := Lib.hid hG7
    have HB7 : Hid (Below w.heap.size w W7) := Lib.hid (HB6.out.trans (hbx.mono HB6.out.size))
    have i1_7 := Lib.hid (i1_6.out.keep hbx)
    have i2_7 := Lib.hid (i2_6.out.keep hbx)
    have x1_7 := Lib.hid (x1_6.out.keep hbx x1_6.out.lt)
    have x2_7 := Lib.hid (x2_6.out.keep hbx x2_6.out.lt)
    have i3_7 := Lib.hid (i3_6.out.keep hbx)
    have x3_7 := Lib.hid (x3_6.out.keep hbx x3_6.out.lt)
    have i4_7 := Lib.hid (i4_6.out.keep hbx)
    have x4_7 : Hid (BoxF W7 G4 (.int .i64 P) (.slice a4 n4 c4)) := Lib.hid (by rw [hW7, hG7]; exact BoxF.new _ _ _ _)
    clear hbx hW7 hG7 HB6 i1_6 i2_6 x1_6 x2_6 i3_6 x3_6 i4_6
    obtain ⟨q0x1, q1x1, _, _, _⟩ := x1_7.out
    rw [HW7.out] at q0x1 q1x1
    obtain ⟨q0x2, q1x2, _, _, _⟩ := x2_7.out
    rw [HW7.out] at q0x2 q1x2
    go_wp2_with fail
    rw [← HG7.out, ← HW7.out]
    refine (HMi.out _ a1 n1 c1 i1_7.out F1 a2 n2 c2 i2_7.out F2).mono ?_
    rintro e w8 ⟨a5, n5, c5, rfl, own5, hb5⟩
    have HB8 : Hid (Below w.heap.size w w8) := Lib.hid (HB7.out.trans (hb5.mono HB7.out.size))
    have i1_8 := Lib.hid (i1_7.out.keep hb5)
    have i2_8 := Lib.hid (i2_7.out.keep hb5)
    have x1_8 := Lib.hid (x1_7.out.keep hb5 x1_7.out.lt)
    have x2_8 := Lib.hid (x2_7.out.keep hb5 x2_7.out.lt)
    have i3_8 := Lib.hid (i3_7.out.keep hb5)
    have x3_8 := Lib.hid (x3_7.out.keep hb5 x3_7.out.lt)
    have i4_8 := Lib.hid (i4_7.out.keep hb5)
    have x4_8 := Lib.hid (x4_7.out.keep hb5 x4_7.out.lt)
    have i5_8 : Hid (IntsAt w8 a5 n5 zs2) := Lib.hid (own5.reads)
    have D5 := own5.cap
    clear hb5 HB7 i1_7 i2_7 x1_7 x2_7 i3_7 x3_7 i4_7 x4_7 q0x1 q1x1 q0x2 q1x2 own5
    obtain ⟨W9, hW9⟩ : ∃ W, W = w8.alloc (.cells #[.int .i64 P2, .slice a5 n5 c5] 26) := ⟨_, rfl⟩
    obtain ⟨G5, hG9⟩ : ∃ G, G = w8.heap.size := ⟨_, rfl⟩
    have hbx : Below w8.heap.size w8 W9 := by rw [hW9]; exact (by repeat (first | exact Below.refl _ _ | assumption | refine Below.setCell ?_ (by first | omega | (simp; done) | (simp; omega)) _ | refine Below.alloc ?_ (by first | omega | (simp; done) | (simp; omega)) _ | apply Below.drew))
    have HW9 := Lib.hid hW9; have HG9 := Lib.hid hG9
    have HB9 : Hid (Below w.heap.size w W9) := Lib.hid (HB8.out.trans (hbx.mono HB8.out.size))
    have i1_9 := Lib.hid (i1_8.out.keep hbx)
    have i2_9 := Lib.hid (i2_8.out.keep hbx)
    have x1_9 := Lib.hid (x1_8.out.keep hbx x1_8.out.lt)
    have x2_9 := Lib.hid (x2_8.out.keep hbx x2_8.out.lt)
    have i3_9 := Lib.hid (i3_8.out.keep hbx)
    have x3_9 := Lib.hid (x3_8.out.keep hbx x3_8.out.lt)
    have i4_9 := Lib.hid (i4_8.out.keep hbx)
    have x4_9 := Lib.hid (x4_8.out.keep hbx x4_8.out.lt)
    have i5_9 := Lib.hid (i5_8.out.keep hbx)
    have x5_9 : Hid (BoxF W9 G5 (.int .i64 P2) (.slice a5 n5 c5)) := Lib.hid (by rw [hW9, hG9]; exact BoxF.new _ _ _ _)
    clear hbx hW9 hG9 HB8 i1_8 i2_8 x1_8 x2_8 i3_8 x3_8 i4_8 x4_8 i5_8
    obtain ⟨q0x1, q1x1, _, _, _⟩ := x1_9.out
    rw [HW9.out] at q0x1 q1x1
    obtain ⟨q0x2, q1x2, _, _, _⟩ := x2_9.out
    rw [HW9.out] at q0x2 q1x2
    go_wp2_with fail
    rw [← HG9.out, ← HW9.out]
    refine (HMs.out _ a1 n1 c1 i1_9.out F1 a2 n2 c2 i2_9.out F2).mono ?_
    rintro e w10 ⟨a6, n6, c6, rfl, own6, hb6⟩
    have HB10 : Hid (Below w.heap.size w w10) := Lib.hid (HB9.out.trans (hb6.mono HB9.out.size))
    have i1_10 := Lib.hid (i1_9.out.keep hb6)
    have i2_10 := Lib.hid (i2_9.out.keep hb6)
    have x1_10 := Lib.hid (x1_9.out.keep hb6 x1_9.out.lt)
    have x2_10 := Lib.hid (x2_9.out.keep hb6 x2_9.out.lt)
    have i3_10 := Lib.hid (i3_9.out.keep hb6)
    have x3_10 := Lib.hid (x3_9.out.keep hb6 x3_9.out.lt)
    have i4_10 := Lib.hid (i4_9.out.keep hb6)
    have x4_10 := Lib.hid (x4_9.out.keep hb6 x4_9.out.lt)
    have i5_10 := Lib.hid (i5_9.out.keep hb6)
    have x5_10 := Lib.hid (x5_9.out.keep hb6 x5_9.out.lt)
    have i6_10 : Hid (IntsAt w10 a6 n6 zs2) := Lib.hid (own6.reads)
    have D6 := own6.cap
    clear hb6 HB9 i1_9 i2_9 x1_9 x2_9 i3_9 x3_9 i4_9 x4_9 i5_9 x5_9 q0x1 q1x1 q0x2 q1x2 own6
    obtain ⟨W11, hW11⟩ : ∃ W, W = w10.alloc (.cells #[.int .i64 P2, .slice a6 n6 c6] 26) := ⟨_, rfl⟩
    obtain ⟨G6, hG11⟩ : ∃ G, G = w10.heap.size := ⟨_, rfl⟩
    have hbx : Below w10.heap.size w10 W11 := by rw [hW11]; exact (by repeat (first | exact Below.refl _ _ | assumption | refine Below.setCell ?_ (by first | omega | (simp; done) | (simp; omega)) _ | refine Below.alloc ?_ (by first | omega | (simp; done) | (simp; omega)) _ | apply Below.drew))
    have HW11 := Lib.hid hW11; have HG11 := Lib.hid hG11
    have HB11 : Hid (Below w.heap.size w W11) := Lib.hid (HB10.out.trans (hbx.mono HB10.out.size))
    have i1_11 := Lib.hid (i1_10.out.keep hbx)
    have i2_11 := Lib.hid (i2_10.out.keep hbx)
    have x1_11 := Lib.hid (x1_10.out.keep hbx x1_10.out.lt)
    have x2_11 := Lib.hid (x2_10.out.keep hbx x2_10.out.lt)
    have i3_11 := Lib.hid (i3_10.out.keep hbx)
    have x3_11 := Lib.hid (x3_10.out.keep hbx x3_10.out.lt)
    have i4_11 := Lib.hid (i4_10.out.keep hbx)
    have x4_11 := Lib.hid (x4_10.out.keep hbx x4_10.out.lt)
    have i5_11 := Lib.hid (i5_10.out.keep hbx)
    have x5_11 := Lib.hid (x5_10.out.keep hbx x5_10.out.lt)
    have i6_11 := Lib.hid (i6_10.out.keep hbx)
    have x6_11 : Hid (BoxF W11 G6 (.int .i64 P2) (.slice a6 n6 c6)) := Lib.hid (by rw [hW11, hG11]; exact BoxF.new _ _ _ _)
    clear hbx hW11 hG11 HB10 i1_10 i2_10 x1_10 x2_10 i3_10 x3_10 i4_10 x4_10 i5_10 x5_10 i6_10
    go_wp2_with fail
    rw [← HG11.out, ← HW11.out]
    refine (drawIdealOf_any ad n c _ (HS.out.keep HB11.out) hn).mono ?_
    rintro e w12 ⟨r, a7, n7, c7, us, rfl, own7, _, hb7⟩
    have HB12 : Hid (Below w.heap.size w w12) := Lib.hid (HB11.out.trans (hb7.mono HB11.out.size))
    have i1_12 := Lib.hid (i1_11.out.keep hb7)
    have i2_12 := Lib.hid (i2_11.out.keep hb7)
    have x1_12 := Lib.hid (x1_11.out.keep hb7 x1_11.out.lt)
    have x2_12 := Lib.hid (x2_11.out.keep hb7 x2_11.out.lt)
    have i3_12 := Lib.hid (i3_11.out.keep hb7)
    have x3_12 := Lib.hid (x3_11.out.keep hb7 x3_11.out.lt)
    have i4_12 := Lib.hid (i4_11.out.keep hb7)
    have x4_12 := Lib.hid (x4_11.out.keep hb7 x4_11.out.lt)
    have i5_12 := Lib.hid (i5_11.out.keep hb7)
    have x5_12 := Lib.hid (x5_11.out.keep hb7 x5_11.out.lt)
    have i6_12 := Lib.hid (i6_11.out.keep hb7)
    have x6_12 := Lib.hid (x6_11.out.keep hb7 x6_11.out.lt)
    have i7_12 : Hid (IntsAt w12 a7 n7 us) := Lib.hid (own7.reads)
    have D7 := own7.cap
    clear hb7 HB11 i1_11 i2_11 x1_11 x2_11 i3_11 x3_11 i4_11 x4_11 i5_11 x5_11 i6_11 x6_11 own7
    obtain ⟨W13, hW13⟩ : ∃ W, W = w12.alloc (.cells #[.int .i64 r, .slice a7 n7 c7] 32) := ⟨_, rfl⟩
    obtain ⟨G7, hG13⟩ : ∃ G, G = w12.heap.size := ⟨_, rfl⟩
    have hbx : Below w12.heap.size w12 W13 := by rw [hW13]; exact (by repeat (first | exact Below.refl _ _ | assumption | refine Below.setCell ?_ (by first | omega | (simp; done) | (simp; omega)) _ | refine Below.alloc ?_ (by first | omega | (simp; done) | (simp; omega)) _ | apply Below.drew))
    have HW13 := Lib.hid hW13; have HG13 := Lib.hid hG13
    have HB13 : Hid (Below w.heap.size w W13) := Lib.hid (HB12.out.trans (hbx.mono HB12.out.size))
    have i1_13 := Lib.hid (i1_12.out.keep hbx)
    have i2_13 := Lib.hid (i2_12.out.keep hbx)
    have x1_13 := Lib.hid (x1_12.out.keep hbx x1_12.out.lt)
    have x2_13 := Lib.hid (x2_12.out.keep hbx x2_12.out.lt)
    have i3_13 := Lib.hid (i3_12.out.keep hbx)
    have x3_13 := Lib.hid (x3_12.out.keep hbx x3_12.out.lt)
    have i4_13 := Lib.hid (i4_12.out.keep hbx)
    have x4_13 := Lib.hid (x4_12.out.keep hbx x4_12.out.lt)
    have i5_13 := Lib.hid (i5_12.out.keep hbx)
    have x5_13 := Lib.hid (x5_12.out.keep hbx x5_12.out.lt)
    have i6_13 := Lib.hid (i6_12.out.keep hbx)
    have x6_13 := Lib.hid (x6_12.out.keep hbx x6_12.out.lt)
    have i7_13 := Lib.hid (i7_12.out.keep hbx)
    have x7_13 : Hid (BoxF W13 G7 (.int .i64 r) (.slice a7 n7 c7)) := Lib.hid (by rw [hW13, hG13]; exact BoxF.new _ _ _ _)
    clear hbx hW13 hG13 HB12 i1_12 i2_12 x1_12 x2_12 i3_12 x3_12 i4_12 x4_12 i5_12 x5_12 i6_12 x6_12 i7_12
    obtain ⟨R, vs, b3, hIs, hIi, hIc⟩ := idlOf r us
    have HIs := Lib.hid hIs; have HIi := Lib.hid hIi; have HIc := Lib.hid hIc
    clear hIs hIi hIc
    go_wp2_with fail
    rw [← HG13.out, ← HW13.out]
    refine (HIi.out _ a7 n7 c7 i7_13.out D7).mono ?_
    rintro e w14 ⟨a8, n8, c8, rfl, own8, hb8⟩
    have HB14 : Hid (Below w.heap.size w w14) := Lib.hid (HB13.out.trans (hb8.mono HB13.out.size))
    have i1_14 := Lib.hid (i1_13.out.keep hb8)
    have i2_14 := Lib.hid (i2_13.out.keep hb8)
    have x1_14 := Lib.hid (x1_13.out.keep hb8 x1_13.out.lt)
    have x2_14 := Lib.hid (x2_13.out.keep hb8 x2_13.out.lt)
    have i3_14 := Lib.hid (i3_13.out.keep hb8)
    have x3_14 := Lib.hid (x3_13.out.keep hb8 x3_13.out.lt)
    have i4_14 := Lib.hid (i4_13.out.keep hb8)
    have x4_14 := Lib.hid (x4_13.out.keep hb8 x4_13.out.lt)
    have i5_14 := Lib.hid (i5_13.out.keep hb8)
    have x5_14 := Lib.hid (x5_13.out.keep hb8 x5_13.out.lt)
    have i6_14 := Lib.hid (i6_13.out.keep hb8)
    have x6_14 := Lib.hid (x6_13.out.keep hb8 x6_13.out.lt)
    have i7_14 := Lib.hid (i7_13.out.keep hb8)
    have x7_14 := Lib.hid (x7_13.out.keep hb8 x7_13.out.lt)
    have i8_14 : Hid (IntsAt w14 a8 n8 vs) := Lib.hid (own8.reads)
    have D8 := own8.cap
    clear hb8 HB13 i1_13 i2_13 x1_13 x2_13 i3_13 x3_13 i4_13 x4_13 i5_13 x5_13 i6_13 x6_13 i7_13 x7_13 own8
    obtain ⟨W15, hW15⟩ : ∃ W, W = w14.alloc (.cells #[.int .i64 R, .slice a8 n8 c8] 26) := ⟨_, rfl⟩
    obtain ⟨G8, hG15⟩ : ∃ G, G = w14.heap.size := ⟨_, rfl⟩
    have hbx : Below w14.heap.size w14 W15 := by rw [hW15]; exact (by repeat (first | exact Below.refl _ _ | assumption | refine Below.setCell ?_ (by first | omega | (simp; done) | (simp; omega)) _ | refine Below.alloc ?_ (by first | omega | (simp; done) | (simp; omega)) _ | apply Below.drew))
    have HW15 := Lib.hid hW15; have HG15 := Lib.hid hG15
    have HB15 : Hid (Below w.heap.size w W15) := Lib.hid (HB14.out.trans (hbx.mono HB14.out.size))
    have i1_15 := Lib.hid (i1_14.out.keep hbx)
    have i2_15 := Lib.hid (i2_14.out.keep hbx)
    have x1_15 := Lib.hid (x1_14.out.keep hbx x1_14.out.lt)
    have x2_15 := Lib.hid (x2_14.out.keep hbx x2_14.out.lt)
    have i3_15 := Lib.hid (i3_14.out.keep hbx)
    have x3_15 := Lib.hid (x3_14.out.keep hbx x3_14.out.lt)
    have i4_15 := Lib.hid (i4_14.out.keep hbx)
    have x4_15 := Lib.hid (x4_14.out.keep hbx x4_14.out.lt)
    have i5_15 := Lib.hid (i5_14.out.keep hbx)
    have x5_15 := Lib.hid (x5_14.out.keep hbx x5_14.out.lt)
    have i6_15 := Lib.hid (i6_14.out.keep hbx)
    have x6_15 := Lib.hid (x6_14.out.keep hbx x6_14.out.lt)
    have i7_15 := Lib.hid (i7_14.out.keep hbx)
    have x7_15 := Lib.hid (x7_14.out.keep hbx x7_14.out.lt)
    have i8_15 := Lib.hid (i8_14.out.keep hbx)
    have x8_15 : Hid (BoxF W15 G8 (.int .i64 R) (.slice a8 n8 c8)) := Lib.hid (by rw [hW15, hG15]; exact BoxF.new _ _ _ _)
    clear hbx hW15 hG15 HB14 i1_14 i2_14 x1_14 x2_14 i3_14 x3_14 i4_14 x4_14 i5_14 x5_14 i6_14 x6_14 i7_14 x7_14 i8_14
    obtain ⟨q0x7, q1x7, _, _, _⟩ := x7_15.out
    rw [HW15.out] at q0x7 q1x7
    go_wp2_with fail
    rw [← HG15.out, ← HW15.out]
    refine (HIs.out _ a7 n7 c7 i7_15.out D7).mono ?_
    rintro e w16 ⟨a9, n9, c9, rfl, own9, hb9⟩
    have HB16 : Hid (Below w.heap.size w w16) := Lib.hid (HB15.out.trans (hb9.mono HB15.out.size))
    have i1_16 := Lib.hid (i1_15.out.keep hb9)
    have i2_16 := Lib.hid (i2_15.out.keep hb9)
    have x1_16 := Lib.hid (x1_15.out.keep hb9 x1_15.out.lt)
    have x2_16 := Lib.hid (x2_15.out.keep hb9 x2_15.out.lt)
    have i3_16 := Lib.hid (i3_15.out.keep hb9)
    have x3_16 := Lib.hid (x3_15.out.keep hb9 x3_15.out.lt)
    have i4_16 := Lib.hid (i4_15.out.keep hb9)
    have x4_16 := Lib.hid (x4_15.out.keep hb9 x4_15.out.lt)
    have i5_16 := Lib.hid (i5_15.out.keep hb9)
    have x5_16 := Lib.hid (x5_15.out.keep hb9 x5_15.out.lt)
    have i6_16 := Lib.hid (i6_15.out.keep hb9)
    have x6_16 := Lib.hid (x6_15.out.keep hb9 x6_15.out.lt)
    have i7_16 := Lib.hid (i7_15.out.keep hb9)
    have x7_16 := Lib.hid (x7_15.out.keep hb9 x7_15.out.lt)
    have i8_16 := Lib.hid (i8_15.out.keep hb9)
    have x8_16 := Lib.hid (x8_15.out.keep hb9 x8_15.out.lt)
    have i9_16 : Hid (IntsAt w16 a9 n9 vs) := Lib.hid (own9.reads)
    have D9 := own9.cap
    clear hb9 HB15 i1_15 i2_15 x1_15 x2_15 i3_15 x3_15 i4_15 x4_15 i5_15 x5_15 i6_15 x6_15 i7_15 x7_15 i8_15 x8_15 q0x7 q1x7 own9
    obtain ⟨W17, hW17⟩ : ∃ W, W = w16.alloc (.cells #[.int .i64 R, .slice a9 n9 c9] 26) := ⟨_, rfl⟩
    obtain ⟨G9, hG17⟩ : ∃ G, G = w16.heap.size := ⟨_, rfl⟩
    have hbx : Below w16.heap.size w16 W17 := by rw [hW17]; exact (by repeat (first | exact Below.refl _ _ | assumption | refine Below.setCell ?_ (by first | omega | (simp; done) | (simp; omega)) _ | refine Below.alloc ?_ (by first | omega | (simp; done) | (simp; omega)) _ | apply Below.drew))
    have HW17 := Lib.hid hW17; have HG17 := Lib.hid hG17
    have HB17 : Hid (Below w.heap.size w W17) := Lib.hid (HB16.out.trans (hbx.mono HB16.out.size))
    have i1_17 := Lib.hid (i1_16.out.keep hbx)
    have i2_17 := Lib.hid (i2_16.out.keep hbx)
    have x1_17 := Lib.hid (x1_16.out.keep hbx x1_16.out.lt)
    have x2_17 := Lib.hid (x2_16.out.keep hbx x2_16.out.lt)
    have i3_17 := Lib.hid (i3_16.out.keep hbx)
    have x3_17 := Lib.hid (x3_16.out.keep hbx x3_16.out.lt)
    have i4_17 := Lib.hid (i4_16.out.keep hbx)
    have x4_17 := Lib.hid (x4_16.out.keep hbx x4_16.out.lt)
    have i5_17 := Lib.hid (i5_16.out.keep hbx)
    have x5_17 := Lib.hid (x5_16.out.keep hbx x5_16.out.lt)
    have i6_17 := Lib.hid (i6_16.out.keep hbx)
    have x6_17 := Lib.hid (x6_16.out.keep hbx x6_16.out.lt)
    have i7_17 := Lib.hid (i7_16.out.keep hbx)
    have x7_17 := Lib.hid (x7_16.out.keep hbx x7_16.out.lt)
    have i8_17 := Lib.hid (i8_16.out.keep hbx)
    have x8_17 := Lib.hid (x8_16.out.keep hbx x8_16.out.lt)
    have i9_17 := Lib.hid (i9_16.out.keep hbx)
    have x9_17 : Hid (BoxF W17 G9 (.int .i64 R) (.slice a9 n9 c9)) := Lib.hid (by rw [hW17, hG17]; exact BoxF.new _ _ _ _)
    clear hbx hW17 hG17 HB16 i1_16 i2_16 x1_16 x2_16 i3_16 x3_16 i4_16 x4_16 i5_16 x5_16 i6_16 x6_16 i7_16 x7_16 i8_16 x8_16 i9_16
    obtain ⟨Q, fs, b5, rs, hCs, hCi, hPs, hPi, hrl, hCP⟩ := cpxOf p xs
    have HCs := Lib.hid hCs; have HCi := Lib.hid hCi; have HPs := Lib.hid hPs; have HPi := Lib.hid hPi; have HCP := Lib.hid hCP; have Hrl := Lib.hid hrl
    clear hCs hCi hPs hPi hrl hCP
    obtain ⟨q0x1, q1x1, _, _, _⟩ := x1_17.out
    rw [HW17.out] at q0x1 q1x1
    go_wp2_with fail
    rw [← HG17.out, ← HW17.out]
    refine (HCi.out _ a1 n1 c1 i1_17.out D1).mono ?_
    rintro e w18 ⟨a10, n10, c10, rfl, own10, hb10⟩
    have HB18 : Hid (Below w.heap.size w w18) := Lib.hid (HB17.out.trans (hb10.mono HB17.out.size))
    have i1_18 := Lib.hid (i1_17.out.keep hb10)
    have i2_18 := Lib.hid (i2_17.out.keep hb10)
    have x1_18 := Lib.hid (x1_17.out.keep hb10 x1_17.out.lt)
    have x2_18 := Lib.hid (x2_17.out.keep hb10 x2_17.out.lt)
    have i3_18 := Lib.hid (i3_17.out.keep hb10)
    have x3_18 := Lib.hid (x3_17.out.keep hb10 x3_17.out.lt)
    have i4_18 := Lib.hid (i4_17.out.keep hb10)
    have x4_18 := Lib.hid (x4_17.out.keep hb10 x4_17.out.lt)
    have i5_18 := Lib.hid (i5_17.out.keep hb10)
    have x5_18 := Lib.hid (x5_17.out.keep hb10 x5_17.out.lt)
    have i6_18 := Lib.hid (i6_17.out.keep hb10)
    have x6_18 := Lib.hid (x6_17.out.keep hb10 x6_17.out.lt)
    have i7_18 := Lib.hid (i7_17.out.keep hb10)
    have x7_18 := Lib.hid (x7_17.out.keep hb10 x7_17.out.lt)
    have i8_18 := Lib.hid (i8_17.out.keep hb10)
    have x8_18 := Lib.hid (x8_17.out.keep hb10 x8_17.out.lt)
    have i9_18 := Lib.hid (i9_17.out.keep hb10)
    have x9_18 := Lib.hid (x9_17.out.keep hb10 x9_17.out.lt)
    have i10_18 : Hid (IntsAt w18 a10 n10 fs) := Lib.hid (own10.reads)
    have D10 := own10.cap
    clear hb10 HB17 i1_17 i2_17 x1_17 x2_17 i3_17 x3_17 i4_17 x4_17 i5_17 x5_17 i6_17 x6_17 i7_17 x7_17 i8_17 x8_17 i9_17 x9_17 q0x1 q1x1 own10
    obtain ⟨W19, hW19⟩ : ∃ W, W = w18.alloc (.cells #[.int .i64 Q, .slice a10 n10 c10] 32) := ⟨_, rfl⟩
    obtain ⟨G10, hG19⟩ : ∃ G, G = w18.heap.size := ⟨_, rfl⟩
    have hbx : Below w18.heap.size w18 W19 := by rw [hW19]; exact (by repeat (first | exact Below.refl _ _ | assumption | refine Below.setCell ?_ (by first | omega | (simp; done) | (simp; omega)) _ | refine Below.alloc ?_ (by first | omega | (simp; done) | (simp; omega)) _ | apply Below.drew))
    have HW19 := Lib.hid hW19; have HG19 := Lib.hid hG19
    have HB19 : Hid (Below w.heap.size w W19) := Lib.hid (HB18.out.trans (hbx.mono HB18.out.size))
    have i1_19 := Lib.hid (i1_18.out.keep hbx)
    have i2_19 := Lib.hid (i2_18.out.keep hbx)
    have x1_19 := Lib.hid (x1_18.out.keep hbx x1_18.out.lt)
    have x2_19 := Lib.hid (x2_18.out.keep hbx x2_18.out.lt)
    have i3_19 := Lib.hid (i3_18.out.keep hbx)
    have x3_19 := Lib.hid (x3_18.out.keep hbx x3_18.out.lt)
    have i4_19 := Lib.hid (i4_18.out.keep hbx)
    have x4_19 := Lib.hid (x4_18.out.keep hbx x4_18.out.lt)
    have i5_19 := Lib.hid (i5_18.out.keep hbx)
    have x5_19 := Lib.hid (x5_18.out.keep hbx x5_18.out.lt)
    have i6_19 := Lib.hid (i6_18.out.keep hbx)
    have x6_19 := Lib.hid (x6_18.out.keep hbx x6_18.out.lt)
    have i7_19 := Lib.hid (i7_18.out.keep hbx)
    have x7_19 := Lib.hid (x7_18.out.keep hbx x7_18.out.lt)
    have i8_19 := Lib.hid (i8_18.out.keep hbx)
    have x8_19 := Lib.hid (x8_18.out.keep hbx x8_18.out.lt)
    have i9_19 := Lib.hid (i9_18.out.keep hbx)
    have x9_19 := Lib.hid (x9_18.out.keep hbx x9_18.out.lt)
    have i10_19 := Lib.hid (i10_18.out.keep hbx)
    have x10_19 : Hid (BoxF W19 G10 (.int .i64 Q) (.slice a10 n10 c10)) := Lib.hid (by rw [hW19, hG19]; exact BoxF.new _ _ _ _)
    clear hbx hW19 hG19 HB18 i1_18 i2_18 x1_18 x2_18 i3_18 x3_18 i4_18 x4_18 i5_18 x5_18 i6_18 x6_18 i7_18 x7_18 i8_18 x8_18 i9_18 x9_18 i10_18
    obtain ⟨q0x1, q1x1, _, _, _⟩ := x1_19.out
    rw [HW19.out] at q0x1 q1x1
    go_wp2_with fail
    rw [← HG19.out, ← HW19.out]
    refine (HCs.out _ a1 n1 c1 i1_19.out D1).mono ?_
    rintro e w20 ⟨a11, n11, c11, rfl, own11, hb11⟩
    have HB20 : Hid (Below w.heap.size w w20) := Lib.hid (HB19.out.trans (hb11.mono HB19.out.size))
    have i1_20 := Lib.hid (i1_19.out.keep hb11)
    have i2_20 := Lib.hid (i2_19.out.keep hb11)
    have x1_20 := Lib.hid (x1_19.out.keep hb11 x1_19.out.lt)
    have x2_20 := Lib.hid (x2_19.out.keep hb11 x2_19.out.lt)
    have i3_20 := Lib.hid (i3_19.out.keep hb11)
    have x3_20 := Lib.hid (x3_19.out.keep hb11 x3_19.out.lt)
    have i4_20 := Lib.hid (i4_19.out.keep hb11)
    have x4_20 := Lib.hid (x4_19.out.keep hb11 x4_19.out.lt)
    have i5_20 := Lib.hid (i5_19.out.keep hb11)
    have x5_20 := Lib.hid (x5_19.out.keep hb11 x5_19.out.lt)
    have i6_20 := Lib.hid (i6_19.out.keep hb11)
    have x6_20 := Lib.hid (x6_19.out.keep hb11 x6_19.out.lt)
    have i7_20 := Lib.hid (i7_19.out.keep hb11)
    have x7_20 := Lib.hid (x7_19.out.keep hb11 x7_19.out.lt)
    have i8_20 := Lib.hid (i8_19.out.keep hb11)
    have x8_20 := Lib.hid (x8_19.out.keep hb11 x8_19.out.lt)
    have i9_20 := Lib.hid (i9_19.out.keep hb11)
    have x9_20 := Lib.hid (x9_19.out.keep hb11 x9_19.out.lt)
    have i10_20 := Lib.hid (i10_19.out.keep hb11)
    have x10_20 := Lib.hid (x10_19.out.keep hb11 x10_19.out.lt)
    have i11_20 : Hid (IntsAt w20 a11 n11 fs) := Lib.hid (own11.reads)
    have D11 := own11.cap
    clear hb11 HB19 i1_19 i2_19 x1_19 x2_19 i3_19 x3_19 i4_19 x4_19 i5_19 x5_19 i6_19 x6_19 i7_19 x7_19 i8_19 x8_19 i9_19 x9_19 i10_19 x10_19 q0x1 q1x1 own11
    obtain ⟨W21, hW21⟩ : ∃ W, W = w20.alloc (.cells #[.int .i64 Q, .slice a11 n11 c11] 32) := ⟨_, rfl⟩
    obtain ⟨G11, hG21⟩ : ∃ G, G = w20.heap.size := ⟨_, rfl⟩
    have hbx : Below w20.heap.size w20 W21 := by rw [hW21]; exact (by repeat (first | exact Below.refl _ _ | assumption | refine Below.setCell ?_ (by first | omega | (simp; done) | (simp; omega)) _ | refine Below.alloc ?_ (by first | omega | (simp; done) | (simp; omega)) _ | apply Below.drew))
    have HW21 := Lib.hid hW21; have HG21 := Lib.hid hG21
    have HB21 : Hid (Below w.heap.size w W21) := Lib.hid (HB20.out.trans (hbx.mono HB20.out.size))
    have i1_21 := Lib.hid (i1_20.out.keep hbx)
    have i2_21 := Lib.hid (i2_20.out.keep hbx)
    have x1_21 := Lib.hid (x1_20.out.keep hbx x1_20.out.lt)
    have x2_21 := Lib.hid (x2_20.out.keep hbx x2_20.out.lt)
    have i3_21 := Lib.hid (i3_20.out.keep hbx)
    have x3_21 := Lib.hid (x3_20.out.keep hbx x3_20.out.lt)
    have i4_21 := Lib.hid (i4_20.out.keep hbx)
    have x4_21 := Lib.hid (x4_20.out.keep hbx x4_20.out.lt)
    have i5_21 := Lib.hid (i5_20.out.keep hbx)
    have x5_21 := Lib.hid (x5_20.out.keep hbx x5_20.out.lt)
    have i6_21 := Lib.hid (i6_20.out.keep hbx)
    have x6_21 := Lib.hid (x6_20.out.keep hbx x6_20.out.lt)
    have i7_21 := Lib.hid (i7_20.out.keep hbx)
    have x7_21 := Lib.hid (x7_20.out.keep hbx x7_20.out.lt)
    have i8_21 := Lib.hid (i8_20.out.keep hbx)
    have x8_21 := Lib.hid (x8_20.out.keep hbx x8_20.out.lt)
    have i9_21 := Lib.hid (i9_20.out.keep hbx)
    have x9_21 := Lib.hid (x9_20.out.keep hbx x9_20.out.lt)
    have i10_21 := Lib.hid (i10_20.out.keep hbx)
    have x10_21 := Lib.hid (x10_20.out.keep hbx x10_20.out.lt)
    have i11_21 := Lib.hid (i11_20.out.keep hbx)
    have x11_21 : Hid (BoxF W21 G11 (.int .i64 Q) (.slice a11 n11 c11)) := Lib.hid (by rw [hW21, hG21]; exact BoxF.new _ _ _ _)
    clear hbx hW21 hG21 HB20 i1_20 i2_20 x1_20 x2_20 i3_20 x3_20 i4_20 x4_20 i5_20 x5_20 i6_20 x6_20 i7_20 x7_20 i8_20 x8_20 i9_20 x9_20 i10_20 x10_20 i11_20
    go_wp2_with fail
    rw [← HG21.out, ← HW21.out]
    refine (drawQuotientBy_any ad n c _ (HS.out.keep HB21.out) hn).mono ?_
    rintro e w22 ⟨u, a12, n12, c12, ts, t, rfl, own12, _, hb12⟩
    have HB22 : Hid (Below w.heap.size w w22) := Lib.hid (HB21.out.trans (hb12.mono HB21.out.size))
    have i1_22 := Lib.hid (i1_21.out.keep hb12)
    have i2_22 := Lib.hid (i2_21.out.keep hb12)
    have x1_22 := Lib.hid (x1_21.out.keep hb12 x1_21.out.lt)
    have x2_22 := Lib.hid (x2_21.out.keep hb12 x2_21.out.lt)
    have i3_22 := Lib.hid (i3_21.out.keep hb12)
    have x3_22 := Lib.hid (x3_21.out.keep hb12 x3_21.out.lt)
    have i4_22 := Lib.hid (i4_21.out.keep hb12)
    have x4_22 := Lib.hid (x4_21.out.keep hb12 x4_21.out.lt)
    have i5_22 := Lib.hid (i5_21.out.keep hb12)
    have x5_22 := Lib.hid (x5_21.out.keep hb12 x5_21.out.lt)
    have i6_22 := Lib.hid (i6_21.out.keep hb12)
    have x6_22 := Lib.hid (x6_21.out.keep hb12 x6_21.out.lt)
    have i7_22 := Lib.hid (i7_21.out.keep hb12)
    have x7_22 := Lib.hid (x7_21.out.keep hb12 x7_21.out.lt)
    have i8_22 := Lib.hid (i8_21.out.keep hb12)
    have x8_22 := Lib.hid (x8_21.out.keep hb12 x8_21.out.lt)
    have i9_22 := Lib.hid (i9_21.out.keep hb12)
    have x9_22 := Lib.hid (x9_21.out.keep hb12 x9_21.out.lt)
    have i10_22 := Lib.hid (i10_21.out.keep hb12)
    have x10_22 := Lib.hid (x10_21.out.keep hb12 x10_21.out.lt)
    have i11_22 := Lib.hid (i11_21.out.keep hb12)
    have x11_22 := Lib.hid (x11_21.out.keep hb12 x11_21.out.lt)
    have i12_22 : Hid (IntsAt w22 a12 n12 ts) := Lib.hid (own12.reads)
    have D12 := own12.cap
    clear hb12 HB21 i1_21 i2_21 x1_21 x2_21 i3_21 x3_21 i4_21 x4_21 i5_21 x5_21 i6_21 x6_21 i7_21 x7_21 i8_21 x8_21 i9_21 x9_21 i10_21 x10_21 i11_21 x11_21 own12
    obtain ⟨W23, hW23⟩ : ∃ W, W = w22.alloc (.cells #[.int .i64 u, .slice a12 n12 c12] 26) := ⟨_, rfl⟩
    obtain ⟨G12, hG23⟩ : ∃ G, G = w22.heap.size := ⟨_, rfl⟩
    have hbx : Below w22.heap.size w22 W23 := by rw [hW23]; exact (by repeat (first | exact Below.refl _ _ | assumption | refine Below.setCell ?_ (by first | omega | (simp; done) | (simp; omega)) _ | refine Below.alloc ?_ (by first | omega | (simp; done) | (simp; omega)) _ | apply Below.drew))
    have HW23 := Lib.hid hW23; have HG23 := Lib.hid hG23
    have HB23 : Hid (Below w.heap.size w W23) := Lib.hid (HB22.out.trans (hbx.mono HB22.out.size))
    have i1_23 := Lib.hid (i1_22.out.keep hbx)
    have i2_23 := Lib.hid (i2_22.out.keep hbx)
    have x1_23 := Lib.hid (x1_22.out.keep hbx x1_22.out.lt)
    have x2_23 := Lib.hid (x2_22.out.keep hbx x2_22.out.lt)
    have i3_23 := Lib.hid (i3_22.out.keep hbx)
    have x3_23 := Lib.hid (x3_22.out.keep hbx x3_22.out.lt)
    have i4_23 := Lib.hid (i4_22.out.keep hbx)
    have x4_23 := Lib.hid (x4_22.out.keep hbx x4_22.out.lt)
    have i5_23 := Lib.hid (i5_22.out.keep hbx)
    have x5_23 := Lib.hid (x5_22.out.keep hbx x5_22.out.lt)
    have i6_23 := Lib.hid (i6_22.out.keep hbx)
    have x6_23 := Lib.hid (x6_22.out.keep hbx x6_22.out.lt)
    have i7_23 := Lib.hid (i7_22.out.keep hbx)
    have x7_23 := Lib.hid (x7_22.out.keep hbx x7_22.out.lt)
    have i8_23 := Lib.hid (i8_22.out.keep hbx)
    have x8_23 := Lib.hid (x8_22.out.keep hbx x8_22.out.lt)
    have i9_23 := Lib.hid (i9_22.out.keep hbx)
    have x9_23 := Lib.hid (x9_22.out.keep hbx x9_22.out.lt)
    have i10_23 := Lib.hid (i10_22.out.keep hbx)
    have x10_23 := Lib.hid (x10_22.out.keep hbx x10_22.out.lt)
    have i11_23 := Lib.hid (i11_22.out.keep hbx)
    have x11_23 := Lib.hid (x11_22.out.keep hbx x11_22.out.lt)
    have i12_23 := Lib.hid (i12_22.out.keep hbx)
    have x12_23 : Hid (BoxF W23 G12 (.int .i64 u) (.slice a12 n12 c12)) := Lib.hid (by rw [hW23, hG23]; exact BoxF.new _ _ _ _)
    clear hbx hW23 hG23 HB22 i1_22 i2_22 x1_22 x2_22 i3_22 x3_22 i4_22 x4_22 i5_22 x5_22 i6_22 x6_22 i7_22 x7_22 i8_22 x8_22 i9_22 x9_22 i10_22 x10_22 i11_22 x11_22 i12_22
    obtain ⟨H, hs2, b7, hQs, hQi, hQQ⟩ := quots u ts t
    have HQs := Lib.hid hQs; have HQi := Lib.hid hQi; have HQQ := Lib.hid hQQ
    clear hQs hQi hQQ
    go_wp2_with fail
    rw [← HG23.out, ← HW23.out]
    refine (HQi.out _ a12 n12 c12 i12_23.out D12).mono ?_
    rintro e w24 ⟨a13, n13, c13, rfl, own13, hb13⟩
    have HB24 : Hid (Below w.heap.size w w24) := Lib.hid (HB23.out.trans (hb13.mono HB23.out.size))
    have i1_24 := Lib.hid (i1_23.out.keep hb13)
    have i2_24 := Lib.hid (i2_23.out.keep hb13)
    have x1_24 := Lib.hid (x1_23.out.keep hb13 x1_23.out.lt)
    have x2_24 := Lib.hid (x2_23.out.keep hb13 x2_23.out.lt)
    have i3_24 := Lib.hid (i3_23.out.keep hb13)
    have x3_24 := Lib.hid (x3_23.out.keep hb13 x3_23.out.lt)
    have i4_24 := Lib.hid (i4_23.out.keep hb13)
    have x4_24 := Lib.hid (x4_23.out.keep hb13 x4_23.out.lt)
    have i5_24 := Lib.hid (i5_23.out.keep hb13)
    have x5_24 := Lib.hid (x5_23.out.keep hb13 x5_23.out.lt)
    have i6_24 := Lib.hid (i6_23.out.keep hb13)
    have x6_24 := Lib.hid (x6_23.out.keep hb13 x6_23.out.lt)
    have i7_24 := Lib.hid (i7_23.out.keep hb13)
    have x7_24 := Lib.hid (x7_23.out.keep hb13 x7_23.out.lt)
    have i8_24 := Lib.hid (i8_23.out.keep hb13)
    have x8_24 := Lib.hid (x8_23.out.keep hb13 x8_23.out.lt)
    have i9_24 := Lib.hid (i9_23.out.keep hb13)
    have x9_24 := Lib.hid (x9_23.out.keep hb13 x9_23.out.lt)
    have i10_24 := Lib.hid (i10_23.out.keep hb13)
    have x10_24 := Lib.hid (x10_23.out.keep hb13 x10_23.out.lt)
    have i11_24 := Lib.hid (i11_23.out.keep hb13)
    have x11_24 := Lib.hid (x11_23.out.keep hb13 x11_23.out.lt)
    have i12_24 := Lib.hid (i12_23.out.keep hb13)
    have x12_24 := Lib.hid (x12_23.out.keep hb13 x12_23.out.lt)
    have i13_24 : Hid (IntsAt w24 a13 n13 hs2) := Lib.hid (own13.reads)
    have D13 := own13.cap
    clear hb13 HB23 i1_23 i2_23 x1_23 x2_23 i3_23 x3_23 i4_23 x4_23 i5_23 x5_23 i6_23 x6_23 i7_23 x7_23 i8_23 x8_23 i9_23 x9_23 i10_23 x10_23 i11_23 x11_23 i12_23 x12_23 own13
    obtain ⟨W25, hW25⟩ : ∃ W, W = w24.alloc (.cells #[.int .i64 H, .slice a13 n13 c13] 26) := ⟨_, rfl⟩
    obtain ⟨G13, hG25⟩ : ∃ G, G = w24.heap.size := ⟨_, rfl⟩
    have hbx : Below w24.heap.size w24 W25 := by rw [hW25]; exact (by repeat (first | exact Below.refl _ _ | assumption | refine Below.setCell ?_ (by first | omega | (simp; done) | (simp; omega)) _ | refine Below.alloc ?_ (by first | omega | (simp; done) | (simp; omega)) _ | apply Below.drew))
    have HW25 := Lib.hid hW25; have HG25 := Lib.hid hG25
    have HB25 : Hid (Below w.heap.size w W25) := Lib.hid (HB24.out.trans (hbx.mono HB24.out.size))
    have i1_25 := Lib.hid (i1_24.out.keep hbx)
    have i2_25 := Lib.hid (i2_24.out.keep hbx)
    have x1_25 := Lib.hid (x1_24.out.keep hbx x1_24.out.lt)
    have x2_25 := Lib.hid (x2_24.out.keep hbx x2_24.out.lt)
    have i3_25 := Lib.hid (i3_24.out.keep hbx)
    have x3_25 := Lib.hid (x3_24.out.keep hbx x3_24.out.lt)
    have i4_25 := Lib.hid (i4_24.out.keep hbx)
    have x4_25 := Lib.hid (x4_24.out.keep hbx x4_24.out.lt)
    have i5_25 := Lib.hid (i5_24.out.keep hbx)
    have x5_25 := Lib.hid (x5_24.out.keep hbx x5_24.out.lt)
    have i6_25 := Lib.hid (i6_24.out.keep hbx)
    have x6_25 := Lib.hid (x6_24.out.keep hbx x6_24.out.lt)
    have i7_25 := Lib.hid (i7_24.out.keep hbx)
    have x7_25 := Lib.hid (x7_24.out.keep hbx x7_24.out.lt)
    have i8_25 := Lib.hid (i8_24.out.keep hbx)
    have x8_25 := Lib.hid (x8_24.out.keep hbx x8_24.out.lt)
    have i9_25 := Lib.hid (i9_24.out.keep hbx)
    have x9_25 := Lib.hid (x9_24.out.keep hbx x9_24.out.lt)
    have i10_25 := Lib.hid (i10_24.out.keep hbx)
    have x10_25 := Lib.hid (x10_24.out.keep hbx x10_24.out.lt)
    have i11_25 := Lib.hid (i11_24.out.keep hbx)
    have x11_25 := Lib.hid (x11_24.out.keep hbx x11_24.out.lt)
    have i12_25 := Lib.hid (i12_24.out.keep hbx)
    have x12_25 := Lib.hid (x12_24.out.keep hbx x12_24.out.lt)
    have i13_25 := Lib.hid (i13_24.out.keep hbx)
    have x13_25 : Hid (BoxF W25 G13 (.int .i64 H) (.slice a13 n13 c13)) := Lib.hid (by rw [hW25, hG25]; exact BoxF.new _ _ _ _)
    clear hbx hW25 hG25 HB24 i1_24 i2_24 x1_24 x2_24 i3_24 x3_24 i4_24 x4_24 i5_24 x5_24 i6_24 x6_24 i7_24 x7_24 i8_24 x8_24 i9_24 x9_24 i10_24 x10_24 i11_24 x11_24 i12_24 x12_24 i13_24
    obtain ⟨q0x12, q1x12, _, _, _⟩ := x12_25.out
    rw [HW25.out] at q0x12 q1x12
    go_wp2_with fail
    rw [← HG25.out, ← HW25.out]
    refine (HQs.out _ a12 n12 c12 i12_25.out D12).mono ?_
    rintro e w26 ⟨a14, n14, c14, rfl, own14, hb14⟩
    have HB26 : Hid (Below w.heap.size w w26) := Lib.hid (HB25.out.trans (hb14.mono HB25.out.size))
    have i1_26 := Lib.hid (i1_25.out.keep hb14)
    have i2_26 := Lib.hid (i2_25.out.keep hb14)
    have x1_26 := Lib.hid (x1_25.out.keep hb14 x1_25.out.lt)
    have x2_26 := Lib.hid (x2_25.out.keep hb14 x2_25.out.lt)
    have i3_26 := Lib.hid (i3_25.out.keep hb14)
    have x3_26 := Lib.hid (x3_25.out.keep hb14 x3_25.out.lt)
    have i4_26 := Lib.hid (i4_25.out.keep hb14)
    have x4_26 := Lib.hid (x4_25.out.keep hb14 x4_25.out.lt)
    have i5_26 := Lib.hid (i5_25.out.keep hb14)
    have x5_26 := Lib.hid (x5_25.out.keep hb14 x5_25.out.lt)
    have i6_26 := Lib.hid (i6_25.out.keep hb14)
    have x6_26 := Lib.hid (x6_25.out.keep hb14 x6_25.out.lt)
    have i7_26 := Lib.hid (i7_25.out.keep hb14)
    have x7_26 := Lib.hid (x7_25.out.keep hb14 x7_25.out.lt)
    have i8_26 := Lib.hid (i8_25.out.keep hb14)
    have x8_26 := Lib.hid (x8_25.out.keep hb14 x8_25.out.lt)
    have i9_26 := Lib.hid (i9_25.out.keep hb14)
    have x9_26 := Lib.hid (x9_25.out.keep hb14 x9_25.out.lt)
    have i10_26 := Lib.hid (i10_25.out.keep hb14)
    have x10_26 := Lib.hid (x10_25.out.keep hb14 x10_25.out.lt)
    have i11_26 := Lib.hid (i11_25.out.keep hb14)
    have x11_26 := Lib.hid (x11_25.out.keep hb14 x11_25.out.lt)
    have i12_26 := Lib.hid (i12_25.out.keep hb14)
    have x12_26 := Lib.hid (x12_25.out.keep hb14 x12_25.out.lt)
    have i13_26 := Lib.hid (i13_25.out.keep hb14)
    have x13_26 := Lib.hid (x13_25.out.keep hb14 x13_25.out.lt)
    have i14_26 : Hid (IntsAt w26 a14 n14 hs2) := Lib.hid (own14.reads)
    have D14 := own14.cap
    clear hb14 HB25 i1_25 i2_25 x1_25 x2_25 i3_25 x3_25 i4_25 x4_25 i5_25 x5_25 i6_25 x6_25 i7_25 x7_25 i8_25 x8_25 i9_25 x9_25 i10_25 x10_25 i11_25 x11_25 i12_25 x12_25 i13_25 x13_25 q0x12 q1x12 own14
    obtain ⟨W27, hW27⟩ : ∃ W, W = w26.alloc (.cells #[.int .i64 H, .slice a14 n14 c14] 26) := ⟨_, rfl⟩
    obtain ⟨G14, hG27⟩ : ∃ G, G = w26.heap.size := ⟨_, rfl⟩
    have hbx : Below w26.heap.size w26 W27 := by rw [hW27]; exact (by repeat (first | exact Below.refl _ _ | assumption | refine Below.setCell ?_ (by first | omega | (simp; done) | (simp; omega)) _ | refine Below.alloc ?_ (by first | omega | (simp; done) | (simp; omega)) _ | apply Below.drew))
    have HW27 := Lib.hid hW27; have HG27 := Lib.hid hG27
    have HB27 : Hid (Below w.heap.size w W27) := Lib.hid (HB26.out.trans (hbx.mono HB26.out.size))
    have i1_27 := Lib.hid (i1_26.out.keep hbx)
    have i2_27 := Lib.hid (i2_26.out.keep hbx)
    have x1_27 := Lib.hid (x1_26.out.keep hbx x1_26.out.lt)
    have x2_27 := Lib.hid (x2_26.out.keep hbx x2_26.out.lt)
    have i3_27 := Lib.hid (i3_26.out.keep hbx)
    have x3_27 := Lib.hid (x3_26.out.keep hbx x3_26.out.lt)
    have i4_27 := Lib.hid (i4_26.out.keep hbx)
    have x4_27 := Lib.hid (x4_26.out.keep hbx x4_26.out.lt)
    have i5_27 := Lib.hid (i5_26.out.keep hbx)
    have x5_27 := Lib.hid (x5_26.out.keep hbx x5_26.out.lt)
    have i6_27 := Lib.hid (i6_26.out.keep hbx)
    have x6_27 := Lib.hid (x6_26.out.keep hbx x6_26.out.lt)
    have i7_27 := Lib.hid (i7_26.out.keep hbx)
    have x7_27 := Lib.hid (x7_26.out.keep hbx x7_26.out.lt)
    have i8_27 := Lib.hid (i8_26.out.keep hbx)
    have x8_27 := Lib.hid (x8_26.out.keep hbx x8_26.out.lt)
    have i9_27 := Lib.hid (i9_26.out.keep hbx)
    have x9_27 := Lib.hid (x9_26.out.keep hbx x9_26.out.lt)
    have i10_27 := Lib.hid (i10_26.out.keep hbx)
    have x10_27 := Lib.hid (x10_26.out.keep hbx x10_26.out.lt)
    have i11_27 := Lib.hid (i11_26.out.keep hbx)
    have x11_27 := Lib.hid (x11_26.out.keep hbx x11_26.out.lt)
    have i12_27 := Lib.hid (i12_26.out.keep hbx)
    have x12_27 := Lib.hid (x12_26.out.keep hbx x12_26.out.lt)
    have i13_27 := Lib.hid (i13_26.out.keep hbx)
    have x13_27 := Lib.hid (x13_26.out.keep hbx x13_26.out.lt)
    have i14_27 := Lib.hid (i14_26.out.keep hbx)
    have x14_27 : Hid (BoxF W27 G14 (.int .i64 H) (.slice a14 n14 c14)) := Lib.hid (by rw [hW27, hG27]; exact BoxF.new _ _ _ _)
    clear hbx hW27 hG27 HB26 i1_26 i2_26 x1_26 x2_26 i3_26 x3_26 i4_26 x4_26 i5_26 x5_26 i6_26 x6_26 i7_26 x7_26 i8_26 x8_26 i9_26 x9_26 i10_26 x10_26 i11_26 x11_26 i12_26 x12_26 i13_26 x13_26 i14_26
    go_wp2_with fail
    rw [← HG27.out, ← HW27.out]
    refine (drawMakeIdeal_any ad n c _ (HS.out.keep HB27.out) hn).mono ?_
    rintro e w28 ⟨k, aS, nS, cS, ss, rfl, ownS, _, hbS⟩
    have HB28 : Hid (Below w.heap.size w w28) := Lib.hid (HB27.out.trans (hbS.mono HB27.out.size))
    have i1_28 := Lib.hid (i1_27.out.keep hbS)
    have i2_28 := Lib.hid (i2_27.out.keep hbS)
    have x1_28 := Lib.hid (x1_27.out.keep hbS x1_27.out.lt)
    have x2_28 := Lib.hid (x2_27.out.keep hbS x2_27.out.lt)
    have i3_28 := Lib.hid (i3_27.out.keep hbS)
    have x3_28 := Lib.hid (x3_27.out.keep hbS x3_27.out.lt)
    have i4_28 := Lib.hid (i4_27.out.keep hbS)
    have x4_28 := Lib.hid (x4_27.out.keep hbS x4_27.out.lt)
    have i5_28 := Lib.hid (i5_27.out.keep hbS)
    have x5_28 := Lib.hid (x5_27.out.keep hbS x5_27.out.lt)
    have i6_28 := Lib.hid (i6_27.out.keep hbS)
    have x6_28 := Lib.hid (x6_27.out.keep hbS x6_27.out.lt)
    have i7_28 := Lib.hid (i7_27.out.keep hbS)
    have x7_28 := Lib.hid (x7_27.out.keep hbS x7_27.out.lt)
    have i8_28 := Lib.hid (i8_27.out.keep hbS)
    have x8_28 := Lib.hid (x8_27.out.keep hbS x8_27.out.lt)
    have i9_28 := Lib.hid (i9_27.out.keep hbS)
    have x9_28 := Lib.hid (x9_27.out.keep hbS x9_27.out.lt)
    have i10_28 := Lib.hid (i10_27.out.keep hbS)
    have x10_28 := Lib.hid (x10_27.out.keep hbS x10_27.out.lt)
    have i11_28 := Lib.hid (i11_27.out.keep hbS)
    have x11_28 := Lib.hid (x11_27.out.keep hbS x11_27.out.lt)
    have i12_28 := Lib.hid (i12_27.out.keep hbS)
    have x12_28 := Lib.hid (x12_27.out.keep hbS x12_27.out.lt)
    have i13_28 := Lib.hid (i13_27.out.keep hbS)
    have x13_28 := Lib.hid (x13_27.out.keep hbS x13_27.out.lt)
    have i14_28 := Lib.hid (i14_27.out.keep hbS)
    have x14_28 := Lib.hid (x14_27.out.keep hbS x14_27.out.lt)
    have iS_28 : Hid (IntsAt w28 aS nS ss) := Lib.hid (ownS.reads)
    clear hbS HB27 i1_27 i2_27 x1_27 x2_27 i3_27 x3_27 i4_27 x4_27 i5_27 x5_27 i6_27 x6_27 i7_27 x7_27 i8_27 x8_27 i9_27 x9_27 i10_27 x10_27 i11_27 x11_27 i12_27 x12_27 i13_27 x13_27 i14_27 x14_27 ownS
    obtain ⟨KK, ks, b9, hKs, hKi⟩ := mkIdl k ss
    have HKs := Lib.hid hKs; have HKi := Lib.hid hKi
    clear hKs hKi
    go_wp2_with fail
    refine (HKi.out _ aS nS cS iS_28.out).mono ?_
    rintro e w29 ⟨a15, n15, c15, rfl, own15, hb15⟩
    have HB29 : Hid (Below w.heap.size w w29) := Lib.hid (HB28.out.trans (hb15.mono HB28.out.size))
    have i1_29 := Lib.hid (i1_28.out.keep hb15)
    have i2_29 := Lib.hid (i2_28.out.keep hb15)
    have x1_29 := Lib.hid (x1_28.out.keep hb15 x1_28.out.lt)
    have x2_29 := Lib.hid (x2_28.out.keep hb15 x2_28.out.lt)
    have i3_29 := Lib.hid (i3_28.out.keep hb15)
    have x3_29 := Lib.hid (x3_28.out.keep hb15 x3_28.out.lt)
    have i4_29 := Lib.hid (i4_28.out.keep hb15)
    have x4_29 := Lib.hid (x4_28.out.keep hb15 x4_28.out.lt)
    have i5_29 := Lib.hid (i5_28.out.keep hb15)
    have x5_29 := Lib.hid (x5_28.out.keep hb15 x5_28.out.lt)
    have i6_29 := Lib.hid (i6_28.out.keep hb15)
    have x6_29 := Lib.hid (x6_28.out.keep hb15 x6_28.out.lt)
    have i7_29 := Lib.hid (i7_28.out.keep hb15)
    have x7_29 := Lib.hid (x7_28.out.keep hb15 x7_28.out.lt)
    have i8_29 := Lib.hid (i8_28.out.keep hb15)
    have x8_29 := Lib.hid (x8_28.out.keep hb15 x8_28.out.lt)
    have i9_29 := Lib.hid (i9_28.out.keep hb15)
    have x9_29 := Lib.hid (x9_28.out.keep hb15 x9_28.out.lt)
    have i10_29 := Lib.hid (i10_28.out.keep hb15)
    have x10_29 := Lib.hid (x10_28.out.keep hb15 x10_28.out.lt)
    have i11_29 := Lib.hid (i11_28.out.keep hb15)
    have x11_29 := Lib.hid (x11_28.out.keep hb15 x11_28.out.lt)
    have i12_29 := Lib.hid (i12_28.out.keep hb15)
    have x12_29 := Lib.hid (x12_28.out.keep hb15 x12_28.out.lt)
    have i13_29 := Lib.hid (i13_28.out.keep hb15)
    have x13_29 := Lib.hid (x13_28.out.keep hb15 x13_28.out.lt)
    have i14_29 := Lib.hid (i14_28.out.keep hb15)
    have x14_29 := Lib.hid (x14_28.out.keep hb15 x14_28.out.lt)
    have iS_29 := Lib.hid (iS_28.out.keep hb15)
    have i15_29 : Hid (IntsAt w29 a15 n15 ks) := Lib.hid (own15.reads)
    have D15 := own15.cap
    clear hb15 HB28 i1_28 i2_28 x1_28 x2_28 i3_28 x3_28 i4_28 x4_28 i5_28 x5_28 i6_28 x6_28 i7_28 x7_28 i8_28 x8_28 i9_28 x9_28 i10_28 x10_28 i11_28 x11_28 i12_28 x12_28 i13_28 x13_28 i14_28 x14_28 iS_28 own15
    obtain ⟨W30, hW30⟩ : ∃ W, W = w29.alloc (.cells #[.int .i64 KK, .slice a15 n15 c15] 26) := ⟨_, rfl⟩
    obtain ⟨G15, hG30⟩ : ∃ G, G = w29.heap.size := ⟨_, rfl⟩
    have hbx : Below w29.heap.size w29 W30 := by rw [hW30]; exact (by repeat (first | exact Below.refl _ _ | assumption | refine Below.setCell ?_ (by first | omega | (simp; done) | (simp; omega)) _ | refine Below.alloc ?_ (by first | omega | (simp; done) | (simp; omega)) _ | apply Below.drew))
    have HW30 := Lib.hid hW30; have HG30 := Lib.hid hG30
    have HB30 : Hid (Below w.heap.size w W30) := Lib.hid (HB29.out.trans (hbx.mono HB29.out.size))
    have i1_30 := Lib.hid (i1_29.out.keep hbx)
    have i2_30 := Lib.hid (i2_29.out.keep hbx)
    have x1_30 := Lib.hid (x1_29.out.keep hbx x1_29.out.lt)
    have x2_30 := Lib.hid (x2_29.out.keep hbx x2_29.out.lt)
    have i3_30 := Lib.hid (i3_29.out.keep hbx)
    have x3_30 := Lib.hid (x3_29.out.keep hbx x3_29.out.lt)
    have i4_30 := Lib.hid (i4_29.out.keep hbx)
    have x4_30 := Lib.hid (x4_29.out.keep hbx x4_29.out.lt)
    have i5_30 := Lib.hid (i5_29.out.keep hbx)
    have x5_30 := Lib.hid (x5_29.out.keep hbx x5_29.out.lt)
    have i6_30 := Lib.hid (i6_29.out.keep hbx)
    have x6_30 := Lib.hid (x6_29.out.keep hbx x6_29.out.lt)
    have i7_30 := Lib.hid (i7_29.out.keep hbx)
    have x7_30 := Lib.hid (x7_29.out.keep hbx x7_29.out.lt)
    have i8_30 := Lib.hid (i8_29.out.keep hbx)
    have x8_30 := Lib.hid (x8_29.out.keep hbx x8_29.out.lt)
    have i9_30 := Lib.hid (i9_29.out.keep hbx)
    have x9_30 := Lib.hid (x9_29.out.keep hbx x9_29.out.lt)
    have i10_30 := Lib.hid (i10_29.out.keep hbx)
    have x10_30 := Lib.hid (x10_29.out.keep hbx x10_29.out.lt)
    have i11_30 := Lib.hid (i11_29.out.keep hbx)
    have x11_30 := Lib.hid (x11_29.out.keep hbx x11_29.out.lt)
    have i12_30 := Lib.hid (i12_29.out.keep hbx)
    have x12_30 := Lib.hid (x12_29.out.keep hbx x12_29.out.lt)
    have i13_30 := Lib.hid (i13_29.out.keep hbx)
    have x13_30 := Lib.hid (x13_29.out.keep hbx x13_29.out.lt)
    have i14_30 := Lib.hid (i14_29.out.keep hbx)
    have x14_30 := Lib.hid (x14_29.out.keep hbx x14_29.out.lt)
    have iS_30 := Lib.hid (iS_29.out.keep hbx)
    have i15_30 := Lib.hid (i15_29.out.keep hbx)
    have x15_30 : Hid (BoxF W30 G15 (.int .i64 KK) (.slice a15 n15 c15)) := Lib.hid (by rw [hW30, hG30]; exact BoxF.new _ _ _ _)
    clear hbx hW30 hG30 HB29 i1_29 i2_29 x1_29 x2_29 i3_29 x3_29 i4_29 x4_29 i5_29 x5_29 i6_29 x6_29 i7_29 x7_29 i8_29 x8_29 i9_29 x9_29 i10_29 x10_29 i11_29 x11_29 i12_29 x12_29 i13_29 x13_29 i14_29 x14_29 iS_29 i15_29
    go_wp2_with fail
    rw [← HG30.out, ← HW30.out]
    refine (HKs.out _ aS nS cS iS_30.out).mono ?_
    rintro e w31 ⟨a16, n16, c16, rfl, own16, hb16⟩
    have HB31 : Hid (Below w.heap.size w w31) := Lib.hid (HB30.out.trans (hb16.mono HB30.out.size))
    have i1_31 := Lib.hid (i1_30.out.keep hb16)
    have i2_31 := Lib.hid (i2_30.out.keep hb16)
    have x1_31 := Lib.hid (x1_30.out.keep hb16 x1_30.out.lt)
    have x2_31 := Lib.hid (x2_30.out.keep hb16 x2_30.out.lt)
    have i3_31 := Lib.hid (i3_30.out.keep hb16)
    have x3_31 := Lib.hid (x3_30.out.keep hb16 x3_30.out.lt)
    have i4_31 := Lib.hid (i4_30.out.keep hb16)
    have x4_31 := Lib.hid (x4_30.out.keep hb16 x4_30.out.lt)
    have i5_31 := Lib.hid (i5_30.out.keep hb16)
    have x5_31 := Lib.hid (x5_30.out.keep hb16 x5_30.out.lt)
    have i6_31 := Lib.hid (i6_30.out.keep hb16)
    have x6_31 := Lib.hid (x6_30.out.keep hb16 x6_30.out.lt)
    have i7_31 := Lib.hid (i7_30.out.keep hb16)
    have x7_31 := Lib.hid (x7_30.out.keep hb16 x7_30.out.lt)
    have i8_31 := Lib.hid (i8_30.out.keep hb16)
    have x8_31 := Lib.hid (x8_30.out.keep hb16 x8_30.out.lt)
    have i9_31 := Lib.hid (i9_30.out.keep hb16)
    have x9_31 := Lib.hid (x9_30.out.keep hb16 x9_30.out.lt)
    have i10_31 := Lib.hid (i10_30.out.keep hb16)
    have x10_31 := Lib.hid (x10_30.out.keep hb16 x10_30.out.lt)
    have i11_31 := Lib.hid (i11_30.out.keep hb16)
    have x11_31 := Lib.hid (x11_30.out.keep hb16 x11_30.out.lt)
    have i12_31 := Lib.hid (i12_30.out.keep hb16)
    have x12_31 := Lib.hid (x12_30.out.keep hb16 x12_30.out.lt)
    have i13_31 := Lib.hid (i13_30.out.keep hb16)
    have x13_31 := Lib.hid (x13_30.out.keep hb16 x13_30.out.lt)
    have i14_31 := Lib.hid (i14_30.out.keep hb16)
    have x14_31 := Lib.hid (x14_30.out.keep hb16 x14_30.out.lt)
    have iS_31 := Lib.hid (iS_30.out.keep hb16)
    have i15_31 := Lib.hid (i15_30.out.keep hb16)
    have x15_31 := Lib.hid (x15_30.out.keep hb16 x15_30.out.lt)
    have i16_31 : Hid (IntsAt w31 a16 n16 ks) := Lib.hid (own16.reads)
    have D16 := own16.cap
    clear hb16 HB30 i1_30 i2_30 x1_30 x2_30 i3_30 x3_30 i4_30 x4_30 i5_30 x5_30 i6_30 x6_30 i7_30 x7_30 i8_30 x8_30 i9_30 x9_30 i10_30 x10_30 i11_30 x11_30 i12_30 x12_30 i13_30 x13_30 i14_30 x14_30 iS_30 i15_30 x15_30 own16
    obtain ⟨W32, hW32⟩ : ∃ W, W = w31.alloc (.cells #[.int .i64 KK, .slice a16 n16 c16] 26) := ⟨_, rfl⟩
    obtain ⟨G16, hG32⟩ : ∃ G, G = w31.heap.size := ⟨_, rfl⟩
    have hbx : Below w31.heap.size w31 W32 := by rw [hW32]; exact (by repeat (first | exact Below.refl _ _ | assumption | refine Below.setCell ?_ (by first | omega | (simp; done) | (simp; omega)) _ | refine Below.alloc ?_ (by first | omega | (simp; done) | (simp; omega)) _ | apply Below.drew))
    have HW32 := Lib.hid hW32; have HG32 := Lib.hid hG32
    have HB32 : Hid (Below w.heap.size w W32) := Lib.hid (HB31.out.trans (hbx.mono HB31.out.size))
    have i1_32 := Lib.hid (i1_31.out.keep hbx)
    have i2_32 := Lib.hid (i2_31.out.keep hbx)
    have x1_32 := Lib.hid (x1_31.out.keep hbx x1_31.out.lt)
    have x2_32 := Lib.hid (x2_31.out.keep hbx x2_31.out.lt)
    have i3_32 := Lib.hid (i3_31.out.keep hbx)
    have x3_32 := Lib.hid (x3_31.out.keep hbx x3_31.out.lt)
    have i4_32 := Lib.hid (i4_31.out.keep hbx)
    have x4_32 := Lib.hid (x4_31.out.keep hbx x4_31.out.lt)
    have i5_32 := Lib.hid (i5_31.out.keep hbx)
    have x5_32 := Lib.hid (x5_31.out.keep hbx x5_31.out.lt)
    have i6_32 := Lib.hid (i6_31.out.keep hbx)
    have x6_32 := Lib.hid (x6_31.out.keep hbx x6_31.out.lt)
    have i7_32 := Lib.hid (i7_31.out.keep hbx)
    have x7_32 := Lib.hid (x7_31.out.keep hbx x7_31.out.lt)
    have i8_32 := Lib.hid (i8_31.out.keep hbx)
    have x8_32 := Lib.hid (x8_31.out.keep hbx x8_31.out.lt)
    have i9_32 := Lib.hid (i9_31.out.keep hbx)
    have x9_32 := Lib.hid (x9_31.out.keep hbx x9_31.out.lt)
    have i10_32 := Lib.hid (i10_31.out.keep hbx)
    have x10_32 := Lib.hid (x10_31.out.keep hbx x10_31.out.lt)
    have i11_32 := Lib.hid (i11_31.out.keep hbx)
    have x11_32 := Lib.hid (x11_31.out.keep hbx x11_31.out.lt)
    have i12_32 := Lib.hid (i12_31.out.keep hbx)
    have x12_32 := Lib.hid (x12_31.out.keep hbx x12_31.out.lt)
    have i13_32 := Lib.hid (i13_31.out.keep hbx)
    have x13_32 := Lib.hid (x13_31.out.keep hbx x13_31.out.lt)
    have i14_32 := Lib.hid (i14_31.out.keep hbx)
    have x14_32 := Lib.hid (x14_31.out.keep hbx x14_31.out.lt)
    have iS_32 := Lib.hid (iS_31.out.keep hbx)
    have i15_32 := Lib.hid (i15_31.out.keep hbx)
    have x15_32 := Lib.hid (x15_31.out.keep hbx x15_31.out.lt)
    have i16_32 := Lib.hid (i16_31.out.keep hbx)
    have x16_32 : Hid (BoxF W32 G16 (.int .i64 KK) (.slice a16 n16 c16)) := Lib.hid (by rw [hW32, hG32]; exact BoxF.new _ _ _ _)
    clear hbx hW32 hG32 HB31 i1_31 i2_31 x1_31 x2_31 i3_31 x3_31 i4_31 x4_31 i5_31 x5_31 i6_31 x6_31 i7_31 x7_31 i8_31 x8_31 i9_31 x9_31 i10_31 x10_31 i11_31 x11_31 i12_31 x12_31 i13_31 x13_31 i14_31 x14_31 iS_31 i15_31 x15_31 i16_31
    go_upto_region 19 with fail
    rw [← HG32.out, ← HW32.out]
    have S0 : Hid (St w p xs q ys P zs P2 zs2 r us R vs Q fs u ts H hs2 KK ks G1 a1 n1 c1 G2 a2 n2 c2 G3 a3 n3 c3 G4 a4 n4 c4 G5 a5 n5 c5 G6 a6 n6 c6 G7 a7 n7 c7 G8 a8 n8 c8 G9 a9 n9 c9 G10 a10 n10 c10 G11 a11 n11 c11 G12 a12 n12 c12 G13 a13 n13 c13 G14 a14 n14 c14 G15 a15 n15 c15 G16 a16 n16 c16 W32) := Lib.hid ⟨HB32.out, x1_32.out, i1_32.out, x2_32.out, i2_32.out, x3_32.out, i3_32.out, x4_32.out, i4_32.out, x5_32.out, i5_32.out, x6_32.out, i6_32.out, x7_32.out, i7_32.out, x8_32.out, i8_32.out, x9_32.out, i9_32.out, x10_32.out, i10_32.out, x11_32.out, i11_32.out, x12_32.out, i12_32.out, x13_32.out, i13_32.out, x14_32.out, i14_32.out, x15_32.out, i15_32.out, x16_32.out, i16_32.out⟩
    clear i1_32 i2_32 x1_32 x2_32 i3_32 x3_32 i4_32 x4_32 i5_32 x5_32 i6_32 x6_32 i7_32 x7_32 i8_32 x8_32 i9_32 x9_32 i10_32 x10_32 i11_32 x11_32 i12_32 x12_32 i13_32 x13_32 i14_32 x14_32 iS_32 i15_32 x15_32 i16_32 x16_32 HB32
    have hbb : (b != b) = false := by cases b <;> rfl
    have hb3 : (b3 != b3) = false := by cases b3 <;> rfl
    have hb5 : (b5 != b5) = false := by cases b5 <;> rfl
    have hb7 : (b7 != b7) = false := by cases b7 <;> rfl
    have hb9 : (b9 != b9) = false := by cases b9 <;> rfl
    obtain ⟨T, bi, hTs, hTi, hBs, hBi, _⟩ := idlTx p xs
    have HTs := Lib.hid hTs; have HTi := Lib.hid hTi; have HBs := Lib.hid hBs; have HBi := Lib.hid hBi
    clear hTs hTi hBs hBi
    have hbi : (bi != bi) = false := by cases bi <;> rfl
    go_cut [211] (fun v W => v = .bool false ∧ St w p xs q ys P zs P2 zs2 r us R vs Q fs u ts H hs2 KK ks G1 a1 n1 c1 G2 a2 n2 c2 G3 a3 n3 c3 G4 a4 n4 c4 G5 a5 n5 c5 G6 a6 n6 c6 G7 a7 n7 c7 G8 a8 n8 c8 G9 a9 n9 c9 G10 a10 n10 c10 G11 a11 n11 c11 G12 a12 n12 c12 G13 a13 n13 c13 G14 a14 n14 c14 G15 a15 n15 c15 G16 a16 n16 c16 W)
    case first =>
      as_aux_lemma =>
        have hcells : W32.cell? ⟨G1, 0, none⟩ = some (.int .i64 p) ∧ W32.cell? ⟨G1, 1, none⟩ = some (.slice a1 n1 c1) ∧ W32.cell? ⟨G3, 0, none⟩ = some (.int .i64 P) ∧ W32.cell? ⟨G3, 1, none⟩ = some (.slice a3 n3 c3) ∧ W32.cell? ⟨G4, 0, none⟩ = some (.int .i64 P) ∧ W32.cell? ⟨G4, 1, none⟩ = some (.slice a4 n4 c4) ∧ W32.cell? ⟨G5, 0, none⟩ = some (.int .i64 P2) ∧ W32.cell? ⟨G5, 1, none⟩ = some (.slice a5 n5 c5) ∧ W32.cell? ⟨G6, 0, none⟩ = some (.int .i64 P2) ∧ W32.cell? ⟨G6, 1, none⟩ = some (.slice a6 n6 c6) ∧ W32.cell? ⟨G8, 0, none⟩ = some (.int .i64 R) ∧ W32.cell? ⟨G8, 1, none⟩ = some (.slice a8 n8 c8) ∧ W32.cell? ⟨G9, 0, none⟩ = some (.int .i64 R) ∧ W32.cell? ⟨G9, 1, none⟩ = some (.slice a9 n9 c9) ∧ W32.cell? ⟨G10, 0, none⟩ = some (.int .i64 Q) ∧ W32.cell? ⟨G10, 1, none⟩ = some (.slice a10 n10 c10) ∧ W32.cell? ⟨G11, 0, none⟩ = some (.int .i64 Q) ∧ W32.cell? ⟨G11, 1, none⟩ = some (.slice a11 n11 c11) ∧ W32.cell? ⟨G13, 0, none⟩ = some (.int .i64 H) ∧ W32.cell? ⟨G13, 1, none⟩ = some (.slice a13 n13 c13) ∧ W32.cell? ⟨G14, 0, none⟩ = some (.int .i64 H) ∧ W32.cell? ⟨G14, 1, none⟩ = some (.slice a14 n14 c14) ∧ W32.cell? ⟨G15, 0, none⟩ = some (.int .i64 KK) ∧ W32.cell? ⟨G15, 1, none⟩ = some (.slice a15 n15 c15) ∧ W32.cell? ⟨G16, 0, none⟩ = some (.int .i64 KK) ∧ W32.cell? ⟨G16, 1, none⟩ = some (.slice a16 n16 c16) := ⟨S0.out.x1.c0, S0.out.x1.c1, S0.out.x3.c0, S0.out.x3.c1, S0.out.x4.c0, S0.out.x4.c1, S0.out.x5.c0, S0.out.x5.c1, S0.out.x6.c0, S0.out.x6.c1, S0.out.x8.c0, S0.out.x8.c1, S0.out.x9.c0, S0.out.x9.c1, S0.out.x10.c0, S0.out.x10.c1, S0.out.x11.c0, S0.out.x11.c1, S0.out.x13.c0, S0.out.x13.c1, S0.out.x14.c0, S0.out.x14.c1, S0.out.x15.c0, S0.out.x15.c1, S0.out.x16.c0, S0.out.x16.c1⟩
        have SW := Lib.hid (S0.out.keep (W' := W32.drew) (Below.refl _ _).drew)
        clear S0
        dsimp only [List.append]
        refine wp_region_held_drew (S := fun W => W.cell? ⟨G1, 0, none⟩ = some (.int .i64 p) ∧ W.cell? ⟨G1, 1, none⟩ = some (.slice a1 n1 c1) ∧ W.cell? ⟨G3, 0, none⟩ = some (.int .i64 P) ∧ W.cell? ⟨G3, 1, none⟩ = some (.slice a3 n3 c3) ∧ W.cell? ⟨G4, 0, none⟩ = some (.int .i64 P) ∧ W.cell? ⟨G4, 1, none⟩ = some (.slice a4 n4 c4) ∧ W.cell? ⟨G5, 0, none⟩ = some (.int .i64 P2) ∧ W.cell? ⟨G5, 1, none⟩ = some (.slice a5 n5 c5) ∧ W.cell? ⟨G6, 0, none⟩ = some (.int .i64 P2) ∧ W.cell? ⟨G6, 1, none⟩ = some (.slice a6 n6 c6) ∧ W.cell? ⟨G8, 0, none⟩ = some (.int .i64 R) ∧ W.cell? ⟨G8, 1, none⟩ = some (.slice a8 n8 c8) ∧ W.cell? ⟨G9, 0, none⟩ = some (.int .i64 R) ∧ W.cell? ⟨G9, 1, none⟩ = some (.slice a9 n9 c9) ∧ W.cell? ⟨G10, 0, none⟩ = some (.int .i64 Q) ∧ W.cell? ⟨G10, 1, none⟩ = some (.slice a10 n10 c10) ∧ W.cell? ⟨G11, 0, none⟩ = some (.int .i64 Q) ∧ W.cell? ⟨G11, 1, none⟩ = some (.slice a11 n11 c11) ∧ W.cell? ⟨G13, 0, none⟩ = some (.int .i64 H) ∧ W.cell? ⟨G13, 1, none⟩ = some (.slice a13 n13 c13) ∧ W.cell? ⟨G14, 0, none⟩ = some (.int .i64 H) ∧ W.cell? ⟨G14, 1, none⟩ = some (.slice a14 n14 c14) ∧ W.cell? ⟨G15, 0, none⟩ = some (.int .i64 KK) ∧ W.cell? ⟨G15, 1, none⟩ = some (.slice a15 n15 c15) ∧ W.cell? ⟨G16, 0, none⟩ = some (.int .i64 KK) ∧ W.cell? ⟨G16, 1, none⟩ = some (.slice a16 n16 c16)) (by kernel_rfl) hcells (fun hHeld => ?_)
        refine wpAnyH_take (i := 0) (oi := { dst := some 126, op := Op.move (Operand.tmp 6), type := 4, pos := "laws.go:1183", after := #[], guard := none }) (v := ?_) rfl (by kernel_rfl) (by kernel_rfl) (by kernel_rfl) (fun _ _ _ h => h) (Or.inl ⟨by rfl, ?_⟩) (by assumption) ?_
        rotate_left
        · intro w hSw
          try dsimp only at hSw
          go_simp
          try (with_reducible rfl)
        try simp only [Act.put, List.setIfInBounds_toArray, List.set_cons_zero, List.set_cons_succ]
        refine wpAnyH_take (i := 1) (oi := { dst := some 127, op := Op.move (Operand.tmp 8), type := 4, pos := "laws.go:1183", after := #[], guard := none }) (v := ?_) rfl (by kernel_rfl) (by kernel_rfl) (by kernel_rfl) (fun _ _ _ h => h) (Or.inl ⟨by rfl, ?_⟩) (by assumption) ?_
        rotate_left
        · intro w hSw
          try dsimp only at hSw
          go_simp
          try (with_reducible rfl)
        try simp only [Act.put, List.setIfInBounds_toArray, List.set_cons_zero, List.set_cons_succ]
        refine wpAnyH_take (i := 2) (oi := { dst := some 128, op := Op.binOp BinOp.neq 4 (Operand.tmp 126) (Operand.tmp 127) 4, type := 4, pos := "laws.go:1183", after := #[{ on := 0, ground := Ground.data }, { on := 1, ground := Ground.data }], guard := none }) (v := ?_) rfl (by kernel_rfl) (by kernel_rfl) (by kernel_rfl) (fun _ _ _ h => h) (Or.inl ⟨by rfl, ?_⟩) (by assumption) ?_
        rotate_left
        · intro w hSw
          try dsimp only at hSw
          go_simp
          try (with_reducible rfl)
        try simp only [Act.put, List.setIfInBounds_toArray, List.set_cons_zero, List.set_cons_succ]
        refine wpAnyH_take (i := 3) (oi := { dst := some 129, op := Op.move (Operand.tmp 128), type := 4, pos := "laws.go:1183", after := #[{ on := 2, ground := Ground.data }], guard := none }) (v := ?_) rfl (by kernel_rfl) (by kernel_rfl) (by kernel_rfl) (fun _ _ _ h => h) (Or.inl ⟨by rfl, ?_⟩) (by assumption) ?_
        rotate_left
        · intro w hSw
          try dsimp only at hSw
          go_simp
          try (with_reducible rfl)
        try simp only [Act.put, List.setIfInBounds_toArray, List.set_cons_zero, List.set_cons_succ]
        refine wpAnyH_take (i := 4) (oi := { dst := some 130, op := Op.load 26 (Operand.tmp 5), type := 26, pos := "laws.go:1183", after := #[{ on := 3, ground := Ground.guard }], guard := some (3, false) }) (v := ?_) rfl (by kernel_rfl) (by kernel_rfl) (by kernel_rfl) (fun _ _ _ h => h) (Or.inl ⟨by rfl, ?_⟩) (by assumption) ?_
        rotate_left
        · intro w hSw
          try dsimp only at hSw
          go_simp
          try (with_reducible rfl)
        try simp only [Act.put, List.setIfInBounds_toArray, List.set_cons_zero, List.set_cons_succ]
        refine wpAnyH_take (i := 5) (oi := { dst := some 131, op := Op.load 26 (Operand.tmp 7), type := 26, pos := "laws.go:1183", after := #[{ on := 3, ground := Ground.guard }], guard := some (3, false) }) (v := ?_) rfl (by kernel_rfl) (by kernel_rfl) (by kernel_rfl) (fun _ _ _ h => h) (Or.inl ⟨by rfl, ?_⟩) (by assumption) ?_
        rotate_left
        · intro w hSw
          try dsimp only at hSw
          go_simp
          try (with_reducible rfl)
        try simp only [Act.put, List.setIfInBounds_toArray, List.set_cons_zero, List.set_cons_succ]
        refine wpAnyH_ready (rs := [6]) (by kernel_rfl) (by simp) ?_
        refine AllReadyH.cons (o := { dst := some 132, op := Op.call { callee := Callee.value (Operand.func 24), args := #[Operand.tmp 130, Operand.tmp 131], argTypes := #[26, 26] }, type := 4, pos := "laws.go:1183", after := #[{ on := 4, ground := Ground.data }, { on := 5, ground := Ground.data }, { on := 3, ground := Ground.chain }, { on := 3, ground := Ground.guard }], guard := some (3, false) }) rfl (fun K hK => ?_) ?_
        · go_simp
          (go_simp; go_at_call 24; (with_reducible refine (sameIdeal_yes P a3 a4 n3 n4 c3 c4 zs _ SW.out.i3 SW.out.i4).mono ?_); rintro e w6 ⟨rfl, hb6⟩; have SW := Lib.hid (SW.out.keep hb6); clear hb6)
          try (go_wp2_with fail)
          refine hK.out _ _ ?_ (fun hHeld => ?_)
          · exact ⟨SW.out.x1.c0, SW.out.x1.c1, SW.out.x3.c0, SW.out.x3.c1, SW.out.x4.c0, SW.out.x4.c1, SW.out.x5.c0, SW.out.x5.c1, SW.out.x6.c0, SW.out.x6.c1, SW.out.x8.c0, SW.out.x8.c1, SW.out.x9.c0, SW.out.x9.c1, SW.out.x10.c0, SW.out.x10.c1, SW.out.x11.c0, SW.out.x11.c1, SW.out.x13.c0, SW.out.x13.c1, SW.out.x14.c0, SW.out.x14.c1, SW.out.x15.c0, SW.out.x15.c1, SW.out.x16.c0, SW.out.x16.c1⟩
          clear hK K
          try simp only [Act.put, List.setIfInBounds_toArray, List.set_cons_zero, List.set_cons_succ]
          as_aux_lemma =>
            refine wpAnyH_take (i := 7) (oi := { dst := some 133, op := Op.unOp UnOp.not 4 (Operand.tmp 132), type := 4, pos := "laws.go:1183", after := #[{ on := 6, ground := Ground.data }, { on := 3, ground := Ground.guard }], guard := some (3, false) }) (v := ?_) rfl (by kernel_rfl) (by kernel_rfl) (by kernel_rfl) (fun _ _ _ h => h) (Or.inl ⟨by rfl, ?_⟩) (by assumption) ?_
            rotate_left
            · intro w hSw
              try dsimp only at hSw
              go_simp
              try (with_reducible rfl)
            try simp only [Act.put, List.setIfInBounds_toArray, List.set_cons_zero, List.set_cons_succ]
            refine wpAnyH_take (i := 8) (oi := { dst := some 134, op := Op.pick (Operand.tmp 129) (Operand.const (Value.bool true)) (Operand.tmp 133), type := 4, pos := "laws.go:1183", after := #[{ on := 3, ground := Ground.data }, { on := 7, ground := Ground.data }], guard := none }) (v := ?_) rfl (by kernel_rfl) (by kernel_rfl) (by kernel_rfl) (fun _ _ _ h => h) (Or.inl ⟨by rfl, ?_⟩) (by assumption) ?_
            rotate_left
            · intro w hSw
              try dsimp only at hSw
              go_simp
              try (with_reducible rfl)
            try simp only [Act.put, List.setIfInBounds_toArray, List.set_cons_zero, List.set_cons_succ]
            refine wpAnyH_take (i := 9) (oi := { dst := some 135, op := Op.move (Operand.tmp 134), type := 4, pos := "laws.go:1183", after := #[{ on := 8, ground := Ground.data }, { on := 6, ground := Ground.chain }], guard := none }) (v := ?_) rfl (by kernel_rfl) (by kernel_rfl) (by kernel_rfl) (fun _ _ _ h => h) (Or.inl ⟨by rfl, ?_⟩) (by assumption) ?_
            rotate_left
            · intro w hSw
              try dsimp only at hSw
              go_simp
              try (with_reducible rfl)
            try simp only [Act.put, List.setIfInBounds_toArray, List.set_cons_zero, List.set_cons_succ]
            refine wpAnyH_take (i := 10) (oi := { dst := some 136, op := Op.move (Operand.tmp 10), type := 4, pos := "laws.go:1183", after := #[{ on := 9, ground := Ground.guard }], guard := some (9, false) }) (v := ?_) rfl (by kernel_rfl) (by kernel_rfl) (by kernel_rfl) (fun _ _ _ h => h) (Or.inl ⟨by rfl, ?_⟩) (by assumption) ?_
            rotate_left
            · intro w hSw
              try dsimp only at hSw
              go_simp
              try (with_reducible rfl)
            try simp only [Act.put, List.setIfInBounds_toArray, List.set_cons_zero, List.set_cons_succ]
            refine wpAnyH_take (i := 11) (oi := { dst := some 137, op := Op.move (Operand.tmp 12), type := 4, pos := "laws.go:1183", after := #[{ on := 9, ground := Ground.guard }], guard := some (9, false) }) (v := ?_) rfl (by kernel_rfl) (by kernel_rfl) (by kernel_rfl) (fun _ _ _ h => h) (Or.inl ⟨by rfl, ?_⟩) (by assumption) ?_
            rotate_left
            · intro w hSw
              try dsimp only at hSw
              go_simp
              try (with_reducible rfl)
            try simp only [Act.put, List.setIfInBounds_toArray, List.set_cons_zero, List.set_cons_succ]
            refine wpAnyH_take (i := 12) (oi := { dst := some 138, op := Op.binOp BinOp.neq 4 (Operand.tmp 136) (Operand.tmp 137) 4, type := 4, pos := "laws.go:1183", after := #[{ on := 10, ground := Ground.data }, { on := 11, ground := Ground.data }, { on := 9, ground := Ground.guard }], guard := some (9, false) }) (v := ?_) rfl (by kernel_rfl) (by kernel_rfl) (by kernel_rfl) (fun _ _ _ h => h) (Or.inl ⟨by rfl, ?_⟩) (by assumption) ?_
            rotate_left
            · intro w hSw
              try dsimp only at hSw
              go_simp
              try (with_reducible rfl)
            try simp only [Act.put, List.setIfInBounds_toArray, List.set_cons_zero, List.set_cons_succ]
            refine wpAnyH_take (i := 13) (oi := { dst := some 139, op := Op.pick (Operand.tmp 135) (Operand.const (Value.bool true)) (Operand.tmp 138), type := 4, pos := "laws.go:1183", after := #[{ on := 9, ground := Ground.data }, { on := 12, ground := Ground.data }], guard := none }) (v := ?_) rfl (by kernel_rfl) (by kernel_rfl) (by kernel_rfl) (fun _ _ _ h => h) (Or.inl ⟨by rfl, ?_⟩) (by assumption) ?_
            rotate_left
            · intro w hSw
              try dsimp only at hSw
              go_simp
              try (with_reducible rfl)
            try simp only [Act.put, List.setIfInBounds_toArray, List.set_cons_zero, List.set_cons_succ]
            refine wpAnyH_take (i := 14) (oi := { dst := some 140, op := Op.move (Operand.tmp 139), type := 4, pos := "laws.go:1183", after := #[{ on := 13, ground := Ground.data }, { on := 9, ground := Ground.chain }], guard := none }) (v := ?_) rfl (by kernel_rfl) (by kernel_rfl) (by kernel_rfl) (fun _ _ _ h => h) (Or.inl ⟨by rfl, ?_⟩) (by assumption) ?_
            rotate_left
            · intro w hSw
              try dsimp only at hSw
              go_simp
              try (with_reducible rfl)
            try simp only [Act.put, List.setIfInBounds_toArray, List.set_cons_zero, List.set_cons_succ]
            refine wpAnyH_take (i := 15) (oi := { dst := some 141, op := Op.load 26 (Operand.tmp 9), type := 26, pos := "laws.go:1183", after := #[{ on := 14, ground := Ground.guard }], guard := some (14, false) }) (v := ?_) rfl (by kernel_rfl) (by kernel_rfl) (by kernel_rfl) (fun _ _ _ h => h) (Or.inl ⟨by rfl, ?_⟩) (by assumption) ?_
            rotate_left
            · intro w hSw
              try dsimp only at hSw
              go_simp
              try (with_reducible rfl)
            try simp only [Act.put, List.setIfInBounds_toArray, List.set_cons_zero, List.set_cons_succ]
            refine wpAnyH_take (i := 16) (oi := { dst := some 142, op := Op.load 26 (Operand.tmp 11), type := 26, pos := "laws.go:1183", after := #[{ on := 14, ground := Ground.guard }], guard := some (14, false) }) (v := ?_) rfl (by kernel_rfl) (by kernel_rfl) (by kernel_rfl) (fun _ _ _ h => h) (Or.inl ⟨by rfl, ?_⟩) (by assumption) ?_
            rotate_left
            · intro w hSw
              try dsimp only at hSw
              go_simp
              try (with_reducible rfl)
            try simp only [Act.put, List.setIfInBounds_toArray, List.set_cons_zero, List.set_cons_succ]
            refine wpAnyH_ready (rs := [17]) (by kernel_rfl) (by simp) ?_
            refine AllReadyH.cons (o := { dst := some 143, op := Op.call { callee := Callee.value (Operand.func 24), args := #[Operand.tmp 141, Operand.tmp 142], argTypes := #[26, 26] }, type := 4, pos := "laws.go:1183", after := #[{ on := 15, ground := Ground.data }, { on := 16, ground := Ground.data }, { on := 14, ground := Ground.chain }, { on := 14, ground := Ground.guard }], guard := some (14, false) }) rfl (fun K hK => ?_) ?_
            · go_simp
              (go_simp; go_at_call 24; (with_reducible refine (sameIdeal_yes P2 a5 a6 n5 n6 c5 c6 zs2 _ SW.out.i5 SW.out.i6).mono ?_); rintro e w6 ⟨rfl, hb6⟩; have SW := Lib.hid (SW.out.keep hb6); clear hb6)
              try (go_wp2_with fail)
              refine hK.out _ _ ?_ (fun hHeld => ?_)
              · exact ⟨SW.out.x1.c0, SW.out.x1.c1, SW.out.x3.c0, SW.out.x3.c1, SW.out.x4.c0, SW.out.x4.c1, SW.out.x5.c0, SW.out.x5.c1, SW.out.x6.c0, SW.out.x6.c1, SW.out.x8.c0, SW.out.x8.c1, SW.out.x9.c0, SW.out.x9.c1, SW.out.x10.c0, SW.out.x10.c1, SW.out.x11.c0, SW.out.x11.c1, SW.out.x13.c0, SW.out.x13.c1, SW.out.x14.c0, SW.out.x14.c1, SW.out.x15.c0, SW.out.x15.c1, SW.out.x16.c0, SW.out.x16.c1⟩
              clear hK K
              try simp only [Act.put, List.setIfInBounds_toArray, List.set_cons_zero, List.set_cons_succ]
              as_aux_lemma =>
                refine wpAnyH_take (i := 18) (oi := { dst := some 144, op := Op.unOp UnOp.not 4 (Operand.tmp 143), type := 4, pos := "laws.go:1183", after := #[{ on := 17, ground := Ground.data }, { on := 14, ground := Ground.guard }], guard := some (14, false) }) (v := ?_) rfl (by kernel_rfl) (by kernel_rfl) (by kernel_rfl) (fun _ _ _ h => h) (Or.inl ⟨by rfl, ?_⟩) (by assumption) ?_
                rotate_left
                · intro w hSw
                  try dsimp only at hSw
                  go_simp
                  try (with_reducible rfl)
                try simp only [Act.put, List.setIfInBounds_toArray, List.set_cons_zero, List.set_cons_succ]
                refine wpAnyH_take (i := 19) (oi := { dst := some 145, op := Op.pick (Operand.tmp 140) (Operand.const (Value.bool true)) (Operand.tmp 144), type := 4, pos := "laws.go:1183", after := #[{ on := 14, ground := Ground.data }, { on := 18, ground := Ground.data }], guard := none }) (v := ?_) rfl (by kernel_rfl) (by kernel_rfl) (by kernel_rfl) (fun _ _ _ h => h) (Or.inl ⟨by rfl, ?_⟩) (by assumption) ?_
                rotate_left
                · intro w hSw
                  try dsimp only at hSw
                  go_simp
                  try (with_reducible rfl)
                try simp only [Act.put, List.setIfInBounds_toArray, List.set_cons_zero, List.set_cons_succ]
                refine wpAnyH_take (i := 20) (oi := { dst := some 146, op := Op.move (Operand.tmp 145), type := 4, pos := "laws.go:1183", after := #[{ on := 19, ground := Ground.data }, { on := 17, ground := Ground.chain }], guard := none }) (v := ?_) rfl (by kernel_rfl) (by kernel_rfl) (by kernel_rfl) (fun _ _ _ h => h) (Or.inl ⟨by rfl, ?_⟩) (by assumption) ?_
                rotate_left
                · intro w hSw
                  try dsimp only at hSw
                  go_simp
                  try (with_reducible rfl)
                try simp only [Act.put, List.setIfInBounds_toArray, List.set_cons_zero, List.set_cons_succ]
                refine wpAnyH_take (i := 21) (oi := { dst := some 147, op := Op.move (Operand.tmp 15), type := 4, pos := "laws.go:1183", after := #[{ on := 20, ground := Ground.guard }], guard := some (20, false) }) (v := ?_) rfl (by kernel_rfl) (by kernel_rfl) (by kernel_rfl) (fun _ _ _ h => h) (Or.inl ⟨by rfl, ?_⟩) (by assumption) ?_
                rotate_left
                · intro w hSw
                  try dsimp only at hSw
                  go_simp
                  try (with_reducible rfl)
                try simp only [Act.put, List.setIfInBounds_toArray, List.set_cons_zero, List.set_cons_succ]
                refine wpAnyH_take (i := 22) (oi := { dst := some 148, op := Op.move (Operand.tmp 17), type := 4, pos := "laws.go:1183", after := #[{ on := 20, ground := Ground.guard }], guard := some (20, false) }) (v := ?_) rfl (by kernel_rfl) (by kernel_rfl) (by kernel_rfl) (fun _ _ _ h => h) (Or.inl ⟨by rfl, ?_⟩) (by assumption) ?_
                rotate_left
                · intro w hSw
                  try dsimp only at hSw
                  go_simp
                  try (with_reducible rfl)
                try simp only [Act.put, List.setIfInBounds_toArray, List.set_cons_zero, List.set_cons_succ]
                refine wpAnyH_take (i := 23) (oi := { dst := some 149, op := Op.binOp BinOp.neq 4 (Operand.tmp 147) (Operand.tmp 148) 4, type := 4, pos := "laws.go:1183", after := #[{ on := 21, ground := Ground.data }, { on := 22, ground := Ground.data }, { on := 20, ground := Ground.guard }], guard := some (20, false) }) (v := ?_) rfl (by kernel_rfl) (by kernel_rfl) (by kernel_rfl) (fun _ _ _ h => h) (Or.inl ⟨by rfl, ?_⟩) (by assumption) ?_
                rotate_left
                · intro w hSw
                  try dsimp only at hSw
                  go_simp
                  try (with_reducible rfl)
                try simp only [Act.put, List.setIfInBounds_toArray, List.set_cons_zero, List.set_cons_succ]
                refine wpAnyH_take (i := 24) (oi := { dst := some 150, op := Op.pick (Operand.tmp 146) (Operand.const (Value.bool true)) (Operand.tmp 149), type := 4, pos := "laws.go:1183", after := #[{ on := 20, ground := Ground.data }, { on := 23, ground := Ground.data }], guard := none }) (v := ?_) rfl (by kernel_rfl) (by kernel_rfl) (by kernel_rfl) (fun _ _ _ h => h) (Or.inl ⟨by rfl, ?_⟩) (by assumption) ?_
                rotate_left
                · intro w hSw
                  try dsimp only at hSw
                  go_simp
                  try (with_reducible rfl)
                try simp only [Act.put, List.setIfInBounds_toArray, List.set_cons_zero, List.set_cons_succ]
                refine wpAnyH_take (i := 25) (oi := { dst := some 151, op := Op.move (Operand.tmp 150), type := 4, pos := "laws.go:1183", after := #[{ on := 24, ground := Ground.data }, { on := 20, ground := Ground.chain }], guard := none }) (v := ?_) rfl (by kernel_rfl) (by kernel_rfl) (by kernel_rfl) (fun _ _ _ h => h) (Or.inl ⟨by rfl, ?_⟩) (by assumption) ?_
                rotate_left
                · intro w hSw
                  try dsimp only at hSw
                  go_simp
                  try (with_reducible rfl)
                try simp only [Act.put, List.setIfInBounds_toArray, List.set_cons_zero, List.set_cons_succ]
                refine wpAnyH_take (i := 26) (oi := { dst := some 152, op := Op.load 26 (Operand.tmp 14), type := 26, pos := "laws.go:1183", after := #[{ on := 25, ground := Ground.guard }], guard := some (25, false) }) (v := ?_) rfl (by kernel_rfl) (by kernel_rfl) (by kernel_rfl) (fun _ _ _ h => h) (Or.inl ⟨by rfl, ?_⟩) (by assumption) ?_
                rotate_left
                · intro w hSw
                  try dsimp only at hSw
                  go_simp
                  try (with_reducible rfl)
                try simp only [Act.put, List.setIfInBounds_toArray, List.set_cons_zero, List.set_cons_succ]
                refine wpAnyH_take (i := 27) (oi := { dst := some 153, op := Op.load 26 (Operand.tmp 16), type := 26, pos := "laws.go:1183", after := #[{ on := 25, ground := Ground.guard }], guard := some (25, false) }) (v := ?_) rfl (by kernel_rfl) (by kernel_rfl) (by kernel_rfl) (fun _ _ _ h => h) (Or.inl ⟨by rfl, ?_⟩) (by assumption) ?_
                rotate_left
                · intro w hSw
                  try dsimp only at hSw
                  go_simp
                  try (with_reducible rfl)
                try simp only [Act.put, List.setIfInBounds_toArray, List.set_cons_zero, List.set_cons_succ]
                refine wpAnyH_ready (rs := [28]) (by kernel_rfl) (by simp) ?_
                refine AllReadyH.cons (o := { dst := some 154, op := Op.call { callee := Callee.value (Operand.func 24), args := #[Operand.tmp 152, Operand.tmp 153], argTypes := #[26, 26] }, type := 4, pos := "laws.go:1183", after := #[{ on := 26, ground := Ground.data }, { on := 27, ground := Ground.data }, { on := 25, ground := Ground.chain }, { on := 25, ground := Ground.guard }], guard := some (25, false) }) rfl (fun K hK => ?_) ?_
                · go_simp
                  (go_simp; go_at_call 24; (with_reducible refine (sameIdeal_yes R a8 a9 n8 n9 c8 c9 vs _ SW.out.i8 SW.out.i9).mono ?_); rintro e w6 ⟨rfl, hb6⟩; have SW := Lib.hid (SW.out.keep hb6); clear hb6)
                  try (go_wp2_with fail)
                  refine hK.out _ _ ?_ (fun hHeld => ?_)
                  · exact ⟨SW.out.x1.c0, SW.out.x1.c1, SW.out.x3.c0, SW.out.x3.c1, SW.out.x4.c0, SW.out.x4.c1, SW.out.x5.c0, SW.out.x5.c1, SW.out.x6.c0, SW.out.x6.c1, SW.out.x8.c0, SW.out.x8.c1, SW.out.x9.c0, SW.out.x9.c1, SW.out.x10.c0, SW.out.x10.c1, SW.out.x11.c0, SW.out.x11.c1, SW.out.x13.c0, SW.out.x13.c1, SW.out.x14.c0, SW.out.x14.c1, SW.out.x15.c0, SW.out.x15.c1, SW.out.x16.c0, SW.out.x16.c1⟩
                  clear hK K
                  try simp only [Act.put, List.setIfInBounds_toArray, List.set_cons_zero, List.set_cons_succ]
                  as_aux_lemma =>
                    refine wpAnyH_take (i := 29) (oi := { dst := some 155, op := Op.unOp UnOp.not 4 (Operand.tmp 154), type := 4, pos := "laws.go:1183", after := #[{ on := 28, ground := Ground.data }, { on := 25, ground := Ground.guard }], guard := some (25, false) }) (v := ?_) rfl (by kernel_rfl) (by kernel_rfl) (by kernel_rfl) (fun _ _ _ h => h) (Or.inl ⟨by rfl, ?_⟩) (by assumption) ?_
                    rotate_left
                    · intro w hSw
                      try dsimp only at hSw
                      go_simp
                      try (with_reducible rfl)
                    try simp only [Act.put, List.setIfInBounds_toArray, List.set_cons_zero, List.set_cons_succ]
                    refine wpAnyH_take (i := 30) (oi := { dst := some 156, op := Op.pick (Operand.tmp 151) (Operand.const (Value.bool true)) (Operand.tmp 155), type := 4, pos := "laws.go:1183", after := #[{ on := 25, ground := Ground.data }, { on := 29, ground := Ground.data }], guard := none }) (v := ?_) rfl (by kernel_rfl) (by kernel_rfl) (by kernel_rfl) (fun _ _ _ h => h) (Or.inl ⟨by rfl, ?_⟩) (by assumption) ?_
                    rotate_left
                    · intro w hSw
                      try dsimp only at hSw
                      go_simp
                      try (with_reducible rfl)
                    try simp only [Act.put, List.setIfInBounds_toArray, List.set_cons_zero, List.set_cons_succ]
                    refine wpAnyH_take (i := 31) (oi := { dst := some 157, op := Op.move (Operand.tmp 156), type := 4, pos := "laws.go:1183", after := #[{ on := 30, ground := Ground.data }, { on := 28, ground := Ground.chain }], guard := none }) (v := ?_) rfl (by kernel_rfl) (by kernel_rfl) (by kernel_rfl) (fun _ _ _ h => h) (Or.inl ⟨by rfl, ?_⟩) (by assumption) ?_
                    rotate_left
                    · intro w hSw
                      try dsimp only at hSw
                      go_simp
                      try (with_reducible rfl)
                    try simp only [Act.put, List.setIfInBounds_toArray, List.set_cons_zero, List.set_cons_succ]
                    refine wpAnyH_take (i := 32) (oi := { dst := some 158, op := Op.move (Operand.tmp 19), type := 4, pos := "laws.go:1183", after := #[{ on := 31, ground := Ground.guard }], guard := some (31, false) }) (v := ?_) rfl (by kernel_rfl) (by kernel_rfl) (by kernel_rfl) (fun _ _ _ h => h) (Or.inl ⟨by rfl, ?_⟩) (by assumption) ?_
                    rotate_left
                    · intro w hSw
                      try dsimp only at hSw
                      go_simp
                      try (with_reducible rfl)
                    try simp only [Act.put, List.setIfInBounds_toArray, List.set_cons_zero, List.set_cons_succ]
                    refine wpAnyH_take (i := 33) (oi := { dst := some 159, op := Op.move (Operand.tmp 21), type := 4, pos := "laws.go:1183", after := #[{ on := 31, ground := Ground.guard }], guard := some (31, false) }) (v := ?_) rfl (by kernel_rfl) (by kernel_rfl) (by kernel_rfl) (fun _ _ _ h => h) (Or.inl ⟨by rfl, ?_⟩) (by assumption) ?_
                    rotate_left
                    · intro w hSw
                      try dsimp only at hSw
                      go_simp
                      try (with_reducible rfl)
                    try simp only [Act.put, List.setIfInBounds_toArray, List.set_cons_zero, List.set_cons_succ]
                    refine wpAnyH_take (i := 34) (oi := { dst := some 160, op := Op.binOp BinOp.neq 4 (Operand.tmp 158) (Operand.tmp 159) 4, type := 4, pos := "laws.go:1183", after := #[{ on := 32, ground := Ground.data }, { on := 33, ground := Ground.data }, { on := 31, ground := Ground.guard }], guard := some (31, false) }) (v := ?_) rfl (by kernel_rfl) (by kernel_rfl) (by kernel_rfl) (fun _ _ _ h => h) (Or.inl ⟨by rfl, ?_⟩) (by assumption) ?_
                    rotate_left
                    · intro w hSw
                      try dsimp only at hSw
                      go_simp
                      try (with_reducible rfl)
                    try simp only [Act.put, List.setIfInBounds_toArray, List.set_cons_zero, List.set_cons_succ]
                    refine wpAnyH_take (i := 35) (oi := { dst := some 161, op := Op.pick (Operand.tmp 157) (Operand.const (Value.bool true)) (Operand.tmp 160), type := 4, pos := "laws.go:1183", after := #[{ on := 31, ground := Ground.data }, { on := 34, ground := Ground.data }], guard := none }) (v := ?_) rfl (by kernel_rfl) (by kernel_rfl) (by kernel_rfl) (fun _ _ _ h => h) (Or.inl ⟨by rfl, ?_⟩) (by assumption) ?_
                    rotate_left
                    · intro w hSw
                      try dsimp only at hSw
                      go_simp
                      try (with_reducible rfl)
                    try simp only [Act.put, List.setIfInBounds_toArray, List.set_cons_zero, List.set_cons_succ]
                    refine wpAnyH_take (i := 36) (oi := { dst := some 162, op := Op.move (Operand.tmp 161), type := 4, pos := "laws.go:1183", after := #[{ on := 35, ground := Ground.data }, { on := 31, ground := Ground.chain }], guard := none }) (v := ?_) rfl (by kernel_rfl) (by kernel_rfl) (by kernel_rfl) (fun _ _ _ h => h) (Or.inl ⟨by rfl, ?_⟩) (by assumption) ?_
                    rotate_left
                    · intro w hSw
                      try dsimp only at hSw
                      go_simp
                      try (with_reducible rfl)
                    try simp only [Act.put, List.setIfInBounds_toArray, List.set_cons_zero, List.set_cons_succ]
                    refine wpAnyH_take (i := 37) (oi := { dst := some 163, op := Op.load 32 (Operand.tmp 18), type := 32, pos := "laws.go:1183", after := #[{ on := 36, ground := Ground.guard }], guard := some (36, false) }) (v := ?_) rfl (by kernel_rfl) (by kernel_rfl) (by kernel_rfl) (fun _ _ _ h => h) (Or.inl ⟨by rfl, ?_⟩) (by assumption) ?_
                    rotate_left
                    · intro w hSw
                      try dsimp only at hSw
                      go_simp
                      try (with_reducible rfl)
                    try simp only [Act.put, List.setIfInBounds_toArray, List.set_cons_zero, List.set_cons_succ]
                    refine wpAnyH_take (i := 38) (oi := { dst := some 164, op := Op.load 32 (Operand.tmp 20), type := 32, pos := "laws.go:1183", after := #[{ on := 36, ground := Ground.guard }], guard := some (36, false) }) (v := ?_) rfl (by kernel_rfl) (by kernel_rfl) (by kernel_rfl) (fun _ _ _ h => h) (Or.inl ⟨by rfl, ?_⟩) (by assumption) ?_
                    rotate_left
                    · intro w hSw
                      try dsimp only at hSw
                      go_simp
                      try (with_reducible rfl)
                    try simp only [Act.put, List.setIfInBounds_toArray, List.set_cons_zero, List.set_cons_succ]
                    refine wpAnyH_ready (rs := [39]) (by kernel_rfl) (by simp) ?_
                    refine AllReadyH.cons (o := { dst := some 165, op := Op.call { callee := Callee.value (Operand.func 25), args := #[Operand.tmp 163, Operand.tmp 164], argTypes := #[32, 32] }, type := 4, pos := "laws.go:1183", after := #[{ on := 37, ground := Ground.data }, { on := 38, ground := Ground.data }, { on := 36, ground := Ground.chain }, { on := 36, ground := Ground.guard }], guard := some (36, false) }) rfl (fun K hK => ?_) ?_
                    · go_simp
                      (go_simp; go_at_call 25; (with_reducible refine (sameComplex_yes Q a10 a11 n10 n11 c10 c11 fs _ SW.out.i10 SW.out.i11).mono ?_); rintro e w6 ⟨rfl, hb6⟩; have SW := Lib.hid (SW.out.keep hb6); clear hb6)
                      try (go_wp2_with fail)
                      refine hK.out _ _ ?_ (fun hHeld => ?_)
                      · exact ⟨SW.out.x1.c0, SW.out.x1.c1, SW.out.x3.c0, SW.out.x3.c1, SW.out.x4.c0, SW.out.x4.c1, SW.out.x5.c0, SW.out.x5.c1, SW.out.x6.c0, SW.out.x6.c1, SW.out.x8.c0, SW.out.x8.c1, SW.out.x9.c0, SW.out.x9.c1, SW.out.x10.c0, SW.out.x10.c1, SW.out.x11.c0, SW.out.x11.c1, SW.out.x13.c0, SW.out.x13.c1, SW.out.x14.c0, SW.out.x14.c1, SW.out.x15.c0, SW.out.x15.c1, SW.out.x16.c0, SW.out.x16.c1⟩
                      clear hK K
                      try simp only [Act.put, List.setIfInBounds_toArray, List.set_cons_zero, List.set_cons_succ]
                      as_aux_lemma =>
                        refine wpAnyH_take (i := 40) (oi := { dst := some 166, op := Op.unOp UnOp.not 4 (Operand.tmp 165), type := 4, pos := "laws.go:1183", after := #[{ on := 39, ground := Ground.data }, { on := 36, ground := Ground.guard }], guard := some (36, false) }) (v := ?_) rfl (by kernel_rfl) (by kernel_rfl) (by kernel_rfl) (fun _ _ _ h => h) (Or.inl ⟨by rfl, ?_⟩) (by assumption) ?_
                        rotate_left
                        · intro w hSw
                          try dsimp only at hSw
                          go_simp
                          try (with_reducible rfl)
                        try simp only [Act.put, List.setIfInBounds_toArray, List.set_cons_zero, List.set_cons_succ]
                        refine wpAnyH_take (i := 41) (oi := { dst := some 167, op := Op.pick (Operand.tmp 162) (Operand.const (Value.bool true)) (Operand.tmp 166), type := 4, pos := "laws.go:1183", after := #[{ on := 36, ground := Ground.data }, { on := 40, ground := Ground.data }], guard := none }) (v := ?_) rfl (by kernel_rfl) (by kernel_rfl) (by kernel_rfl) (fun _ _ _ h => h) (Or.inl ⟨by rfl, ?_⟩) (by assumption) ?_
                        rotate_left
                        · intro w hSw
                          try dsimp only at hSw
                          go_simp
                          try (with_reducible rfl)
                        try simp only [Act.put, List.setIfInBounds_toArray, List.set_cons_zero, List.set_cons_succ]
                        refine wpAnyH_take (i := 42) (oi := { dst := some 168, op := Op.move (Operand.tmp 167), type := 4, pos := "laws.go:1183", after := #[{ on := 41, ground := Ground.data }, { on := 39, ground := Ground.chain }], guard := none }) (v := ?_) rfl (by kernel_rfl) (by kernel_rfl) (by kernel_rfl) (fun _ _ _ h => h) (Or.inl ⟨by rfl, ?_⟩) (by assumption) ?_
                        rotate_left
                        · intro w hSw
                          try dsimp only at hSw
                          go_simp
                          try (with_reducible rfl)
                        try simp only [Act.put, List.setIfInBounds_toArray, List.set_cons_zero, List.set_cons_succ]
                        refine wpAnyH_take (i := 43) (oi := { dst := some 169, op := Op.move (Operand.tmp 25), type := 4, pos := "laws.go:1183", after := #[{ on := 42, ground := Ground.guard }], guard := some (42, false) }) (v := ?_) rfl (by kernel_rfl) (by kernel_rfl) (by kernel_rfl) (fun _ _ _ h => h) (Or.inl ⟨by rfl, ?_⟩) (by assumption) ?_
                        rotate_left
                        · intro w hSw
                          try dsimp only at hSw
                          go_simp
                          try (with_reducible rfl)
                        try simp only [Act.put, List.setIfInBounds_toArray, List.set_cons_zero, List.set_cons_succ]
                        refine wpAnyH_take (i := 44) (oi := { dst := some 170, op := Op.move (Operand.tmp 27), type := 4, pos := "laws.go:1183", after := #[{ on := 42, ground := Ground.guard }], guard := some (42, false) }) (v := ?_) rfl (by kernel_rfl) (by kernel_rfl) (by kernel_rfl) (fun _ _ _ h => h) (Or.inl ⟨by rfl, ?_⟩) (by assumption) ?_
                        rotate_left
                        · intro w hSw
                          try dsimp only at hSw
                          go_simp
                          try (with_reducible rfl)
                        try simp only [Act.put, List.setIfInBounds_toArray, List.set_cons_zero, List.set_cons_succ]
                        refine wpAnyH_take (i := 45) (oi := { dst := some 171, op := Op.binOp BinOp.neq 4 (Operand.tmp 169) (Operand.tmp 170) 4, type := 4, pos := "laws.go:1183", after := #[{ on := 43, ground := Ground.data }, { on := 44, ground := Ground.data }, { on := 42, ground := Ground.guard }], guard := some (42, false) }) (v := ?_) rfl (by kernel_rfl) (by kernel_rfl) (by kernel_rfl) (fun _ _ _ h => h) (Or.inl ⟨by rfl, ?_⟩) (by assumption) ?_
                        rotate_left
                        · intro w hSw
                          try dsimp only at hSw
                          go_simp
                          try (with_reducible rfl)
                        try simp only [Act.put, List.setIfInBounds_toArray, List.set_cons_zero, List.set_cons_succ]
                        refine wpAnyH_take (i := 46) (oi := { dst := some 172, op := Op.pick (Operand.tmp 168) (Operand.const (Value.bool true)) (Operand.tmp 171), type := 4, pos := "laws.go:1183", after := #[{ on := 42, ground := Ground.data }, { on := 45, ground := Ground.data }], guard := none }) (v := ?_) rfl (by kernel_rfl) (by kernel_rfl) (by kernel_rfl) (fun _ _ _ h => h) (Or.inl ⟨by rfl, ?_⟩) (by assumption) ?_
                        rotate_left
                        · intro w hSw
                          try dsimp only at hSw
                          go_simp
                          try (with_reducible rfl)
                        try simp only [Act.put, List.setIfInBounds_toArray, List.set_cons_zero, List.set_cons_succ]
                        refine wpAnyH_take (i := 47) (oi := { dst := some 173, op := Op.move (Operand.tmp 172), type := 4, pos := "laws.go:1183", after := #[{ on := 46, ground := Ground.data }, { on := 42, ground := Ground.chain }], guard := none }) (v := ?_) rfl (by kernel_rfl) (by kernel_rfl) (by kernel_rfl) (fun _ _ _ h => h) (Or.inl ⟨by rfl, ?_⟩) (by assumption) ?_
                        rotate_left
                        · intro w hSw
                          try dsimp only at hSw
                          go_simp
                          try (with_reducible rfl)
                        try simp only [Act.put, List.setIfInBounds_toArray, List.set_cons_zero, List.set_cons_succ]
                        refine wpAnyH_take (i := 48) (oi := { dst := some 174, op := Op.load 26 (Operand.tmp 24), type := 26, pos := "laws.go:1183", after := #[{ on := 47, ground := Ground.guard }], guard := some (47, false) }) (v := ?_) rfl (by kernel_rfl) (by kernel_rfl) (by kernel_rfl) (fun _ _ _ h => h) (Or.inl ⟨by rfl, ?_⟩) (by assumption) ?_
                        rotate_left
                        · intro w hSw
                          try dsimp only at hSw
                          go_simp
                          try (with_reducible rfl)
                        try simp only [Act.put, List.setIfInBounds_toArray, List.set_cons_zero, List.set_cons_succ]
                        refine wpAnyH_take (i := 49) (oi := { dst := some 175, op := Op.load 26 (Operand.tmp 26), type := 26, pos := "laws.go:1183", after := #[{ on := 47, ground := Ground.guard }], guard := some (47, false) }) (v := ?_) rfl (by kernel_rfl) (by kernel_rfl) (by kernel_rfl) (fun _ _ _ h => h) (Or.inl ⟨by rfl, ?_⟩) (by assumption) ?_
                        rotate_left
                        · intro w hSw
                          try dsimp only at hSw
                          go_simp
                          try (with_reducible rfl)
                        try simp only [Act.put, List.setIfInBounds_toArray, List.set_cons_zero, List.set_cons_succ]
                        refine wpAnyH_ready (rs := [50]) (by kernel_rfl) (by simp) ?_
                        refine AllReadyH.cons (o := { dst := some 176, op := Op.call { callee := Callee.value (Operand.func 24), args := #[Operand.tmp 174, Operand.tmp 175], argTypes := #[26, 26] }, type := 4, pos := "laws.go:1183", after := #[{ on := 48, ground := Ground.data }, { on := 49, ground := Ground.data }, { on := 47, ground := Ground.chain }, { on := 47, ground := Ground.guard }], guard := some (47, false) }) rfl (fun K hK => ?_) ?_
                        · go_simp
                          (go_simp; go_at_call 24; (with_reducible refine (sameIdeal_yes H a13 a14 n13 n14 c13 c14 hs2 _ SW.out.i13 SW.out.i14).mono ?_); rintro e w6 ⟨rfl, hb6⟩; have SW := Lib.hid (SW.out.keep hb6); clear hb6)
                          try (go_wp2_with fail)
                          refine hK.out _ _ ?_ (fun hHeld => ?_)
                          · exact ⟨SW.out.x1.c0, SW.out.x1.c1, SW.out.x3.c0, SW.out.x3.c1, SW.out.x4.c0, SW.out.x4.c1, SW.out.x5.c0, SW.out.x5.c1, SW.out.x6.c0, SW.out.x6.c1, SW.out.x8.c0, SW.out.x8.c1, SW.out.x9.c0, SW.out.x9.c1, SW.out.x10.c0, SW.out.x10.c1, SW.out.x11.c0, SW.out.x11.c1, SW.out.x13.c0, SW.out.x13.c1, SW.out.x14.c0, SW.out.x14.c1, SW.out.x15.c0, SW.out.x15.c1, SW.out.x16.c0, SW.out.x16.c1⟩
                          clear hK K
                          try simp only [Act.put, List.setIfInBounds_toArray, List.set_cons_zero, List.set_cons_succ]
                          as_aux_lemma =>
                            refine wpAnyH_take (i := 51) (oi := { dst := some 177, op := Op.unOp UnOp.not 4 (Operand.tmp 176), type := 4, pos := "laws.go:1183", after := #[{ on := 50, ground := Ground.data }, { on := 47, ground := Ground.guard }], guard := some (47, false) }) (v := ?_) rfl (by kernel_rfl) (by kernel_rfl) (by kernel_rfl) (fun _ _ _ h => h) (Or.inl ⟨by rfl, ?_⟩) (by assumption) ?_
                            rotate_left
                            · intro w hSw
                              try dsimp only at hSw
                              go_simp
                              try (with_reducible rfl)
                            try simp only [Act.put, List.setIfInBounds_toArray, List.set_cons_zero, List.set_cons_succ]
                            refine wpAnyH_take (i := 52) (oi := { dst := some 178, op := Op.pick (Operand.tmp 173) (Operand.const (Value.bool true)) (Operand.tmp 177), type := 4, pos := "laws.go:1183", after := #[{ on := 47, ground := Ground.data }, { on := 51, ground := Ground.data }], guard := none }) (v := ?_) rfl (by kernel_rfl) (by kernel_rfl) (by kernel_rfl) (fun _ _ _ h => h) (Or.inl ⟨by rfl, ?_⟩) (by assumption) ?_
                            rotate_left
                            · intro w hSw
                              try dsimp only at hSw
                              go_simp
                              try (with_reducible rfl)
                            try simp only [Act.put, List.setIfInBounds_toArray, List.set_cons_zero, List.set_cons_succ]
                            refine wpAnyH_take (i := 53) (oi := { dst := some 179, op := Op.move (Operand.tmp 178), type := 4, pos := "laws.go:1183", after := #[{ on := 52, ground := Ground.data }, { on := 50, ground := Ground.chain }], guard := none }) (v := ?_) rfl (by kernel_rfl) (by kernel_rfl) (by kernel_rfl) (fun _ _ _ h => h) (Or.inl ⟨by rfl, ?_⟩) (by assumption) ?_
                            rotate_left
                            · intro w hSw
                              try dsimp only at hSw
                              go_simp
                              try (with_reducible rfl)
                            try simp only [Act.put, List.setIfInBounds_toArray, List.set_cons_zero, List.set_cons_succ]
                            refine wpAnyH_take (i := 54) (oi := { dst := some 180, op := Op.move (Operand.tmp 31), type := 4, pos := "laws.go:1183", after := #[{ on := 53, ground := Ground.guard }], guard := some (53, false) }) (v := ?_) rfl (by kernel_rfl) (by kernel_rfl) (by kernel_rfl) (fun _ _ _ h => h) (Or.inl ⟨by rfl, ?_⟩) (by assumption) ?_
                            rotate_left
                            · intro w hSw
                              try dsimp only at hSw
                              go_simp
                              try (with_reducible rfl)
                            try simp only [Act.put, List.setIfInBounds_toArray, List.set_cons_zero, List.set_cons_succ]
                            refine wpAnyH_take (i := 55) (oi := { dst := some 181, op := Op.move (Operand.tmp 33), type := 4, pos := "laws.go:1183", after := #[{ on := 53, ground := Ground.guard }], guard := some (53, false) }) (v := ?_) rfl (by kernel_rfl) (by kernel_rfl) (by kernel_rfl) (fun _ _ _ h => h) (Or.inl ⟨by rfl, ?_⟩) (by assumption) ?_
                            rotate_left
                            · intro w hSw
                              try dsimp only at hSw
                              go_simp
                              try (with_reducible rfl)
                            try simp only [Act.put, List.setIfInBounds_toArray, List.set_cons_zero, List.set_cons_succ]
                            refine wpAnyH_take (i := 56) (oi := { dst := some 182, op := Op.binOp BinOp.neq 4 (Operand.tmp 180) (Operand.tmp 181) 4, type := 4, pos := "laws.go:1183", after := #[{ on := 54, ground := Ground.data }, { on := 55, ground := Ground.data }, { on := 53, ground := Ground.guard }], guard := some (53, false) }) (v := ?_) rfl (by kernel_rfl) (by kernel_rfl) (by kernel_rfl) (fun _ _ _ h => h) (Or.inl ⟨by rfl, ?_⟩) (by assumption) ?_
                            rotate_left
                            · intro w hSw
                              try dsimp only at hSw
                              go_simp
                              try (with_reducible rfl)
                            try simp only [Act.put, List.setIfInBounds_toArray, List.set_cons_zero, List.set_cons_succ]
                            refine wpAnyH_take (i := 57) (oi := { dst := some 183, op := Op.pick (Operand.tmp 179) (Operand.const (Value.bool true)) (Operand.tmp 182), type := 4, pos := "laws.go:1183", after := #[{ on := 53, ground := Ground.data }, { on := 56, ground := Ground.data }], guard := none }) (v := ?_) rfl (by kernel_rfl) (by kernel_rfl) (by kernel_rfl) (fun _ _ _ h => h) (Or.inl ⟨by rfl, ?_⟩) (by assumption) ?_
                            rotate_left
                            · intro w hSw
                              try dsimp only at hSw
                              go_simp
                              try (with_reducible rfl)
                            try simp only [Act.put, List.setIfInBounds_toArray, List.set_cons_zero, List.set_cons_succ]
                            refine wpAnyH_take (i := 58) (oi := { dst := some 184, op := Op.move (Operand.tmp 183), type := 4, pos := "laws.go:1183", after := #[{ on := 57, ground := Ground.data }, { on := 53, ground := Ground.chain }], guard := none }) (v := ?_) rfl (by kernel_rfl) (by kernel_rfl) (by kernel_rfl) (fun _ _ _ h => h) (Or.inl ⟨by rfl, ?_⟩) (by assumption) ?_
                            rotate_left
                            · intro w hSw
                              try dsimp only at hSw
                              go_simp
                              try (with_reducible rfl)
                            try simp only [Act.put, List.setIfInBounds_toArray, List.set_cons_zero, List.set_cons_succ]
                            refine wpAnyH_take (i := 59) (oi := { dst := some 185, op := Op.load 26 (Operand.tmp 30), type := 26, pos := "laws.go:1183", after := #[{ on := 58, ground := Ground.guard }], guard := some (58, false) }) (v := ?_) rfl (by kernel_rfl) (by kernel_rfl) (by kernel_rfl) (fun _ _ _ h => h) (Or.inl ⟨by rfl, ?_⟩) (by assumption) ?_
                            rotate_left
                            · intro w hSw
                              try dsimp only at hSw
                              go_simp
                              try (with_reducible rfl)
                            try simp only [Act.put, List.setIfInBounds_toArray, List.set_cons_zero, List.set_cons_succ]
                            refine wpAnyH_take (i := 60) (oi := { dst := some 186, op := Op.load 26 (Operand.tmp 32), type := 26, pos := "laws.go:1183", after := #[{ on := 58, ground := Ground.guard }], guard := some (58, false) }) (v := ?_) rfl (by kernel_rfl) (by kernel_rfl) (by kernel_rfl) (fun _ _ _ h => h) (Or.inl ⟨by rfl, ?_⟩) (by assumption) ?_
                            rotate_left
                            · intro w hSw
                              try dsimp only at hSw
                              go_simp
                              try (with_reducible rfl)
                            try simp only [Act.put, List.setIfInBounds_toArray, List.set_cons_zero, List.set_cons_succ]
                            refine wpAnyH_ready (rs := [61]) (by kernel_rfl) (by simp) ?_
                            refine AllReadyH.cons (o := { dst := some 187, op := Op.call { callee := Callee.value (Operand.func 24), args := #[Operand.tmp 185, Operand.tmp 186], argTypes := #[26, 26] }, type := 4, pos := "laws.go:1183", after := #[{ on := 59, ground := Ground.data }, { on := 60, ground := Ground.data }, { on := 58, ground := Ground.chain }, { on := 58, ground := Ground.guard }], guard := some (58, false) }) rfl (fun K hK => ?_) ?_
                            · go_simp
                              (go_simp; go_at_call 24; (with_reducible refine (sameIdeal_yes KK a15 a16 n15 n16 c15 c16 ks _ SW.out.i15 SW.out.i16).mono ?_); rintro e w6 ⟨rfl, hb6⟩; have SW := Lib.hid (SW.out.keep hb6); clear hb6)
                              try (go_wp2_with fail)
                              refine hK.out _ _ ?_ (fun hHeld => ?_)
                              · exact ⟨SW.out.x1.c0, SW.out.x1.c1, SW.out.x3.c0, SW.out.x3.c1, SW.out.x4.c0, SW.out.x4.c1, SW.out.x5.c0, SW.out.x5.c1, SW.out.x6.c0, SW.out.x6.c1, SW.out.x8.c0, SW.out.x8.c1, SW.out.x9.c0, SW.out.x9.c1, SW.out.x10.c0, SW.out.x10.c1, SW.out.x11.c0, SW.out.x11.c1, SW.out.x13.c0, SW.out.x13.c1, SW.out.x14.c0, SW.out.x14.c1, SW.out.x15.c0, SW.out.x15.c1, SW.out.x16.c0, SW.out.x16.c1⟩
                              clear hK K
                              try simp only [Act.put, List.setIfInBounds_toArray, List.set_cons_zero, List.set_cons_succ]
                              as_aux_lemma =>
                                refine wpAnyH_take (i := 62) (oi := { dst := some 188, op := Op.unOp UnOp.not 4 (Operand.tmp 187), type := 4, pos := "laws.go:1183", after := #[{ on := 61, ground := Ground.data }, { on := 58, ground := Ground.guard }], guard := some (58, false) }) (v := ?_) rfl (by kernel_rfl) (by kernel_rfl) (by kernel_rfl) (fun _ _ _ h => h) (Or.inl ⟨by rfl, ?_⟩) (by assumption) ?_
                                rotate_left
                                · intro w hSw
                                  try dsimp only at hSw
                                  go_simp
                                  try (with_reducible rfl)
                                try simp only [Act.put, List.setIfInBounds_toArray, List.set_cons_zero, List.set_cons_succ]
                                refine wpAnyH_take (i := 63) (oi := { dst := some 189, op := Op.pick (Operand.tmp 184) (Operand.const (Value.bool true)) (Operand.tmp 188), type := 4, pos := "laws.go:1183", after := #[{ on := 58, ground := Ground.data }, { on := 62, ground := Ground.data }], guard := none }) (v := ?_) rfl (by kernel_rfl) (by kernel_rfl) (by kernel_rfl) (fun _ _ _ h => h) (Or.inl ⟨by rfl, ?_⟩) (by assumption) ?_
                                rotate_left
                                · intro w hSw
                                  try dsimp only at hSw
                                  go_simp
                                  try (with_reducible rfl)
                                try simp only [Act.put, List.setIfInBounds_toArray, List.set_cons_zero, List.set_cons_succ]
                                refine wpAnyH_take (i := 64) (oi := { dst := some 190, op := Op.move (Operand.tmp 189), type := 4, pos := "laws.go:1183", after := #[{ on := 63, ground := Ground.data }, { on := 61, ground := Ground.chain }], guard := none }) (v := ?_) rfl (by kernel_rfl) (by kernel_rfl) (by kernel_rfl) (fun _ _ _ h => h) (Or.inl ⟨by rfl, ?_⟩) (by assumption) ?_
                                rotate_left
                                · intro w hSw
                                  try dsimp only at hSw
                                  go_simp
                                  try (with_reducible rfl)
                                try simp only [Act.put, List.setIfInBounds_toArray, List.set_cons_zero, List.set_cons_succ]
                                refine wpAnyH_take (i := 65) (oi := { dst := some 191, op := Op.load 26 (Operand.tmp 3), type := 26, pos := "laws.go:1183", after := #[{ on := 64, ground := Ground.guard }], guard := some (64, false) }) (v := ?_) rfl (by kernel_rfl) (by kernel_rfl) (by kernel_rfl) (fun _ _ _ h => h) (Or.inl ⟨by rfl, ?_⟩) (by assumption) ?_
                                rotate_left
                                · intro w hSw
                                  try dsimp only at hSw
                                  go_simp
                                  try (with_reducible rfl)
                                try simp only [Act.put, List.setIfInBounds_toArray, List.set_cons_zero, List.set_cons_succ]
                                refine wpAnyH_take (i := 67) (oi := { dst := some 193, op := Op.load 26 (Operand.tmp 3), type := 26, pos := "laws.go:1183", after := #[{ on := 64, ground := Ground.guard }], guard := some (64, false) }) (v := ?_) rfl (by kernel_rfl) (by kernel_rfl) (by kernel_rfl) (fun _ _ _ h => h) (Or.inl ⟨by rfl, ?_⟩) (by assumption) ?_
                                rotate_left
                                · intro w hSw
                                  try dsimp only at hSw
                                  go_simp
                                  try (with_reducible rfl)
                                try simp only [Act.put, List.setIfInBounds_toArray, List.set_cons_zero, List.set_cons_succ]
                                refine wpAnyH_ready (rs := [66]) (by kernel_rfl) (by simp) ?_
                                refine AllReadyH.cons (o := { dst := some 192, op := Op.call { callee := Callee.value (Operand.func 27), args := #[Operand.tmp 191], argTypes := #[26] }, type := 24, pos := "laws.go:1183", after := #[{ on := 65, ground := Ground.data }, { on := 64, ground := Ground.chain }, { on := 64, ground := Ground.guard }], guard := some (64, false) }) rfl (fun K hK => ?_) ?_
                                · go_simp
                                  (go_simp; go_at_call 27; (with_reducible refine (HPi.out _ a1 n1 c1 SW.out.i1 F1).mono ?_); rintro e w6 ⟨aA, nA, cA, rfl, ownA, hb6⟩; have SW := Lib.hid (SW.out.keep hb6); have HA := Lib.hid ownA.reads; clear ownA; clear hb6)
                                  try (go_wp2_with fail)
                                  refine hK.out _ _ ?_ (fun hHeld => ?_)
                                  · exact ⟨SW.out.x1.c0, SW.out.x1.c1, SW.out.x3.c0, SW.out.x3.c1, SW.out.x4.c0, SW.out.x4.c1, SW.out.x5.c0, SW.out.x5.c1, SW.out.x6.c0, SW.out.x6.c1, SW.out.x8.c0, SW.out.x8.c1, SW.out.x9.c0, SW.out.x9.c1, SW.out.x10.c0, SW.out.x10.c1, SW.out.x11.c0, SW.out.x11.c1, SW.out.x13.c0, SW.out.x13.c1, SW.out.x14.c0, SW.out.x14.c1, SW.out.x15.c0, SW.out.x15.c1, SW.out.x16.c0, SW.out.x16.c1⟩
                                  clear hK K
                                  try simp only [Act.put, List.setIfInBounds_toArray, List.set_cons_zero, List.set_cons_succ]
                                  as_aux_lemma =>
                                    refine wpAnyH_ready (rs := [68]) (by kernel_rfl) (by simp) ?_
                                    refine AllReadyH.cons (o := { dst := some 194, op := Op.call { callee := Callee.value (Operand.func 28), args := #[Operand.tmp 193], argTypes := #[26] }, type := 24, pos := "laws.go:1183", after := #[{ on := 67, ground := Ground.data }, { on := 66, ground := Ground.chain }, { on := 64, ground := Ground.guard }], guard := some (64, false) }) rfl (fun K hK => ?_) ?_
                                    · go_simp
                                      (go_simp; go_at_call 28; (with_reducible refine (HPs.out _ a1 n1 c1 SW.out.i1 F1).mono ?_); rintro e w6 ⟨aB, nB, cB, rfl, ownB, hb6⟩; have SW := Lib.hid (SW.out.keep hb6); have HA := Lib.hid (HA.out.keep hb6); have HB := Lib.hid ownB.reads; clear ownB; clear hb6)
                                      try (go_wp2_with fail)
                                      refine hK.out _ _ ?_ (fun hHeld => ?_)
                                      · exact ⟨SW.out.x1.c0, SW.out.x1.c1, SW.out.x3.c0, SW.out.x3.c1, SW.out.x4.c0, SW.out.x4.c1, SW.out.x5.c0, SW.out.x5.c1, SW.out.x6.c0, SW.out.x6.c1, SW.out.x8.c0, SW.out.x8.c1, SW.out.x9.c0, SW.out.x9.c1, SW.out.x10.c0, SW.out.x10.c1, SW.out.x11.c0, SW.out.x11.c1, SW.out.x13.c0, SW.out.x13.c1, SW.out.x14.c0, SW.out.x14.c1, SW.out.x15.c0, SW.out.x15.c1, SW.out.x16.c0, SW.out.x16.c1⟩
                                      clear hK K
                                      try simp only [Act.put, List.setIfInBounds_toArray, List.set_cons_zero, List.set_cons_succ]
                                      as_aux_lemma =>
                                        refine wpAnyH_ready (rs := [69]) (by kernel_rfl) (by simp) ?_
                                        refine AllReadyH.cons (o := { dst := some 195, op := Op.call { callee := Callee.value (Operand.func 26), args := #[Operand.tmp 192, Operand.tmp 194], argTypes := #[24, 24] }, type := 4, pos := "laws.go:1183", after := #[{ on := 66, ground := Ground.data }, { on := 68, ground := Ground.data }, { on := 68, ground := Ground.chain }, { on := 64, ground := Ground.guard }], guard := some (64, false) }) rfl (fun K hK => ?_) ?_
                                        · go_simp
                                          (go_simp; go_at_call 26; (with_reducible refine (sameInts_yes aA aB nA nB cA cB rs rs _ HA.out HB.out rfl).mono ?_); rintro e w6 ⟨rfl, hb6⟩; have SW := Lib.hid (SW.out.keep hb6); clear hb6)
                                          try (go_wp2_with fail)
                                          refine hK.out _ _ ?_ (fun hHeld => ?_)
                                          · exact ⟨SW.out.x1.c0, SW.out.x1.c1, SW.out.x3.c0, SW.out.x3.c1, SW.out.x4.c0, SW.out.x4.c1, SW.out.x5.c0, SW.out.x5.c1, SW.out.x6.c0, SW.out.x6.c1, SW.out.x8.c0, SW.out.x8.c1, SW.out.x9.c0, SW.out.x9.c1, SW.out.x10.c0, SW.out.x10.c1, SW.out.x11.c0, SW.out.x11.c1, SW.out.x13.c0, SW.out.x13.c1, SW.out.x14.c0, SW.out.x14.c1, SW.out.x15.c0, SW.out.x15.c1, SW.out.x16.c0, SW.out.x16.c1⟩
                                          clear hK K
                                          try simp only [Act.put, List.setIfInBounds_toArray, List.set_cons_zero, List.set_cons_succ]
                                          as_aux_lemma =>
                                            refine wpAnyH_take (i := 70) (oi := { dst := some 196, op := Op.unOp UnOp.not 4 (Operand.tmp 195), type := 4, pos := "laws.go:1183", after := #[{ on := 69, ground := Ground.data }, { on := 64, ground := Ground.guard }], guard := some (64, false) }) (v := ?_) rfl (by kernel_rfl) (by kernel_rfl) (by kernel_rfl) (fun _ _ _ h => h) (Or.inl ⟨by rfl, ?_⟩) (by assumption) ?_
                                            rotate_left
                                            · intro w hSw
                                              try dsimp only at hSw
                                              go_simp
                                              try (with_reducible rfl)
                                            try simp only [Act.put, List.setIfInBounds_toArray, List.set_cons_zero, List.set_cons_succ]
                                            refine wpAnyH_take (i := 71) (oi := { dst := some 197, op := Op.pick (Operand.tmp 190) (Operand.const (Value.bool true)) (Operand.tmp 196), type := 4, pos := "laws.go:1183", after := #[{ on := 64, ground := Ground.data }, { on := 70, ground := Ground.data }], guard := none }) (v := ?_) rfl (by kernel_rfl) (by kernel_rfl) (by kernel_rfl) (fun _ _ _ h => h) (Or.inl ⟨by rfl, ?_⟩) (by assumption) ?_
                                            rotate_left
                                            · intro w hSw
                                              try dsimp only at hSw
                                              go_simp
                                              try (with_reducible rfl)
                                            try simp only [Act.put, List.setIfInBounds_toArray, List.set_cons_zero, List.set_cons_succ]
                                            refine wpAnyH_take (i := 72) (oi := { dst := some 198, op := Op.move (Operand.tmp 197), type := 4, pos := "laws.go:1183", after := #[{ on := 71, ground := Ground.data }, { on := 69, ground := Ground.chain }], guard := none }) (v := ?_) rfl (by kernel_rfl) (by kernel_rfl) (by kernel_rfl) (fun _ _ _ h => h) (Or.inl ⟨by rfl, ?_⟩) (by assumption) ?_
                                            rotate_left
                                            · intro w hSw
                                              try dsimp only at hSw
                                              go_simp
                                              try (with_reducible rfl)
                                            try simp only [Act.put, List.setIfInBounds_toArray, List.set_cons_zero, List.set_cons_succ]
                                            refine wpAnyH_take (i := 73) (oi := { dst := some 199, op := Op.load 26 (Operand.tmp 3), type := 26, pos := "laws.go:1183", after := #[{ on := 72, ground := Ground.guard }], guard := some (72, false) }) (v := ?_) rfl (by kernel_rfl) (by kernel_rfl) (by kernel_rfl) (fun _ _ _ h => h) (Or.inl ⟨by rfl, ?_⟩) (by assumption) ?_
                                            rotate_left
                                            · intro w hSw
                                              try dsimp only at hSw
                                              go_simp
                                              try (with_reducible rfl)
                                            try simp only [Act.put, List.setIfInBounds_toArray, List.set_cons_zero, List.set_cons_succ]
                                            refine wpAnyH_take (i := 75) (oi := { dst := some 201, op := Op.load 26 (Operand.tmp 3), type := 26, pos := "laws.go:1183", after := #[{ on := 72, ground := Ground.guard }], guard := some (72, false) }) (v := ?_) rfl (by kernel_rfl) (by kernel_rfl) (by kernel_rfl) (fun _ _ _ h => h) (Or.inl ⟨by rfl, ?_⟩) (by assumption) ?_
                                            rotate_left
                                            · intro w hSw
                                              try dsimp only at hSw
                                              go_simp
                                              try (with_reducible rfl)
                                            try simp only [Act.put, List.setIfInBounds_toArray, List.set_cons_zero, List.set_cons_succ]
                                            refine wpAnyH_ready (rs := [74]) (by kernel_rfl) (by simp) ?_
                                            refine AllReadyH.cons (o := { dst := some 200, op := Op.call { callee := Callee.value (Operand.func 29), args := #[Operand.tmp 199], argTypes := #[26] }, type := 9, pos := "laws.go:1183", after := #[{ on := 73, ground := Ground.data }, { on := 72, ground := Ground.chain }, { on := 72, ground := Ground.guard }], guard := some (72, false) }) rfl (fun K hK => ?_) ?_
                                            · go_simp
                                              (go_simp; go_at_call 29; (with_reducible refine (HTi.out _ a1 n1 c1 SW.out.i1 D1).mono ?_); rintro e w6 ⟨rfl, hb6⟩; have SW := Lib.hid (SW.out.keep hb6); clear hb6)
                                              try (go_wp2_with fail)
                                              refine hK.out _ _ ?_ (fun hHeld => ?_)
                                              · exact ⟨SW.out.x1.c0, SW.out.x1.c1, SW.out.x3.c0, SW.out.x3.c1, SW.out.x4.c0, SW.out.x4.c1, SW.out.x5.c0, SW.out.x5.c1, SW.out.x6.c0, SW.out.x6.c1, SW.out.x8.c0, SW.out.x8.c1, SW.out.x9.c0, SW.out.x9.c1, SW.out.x10.c0, SW.out.x10.c1, SW.out.x11.c0, SW.out.x11.c1, SW.out.x13.c0, SW.out.x13.c1, SW.out.x14.c0, SW.out.x14.c1, SW.out.x15.c0, SW.out.x15.c1, SW.out.x16.c0, SW.out.x16.c1⟩
                                              clear hK K
                                              try simp only [Act.put, List.setIfInBounds_toArray, List.set_cons_zero, List.set_cons_succ]
                                              as_aux_lemma =>
                                                refine wpAnyH_ready (rs := [76]) (by kernel_rfl) (by simp) ?_
                                                refine AllReadyH.cons (o := { dst := some 202, op := Op.call { callee := Callee.value (Operand.func 30), args := #[Operand.tmp 201], argTypes := #[26] }, type := 9, pos := "laws.go:1183", after := #[{ on := 75, ground := Ground.data }, { on := 74, ground := Ground.chain }, { on := 72, ground := Ground.guard }], guard := some (72, false) }) rfl (fun K hK => ?_) ?_
                                                · go_simp
                                                  (go_simp; go_at_call 30; (with_reducible refine (HTs.out _ a1 n1 c1 SW.out.i1 D1).mono ?_); rintro e w6 ⟨rfl, hb6⟩; have SW := Lib.hid (SW.out.keep hb6); clear hb6)
                                                  try (go_wp2_with fail)
                                                  refine hK.out _ _ ?_ (fun hHeld => ?_)
                                                  · exact ⟨SW.out.x1.c0, SW.out.x1.c1, SW.out.x3.c0, SW.out.x3.c1, SW.out.x4.c0, SW.out.x4.c1, SW.out.x5.c0, SW.out.x5.c1, SW.out.x6.c0, SW.out.x6.c1, SW.out.x8.c0, SW.out.x8.c1, SW.out.x9.c0, SW.out.x9.c1, SW.out.x10.c0, SW.out.x10.c1, SW.out.x11.c0, SW.out.x11.c1, SW.out.x13.c0, SW.out.x13.c1, SW.out.x14.c0, SW.out.x14.c1, SW.out.x15.c0, SW.out.x15.c1, SW.out.x16.c0, SW.out.x16.c1⟩
                                                  clear hK K
                                                  try simp only [Act.put, List.setIfInBounds_toArray, List.set_cons_zero, List.set_cons_succ]
                                                  as_aux_lemma =>
                                                    refine wpAnyH_take (i := 77) (oi := { dst := some 203, op := Op.binOp BinOp.neq 9 (Operand.tmp 200) (Operand.tmp 202) 9, type := 4, pos := "laws.go:1183", after := #[{ on := 74, ground := Ground.data }, { on := 76, ground := Ground.data }, { on := 72, ground := Ground.guard }], guard := some (72, false) }) (v := ?_) rfl (by kernel_rfl) (by kernel_rfl) (by kernel_rfl) (fun _ _ _ h => h) (Or.inl ⟨by rfl, ?_⟩) (by assumption) ?_
                                                    rotate_left
                                                    · intro w hSw
                                                      try dsimp only at hSw
                                                      go_simp
                                                      try (with_reducible rfl)
                                                    try simp only [Act.put, List.setIfInBounds_toArray, List.set_cons_zero, List.set_cons_succ]
                                                    refine wpAnyH_take (i := 78) (oi := { dst := some 204, op := Op.pick (Operand.tmp 198) (Operand.const (Value.bool true)) (Operand.tmp 203), type := 4, pos := "laws.go:1183", after := #[{ on := 72, ground := Ground.data }, { on := 77, ground := Ground.data }], guard := none }) (v := ?_) rfl (by kernel_rfl) (by kernel_rfl) (by kernel_rfl) (fun _ _ _ h => h) (Or.inl ⟨by rfl, ?_⟩) (by assumption) ?_
                                                    rotate_left
                                                    · intro w hSw
                                                      try dsimp only at hSw
                                                      go_simp
                                                      try (with_reducible rfl)
                                                    try simp only [Act.put, List.setIfInBounds_toArray, List.set_cons_zero, List.set_cons_succ]
                                                    refine wpAnyH_take (i := 79) (oi := { dst := some 205, op := Op.move (Operand.tmp 204), type := 4, pos := "laws.go:1183", after := #[{ on := 78, ground := Ground.data }, { on := 76, ground := Ground.chain }], guard := none }) (v := ?_) rfl (by kernel_rfl) (by kernel_rfl) (by kernel_rfl) (fun _ _ _ h => h) (Or.inl ⟨by rfl, ?_⟩) (by assumption) ?_
                                                    rotate_left
                                                    · intro w hSw
                                                      try dsimp only at hSw
                                                      go_simp
                                                      try (with_reducible rfl)
                                                    try simp only [Act.put, List.setIfInBounds_toArray, List.set_cons_zero, List.set_cons_succ]
                                                    refine wpAnyH_take (i := 80) (oi := { dst := some 206, op := Op.load 26 (Operand.tmp 3), type := 26, pos := "laws.go:1183", after := #[{ on := 79, ground := Ground.guard }], guard := some (79, false) }) (v := ?_) rfl (by kernel_rfl) (by kernel_rfl) (by kernel_rfl) (fun _ _ _ h => h) (Or.inl ⟨by rfl, ?_⟩) (by assumption) ?_
                                                    rotate_left
                                                    · intro w hSw
                                                      try dsimp only at hSw
                                                      go_simp
                                                      try (with_reducible rfl)
                                                    try simp only [Act.put, List.setIfInBounds_toArray, List.set_cons_zero, List.set_cons_succ]
                                                    refine wpAnyH_take (i := 82) (oi := { dst := some 208, op := Op.load 26 (Operand.tmp 3), type := 26, pos := "laws.go:1183", after := #[{ on := 79, ground := Ground.guard }], guard := some (79, false) }) (v := ?_) rfl (by kernel_rfl) (by kernel_rfl) (by kernel_rfl) (fun _ _ _ h => h) (Or.inl ⟨by rfl, ?_⟩) (by assumption) ?_
                                                    rotate_left
                                                    · intro w hSw
                                                      try dsimp only at hSw
                                                      go_simp
                                                      try (with_reducible rfl)
                                                    try simp only [Act.put, List.setIfInBounds_toArray, List.set_cons_zero, List.set_cons_succ]
                                                    refine wpAnyH_ready (rs := [81]) (by kernel_rfl) (by simp) ?_
                                                    refine AllReadyH.cons (o := { dst := some 207, op := Op.call { callee := Callee.value (Operand.func 31), args := #[Operand.tmp 206], argTypes := #[26] }, type := 4, pos := "laws.go:1183", after := #[{ on := 80, ground := Ground.data }, { on := 79, ground := Ground.chain }, { on := 79, ground := Ground.guard }], guard := some (79, false) }) rfl (fun K hK => ?_) ?_
                                                    · go_simp
                                                      (go_simp; go_at_call 31; (with_reducible refine (HBi.out _ a1 n1 c1 SW.out.i1 D1).mono ?_); rintro e w6 ⟨rfl, hb6⟩; have SW := Lib.hid (SW.out.keep hb6); clear hb6)
                                                      try (go_wp2_with fail)
                                                      refine hK.out _ _ ?_ (fun hHeld => ?_)
                                                      · exact ⟨SW.out.x1.c0, SW.out.x1.c1, SW.out.x3.c0, SW.out.x3.c1, SW.out.x4.c0, SW.out.x4.c1, SW.out.x5.c0, SW.out.x5.c1, SW.out.x6.c0, SW.out.x6.c1, SW.out.x8.c0, SW.out.x8.c1, SW.out.x9.c0, SW.out.x9.c1, SW.out.x10.c0, SW.out.x10.c1, SW.out.x11.c0, SW.out.x11.c1, SW.out.x13.c0, SW.out.x13.c1, SW.out.x14.c0, SW.out.x14.c1, SW.out.x15.c0, SW.out.x15.c1, SW.out.x16.c0, SW.out.x16.c1⟩
                                                      clear hK K
                                                      try simp only [Act.put, List.setIfInBounds_toArray, List.set_cons_zero, List.set_cons_succ]
                                                      as_aux_lemma =>
                                                        refine wpAnyH_ready (rs := [83]) (by kernel_rfl) (by simp) ?_
                                                        refine AllReadyH.cons (o := { dst := some 209, op := Op.call { callee := Callee.value (Operand.func 32), args := #[Operand.tmp 208], argTypes := #[26] }, type := 4, pos := "laws.go:1183", after := #[{ on := 82, ground := Ground.data }, { on := 81, ground := Ground.chain }, { on := 79, ground := Ground.guard }], guard := some (79, false) }) rfl (fun K hK => ?_) ?_
                                                        · go_simp
                                                          (go_simp; go_at_call 32; (with_reducible refine (HBs.out _ a1 n1 c1 SW.out.i1 D1).mono ?_); rintro e w6 ⟨rfl, hb6⟩; have SW := Lib.hid (SW.out.keep hb6); clear hb6)
                                                          try (go_wp2_with fail)
                                                          refine hK.out _ _ ?_ (fun hHeld => ?_)
                                                          · exact ⟨SW.out.x1.c0, SW.out.x1.c1, SW.out.x3.c0, SW.out.x3.c1, SW.out.x4.c0, SW.out.x4.c1, SW.out.x5.c0, SW.out.x5.c1, SW.out.x6.c0, SW.out.x6.c1, SW.out.x8.c0, SW.out.x8.c1, SW.out.x9.c0, SW.out.x9.c1, SW.out.x10.c0, SW.out.x10.c1, SW.out.x11.c0, SW.out.x11.c1, SW.out.x13.c0, SW.out.x13.c1, SW.out.x14.c0, SW.out.x14.c1, SW.out.x15.c0, SW.out.x15.c1, SW.out.x16.c0, SW.out.x16.c1⟩
                                                          clear hK K
                                                          try simp only [Act.put, List.setIfInBounds_toArray, List.set_cons_zero, List.set_cons_succ]
                                                          as_aux_lemma =>
                                                            refine wpAnyH_take (i := 84) (oi := { dst := some 210, op := Op.binOp BinOp.neq 4 (Operand.tmp 207) (Operand.tmp 209) 4, type := 4, pos := "laws.go:1183", after := #[{ on := 81, ground := Ground.data }, { on := 83, ground := Ground.data }, { on := 79, ground := Ground.guard }], guard := some (79, false) }) (v := ?_) rfl (by kernel_rfl) (by kernel_rfl) (by kernel_rfl) (fun _ _ _ h => h) (Or.inl ⟨by rfl, ?_⟩) (by assumption) ?_
                                                            rotate_left
                                                            · intro w hSw
                                                              try dsimp only at hSw
                                                              go_simp
                                                              try (with_reducible rfl)
                                                            try simp only [Act.put, List.setIfInBounds_toArray, List.set_cons_zero, List.set_cons_succ]
                                                            refine wpAnyH_take (i := 85) (oi := { dst := some 211, op := Op.pick (Operand.tmp 205) (Operand.const (Value.bool true)) (Operand.tmp 210), type := 4, pos := "laws.go:1183", after := #[{ on := 79, ground := Ground.data }, { on := 84, ground := Ground.data }], guard := none }) (v := ?_) rfl (by kernel_rfl) (by kernel_rfl) (by kernel_rfl) (fun _ _ _ h => h) (Or.inl ⟨by rfl, ?_⟩) (by assumption) ?_
                                                            rotate_left
                                                            · intro w hSw
                                                              try dsimp only at hSw
                                                              go_simp
                                                              try (with_reducible rfl)
                                                            try simp only [Act.put, List.setIfInBounds_toArray, List.set_cons_zero, List.set_cons_succ]
                                                            refine wpAnyH_done (by kernel_rfl) ?_ _
                                                            go_wp2_with fail
                                                            go_meet
                                                            exact ⟨rfl, SW.out⟩
                                                        · exact AllReadyH.nil
                                                    · exact AllReadyH.nil
                                                · exact AllReadyH.nil
                                            · exact AllReadyH.nil
                                        · exact AllReadyH.nil
                                    · exact AllReadyH.nil
                                · exact AllReadyH.nil
                            · exact AllReadyH.nil
                        · exact AllReadyH.nil
                    · exact AllReadyH.nil
                · exact AllReadyH.nil
            · exact AllReadyH.nil
        · exact AllReadyH.nil
    case rest =>
      obtain ⟨rfl, hst⟩ := hcut
      have S1 := Lib.hid hst
      clear hst S0 hbb hb3 hb5 hb7 hb9 hbi HTs HTi HBs HBi
      go_upto_if 212 with fail
      go_cut [212] (fun _ W => St w p xs q ys P zs P2 zs2 r us R vs Q fs u ts H hs2 KK ks G1 a1 n1 c1 G2 a2 n2 c2 G3 a3 n3 c3 G4 a4 n4 c4 G5 a5 n5 c5 G6 a6 n6 c6 G7 a7 n7 c7 G8 a8 n8 c8 G9 a9 n9 c9 G10 a10 n10 c10 G11 a11 n11 c11 G12 a12 n12 c12 G13 a13 n13 c13 G14 a14 n14 c14 G15 a15 n15 c15 G16 a16 n16 c16 W)
      case first =>
        as_aux_lemma =>
          cases b3
          · go_wp2_with fail
            go_meet
            exact S1.out
          · have Hc := Lib.hid (HIc.out rfl)
            obtain ⟨x80, x81, _, _, _⟩ := S1.out.x8
            go_wp2_with fail
            refine (Hc.out _ a8 n8 c8 S1.out.i8 D8).mono ?_
            rintro e u1 ⟨aB, nB, cB, rfl, ownB, hb⟩
            have S2 := Lib.hid (S1.out.keep hb)
            obtain ⟨U2, hU2⟩ : ∃ W, W = u1.alloc (.cells #[.int .i64 r, .slice aB nB cB] 32) := ⟨_, rfl⟩
            obtain ⟨GB, hGB⟩ : ∃ G, G = u1.heap.size := ⟨_, rfl⟩
            have hbx : Below u1.heap.size u1 U2 := by rw [hU2]; exact (by repeat (first | exact Below.refl _ _ | assumption | refine Below.setCell ?_ (by first | omega | (simp; done) | (simp; omega)) _ | refine Below.alloc ?_ (by first | omega | (simp; done) | (simp; omega)) _ | apply Below.drew))
            have XB : Hid (BoxF U2 GB (.int .i64 r) (.slice aB nB cB)) := Lib.hid (by rw [hU2, hGB]; exact BoxF.new _ _ _ _)
            have IB : Hid (IntsAt U2 aB nB us) := Lib.hid (ownB.reads.keep hbx)
            have S3 := Lib.hid (S2.out.keep hbx)
            have HU2 := Lib.hid hU2; have HGB := Lib.hid hGB
            clear hb hbx hU2 hGB ownB S1 S2 x80 x81 Hc
            go_upto_region 23 with fail
            rw [← HGB.out, ← HU2.out]
            obtain ⟨z0, z1, _, _, _⟩ := XB.out
            obtain ⟨x70, x71, _, _, _⟩ := S3.out.x7
            go_wp2_with fail
            refine (sameComplex_yes r aB a7 nB n7 cB c7 us _ IB.out S3.out.i7).mono ?_
            rintro e u3 ⟨rfl, hb⟩
            have S4 := Lib.hid (S3.out.keep hb)
            clear hb
            go_wp2_with fail
            go_meet
            exact S4.out
      case rest =>
        have S2 := Lib.hid hcut
        clear hcut S1 HIc
        go_upto_if 226 with fail
        go_cut [226] (fun _ W => St w p xs q ys P zs P2 zs2 r us R vs Q fs u ts H hs2 KK ks G1 a1 n1 c1 G2 a2 n2 c2 G3 a3 n3 c3 G4 a4 n4 c4 G5 a5 n5 c5 G6 a6 n6 c6 G7 a7 n7 c7 G8 a8 n8 c8 G9 a9 n9 c9 G10 a10 n10 c10 G11 a11 n11 c11 G12 a12 n12 c12 G13 a13 n13 c13 G14 a14 n14 c14 G15 a15 n15 c15 G16 a16 n16 c16 W)
        case first =>
          as_aux_lemma =>
            cases b5
            · go_wp2_with fail
              go_meet
              exact S2.out
            · obtain ⟨m, fl, hpm, hm6, hfs, hfl, hfm, hrs⟩ := HCP.out rfl
              subst hpm; subst hfs
              have Hrs := Lib.hid hrs; have Hfm := Lib.hid hfm
              clear hrs hfm HCP
              obtain ⟨B, hB⟩ : ∃ B, B = wc.heap.size := ⟨_, rfl⟩
              obtain ⟨V, hV⟩ : ∃ W, W = wc.alloc (.cells #[] 3) := ⟨_, rfl⟩
              have HE : Hid (Own 3 V B (some ⟨B, 0, none⟩) 0 0 []) := Lib.hid (by rw [hV, hB]; exact Own.empty 3 wc wc.heap.size (Nat.le_refl _))
              have HVb : Hid (Below B wc V) := Lib.hid (by rw [hV, hB]; exact (by repeat (first | exact Below.refl _ _ | assumption | refine Below.setCell ?_ (by first | omega | (simp; done) | (simp; omega)) _ | refine Below.alloc ?_ (by first | omega | (simp; done) | (simp; omega)) _ | apply Below.drew)))
              have HBe := Lib.hid hB; have HVe := Lib.hid hV
              clear hB hV
              go_wp2_with fail
              rw [← HVe.out, ← HBe.out]
              go_loopw [36, 37] (fun o i wr => ∃ (k cc : Nat) (ad5 : Option Addr), k ≤ n10 ∧ i = .int .i64 k ∧ o = .slice ad5 k cc ∧ Own 3 wr B ad5 k cc (up ((fl.take k).map fun t => 2 ^ m - 1 - t)) ∧ Below B wc wr) (fun _ i _ => n10 - (intOf i).toNat)
              case atStart => exact ⟨0, 0, _, Nat.zero_le _, rfl, rfl, HE.out, HVb.out⟩
              case round =>
                obtain ⟨wo, rfl⟩ : ∃ x : World, x = wr := ⟨_, rfl⟩
                obtain ⟨k, cc, ad5, hk, rfl, rfl, hown, hbel⟩ := hrel
                have HO := Lib.hid hown; have HBl := Lib.hid hbel
                have hbw : Below wc.heap.size wc wo := by rw [← HBe.out]; exact hbel
                have SR := Lib.hid (S2.out.keep hbw)
                have hzB : B ≤ wo.heap.size := by rw [HBe.out]; exact hbw.size
                have hl : fl.length = n10 := by have := SR.out.i10.len; rwa [up_len] at this
                clear hown hbel hbw HE HVb
                obtain ⟨f0, f1, _, _, _⟩ := SR.out.x10
                by_cases hlt : k < n10
                · obtain ⟨bf, of, rfl, hcf⟩ := SR.out.i10.cells (by omega)
                  have hck := hcf k hlt
                  rw [nth_up] at hck
                  obtain ⟨x, hx⟩ : ∃ x, x = nthN fl k := ⟨_, rfl⟩
                  have hxm : x < 2 ^ m := by rw [hx]; exact Hfm.out _ (nthN_mem (by omega))
                  rw [← hx] at hck
                  obtain ⟨y, hy⟩ : ∃ y, y = 2 ^ m - 1 - x := ⟨_, rfl⟩
                  have Htk : Hid (up ((fl.take k).map fun t => 2 ^ m - 1 - t) ++ [(y : Int)] = up ((fl.take (k + 1)).map fun t => 2 ^ m - 1 - t)) := Lib.hid (by rw [nthN_take fl k (by omega), List.map_append, up_append, ← hx, hy]; rfl)
                  have HC : Hid (∀ W, Calls Tryz.prog 33 #[.int .i64 m, .int .i64 x] W fun e w' => e = .returned (.int .i64 (y : Int)) ∧ W = w') := Lib.hid fun W => by rw [hy]; exact compl_any m x W hm6 hxm
                  obtain ⟨L, hL⟩ : ∃ L, L = up ((fl.take k).map fun t => 2 ^ m - 1 - t) := ⟨_, rfl⟩
                  rw [← hL] at HO Htk
                  have hk0 : (0 : Int) ≤ k := by omega
                  have hkn : (k : Int) < n10 := by omega
                  have HOb : Hid (Own 3 (wo.drew.alloc (.cells #[.int .i64 (y : Int)] 3)) B ad5 k cc L) := Lib.hid (Own.alloc (Own.drew HO.out) _)
                  have HXb := Lib.hid (IntsAt.one wo.drew (y : Int) 3)
                  have Hzb : Hid (B ≤ (wo.drew.alloc (.cells #[.int .i64 (y : Int)] 3)).heap.size) := Lib.hid (by simp; omega)
                  have Hkb : Hid (k + 1 < 1099511627776) := Lib.hid (by omega)
                  obtain ⟨a0, a1', _, _, _⟩ := SR.out.x1
                  clear hx hy hL hcf hxm hfl hl
                  go_wp2_with fail
                  go_region_law (first
                    | (go_simp; go_at_call 33; (with_reducible refine (HC.out _).mono ?_); rintro e w5 ⟨rfl, rfl⟩)
                    | (refine step_ap_at rfl _ _ rfl B _ _ _ _ rfl HOb.out _ _ _ _ rfl HXb.out (Fit.one _) Hkb.out Hzb.out ?_; intro ad6 d6 w6 hown6 hb6 hg6 hat6; have HO6 := Lib.hid hown6; have HB6 := Lib.hid hb6; clear hown6 hb6 hg6 hat6))
                  all_goals (
                    have hkb := Hkb.out
                    go_wp2_with fail
                    go_roundw
                    case rel => exact ⟨k + 1, d6, ad6, by omega, by go_num, rfl, by rw [← Htk.out]; exact HO6.out, (HBl.out.drew.alloc hzB _).trans HB6.out⟩
                    case measure => simp [intOf]; omega)
                · obtain rfl : n10 = k := by omega
                  have hII : ¬ ((n10 : Int) < n10) := by omega
                  have HOS : Hid (∀ W, Below wo.heap.size wo W → Calls Tryz.prog 34 #[.slice ad5 n10 cc] W (RetInts W rs)) := Lib.hid fun W hW => by
                    have h64 := pow_le64 hm6
                    rw [Hrs.out]
                    have e := orderSets_any ad5 n10 cc ((fl.take n10).map fun t => 2 ^ m - 1 - t) W (HO.out.reads.keep hW) (fun s hs => by obtain ⟨t, _, rfl⟩ := List.mem_map.1 hs; omega)
                    rwa [List.take_of_length_le (by omega)] at e
                  clear Hrs hl hfl
                  go_upto_region 31 with fail
                  go_cut [251] (fun v W => v = .bool false ∧ St w m xs q ys P zs P2 zs2 r us R vs Q (up fl) u ts H hs2 KK ks G1 a1 n1 c1 G2 a2 n2 c2 G3 a3 n3 c3 G4 a4 n4 c4 G5 a5 n5 c5 G6 a6 n6 c6 G7 a7 n7 c7 G8 a8 n8 c8 G9 a9 n9 c9 G10 a10 n10 c10 G11 a11 n11 c11 G12 a12 n12 c12 G13 a13 n13 c13 G14 a14 n14 c14 G15 a15 n15 c15 G16 a16 n16 c16 W)
                  case first =>
                    as_aux_lemma =>
                      obtain ⟨a0, a1', _, _, _⟩ := SR.out.x1
                      have SW := Lib.hid (SR.out.keep (W' := wo.drew) (Below.refl _ _).drew)
                      have BW : Hid (Below wo.heap.size wo wo.drew) := Lib.hid (Below.refl _ _).drew
                      clear SR
                      go_region_held3 (fun W => W.cell? ⟨G1, 0, none⟩ = some (.int .i64 m) ∧ W.cell? ⟨G1, 1, none⟩ = some (.slice a1 n1 c1)) (first | exact ⟨a0, a1'⟩ | exact ⟨SW.out.x1.c0, SW.out.x1.c1⟩ | go_keep) (first
                        | (go_simp; go_at_call 34; (with_reducible refine (HOS.out _ BW.out).mono ?_); rintro e w6 ⟨aA, nA, cA, rfl, ownA, hb6⟩; have SW := Lib.hid (SW.out.keep hb6); have HA := Lib.hid ownA.reads; have BW := Lib.hid (BW.out.trans (hb6.mono BW.out.size)); clear ownA; clear hb6)
                        | (go_simp; go_at_call 27; (with_reducible refine (HPi.out _ a1 n1 c1 SW.out.i1 F1).mono ?_); rintro e w6 ⟨aB, nB, cB, rfl, ownB, hb6⟩; have SW := Lib.hid (SW.out.keep hb6); have HA := Lib.hid (HA.out.keep hb6); have HB := Lib.hid ownB.reads; clear ownB; clear hb6)
                        | (go_simp; go_at_call 26; (with_reducible refine (sameInts_yes aA aB nA nB cA cB rs rs _ HA.out HB.out rfl).mono ?_); rintro e w6 ⟨rfl, hb6⟩; have SW := Lib.hid (SW.out.keep hb6); clear hb6))
                      all_goals (go_wp2_with fail; go_meet)
                      all_goals exact ⟨rfl, SW.out⟩
                  case rest =>
                    obtain ⟨rfl, hst⟩ := hcut
                    go_wp2_with fail
                    go_meet
                    exact hst
        case rest =>
          have S3 := Lib.hid hcut
          clear hcut S2 HCP
          go_wp2_with fail
          go_loopw [38] (fun i wr => ∃ k : Nat, k ≤ 64 ∧ i = .int .i64 k ∧ St w p xs q ys P zs P2 zs2 r us R vs Q fs u ts H hs2 KK ks G1 a1 n1 c1 G2 a2 n2 c2 G3 a3 n3 c3 G4 a4 n4 c4 G5 a5 n5 c5 G6 a6 n6 c6 G7 a7 n7 c7 G8 a8 n8 c8 G9 a9 n9 c9 G10 a10 n10 c10 G11 a11 n11 c11 G12 a12 n12 c12 G13 a13 n13 c13 G14 a14 n14 c14 G15 a15 n15 c15 G16 a16 n16 c16 wr) (fun i _ => 64 - (intOf i).toNat)
          case atStart => exact ⟨0, by omega, rfl, S3.out⟩
          case round =>
            obtain ⟨k, hk, rfl, hst⟩ := hrel
            have SR := Lib.hid hst
            clear hst S3
            by_cases hlt : k < 64
            · have hki : (k : Int) < 64 := by omega
              go_upto_region 36 with fail
              go_cut [284] (fun v W => v = .bool false ∧ St w p xs q ys P zs P2 zs2 r us R vs Q fs u ts H hs2 KK ks G1 a1 n1 c1 G2 a2 n2 c2 G3 a3 n3 c3 G4 a4 n4 c4 G5 a5 n5 c5 G6 a6 n6 c6 G7 a7 n7 c7 G8 a8 n8 c8 G9 a9 n9 c9 G10 a10 n10 c10 G11 a11 n11 c11 G12 a12 n12 c12 G13 a13 n13 c13 G14 a14 n14 c14 G15 a15 n15 c15 G16 a16 n16 c16 W)
              case first =>
                as_aux_lemma =>
                  cases b
                  · go_quiet (fail)
                    go_wp2_with fail
                    go_meet
                    exact ⟨rfl, SR.out.keep (below_drewN (Below.refl _ _) _)⟩
                  · obtain ⟨hs1, hs2⟩ := HSM.out rfl k hlt
                    obtain ⟨x, hx⟩ : ∃ x, x = inId p xs k := ⟨_, rfl⟩
                    obtain ⟨y, hy⟩ : ∃ y, y = inId q ys k := ⟨_, rfl⟩
                    rw [← hx, ← hy] at hs1 hs2
                    have H3 : Hid (∀ W, IntsAt W a3 n3 zs → Calls Tryz.prog 35 #[.agg #[.int .i64 P, .slice a3 n3 c3], .int .i64 k] W fun e w' => e = .returned (.bool (x || y)) ∧ Below W.heap.size W w') := Lib.hid fun W hW => by rw [← hs1]; exact inIdl P zs k W a3 n3 c3 hW D3
                    have H5 : Hid (∀ W, IntsAt W a5 n5 zs2 → Calls Tryz.prog 35 #[.agg #[.int .i64 P2, .slice a5 n5 c5], .int .i64 k] W fun e w' => e = .returned (.bool (x && y)) ∧ Below W.heap.size W w') := Lib.hid fun W hW => by rw [← hs2]; exact inIdl P2 zs2 k W a5 n5 c5 hW D5
                    have H1 : Hid (∀ W, IntsAt W a1 n1 xs → Calls Tryz.prog 35 #[.agg #[.int .i64 p, .slice a1 n1 c1], .int .i64 k] W fun e w' => e = .returned (.bool x) ∧ Below W.heap.size W w') := Lib.hid fun W hW => by rw [hx]; exact inIdl p xs k W a1 n1 c1 hW D1
                    have H2 : Hid (∀ W, IntsAt W a2 n2 ys → Calls Tryz.prog 35 #[.agg #[.int .i64 q, .slice a2 n2 c2], .int .i64 k] W fun e w' => e = .returned (.bool y) ∧ Below W.heap.size W w') := Lib.hid fun W hW => by rw [hy]; exact inIdl q ys k W a2 n2 c2 hW D2
                    have hyy : (y != y) = false := by cases y <;> rfl
                    have hcells : wr.cell? ⟨G1, 0, none⟩ = some (.int .i64 p) ∧ wr.cell? ⟨G1, 1, none⟩ = some (.slice a1 n1 c1) ∧ wr.cell? ⟨G2, 0, none⟩ = some (.int .i64 q) ∧ wr.cell? ⟨G2, 1, none⟩ = some (.slice a2 n2 c2) ∧ wr.cell? ⟨G3, 0, none⟩ = some (.int .i64 P) ∧ wr.cell? ⟨G3, 1, none⟩ = some (.slice a3 n3 c3) ∧ wr.cell? ⟨G5, 0, none⟩ = some (.int .i64 P2) ∧ wr.cell? ⟨G5, 1, none⟩ = some (.slice a5 n5 c5) := ⟨SR.out.x1.c0, SR.out.x1.c1, SR.out.x2.c0, SR.out.x2.c1, SR.out.x3.c0, SR.out.x3.c1, SR.out.x5.c0, SR.out.x5.c1⟩
                    have SW := Lib.hid (SR.out.keep (W' := wr.drew) (Below.refl _ _).drew)
                    clear hs1 hs2 hx hy SR HSM
                    cases x
                    · simp only [Bool.false_or, Bool.false_and] at H3 H5
                      refine wp_region_held_drew (S := fun W => W.cell? ⟨G1, 0, none⟩ = some (.int .i64 p) ∧ W.cell? ⟨G1, 1, none⟩ = some (.slice a1 n1 c1) ∧ W.cell? ⟨G2, 0, none⟩ = some (.int .i64 q) ∧ W.cell? ⟨G2, 1, none⟩ = some (.slice a2 n2 c2) ∧ W.cell? ⟨G3, 0, none⟩ = some (.int .i64 P) ∧ W.cell? ⟨G3, 1, none⟩ = some (.slice a3 n3 c3) ∧ W.cell? ⟨G5, 0, none⟩ = some (.int .i64 P2) ∧ W.cell? ⟨G5, 1, none⟩ = some (.slice a5 n5 c5)) (by kernel_rfl) hcells (fun hHeld => ?_)
                      refine wpAnyH_take (i := 0) (oi := { dst := some 256, op := Op.move (Operand.tmp 6), type := 4, pos := "laws.go:1202", after := #[], guard := none }) (v := ?_) rfl (by kernel_rfl) (by kernel_rfl) (by kernel_rfl) (fun _ _ _ h => h) (Or.inl ⟨by rfl, ?_⟩) (by assumption) ?_
                      rotate_left
                      · intro w hSw
                        try dsimp only at hSw
                        go_simp
                        try (with_reducible rfl)
                      try simp only [Act.put, List.setIfInBounds_toArray, List.set_cons_zero, List.set_cons_succ]
                      refine wpAnyH_take (i := 1) (oi := { dst := some 257, op := Op.move (Operand.tmp 256), type := 4, pos := "laws.go:1202", after := #[{ on := 0, ground := Ground.data }], guard := none }) (v := ?_) rfl (by kernel_rfl) (by kernel_rfl) (by kernel_rfl) (fun _ _ _ h => h) (Or.inl ⟨by rfl, ?_⟩) (by assumption) ?_
                      rotate_left
                      · intro w hSw
                        try dsimp only at hSw
                        go_simp
                        try (with_reducible rfl)
                      try simp only [Act.put, List.setIfInBounds_toArray, List.set_cons_zero, List.set_cons_succ]
                      refine wpAnyH_take (i := 2) (oi := { dst := some 258, op := Op.load 26 (Operand.tmp 5), type := 26, pos := "laws.go:1202", after := #[{ on := 1, ground := Ground.guard }], guard := some (1, true) }) (v := ?_) rfl (by kernel_rfl) (by kernel_rfl) (by kernel_rfl) (fun _ _ _ h => h) (Or.inl ⟨by rfl, ?_⟩) (by assumption) ?_
                      rotate_left
                      · intro w hSw
                        try dsimp only at hSw
                        go_simp
                        try (with_reducible rfl)
                      try simp only [Act.put, List.setIfInBounds_toArray, List.set_cons_zero, List.set_cons_succ]
                      refine wpAnyH_take (i := 3) (oi := { dst := some 259, op := Op.move (Operand.tmp 38), type := 3, pos := "laws.go:1202", after := #[{ on := 1, ground := Ground.guard }], guard := some (1, true) }) (v := ?_) rfl (by kernel_rfl) (by kernel_rfl) (by kernel_rfl) (fun _ _ _ h => h) (Or.inl ⟨by rfl, ?_⟩) (by assumption) ?_
                      rotate_left
                      · intro w hSw
                        try dsimp only at hSw
                        go_simp
                        try (with_reducible rfl)
                      try simp only [Act.put, List.setIfInBounds_toArray, List.set_cons_zero, List.set_cons_succ]
                      refine wpAnyH_take (i := 5) (oi := { dst := some 261, op := Op.load 26 (Operand.tmp 3), type := 26, pos := "laws.go:1202", after := #[{ on := 1, ground := Ground.guard }], guard := some (1, true) }) (v := ?_) rfl (by kernel_rfl) (by kernel_rfl) (by kernel_rfl) (fun _ _ _ h => h) (Or.inl ⟨by rfl, ?_⟩) (by assumption) ?_
                      rotate_left
                      · intro w hSw
                        try dsimp only at hSw
                        go_simp
                        try (with_reducible rfl)
                      try simp only [Act.put, List.setIfInBounds_toArray, List.set_cons_zero, List.set_cons_succ]
                      refine wpAnyH_take (i := 6) (oi := { dst := some 262, op := Op.move (Operand.tmp 38), type := 3, pos := "laws.go:1202", after := #[{ on := 1, ground := Ground.guard }], guard := some (1, true) }) (v := ?_) rfl (by kernel_rfl) (by kernel_rfl) (by kernel_rfl) (fun _ _ _ h => h) (Or.inl ⟨by rfl, ?_⟩) (by assumption) ?_
                      rotate_left
                      · intro w hSw
                        try dsimp only at hSw
                        go_simp
                        try (with_reducible rfl)
                      try simp only [Act.put, List.setIfInBounds_toArray, List.set_cons_zero, List.set_cons_succ]
                      refine wpAnyH_ready (rs := [4]) (by kernel_rfl) (by simp) ?_
                      refine AllReadyH.cons (o := { dst := some 260, op := Op.call { callee := Callee.value (Operand.func 35), args := #[Operand.tmp 258, Operand.tmp 259], argTypes := #[26, 3] }, type := 4, pos := "laws.go:1202", after := #[{ on := 2, ground := Ground.data }, { on := 3, ground := Ground.data }, { on := 1, ground := Ground.chain }, { on := 1, ground := Ground.guard }], guard := some (1, true) }) rfl (fun K hK => ?_) ?_
                      · go_simp
                        go_simp; go_at_call 35; (with_reducible refine (H3.out _ SW.out.i3).mono ?_); rintro e w6 ⟨rfl, hb6⟩; have SW := Lib.hid (SW.out.keep hb6); clear hb6
                        try (go_wp2_with fail)
                        refine hK.out _ _ ?_ (fun hHeld => ?_)
                        · exact ⟨SW.out.x1.c0, SW.out.x1.c1, SW.out.x2.c0, SW.out.x2.c1, SW.out.x3.c0, SW.out.x3.c1, SW.out.x5.c0, SW.out.x5.c1⟩
                        clear hK K
                        try simp only [Act.put, List.setIfInBounds_toArray, List.set_cons_zero, List.set_cons_succ]
                        refine wpAnyH_ready (rs := [7]) (by kernel_rfl) (by simp) ?_
                        refine AllReadyH.cons (o := { dst := some 263, op := Op.call { callee := Callee.value (Operand.func 35), args := #[Operand.tmp 261, Operand.tmp 262], argTypes := #[26, 3] }, type := 4, pos := "laws.go:1202", after := #[{ on := 5, ground := Ground.data }, { on := 6, ground := Ground.data }, { on := 4, ground := Ground.chain }, { on := 1, ground := Ground.guard }], guard := some (1, true) }) rfl (fun K hK => ?_) ?_
                        · go_simp
                          go_simp; go_at_call 35; (with_reducible refine (H1.out _ SW.out.i1).mono ?_); rintro e w6 ⟨rfl, hb6⟩; have SW := Lib.hid (SW.out.keep hb6); clear hb6
                          try (go_wp2_with fail)
                          refine hK.out _ _ ?_ (fun hHeld => ?_)
                          · exact ⟨SW.out.x1.c0, SW.out.x1.c1, SW.out.x2.c0, SW.out.x2.c1, SW.out.x3.c0, SW.out.x3.c1, SW.out.x5.c0, SW.out.x5.c1⟩
                          clear hK K
                          try simp only [Act.put, List.setIfInBounds_toArray, List.set_cons_zero, List.set_cons_succ]
                          refine wpAnyH_take (i := 8) (oi := { dst := some 264, op := Op.move (Operand.tmp 263), type := 4, pos := "laws.go:1202", after := #[{ on := 7, ground := Ground.data }, { on := 7, ground := Ground.chain }, { on := 1, ground := Ground.guard }], guard := some (1, true) }) (v := ?_) rfl (by kernel_rfl) (by kernel_rfl) (by kernel_rfl) (fun _ _ _ h => h) (Or.inl ⟨by rfl, ?_⟩) (by assumption) ?_
                          rotate_left
                          · intro w hSw
                            try dsimp only at hSw
                            go_simp
                            try (with_reducible rfl)
                          try simp only [Act.put, List.setIfInBounds_toArray, List.set_cons_zero, List.set_cons_succ]
                          refine wpAnyH_take (i := 9) (oi := { dst := some 265, op := Op.load 26 (Operand.tmp 4), type := 26, pos := "laws.go:1202", after := #[{ on := 8, ground := Ground.guard }], guard := some (8, false) }) (v := ?_) rfl (by kernel_rfl) (by kernel_rfl) (by kernel_rfl) (fun _ _ _ h => h) (Or.inl ⟨by rfl, ?_⟩) (by assumption) ?_
                          rotate_left
                          · intro w hSw
                            try dsimp only at hSw
                            go_simp
                            try (with_reducible rfl)
                          try simp only [Act.put, List.setIfInBounds_toArray, List.set_cons_zero, List.set_cons_succ]
                          refine wpAnyH_take (i := 10) (oi := { dst := some 266, op := Op.move (Operand.tmp 38), type := 3, pos := "laws.go:1202", after := #[{ on := 8, ground := Ground.guard }], guard := some (8, false) }) (v := ?_) rfl (by kernel_rfl) (by kernel_rfl) (by kernel_rfl) (fun _ _ _ h => h) (Or.inl ⟨by rfl, ?_⟩) (by assumption) ?_
                          rotate_left
                          · intro w hSw
                            try dsimp only at hSw
                            go_simp
                            try (with_reducible rfl)
                          try simp only [Act.put, List.setIfInBounds_toArray, List.set_cons_zero, List.set_cons_succ]
                          refine wpAnyH_ready (rs := [11]) (by kernel_rfl) (by simp) ?_
                          refine AllReadyH.cons (o := { dst := some 267, op := Op.call { callee := Callee.value (Operand.func 35), args := #[Operand.tmp 265, Operand.tmp 266], argTypes := #[26, 3] }, type := 4, pos := "laws.go:1202", after := #[{ on := 9, ground := Ground.data }, { on := 10, ground := Ground.data }, { on := 8, ground := Ground.chain }, { on := 8, ground := Ground.guard }], guard := some (8, false) }) rfl (fun K hK => ?_) ?_
                          · go_simp
                            go_simp; go_at_call 35; (with_reducible refine (H2.out _ SW.out.i2).mono ?_); rintro e w6 ⟨rfl, hb6⟩; have SW := Lib.hid (SW.out.keep hb6); clear hb6
                            try (go_wp2_with fail)
                            refine hK.out _ _ ?_ (fun hHeld => ?_)
                            · exact ⟨SW.out.x1.c0, SW.out.x1.c1, SW.out.x2.c0, SW.out.x2.c1, SW.out.x3.c0, SW.out.x3.c1, SW.out.x5.c0, SW.out.x5.c1⟩
                            clear hK K
                            try simp only [Act.put, List.setIfInBounds_toArray, List.set_cons_zero, List.set_cons_succ]
                            refine wpAnyH_take (i := 12) (oi := { dst := some 268, op := Op.pick (Operand.tmp 264) (Operand.const (Value.bool true)) (Operand.tmp 267), type := 4, pos := "laws.go:1202", after := #[{ on := 8, ground := Ground.data }, { on := 11, ground := Ground.data }, { on := 1, ground := Ground.guard }], guard := some (1, true) }) (v := ?_) rfl (by kernel_rfl) (by kernel_rfl) (by kernel_rfl) (fun _ _ _ h => h) (Or.inl ⟨by rfl, ?_⟩) (by assumption) ?_
                            rotate_left
                            · intro w hSw
                              try dsimp only at hSw
                              go_simp
                              try (with_reducible rfl)
                            try simp only [Act.put, List.setIfInBounds_toArray, List.set_cons_zero, List.set_cons_succ]
                            refine wpAnyH_take (i := 13) (oi := { dst := some 269, op := Op.binOp BinOp.neq 4 (Operand.tmp 260) (Operand.tmp 268) 4, type := 4, pos := "laws.go:1202", after := #[{ on := 4, ground := Ground.data }, { on := 12, ground := Ground.data }, { on := 1, ground := Ground.guard }], guard := some (1, true) }) (v := ?_) rfl (by kernel_rfl) (by kernel_rfl) (by kernel_rfl) (fun _ _ _ h => h) (Or.inl ⟨by rfl, ?_⟩) (by assumption) ?_
                            rotate_left
                            · intro w hSw
                              try dsimp only at hSw
                              go_simp
                              try (with_reducible rfl)
                            try simp only [Act.put, List.setIfInBounds_toArray, List.set_cons_zero, List.set_cons_succ]
                            refine wpAnyH_take (i := 14) (oi := { dst := some 270, op := Op.move (Operand.tmp 269), type := 4, pos := "laws.go:1202", after := #[{ on := 13, ground := Ground.data }, { on := 11, ground := Ground.chain }, { on := 1, ground := Ground.guard }], guard := some (1, true) }) (v := ?_) rfl (by kernel_rfl) (by kernel_rfl) (by kernel_rfl) (fun _ _ _ h => h) (Or.inl ⟨by rfl, ?_⟩) (by assumption) ?_
                            rotate_left
                            · intro w hSw
                              try dsimp only at hSw
                              go_simp
                              try (with_reducible rfl)
                            try simp only [Act.put, List.setIfInBounds_toArray, List.set_cons_zero, List.set_cons_succ]
                            refine wpAnyH_take (i := 15) (oi := { dst := some 271, op := Op.load 26 (Operand.tmp 9), type := 26, pos := "laws.go:1202", after := #[{ on := 14, ground := Ground.guard }], guard := some (14, false) }) (v := ?_) rfl (by kernel_rfl) (by kernel_rfl) (by kernel_rfl) (fun _ _ _ h => h) (Or.inl ⟨by rfl, ?_⟩) (by assumption) ?_
                            rotate_left
                            · intro w hSw
                              try dsimp only at hSw
                              go_simp
                              try (with_reducible rfl)
                            try simp only [Act.put, List.setIfInBounds_toArray, List.set_cons_zero, List.set_cons_succ]
                            refine wpAnyH_take (i := 16) (oi := { dst := some 272, op := Op.move (Operand.tmp 38), type := 3, pos := "laws.go:1202", after := #[{ on := 14, ground := Ground.guard }], guard := some (14, false) }) (v := ?_) rfl (by kernel_rfl) (by kernel_rfl) (by kernel_rfl) (fun _ _ _ h => h) (Or.inl ⟨by rfl, ?_⟩) (by assumption) ?_
                            rotate_left
                            · intro w hSw
                              try dsimp only at hSw
                              go_simp
                              try (with_reducible rfl)
                            try simp only [Act.put, List.setIfInBounds_toArray, List.set_cons_zero, List.set_cons_succ]
                            refine wpAnyH_take (i := 18) (oi := { dst := some 274, op := Op.load 26 (Operand.tmp 3), type := 26, pos := "laws.go:1202", after := #[{ on := 14, ground := Ground.guard }], guard := some (14, false) }) (v := ?_) rfl (by kernel_rfl) (by kernel_rfl) (by kernel_rfl) (fun _ _ _ h => h) (Or.inl ⟨by rfl, ?_⟩) (by assumption) ?_
                            rotate_left
                            · intro w hSw
                              try dsimp only at hSw
                              go_simp
                              try (with_reducible rfl)
                            try simp only [Act.put, List.setIfInBounds_toArray, List.set_cons_zero, List.set_cons_succ]
                            refine wpAnyH_take (i := 19) (oi := { dst := some 275, op := Op.move (Operand.tmp 38), type := 3, pos := "laws.go:1202", after := #[{ on := 14, ground := Ground.guard }], guard := some (14, false) }) (v := ?_) rfl (by kernel_rfl) (by kernel_rfl) (by kernel_rfl) (fun _ _ _ h => h) (Or.inl ⟨by rfl, ?_⟩) (by assumption) ?_
                            rotate_left
                            · intro w hSw
                              try dsimp only at hSw
                              go_simp
                              try (with_reducible rfl)
                            try simp only [Act.put, List.setIfInBounds_toArray, List.set_cons_zero, List.set_cons_succ]
                            refine wpAnyH_ready (rs := [17]) (by kernel_rfl) (by simp) ?_
                            refine AllReadyH.cons (o := { dst := some 273, op := Op.call { callee := Callee.value (Operand.func 35), args := #[Operand.tmp 271, Operand.tmp 272], argTypes := #[26, 3] }, type := 4, pos := "laws.go:1202", after := #[{ on := 15, ground := Ground.data }, { on := 16, ground := Ground.data }, { on := 14, ground := Ground.chain }, { on := 14, ground := Ground.guard }], guard := some (14, false) }) rfl (fun K hK => ?_) ?_
                            · go_simp
                              go_simp; go_at_call 35; (with_reducible refine (H5.out _ SW.out.i5).mono ?_); rintro e w6 ⟨rfl, hb6⟩; have SW := Lib.hid (SW.out.keep hb6); clear hb6
                              try (go_wp2_with fail)
                              refine hK.out _ _ ?_ (fun hHeld => ?_)
                              · exact ⟨SW.out.x1.c0, SW.out.x1.c1, SW.out.x2.c0, SW.out.x2.c1, SW.out.x3.c0, SW.out.x3.c1, SW.out.x5.c0, SW.out.x5.c1⟩
                              clear hK K
                              try simp only [Act.put, List.setIfInBounds_toArray, List.set_cons_zero, List.set_cons_succ]
                              refine wpAnyH_ready (rs := [20]) (by kernel_rfl) (by simp) ?_
                              refine AllReadyH.cons (o := { dst := some 276, op := Op.call { callee := Callee.value (Operand.func 35), args := #[Operand.tmp 274, Operand.tmp 275], argTypes := #[26, 3] }, type := 4, pos := "laws.go:1202", after := #[{ on := 18, ground := Ground.data }, { on := 19, ground := Ground.data }, { on := 17, ground := Ground.chain }, { on := 14, ground := Ground.guard }], guard := some (14, false) }) rfl (fun K hK => ?_) ?_
                              · go_simp
                                go_simp; go_at_call 35; (with_reducible refine (H1.out _ SW.out.i1).mono ?_); rintro e w6 ⟨rfl, hb6⟩; have SW := Lib.hid (SW.out.keep hb6); clear hb6
                                try (go_wp2_with fail)
                                refine hK.out _ _ ?_ (fun hHeld => ?_)
                                · exact ⟨SW.out.x1.c0, SW.out.x1.c1, SW.out.x2.c0, SW.out.x2.c1, SW.out.x3.c0, SW.out.x3.c1, SW.out.x5.c0, SW.out.x5.c1⟩
                                clear hK K
                                try simp only [Act.put, List.setIfInBounds_toArray, List.set_cons_zero, List.set_cons_succ]
                                refine wpAnyH_take (i := 21) (oi := { dst := some 277, op := Op.move (Operand.tmp 276), type := 4, pos := "laws.go:1202", after := #[{ on := 20, ground := Ground.data }, { on := 20, ground := Ground.chain }, { on := 14, ground := Ground.guard }], guard := some (14, false) }) (v := ?_) rfl (by kernel_rfl) (by kernel_rfl) (by kernel_rfl) (fun _ _ _ h => h) (Or.inl ⟨by rfl, ?_⟩) (by assumption) ?_
                                rotate_left
                                · intro w hSw
                                  try dsimp only at hSw
                                  go_simp
                                  try (with_reducible rfl)
                                try simp only [Act.put, List.setIfInBounds_toArray, List.set_cons_zero, List.set_cons_succ]
                                refine wpAnyH_take (i := 22) (oi := { dst := some 278, op := Op.load 26 (Operand.tmp 4), type := 26, pos := "laws.go:1202", after := #[{ on := 21, ground := Ground.guard }], guard := some (21, true) }) (v := undef) rfl (by kernel_rfl) (by kernel_rfl) (by kernel_rfl) (fun _ _ _ h => h) (Or.inr ⟨by rfl, rfl⟩) (by assumption) ?_
                                try simp only [Act.put, List.setIfInBounds_toArray, List.set_cons_zero, List.set_cons_succ]
                                refine wpAnyH_take (i := 23) (oi := { dst := some 279, op := Op.move (Operand.tmp 38), type := 3, pos := "laws.go:1202", after := #[{ on := 21, ground := Ground.guard }], guard := some (21, true) }) (v := undef) rfl (by kernel_rfl) (by kernel_rfl) (by kernel_rfl) (fun _ _ _ h => h) (Or.inr ⟨by rfl, rfl⟩) (by assumption) ?_
                                try simp only [Act.put, List.setIfInBounds_toArray, List.set_cons_zero, List.set_cons_succ]
                                refine wpAnyH_take (i := 24) (oi := { dst := some 280, op := Op.call { callee := Callee.value (Operand.func 35), args := #[Operand.tmp 278, Operand.tmp 279], argTypes := #[26, 3] }, type := 4, pos := "laws.go:1202", after := #[{ on := 22, ground := Ground.data }, { on := 23, ground := Ground.data }, { on := 21, ground := Ground.chain }, { on := 21, ground := Ground.guard }], guard := some (21, true) }) (v := undef) rfl (by kernel_rfl) (by kernel_rfl) (by kernel_rfl) (fun _ _ _ h => h) (Or.inr ⟨by rfl, rfl⟩) (by assumption) ?_
                                try simp only [Act.put, List.setIfInBounds_toArray, List.set_cons_zero, List.set_cons_succ]
                                refine wpAnyH_take (i := 25) (oi := { dst := some 281, op := Op.pick (Operand.tmp 277) (Operand.tmp 280) (Operand.const (Value.bool false)), type := 4, pos := "laws.go:1202", after := #[{ on := 21, ground := Ground.data }, { on := 24, ground := Ground.data }, { on := 14, ground := Ground.guard }], guard := some (14, false) }) (v := ?_) rfl (by kernel_rfl) (by kernel_rfl) (by kernel_rfl) (fun _ _ _ h => h) (Or.inl ⟨by rfl, ?_⟩) (by assumption) ?_
                                rotate_left
                                · intro w hSw
                                  try dsimp only at hSw
                                  go_simp
                                  try (with_reducible rfl)
                                try simp only [Act.put, List.setIfInBounds_toArray, List.set_cons_zero, List.set_cons_succ]
                                refine wpAnyH_take (i := 26) (oi := { dst := some 282, op := Op.binOp BinOp.neq 4 (Operand.tmp 273) (Operand.tmp 281) 4, type := 4, pos := "laws.go:1202", after := #[{ on := 17, ground := Ground.data }, { on := 25, ground := Ground.data }, { on := 14, ground := Ground.guard }], guard := some (14, false) }) (v := ?_) rfl (by kernel_rfl) (by kernel_rfl) (by kernel_rfl) (fun _ _ _ h => h) (Or.inl ⟨by rfl, ?_⟩) (by assumption) ?_
                                rotate_left
                                · intro w hSw
                                  try dsimp only at hSw
                                  go_simp
                                  try (with_reducible rfl)
                                try simp only [Act.put, List.setIfInBounds_toArray, List.set_cons_zero, List.set_cons_succ]
                                refine wpAnyH_take (i := 27) (oi := { dst := some 283, op := Op.pick (Operand.tmp 270) (Operand.const (Value.bool true)) (Operand.tmp 282), type := 4, pos := "laws.go:1202", after := #[{ on := 14, ground := Ground.data }, { on := 26, ground := Ground.data }, { on := 1, ground := Ground.guard }], guard := some (1, true) }) (v := ?_) rfl (by kernel_rfl) (by kernel_rfl) (by kernel_rfl) (fun _ _ _ h => h) (Or.inl ⟨by rfl, ?_⟩) (by assumption) ?_
                                rotate_left
                                · intro w hSw
                                  try dsimp only at hSw
                                  go_simp
                                  try (with_reducible rfl)
                                try simp only [Act.put, List.setIfInBounds_toArray, List.set_cons_zero, List.set_cons_succ]
                                refine wpAnyH_take (i := 28) (oi := { dst := some 284, op := Op.pick (Operand.tmp 257) (Operand.tmp 283) (Operand.const (Value.bool false)), type := 4, pos := "laws.go:1202", after := #[{ on := 1, ground := Ground.data }, { on := 27, ground := Ground.data }], guard := none }) (v := ?_) rfl (by kernel_rfl) (by kernel_rfl) (by kernel_rfl) (fun _ _ _ h => h) (Or.inl ⟨by rfl, ?_⟩) (by assumption) ?_
                                rotate_left
                                · intro w hSw
                                  try dsimp only at hSw
                                  go_simp
                                  try (with_reducible rfl)
                                try simp only [Act.put, List.setIfInBounds_toArray, List.set_cons_zero, List.set_cons_succ]
                                refine wpAnyH_done (by kernel_rfl) ?_ _
                                go_wp2_with fail
                                go_meet
                                exact ⟨rfl, SW.out⟩
                              · exact AllReadyH.nil
                            · exact AllReadyH.nil
                          · exact AllReadyH.nil
                        · exact AllReadyH.nil
                      · exact AllReadyH.nil
                    · simp only [Bool.true_or, Bool.true_and] at H3 H5
                      refine wp_region_held_drew (S := fun W => W.cell? ⟨G1, 0, none⟩ = some (.int .i64 p) ∧ W.cell? ⟨G1, 1, none⟩ = some (.slice a1 n1 c1) ∧ W.cell? ⟨G2, 0, none⟩ = some (.int .i64 q) ∧ W.cell? ⟨G2, 1, none⟩ = some (.slice a2 n2 c2) ∧ W.cell? ⟨G3, 0, none⟩ = some (.int .i64 P) ∧ W.cell? ⟨G3, 1, none⟩ = some (.slice a3 n3 c3) ∧ W.cell? ⟨G5, 0, none⟩ = some (.int .i64 P2) ∧ W.cell? ⟨G5, 1, none⟩ = some (.slice a5 n5 c5)) (by kernel_rfl) hcells (fun hHeld => ?_)
                      refine wpAnyH_take (i := 0) (oi := { dst := some 256, op := Op.move (Operand.tmp 6), type := 4, pos := "laws.go:1202", after := #[], guard := none }) (v := ?_) rfl (by kernel_rfl) (by kernel_rfl) (by kernel_rfl) (fun _ _ _ h => h) (Or.inl ⟨by rfl, ?_⟩) (by assumption) ?_
                      rotate_left
                      · intro w hSw
                        try dsimp only at hSw
                        go_simp
                        try (with_reducible rfl)
                      try simp only [Act.put, List.setIfInBounds_toArray, List.set_cons_zero, List.set_cons_succ]
                      refine wpAnyH_take (i := 1) (oi := { dst := some 257, op := Op.move (Operand.tmp 256), type := 4, pos := "laws.go:1202", after := #[{ on := 0, ground := Ground.data }], guard := none }) (v := ?_) rfl (by kernel_rfl) (by kernel_rfl) (by kernel_rfl) (fun _ _ _ h => h) (Or.inl ⟨by rfl, ?_⟩) (by assumption) ?_
                      rotate_left
                      · intro w hSw
                        try dsimp only at hSw
                        go_simp
                        try (with_reducible rfl)
                      try simp only [Act.put, List.setIfInBounds_toArray, List.set_cons_zero, List.set_cons_succ]
                      refine wpAnyH_take (i := 2) (oi := { dst := some 258, op := Op.load 26 (Operand.tmp 5), type := 26, pos := "laws.go:1202", after := #[{ on := 1, ground := Ground.guard }], guard := some (1, true) }) (v := ?_) rfl (by kernel_rfl) (by kernel_rfl) (by kernel_rfl) (fun _ _ _ h => h) (Or.inl ⟨by rfl, ?_⟩) (by assumption) ?_
                      rotate_left
                      · intro w hSw
                        try dsimp only at hSw
                        go_simp
                        try (with_reducible rfl)
                      try simp only [Act.put, List.setIfInBounds_toArray, List.set_cons_zero, List.set_cons_succ]
                      refine wpAnyH_take (i := 3) (oi := { dst := some 259, op := Op.move (Operand.tmp 38), type := 3, pos := "laws.go:1202", after := #[{ on := 1, ground := Ground.guard }], guard := some (1, true) }) (v := ?_) rfl (by kernel_rfl) (by kernel_rfl) (by kernel_rfl) (fun _ _ _ h => h) (Or.inl ⟨by rfl, ?_⟩) (by assumption) ?_
                      rotate_left
                      · intro w hSw
                        try dsimp only at hSw
                        go_simp
                        try (with_reducible rfl)
                      try simp only [Act.put, List.setIfInBounds_toArray, List.set_cons_zero, List.set_cons_succ]
                      refine wpAnyH_take (i := 5) (oi := { dst := some 261, op := Op.load 26 (Operand.tmp 3), type := 26, pos := "laws.go:1202", after := #[{ on := 1, ground := Ground.guard }], guard := some (1, true) }) (v := ?_) rfl (by kernel_rfl) (by kernel_rfl) (by kernel_rfl) (fun _ _ _ h => h) (Or.inl ⟨by rfl, ?_⟩) (by assumption) ?_
                      rotate_left
                      · intro w hSw
                        try dsimp only at hSw
                        go_simp
                        try (with_reducible rfl)
                      try simp only [Act.put, List.setIfInBounds_toArray, List.set_cons_zero, List.set_cons_succ]
                      refine wpAnyH_take (i := 6) (oi := { dst := some 262, op := Op.move (Operand.tmp 38), type := 3, pos := "laws.go:1202", after := #[{ on := 1, ground := Ground.guard }], guard := some (1, true) }) (v := ?_) rfl (by kernel_rfl) (by kernel_rfl) (by kernel_rfl) (fun _ _ _ h => h) (Or.inl ⟨by rfl, ?_⟩) (by assumption) ?_
                      rotate_left
                      · intro w hSw
                        try dsimp only at hSw
                        go_simp
                        try (with_reducible rfl)
                      try simp only [Act.put, List.setIfInBounds_toArray, List.set_cons_zero, List.set_cons_succ]
                      refine wpAnyH_ready (rs := [4]) (by kernel_rfl) (by simp) ?_
                      refine AllReadyH.cons (o := { dst := some 260, op := Op.call { callee := Callee.value (Operand.func 35), args := #[Operand.tmp 258, Operand.tmp 259], argTypes := #[26, 3] }, type := 4, pos := "laws.go:1202", after := #[{ on := 2, ground := Ground.data }, { on := 3, ground := Ground.data }, { on := 1, ground := Ground.chain }, { on := 1, ground := Ground.guard }], guard := some (1, true) }) rfl (fun K hK => ?_) ?_
                      · go_simp
                        go_simp; go_at_call 35; (with_reducible refine (H3.out _ SW.out.i3).mono ?_); rintro e w6 ⟨rfl, hb6⟩; have SW := Lib.hid (SW.out.keep hb6); clear hb6
                        try (go_wp2_with fail)
                        refine hK.out _ _ ?_ (fun hHeld => ?_)
                        · exact ⟨SW.out.x1.c0, SW.out.x1.c1, SW.out.x2.c0, SW.out.x2.c1, SW.out.x3.c0, SW.out.x3.c1, SW.out.x5.c0, SW.out.x5.c1⟩
                        clear hK K
                        try simp only [Act.put, List.setIfInBounds_toArray, List.set_cons_zero, List.set_cons_succ]
                        refine wpAnyH_ready (rs := [7]) (by kernel_rfl) (by simp) ?_
                        refine AllReadyH.cons (o := { dst := some 263, op := Op.call { callee := Callee.value (Operand.func 35), args := #[Operand.tmp 261, Operand.tmp 262], argTypes := #[26, 3] }, type := 4, pos := "laws.go:1202", after := #[{ on := 5, ground := Ground.data }, { on := 6, ground := Ground.data }, { on := 4, ground := Ground.chain }, { on := 1, ground := Ground.guard }], guard := some (1, true) }) rfl (fun K hK => ?_) ?_
                        · go_simp
                          go_simp; go_at_call 35; (with_reducible refine (H1.out _ SW.out.i1).mono ?_); rintro e w6 ⟨rfl, hb6⟩; have SW := Lib.hid (SW.out.keep hb6); clear hb6
                          try (go_wp2_with fail)
                          refine hK.out _ _ ?_ (fun hHeld => ?_)
                          · exact ⟨SW.out.x1.c0, SW.out.x1.c1, SW.out.x2.c0, SW.out.x2.c1, SW.out.x3.c0, SW.out.x3.c1, SW.out.x5.c0, SW.out.x5.c1⟩
                          clear hK K
                          try simp only [Act.put, List.setIfInBounds_toArray, List.set_cons_zero, List.set_cons_succ]
                          refine wpAnyH_take (i := 8) (oi := { dst := some 264, op := Op.move (Operand.tmp 263), type := 4, pos := "laws.go:1202", after := #[{ on := 7, ground := Ground.data }, { on := 7, ground := Ground.chain }, { on := 1, ground := Ground.guard }], guard := some (1, true) }) (v := ?_) rfl (by kernel_rfl) (by kernel_rfl) (by kernel_rfl) (fun _ _ _ h => h) (Or.inl ⟨by rfl, ?_⟩) (by assumption) ?_
                          rotate_left
                          · intro w hSw
                            try dsimp only at hSw
                            go_simp
                            try (with_reducible rfl)
                          try simp only [Act.put, List.setIfInBounds_toArray, List.set_cons_zero, List.set_cons_succ]
                          refine wpAnyH_take (i := 9) (oi := { dst := some 265, op := Op.load 26 (Operand.tmp 4), type := 26, pos := "laws.go:1202", after := #[{ on := 8, ground := Ground.guard }], guard := some (8, false) }) (v := undef) rfl (by kernel_rfl) (by kernel_rfl) (by kernel_rfl) (fun _ _ _ h => h) (Or.inr ⟨by rfl, rfl⟩) (by assumption) ?_
                          try simp only [Act.put, List.setIfInBounds_toArray, List.set_cons_zero, List.set_cons_succ]
                          refine wpAnyH_take (i := 10) (oi := { dst := some 266, op := Op.move (Operand.tmp 38), type := 3, pos := "laws.go:1202", after := #[{ on := 8, ground := Ground.guard }], guard := some (8, false) }) (v := undef) rfl (by kernel_rfl) (by kernel_rfl) (by kernel_rfl) (fun _ _ _ h => h) (Or.inr ⟨by rfl, rfl⟩) (by assumption) ?_
                          try simp only [Act.put, List.setIfInBounds_toArray, List.set_cons_zero, List.set_cons_succ]
                          refine wpAnyH_take (i := 11) (oi := { dst := some 267, op := Op.call { callee := Callee.value (Operand.func 35), args := #[Operand.tmp 265, Operand.tmp 266], argTypes := #[26, 3] }, type := 4, pos := "laws.go:1202", after := #[{ on := 9, ground := Ground.data }, { on := 10, ground := Ground.data }, { on := 8, ground := Ground.chain }, { on := 8, ground := Ground.guard }], guard := some (8, false) }) (v := undef) rfl (by kernel_rfl) (by kernel_rfl) (by kernel_rfl) (fun _ _ _ h => h) (Or.inr ⟨by rfl, rfl⟩) (by assumption) ?_
                          try simp only [Act.put, List.setIfInBounds_toArray, List.set_cons_zero, List.set_cons_succ]
                          refine wpAnyH_take (i := 12) (oi := { dst := some 268, op := Op.pick (Operand.tmp 264) (Operand.const (Value.bool true)) (Operand.tmp 267), type := 4, pos := "laws.go:1202", after := #[{ on := 8, ground := Ground.data }, { on := 11, ground := Ground.data }, { on := 1, ground := Ground.guard }], guard := some (1, true) }) (v := ?_) rfl (by kernel_rfl) (by kernel_rfl) (by kernel_rfl) (fun _ _ _ h => h) (Or.inl ⟨by rfl, ?_⟩) (by assumption) ?_
                          rotate_left
                          · intro w hSw
                            try dsimp only at hSw
                            go_simp
                            try (with_reducible rfl)
                          try simp only [Act.put, List.setIfInBounds_toArray, List.set_cons_zero, List.set_cons_succ]
                          refine wpAnyH_take (i := 13) (oi := { dst := some 269, op := Op.binOp BinOp.neq 4 (Operand.tmp 260) (Operand.tmp 268) 4, type := 4, pos := "laws.go:1202", after := #[{ on := 4, ground := Ground.data }, { on := 12, ground := Ground.data }, { on := 1, ground := Ground.guard }], guard := some (1, true) }) (v := ?_) rfl (by kernel_rfl) (by kernel_rfl) (by kernel_rfl) (fun _ _ _ h => h) (Or.inl ⟨by rfl, ?_⟩) (by assumption) ?_
                          rotate_left
                          · intro w hSw
                            try dsimp only at hSw
                            go_simp
                            try (with_reducible rfl)
                          try simp only [Act.put, List.setIfInBounds_toArray, List.set_cons_zero, List.set_cons_succ]
                          refine wpAnyH_take (i := 14) (oi := { dst := some 270, op := Op.move (Operand.tmp 269), type := 4, pos := "laws.go:1202", after := #[{ on := 13, ground := Ground.data }, { on := 11, ground := Ground.chain }, { on := 1, ground := Ground.guard }], guard := some (1, true) }) (v := ?_) rfl (by kernel_rfl) (by kernel_rfl) (by kernel_rfl) (fun _ _ _ h => h) (Or.inl ⟨by rfl, ?_⟩) (by assumption) ?_
                          rotate_left
                          · intro w hSw
                            try dsimp only at hSw
                            go_simp
                            try (with_reducible rfl)
                          try simp only [Act.put, List.setIfInBounds_toArray, List.set_cons_zero, List.set_cons_succ]
                          refine wpAnyH_take (i := 15) (oi := { dst := some 271, op := Op.load 26 (Operand.tmp 9), type := 26, pos := "laws.go:1202", after := #[{ on := 14, ground := Ground.guard }], guard := some (14, false) }) (v := ?_) rfl (by kernel_rfl) (by kernel_rfl) (by kernel_rfl) (fun _ _ _ h => h) (Or.inl ⟨by rfl, ?_⟩) (by assumption) ?_
                          rotate_left
                          · intro w hSw
                            try dsimp only at hSw
                            go_simp
                            try (with_reducible rfl)
                          try simp only [Act.put, List.setIfInBounds_toArray, List.set_cons_zero, List.set_cons_succ]
                          refine wpAnyH_take (i := 16) (oi := { dst := some 272, op := Op.move (Operand.tmp 38), type := 3, pos := "laws.go:1202", after := #[{ on := 14, ground := Ground.guard }], guard := some (14, false) }) (v := ?_) rfl (by kernel_rfl) (by kernel_rfl) (by kernel_rfl) (fun _ _ _ h => h) (Or.inl ⟨by rfl, ?_⟩) (by assumption) ?_
                          rotate_left
                          · intro w hSw
                            try dsimp only at hSw
                            go_simp
                            try (with_reducible rfl)
                          try simp only [Act.put, List.setIfInBounds_toArray, List.set_cons_zero, List.set_cons_succ]
                          refine wpAnyH_take (i := 18) (oi := { dst := some 274, op := Op.load 26 (Operand.tmp 3), type := 26, pos := "laws.go:1202", after := #[{ on := 14, ground := Ground.guard }], guard := some (14, false) }) (v := ?_) rfl (by kernel_rfl) (by kernel_rfl) (by kernel_rfl) (fun _ _ _ h => h) (Or.inl ⟨by rfl, ?_⟩) (by assumption) ?_
                          rotate_left
                          · intro w hSw
                            try dsimp only at hSw
                            go_simp
                            try (with_reducible rfl)
                          try simp only [Act.put, List.setIfInBounds_toArray, List.set_cons_zero, List.set_cons_succ]
                          refine wpAnyH_take (i := 19) (oi := { dst := some 275, op := Op.move (Operand.tmp 38), type := 3, pos := "laws.go:1202", after := #[{ on := 14, ground := Ground.guard }], guard := some (14, false) }) (v := ?_) rfl (by kernel_rfl) (by kernel_rfl) (by kernel_rfl) (fun _ _ _ h => h) (Or.inl ⟨by rfl, ?_⟩) (by assumption) ?_
                          rotate_left
                          · intro w hSw
                            try dsimp only at hSw
                            go_simp
                            try (with_reducible rfl)
                          try simp only [Act.put, List.setIfInBounds_toArray, List.set_cons_zero, List.set_cons_succ]
                          refine wpAnyH_ready (rs := [17]) (by kernel_rfl) (by simp) ?_
                          refine AllReadyH.cons (o := { dst := some 273, op := Op.call { callee := Callee.value (Operand.func 35), args := #[Operand.tmp 271, Operand.tmp 272], argTypes := #[26, 3] }, type := 4, pos := "laws.go:1202", after := #[{ on := 15, ground := Ground.data }, { on := 16, ground := Ground.data }, { on := 14, ground := Ground.chain }, { on := 14, ground := Ground.guard }], guard := some (14, false) }) rfl (fun K hK => ?_) ?_
                          · go_simp
                            go_simp; go_at_call 35; (with_reducible refine (H5.out _ SW.out.i5).mono ?_); rintro e w6 ⟨rfl, hb6⟩; have SW := Lib.hid (SW.out.keep hb6); clear hb6
                            try (go_wp2_with fail)
                            refine hK.out _ _ ?_ (fun hHeld => ?_)
                            · exact ⟨SW.out.x1.c0, SW.out.x1.c1, SW.out.x2.c0, SW.out.x2.c1, SW.out.x3.c0, SW.out.x3.c1, SW.out.x5.c0, SW.out.x5.c1⟩
                            clear hK K
                            try simp only [Act.put, List.setIfInBounds_toArray, List.set_cons_zero, List.set_cons_succ]
                            refine wpAnyH_ready (rs := [20]) (by kernel_rfl) (by simp) ?_
                            refine AllReadyH.cons (o := { dst := some 276, op := Op.call { callee := Callee.value (Operand.func 35), args := #[Operand.tmp 274, Operand.tmp 275], argTypes := #[26, 3] }, type := 4, pos := "laws.go:1202", after := #[{ on := 18, ground := Ground.data }, { on := 19, ground := Ground.data }, { on := 17, ground := Ground.chain }, { on := 14, ground := Ground.guard }], guard := some (14, false) }) rfl (fun K hK => ?_) ?_
                            · go_simp
                              go_simp; go_at_call 35; (with_reducible refine (H1.out _ SW.out.i1).mono ?_); rintro e w6 ⟨rfl, hb6⟩; have SW := Lib.hid (SW.out.keep hb6); clear hb6
                              try (go_wp2_with fail)
                              refine hK.out _ _ ?_ (fun hHeld => ?_)
                              · exact ⟨SW.out.x1.c0, SW.out.x1.c1, SW.out.x2.c0, SW.out.x2.c1, SW.out.x3.c0, SW.out.x3.c1, SW.out.x5.c0, SW.out.x5.c1⟩
                              clear hK K
                              try simp only [Act.put, List.setIfInBounds_toArray, List.set_cons_zero, List.set_cons_succ]
                              refine wpAnyH_take (i := 21) (oi := { dst := some 277, op := Op.move (Operand.tmp 276), type := 4, pos := "laws.go:1202", after := #[{ on := 20, ground := Ground.data }, { on := 20, ground := Ground.chain }, { on := 14, ground := Ground.guard }], guard := some (14, false) }) (v := ?_) rfl (by kernel_rfl) (by kernel_rfl) (by kernel_rfl) (fun _ _ _ h => h) (Or.inl ⟨by rfl, ?_⟩) (by assumption) ?_
                              rotate_left
                              · intro w hSw
                                try dsimp only at hSw
                                go_simp
                                try (with_reducible rfl)
                              try simp only [Act.put, List.setIfInBounds_toArray, List.set_cons_zero, List.set_cons_succ]
                              refine wpAnyH_take (i := 22) (oi := { dst := some 278, op := Op.load 26 (Operand.tmp 4), type := 26, pos := "laws.go:1202", after := #[{ on := 21, ground := Ground.guard }], guard := some (21, true) }) (v := ?_) rfl (by kernel_rfl) (by kernel_rfl) (by kernel_rfl) (fun _ _ _ h => h) (Or.inl ⟨by rfl, ?_⟩) (by assumption) ?_
                              rotate_left
                              · intro w hSw
                                try dsimp only at hSw
                                go_simp
                                try (with_reducible rfl)
                              try simp only [Act.put, List.setIfInBounds_toArray, List.set_cons_zero, List.set_cons_succ]
                              refine wpAnyH_take (i := 23) (oi := { dst := some 279, op := Op.move (Operand.tmp 38), type := 3, pos := "laws.go:1202", after := #[{ on := 21, ground := Ground.guard }], guard := some (21, true) }) (v := ?_) rfl (by kernel_rfl) (by kernel_rfl) (by kernel_rfl) (fun _ _ _ h => h) (Or.inl ⟨by rfl, ?_⟩) (by assumption) ?_
                              rotate_left
                              · intro w hSw
                                try dsimp only at hSw
                                go_simp
                                try (with_reducible rfl)
                              try simp only [Act.put, List.setIfInBounds_toArray, List.set_cons_zero, List.set_cons_succ]
                              refine wpAnyH_ready (rs := [24]) (by kernel_rfl) (by simp) ?_
                              refine AllReadyH.cons (o := { dst := some 280, op := Op.call { callee := Callee.value (Operand.func 35), args := #[Operand.tmp 278, Operand.tmp 279], argTypes := #[26, 3] }, type := 4, pos := "laws.go:1202", after := #[{ on := 22, ground := Ground.data }, { on := 23, ground := Ground.data }, { on := 21, ground := Ground.chain }, { on := 21, ground := Ground.guard }], guard := some (21, true) }) rfl (fun K hK => ?_) ?_
                              · go_simp
                                go_simp; go_at_call 35; (with_reducible refine (H2.out _ SW.out.i2).mono ?_); rintro e w6 ⟨rfl, hb6⟩; have SW := Lib.hid (SW.out.keep hb6); clear hb6
                                try (go_wp2_with fail)
                                refine hK.out _ _ ?_ (fun hHeld => ?_)
                                · exact ⟨SW.out.x1.c0, SW.out.x1.c1, SW.out.x2.c0, SW.out.x2.c1, SW.out.x3.c0, SW.out.x3.c1, SW.out.x5.c0, SW.out.x5.c1⟩
                                clear hK K
                                try simp only [Act.put, List.setIfInBounds_toArray, List.set_cons_zero, List.set_cons_succ]
                                refine wpAnyH_take (i := 25) (oi := { dst := some 281, op := Op.pick (Operand.tmp 277) (Operand.tmp 280) (Operand.const (Value.bool false)), type := 4, pos := "laws.go:1202", after := #[{ on := 21, ground := Ground.data }, { on := 24, ground := Ground.data }, { on := 14, ground := Ground.guard }], guard := some (14, false) }) (v := ?_) rfl (by kernel_rfl) (by kernel_rfl) (by kernel_rfl) (fun _ _ _ h => h) (Or.inl ⟨by rfl, ?_⟩) (by assumption) ?_
                                rotate_left
                                · intro w hSw
                                  try dsimp only at hSw
                                  go_simp
                                  try (with_reducible rfl)
                                try simp only [Act.put, List.setIfInBounds_toArray, List.set_cons_zero, List.set_cons_succ]
                                refine wpAnyH_take (i := 26) (oi := { dst := some 282, op := Op.binOp BinOp.neq 4 (Operand.tmp 273) (Operand.tmp 281) 4, type := 4, pos := "laws.go:1202", after := #[{ on := 17, ground := Ground.data }, { on := 25, ground := Ground.data }, { on := 14, ground := Ground.guard }], guard := some (14, false) }) (v := ?_) rfl (by kernel_rfl) (by kernel_rfl) (by kernel_rfl) (fun _ _ _ h => h) (Or.inl ⟨by rfl, ?_⟩) (by assumption) ?_
                                rotate_left
                                · intro w hSw
                                  try dsimp only at hSw
                                  go_simp
                                  try (with_reducible rfl)
                                try simp only [Act.put, List.setIfInBounds_toArray, List.set_cons_zero, List.set_cons_succ]
                                refine wpAnyH_take (i := 27) (oi := { dst := some 283, op := Op.pick (Operand.tmp 270) (Operand.const (Value.bool true)) (Operand.tmp 282), type := 4, pos := "laws.go:1202", after := #[{ on := 14, ground := Ground.data }, { on := 26, ground := Ground.data }, { on := 1, ground := Ground.guard }], guard := some (1, true) }) (v := ?_) rfl (by kernel_rfl) (by kernel_rfl) (by kernel_rfl) (fun _ _ _ h => h) (Or.inl ⟨by rfl, ?_⟩) (by assumption) ?_
                                rotate_left
                                · intro w hSw
                                  try dsimp only at hSw
                                  go_simp
                                  try (with_reducible rfl)
                                try simp only [Act.put, List.setIfInBounds_toArray, List.set_cons_zero, List.set_cons_succ]
                                refine wpAnyH_take (i := 28) (oi := { dst := some 284, op := Op.pick (Operand.tmp 257) (Operand.tmp 283) (Operand.const (Value.bool false)), type := 4, pos := "laws.go:1202", after := #[{ on := 1, ground := Ground.data }, { on := 27, ground := Ground.data }], guard := none }) (v := ?_) rfl (by kernel_rfl) (by kernel_rfl) (by kernel_rfl) (fun _ _ _ h => h) (Or.inl ⟨by rfl, ?_⟩) (by assumption) ?_
                                rotate_left
                                · intro w hSw
                                  try dsimp only at hSw
                                  go_simp
                                  try (with_reducible rfl)
                                try simp only [Act.put, List.setIfInBounds_toArray, List.set_cons_zero, List.set_cons_succ]
                                refine wpAnyH_done (by kernel_rfl) ?_ _
                                go_wp2_with fail
                                go_meet
                                exact ⟨rfl, SW.out⟩
                              · exact AllReadyH.nil
                            · exact AllReadyH.nil
                          · exact AllReadyH.nil
                        · exact AllReadyH.nil
                      · exact AllReadyH.nil
              case rest =>
                obtain ⟨rfl, hst⟩ := hcut
                have SR2 := Lib.hid hst
                clear hst SR
                go_upto_region 38 with fail
                go_cut [302] (fun v W => v = .bool false ∧ St w p xs q ys P zs P2 zs2 r us R vs Q fs u ts H hs2 KK ks G1 a1 n1 c1 G2 a2 n2 c2 G3 a3 n3 c3 G4 a4 n4 c4 G5 a5 n5 c5 G6 a6 n6 c6 G7 a7 n7 c7 G8 a8 n8 c8 G9 a9 n9 c9 G10 a10 n10 c10 G11 a11 n11 c11 G12 a12 n12 c12 G13 a13 n13 c13 G14 a14 n14 c14 G15 a15 n15 c15 G16 a16 n16 c16 W)
                case first =>
                  as_aux_lemma =>
                    cases b7
                    · go_quiet (fail)
                      go_wp2_with fail
                      go_meet
                      exact ⟨rfl, SR2.out.keep (below_drewN (Below.refl _ _) _)⟩
                    · obtain ⟨s, rfl, hs64, hqj⟩ := HQQ.out rfl
                      obtain ⟨hI, hIe⟩ : ∃ hI, hI = isSetB u k := ⟨_, rfl⟩
                      have HIs : Hid (∀ W, Calls Tryz.prog 36 #[.int .i64 u, .int .i64 k] W fun e w' => e = .returned (.bool hI) ∧ W = w') := Lib.hid fun W => by rw [hIe]; exact sIsSet_any u k W
                      have hcells : wc.cell? ⟨G12, 0, none⟩ = some (.int .i64 u) ∧ wc.cell? ⟨G12, 1, none⟩ = some (.slice a12 n12 c12) ∧ wc.cell? ⟨G13, 0, none⟩ = some (.int .i64 H) ∧ wc.cell? ⟨G13, 1, none⟩ = some (.slice a13 n13 c13) := ⟨SR2.out.x12.c0, SR2.out.x12.c1, SR2.out.x13.c0, SR2.out.x13.c1⟩
                      have SW := Lib.hid (SR2.out.keep (W' := wc.drew) (Below.refl _ _).drew)
                      cases hI
                      · clear hqj hIe SR2 HQQ
                        refine wp_region_held_drew (S := fun W => W.cell? ⟨G12, 0, none⟩ = some (.int .i64 u) ∧ W.cell? ⟨G12, 1, none⟩ = some (.slice a12 n12 c12) ∧ W.cell? ⟨G13, 0, none⟩ = some (.int .i64 H) ∧ W.cell? ⟨G13, 1, none⟩ = some (.slice a13 n13 c13)) (by kernel_rfl) hcells (fun hHeld => ?_)
                        refine wpAnyH_take (i := 0) (oi := { dst := some 285, op := Op.move (Operand.tmp 25), type := 4, pos := "laws.go:1205", after := #[], guard := none }) (v := ?_) rfl (by kernel_rfl) (by kernel_rfl) (by kernel_rfl) (fun _ _ _ h => h) (Or.inl ⟨by rfl, ?_⟩) (by assumption) ?_
                        rotate_left
                        · intro w hSw
                          try dsimp only at hSw
                          go_simp
                          try (with_reducible rfl)
                        try simp only [Act.put, List.setIfInBounds_toArray, List.set_cons_zero, List.set_cons_succ]
                        refine wpAnyH_take (i := 1) (oi := { dst := some 286, op := Op.move (Operand.tmp 285), type := 4, pos := "laws.go:1205", after := #[{ on := 0, ground := Ground.data }], guard := none }) (v := ?_) rfl (by kernel_rfl) (by kernel_rfl) (by kernel_rfl) (fun _ _ _ h => h) (Or.inl ⟨by rfl, ?_⟩) (by assumption) ?_
                        rotate_left
                        · intro w hSw
                          try dsimp only at hSw
                          go_simp
                          try (with_reducible rfl)
                        try simp only [Act.put, List.setIfInBounds_toArray, List.set_cons_zero, List.set_cons_succ]
                        refine wpAnyH_take (i := 2) (oi := { dst := some 287, op := Op.fieldAddr 26 (Operand.tmp 22) 0, type := 0, pos := "laws.go:1205", after := #[{ on := 1, ground := Ground.guard }], guard := some (1, true) }) (v := ?_) rfl (by kernel_rfl) (by kernel_rfl) (by kernel_rfl) (fun _ _ _ h => h) (Or.inl ⟨by rfl, ?_⟩) (by assumption) ?_
                        rotate_left
                        · intro w hSw
                          try dsimp only at hSw
                          go_simp
                          try (with_reducible rfl)
                        try simp only [Act.put, List.setIfInBounds_toArray, List.set_cons_zero, List.set_cons_succ]
                        refine wpAnyH_take (i := 3) (oi := { dst := some 288, op := Op.load 3 (Operand.tmp 287), type := 3, pos := "laws.go:1205", after := #[{ on := 2, ground := Ground.data }, { on := 1, ground := Ground.guard }], guard := some (1, true) }) (v := ?_) rfl (by kernel_rfl) (by kernel_rfl) (by kernel_rfl) (fun _ _ _ h => h) (Or.inl ⟨by rfl, ?_⟩) (by assumption) ?_
                        rotate_left
                        · intro w hSw
                          try dsimp only at hSw
                          go_simp
                          try (with_reducible rfl)
                        try simp only [Act.put, List.setIfInBounds_toArray, List.set_cons_zero, List.set_cons_succ]
                        refine wpAnyH_take (i := 4) (oi := { dst := some 289, op := Op.move (Operand.tmp 38), type := 3, pos := "laws.go:1205", after := #[{ on := 1, ground := Ground.guard }], guard := some (1, true) }) (v := ?_) rfl (by kernel_rfl) (by kernel_rfl) (by kernel_rfl) (fun _ _ _ h => h) (Or.inl ⟨by rfl, ?_⟩) (by assumption) ?_
                        rotate_left
                        · intro w hSw
                          try dsimp only at hSw
                          go_simp
                          try (with_reducible rfl)
                        try simp only [Act.put, List.setIfInBounds_toArray, List.set_cons_zero, List.set_cons_succ]
                        refine wpAnyH_ready (rs := [5]) (by kernel_rfl) (by simp) ?_
                        refine AllReadyH.cons (o := { dst := some 290, op := Op.call { callee := Callee.value (Operand.func 36), args := #[Operand.tmp 288, Operand.tmp 289], argTypes := #[3, 3] }, type := 4, pos := "laws.go:1205", after := #[{ on := 3, ground := Ground.data }, { on := 4, ground := Ground.data }, { on := 1, ground := Ground.chain }, { on := 1, ground := Ground.guard }], guard := some (1, true) }) rfl (fun K hK => ?_) ?_
                        · go_simp
                          go_simp; go_at_call 36; (with_reducible refine (HIs.out _).mono ?_); rintro e w6 ⟨rfl, rfl⟩
                          try (go_wp2_with fail)
                          refine hK.out _ _ ?_ (fun hHeld => ?_)
                          · exact ⟨SW.out.x12.c0, SW.out.x12.c1, SW.out.x13.c0, SW.out.x13.c1⟩
                          clear hK K
                          try simp only [Act.put, List.setIfInBounds_toArray, List.set_cons_zero, List.set_cons_succ]
                          refine wpAnyH_take (i := 6) (oi := { dst := some 291, op := Op.pick (Operand.tmp 286) (Operand.tmp 290) (Operand.const (Value.bool false)), type := 4, pos := "laws.go:1205", after := #[{ on := 1, ground := Ground.data }, { on := 5, ground := Ground.data }], guard := none }) (v := ?_) rfl (by kernel_rfl) (by kernel_rfl) (by kernel_rfl) (fun _ _ _ h => h) (Or.inl ⟨by rfl, ?_⟩) (by assumption) ?_
                          rotate_left
                          · intro w hSw
                            try dsimp only at hSw
                            go_simp
                            try (with_reducible rfl)
                          try simp only [Act.put, List.setIfInBounds_toArray, List.set_cons_zero, List.set_cons_succ]
                          refine wpAnyH_take (i := 7) (oi := { dst := some 292, op := Op.move (Operand.tmp 291), type := 4, pos := "laws.go:1205", after := #[{ on := 6, ground := Ground.data }, { on := 5, ground := Ground.chain }], guard := none }) (v := ?_) rfl (by kernel_rfl) (by kernel_rfl) (by kernel_rfl) (fun _ _ _ h => h) (Or.inl ⟨by rfl, ?_⟩) (by assumption) ?_
                          rotate_left
                          · intro w hSw
                            try dsimp only at hSw
                            go_simp
                            try (with_reducible rfl)
                          try simp only [Act.put, List.setIfInBounds_toArray, List.set_cons_zero, List.set_cons_succ]
                          refine wpAnyH_take (i := 8) (oi := { dst := some 293, op := Op.load 26 (Operand.tmp 24), type := 26, pos := "laws.go:1205", after := #[{ on := 7, ground := Ground.guard }], guard := some (7, true) }) (v := undef) rfl (by kernel_rfl) (by kernel_rfl) (by kernel_rfl) (fun _ _ _ h => h) (Or.inr ⟨by rfl, rfl⟩) (by assumption) ?_
                          try simp only [Act.put, List.setIfInBounds_toArray, List.set_cons_zero, List.set_cons_succ]
                          refine wpAnyH_take (i := 9) (oi := { dst := some 294, op := Op.move (Operand.tmp 38), type := 3, pos := "laws.go:1205", after := #[{ on := 7, ground := Ground.guard }], guard := some (7, true) }) (v := undef) rfl (by kernel_rfl) (by kernel_rfl) (by kernel_rfl) (fun _ _ _ h => h) (Or.inr ⟨by rfl, rfl⟩) (by assumption) ?_
                          try simp only [Act.put, List.setIfInBounds_toArray, List.set_cons_zero, List.set_cons_succ]
                          refine wpAnyH_take (i := 10) (oi := { dst := some 295, op := Op.call { callee := Callee.value (Operand.func 35), args := #[Operand.tmp 293, Operand.tmp 294], argTypes := #[26, 3] }, type := 4, pos := "laws.go:1205", after := #[{ on := 8, ground := Ground.data }, { on := 9, ground := Ground.data }, { on := 7, ground := Ground.chain }, { on := 7, ground := Ground.guard }], guard := some (7, true) }) (v := undef) rfl (by kernel_rfl) (by kernel_rfl) (by kernel_rfl) (fun _ _ _ h => h) (Or.inr ⟨by rfl, rfl⟩) (by assumption) ?_
                          try simp only [Act.put, List.setIfInBounds_toArray, List.set_cons_zero, List.set_cons_succ]
                          refine wpAnyH_take (i := 11) (oi := { dst := some 296, op := Op.load 26 (Operand.tmp 22), type := 26, pos := "laws.go:1205", after := #[{ on := 7, ground := Ground.guard }], guard := some (7, true) }) (v := undef) rfl (by kernel_rfl) (by kernel_rfl) (by kernel_rfl) (fun _ _ _ h => h) (Or.inr ⟨by rfl, rfl⟩) (by assumption) ?_
                          try simp only [Act.put, List.setIfInBounds_toArray, List.set_cons_zero, List.set_cons_succ]
                          refine wpAnyH_take (i := 12) (oi := { dst := some 297, op := Op.move (Operand.tmp 38), type := 3, pos := "laws.go:1205", after := #[{ on := 7, ground := Ground.guard }], guard := some (7, true) }) (v := undef) rfl (by kernel_rfl) (by kernel_rfl) (by kernel_rfl) (fun _ _ _ h => h) (Or.inr ⟨by rfl, rfl⟩) (by assumption) ?_
                          try simp only [Act.put, List.setIfInBounds_toArray, List.set_cons_zero, List.set_cons_succ]
                          refine wpAnyH_take (i := 13) (oi := { dst := some 298, op := Op.move (Operand.tmp 23), type := 3, pos := "laws.go:1205", after := #[{ on := 7, ground := Ground.guard }], guard := some (7, true) }) (v := undef) rfl (by kernel_rfl) (by kernel_rfl) (by kernel_rfl) (fun _ _ _ h => h) (Or.inr ⟨by rfl, rfl⟩) (by assumption) ?_
                          try simp only [Act.put, List.setIfInBounds_toArray, List.set_cons_zero, List.set_cons_succ]
                          refine wpAnyH_take (i := 14) (oi := { dst := some 299, op := Op.binOp BinOp.or 3 (Operand.tmp 297) (Operand.tmp 298) 3, type := 3, pos := "laws.go:1205", after := #[{ on := 12, ground := Ground.data }, { on := 13, ground := Ground.data }, { on := 7, ground := Ground.guard }], guard := some (7, true) }) (v := undef) rfl (by kernel_rfl) (by kernel_rfl) (by kernel_rfl) (fun _ _ _ h => h) (Or.inr ⟨by rfl, rfl⟩) (by assumption) ?_
                          try simp only [Act.put, List.setIfInBounds_toArray, List.set_cons_zero, List.set_cons_succ]
                          refine wpAnyH_take (i := 15) (oi := { dst := some 300, op := Op.call { callee := Callee.value (Operand.func 35), args := #[Operand.tmp 296, Operand.tmp 299], argTypes := #[26, 3] }, type := 4, pos := "laws.go:1205", after := #[{ on := 11, ground := Ground.data }, { on := 14, ground := Ground.data }, { on := 10, ground := Ground.chain }, { on := 7, ground := Ground.guard }], guard := some (7, true) }) (v := undef) rfl (by kernel_rfl) (by kernel_rfl) (by kernel_rfl) (fun _ _ _ h => h) (Or.inr ⟨by rfl, rfl⟩) (by assumption) ?_
                          try simp only [Act.put, List.setIfInBounds_toArray, List.set_cons_zero, List.set_cons_succ]
                          refine wpAnyH_take (i := 16) (oi := { dst := some 301, op := Op.binOp BinOp.neq 4 (Operand.tmp 295) (Operand.tmp 300) 4, type := 4, pos := "laws.go:1205", after := #[{ on := 10, ground := Ground.data }, { on := 15, ground := Ground.data }, { on := 7, ground := Ground.guard }], guard := some (7, true) }) (v := undef) rfl (by kernel_rfl) (by kernel_rfl) (by kernel_rfl) (fun _ _ _ h => h) (Or.inr ⟨by rfl, rfl⟩) (by assumption) ?_
                          try simp only [Act.put, List.setIfInBounds_toArray, List.set_cons_zero, List.set_cons_succ]
                          refine wpAnyH_take (i := 17) (oi := { dst := some 302, op := Op.pick (Operand.tmp 292) (Operand.tmp 301) (Operand.const (Value.bool false)), type := 4, pos := "laws.go:1205", after := #[{ on := 7, ground := Ground.data }, { on := 16, ground := Ground.data }], guard := none }) (v := ?_) rfl (by kernel_rfl) (by kernel_rfl) (by kernel_rfl) (fun _ _ _ h => h) (Or.inl ⟨by rfl, ?_⟩) (by assumption) ?_
                          rotate_left
                          · intro w hSw
                            try dsimp only at hSw
                            go_simp
                            try (with_reducible rfl)
                          try simp only [Act.put, List.setIfInBounds_toArray, List.set_cons_zero, List.set_cons_succ]
                          refine wpAnyH_done (by kernel_rfl) ?_ _
                          go_wp2_with fail
                          go_meet
                          exact ⟨rfl, SW.out⟩
                        · exact AllReadyH.nil
                      · have hq2 := hqj k hIe.symm
                        obtain ⟨y, hy⟩ : ∃ y, y = inId H hs2 k := ⟨_, rfl⟩
                        have H13 : Hid (∀ W, IntsAt W a13 n13 hs2 → Calls Tryz.prog 35 #[.agg #[.int .i64 H, .slice a13 n13 c13], .int .i64 k] W fun e w' => e = .returned (.bool y) ∧ Below W.heap.size W w') := Lib.hid fun W hW => by rw [hy]; exact inIdl H hs2 k W a13 n13 c13 hW D13
                        have H12 : Hid (∀ W, IntsAt W a12 n12 ts → Calls Tryz.prog 35 #[.agg #[.int .i64 u, .slice a12 n12 c12], .int .i64 ((k ||| s : Nat) : Int)] W fun e w' => e = .returned (.bool y) ∧ Below W.heap.size W w') := Lib.hid fun W hW => by rw [hy, hq2]; exact inIdl u ts _ W a12 n12 c12 hW D12
                        have hor : bits BinOp.or IntKind.i64 (k : Int) (s : Int) = ((k ||| s : Nat) : Int) := w_or k s hlt hs64
                        have hyy : (y != y) = false := by cases y <;> rfl
                        clear hqj hIe hq2 hy SR2 HQQ
                        refine wp_region_held_drew (S := fun W => W.cell? ⟨G12, 0, none⟩ = some (.int .i64 u) ∧ W.cell? ⟨G12, 1, none⟩ = some (.slice a12 n12 c12) ∧ W.cell? ⟨G13, 0, none⟩ = some (.int .i64 H) ∧ W.cell? ⟨G13, 1, none⟩ = some (.slice a13 n13 c13)) (by kernel_rfl) hcells (fun hHeld => ?_)
                        refine wpAnyH_take (i := 0) (oi := { dst := some 285, op := Op.move (Operand.tmp 25), type := 4, pos := "laws.go:1205", after := #[], guard := none }) (v := ?_) rfl (by kernel_rfl) (by kernel_rfl) (by kernel_rfl) (fun _ _ _ h => h) (Or.inl ⟨by rfl, ?_⟩) (by assumption) ?_
                        rotate_left
                        · intro w hSw
                          try dsimp only at hSw
                          go_simp
                          try (with_reducible rfl)
                        try simp only [Act.put, List.setIfInBounds_toArray, List.set_cons_zero, List.set_cons_succ]
                        refine wpAnyH_take (i := 1) (oi := { dst := some 286, op := Op.move (Operand.tmp 285), type := 4, pos := "laws.go:1205", after := #[{ on := 0, ground := Ground.data }], guard := none }) (v := ?_) rfl (by kernel_rfl) (by kernel_rfl) (by kernel_rfl) (fun _ _ _ h => h) (Or.inl ⟨by rfl, ?_⟩) (by assumption) ?_
                        rotate_left
                        · intro w hSw
                          try dsimp only at hSw
                          go_simp
                          try (with_reducible rfl)
                        try simp only [Act.put, List.setIfInBounds_toArray, List.set_cons_zero, List.set_cons_succ]
                        refine wpAnyH_take (i := 2) (oi := { dst := some 287, op := Op.fieldAddr 26 (Operand.tmp 22) 0, type := 0, pos := "laws.go:1205", after := #[{ on := 1, ground := Ground.guard }], guard := some (1, true) }) (v := ?_) rfl (by kernel_rfl) (by kernel_rfl) (by kernel_rfl) (fun _ _ _ h => h) (Or.inl ⟨by rfl, ?_⟩) (by assumption) ?_
                        rotate_left
                        · intro w hSw
                          try dsimp only at hSw
                          go_simp
                          try (with_reducible rfl)
                        try simp only [Act.put, List.setIfInBounds_toArray, List.set_cons_zero, List.set_cons_succ]
                        refine wpAnyH_take (i := 3) (oi := { dst := some 288, op := Op.load 3 (Operand.tmp 287), type := 3, pos := "laws.go:1205", after := #[{ on := 2, ground := Ground.data }, { on := 1, ground := Ground.guard }], guard := some (1, true) }) (v := ?_) rfl (by kernel_rfl) (by kernel_rfl) (by kernel_rfl) (fun _ _ _ h => h) (Or.inl ⟨by rfl, ?_⟩) (by assumption) ?_
                        rotate_left
                        · intro w hSw
                          try dsimp only at hSw
                          go_simp
                          try (with_reducible rfl)
                        try simp only [Act.put, List.setIfInBounds_toArray, List.set_cons_zero, List.set_cons_succ]
                        refine wpAnyH_take (i := 4) (oi := { dst := some 289, op := Op.move (Operand.tmp 38), type := 3, pos := "laws.go:1205", after := #[{ on := 1, ground := Ground.guard }], guard := some (1, true) }) (v := ?_) rfl (by kernel_rfl) (by kernel_rfl) (by kernel_rfl) (fun _ _ _ h => h) (Or.inl ⟨by rfl, ?_⟩) (by assumption) ?_
                        rotate_left
                        · intro w hSw
                          try dsimp only at hSw
                          go_simp
                          try (with_reducible rfl)
                        try simp only [Act.put, List.setIfInBounds_toArray, List.set_cons_zero, List.set_cons_succ]
                        refine wpAnyH_ready (rs := [5]) (by kernel_rfl) (by simp) ?_
                        refine AllReadyH.cons (o := { dst := some 290, op := Op.call { callee := Callee.value (Operand.func 36), args := #[Operand.tmp 288, Operand.tmp 289], argTypes := #[3, 3] }, type := 4, pos := "laws.go:1205", after := #[{ on := 3, ground := Ground.data }, { on := 4, ground := Ground.data }, { on := 1, ground := Ground.chain }, { on := 1, ground := Ground.guard }], guard := some (1, true) }) rfl (fun K hK => ?_) ?_
                        · go_simp
                          go_simp; go_at_call 36; (with_reducible refine (HIs.out _).mono ?_); rintro e w6 ⟨rfl, rfl⟩
                          try (go_wp2_with fail)
                          refine hK.out _ _ ?_ (fun hHeld => ?_)
                          · exact ⟨SW.out.x12.c0, SW.out.x12.c1, SW.out.x13.c0, SW.out.x13.c1⟩
                          clear hK K
                          try simp only [Act.put, List.setIfInBounds_toArray, List.set_cons_zero, List.set_cons_succ]
                          refine wpAnyH_take (i := 6) (oi := { dst := some 291, op := Op.pick (Operand.tmp 286) (Operand.tmp 290) (Operand.const (Value.bool false)), type := 4, pos := "laws.go:1205", after := #[{ on := 1, ground := Ground.data }, { on := 5, ground := Ground.data }], guard := none }) (v := ?_) rfl (by kernel_rfl) (by kernel_rfl) (by kernel_rfl) (fun _ _ _ h => h) (Or.inl ⟨by rfl, ?_⟩) (by assumption) ?_
                          rotate_left
                          · intro w hSw
                            try dsimp only at hSw
                            go_simp
                            try (with_reducible rfl)
                          try simp only [Act.put, List.setIfInBounds_toArray, List.set_cons_zero, List.set_cons_succ]
                          refine wpAnyH_take (i := 7) (oi := { dst := some 292, op := Op.move (Operand.tmp 291), type := 4, pos := "laws.go:1205", after := #[{ on := 6, ground := Ground.data }, { on := 5, ground := Ground.chain }], guard := none }) (v := ?_) rfl (by kernel_rfl) (by kernel_rfl) (by kernel_rfl) (fun _ _ _ h => h) (Or.inl ⟨by rfl, ?_⟩) (by assumption) ?_
                          rotate_left
                          · intro w hSw
                            try dsimp only at hSw
                            go_simp
                            try (with_reducible rfl)
                          try simp only [Act.put, List.setIfInBounds_toArray, List.set_cons_zero, List.set_cons_succ]
                          refine wpAnyH_take (i := 8) (oi := { dst := some 293, op := Op.load 26 (Operand.tmp 24), type := 26, pos := "laws.go:1205", after := #[{ on := 7, ground := Ground.guard }], guard := some (7, true) }) (v := ?_) rfl (by kernel_rfl) (by kernel_rfl) (by kernel_rfl) (fun _ _ _ h => h) (Or.inl ⟨by rfl, ?_⟩) (by assumption) ?_
                          rotate_left
                          · intro w hSw
                            try dsimp only at hSw
                            go_simp
                            try (with_reducible rfl)
                          try simp only [Act.put, List.setIfInBounds_toArray, List.set_cons_zero, List.set_cons_succ]
                          refine wpAnyH_take (i := 9) (oi := { dst := some 294, op := Op.move (Operand.tmp 38), type := 3, pos := "laws.go:1205", after := #[{ on := 7, ground := Ground.guard }], guard := some (7, true) }) (v := ?_) rfl (by kernel_rfl) (by kernel_rfl) (by kernel_rfl) (fun _ _ _ h => h) (Or.inl ⟨by rfl, ?_⟩) (by assumption) ?_
                          rotate_left
                          · intro w hSw
                            try dsimp only at hSw
                            go_simp
                            try (with_reducible rfl)
                          try simp only [Act.put, List.setIfInBounds_toArray, List.set_cons_zero, List.set_cons_succ]
                          refine wpAnyH_take (i := 11) (oi := { dst := some 296, op := Op.load 26 (Operand.tmp 22), type := 26, pos := "laws.go:1205", after := #[{ on := 7, ground := Ground.guard }], guard := some (7, true) }) (v := ?_) rfl (by kernel_rfl) (by kernel_rfl) (by kernel_rfl) (fun _ _ _ h => h) (Or.inl ⟨by rfl, ?_⟩) (by assumption) ?_
                          rotate_left
                          · intro w hSw
                            try dsimp only at hSw
                            go_simp
                            try (with_reducible rfl)
                          try simp only [Act.put, List.setIfInBounds_toArray, List.set_cons_zero, List.set_cons_succ]
                          refine wpAnyH_take (i := 12) (oi := { dst := some 297, op := Op.move (Operand.tmp 38), type := 3, pos := "laws.go:1205", after := #[{ on := 7, ground := Ground.guard }], guard := some (7, true) }) (v := ?_) rfl (by kernel_rfl) (by kernel_rfl) (by kernel_rfl) (fun _ _ _ h => h) (Or.inl ⟨by rfl, ?_⟩) (by assumption) ?_
                          rotate_left
                          · intro w hSw
                            try dsimp only at hSw
                            go_simp
                            try (with_reducible rfl)
                          try simp only [Act.put, List.setIfInBounds_toArray, List.set_cons_zero, List.set_cons_succ]
                          refine wpAnyH_take (i := 13) (oi := { dst := some 298, op := Op.move (Operand.tmp 23), type := 3, pos := "laws.go:1205", after := #[{ on := 7, ground := Ground.guard }], guard := some (7, true) }) (v := ?_) rfl (by kernel_rfl) (by kernel_rfl) (by kernel_rfl) (fun _ _ _ h => h) (Or.inl ⟨by rfl, ?_⟩) (by assumption) ?_
                          rotate_left
                          · intro w hSw
                            try dsimp only at hSw
                            go_simp
                            try (with_reducible rfl)
                          try simp only [Act.put, List.setIfInBounds_toArray, List.set_cons_zero, List.set_cons_succ]
                          refine wpAnyH_take (i := 14) (oi := { dst := some 299, op := Op.binOp BinOp.or 3 (Operand.tmp 297) (Operand.tmp 298) 3, type := 3, pos := "laws.go:1205", after := #[{ on := 12, ground := Ground.data }, { on := 13, ground := Ground.data }, { on := 7, ground := Ground.guard }], guard := some (7, true) }) (v := ?_) rfl (by kernel_rfl) (by kernel_rfl) (by kernel_rfl) (fun _ _ _ h => h) (Or.inl ⟨by rfl, ?_⟩) (by assumption) ?_
                          rotate_left
                          · intro w hSw
                            try dsimp only at hSw
                            go_simp
                            try (with_reducible rfl)
                          try simp only [Act.put, List.setIfInBounds_toArray, List.set_cons_zero, List.set_cons_succ]
                          refine wpAnyH_ready (rs := [10]) (by kernel_rfl) (by simp) ?_
                          refine AllReadyH.cons (o := { dst := some 295, op := Op.call { callee := Callee.value (Operand.func 35), args := #[Operand.tmp 293, Operand.tmp 294], argTypes := #[26, 3] }, type := 4, pos := "laws.go:1205", after := #[{ on := 8, ground := Ground.data }, { on := 9, ground := Ground.data }, { on := 7, ground := Ground.chain }, { on := 7, ground := Ground.guard }], guard := some (7, true) }) rfl (fun K hK => ?_) ?_
                          · go_simp
                            go_simp; go_at_call 35; (with_reducible refine (H13.out _ SW.out.i13).mono ?_); rintro e w6 ⟨rfl, hb6⟩; have SW := Lib.hid (SW.out.keep hb6); clear hb6
                            try (go_wp2_with fail)
                            refine hK.out _ _ ?_ (fun hHeld => ?_)
                            · exact ⟨SW.out.x12.c0, SW.out.x12.c1, SW.out.x13.c0, SW.out.x13.c1⟩
                            clear hK K
                            try simp only [Act.put, List.setIfInBounds_toArray, List.set_cons_zero, List.set_cons_succ]
                            refine wpAnyH_ready (rs := [15]) (by kernel_rfl) (by simp) ?_
                            refine AllReadyH.cons (o := { dst := some 300, op := Op.call { callee := Callee.value (Operand.func 35), args := #[Operand.tmp 296, Operand.tmp 299], argTypes := #[26, 3] }, type := 4, pos := "laws.go:1205", after := #[{ on := 11, ground := Ground.data }, { on := 14, ground := Ground.data }, { on := 10, ground := Ground.chain }, { on := 7, ground := Ground.guard }], guard := some (7, true) }) rfl (fun K hK => ?_) ?_
                            · go_simp
                              go_simp; go_at_call 35; (with_reducible refine (H12.out _ SW.out.i12).mono ?_); rintro e w6 ⟨rfl, hb6⟩; have SW := Lib.hid (SW.out.keep hb6); clear hb6
                              try (go_wp2_with fail)
                              refine hK.out _ _ ?_ (fun hHeld => ?_)
                              · exact ⟨SW.out.x12.c0, SW.out.x12.c1, SW.out.x13.c0, SW.out.x13.c1⟩
                              clear hK K
                              try simp only [Act.put, List.setIfInBounds_toArray, List.set_cons_zero, List.set_cons_succ]
                              refine wpAnyH_take (i := 16) (oi := { dst := some 301, op := Op.binOp BinOp.neq 4 (Operand.tmp 295) (Operand.tmp 300) 4, type := 4, pos := "laws.go:1205", after := #[{ on := 10, ground := Ground.data }, { on := 15, ground := Ground.data }, { on := 7, ground := Ground.guard }], guard := some (7, true) }) (v := ?_) rfl (by kernel_rfl) (by kernel_rfl) (by kernel_rfl) (fun _ _ _ h => h) (Or.inl ⟨by rfl, ?_⟩) (by assumption) ?_
                              rotate_left
                              · intro w hSw
                                try dsimp only at hSw
                                go_simp
                                try (with_reducible rfl)
                              try simp only [Act.put, List.setIfInBounds_toArray, List.set_cons_zero, List.set_cons_succ]
                              refine wpAnyH_take (i := 17) (oi := { dst := some 302, op := Op.pick (Operand.tmp 292) (Operand.tmp 301) (Operand.const (Value.bool false)), type := 4, pos := "laws.go:1205", after := #[{ on := 7, ground := Ground.data }, { on := 16, ground := Ground.data }], guard := none }) (v := ?_) rfl (by kernel_rfl) (by kernel_rfl) (by kernel_rfl) (fun _ _ _ h => h) (Or.inl ⟨by rfl, ?_⟩) (by assumption) ?_
                              rotate_left
                              · intro w hSw
                                try dsimp only at hSw
                                go_simp
                                try (with_reducible rfl)
                              try simp only [Act.put, List.setIfInBounds_toArray, List.set_cons_zero, List.set_cons_succ]
                              refine wpAnyH_done (by kernel_rfl) ?_ _
                              go_wp2_with fail
                              go_meet
                              exact ⟨rfl, SW.out⟩
                            · exact AllReadyH.nil
                          · exact AllReadyH.nil
                        · exact AllReadyH.nil
                case rest =>
                  obtain ⟨rfl, hst⟩ := hcut
                  have SR3 := Lib.hid hst
                  clear hst SR2
                  go_wp2_with fail
                  go_roundw
                  case rel => exact ⟨k + 1, by omega, by go_num, SR3.out⟩
                  case measure => simp [intOf]; omega
            · obtain rfl : k = 64 := by omega
              have hbb2 : (b == b) = true := by cases b <;> rfl
              go_wp2_with fail
              go_ret
              exact ⟨rfl, SR.out.below⟩
  · have hnn : 1048576 < n := by omega
    go_enter Tryz.func3, Tryz.ntmps3
    go_wp2_with (go_at_call 7; (with_reducible refine (big_yes ad n c _ hnn hnm).mono ?_); rintro e w' ⟨rfl, rfl⟩)
    go_ret
    exact ⟨rfl, Below.refl _ _⟩

end Go.Proofs.YtihfhfihladlcaaGreatDoor.lawFnIdeals

/- The row of FnIdeals, which lists three variables of Go's library. -/
namespace Go.Proofs.YtihfhfihladlcaaGreatDoor.lawFnIdeals
set_option maxRecDepth 20000
open Go.ChangeShapes Go.WideShapes Go.ChangeAt Go.RowKit
set_option linter.unusedVariables false
set_option linter.unusedSimpArgs false

set_option maxRecDepth 100000 in
theorem lifted (os : Os) (started : os.Started) (H : Type) (enc : TypeId × Value → H) :
    ReturnsInHanded {} Tryz.checked os 3 .any (fun w args => (Rows.fnIdealsSpec.pre enc Tryz.prog Tryz.f3 Rows.fnIdealsRow.domain false w args ∧ laidMetH Tryz.prog Rows.fnIdealsRow.laid w) ∧ sizedMet enc Tryz.prog Tryz.f3 (OpenSpec.ofChange Rows.fnIdealsSpec) false w args)
      (Rows.fnIdealsSpec.post enc Tryz.prog Tryz.f3 false true false false) := by
  refine returnsInHanded_of_change_and (C := Tryz.checked) (X := fun w _ => laidMetH Tryz.prog Rows.fnIdealsRow.laid w) (fun _ _ _ hh h => h.of_heap hh) own started (by kernel_rfl) Tryz.func3
    (ChangeSpec.witness_shaped (enc := enc) (C := Tryz.checked) (os := os) (X := fun w _ => laidMetH Tryz.prog Rows.fnIdealsRow.laid w) false (World.laidAll Tryz.prog os Rows.fnIdealsRow.laid) #[.slice none 0 0] 8 (World.laidAll_os _ _ _)
      (World.shaped_of_ZipB (by kernel_rfl) (by kernel_rfl)) (by kernel_rfl) (by kernel_rfl) (by kernel_rfl)
      (by rw [MakeChecks.laidMetH_plain _ _ _ (by kernel_rfl)]; exact laidMet_laidAll _ (by kernel_rfl) (by kernel_rfl))) ?_
  intro W base args ds gs before hval0 hW hcnd _ hL _
  have hval : ∀ (j : Nat) t v, Tryz.f3.params[j]? = some t → args[j]? = some v → Value.okWide Tryz.prog W .any base t v := hval0
  have hW2 := hW
  obtain ⟨p, q, hA0, hV, hpq, hfz, hnd⟩ := hW
  have hA : DataW.TrodAll enc Tryz.prog W 0 (fun _ => true) true Tryz.f3.params.toList args.toList ds p := hA0
  rw [Tryz.params3] at hA hval
  obtain ⟨v0, vs0, d0, ds0, p0, q0, hargs, rfl, hp0, h0, r0⟩ := trodAll_cons hA
  obtain ⟨rfl, rfl, _⟩ := trodAll_nil r0
  obtain rfl : args = #[v0] := by cases args; simp_all
  have hgs : gs = [] := (trodVars_none hV).1
  subst hgs
  obtain ⟨ad0, n0, c0, rfl⟩ := okWide_slice Tryz.underlying22 (hval 0 22 v0 rfl rfl)
  obtain ⟨fuel0, hf0⟩ := h0
  obtain ⟨ad0, n0, c0, e0, hs0⟩ := open_code hf0
  rw [e0]
  rw [e0] at hW2
  refine (walk W ad0 n0 c0 hs0).mono fun e W2 ⟨he, hb⟩ => ?_
  subst he
  exact ⟨_, rfl, law_post rfl hW2 (by kernel_rfl) rfl rfl rfl rfl hb⟩

theorem over : Rows.fnIdealsRow.holds Tryz.pinned (OpenSpec.ofChange Rows.fnIdealsSpec) :=
  OpenClaim.holds_of_wide 3 Tryz.f3 rfl rfl rfl rfl rfl rfl rfl ⟨rfl, rfl, rfl, rfl, rfl⟩ rfl rfl rfl rfl rfl (by kernel_rfl) Tryz.func3 (by kernel_rfl)
    (of_decide_eq_true (by kernel_rfl)) (by unfold Func.isWrapper; first | (rw [if_pos (by decide +kernel)]; kernel_rfl) | (rw [if_neg (by decide +kernel)]; exact ⟨rfl, rfl⟩))
    (fun os started H enc _ => lifted os started H enc)

/-- THE STATEMENT -/
theorem proved : Rows.FnIdealsSaid := over
end Go.Proofs.YtihfhfihladlcaaGreatDoor.lawFnIdeals

/- The law FnPosets: an order is parsed from its text, and its number is the Euler number of its chains. No condition. -/
import Derived.Deep.RegionHeld3
import Derived.Deep.RegionWith
import Derived.Deep.DeepCutAuto
import Derived.Deep.QuietTactic
import Derived.BigQuiet
import Derived.Test.YtihfhfihladlcaaGreatDoorCore
import Derived.Test.YtihfhfihladlcaaGreatDoorDrw5
import Derived.Test.YtihfhfihladlcaaGreatDoorLeft
import Derived.Test.YtihfhfihladlcaaGreatDoorPosJ
namespace Go.Proofs.YtihfhfihladlcaaGreatDoor.lawFnPosets
set_option maxRecDepth 20000
open Go.ChangeShapes Go.WideShapes Go.ChangeAt Go.RowKit
set_option linter.unusedVariables false
set_option linter.unusedSimpArgs false

/-- what lies in memory while the law runs -/
structure St (wb : World) (p : Int) (xs : List Int) (P : Int) (fs : List Int) (Q : Int) (ds : List Int) (X : Int) (es : List Int) (q : Int) (ys : List Int) (R : Int) (gs : List Int) (G1 : Nat) (a1 : Option Addr) (n1 c1 : Nat) (G2 : Nat) (a2 : Option Addr) (n2 c2 : Nat) (G3 : Nat) (a3 : Option Addr) (n3 c3 : Nat) (G4 : Nat) (a4 : Option Addr) (n4 c4 : Nat) (G5 : Nat) (a5 : Option Addr) (n5 c5 : Nat) (G6 : Nat) (a6 : Option Addr) (n6 c6 : Nat) (G7 : Nat) (a7 : Option Addr) (n7 c7 : Nat) (G8 : Nat) (a8 : Option Addr) (n8 c8 : Nat) (G9 : Nat) (a9 : Option Addr) (n9 c9 : Nat) (G10 : Nat) (a10 : Option Addr) (n10 c10 : Nat) (W : World) : Prop where
  below : Below wb.heap.size wb W
  x1 : BoxF W G1 (.int .i64 p) (.slice a1 n1 c1)
  i1 : IntsAt W a1 n1 xs
  x2 : BoxF W G2 (.int .i64 P) (.slice a2 n2 c2)
  i2 : IntsAt W a2 n2 fs
  x3 : BoxF W G3 (.int .i64 P) (.slice a3 n3 c3)
  i3 : IntsAt W a3 n3 fs
  x4 : BoxF W G4 (.int .i64 Q) (.slice a4 n4 c4)
  i4 : IntsAt W a4 n4 ds
  x5 : BoxF W G5 (.int .i64 Q) (.slice a5 n5 c5)
  i5 : IntsAt W a5 n5 ds
  x6 : BoxF W G6 (.int .i64 X) (.slice a6 n6 c6)
  i6 : IntsAt W a6 n6 es
  x7 : BoxF W G7 (.int .i64 X) (.slice a7 n7 c7)
  i7 : IntsAt W a7 n7 es
  x8 : BoxF W G8 (.int .i64 q) (.slice a8 n8 c8)
  i8 : IntsAt W a8 n8 ys
  x9 : BoxF W G9 (.int .i64 R) (.slice a9 n9 c9)
  i9 : IntsAt W a9 n9 gs
  x10 : BoxF W G10 (.int .i64 R) (.slice a10 n10 c10)
  i10 : IntsAt W a10 n10 gs
theorem St.keep {wb : World} {p : Int} {xs : List Int} {P : Int} {fs : List Int} {Q : Int} {ds : List Int} {X : Int} {es : List Int} {q : Int} {ys : List Int} {R : Int} {gs : List Int} {G1 : Nat} {a1 : Option Addr} {n1 c1 : Nat} {G2 : Nat} {a2 : Option Addr} {n2 c2 : Nat} {G3 : Nat} {a3 : Option Addr} {n3 c3 : Nat} {G4 : Nat} {a4 : Option Addr} {n4 c4 : Nat} {G5 : Nat} {a5 : Option Addr} {n5 c5 : Nat} {G6 : Nat} {a6 : Option Addr} {n6 c6 : Nat} {G7 : Nat} {a7 : Option Addr} {n7 c7 : Nat} {G8 : Nat} {a8 : Option Addr} {n8 c8 : Nat} {G9 : Nat} {a9 : Option Addr} {n9 c9 : Nat} {G10 : Nat} {a10 : Option Addr} {n10 c10 : Nat} {W W' : World}
    (h : St wb p xs P fs Q ds X es q ys R gs G1 a1 n1 c1 G2 a2 n2 c2 G3 a3 n3 c3 G4 a4 n4 c4 G5 a5 n5 c5 G6 a6 n6 c6 G7 a7 n7 c7 G8 a8 n8 c8 G9 a9 n9 c9 G10 a10 n10 c10 W) (hb : Below W.heap.size W W') : St wb p xs P fs Q ds X es q ys R gs G1 a1 n1 c1 G2 a2 n2 c2 G3 a3 n3 c3 G4 a4 n4 c4 G5 a5 n5 c5 G6 a6 n6 c6 G7 a7 n7 c7 G8 a8 n8 c8 G9 a9 n9 c9 G10 a10 n10 c10 W' :=
  ⟨h.below.trans (hb.mono h.below.size), h.x1.keep hb h.x1.lt, h.i1.keep hb, h.x2.keep hb h.x2.lt, h.i2.keep hb, h.x3.keep hb h.x3.lt, h.i3.keep hb, h.x4.keep hb h.x4.lt, h.i4.keep hb, h.x5.keep hb h.x5.lt, h.i5.keep hb, h.x6.keep hb h.x6.lt, h.i6.keep hb, h.x7.keep hb h.x7.lt, h.i7.keep hb, h.x8.keep hb h.x8.lt, h.i8.keep hb, h.x9.keep hb h.x9.lt, h.i9.keep hb, h.x10.keep hb h.x10.lt, h.i10.keep hb⟩

set_option maxRecDepth 100000 in
set_option maxHeartbeats 8000000 in
theorem walk (w : World) (ad : Option Addr) (n c : Nat) (hs : CodeAt w ad n) :
    Calls Tryz.prog 5 #[.slice ad n c] w fun e w' => e = .returned (.bool true) ∧ Below w.heap.size w w' := by
  have HS := Lib.hid hs
  have hnm := hs.1
  clear hs
  by_cases hn : n ≤ 1048576
  · go_enter Tryz.func5, Tryz.ntmps5
    go_wp2_with (go_at_call 7; (with_reducible refine (big_no ad n c _ hn).mono ?_); rintro e w' ⟨rfl, rfl⟩)
    refine (drawOrderComplex_any ad n c w HS.out hn).mono ?_
    rintro e w1 ⟨p, a1, n1, c1, xs, rfl, own1, _, hb1⟩
    have HB1 : Hid (Below w.heap.size w w1) := Lib.hid hb1
    have i1_1 : Hid (IntsAt w1 a1 n1 xs) := Lib.hid (own1.reads)
    have F1 := own1.fit
    clear hb1 own1
    obtain ⟨W2, hW2⟩ : ∃ W, W = w1.alloc (.cells #[.int .i64 p, .slice a1 n1 c1] 59) := ⟨_, rfl⟩
    obtain ⟨G1, hG2⟩ : ∃ G, G = w1.heap.size := ⟨_, rfl⟩
    have hbx : Below w1.heap.size w1 W2 := by rw [hW2]; exact (by repeat (first | exact Below.refl _ _ | assumption | refine Below.setCell ?_ (by first | omega | (simp; done) | (simp; omega)) _ | refine Below.alloc ?_ (by first | omega | (simp; done) | (simp; omega)) _ | apply Below.drew))
    have HW2 := Lib.hid hW2; have HG2 := Lib.hid hG2
    have HB2 : Hid (Below w.heap.size w W2) := Lib.hid (HB1.out.trans (hbx.mono HB1.out.size))
    have i1_2 := Lib.hid (i1_1.out.keep hbx)
    have x1_2 : Hid (BoxF W2 G1 (.int .i64 p) (.slice a1 n1 c1)) := Lib.hid (by rw [hW2, hG2]; exact BoxF.new _ _ _ _)
    clear hbx hW2 hG2 HB1 i1_1
    obtain ⟨P, fs, b, Q, ds, M, T, hJ⟩ := posAll p xs
    have HJ := Lib.hid hJ
    clear hJ
    go_wp2_with fail
    rw [← HG2.out, ← HW2.out]
    refine (HJ.out.oi _ a1 n1 c1 i1_2.out F1).mono ?_
    rintro e w3 ⟨a2, n2, c2, rfl, own2, hb2⟩
    have HB3 : Hid (Below w.heap.size w w3) := Lib.hid (HB2.out.trans (hb2.mono HB2.out.size))
    have i1_3 := Lib.hid (i1_2.out.keep hb2)
    have x1_3 := Lib.hid (x1_2.out.keep hb2 x1_2.out.lt)
    have i2_3 : Hid (IntsAt w3 a2 n2 fs) := Lib.hid (own2.reads)
    clear hb2 HB2 i1_2 x1_2 own2
    obtain ⟨W4, hW4⟩ : ∃ W, W = w3.alloc (.cells #[.int .i64 P, .slice a2 n2 c2] 32) := ⟨_, rfl⟩
    obtain ⟨G2, hG4⟩ : ∃ G, G = w3.heap.size := ⟨_, rfl⟩
    have hbx : Below w3.heap.size w3 W4 := by rw [hW4]; exact (by repeat (first | exact Below.refl _ _ | assumption | refine Below.setCell ?_ (by first | omega | (simp; done) | (simp; omega)) _ | refine Below.alloc ?_ (by first | omega | (simp; done) | (simp; omega)) _ | apply Below.drew))
    have HW4 := Lib.hid hW4; have HG4 := Lib.hid hG4
    have HB4 : Hid (Below w.heap.size w W4) := Lib.hid (HB3.out.trans (hbx.mono HB3.out.size))
    have i1_4 := Lib.hid (i1_3.out.keep hbx)
    have x1_4 := Lib.hid (x1_3.out.keep hbx x1_3.out.lt)
    have i2_4 := Lib.hid (i2_3.out.keep hbx)
    have x2_4 : Hid (BoxF W4 G2 (.int .i64 P) (.slice a2 n2 c2)) := Lib.hid (by rw [hW4, hG4]; exact BoxF.new _ _ _ _)
    clear hbx hW4 hG4 HB3 i1_3 x1_3 i2_3
    obtain ⟨q0x1, q1x1, _, _, _⟩ := x1_4.out
    rw [HW4.out] at q0x1 q1x1
    go_wp2_with fail
    rw [← HG4.out, ← HW4.out]
    refine (HJ.out.os _ a1 n1 c1 i1_4.out).mono ?_
    rintro e w5 ⟨a3, n3, c3, rfl, own3, hb3⟩
    have HB5 : Hid (Below w.heap.size w w5) := Lib.hid (HB4.out.trans (hb3.mono HB4.out.size))
    have i1_5 := Lib.hid (i1_4.out.keep hb3)
    have x1_5 := Lib.hid (x1_4.out.keep hb3 x1_4.out.lt)
    have i2_5 := Lib.hid (i2_4.out.keep hb3)
    have x2_5 := Lib.hid (x2_4.out.keep hb3 x2_4.out.lt)
    have i3_5 : Hid (IntsAt w5 a3 n3 fs) := Lib.hid (own3.reads)
    clear hb3 HB4 i1_4 x1_4 i2_4 x2_4 q0x1 q1x1 own3
    obtain ⟨W6, hW6⟩ : ∃ W, W = w5.alloc (.cells #[.int .i64 P, .slice a3 n3 c3] 32) := ⟨_, rfl⟩
    obtain ⟨G3, hG6⟩ : ∃ G, G = w5.heap.size := ⟨_, rfl⟩
    have hbx : Below w5.heap.size w5 W6 := by rw [hW6]; exact (by repeat (first | exact Below.refl _ _ | assumption | refine Below.setCell ?_ (by first | omega | (simp; done) | (simp; omega)) _ | refine Below.alloc ?_ (by first | omega | (simp; done) | (simp; omega)) _ | apply Below.drew))
    have HW6 := Lib.hid hW6; have HG6 := Lib.hid hG6
    have HB6 : Hid (Below w.heap.size w W6) := Lib.hid (HB5.out.trans (hbx.mono HB5.out.size))
    have i1_6 := Lib.hid (i1_5.out.keep hbx)
    have x1_6 := Lib.hid (x1_5.out.keep hbx x1_5.out.lt)
    have i2_6 := Lib.hid (i2_5.out.keep hbx)
    have x2_6 := Lib.hid (x2_5.out.keep hbx x2_5.out.lt)
    have i3_6 := Lib.hid (i3_5.out.keep hbx)
    have x3_6 : Hid (BoxF W6 G3 (.int .i64 P) (.slice a3 n3 c3)) := Lib.hid (by rw [hW6, hG6]; exact BoxF.new _ _ _ _)
    clear hbx hW6 hG6 HB5 i1_5 x1_5 i2_5 x2_5 i3_5
    obtain ⟨q0x1, q1x1, _, _, _⟩ := x1_6.out
    rw [HW6.out] at q0x1 q1x1
    go_wp2_with fail
    rw [← HG6.out, ← HW6.out]
    refine (HJ.out.di _ a1 n1 c1 i1_6.out).mono ?_
    rintro e w7 ⟨a4, n4, c4, rfl, own4, hb4⟩
    have HB7 : Hid (Below w.heap.size w w7) := Lib.hid (HB6.out.trans (hb4.mono HB6.out.size))
    have i1_7 := Lib.hid (i1_6.out.keep hb4)
    have x1_7 := Lib.hid (x1_6.out.keep hb4 x1_6.out.lt)
    have i2_7 := Lib.hid (i2_6.out.keep hb4)
    have x2_7 := Lib.hid (x2_6.out.keep hb4 x2_6.out.lt)
    have i3_7 := Lib.hid (i3_6.out.keep hb4)
    have x3_7 := Lib.hid (x3_6.out.keep hb4 x3_6.out.lt)
    have i4_7 : Hid (IntsAt w7 a4 n4 ds) := Lib.hid (own4.reads)
    have F4 := own4.fit
    clear hb4 HB6 i1_6 x1_6 i2_6 x2_6 i3_6 x3_6 q0x1 q1x1 own4
    obtain ⟨W8, hW8⟩ : ∃ W, W = w7.alloc (.cells #[.int .i64 Q, .slice a4 n4 c4] 59) := ⟨_, rfl⟩
    obtain ⟨G4, hG8⟩ : ∃ G, G = w7.heap.size := ⟨_, rfl⟩
    have hbx : Below w7.heap.size w7 W8 := by rw [hW8]; exact (by repeat (first | exact Below.refl _ _ | assumption | refine Below.setCell ?_ (by first | omega | (simp; done) | (simp; omega)) _ | refine Below.alloc ?_ (by first | omega | (simp; done) | (simp; omega)) _ | apply Below.drew))
    have HW8 := Lib.hid hW8; have HG8 := Lib.hid hG8
    have HB8 : Hid (Below w.heap.size w W8) := Lib.hid (HB7.out.trans (hbx.mono HB7.out.size))
    have i1_8 := Lib.hid (i1_7.out.keep hbx)
    have x1_8 := Lib.hid (x1_7.out.keep hbx x1_7.out.lt)
    have i2_8 := Lib.hid (i2_7.out.keep hbx)
    have x2_8 := Lib.hid (x2_7.out.keep hbx x2_7.out.lt)
    have i3_8 := Lib.hid (i3_7.out.keep hbx)
    have x3_8 := Lib.hid (x3_7.out.keep hbx x3_7.out.lt)
    have i4_8 := Lib.hid (i4_7.out.keep hbx)
    have x4_8 : Hid (BoxF W8 G4 (.int .i64 Q) (.slice a4 n4 c4)) := Lib.hid (by rw [hW8, hG8]; exact BoxF.new _ _ _ _)
    clear hbx hW8 hG8 HB7 i1_7 x1_7 i2_7 x2_7 i3_7 x3_7 i4_7
    obtain ⟨q0x1, q1x1, _, _, _⟩ := x1_8.out
    rw [HW8.out] at q0x1 q1x1
    go_wp2_with fail
    rw [← HG8.out, ← HW8.out]
    refine (HJ.out.dx _ a1 n1 c1 i1_8.out).mono ?_
    rintro e w9 ⟨a5, n5, c5, rfl, own5, hb5⟩
    have HB9 : Hid (Below w.heap.size w w9) := Lib.hid (HB8.out.trans (hb5.mono HB8.out.size))
    have i1_9 := Lib.hid (i1_8.out.keep hb5)
    have x1_9 := Lib.hid (x1_8.out.keep hb5 x1_8.out.lt)
    have i2_9 := Lib.hid (i2_8.out.keep hb5)
    have x2_9 := Lib.hid (x2_8.out.keep hb5 x2_8.out.lt)
    have i3_9 := Lib.hid (i3_8.out.keep hb5)
    have x3_9 := Lib.hid (x3_8.out.keep hb5 x3_8.out.lt)
    have i4_9 := Lib.hid (i4_8.out.keep hb5)
    have x4_9 := Lib.hid (x4_8.out.keep hb5 x4_8.out.lt)
    have i5_9 : Hid (IntsAt w9 a5 n5 ds) := Lib.hid (own5.reads)
    clear hb5 HB8 i1_8 x1_8 i2_8 x2_8 i3_8 x3_8 i4_8 x4_8 q0x1 q1x1 own5
    obtain ⟨W10, hW10⟩ : ∃ W, W = w9.alloc (.cells #[.int .i64 Q, .slice a5 n5 c5] 59) := ⟨_, rfl⟩
    obtain ⟨G5, hG10⟩ : ∃ G, G = w9.heap.size := ⟨_, rfl⟩
    have hbx : Below w9.heap.size w9 W10 := by rw [hW10]; exact (by repeat (first | exact Below.refl _ _ | assumption | refine Below.setCell ?_ (by first | omega | (simp; done) | (simp; omega)) _ | refine Below.alloc ?_ (by first | omega | (simp; done) | (simp; omega)) _ | apply Below.drew))
    have HW10 := Lib.hid hW10; have HG10 := Lib.hid hG10
    have HB10 : Hid (Below w.heap.size w W10) := Lib.hid (HB9.out.trans (hbx.mono HB9.out.size))
    have i1_10 := Lib.hid (i1_9.out.keep hbx)
    have x1_10 := Lib.hid (x1_9.out.keep hbx x1_9.out.lt)
    have i2_10 := Lib.hid (i2_9.out.keep hbx)
    have x2_10 := Lib.hid (x2_9.out.keep hbx x2_9.out.lt)
    have i3_10 := Lib.hid (i3_9.out.keep hbx)
    have x3_10 := Lib.hid (x3_9.out.keep hbx x3_9.out.lt)
    have i4_10 := Lib.hid (i4_9.out.keep hbx)
    have x4_10 := Lib.hid (x4_9.out.keep hbx x4_9.out.lt)
    have i5_10 := Lib.hid (i5_9.out.keep hbx)
    have x5_10 : Hid (BoxF W10 G5 (.int .i64 Q) (.slice a5 n5 c5)) := Lib.hid (by rw [hW10, hG10]; exact BoxF.new _ _ _ _)
    clear hbx hW10 hG10 HB9 i1_9 x1_9 i2_9 x2_9 i3_9 x3_9 i4_9 x4_9 i5_9
    go_wp2_with fail
    rw [← HG10.out, ← HW10.out]
    refine (drawParsePoset_any ad n c _ (HS.out.keep HB10.out) hn).mono ?_
    rintro e w11 ⟨t, rfl, ht, hbt⟩
    have HB11 : Hid (Below w.heap.size w w11) := Lib.hid (HB10.out.trans (hbt.mono HB10.out.size))
    have i1_11 := Lib.hid (i1_10.out.keep hbt)
    have x1_11 := Lib.hid (x1_10.out.keep hbt x1_10.out.lt)
    have i2_11 := Lib.hid (i2_10.out.keep hbt)
    have x2_11 := Lib.hid (x2_10.out.keep hbt x2_10.out.lt)
    have i3_11 := Lib.hid (i3_10.out.keep hbt)
    have x3_11 := Lib.hid (x3_10.out.keep hbt x3_10.out.lt)
    have i4_11 := Lib.hid (i4_10.out.keep hbt)
    have x4_11 := Lib.hid (x4_10.out.keep hbt x4_10.out.lt)
    have i5_11 := Lib.hid (i5_10.out.keep hbt)
    have x5_11 := Lib.hid (x5_10.out.keep hbt x5_10.out.lt)
    clear hbt HB10 i1_10 x1_10 i2_10 x2_10 i3_10 x3_10 i4_10 x4_10 i5_10 x5_10 
    obtain ⟨X, es, b3, hPs, hPi, _⟩ := parse_same t (by omega)
    have HPs := Lib.hid hPs; have HPi := Lib.hid hPi
    clear hPs hPi
    go_wp2_with fail
    refine (HPi.out _).mono ?_
    rintro e w12 ⟨a6, n6, c6, rfl, own6, hb6⟩
    have HB12 : Hid (Below w.heap.size w w12) := Lib.hid (HB11.out.trans (hb6.mono HB11.out.size))
    have i1_12 := Lib.hid (i1_11.out.keep hb6)
    have x1_12 := Lib.hid (x1_11.out.keep hb6 x1_11.out.lt)
    have i2_12 := Lib.hid (i2_11.out.keep hb6)
    have x2_12 := Lib.hid (x2_11.out.keep hb6 x2_11.out.lt)
    have i3_12 := Lib.hid (i3_11.out.keep hb6)
    have x3_12 := Lib.hid (x3_11.out.keep hb6 x3_11.out.lt)
    have i4_12 := Lib.hid (i4_11.out.keep hb6)
    have x4_12 := Lib.hid (x4_11.out.keep hb6 x4_11.out.lt)
    have i5_12 := Lib.hid (i5_11.out.keep hb6)
    have x5_12 := Lib.hid (x5_11.out.keep hb6 x5_11.out.lt)
    have i6_12 : Hid (IntsAt w12 a6 n6 es) := Lib.hid (own6.reads)
    clear hb6 HB11 i1_11 x1_11 i2_11 x2_11 i3_11 x3_11 i4_11 x4_11 i5_11 x5_11 own6
    obtain ⟨W13, hW13⟩ : ∃ W, W = w12.alloc (.cells #[.int .i64 X, .slice a6 n6 c6] 59) := ⟨_, rfl⟩
    obtain ⟨G6, hG13⟩ : ∃ G, G = w12.heap.size := ⟨_, rfl⟩
    have hbx : Below w12.heap.size w12 W13 := by rw [hW13]; exact (by repeat (first | exact Below.refl _ _ | assumption | refine Below.setCell ?_ (by first | omega | (simp; done) | (simp; omega)) _ | refine Below.alloc ?_ (by first | omega | (simp; done) | (simp; omega)) _ | apply Below.drew))
    have HW13 := Lib.hid hW13; have HG13 := Lib.hid hG13
    have HB13 : Hid (Below w.heap.size w W13) := Lib.hid (HB12.out.trans (hbx.mono HB12.out.size))
    have i1_13 := Lib.hid (i1_12.out.keep hbx)
    have x1_13 := Lib.hid (x1_12.out.keep hbx x1_12.out.lt)
    have i2_13 := Lib.hid (i2_12.out.keep hbx)
    have x2_13 := Lib.hid (x2_12.out.keep hbx x2_12.out.lt)
    have i3_13 := Lib.hid (i3_12.out.keep hbx)
    have x3_13 := Lib.hid (x3_12.out.keep hbx x3_12.out.lt)
    have i4_13 := Lib.hid (i4_12.out.keep hbx)
    have x4_13 := Lib.hid (x4_12.out.keep hbx x4_12.out.lt)
    have i5_13 := Lib.hid (i5_12.out.keep hbx)
    have x5_13 := Lib.hid (x5_12.out.keep hbx x5_12.out.lt)
    have i6_13 := Lib.hid (i6_12.out.keep hbx)
    have x6_13 : Hid (BoxF W13 G6 (.int .i64 X) (.slice a6 n6 c6)) := Lib.hid (by rw [hW13, hG13]; exact BoxF.new _ _ _ _)
    clear hbx hW13 hG13 HB12 i1_12 x1_12 i2_12 x2_12 i3_12 x3_12 i4_12 x4_12 i5_12 x5_12 i6_12
    go_wp2_with fail
    rw [← HG13.out, ← HW13.out]
    refine (HPs.out _).mono ?_
    rintro e w14 ⟨a7, n7, c7, rfl, own7, hb7⟩
    have HB14 : Hid (Below w.heap.size w w14) := Lib.hid (HB13.out.trans (hb7.mono HB13.out.size))
    have i1_14 := Lib.hid (i1_13.out.keep hb7)
    have x1_14 := Lib.hid (x1_13.out.keep hb7 x1_13.out.lt)
    have i2_14 := Lib.hid (i2_13.out.keep hb7)
    have x2_14 := Lib.hid (x2_13.out.keep hb7 x2_13.out.lt)
    have i3_14 := Lib.hid (i3_13.out.keep hb7)
    have x3_14 := Lib.hid (x3_13.out.keep hb7 x3_13.out.lt)
    have i4_14 := Lib.hid (i4_13.out.keep hb7)
    have x4_14 := Lib.hid (x4_13.out.keep hb7 x4_13.out.lt)
    have i5_14 := Lib.hid (i5_13.out.keep hb7)
    have x5_14 := Lib.hid (x5_13.out.keep hb7 x5_13.out.lt)
    have i6_14 := Lib.hid (i6_13.out.keep hb7)
    have x6_14 := Lib.hid (x6_13.out.keep hb7 x6_13.out.lt)
    have i7_14 : Hid (IntsAt w14 a7 n7 es) := Lib.hid (own7.reads)
    clear hb7 HB13 i1_13 x1_13 i2_13 x2_13 i3_13 x3_13 i4_13 x4_13 i5_13 x5_13 i6_13 x6_13 own7
    obtain ⟨W15, hW15⟩ : ∃ W, W = w14.alloc (.cells #[.int .i64 X, .slice a7 n7 c7] 59) := ⟨_, rfl⟩
    obtain ⟨G7, hG15⟩ : ∃ G, G = w14.heap.size := ⟨_, rfl⟩
    have hbx : Below w14.heap.size w14 W15 := by rw [hW15]; exact (by repeat (first | exact Below.refl _ _ | assumption | refine Below.setCell ?_ (by first | omega | (simp; done) | (simp; omega)) _ | refine Below.alloc ?_ (by first | omega | (simp; done) | (simp; omega)) _ | apply Below.drew))
    have HW15 := Lib.hid hW15; have HG15 := Lib.hid hG15
    have HB15 : Hid (Below w.heap.size w W15) := Lib.hid (HB14.out.trans (hbx.mono HB14.out.size))
    have i1_15 := Lib.hid (i1_14.out.keep hbx)
    have x1_15 := Lib.hid (x1_14.out.keep hbx x1_14.out.lt)
    have i2_15 := Lib.hid (i2_14.out.keep hbx)
    have x2_15 := Lib.hid (x2_14.out.keep hbx x2_14.out.lt)
    have i3_15 := Lib.hid (i3_14.out.keep hbx)
    have x3_15 := Lib.hid (x3_14.out.keep hbx x3_14.out.lt)
    have i4_15 := Lib.hid (i4_14.out.keep hbx)
    have x4_15 := Lib.hid (x4_14.out.keep hbx x4_14.out.lt)
    have i5_15 := Lib.hid (i5_14.out.keep hbx)
    have x5_15 := Lib.hid (x5_14.out.keep hbx x5_14.out.lt)
    have i6_15 := Lib.hid (i6_14.out.keep hbx)
    have x6_15 := Lib.hid (x6_14.out.keep hbx x6_14.out.lt)
    have i7_15 := Lib.hid (i7_14.out.keep hbx)
    have x7_15 : Hid (BoxF W15 G7 (.int .i64 X) (.slice a7 n7 c7)) := Lib.hid (by rw [hW15, hG15]; exact BoxF.new _ _ _ _)
    clear hbx hW15 hG15 HB14 i1_14 x1_14 i2_14 x2_14 i3_14 x3_14 i4_14 x4_14 i5_14 x5_14 i6_14 x6_14 i7_14
    go_wp2_with fail
    rw [← HG15.out, ← HW15.out]
    refine (drawFacePoset_any ad n c _ (HS.out.keep HB15.out) hn).mono ?_
    rintro e w16 ⟨q, a8, n8, c8, ys, rfl, own8, _, hb8⟩
    have HB16 : Hid (Below w.heap.size w w16) := Lib.hid (HB15.out.trans (hb8.mono HB15.out.size))
    have i1_16 := Lib.hid (i1_15.out.keep hb8)
    have x1_16 := Lib.hid (x1_15.out.keep hb8 x1_15.out.lt)
    have i2_16 := Lib.hid (i2_15.out.keep hb8)
    have x2_16 := Lib.hid (x2_15.out.keep hb8 x2_15.out.lt)
    have i3_16 := Lib.hid (i3_15.out.keep hb8)
    have x3_16 := Lib.hid (x3_15.out.keep hb8 x3_15.out.lt)
    have i4_16 := Lib.hid (i4_15.out.keep hb8)
    have x4_16 := Lib.hid (x4_15.out.keep hb8 x4_15.out.lt)
    have i5_16 := Lib.hid (i5_15.out.keep hb8)
    have x5_16 := Lib.hid (x5_15.out.keep hb8 x5_15.out.lt)
    have i6_16 := Lib.hid (i6_15.out.keep hb8)
    have x6_16 := Lib.hid (x6_15.out.keep hb8 x6_15.out.lt)
    have i7_16 := Lib.hid (i7_15.out.keep hb8)
    have x7_16 := Lib.hid (x7_15.out.keep hb8 x7_15.out.lt)
    have i8_16 : Hid (IntsAt w16 a8 n8 ys) := Lib.hid (own8.reads)
    have D8 := own8.cap
    clear hb8 HB15 i1_15 x1_15 i2_15 x2_15 i3_15 x3_15 i4_15 x4_15 i5_15 x5_15 i6_15 x6_15 i7_15 x7_15 own8
    obtain ⟨W17, hW17⟩ : ∃ W, W = w16.alloc (.cells #[.int .i64 q, .slice a8 n8 c8] 32) := ⟨_, rfl⟩
    obtain ⟨G8, hG17⟩ : ∃ G, G = w16.heap.size := ⟨_, rfl⟩
    have hbx : Below w16.heap.size w16 W17 := by rw [hW17]; exact (by repeat (first | exact Below.refl _ _ | assumption | refine Below.setCell ?_ (by first | omega | (simp; done) | (simp; omega)) _ | refine Below.alloc ?_ (by first | omega | (simp; done) | (simp; omega)) _ | apply Below.drew))
    have HW17 := Lib.hid hW17; have HG17 := Lib.hid hG17
    have HB17 : Hid (Below w.heap.size w W17) := Lib.hid (HB16.out.trans (hbx.mono HB16.out.size))
    have i1_17 := Lib.hid (i1_16.out.keep hbx)
    have x1_17 := Lib.hid (x1_16.out.keep hbx x1_16.out.lt)
    have i2_17 := Lib.hid (i2_16.out.keep hbx)
    have x2_17 := Lib.hid (x2_16.out.keep hbx x2_16.out.lt)
    have i3_17 := Lib.hid (i3_16.out.keep hbx)
    have x3_17 := Lib.hid (x3_16.out.keep hbx x3_16.out.lt)
    have i4_17 := Lib.hid (i4_16.out.keep hbx)
    have x4_17 := Lib.hid (x4_16.out.keep hbx x4_16.out.lt)
    have i5_17 := Lib.hid (i5_16.out.keep hbx)
    have x5_17 := Lib.hid (x5_16.out.keep hbx x5_16.out.lt)
    have i6_17 := Lib.hid (i6_16.out.keep hbx)
    have x6_17 := Lib.hid (x6_16.out.keep hbx x6_16.out.lt)
    have i7_17 := Lib.hid (i7_16.out.keep hbx)
    have x7_17 := Lib.hid (x7_16.out.keep hbx x7_16.out.lt)
    have i8_17 := Lib.hid (i8_16.out.keep hbx)
    have x8_17 : Hid (BoxF W17 G8 (.int .i64 q) (.slice a8 n8 c8)) := Lib.hid (by rw [hW17, hG17]; exact BoxF.new _ _ _ _)
    clear hbx hW17 hG17 HB16 i1_16 x1_16 i2_16 x2_16 i3_16 x3_16 i4_16 x4_16 i5_16 x5_16 i6_16 x6_16 i7_16 x7_16 i8_16
    obtain ⟨R, gs, b5, hF⟩ := faceAll q ys
    have HF := Lib.hid hF
    clear hF
    go_wp2_with fail
    rw [← HG17.out, ← HW17.out]
    refine (HF.out.gi _ a8 n8 c8 i8_17.out D8).mono ?_
    rintro e w18 ⟨a9, n9, c9, rfl, own9, hb9⟩
    have HB18 : Hid (Below w.heap.size w w18) := Lib.hid (HB17.out.trans (hb9.mono HB17.out.size))
    have i1_18 := Lib.hid (i1_17.out.keep hb9)
    have x1_18 := Lib.hid (x1_17.out.keep hb9 x1_17.out.lt)
    have i2_18 := Lib.hid (i2_17.out.keep hb9)
    have x2_18 := Lib.hid (x2_17.out.keep hb9 x2_17.out.lt)
    have i3_18 := Lib.hid (i3_17.out.keep hb9)
    have x3_18 := Lib.hid (x3_17.out.keep hb9 x3_17.out.lt)
    have i4_18 := Lib.hid (i4_17.out.keep hb9)
    have x4_18 := Lib.hid (x4_17.out.keep hb9 x4_17.out.lt)
    have i5_18 := Lib.hid (i5_17.out.keep hb9)
    have x5_18 := Lib.hid (x5_17.out.keep hb9 x5_17.out.lt)
    have i6_18 := Lib.hid (i6_17.out.keep hb9)
    have x6_18 := Lib.hid (x6_17.out.keep hb9 x6_17.out.lt)
    have i7_18 := Lib.hid (i7_17.out.keep hb9)
    have x7_18 := Lib.hid (x7_17.out.keep hb9 x7_17.out.lt)
    have i8_18 := Lib.hid (i8_17.out.keep hb9)
    have x8_18 := Lib.hid (x8_17.out.keep hb9 x8_17.out.lt)
    have i9_18 : Hid (IntsAt w18 a9 n9 gs) := Lib.hid (own9.reads)
    have F9 := own9.fit
    clear hb9 HB17 i1_17 x1_17 i2_17 x2_17 i3_17 x3_17 i4_17 x4_17 i5_17 x5_17 i6_17 x6_17 i7_17 x7_17 i8_17 x8_17 own9
    obtain ⟨W19, hW19⟩ : ∃ W, W = w18.alloc (.cells #[.int .i64 R, .slice a9 n9 c9] 59) := ⟨_, rfl⟩
    obtain ⟨G9, hG19⟩ : ∃ G, G = w18.heap.size := ⟨_, rfl⟩
    have hbx : Below w18.heap.size w18 W19 := by rw [hW19]; exact (by repeat (first | exact Below.refl _ _ | assumption | refine Below.setCell ?_ (by first | omega | (simp; done) | (simp; omega)) _ | refine Below.alloc ?_ (by first | omega | (simp; done) | (simp; omega)) _ | apply Below.drew))
    have HW19 := Lib.hid hW19; have HG19 := Lib.hid hG19
    have HB19 : Hid (Below w.heap.size w W19) := Lib.hid (HB18.out.trans (hbx.mono HB18.out.size))
    have i1_19 := Lib.hid (i1_18.out.keep hbx)
    have x1_19 := Lib.hid (x1_18.out.keep hbx x1_18.out.lt)
    have i2_19 := Lib.hid (i2_18.out.keep hbx)
    have x2_19 := Lib.hid (x2_18.out.keep hbx x2_18.out.lt)
    have i3_19 := Lib.hid (i3_18.out.keep hbx)
    have x3_19 := Lib.hid (x3_18.out.keep hbx x3_18.out.lt)
    have i4_19 := Lib.hid (i4_18.out.keep hbx)
    have x4_19 := Lib.hid (x4_18.out.keep hbx x4_18.out.lt)
    have i5_19 := Lib.hid (i5_18.out.keep hbx)
    have x5_19 := Lib.hid (x5_18.out.keep hbx x5_18.out.lt)
    have i6_19 := Lib.hid (i6_18.out.keep hbx)
    have x6_19 := Lib.hid (x6_18.out.keep hbx x6_18.out.lt)
    have i7_19 := Lib.hid (i7_18.out.keep hbx)
    have x7_19 := Lib.hid (x7_18.out.keep hbx x7_18.out.lt)
    have i8_19 := Lib.hid (i8_18.out.keep hbx)
    have x8_19 := Lib.hid (x8_18.out.keep hbx x8_18.out.lt)
    have i9_19 := Lib.hid (i9_18.out.keep hbx)
    have x9_19 : Hid (BoxF W19 G9 (.int .i64 R) (.slice a9 n9 c9)) := Lib.hid (by rw [hW19, hG19]; exact BoxF.new _ _ _ _)
    clear hbx hW19 hG19 HB18 i1_18 x1_18 i2_18 x2_18 i3_18 x3_18 i4_18 x4_18 i5_18 x5_18 i6_18 x6_18 i7_18 x7_18 i8_18 x8_18 i9_18
    obtain ⟨q0x8, q1x8, _, _, _⟩ := x8_19.out
    rw [HW19.out] at q0x8 q1x8
    go_wp2_with fail
    rw [← HG19.out, ← HW19.out]
    refine (HF.out.gx _ a8 n8 c8 i8_19.out D8).mono ?_
    rintro e w20 ⟨a10, n10, c10, rfl, own10, hb10⟩
    have HB20 : Hid (Below w.heap.size w w20) := Lib.hid (HB19.out.trans (hb10.mono HB19.out.size))
    have i1_20 := Lib.hid (i1_19.out.keep hb10)
    have x1_20 := Lib.hid (x1_19.out.keep hb10 x1_19.out.lt)
    have i2_20 := Lib.hid (i2_19.out.keep hb10)
    have x2_20 := Lib.hid (x2_19.out.keep hb10 x2_19.out.lt)
    have i3_20 := Lib.hid (i3_19.out.keep hb10)
    have x3_20 := Lib.hid (x3_19.out.keep hb10 x3_19.out.lt)
    have i4_20 := Lib.hid (i4_19.out.keep hb10)
    have x4_20 := Lib.hid (x4_19.out.keep hb10 x4_19.out.lt)
    have i5_20 := Lib.hid (i5_19.out.keep hb10)
    have x5_20 := Lib.hid (x5_19.out.keep hb10 x5_19.out.lt)
    have i6_20 := Lib.hid (i6_19.out.keep hb10)
    have x6_20 := Lib.hid (x6_19.out.keep hb10 x6_19.out.lt)
    have i7_20 := Lib.hid (i7_19.out.keep hb10)
    have x7_20 := Lib.hid (x7_19.out.keep hb10 x7_19.out.lt)
    have i8_20 := Lib.hid (i8_19.out.keep hb10)
    have x8_20 := Lib.hid (x8_19.out.keep hb10 x8_19.out.lt)
    have i9_20 := Lib.hid (i9_19.out.keep hb10)
    have x9_20 := Lib.hid (x9_19.out.keep hb10 x9_19.out.lt)
    have i10_20 : Hid (IntsAt w20 a10 n10 gs) := Lib.hid (own10.reads)
    clear hb10 HB19 i1_19 x1_19 i2_19 x2_19 i3_19 x3_19 i4_19 x4_19 i5_19 x5_19 i6_19 x6_19 i7_19 x7_19 i8_19 x8_19 i9_19 x9_19 q0x8 q1x8 own10
    obtain ⟨W21, hW21⟩ : ∃ W, W = w20.alloc (.cells #[.int .i64 R, .slice a10 n10 c10] 59) := ⟨_, rfl⟩
    obtain ⟨G10, hG21⟩ : ∃ G, G = w20.heap.size := ⟨_, rfl⟩
    have hbx : Below w20.heap.size w20 W21 := by rw [hW21]; exact (by repeat (first | exact Below.refl _ _ | assumption | refine Below.setCell ?_ (by first | omega | (simp; done) | (simp; omega)) _ | refine Below.alloc ?_ (by first | omega | (simp; done) | (simp; omega)) _ | apply Below.drew))
    have HW21 := Lib.hid hW21; have HG21 := Lib.hid hG21
    have HB21 : Hid (Below w.heap.size w W21) := Lib.hid (HB20.out.trans (hbx.mono HB20.out.size))
    have i1_21 := Lib.hid (i1_20.out.keep hbx)
    have x1_21 := Lib.hid (x1_20.out.keep hbx x1_20.out.lt)
    have i2_21 := Lib.hid (i2_20.out.keep hbx)
    have x2_21 := Lib.hid (x2_20.out.keep hbx x2_20.out.lt)
    have i3_21 := Lib.hid (i3_20.out.keep hbx)
    have x3_21 := Lib.hid (x3_20.out.keep hbx x3_20.out.lt)
    have i4_21 := Lib.hid (i4_20.out.keep hbx)
    have x4_21 := Lib.hid (x4_20.out.keep hbx x4_20.out.lt)
    have i5_21 := Lib.hid (i5_20.out.keep hbx)
    have x5_21 := Lib.hid (x5_20.out.keep hbx x5_20.out.lt)
    have i6_21 := Lib.hid (i6_20.out.keep hbx)
    have x6_21 := Lib.hid (x6_20.out.keep hbx x6_20.out.lt)
    have i7_21 := Lib.hid (i7_20.out.keep hbx)
    have x7_21 := Lib.hid (x7_20.out.keep hbx x7_20.out.lt)
    have i8_21 := Lib.hid (i8_20.out.keep hbx)
    have x8_21 := Lib.hid (x8_20.out.keep hbx x8_20.out.lt)
    have i9_21 := Lib.hid (i9_20.out.keep hbx)
    have x9_21 := Lib.hid (x9_20.out.keep hbx x9_20.out.lt)
    have i10_21 := Lib.hid (i10_20.out.keep hbx)
    have x10_21 : Hid (BoxF W21 G10 (.int .i64 R) (.slice a10 n10 c10)) := Lib.hid (by rw [hW21, hG21]; exact BoxF.new _ _ _ _)
    clear hbx hW21 hG21 HB20 i1_20 x1_20 i2_20 x2_20 i3_20 x3_20 i4_20 x4_20 i5_20 x5_20 i6_20 x6_20 i7_20 x7_20 i8_20 x8_20 i9_20 x9_20 i10_20
    go_upto_region 14 with fail
    rw [← HG21.out, ← HW21.out]
    have S0 : Hid (St w p xs P fs Q ds X es q ys R gs G1 a1 n1 c1 G2 a2 n2 c2 G3 a3 n3 c3 G4 a4 n4 c4 G5 a5 n5 c5 G6 a6 n6 c6 G7 a7 n7 c7 G8 a8 n8 c8 G9 a9 n9 c9 G10 a10 n10 c10 W21) := Lib.hid ⟨HB21.out, x1_21.out, i1_21.out, x2_21.out, i2_21.out, x3_21.out, i3_21.out, x4_21.out, i4_21.out, x5_21.out, i5_21.out, x6_21.out, i6_21.out, x7_21.out, i7_21.out, x8_21.out, i8_21.out, x9_21.out, i9_21.out, x10_21.out, i10_21.out⟩
    clear i1_21 x1_21 i2_21 x2_21 i3_21 x3_21 i4_21 x4_21 i5_21 x5_21 i6_21 x6_21 i7_21 x7_21 i8_21 x8_21 i9_21 x9_21 i10_21 x10_21 HB21
    have hbb : (b != b) = false := by cases b <;> rfl
    have hb3 : (b3 != b3) = false := by cases b3 <;> rfl
    have hb5 : (b5 != b5) = false := by cases b5 <;> rfl
    have hMM : (M != M) = false := by simp
    go_cut [134] (fun v W => v = .bool false ∧ St w p xs P fs Q ds X es q ys R gs G1 a1 n1 c1 G2 a2 n2 c2 G3 a3 n3 c3 G4 a4 n4 c4 G5 a5 n5 c5 G6 a6 n6 c6 G7 a7 n7 c7 G8 a8 n8 c8 G9 a9 n9 c9 G10 a10 n10 c10 W)
    case first =>
      as_aux_lemma =>
        have hcells : W21.cell? ⟨G1, 0, none⟩ = some (.int .i64 p) ∧ W21.cell? ⟨G1, 1, none⟩ = some (.slice a1 n1 c1) ∧ W21.cell? ⟨G2, 0, none⟩ = some (.int .i64 P) ∧ W21.cell? ⟨G2, 1, none⟩ = some (.slice a2 n2 c2) ∧ W21.cell? ⟨G3, 0, none⟩ = some (.int .i64 P) ∧ W21.cell? ⟨G3, 1, none⟩ = some (.slice a3 n3 c3) ∧ W21.cell? ⟨G4, 0, none⟩ = some (.int .i64 Q) ∧ W21.cell? ⟨G4, 1, none⟩ = some (.slice a4 n4 c4) ∧ W21.cell? ⟨G5, 0, none⟩ = some (.int .i64 Q) ∧ W21.cell? ⟨G5, 1, none⟩ = some (.slice a5 n5 c5) ∧ W21.cell? ⟨G6, 0, none⟩ = some (.int .i64 X) ∧ W21.cell? ⟨G6, 1, none⟩ = some (.slice a6 n6 c6) ∧ W21.cell? ⟨G7, 0, none⟩ = some (.int .i64 X) ∧ W21.cell? ⟨G7, 1, none⟩ = some (.slice a7 n7 c7) ∧ W21.cell? ⟨G9, 0, none⟩ = some (.int .i64 R) ∧ W21.cell? ⟨G9, 1, none⟩ = some (.slice a9 n9 c9) ∧ W21.cell? ⟨G10, 0, none⟩ = some (.int .i64 R) ∧ W21.cell? ⟨G10, 1, none⟩ = some (.slice a10 n10 c10) := ⟨S0.out.x1.c0, S0.out.x1.c1, S0.out.x2.c0, S0.out.x2.c1, S0.out.x3.c0, S0.out.x3.c1, S0.out.x4.c0, S0.out.x4.c1, S0.out.x5.c0, S0.out.x5.c1, S0.out.x6.c0, S0.out.x6.c1, S0.out.x7.c0, S0.out.x7.c1, S0.out.x9.c0, S0.out.x9.c1, S0.out.x10.c0, S0.out.x10.c1⟩
        have SW := Lib.hid (S0.out.keep (W' := W21.drew) (Below.refl _ _).drew)
        clear S0
        go_region_held3 (fun W => W.cell? ⟨G1, 0, none⟩ = some (.int .i64 p) ∧ W.cell? ⟨G1, 1, none⟩ = some (.slice a1 n1 c1) ∧ W.cell? ⟨G2, 0, none⟩ = some (.int .i64 P) ∧ W.cell? ⟨G2, 1, none⟩ = some (.slice a2 n2 c2) ∧ W.cell? ⟨G3, 0, none⟩ = some (.int .i64 P) ∧ W.cell? ⟨G3, 1, none⟩ = some (.slice a3 n3 c3) ∧ W.cell? ⟨G4, 0, none⟩ = some (.int .i64 Q) ∧ W.cell? ⟨G4, 1, none⟩ = some (.slice a4 n4 c4) ∧ W.cell? ⟨G5, 0, none⟩ = some (.int .i64 Q) ∧ W.cell? ⟨G5, 1, none⟩ = some (.slice a5 n5 c5) ∧ W.cell? ⟨G6, 0, none⟩ = some (.int .i64 X) ∧ W.cell? ⟨G6, 1, none⟩ = some (.slice a6 n6 c6) ∧ W.cell? ⟨G7, 0, none⟩ = some (.int .i64 X) ∧ W.cell? ⟨G7, 1, none⟩ = some (.slice a7 n7 c7) ∧ W.cell? ⟨G9, 0, none⟩ = some (.int .i64 R) ∧ W.cell? ⟨G9, 1, none⟩ = some (.slice a9 n9 c9) ∧ W.cell? ⟨G10, 0, none⟩ = some (.int .i64 R) ∧ W.cell? ⟨G10, 1, none⟩ = some (.slice a10 n10 c10)) (first | exact hcells | exact ⟨SW.out.x1.c0, SW.out.x1.c1, SW.out.x2.c0, SW.out.x2.c1, SW.out.x3.c0, SW.out.x3.c1, SW.out.x4.c0, SW.out.x4.c1, SW.out.x5.c0, SW.out.x5.c1, SW.out.x6.c0, SW.out.x6.c1, SW.out.x7.c0, SW.out.x7.c1, SW.out.x9.c0, SW.out.x9.c1, SW.out.x10.c0, SW.out.x10.c1⟩ | go_keep) (first
          | (go_simp; go_at_call 25; (with_reducible refine (sameComplex_yes P a2 a3 n2 n3 c2 c3 fs _ SW.out.i2 SW.out.i3).mono ?_); rintro e w6 ⟨rfl, hb6⟩; have SW := Lib.hid (SW.out.keep hb6); clear hb6)
          | (go_simp; go_at_call 53; (with_reducible refine (samePoset_yes Q a4 a5 n4 n5 c4 c5 ds _ SW.out.i4 SW.out.i5).mono ?_); rintro e w6 ⟨rfl, hb6⟩; have SW := Lib.hid (SW.out.keep hb6); clear hb6)
          | (go_simp; go_at_call 53; (with_reducible refine (samePoset_yes X a6 a7 n6 n7 c6 c7 es _ SW.out.i6 SW.out.i7).mono ?_); rintro e w6 ⟨rfl, hb6⟩; have SW := Lib.hid (SW.out.keep hb6); clear hb6)
          | (go_simp; go_at_call 53; (with_reducible refine (samePoset_yes R a9 a10 n9 n10 c9 c10 gs _ SW.out.i9 SW.out.i10).mono ?_); rintro e w6 ⟨rfl, hb6⟩; have SW := Lib.hid (SW.out.keep hb6); clear hb6)
          | (go_simp; go_at_call 54; (with_reducible refine (HJ.out.mi _ a1 n1 c1 SW.out.i1).mono ?_); rintro e w6 ⟨rfl, hb6⟩; have SW := Lib.hid (SW.out.keep hb6); clear hb6)
          | (go_simp; go_at_call 55; (with_reducible refine (HJ.out.ms _ a1 n1 c1 SW.out.i1).mono ?_); rintro e w6 ⟨rfl, hb6⟩; have SW := Lib.hid (SW.out.keep hb6); clear hb6)
          | (go_simp; go_at_call 56; (with_reducible refine (HJ.out.pi _ a1 n1 c1 SW.out.i1).mono ?_); rintro e w6 ⟨rfl, hb6⟩; have SW := Lib.hid (SW.out.keep hb6); clear hb6)
          | (go_simp; go_at_call 57; (with_reducible refine (HJ.out.ps _ a1 n1 c1 SW.out.i1).mono ?_); rintro e w6 ⟨rfl, hb6⟩; have SW := Lib.hid (SW.out.keep hb6); clear hb6))
        all_goals (go_wp2_with fail; go_meet)
        all_goals exact ⟨rfl, SW.out⟩
    case rest =>
      obtain ⟨rfl, hst⟩ := hcut
      have S1 := Lib.hid hst
      clear hst S0 hbb hb3 hb5
      obtain ⟨x10, x11, _, _, _⟩ := S1.out.x1
      go_wp2_with fail
      refine (HJ.out.ti _ a1 n1 c1 S1.out.i1).mono ?_
      rintro e v1 ⟨rfl, hb⟩
      have S2 := Lib.hid (S1.out.keep hb)
      clear hb x10 x11 S1
      obtain ⟨Z, zs, hrd, hZ⟩ : ∃ (Z : Int) (zs : List Int), (∀ W, Calls Tryz.prog 48 #[.string T] W (RetBox2 W Z zs b)) ∧ (b = true → Z = p ∧ zs = xs) := ⟨_, _, HJ.out.rd, fun h => by subst h; exact ⟨rfl, rfl⟩⟩
      have HRd := Lib.hid hrd; have HZ := Lib.hid hZ
      clear hrd hZ
      go_wp2_with fail
      refine (HRd.out _).mono ?_
      rintro e v2 ⟨aZ, nZ, cZ, rfl, ownZ, hb⟩
      have S3 := Lib.hid (S2.out.keep hb)
      obtain ⟨V3, hV3⟩ : ∃ W, W = v2.alloc (.cells #[.int .i64 Z, .slice aZ nZ cZ] 59) := ⟨_, rfl⟩
      obtain ⟨GZ, hGZ⟩ : ∃ G, G = v2.heap.size := ⟨_, rfl⟩
      have hbx : Below v2.heap.size v2 V3 := by rw [hV3]; exact (by repeat (first | exact Below.refl _ _ | assumption | refine Below.setCell ?_ (by first | omega | (simp; done) | (simp; omega)) _ | refine Below.alloc ?_ (by first | omega | (simp; done) | (simp; omega)) _ | apply Below.drew))
      have XZ : Hid (BoxF V3 GZ (.int .i64 Z) (.slice aZ nZ cZ)) := Lib.hid (by rw [hV3, hGZ]; exact BoxF.new _ _ _ _)
      have IZ : Hid (IntsAt V3 aZ nZ zs) := Lib.hid (ownZ.reads.keep hbx)
      have S4 := Lib.hid (S3.out.keep hbx)
      have HV3 := Lib.hid hV3; have HGZ := Lib.hid hGZ
      clear hb hbx hV3 hGZ ownZ S2 S3
      go_upto_region 18 with fail
      rw [← HGZ.out, ← HV3.out]
      go_cut [160] (fun v W => v = .bool false ∧ St w p xs P fs Q ds X es q ys R gs G1 a1 n1 c1 G2 a2 n2 c2 G3 a3 n3 c3 G4 a4 n4 c4 G5 a5 n5 c5 G6 a6 n6 c6 G7 a7 n7 c7 G8 a8 n8 c8 G9 a9 n9 c9 G10 a10 n10 c10 W)
      case first =>
        as_aux_lemma =>
          obtain ⟨x10, x11, _, _, _⟩ := S4.out.x1
          go_wp2_with fail
          refine (HJ.out.ts _ a1 n1 c1 S4.out.i1).mono ?_
          rintro e v4 ⟨rfl, hb⟩
          have S5 := Lib.hid (S4.out.keep hb)
          have XZ5 := Lib.hid (XZ.out.keep hb XZ.out.lt)
          have IZ5 := Lib.hid (IZ.out.keep hb)
          clear hb x10 x11 S4 XZ IZ
          obtain ⟨x10, x11, _, _, _⟩ := S5.out.x1
          have hbb : (b != b) = false := by cases b <;> rfl
          go_wp2_with fail
          refine (HJ.out.ps _ a1 n1 c1 S5.out.i1).mono ?_
          rintro e v5 ⟨rfl, hb⟩
          have S6 := Lib.hid (S5.out.keep hb)
          have XZ6 := Lib.hid (XZ5.out.keep hb XZ5.out.lt)
          have IZ6 := Lib.hid (IZ5.out.keep hb)
          clear hb x10 x11 S5 XZ5 IZ5
          cases b
          · go_wp2_with fail
            go_meet
            exact ⟨rfl, S6.out⟩
          · obtain ⟨rfl, rfl⟩ := HZ.out rfl
            obtain ⟨x10, x11, _, _, _⟩ := S6.out.x1
            obtain ⟨z10, z11, _, _, _⟩ := XZ6.out
            go_wp2_with fail
            refine (samePoset_yes _ aZ a1 nZ n1 cZ c1 _ _ IZ6.out S6.out.i1).mono ?_
            rintro e v6 ⟨rfl, hb⟩
            have S7 := Lib.hid (S6.out.keep hb)
            clear hb
            go_wp2_with fail
            go_meet
            exact ⟨rfl, S7.out⟩
      case rest =>
        obtain ⟨rfl, hst⟩ := hcut
        have S5 := Lib.hid hst
        clear hst S4 XZ IZ HZ
        go_upto_if 161 with fail
        go_cut [161] (fun _ W => St w p xs P fs Q ds X es q ys R gs G1 a1 n1 c1 G2 a2 n2 c2 G3 a3 n3 c3 G4 a4 n4 c4 G5 a5 n5 c5 G6 a6 n6 c6 G7 a7 n7 c7 G8 a8 n8 c8 G9 a9 n9 c9 G10 a10 n10 c10 W)
        case first =>
          as_aux_lemma =>
            cases b5
            · go_wp2_with fail
              go_meet
              exact S5.out
            · obtain ⟨A, hs, cs, us, hoi, hfc, hcc, hha, hhq⟩ := HF.out.yes rfl
              have Hoi := Lib.hid hoi; have Hfc := Lib.hid hfc; have Hcc := Lib.hid hcc; have Hha := Lib.hid hha; have Hhq := Lib.hid hhq
              clear hoi hfc hcc hha hhq
              obtain ⟨x10, x11, _, _, _⟩ := S5.out.x9
              go_wp2_with fail
              refine (Hoi.out _ a9 n9 c9 S5.out.i9 F9).mono ?_
              rintro e u1 ⟨a13, n13, c13, rfl, own13, hb⟩
              have S6 := Lib.hid (S5.out.keep hb)
              obtain ⟨U2, hU2⟩ : ∃ W, W = u1.alloc (.cells #[.int .i64 A, .slice a13 n13 c13] 32) := ⟨_, rfl⟩
              obtain ⟨G13, hG13⟩ : ∃ G, G = u1.heap.size := ⟨_, rfl⟩
              have hbx : Below u1.heap.size u1 U2 := by rw [hU2]; exact (by repeat (first | exact Below.refl _ _ | assumption | refine Below.setCell ?_ (by first | omega | (simp; done) | (simp; omega)) _ | refine Below.alloc ?_ (by first | omega | (simp; done) | (simp; omega)) _ | apply Below.drew))
              have X13 : Hid (BoxF U2 G13 (.int .i64 A) (.slice a13 n13 c13)) := Lib.hid (by rw [hU2, hG13]; exact BoxF.new _ _ _ _)
              have I13 : Hid (IntsAt U2 a13 n13 hs) := Lib.hid (own13.reads.keep hbx)
              have S7 := Lib.hid (S6.out.keep hbx)
              have HU2 := Lib.hid hU2; have HG13 := Lib.hid hG13
              clear hb hbx hU2 hG13 own13 S5 S6 x10 x11 Hoi
              go_upto_region 22 with fail
              rw [← HG13.out, ← HU2.out]
              go_cut [184] (fun v W => v = .bool false ∧ St w p xs P fs Q ds X es q ys R gs G1 a1 n1 c1 G2 a2 n2 c2 G3 a3 n3 c3 G4 a4 n4 c4 G5 a5 n5 c5 G6 a6 n6 c6 G7 a7 n7 c7 G8 a8 n8 c8 G9 a9 n9 c9 G10 a10 n10 c10 W)
              case first =>
                as_aux_lemma =>
                  have hcells : U2.cell? ⟨G8, 0, none⟩ = some (.int .i64 q) ∧ U2.cell? ⟨G8, 1, none⟩ = some (.slice a8 n8 c8) ∧ U2.cell? ⟨G13, 0, none⟩ = some (.int .i64 A) ∧ U2.cell? ⟨G13, 1, none⟩ = some (.slice a13 n13 c13) := ⟨S7.out.x8.c0, S7.out.x8.c1, X13.out.c0, X13.out.c1⟩
                  have SW := Lib.hid (S7.out.keep (W' := U2.drew) (Below.refl _ _).drew)
                  have X13 := Lib.hid (X13.out.keep (Below.refl _ U2).drew X13.out.lt); have I13 := Lib.hid (I13.out.keep (Below.refl _ U2).drew)
                  clear S7
                  go_region_held3 (fun W => W.cell? ⟨G8, 0, none⟩ = some (.int .i64 q) ∧ W.cell? ⟨G8, 1, none⟩ = some (.slice a8 n8 c8) ∧ W.cell? ⟨G13, 0, none⟩ = some (.int .i64 A) ∧ W.cell? ⟨G13, 1, none⟩ = some (.slice a13 n13 c13)) (first | exact hcells | exact ⟨SW.out.x8.c0, SW.out.x8.c1, X13.out.c0, X13.out.c1⟩ | go_keep) (first
                    | (go_simp; go_at_call 60; (with_reducible refine (Hfc.out _ a13 n13 c13 I13.out).mono ?_); rintro e w6 ⟨aA, nA, cA, rfl, ownA, hb6⟩; have SW := Lib.hid (SW.out.keep hb6); have X13 := Lib.hid (X13.out.keep hb6 X13.out.lt); have I13 := Lib.hid (I13.out.keep hb6); have HA := Lib.hid ownA.reads; clear ownA; clear hb6)
                    | (go_simp; go_at_call 61; (with_reducible refine (Hcc.out _ a8 n8 c8 SW.out.i8).mono ?_); rintro e w6 ⟨aB, nB, cB, rfl, ownB, hb6⟩; have SW := Lib.hid (SW.out.keep hb6); have X13 := Lib.hid (X13.out.keep hb6 X13.out.lt); have I13 := Lib.hid (I13.out.keep hb6); have HA := Lib.hid (HA.out.keep hb6); have HB := Lib.hid ownB.reads; clear ownB; clear hb6)
                    | (go_simp; go_at_call 26; (with_reducible refine (sameInts_yes aA aB nA nB cA cB cs cs _ HA.out HB.out rfl).mono ?_); rintro e w6 ⟨rfl, hb6⟩; have SW := Lib.hid (SW.out.keep hb6); have X13 := Lib.hid (X13.out.keep hb6 X13.out.lt); have I13 := Lib.hid (I13.out.keep hb6); clear hb6)
                    | (go_simp; go_at_call 62; (with_reducible refine (Hha.out _ a13 n13 c13 I13.out).mono ?_); rintro e w6 ⟨aC, nC, cC, rfl, ownC, hb6⟩; have SW := Lib.hid (SW.out.keep hb6); have X13 := Lib.hid (X13.out.keep hb6 X13.out.lt); have I13 := Lib.hid (I13.out.keep hb6); have HC := Lib.hid ownC.reads; clear ownC; clear hb6)
                    | (go_simp; go_at_call 62; (with_reducible refine (Hhq.out _ a8 n8 c8 SW.out.i8).mono ?_); rintro e w6 ⟨aE, nE, cE, rfl, ownE, hb6⟩; have SW := Lib.hid (SW.out.keep hb6); have X13 := Lib.hid (X13.out.keep hb6 X13.out.lt); have I13 := Lib.hid (I13.out.keep hb6); have HC := Lib.hid (HC.out.keep hb6); have HE := Lib.hid ownE.reads; clear ownE; clear hb6)
                    | (go_simp; go_at_call 26; (with_reducible refine (sameInts_yes aC aE nC nE cC cE us us _ HC.out HE.out rfl).mono ?_); rintro e w6 ⟨rfl, hb6⟩; have SW := Lib.hid (SW.out.keep hb6); have X13 := Lib.hid (X13.out.keep hb6 X13.out.lt); have I13 := Lib.hid (I13.out.keep hb6); clear hb6))
                  all_goals (go_wp2_with fail; go_meet)
                  all_goals exact ⟨rfl, SW.out⟩
              case rest =>
                obtain ⟨rfl, hst⟩ := hcut
                have S8 := Lib.hid hst
                clear hst S7 X13 I13
                go_wp2_with fail
                go_meet
                exact S8.out
        case rest =>
          as_aux_lemma =>
            have S6 := Lib.hid hcut
            clear hcut S5 HF
            cases b
            · obtain rfl := HJ.out.no rfl
              obtain ⟨x10, x11, _, _, _⟩ := S6.out.x1
              go_wp2_with fail
              refine (HJ.out.mi _ a1 n1 c1 S6.out.i1).mono ?_
              rintro e u1 ⟨rfl, hb⟩
              have S7 := Lib.hid (S6.out.keep hb)
              clear hb
              go_wp2_with fail
              go_ret
              exact ⟨rfl, S7.out.below⟩
            · have Ho2 := Lib.hid (HJ.out.o2 rfl); have Hd2 := Lib.hid (HJ.out.d2 rfl); have Heu := Lib.hid (HJ.out.eu rfl); have Hfl := Lib.hid (HJ.out.fl rfl)
              obtain ⟨x10, x11, _, _, _⟩ := S6.out.x4
              go_wp2_with fail
              refine (Ho2.out _ a4 n4 c4 S6.out.i4 F4).mono ?_
              rintro e u1 ⟨a11, n11, c11, rfl, own11, hb⟩
              have S7 := Lib.hid (S6.out.keep hb)
              obtain ⟨U2, hU2⟩ : ∃ W, W = u1.alloc (.cells #[.int .i64 P, .slice a11 n11 c11] 32) := ⟨_, rfl⟩
              obtain ⟨G11, hG11⟩ : ∃ G, G = u1.heap.size := ⟨_, rfl⟩
              have hbx : Below u1.heap.size u1 U2 := by rw [hU2]; exact (by repeat (first | exact Below.refl _ _ | assumption | refine Below.setCell ?_ (by first | omega | (simp; done) | (simp; omega)) _ | refine Below.alloc ?_ (by first | omega | (simp; done) | (simp; omega)) _ | apply Below.drew))
              have X11 : Hid (BoxF U2 G11 (.int .i64 P) (.slice a11 n11 c11)) := Lib.hid (by rw [hU2, hG11]; exact BoxF.new _ _ _ _)
              have I11 : Hid (IntsAt U2 a11 n11 fs) := Lib.hid (own11.reads.keep hbx)
              have S8 := Lib.hid (S7.out.keep hbx)
              have HU2 := Lib.hid hU2; have HG11 := Lib.hid hG11
              clear hb hbx hU2 hG11 own11 S6 S7 x10 x11 Ho2
              obtain ⟨x10, x11, _, _, _⟩ := S8.out.x4
              rw [HU2.out] at x10 x11
              go_wp2_with fail
              rw [← HG11.out, ← HU2.out]
              refine (Hd2.out _ a4 n4 c4 S8.out.i4).mono ?_
              rintro e u3 ⟨a12, n12, c12, rfl, own12, hb⟩
              have S9 := Lib.hid (S8.out.keep hb)
              have X11b := Lib.hid (X11.out.keep hb X11.out.lt); have I11b := Lib.hid (I11.out.keep hb)
              obtain ⟨U4, hU4⟩ : ∃ W, W = u3.alloc (.cells #[.int .i64 p, .slice a12 n12 c12] 59) := ⟨_, rfl⟩
              obtain ⟨G12, hG12⟩ : ∃ G, G = u3.heap.size := ⟨_, rfl⟩
              have hbx : Below u3.heap.size u3 U4 := by rw [hU4]; exact (by repeat (first | exact Below.refl _ _ | assumption | refine Below.setCell ?_ (by first | omega | (simp; done) | (simp; omega)) _ | refine Below.alloc ?_ (by first | omega | (simp; done) | (simp; omega)) _ | apply Below.drew))
              have X12 : Hid (BoxF U4 G12 (.int .i64 p) (.slice a12 n12 c12)) := Lib.hid (by rw [hU4, hG12]; exact BoxF.new _ _ _ _)
              have I12 : Hid (IntsAt U4 a12 n12 xs) := Lib.hid (own12.reads.keep hbx)
              have X11c := Lib.hid (X11b.out.keep hbx X11b.out.lt); have I11c := Lib.hid (I11b.out.keep hbx)
              have S10 := Lib.hid (S9.out.keep hbx)
              have HU4 := Lib.hid hU4; have HG12 := Lib.hid hG12
              clear hb hbx hU4 hG12 own12 S8 S9 x10 x11 Hd2 X11 I11 X11b I11b
              have X11 := X11c; have I11 := I11c
              have hMM : (M == M) = true := by simp
              go_upto_region 28 with fail
              rw [← HG12.out, ← HU4.out]
              have hcells : U4.cell? ⟨G1, 0, none⟩ = some (.int .i64 p) ∧ U4.cell? ⟨G1, 1, none⟩ = some (.slice a1 n1 c1) ∧ U4.cell? ⟨G2, 0, none⟩ = some (.int .i64 P) ∧ U4.cell? ⟨G2, 1, none⟩ = some (.slice a2 n2 c2) ∧ U4.cell? ⟨G11, 0, none⟩ = some (.int .i64 P) ∧ U4.cell? ⟨G11, 1, none⟩ = some (.slice a11 n11 c11) ∧ U4.cell? ⟨G12, 0, none⟩ = some (.int .i64 p) ∧ U4.cell? ⟨G12, 1, none⟩ = some (.slice a12 n12 c12) := ⟨S10.out.x1.c0, S10.out.x1.c1, S10.out.x2.c0, S10.out.x2.c1, X11.out.c0, X11.out.c1, X12.out.c0, X12.out.c1⟩
              have SW := Lib.hid (S10.out.keep (W' := U4.drew) (Below.refl _ _).drew)
              have X11 := Lib.hid (X11.out.keep (Below.refl _ U4).drew X11.out.lt); have I11 := Lib.hid (I11.out.keep (Below.refl _ U4).drew)
              have X12 := Lib.hid (X12.out.keep (Below.refl _ U4).drew X12.out.lt); have I12 := Lib.hid (I12.out.keep (Below.refl _ U4).drew)
              clear S10
              go_region_held3 (fun W => W.cell? ⟨G1, 0, none⟩ = some (.int .i64 p) ∧ W.cell? ⟨G1, 1, none⟩ = some (.slice a1 n1 c1) ∧ W.cell? ⟨G2, 0, none⟩ = some (.int .i64 P) ∧ W.cell? ⟨G2, 1, none⟩ = some (.slice a2 n2 c2) ∧ W.cell? ⟨G11, 0, none⟩ = some (.int .i64 P) ∧ W.cell? ⟨G11, 1, none⟩ = some (.slice a11 n11 c11) ∧ W.cell? ⟨G12, 0, none⟩ = some (.int .i64 p) ∧ W.cell? ⟨G12, 1, none⟩ = some (.slice a12 n12 c12)) (first | exact hcells | exact ⟨SW.out.x1.c0, SW.out.x1.c1, SW.out.x2.c0, SW.out.x2.c1, X11.out.c0, X11.out.c1, X12.out.c0, X12.out.c1⟩ | go_keep) (first
                | (go_simp; go_at_call 25; (with_reducible refine (sameComplex_yes P a11 a2 n11 n2 c11 c2 fs _ I11.out SW.out.i2).mono ?_); rintro e w6 ⟨rfl, hb6⟩; have SW := Lib.hid (SW.out.keep hb6); have X11 := Lib.hid (X11.out.keep hb6 X11.out.lt); have I11 := Lib.hid (I11.out.keep hb6); have X12 := Lib.hid (X12.out.keep hb6 X12.out.lt); have I12 := Lib.hid (I12.out.keep hb6); clear hb6)
                | (go_simp; go_at_call 53; (with_reducible refine (samePoset_yes p a12 a1 n12 n1 c12 c1 xs _ I12.out SW.out.i1).mono ?_); rintro e w6 ⟨rfl, hb6⟩; have SW := Lib.hid (SW.out.keep hb6); have X11 := Lib.hid (X11.out.keep hb6 X11.out.lt); have I11 := Lib.hid (I11.out.keep hb6); have X12 := Lib.hid (X12.out.keep hb6 X12.out.lt); have I12 := Lib.hid (I12.out.keep hb6); clear hb6)
                | (go_simp; go_at_call 54; (with_reducible refine (HJ.out.mi _ a1 n1 c1 SW.out.i1).mono ?_); rintro e w6 ⟨rfl, hb6⟩; have SW := Lib.hid (SW.out.keep hb6); have X11 := Lib.hid (X11.out.keep hb6 X11.out.lt); have I11 := Lib.hid (I11.out.keep hb6); have X12 := Lib.hid (X12.out.keep hb6 X12.out.lt); have I12 := Lib.hid (I12.out.keep hb6); clear hb6)
                | (go_simp; go_at_call 63; (with_reducible refine (Heu.out _ a2 n2 c2 SW.out.i2).mono ?_); rintro e w6 ⟨rfl, hb6⟩; have SW := Lib.hid (SW.out.keep hb6); have X11 := Lib.hid (X11.out.keep hb6 X11.out.lt); have I11 := Lib.hid (I11.out.keep hb6); have X12 := Lib.hid (X12.out.keep hb6 X12.out.lt); have I12 := Lib.hid (I12.out.keep hb6); clear hb6)
                | (go_simp; go_at_call 64; (with_reducible refine (Hfl.out _ a2 n2 c2 SW.out.i2).mono ?_); rintro e w6 ⟨rfl, hb6⟩; have SW := Lib.hid (SW.out.keep hb6); have X11 := Lib.hid (X11.out.keep hb6 X11.out.lt); have I11 := Lib.hid (I11.out.keep hb6); have X12 := Lib.hid (X12.out.keep hb6 X12.out.lt); have I12 := Lib.hid (I12.out.keep hb6); clear hb6))
              all_goals (go_wp2_with fail; go_ret)
              all_goals exact ⟨rfl, SW.out.below⟩
  · have hnn : 1048576 < n := by omega
    go_enter Tryz.func5, Tryz.ntmps5
    go_wp2_with (go_at_call 7; (with_reducible refine (big_yes ad n c _ hnn hnm).mono ?_); rintro e w' ⟨rfl, rfl⟩)
    go_ret
    exact ⟨rfl, Below.refl _ _⟩

end Go.Proofs.YtihfhfihladlcaaGreatDoor.lawFnPosets

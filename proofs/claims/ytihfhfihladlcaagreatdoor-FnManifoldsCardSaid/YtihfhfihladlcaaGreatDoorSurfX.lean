/- Texts of this claim, one behind the other: what each says stands at its head. -/
import Derived.Test.YtihfhfihladlcaaGreatDoorClosed
import Derived.Test.YtihfhfihladlcaaGreatDoorCounts3
import Derived.Test.YtihfhfihladlcaaGreatDoorPosTx
import Derived.Test.YtihfhfihladlcaaGreatDoorSurfT
/- SurfaceText of both sides. -/
namespace Go.Proofs.YtihfhfihladlcaaGreatDoor
set_option maxRecDepth 20000
open Go.RowKit
set_option linter.unusedSimpArgs false
set_option linter.unusedVariables false

def orW : List UInt8 := [111, 114, 105, 101, 110, 116, 97, 98, 108, 101]
def otW : List UInt8 := [111, 116, 104, 101, 114]
/-- the text of a surface with its Euler number -/
def surT (S : Bool) (E : Int) (O : Bool) : List UInt8 :=
  if S then (if E = 1 then [115, 112, 104, 101, 114, 101] else (if O then orW else otW) ++ [32] ++ [UInt8.ofNat (48 + (1 - E).toNat)]) else [110, 111]
theorem implSurX0 (p : Int) (a : Option Addr) (n c : Nat) (xs : List Int) (E : Int) (O : Bool) (w : World) (h : IntsAt w a n xs)
    (hS : ∀ W, IntsAt W a n xs → Calls Tryz.prog 74 #[.agg #[.int .i64 p, .slice a n c]] W fun e w' => e = .returned (.bool false) ∧ Below W.heap.size W w') :
    Calls Tryz.prog 40 #[.agg #[.int .i64 p, .slice a n c]] w fun e w' => e = .returned (.string (str (surT false E O))) ∧ Below w.heap.size w w' := by
  obtain ⟨w0, hw0⟩ : ∃ w0, w0 = w.alloc (.cells #[.int .i64 p, .slice a n c] 32) := ⟨_, rfl⟩
  have HB0 : Hid (Below w.heap.size w w0) := Lib.hid (by rw [hw0]; exact (by repeat (first | exact Below.refl _ _ | assumption | refine Below.setCell ?_ (by first | omega | (simp; done) | (simp; omega)) _ | refine Below.alloc ?_ (by first | omega | (simp; done) | (simp; omega)) _ | apply Below.drew)))
  have Hx0 : Hid (IntsAt w0 a n xs) := Lib.hid (h.keep HB0.out)
  have HS := Lib.hid hS
  have HW0 := Lib.hid hw0
  obtain ⟨R, hR⟩ : ∃ R, R = str (surT false E O) := ⟨_, rfl⟩
  have HR : Hid ((⟨#[110, 111]⟩ : ByteArray) = R) := Lib.hid (by rw [hR]; rfl)
  rw [← hR]
  clear h hw0 hS hR
  go_enter Tryz.func40, Tryz.ntmps40
  go_wp2_with fail
  rw [← HW0.out]
  refine (HS.out _ Hx0.out).mono ?_
  rintro e w1 ⟨rfl, hb1⟩
  have HB1 := Lib.hid (HB0.out.trans (hb1.mono HB0.out.size))
  clear hb1
  go_wp2_with fail
  go_ret
  exact ⟨by rw [← HR.out]; rfl, HB1.out⟩
theorem implSurX1 (p : Int) (a : Option Addr) (n c : Nat) (xs : List Int) (O : Bool) (w : World) (h : IntsAt w a n xs)
    (hS : ∀ W, IntsAt W a n xs → Calls Tryz.prog 74 #[.agg #[.int .i64 p, .slice a n c]] W fun e w' => e = .returned (.bool true) ∧ Below W.heap.size W w')
    (hE : ∀ W, IntsAt W a n xs → Calls Tryz.prog 114 #[.agg #[.int .i64 p, .slice a n c]] W fun e w' => e = .returned (.int .i64 1) ∧ Below W.heap.size W w') :
    Calls Tryz.prog 40 #[.agg #[.int .i64 p, .slice a n c]] w fun e w' => e = .returned (.string (str (surT true 1 O))) ∧ Below w.heap.size w w' := by
  obtain ⟨w0, hw0⟩ : ∃ w0, w0 = w.alloc (.cells #[.int .i64 p, .slice a n c] 32) := ⟨_, rfl⟩
  have HB0 : Hid (Below w.heap.size w w0) := Lib.hid (by rw [hw0]; exact (by repeat (first | exact Below.refl _ _ | assumption | refine Below.setCell ?_ (by first | omega | (simp; done) | (simp; omega)) _ | refine Below.alloc ?_ (by first | omega | (simp; done) | (simp; omega)) _ | apply Below.drew)))
  have X0 : Hid (BoxF w0 w.heap.size (.int .i64 p) (.slice a n c)) := Lib.hid (by rw [hw0]; exact BoxF.new _ _ _ _)
  have Hx0 : Hid (IntsAt w0 a n xs) := Lib.hid (h.keep HB0.out)
  have HS := Lib.hid hS
  have HE := Lib.hid hE
  have HW0 := Lib.hid hw0
  obtain ⟨R, hR⟩ : ∃ R, R = str (surT true 1 O) := ⟨_, rfl⟩
  have HR : Hid ((⟨#[115, 112, 104, 101, 114, 101]⟩ : ByteArray) = R) := Lib.hid (by rw [hR]; rfl)
  rw [← hR]
  clear h hw0 hS hE hR
  go_enter Tryz.func40, Tryz.ntmps40
  go_wp2_with fail
  rw [← HW0.out]
  refine (HS.out _ Hx0.out).mono ?_
  rintro e w1 ⟨rfl, hb1⟩
  have HB1 := Lib.hid (HB0.out.trans (hb1.mono HB0.out.size))
  have X1 := Lib.hid (X0.out.keep hb1 X0.out.lt)
  have Hx1 := Lib.hid (Hx0.out.keep hb1)
  clear hb1
  obtain ⟨p0, p1, _, _, _⟩ := X1.out
  go_wp2_with fail
  refine (HE.out _ Hx1.out).mono ?_
  rintro e w2 ⟨rfl, hb2⟩
  have HB2 := Lib.hid (HB1.out.trans (hb2.mono HB1.out.size))
  clear hb2
  go_wp2_with fail
  go_ret
  exact ⟨by rw [← HR.out]; rfl, HB2.out⟩
theorem implSurX2 (p : Int) (a : Option Addr) (n c : Nat) (xs : List Int) (E : Int) (O : Bool) (w : World) (h : IntsAt w a n xs) (he1 : E ≤ 0) (he6 : -6 ≤ E)
    (hS : ∀ W, IntsAt W a n xs → Calls Tryz.prog 74 #[.agg #[.int .i64 p, .slice a n c]] W fun e w' => e = .returned (.bool true) ∧ Below W.heap.size W w')
    (hE : ∀ W, IntsAt W a n xs → Calls Tryz.prog 114 #[.agg #[.int .i64 p, .slice a n c]] W fun e w' => e = .returned (.int .i64 E) ∧ Below W.heap.size W w')
    (hO : ∀ W, IntsAt W a n xs → Calls Tryz.prog 76 #[.agg #[.int .i64 p, .slice a n c]] W fun e w' => e = .returned (.bool O) ∧ Below W.heap.size W w') :
    Calls Tryz.prog 40 #[.agg #[.int .i64 p, .slice a n c]] w fun e w' => e = .returned (.string (str (surT true E O))) ∧ Below w.heap.size w w' := by
  obtain ⟨w0, hw0⟩ : ∃ w0, w0 = w.alloc (.cells #[.int .i64 p, .slice a n c] 32) := ⟨_, rfl⟩
  have HB0 : Hid (Below w.heap.size w w0) := Lib.hid (by rw [hw0]; exact (by repeat (first | exact Below.refl _ _ | assumption | refine Below.setCell ?_ (by first | omega | (simp; done) | (simp; omega)) _ | refine Below.alloc ?_ (by first | omega | (simp; done) | (simp; omega)) _ | apply Below.drew)))
  have X0 : Hid (BoxF w0 w.heap.size (.int .i64 p) (.slice a n c)) := Lib.hid (by rw [hw0]; exact BoxF.new _ _ _ _)
  have Hx0 : Hid (IntsAt w0 a n xs) := Lib.hid (h.keep HB0.out)
  have HS := Lib.hid hS
  have HE := Lib.hid hE
  have HO := Lib.hid hO
  have HW0 := Lib.hid hw0
  obtain ⟨R, hR⟩ : ∃ R, R = str (surT true E O) := ⟨_, rfl⟩
  obtain ⟨k, hk⟩ : ∃ k : Nat, k = (1 - E).toNat := ⟨_, rfl⟩
  have hkE : (k : Int) = 1 - E := by omega
  have hF : ∀ W, Calls Tryz.prog 104 #[.int .i64 k] W fun e w' => e = .returned (.string (str [UInt8.ofNat (48 + k)])) ∧ Below W.heap.size W w' :=
    fun W => by first | exact iFormat_one k W (by omega) | exact sFormat_one k W (by omega) (by omega)
  obtain ⟨D, hD⟩ : ∃ D, D = str [UInt8.ofNat (48 + k)] := ⟨_, rfl⟩
  have hD1 : D.size = 1 := by rw [hD]; exact str_size _
  have HR : Hid (R = str (if O then orW else otW) ++ str [32] ++ D) := Lib.hid (by
    rw [hR, hD, str_append, str_append]
    unfold surT
    rw [if_pos rfl, if_neg (by omega), ← hk])
  rw [← hR]
  rw [← hD] at hF
  have HF := Lib.hid hF
  have hb1 : (E == 1) = false := by simp; omega
  have hw1 : IntKind.i64.wrap (1 - E) = k := by rw [hkE]; exact IntWalk.i64_in _ (by omega)
  have hw2 : wrap64 (1 - E) = k := by rw [hkE]; unfold wrap64; omega
  clear h hw0 hS hE hR hO hD hF hk hkE he1 he6
  go_enter Tryz.func40, Tryz.ntmps40
  go_wp2_with fail
  rw [← HW0.out]
  refine (HS.out _ Hx0.out).mono ?_
  rintro e w1 ⟨rfl, hb1⟩
  have HB1 := Lib.hid (HB0.out.trans (hb1.mono HB0.out.size))
  have X1 := Lib.hid (X0.out.keep hb1 X0.out.lt)
  have Hx1 := Lib.hid (Hx0.out.keep hb1)
  clear hb1
  obtain ⟨p0, p1, _, _, _⟩ := X1.out
  go_wp2_with fail
  refine (HE.out _ Hx1.out).mono ?_
  rintro e w2 ⟨rfl, hb2⟩
  have HB2 := Lib.hid (HB1.out.trans (hb2.mono HB1.out.size))
  have X2 := Lib.hid (X1.out.keep hb2 X1.out.lt)
  have Hx2 := Lib.hid (Hx1.out.keep hb2)
  clear hb2
  clear p0 p1
  obtain ⟨p0, p1, _, _, _⟩ := X2.out
  go_wp2_with fail
  refine (HO.out _ Hx2.out).mono ?_
  rintro e w3 ⟨rfl, hb3⟩
  have HB3 := Lib.hid (HB2.out.trans (hb3.mono HB2.out.size))
  have X3 := Lib.hid (X2.out.keep hb3 X2.out.lt)
  have Hx3 := Lib.hid (Hx2.out.keep hb3)
  clear hb3
  clear p0 p1
  obtain ⟨p0, p1, _, _, _⟩ := X3.out
  cases O
  all_goals
    go_wp2_with fail
    refine (HE.out _ Hx3.out).mono ?_
    rintro e w4 ⟨rfl, hb4⟩
    have HB4 := Lib.hid (HB3.out.trans (hb4.mono HB3.out.size))
    clear hb4
    go_wp2_with fail
    refine (HF.out _).mono ?_
    rintro e w5 ⟨rfl, hb5⟩
    have HB5 := Lib.hid (HB4.out.trans (hb5.mono HB4.out.size))
    clear hb5
    go_wp2_with fail
    go_ret
    exact ⟨by rw [HR.out]; rfl, HB5.out⟩
theorem specSurX0 (p : Int) (a : Option Addr) (n c : Nat) (xs : List Int) (E : Int) (O : Bool) (w : World) (h : IntsAt w a n xs)
    (hS : ∀ W, IntsAt W a n xs → Calls Tryz.prog 75 #[.agg #[.int .i64 p, .slice a n c]] W fun e w' => e = .returned (.bool false) ∧ Below W.heap.size W w') :
    Calls Tryz.prog 38 #[.agg #[.int .i64 p, .slice a n c]] w fun e w' => e = .returned (.string (str (surT false E O))) ∧ Below w.heap.size w w' := by
  obtain ⟨w0, hw0⟩ : ∃ w0, w0 = w.alloc (.cells #[.int .i64 p, .slice a n c] 32) := ⟨_, rfl⟩
  have HB0 : Hid (Below w.heap.size w w0) := Lib.hid (by rw [hw0]; exact (by repeat (first | exact Below.refl _ _ | assumption | refine Below.setCell ?_ (by first | omega | (simp; done) | (simp; omega)) _ | refine Below.alloc ?_ (by first | omega | (simp; done) | (simp; omega)) _ | apply Below.drew)))
  have Hx0 : Hid (IntsAt w0 a n xs) := Lib.hid (h.keep HB0.out)
  have HS := Lib.hid hS
  have HW0 := Lib.hid hw0
  obtain ⟨R, hR⟩ : ∃ R, R = str (surT false E O) := ⟨_, rfl⟩
  have HR : Hid ((⟨#[110, 111]⟩ : ByteArray) = R) := Lib.hid (by rw [hR]; rfl)
  rw [← hR]
  clear h hw0 hS hR
  go_enter Tryz.func38, Tryz.ntmps38
  go_wp2_with fail
  rw [← HW0.out]
  refine (HS.out _ Hx0.out).mono ?_
  rintro e w1 ⟨rfl, hb1⟩
  have HB1 := Lib.hid (HB0.out.trans (hb1.mono HB0.out.size))
  clear hb1
  go_wp2_with fail
  go_ret
  exact ⟨by rw [← HR.out]; rfl, HB1.out⟩
theorem specSurX1 (p : Int) (a : Option Addr) (n c : Nat) (xs : List Int) (O : Bool) (w : World) (h : IntsAt w a n xs)
    (hS : ∀ W, IntsAt W a n xs → Calls Tryz.prog 75 #[.agg #[.int .i64 p, .slice a n c]] W fun e w' => e = .returned (.bool true) ∧ Below W.heap.size W w')
    (hE : ∀ W, IntsAt W a n xs → Calls Tryz.prog 63 #[.agg #[.int .i64 p, .slice a n c]] W fun e w' => e = .returned (.int .i64 1) ∧ Below W.heap.size W w') :
    Calls Tryz.prog 38 #[.agg #[.int .i64 p, .slice a n c]] w fun e w' => e = .returned (.string (str (surT true 1 O))) ∧ Below w.heap.size w w' := by
  obtain ⟨w0, hw0⟩ : ∃ w0, w0 = w.alloc (.cells #[.int .i64 p, .slice a n c] 32) := ⟨_, rfl⟩
  have HB0 : Hid (Below w.heap.size w w0) := Lib.hid (by rw [hw0]; exact (by repeat (first | exact Below.refl _ _ | assumption | refine Below.setCell ?_ (by first | omega | (simp; done) | (simp; omega)) _ | refine Below.alloc ?_ (by first | omega | (simp; done) | (simp; omega)) _ | apply Below.drew)))
  have X0 : Hid (BoxF w0 w.heap.size (.int .i64 p) (.slice a n c)) := Lib.hid (by rw [hw0]; exact BoxF.new _ _ _ _)
  have Hx0 : Hid (IntsAt w0 a n xs) := Lib.hid (h.keep HB0.out)
  have HS := Lib.hid hS
  have HE := Lib.hid hE
  have HW0 := Lib.hid hw0
  obtain ⟨R, hR⟩ : ∃ R, R = str (surT true 1 O) := ⟨_, rfl⟩
  have HR : Hid ((⟨#[115, 112, 104, 101, 114, 101]⟩ : ByteArray) = R) := Lib.hid (by rw [hR]; rfl)
  rw [← hR]
  clear h hw0 hS hE hR
  go_enter Tryz.func38, Tryz.ntmps38
  go_wp2_with fail
  rw [← HW0.out]
  refine (HS.out _ Hx0.out).mono ?_
  rintro e w1 ⟨rfl, hb1⟩
  have HB1 := Lib.hid (HB0.out.trans (hb1.mono HB0.out.size))
  have X1 := Lib.hid (X0.out.keep hb1 X0.out.lt)
  have Hx1 := Lib.hid (Hx0.out.keep hb1)
  clear hb1
  obtain ⟨p0, p1, _, _, _⟩ := X1.out
  go_wp2_with fail
  refine (HE.out _ Hx1.out).mono ?_
  rintro e w2 ⟨rfl, hb2⟩
  have HB2 := Lib.hid (HB1.out.trans (hb2.mono HB1.out.size))
  clear hb2
  go_wp2_with fail
  go_ret
  exact ⟨by rw [← HR.out]; rfl, HB2.out⟩
theorem specSurX2 (p : Int) (a : Option Addr) (n c : Nat) (xs : List Int) (E : Int) (O : Bool) (w : World) (h : IntsAt w a n xs) (he1 : E ≤ 0) (he6 : -6 ≤ E)
    (hS : ∀ W, IntsAt W a n xs → Calls Tryz.prog 75 #[.agg #[.int .i64 p, .slice a n c]] W fun e w' => e = .returned (.bool true) ∧ Below W.heap.size W w')
    (hE : ∀ W, IntsAt W a n xs → Calls Tryz.prog 63 #[.agg #[.int .i64 p, .slice a n c]] W fun e w' => e = .returned (.int .i64 E) ∧ Below W.heap.size W w')
    (hO : ∀ W, IntsAt W a n xs → Calls Tryz.prog 77 #[.agg #[.int .i64 p, .slice a n c]] W fun e w' => e = .returned (.bool O) ∧ Below W.heap.size W w') :
    Calls Tryz.prog 38 #[.agg #[.int .i64 p, .slice a n c]] w fun e w' => e = .returned (.string (str (surT true E O))) ∧ Below w.heap.size w w' := by
  obtain ⟨w0, hw0⟩ : ∃ w0, w0 = w.alloc (.cells #[.int .i64 p, .slice a n c] 32) := ⟨_, rfl⟩
  have HB0 : Hid (Below w.heap.size w w0) := Lib.hid (by rw [hw0]; exact (by repeat (first | exact Below.refl _ _ | assumption | refine Below.setCell ?_ (by first | omega | (simp; done) | (simp; omega)) _ | refine Below.alloc ?_ (by first | omega | (simp; done) | (simp; omega)) _ | apply Below.drew)))
  have X0 : Hid (BoxF w0 w.heap.size (.int .i64 p) (.slice a n c)) := Lib.hid (by rw [hw0]; exact BoxF.new _ _ _ _)
  have Hx0 : Hid (IntsAt w0 a n xs) := Lib.hid (h.keep HB0.out)
  have HS := Lib.hid hS
  have HE := Lib.hid hE
  have HO := Lib.hid hO
  have HW0 := Lib.hid hw0
  obtain ⟨R, hR⟩ : ∃ R, R = str (surT true E O) := ⟨_, rfl⟩
  obtain ⟨k, hk⟩ : ∃ k : Nat, k = (1 - E).toNat := ⟨_, rfl⟩
  have hkE : (k : Int) = 1 - E := by omega
  have hF : ∀ W, Calls Tryz.prog 112 #[.int .i64 k] W fun e w' => e = .returned (.string (str [UInt8.ofNat (48 + k)])) ∧ Below W.heap.size W w' :=
    fun W => by first | exact iFormat_one k W (by omega) | exact sFormat_one k W (by omega) (by omega)
  obtain ⟨D, hD⟩ : ∃ D, D = str [UInt8.ofNat (48 + k)] := ⟨_, rfl⟩
  have hD1 : D.size = 1 := by rw [hD]; exact str_size _
  have HR : Hid (R = str (if O then orW else otW) ++ str [32] ++ D) := Lib.hid (by
    rw [hR, hD, str_append, str_append]
    unfold surT
    rw [if_pos rfl, if_neg (by omega), ← hk])
  rw [← hR]
  rw [← hD] at hF
  have HF := Lib.hid hF
  have hb1 : (E == 1) = false := by simp; omega
  have hw1 : IntKind.i64.wrap (1 - E) = k := by rw [hkE]; exact IntWalk.i64_in _ (by omega)
  have hw2 : wrap64 (1 - E) = k := by rw [hkE]; unfold wrap64; omega
  clear h hw0 hS hE hR hO hD hF hk hkE he1 he6
  go_enter Tryz.func38, Tryz.ntmps38
  go_wp2_with fail
  rw [← HW0.out]
  refine (HS.out _ Hx0.out).mono ?_
  rintro e w1 ⟨rfl, hb1⟩
  have HB1 := Lib.hid (HB0.out.trans (hb1.mono HB0.out.size))
  have X1 := Lib.hid (X0.out.keep hb1 X0.out.lt)
  have Hx1 := Lib.hid (Hx0.out.keep hb1)
  clear hb1
  obtain ⟨p0, p1, _, _, _⟩ := X1.out
  go_wp2_with fail
  refine (HE.out _ Hx1.out).mono ?_
  rintro e w2 ⟨rfl, hb2⟩
  have HB2 := Lib.hid (HB1.out.trans (hb2.mono HB1.out.size))
  have X2 := Lib.hid (X1.out.keep hb2 X1.out.lt)
  have Hx2 := Lib.hid (Hx1.out.keep hb2)
  clear hb2
  clear p0 p1
  obtain ⟨p0, p1, _, _, _⟩ := X2.out
  go_wp2_with fail
  refine (HO.out _ Hx2.out).mono ?_
  rintro e w3 ⟨rfl, hb3⟩
  have HB3 := Lib.hid (HB2.out.trans (hb3.mono HB2.out.size))
  have X3 := Lib.hid (X2.out.keep hb3 X2.out.lt)
  have Hx3 := Lib.hid (Hx2.out.keep hb3)
  clear hb3
  clear p0 p1
  obtain ⟨p0, p1, _, _, _⟩ := X3.out
  cases O
  all_goals
    go_wp2_with fail
    refine (HE.out _ Hx3.out).mono ?_
    rintro e w4 ⟨rfl, hb4⟩
    have HB4 := Lib.hid (HB3.out.trans (hb4.mono HB3.out.size))
    clear hb4
    go_wp2_with fail
    refine (HF.out _).mono ?_
    rintro e w5 ⟨rfl, hb5⟩
    have HB5 := Lib.hid (HB4.out.trans (hb5.mono HB4.out.size))
    clear hb5
    go_wp2_with fail
    go_ret
    exact ⟨by rw [HR.out]; rfl, HB5.out⟩
/-- the text of a valid complex -/
def surV (m : Nat) (l : List Nat) : List UInt8 := surT (srfB m l) (eul (isFace l)) (oriB m l)
theorem iSurTV {m : Nat} {l : List Nat} (hC : Cpx m l) (a : Option Addr) (n c : Nat) (w : World) (h : IntsAt w a n (up l)) (hcap : n ≤ c) :
    Calls Tryz.prog 40 #[.agg #[.int .i64 m, .slice a n c]] w fun e w' => e = .returned (.string (str (surV m l))) ∧ Below w.heap.size w w' := by
  have hS := fun W hW => iSurfV hC a n c W hW hcap
  have hE := fun W hW => iEuler_yes hC a n c W hW hcap
  unfold surV
  cases hb : srfB m l
  · rw [hb] at hS
    exact implSurX0 m a n c _ _ _ w h hS
  · rw [hb] at hS
    have hs := srf_of hC hb
    by_cases he : eul (isFace l) = 1
    · rw [he] at hE ⊢
      exact implSurX1 m a n c _ _ w h hS hE
    · exact implSurX2 m a n c _ _ _ w h (by have := hs.eul1.1; omega) hs.eulLow hS hE fun W hW => iOriV hC a n c W hW hcap
theorem iSurTN {p : Int} {xs : List Int} (hno : ¬ Anti p xs) (a : Option Addr) (n c : Nat) (w : World) (h : IntsAt w a n xs) (hcap : n ≤ c) :
    Calls Tryz.prog 40 #[.agg #[.int .i64 p, .slice a n c]] w fun e w' => e = .returned (.string (str (surT false 0 false))) ∧ Below w.heap.size w w' :=
  implSurX0 p a n c xs 0 false w h fun W hW => iSurfN hno a n c W hW hcap
theorem sSurTV {m : Nat} {l : List Nat} (hC : Cpx m l) (a : Option Addr) (n c : Nat) (w : World) (h : IntsAt w a n (up l)) :
    Calls Tryz.prog 38 #[.agg #[.int .i64 m, .slice a n c]] w fun e w' => e = .returned (.string (str (surV m l))) ∧ Below w.heap.size w w' := by
  have hS := fun W hW => sSurfV hC a n c W hW
  have hE := fun W hW => sEuler_yes m a n c l W hW hC.anti hC.lt64
  unfold surV
  cases hb : srfB m l
  · rw [hb] at hS
    exact specSurX0 m a n c _ _ _ w h hS
  · rw [hb] at hS
    have hs := srf_of hC hb
    by_cases he : eul (isFace l) = 1
    · rw [he] at hE ⊢
      exact specSurX1 m a n c _ _ w h hS hE
    · exact specSurX2 m a n c _ _ _ w h (by have := hs.eul1.1; omega) hs.eulLow hS hE fun W hW => sOriV hC a n c W hW
theorem sSurTN {p : Int} {xs : List Int} (hno : ¬ Anti p xs) (a : Option Addr) (n c : Nat) (w : World) (h : IntsAt w a n xs) :
    Calls Tryz.prog 38 #[.agg #[.int .i64 p, .slice a n c]] w fun e w' => e = .returned (.string (str (surT false 0 false))) ∧ Below w.heap.size w w' :=
  specSurX0 p a n c xs 0 false w h fun W hW => sSurfN hno a n c W hW
end Go.Proofs.YtihfhfihladlcaaGreatDoor

/- All that the law of manifolds asks of one complex, both sides, valid or not. -/
namespace Go.Proofs.YtihfhfihladlcaaGreatDoor
set_option maxRecDepth 20000
open Go.RowKit
set_option linter.unusedSimpArgs false
set_option linter.unusedVariables false

theorem iOriN {p : Int} {xs : List Int} (hno : ¬ Anti p xs) (a : Option Addr) (n c : Nat) (w : World) (h : IntsAt w a n xs) (hcap : n ≤ c) :
    Calls Tryz.prog 76 #[.agg #[.int .i64 p, .slice a n c]] w fun e w' => e = .returned (.bool false) ∧ Below w.heap.size w w' := by
  obtain ⟨w0, hw0⟩ : ∃ w0, w0 = w.alloc (.cells #[.int .i64 p, .slice a n c] 32) := ⟨_, rfl⟩
  have HB0 : Hid (Below w.heap.size w w0) := Lib.hid (by rw [hw0]; exact (by repeat (first | exact Below.refl _ _ | assumption | refine Below.setCell ?_ (by first | omega | (simp; done) | (simp; omega)) _ | refine Below.alloc ?_ (by first | omega | (simp; done) | (simp; omega)) _ | apply Below.drew)))
  have Hx0 : Hid (IntsAt w0 a n xs) := Lib.hid (h.keep HB0.out)
  have HS : Hid (∀ W, IntsAt W a n xs → Calls Tryz.prog 74 #[.agg #[.int .i64 p, .slice a n c]] W fun e w' => e = .returned (.bool false) ∧ Below W.heap.size W w') := Lib.hid fun W hW => iSurfN hno a n c W hW hcap
  have HW0 := Lib.hid hw0
  clear h hw0 hno
  go_enter Tryz.func76, Tryz.ntmps76
  go_wp2_with fail
  rw [← HW0.out]
  refine (HS.out _ Hx0.out).mono ?_
  rintro e w1 ⟨rfl, hb1⟩
  have HB1 := Lib.hid (HB0.out.trans (hb1.mono HB0.out.size))
  clear hb1
  go_wp2_with fail
  go_ret
  exact ⟨rfl, HB1.out⟩
theorem sOriN {p : Int} {xs : List Int} (hno : ¬ Anti p xs) (a : Option Addr) (n c : Nat) (w : World) (h : IntsAt w a n xs) :
    Calls Tryz.prog 77 #[.agg #[.int .i64 p, .slice a n c]] w fun e w' => e = .returned (.bool false) ∧ Below w.heap.size w w' := by
  obtain ⟨w0, hw0⟩ : ∃ w0, w0 = w.alloc (.cells #[.int .i64 p, .slice a n c] 32) := ⟨_, rfl⟩
  have HB0 : Hid (Below w.heap.size w w0) := Lib.hid (by rw [hw0]; exact (by repeat (first | exact Below.refl _ _ | assumption | refine Below.setCell ?_ (by first | omega | (simp; done) | (simp; omega)) _ | refine Below.alloc ?_ (by first | omega | (simp; done) | (simp; omega)) _ | apply Below.drew)))
  have X0 : Hid (BoxF w0 w.heap.size (.int .i64 p) (.slice a n c)) := Lib.hid (by rw [hw0]; exact BoxF.new _ _ _ _)
  have Hx0 : Hid (IntsAt w0 a n xs) := Lib.hid (h.keep HB0.out)
  have HS : Hid (∀ W, IntsAt W a n xs → Calls Tryz.prog 75 #[.agg #[.int .i64 p, .slice a n c]] W fun e w' => e = .returned (.bool false) ∧ Below W.heap.size W w') := Lib.hid fun W hW => sSurfN hno a n c W hW
  have HH : Hid (∀ W, IntsAt W a n xs → Calls Tryz.prog 62 #[.agg #[.int .i64 p, .slice a n c], .int .i64 3] W (RetInts W [])) := Lib.hid fun W hW => sHoles_no p a n c xs 3 W hW hno (.inr (.inl rfl))
  have HW0 := Lib.hid hw0
  clear h hw0 hno
  go_enter Tryz.func77, Tryz.ntmps77
  go_wp2_with fail
  rw [← HW0.out]
  refine (HH.out _ Hx0.out).mono ?_
  rintro e w1 ⟨ad, k, d, rfl, own, hb1⟩
  have HB1 := Lib.hid (HB0.out.trans (hb1.mono HB0.out.size))
  have X1 := Lib.hid (X0.out.keep hb1 X0.out.lt)
  have Hx1 := Lib.hid (Hx0.out.keep hb1)
  clear hb1 own
  obtain ⟨p0, p1, _, _, _⟩ := X1.out
  go_wp2_with fail
  refine (HS.out _ Hx1.out).mono ?_
  rintro e w2 ⟨rfl, hb2⟩
  have HB2 := Lib.hid (HB1.out.trans (hb2.mono HB1.out.size))
  clear hb2
  go_wp2_with fail
  go_ret
  exact ⟨rfl, HB2.out⟩

/-- the contracts -/
structure ManC (p : Int) (xs : List Int) (P : Int) (zs : List Int) (b : Bool) (rs : List Int) (ch cl su ot : Bool) (T : ByteArray) (D : Int) : Prop where
  es : ∀ W a n c, IntsAt W a n xs → Calls Tryz.prog 67 #[.agg #[.int .i64 p, .slice a n c]] W (RetBox2 W P zs b)
  ei : ∀ W a n c, IntsAt W a n xs → n ≤ c → Calls Tryz.prog 66 #[.agg #[.int .i64 p, .slice a n c]] W (RetBox2 W P zs b)
  rr : ∀ W a n c, IntsAt W a n xs → Calls Tryz.prog 69 #[.agg #[.int .i64 p, .slice a n c]] W (RetInts W rs)
  ri : ∀ W a n c, IntsAt W a n xs → n ≤ c → Calls Tryz.prog 68 #[.agg #[.int .i64 p, .slice a n c]] W (RetInts W rs)
  cs : ∀ W a n c, IntsAt W a n xs → Calls Tryz.prog 71 #[.agg #[.int .i64 p, .slice a n c]] W fun e w' => e = .returned (.bool ch) ∧ Below W.heap.size W w'
  ci : ∀ W a n c, IntsAt W a n xs → n ≤ c → Calls Tryz.prog 70 #[.agg #[.int .i64 p, .slice a n c]] W fun e w' => e = .returned (.bool ch) ∧ Below W.heap.size W w'
  ls : ∀ W a n c, IntsAt W a n xs → Calls Tryz.prog 73 #[.agg #[.int .i64 p, .slice a n c]] W fun e w' => e = .returned (.bool cl) ∧ Below W.heap.size W w'
  li : ∀ W a n c, IntsAt W a n xs → n ≤ c → Calls Tryz.prog 72 #[.agg #[.int .i64 p, .slice a n c]] W fun e w' => e = .returned (.bool cl) ∧ Below W.heap.size W w'
  ss : ∀ W a n c, IntsAt W a n xs → Calls Tryz.prog 75 #[.agg #[.int .i64 p, .slice a n c]] W fun e w' => e = .returned (.bool su) ∧ Below W.heap.size W w'
  si : ∀ W a n c, IntsAt W a n xs → n ≤ c → Calls Tryz.prog 74 #[.agg #[.int .i64 p, .slice a n c]] W fun e w' => e = .returned (.bool su) ∧ Below W.heap.size W w'
  os : ∀ W a n c, IntsAt W a n xs → Calls Tryz.prog 77 #[.agg #[.int .i64 p, .slice a n c]] W fun e w' => e = .returned (.bool ot) ∧ Below W.heap.size W w'
  oi : ∀ W a n c, IntsAt W a n xs → n ≤ c → Calls Tryz.prog 76 #[.agg #[.int .i64 p, .slice a n c]] W fun e w' => e = .returned (.bool ot) ∧ Below W.heap.size W w'
  ts : ∀ W a n c, IntsAt W a n xs → Calls Tryz.prog 38 #[.agg #[.int .i64 p, .slice a n c]] W fun e w' => e = .returned (.string T) ∧ Below W.heap.size W w'
  ti : ∀ W a n c, IntsAt W a n xs → n ≤ c → Calls Tryz.prog 40 #[.agg #[.int .i64 p, .slice a n c]] W fun e w' => e = .returned (.string T) ∧ Below W.heap.size W w'
  ds : ∀ W a n c, IntsAt W a n xs → Calls Tryz.prog 78 #[.agg #[.int .i64 p, .slice a n c]] W fun e w' => e = .returned (.int .i64 D) ∧ Below W.heap.size W w'
/-- what holds for a surface -/
def SurfFacts (p : Int) (xs : List Int) (ot : Bool) : Prop :=
  ∃ (f h5 h2 : List Int) (E : Int), f.length = 4 ∧ h5.length = 4 ∧ h2.length = 4 ∧ 3 * nth f 3 = 2 * nth f 2 ∧ (0 ≤ nth f 3 ∧ nth f 3 ≤ 64 ∧ 0 ≤ nth f 2 ∧ nth f 2 ≤ 64) ∧ ot = (nth h5 3 == 1) ∧ nth h2 3 = 1 ∧ (E = 1 → ot = true) ∧
    (∀ W a n c, IntsAt W a n xs → Calls Tryz.prog 60 #[.agg #[.int .i64 p, .slice a n c]] W (RetInts W f)) ∧
    (∀ W a n c, IntsAt W a n xs → Calls Tryz.prog 62 #[.agg #[.int .i64 p, .slice a n c], .int .i64 5] W (RetInts W h5)) ∧
    (∀ W a n c, IntsAt W a n xs → Calls Tryz.prog 62 #[.agg #[.int .i64 p, .slice a n c], .int .i64 2] W (RetInts W h2)) ∧
    (∀ W a n c, IntsAt W a n xs → Calls Tryz.prog 63 #[.agg #[.int .i64 p, .slice a n c]] W fun e w' => e = .returned (.int .i64 E) ∧ Below W.heap.size W w')
/-- what holds for the edge -/
def EdgeFacts (rs : List Int) (b : Bool) (P : Int) (zs : List Int) (D : Int) : Prop :=
  (∀ x ∈ rs, x ≤ 2) → b = true → zs ≠ [] → 1 ≤ D → ∃ es : List Int, (∀ x ∈ es, 0 ≤ x ∧ x % 2 = 0) ∧ ∀ W a n c, IntsAt W a n zs → n ≤ c → Calls Tryz.prog 68 #[.agg #[.int .i64 P, .slice a n c]] W (RetInts W es)
theorem surf_facts {m : Nat} {l : List Nat} (hC : Cpx m l) (h : srfB m l = true) : SurfFacts m (up l) (oriB m l) := by
  have hs := srf_of hC h
  have hT : topTo (isFace l) 64 = 4 := by unfold srfB at h; simp only [Bool.and_eq_true, decide_eq_true_eq] at h; exact h.1
  have hl4 : (cntOf (isFace l)).length = 4 := by rw [cnt_len2, hT]
  obtain ⟨l5, e5⟩ := last_hole hC h (p := 5)
  obtain ⟨l2, e2⟩ := last_hole hC h (p := 2)
  have c3 : nth (up (cntOf (isFace l))) 3 = ((lvlTo (isFace l) 64 3).length : Int) := by rw [nth_up, cnt_at (by omega)]
  have c2 : nth (up (cntOf (isFace l))) 2 = ((lvlTo (isFace l) 64 2).length : Int) := by rw [nth_up, cnt_at (by omega)]
  have b3 := lvl_len (isFace l) 64 3
  have b2 := lvl_len (isFace l) 64 2
  have hct := hs.counts
  have hor : oriB m l = decide (holeN 3 (isFace l) 3 = 1) := by unfold oriB; rw [h, Bool.true_and]
  refine ⟨up (cntOf (isFace l)), holesL 5 (isFace l), holesL 2 (isFace l), eul (isFace l), by rw [up_len]; exact hl4, l5, l2, by omega, by omega, ?_, by rw [e2]; exact hs.mod2, ?_,
    fun W a n c hW => sCounts_yes m a n c l W hW hC.anti hC.lt64, fun W a n c hW => sHoles_yes m a n c l 5 W hW hC.anti hC.lt64 (.inr (.inr rfl)), fun W a n c hW => sHoles_yes m a n c l 2 W hW hC.anti hC.lt64 (.inl rfl), fun W a n c hW => sEuler_yes m a n c l W hW hC.anti hC.lt64⟩
  · rw [hor, e5, Bool.eq_iff_iff]
    simp only [decide_eq_true_eq, beq_iff_eq]
    rw [(hs.ori3 (.inl rfl)).2, (hs.ori3 (.inr rfl)).2]
  · intro he
    rw [hor]; simp [hs.eul1.2 he]
theorem edge_facts {m : Nat} {l : List Nat} (hC : Cpx m l) : EdgeFacts (up (rdgV l)) (edB l) (edP m l) (up (edL l)) ((topL l : Int) - 2) := by
  intro h2 hb hne hD
  obtain ⟨hp, hT⟩ := edB_yes hb
  have hne' : edL l ≠ [] := fun e => hne (by rw [e]; rfl)
  have hev := edge_even hC hp (by omega) (fun x hx => by have := h2 (x : Int) (List.mem_map.2 ⟨x, hx, rfl⟩); omega) hne'
  refine ⟨up (rdgV (edL l)), fun x hx => ?_, fun W a n c hW hc => ?_⟩
  · obtain ⟨y, hy, rfl⟩ := List.mem_map.1 hx
    have := hev y hy
    omega
  · rw [edP_yes hb]
    exact iRCV (edL_cpx hC hb) a n c W hW hc
theorem mani (p : Int) (xs : List Int) : ∃ (P : Int) (zs : List Int) (b : Bool) (rs : List Int) (ch cl su ot : Bool) (T : ByteArray) (D : Int),
    ManC p xs P zs b rs ch cl su ot T D ∧ (cl = true → b = true ∧ zs = []) ∧ (su = true → SurfFacts p xs ot) ∧ EdgeFacts rs b P zs D := by
  by_cases h : Anti p xs
  · obtain ⟨l, rfl, hl2, hs, _⟩ := h.nat
    obtain ⟨m, rfl⟩ : ∃ m : Nat, p = m := ⟨p.toNat, by have := h.1; omega⟩
    have hC := Cpx.of h
    refine ⟨edP m l, up (edL l), edB l, up (rdgV l), chB l, clB l, srfB m l, oriB m l, str (surV m l), (topL l : Int) - 2, ⟨?_, ?_, ?_, ?_, ?_, ?_, ?_, ?_, ?_, ?_, ?_, ?_, ?_, ?_, ?_⟩, ?_, ?_, ?_⟩
    · exact fun W a n c hW => sEdgeV hC a n c W hW
    · exact fun W a n c hW hc => iEdgeV hC a n c W hW hc
    · exact fun W a n c hW => sRCV hC a n c W hW
    · exact fun W a n c hW hc => iRCV hC a n c W hW hc
    · exact fun W a n c hW => sChainedV hC a n c W hW
    · exact fun W a n c hW hc => iChainedV hC a n c W hW hc
    · exact fun W a n c hW => sClosedV hC a n c W hW
    · exact fun W a n c hW hc => iClosedV hC a n c W hW hc
    · exact fun W a n c hW => sSurfV hC a n c W hW
    · exact fun W a n c hW hc => iSurfV hC a n c W hW hc
    · exact fun W a n c hW => sOriV hC a n c W hW
    · exact fun W a n c hW hc => iOriV hC a n c W hW hc
    · exact fun W a n c hW => sSurTV hC a n c W hW
    · exact fun W a n c hW hc => iSurTV hC a n c W hW hc
    · exact fun W a n c hW => sDimV hC a n c W hW
    · exact fun hc => ⟨(closed_edge hc).1, by rw [(closed_edge hc).2]; rfl⟩
    · exact fun hs => surf_facts hC hs
    · exact edge_facts hC
  · refine ⟨0, [], false, [], false, false, false, false, str (surT false 0 false), -2, ⟨?_, ?_, ?_, ?_, ?_, ?_, ?_, ?_, ?_, ?_, ?_, ?_, ?_, ?_, ?_⟩, fun h => (by cases h), fun h => (by cases h), fun _ h => (by cases h)⟩
    · exact fun W a n c hW => sEdgeN h a n c W hW
    · exact fun W a n c hW hc => iEdgeN h a n c W hW hc
    · exact fun W a n c hW => sRCN h a n c W hW
    · exact fun W a n c hW hc => iRCN h a n c W hW hc
    · exact fun W a n c hW => sChainedN h a n c W hW
    · exact fun W a n c hW hc => iChainedN h a n c W hW hc
    · exact fun W a n c hW => sClosedN h a n c W hW
    · exact fun W a n c hW hc => iClosedN h a n c W hW hc
    · exact fun W a n c hW => sSurfN h a n c W hW
    · exact fun W a n c hW hc => iSurfN h a n c W hW hc
    · exact fun W a n c hW => sOriN h a n c W hW
    · exact fun W a n c hW hc => iOriN h a n c W hW hc
    · exact fun W a n c hW => sSurTN h a n c W hW
    · exact fun W a n c hW hc => iSurTN h a n c W hW hc
    · exact fun W a n c hW => sDimN h a n c W hW
end Go.Proofs.YtihfhfihladlcaaGreatDoor

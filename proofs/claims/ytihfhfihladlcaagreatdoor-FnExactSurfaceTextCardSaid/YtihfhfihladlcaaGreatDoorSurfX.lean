/- Texts of this claim, one behind the other: what each says stands at its head. -/
import Derived.Deep.RegionWith
import Derived.Deep.DeepCutAuto
import Derived.Test.YtihfhfihladlcaaGreatDoorCore
import Derived.Test.YtihfhfihladlcaaGreatDoorHelp
import Derived.Test.YtihfhfihladlcaaGreatDoorPosTx
import Derived.Test.YtihfhfihladlcaaGreatDoorSurfT
/- SurfaceText of both sides. -/
namespace Go.Proofs.YtihfhfihladlcaaGreatDoor
set_option maxRecDepth 20000
open Go.RowKit
set_option linter.unusedSimpArgs false
set_option linter.unusedVariables false

def orW : List UInt8 := [111, 114, 105, 101, 110, 116, 97, 98, 108, 101]
def otW : List UInt8 := [111, 116, 104, 101, 114]
/-- the text of a surface with its Euler number -/
def surT (S : Bool) (E : Int) (O : Bool) : List UInt8 :=
  if S then (if E = 1 then [115, 112, 104, 101, 114, 101] else (if O then orW else otW) ++ [32] ++ [UInt8.ofNat (48 + (1 - E).toNat)]) else [110, 111]
theorem implSurX0 (p : Int) (a : Option Addr) (n c : Nat) (xs : List Int) (E : Int) (O : Bool) (w : World) (h : IntsAt w a n xs)
    (hS : ∀ W, IntsAt W a n xs → Calls Tryz.prog 74 #[.agg #[.int .i64 p, .slice a n c]] W fun e w' => e = .returned (.bool false) ∧ Below W.heap.size W w') :
    Calls Tryz.prog 40 #[.agg #[.int .i64 p, .slice a n c]] w fun e w' => e = .returned (.string (str (surT false E O))) ∧ Below w.heap.size w w' := by
  obtain ⟨w0, hw0⟩ : ∃ w0, w0 = w.alloc (.cells #[.int .i64 p, .slice a n c] 32) := ⟨_, rfl⟩
  have HB0 : Hid (Below w.heap.size w w0) := Lib.hid (by rw [hw0]; exact (by repeat (first | exact Below.refl _ _ | assumption | refine Below.setCell ?_ (by first | omega | (simp; done) | (simp; omega)) _ | refine Below.alloc ?_ (by first | omega | (simp; done) | (simp; omega)) _ | apply Below.drew)))
  have Hx0 : Hid (IntsAt w0 a n xs) := Lib.hid (h.keep HB0.out)
  have HS := Lib.hid hS
  have HW0 := Lib.hid hw0
  obtain ⟨R, hR⟩ : ∃ R, R = str (surT false E O) := ⟨_, rfl⟩
  have HR : Hid ((⟨#[110, 111]⟩ : ByteArray) = R) := Lib.hid (by rw [hR]; rfl)
  rw [← hR]
  clear h hw0 hS hR
  go_enter Tryz.func40, Tryz.ntmps40
  go_wp2_with fail
  rw [← HW0.out]
  refine (HS.out _ Hx0.out).mono ?_
  rintro e w1 ⟨rfl, hb1⟩
  have HB1 := Lib.hid (HB0.out.trans (hb1.mono HB0.out.size))
  clear hb1
  go_wp2_with fail
  go_ret
  exact ⟨by rw [← HR.out]; rfl, HB1.out⟩
theorem implSurX1 (p : Int) (a : Option Addr) (n c : Nat) (xs : List Int) (O : Bool) (w : World) (h : IntsAt w a n xs)
    (hS : ∀ W, IntsAt W a n xs → Calls Tryz.prog 74 #[.agg #[.int .i64 p, .slice a n c]] W fun e w' => e = .returned (.bool true) ∧ Below W.heap.size W w')
    (hE : ∀ W, IntsAt W a n xs → Calls Tryz.prog 114 #[.agg #[.int .i64 p, .slice a n c]] W fun e w' => e = .returned (.int .i64 1) ∧ Below W.heap.size W w') :
    Calls Tryz.prog 40 #[.agg #[.int .i64 p, .slice a n c]] w fun e w' => e = .returned (.string (str (surT true 1 O))) ∧ Below w.heap.size w w' := by
  obtain ⟨w0, hw0⟩ : ∃ w0, w0 = w.alloc (.cells #[.int .i64 p, .slice a n c] 32) := ⟨_, rfl⟩
  have HB0 : Hid (Below w.heap.size w w0) := Lib.hid (by rw [hw0]; exact (by repeat (first | exact Below.refl _ _ | assumption | refine Below.setCell ?_ (by first | omega | (simp; done) | (simp; omega)) _ | refine Below.alloc ?_ (by first | omega | (simp; done) | (simp; omega)) _ | apply Below.drew)))
  have X0 : Hid (BoxF w0 w.heap.size (.int .i64 p) (.slice a n c)) := Lib.hid (by rw [hw0]; exact BoxF.new _ _ _ _)
  have Hx0 : Hid (IntsAt w0 a n xs) := Lib.hid (h.keep HB0.out)
  have HS := Lib.hid hS
  have HE := Lib.hid hE
  have HW0 := Lib.hid hw0
  obtain ⟨R, hR⟩ : ∃ R, R = str (surT true 1 O) := ⟨_, rfl⟩
  have HR : Hid ((⟨#[115, 112, 104, 101, 114, 101]⟩ : ByteArray) = R) := Lib.hid (by rw [hR]; rfl)
  rw [← hR]
  clear h hw0 hS hE hR
  go_enter Tryz.func40, Tryz.ntmps40
  go_wp2_with fail
  rw [← HW0.out]
  refine (HS.out _ Hx0.out).mono ?_
  rintro e w1 ⟨rfl, hb1⟩
  have HB1 := Lib.hid (HB0.out.trans (hb1.mono HB0.out.size))
  have X1 := Lib.hid (X0.out.keep hb1 X0.out.lt)
  have Hx1 := Lib.hid (Hx0.out.keep hb1)
  clear hb1
  obtain ⟨p0, p1, _, _, _⟩ := X1.out
  go_wp2_with fail
  refine (HE.out _ Hx1.out).mono ?_
  rintro e w2 ⟨rfl, hb2⟩
  have HB2 := Lib.hid (HB1.out.trans (hb2.mono HB1.out.size))
  clear hb2
  go_wp2_with fail
  go_ret
  exact ⟨by rw [← HR.out]; rfl, HB2.out⟩
theorem implSurX2 (p : Int) (a : Option Addr) (n c : Nat) (xs : List Int) (E : Int) (O : Bool) (w : World) (h : IntsAt w a n xs) (he1 : E ≤ 0) (he6 : -6 ≤ E)
    (hS : ∀ W, IntsAt W a n xs → Calls Tryz.prog 74 #[.agg #[.int .i64 p, .slice a n c]] W fun e w' => e = .returned (.bool true) ∧ Below W.heap.size W w')
    (hE : ∀ W, IntsAt W a n xs → Calls Tryz.prog 114 #[.agg #[.int .i64 p, .slice a n c]] W fun e w' => e = .returned (.int .i64 E) ∧ Below W.heap.size W w')
    (hO : ∀ W, IntsAt W a n xs → Calls Tryz.prog 76 #[.agg #[.int .i64 p, .slice a n c]] W fun e w' => e = .returned (.bool O) ∧ Below W.heap.size W w') :
    Calls Tryz.prog 40 #[.agg #[.int .i64 p, .slice a n c]] w fun e w' => e = .returned (.string (str (surT true E O))) ∧ Below w.heap.size w w' := by
  obtain ⟨w0, hw0⟩ : ∃ w0, w0 = w.alloc (.cells #[.int .i64 p, .slice a n c] 32) := ⟨_, rfl⟩
  have HB0 : Hid (Below w.heap.size w w0) := Lib.hid (by rw [hw0]; exact (by repeat (first | exact Below.refl _ _ | assumption | refine Below.setCell ?_ (by first | omega | (simp; done) | (simp; omega)) _ | refine Below.alloc ?_ (by first | omega | (simp; done) | (simp; omega)) _ | apply Below.drew)))
  have X0 : Hid (BoxF w0 w.heap.size (.int .i64 p) (.slice a n c)) := Lib.hid (by rw [hw0]; exact BoxF.new _ _ _ _)
  have Hx0 : Hid (IntsAt w0 a n xs) := Lib.hid (h.keep HB0.out)
  have HS := Lib.hid hS
  have HE := Lib.hid hE
  have HO := Lib.hid hO
  have HW0 := Lib.hid hw0
  obtain ⟨R, hR⟩ : ∃ R, R = str (surT true E O) := ⟨_, rfl⟩
  obtain ⟨k, hk⟩ : ∃ k : Nat, k = (1 - E).toNat := ⟨_, rfl⟩
  have hkE : (k : Int) = 1 - E := by omega
  have hF : ∀ W, Calls Tryz.prog 104 #[.int .i64 k] W fun e w' => e = .returned (.string (str [UInt8.ofNat (48 + k)])) ∧ Below W.heap.size W w' :=
    fun W => by first | exact iFormat_one k W (by omega) | exact sFormat_one k W (by omega) (by omega)
  obtain ⟨D, hD⟩ : ∃ D, D = str [UInt8.ofNat (48 + k)] := ⟨_, rfl⟩
  have hD1 : D.size = 1 := by rw [hD]; exact str_size _
  have HR : Hid (R = str (if O then orW else otW) ++ str [32] ++ D) := Lib.hid (by
    rw [hR, hD, str_append, str_append]
    unfold surT
    rw [if_pos rfl, if_neg (by omega), ← hk])
  rw [← hR]
  rw [← hD] at hF
  have HF := Lib.hid hF
  have hb1 : (E == 1) = false := by simp; omega
  have hw1 : IntKind.i64.wrap (1 - E) = k := by rw [hkE]; exact IntWalk.i64_in _ (by omega)
  have hw2 : wrap64 (1 - E) = k := by rw [hkE]; unfold wrap64; omega
  clear h hw0 hS hE hR hO hD hF hk hkE he1 he6
  go_enter Tryz.func40, Tryz.ntmps40
  go_wp2_with fail
  rw [← HW0.out]
  refine (HS.out _ Hx0.out).mono ?_
  rintro e w1 ⟨rfl, hb1⟩
  have HB1 := Lib.hid (HB0.out.trans (hb1.mono HB0.out.size))
  have X1 := Lib.hid (X0.out.keep hb1 X0.out.lt)
  have Hx1 := Lib.hid (Hx0.out.keep hb1)
  clear hb1
  obtain ⟨p0, p1, _, _, _⟩ := X1.out
  go_wp2_with fail
  refine (HE.out _ Hx1.out).mono ?_
  rintro e w2 ⟨rfl, hb2⟩
  have HB2 := Lib.hid (HB1.out.trans (hb2.mono HB1.out.size))
  have X2 := Lib.hid (X1.out.keep hb2 X1.out.lt)
  have Hx2 := Lib.hid (Hx1.out.keep hb2)
  clear hb2
  clear p0 p1
  obtain ⟨p0, p1, _, _, _⟩ := X2.out
  go_wp2_with fail
  refine (HO.out _ Hx2.out).mono ?_
  rintro e w3 ⟨rfl, hb3⟩
  have HB3 := Lib.hid (HB2.out.trans (hb3.mono HB2.out.size))
  have X3 := Lib.hid (X2.out.keep hb3 X2.out.lt)
  have Hx3 := Lib.hid (Hx2.out.keep hb3)
  clear hb3
  clear p0 p1
  obtain ⟨p0, p1, _, _, _⟩ := X3.out
  cases O
  all_goals
    go_wp2_with fail
    refine (HE.out _ Hx3.out).mono ?_
    rintro e w4 ⟨rfl, hb4⟩
    have HB4 := Lib.hid (HB3.out.trans (hb4.mono HB3.out.size))
    clear hb4
    go_wp2_with fail
    refine (HF.out _).mono ?_
    rintro e w5 ⟨rfl, hb5⟩
    have HB5 := Lib.hid (HB4.out.trans (hb5.mono HB4.out.size))
    clear hb5
    go_wp2_with fail
    go_ret
    exact ⟨by rw [HR.out]; rfl, HB5.out⟩
theorem specSurX0 (p : Int) (a : Option Addr) (n c : Nat) (xs : List Int) (E : Int) (O : Bool) (w : World) (h : IntsAt w a n xs)
    (hS : ∀ W, IntsAt W a n xs → Calls Tryz.prog 75 #[.agg #[.int .i64 p, .slice a n c]] W fun e w' => e = .returned (.bool false) ∧ Below W.heap.size W w') :
    Calls Tryz.prog 38 #[.agg #[.int .i64 p, .slice a n c]] w fun e w' => e = .returned (.string (str (surT false E O))) ∧ Below w.heap.size w w' := by
  obtain ⟨w0, hw0⟩ : ∃ w0, w0 = w.alloc (.cells #[.int .i64 p, .slice a n c] 32) := ⟨_, rfl⟩
  have HB0 : Hid (Below w.heap.size w w0) := Lib.hid (by rw [hw0]; exact (by repeat (first | exact Below.refl _ _ | assumption | refine Below.setCell ?_ (by first | omega | (simp; done) | (simp; omega)) _ | refine Below.alloc ?_ (by first | omega | (simp; done) | (simp; omega)) _ | apply Below.drew)))
  have Hx0 : Hid (IntsAt w0 a n xs) := Lib.hid (h.keep HB0.out)
  have HS := Lib.hid hS
  have HW0 := Lib.hid hw0
  obtain ⟨R, hR⟩ : ∃ R, R = str (surT false E O) := ⟨_, rfl⟩
  have HR : Hid ((⟨#[110, 111]⟩ : ByteArray) = R) := Lib.hid (by rw [hR]; rfl)
  rw [← hR]
  clear h hw0 hS hR
  go_enter Tryz.func38, Tryz.ntmps38
  go_wp2_with fail
  rw [← HW0.out]
  refine (HS.out _ Hx0.out).mono ?_
  rintro e w1 ⟨rfl, hb1⟩
  have HB1 := Lib.hid (HB0.out.trans (hb1.mono HB0.out.size))
  clear hb1
  go_wp2_with fail
  go_ret
  exact ⟨by rw [← HR.out]; rfl, HB1.out⟩
theorem specSurX1 (p : Int) (a : Option Addr) (n c : Nat) (xs : List Int) (O : Bool) (w : World) (h : IntsAt w a n xs)
    (hS : ∀ W, IntsAt W a n xs → Calls Tryz.prog 75 #[.agg #[.int .i64 p, .slice a n c]] W fun e w' => e = .returned (.bool true) ∧ Below W.heap.size W w')
    (hE : ∀ W, IntsAt W a n xs → Calls Tryz.prog 63 #[.agg #[.int .i64 p, .slice a n c]] W fun e w' => e = .returned (.int .i64 1) ∧ Below W.heap.size W w') :
    Calls Tryz.prog 38 #[.agg #[.int .i64 p, .slice a n c]] w fun e w' => e = .returned (.string (str (surT true 1 O))) ∧ Below w.heap.size w w' := by
  obtain ⟨w0, hw0⟩ : ∃ w0, w0 = w.alloc (.cells #[.int .i64 p, .slice a n c] 32) := ⟨_, rfl⟩
  have HB0 : Hid (Below w.heap.size w w0) := Lib.hid (by rw [hw0]; exact (by repeat (first | exact Below.refl _ _ | assumption | refine Below.setCell ?_ (by first | omega | (simp; done) | (simp; omega)) _ | refine Below.alloc ?_ (by first | omega | (simp; done) | (simp; omega)) _ | apply Below.drew)))
  have X0 : Hid (BoxF w0 w.heap.size (.int .i64 p) (.slice a n c)) := Lib.hid (by rw [hw0]; exact BoxF.new _ _ _ _)
  have Hx0 : Hid (IntsAt w0 a n xs) := Lib.hid (h.keep HB0.out)
  have HS := Lib.hid hS
  have HE := Lib.hid hE
  have HW0 := Lib.hid hw0
  obtain ⟨R, hR⟩ : ∃ R, R = str (surT true 1 O) := ⟨_, rfl⟩
  have HR : Hid ((⟨#[115, 112, 104, 101, 114, 101]⟩ : ByteArray) = R) := Lib.hid (by rw [hR]; rfl)
  rw [← hR]
  clear h hw0 hS hE hR
  go_enter Tryz.func38, Tryz.ntmps38
  go_wp2_with fail
  rw [← HW0.out]
  refine (HS.out _ Hx0.out).mono ?_
  rintro e w1 ⟨rfl, hb1⟩
  have HB1 := Lib.hid (HB0.out.trans (hb1.mono HB0.out.size))
  have X1 := Lib.hid (X0.out.keep hb1 X0.out.lt)
  have Hx1 := Lib.hid (Hx0.out.keep hb1)
  clear hb1
  obtain ⟨p0, p1, _, _, _⟩ := X1.out
  go_wp2_with fail
  refine (HE.out _ Hx1.out).mono ?_
  rintro e w2 ⟨rfl, hb2⟩
  have HB2 := Lib.hid (HB1.out.trans (hb2.mono HB1.out.size))
  clear hb2
  go_wp2_with fail
  go_ret
  exact ⟨by rw [← HR.out]; rfl, HB2.out⟩
theorem specSurX2 (p : Int) (a : Option Addr) (n c : Nat) (xs : List Int) (E : Int) (O : Bool) (w : World) (h : IntsAt w a n xs) (he1 : E ≤ 0) (he6 : -6 ≤ E)
    (hS : ∀ W, IntsAt W a n xs → Calls Tryz.prog 75 #[.agg #[.int .i64 p, .slice a n c]] W fun e w' => e = .returned (.bool true) ∧ Below W.heap.size W w')
    (hE : ∀ W, IntsAt W a n xs → Calls Tryz.prog 63 #[.agg #[.int .i64 p, .slice a n c]] W fun e w' => e = .returned (.int .i64 E) ∧ Below W.heap.size W w')
    (hO : ∀ W, IntsAt W a n xs → Calls Tryz.prog 77 #[.agg #[.int .i64 p, .slice a n c]] W fun e w' => e = .returned (.bool O) ∧ Below W.heap.size W w') :
    Calls Tryz.prog 38 #[.agg #[.int .i64 p, .slice a n c]] w fun e w' => e = .returned (.string (str (surT true E O))) ∧ Below w.heap.size w w' := by
  obtain ⟨w0, hw0⟩ : ∃ w0, w0 = w.alloc (.cells #[.int .i64 p, .slice a n c] 32) := ⟨_, rfl⟩
  have HB0 : Hid (Below w.heap.size w w0) := Lib.hid (by rw [hw0]; exact (by repeat (first | exact Below.refl _ _ | assumption | refine Below.setCell ?_ (by first | omega | (simp; done) | (simp; omega)) _ | refine Below.alloc ?_ (by first | omega | (simp; done) | (simp; omega)) _ | apply Below.drew)))
  have X0 : Hid (BoxF w0 w.heap.size (.int .i64 p) (.slice a n c)) := Lib.hid (by rw [hw0]; exact BoxF.new _ _ _ _)
  have Hx0 : Hid (IntsAt w0 a n xs) := Lib.hid (h.keep HB0.out)
  have HS := Lib.hid hS
  have HE := Lib.hid hE
  have HO := Lib.hid hO
  have HW0 := Lib.hid hw0
  obtain ⟨R, hR⟩ : ∃ R, R = str (surT true E O) := ⟨_, rfl⟩
  obtain ⟨k, hk⟩ : ∃ k : Nat, k = (1 - E).toNat := ⟨_, rfl⟩
  have hkE : (k : Int) = 1 - E := by omega
  have hF : ∀ W, Calls Tryz.prog 112 #[.int .i64 k] W fun e w' => e = .returned (.string (str [UInt8.ofNat (48 + k)])) ∧ Below W.heap.size W w' :=
    fun W => by first | exact iFormat_one k W (by omega) | exact sFormat_one k W (by omega) (by omega)
  obtain ⟨D, hD⟩ : ∃ D, D = str [UInt8.ofNat (48 + k)] := ⟨_, rfl⟩
  have hD1 : D.size = 1 := by rw [hD]; exact str_size _
  have HR : Hid (R = str (if O then orW else otW) ++ str [32] ++ D) := Lib.hid (by
    rw [hR, hD, str_append, str_append]
    unfold surT
    rw [if_pos rfl, if_neg (by omega), ← hk])
  rw [← hR]
  rw [← hD] at hF
  have HF := Lib.hid hF
  have hb1 : (E == 1) = false := by simp; omega
  have hw1 : IntKind.i64.wrap (1 - E) = k := by rw [hkE]; exact IntWalk.i64_in _ (by omega)
  have hw2 : wrap64 (1 - E) = k := by rw [hkE]; unfold wrap64; omega
  clear h hw0 hS hE hR hO hD hF hk hkE he1 he6
  go_enter Tryz.func38, Tryz.ntmps38
  go_wp2_with fail
  rw [← HW0.out]
  refine (HS.out _ Hx0.out).mono ?_
  rintro e w1 ⟨rfl, hb1⟩
  have HB1 := Lib.hid (HB0.out.trans (hb1.mono HB0.out.size))
  have X1 := Lib.hid (X0.out.keep hb1 X0.out.lt)
  have Hx1 := Lib.hid (Hx0.out.keep hb1)
  clear hb1
  obtain ⟨p0, p1, _, _, _⟩ := X1.out
  go_wp2_with fail
  refine (HE.out _ Hx1.out).mono ?_
  rintro e w2 ⟨rfl, hb2⟩
  have HB2 := Lib.hid (HB1.out.trans (hb2.mono HB1.out.size))
  have X2 := Lib.hid (X1.out.keep hb2 X1.out.lt)
  have Hx2 := Lib.hid (Hx1.out.keep hb2)
  clear hb2
  clear p0 p1
  obtain ⟨p0, p1, _, _, _⟩ := X2.out
  go_wp2_with fail
  refine (HO.out _ Hx2.out).mono ?_
  rintro e w3 ⟨rfl, hb3⟩
  have HB3 := Lib.hid (HB2.out.trans (hb3.mono HB2.out.size))
  have X3 := Lib.hid (X2.out.keep hb3 X2.out.lt)
  have Hx3 := Lib.hid (Hx2.out.keep hb3)
  clear hb3
  clear p0 p1
  obtain ⟨p0, p1, _, _, _⟩ := X3.out
  cases O
  all_goals
    go_wp2_with fail
    refine (HE.out _ Hx3.out).mono ?_
    rintro e w4 ⟨rfl, hb4⟩
    have HB4 := Lib.hid (HB3.out.trans (hb4.mono HB3.out.size))
    clear hb4
    go_wp2_with fail
    refine (HF.out _).mono ?_
    rintro e w5 ⟨rfl, hb5⟩
    have HB5 := Lib.hid (HB4.out.trans (hb5.mono HB4.out.size))
    clear hb5
    go_wp2_with fail
    go_ret
    exact ⟨by rw [HR.out]; rfl, HB5.out⟩
/-- the text of a valid complex -/
def surV (m : Nat) (l : List Nat) : List UInt8 := surT (srfB m l) (eul (isFace l)) (oriB m l)
theorem iSurTV {m : Nat} {l : List Nat} (hC : Cpx m l) (a : Option Addr) (n c : Nat) (w : World) (h : IntsAt w a n (up l)) (hcap : n ≤ c) :
    Calls Tryz.prog 40 #[.agg #[.int .i64 m, .slice a n c]] w fun e w' => e = .returned (.string (str (surV m l))) ∧ Below w.heap.size w w' := by
  have hS := fun W hW => iSurfV hC a n c W hW hcap
  have hE := fun W hW => iEuler_yes hC a n c W hW hcap
  unfold surV
  cases hb : srfB m l
  · rw [hb] at hS
    exact implSurX0 m a n c _ _ _ w h hS
  · rw [hb] at hS
    have hs := srf_of hC hb
    by_cases he : eul (isFace l) = 1
    · rw [he] at hE ⊢
      exact implSurX1 m a n c _ _ w h hS hE
    · exact implSurX2 m a n c _ _ _ w h (by have := hs.eul1.1; omega) hs.eulLow hS hE fun W hW => iOriV hC a n c W hW hcap
theorem iSurTN {p : Int} {xs : List Int} (hno : ¬ Anti p xs) (a : Option Addr) (n c : Nat) (w : World) (h : IntsAt w a n xs) (hcap : n ≤ c) :
    Calls Tryz.prog 40 #[.agg #[.int .i64 p, .slice a n c]] w fun e w' => e = .returned (.string (str (surT false 0 false))) ∧ Below w.heap.size w w' :=
  implSurX0 p a n c xs 0 false w h fun W hW => iSurfN hno a n c W hW hcap
theorem sSurTV {m : Nat} {l : List Nat} (hC : Cpx m l) (a : Option Addr) (n c : Nat) (w : World) (h : IntsAt w a n (up l)) :
    Calls Tryz.prog 38 #[.agg #[.int .i64 m, .slice a n c]] w fun e w' => e = .returned (.string (str (surV m l))) ∧ Below w.heap.size w w' := by
  have hS := fun W hW => sSurfV hC a n c W hW
  have hE := fun W hW => sEuler_yes m a n c l W hW hC.anti hC.lt64
  unfold surV
  cases hb : srfB m l
  · rw [hb] at hS
    exact specSurX0 m a n c _ _ _ w h hS
  · rw [hb] at hS
    have hs := srf_of hC hb
    by_cases he : eul (isFace l) = 1
    · rw [he] at hE ⊢
      exact specSurX1 m a n c _ _ w h hS hE
    · exact specSurX2 m a n c _ _ _ w h (by have := hs.eul1.1; omega) hs.eulLow hS hE fun W hW => sOriV hC a n c W hW
theorem sSurTN {p : Int} {xs : List Int} (hno : ¬ Anti p xs) (a : Option Addr) (n c : Nat) (w : World) (h : IntsAt w a n xs) :
    Calls Tryz.prog 38 #[.agg #[.int .i64 p, .slice a n c]] w fun e w' => e = .returned (.string (str (surT false 0 false))) ∧ Below w.heap.size w w' :=
  specSurX0 p a n c xs 0 false w h fun W hW => sSurfN hno a n c W hW
end Go.Proofs.YtihfhfihladlcaaGreatDoor

/- The law FnExactSurfaceText: for all arguments the program's SurfaceText returns what the reference's returns. -/
namespace Go.Proofs.YtihfhfihladlcaaGreatDoor.lawSurfaceText
set_option maxRecDepth 20000
open Go.ChangeShapes Go.WideShapes Go.ChangeAt Go.RowKit
set_option linter.unusedVariables false
set_option linter.unusedSimpArgs false

theorem same (a0 : Int) (xs : List Int) (hl : xs.length ≤ 1048576) : ∃ r : ByteArray,
    (∀ W ad n c, IntsAt W ad n xs → n ≤ c → Calls Tryz.prog 38 #[.agg #[.int .i64 a0, .slice ad n c]] W fun e w' => e = .returned (.string r) ∧ Below W.heap.size W w') ∧
    (∀ W ad n c, IntsAt W ad n xs → n ≤ c → Calls Tryz.prog 40 #[.agg #[.int .i64 a0, .slice ad n c]] W fun e w' => e = .returned (.string r) ∧ Below W.heap.size W w') := by
  by_cases h : Anti a0 xs
  · obtain ⟨l, rfl, hl2, hs, _⟩ := h.nat
    obtain ⟨m, rfl⟩ : ∃ m : Nat, a0 = m := ⟨a0.toNat, by have := h.1; omega⟩
    have hC := Cpx.of h
    exact ⟨str (surV m l), fun W ad n c hx _ => sSurTV hC ad n c W hx, fun W ad n c hx hc => iSurTV hC ad n c W hx hc⟩
  · exact ⟨str (surT false 0 false), fun W ad n c hx _ => sSurTN h ad n c W hx, fun W ad n c hx hc => iSurTN h ad n c W hx hc⟩

set_option maxRecDepth 100000 in
set_option maxHeartbeats 4000000 in
theorem walk (w : World) (a0 : Int) (wf0 : (Lit.int .i64 a0).wf = true) (ad0 : Option Addr) (n0 c0 : Nat) (xs0 : List Int) (hs0 : IntsAt w ad0 n0 xs0) (wl0 : ∀ y ∈ xs0, (Lit.int .i64 y).wf = true) :
    Calls Tryz.prog 4 #[.agg #[.int .i64 a0, .slice ad0 n0 c0]] w fun e w' => e = .returned (.bool true) ∧ Below w.heap.size w w' := by
  clear wf0 wl0
  have Hs0 := Lib.hid hs0; clear hs0
  by_cases hn0 : n0 ≤ 1048576
  · have hl0 : xs0.length ≤ 1048576 := by rw [Hs0.out.len]; omega
    obtain ⟨r, hS, hI⟩ := same a0 xs0 hl0
    have HS := Lib.hid hS; have HI := Lib.hid hI
    clear hS hI
    have hbb : (r.toList != r.toList) = false := by simp
    clear hl0
    go_enter Tryz.func4, Tryz.ntmps4
    go_wp2_with fail
    refine (szComplex_yes a0 ad0 n0 c0 1048576 _ hn0 (by omega)).mono ?_
    rintro e w1 ⟨rfl, hb⟩
    have ST1 : Hid (Below w.heap.size w w1) := Lib.hid (Below.trans (Below.alloc (Below.refl _ _) (by first | exact Nat.le_refl _ | (simp; done) | (simp; omega)) _) (hb.mono (by first | exact Nat.le_refl _ | (simp; done) | (simp; omega))))
    have SZ1 : Hid (w.heap.size + 1 ≤ w1.heap.size) := Lib.hid (Nat.le_trans (by simp) hb.size)
    have HB1 : Hid (Below w.heap.size w w1) := ST1
    have BX1 := Lib.hid (((Boxes.nil w).alloc _ _ _).keep hb)
    have bx1 := BX1.out
    simp only [Boxes, and_true, World.size_alloc] at bx1
    clear hb
    go_wp2_with fail
    refine (toComplex_any a0 ad0 n0 c0 xs0 _ (Hs0.out.keep HB1.out) (by omega)).mono ?_
    rintro e w2 ⟨adX1, nX1, cX1, rfl, ownX1, hb⟩
    have ST2 : Hid (Below w1.heap.size w1 w2) := Lib.hid (Below.trans (Below.refl _ _) (hb.mono (by first | exact Nat.le_refl _ | (simp; done) | (simp; omega))))
    have SZ2 : Hid (w1.heap.size + 0 ≤ w2.heap.size) := Lib.hid (Nat.le_trans (by simp) hb.size)
    have HB2 : Hid (Below w.heap.size w w2) := Lib.hid (HB1.out.trans (ST2.out.mono HB1.out.size))
    have BX2 := Lib.hid (BX1.out.keep hb)
    have bx2 := BX2.out
    simp only [Boxes, and_true, World.size_alloc] at bx2
    have LTX1 : Hid (∀ k, (Value.slice adX1 nX1 cX1).ownBlock = some k → w1.heap.size + 0 ≤ k ∧ k < w2.heap.size) := Lib.hid (fun k hk => ⟨Nat.le_trans (by simp) (ownX1.lt k hk).1, (ownX1.lt k hk).2⟩)
    have OWX1_2 := Lib.hid ownX1
    clear ownX1
    clear hb bx1
    go_wp2_with fail
    refine (HS.out _ adX1 nX1 cX1 OWX1_2.out.reads OWX1_2.out.cap).mono ?_
    rintro e w3 ⟨rfl, hb⟩
    have ST3 : Hid (Below w2.heap.size w2 w3) := Lib.hid (Below.trans (Below.refl _ _) (hb.mono (by first | exact Nat.le_refl _ | (simp; done) | (simp; omega))))
    have SZ3 : Hid (w2.heap.size + 0 ≤ w3.heap.size) := Lib.hid (Nat.le_trans (by simp) hb.size)
    have HB3 : Hid (Below w.heap.size w w3) := Lib.hid (HB2.out.trans (ST3.out.mono HB2.out.size))
    have BX3 := Lib.hid (BX2.out.keep hb)
    have bx3 := BX3.out
    simp only [Boxes, and_true, World.size_alloc] at bx3
    have OWX1_3 := Lib.hid (OWX1_2.out.keep ST3.out)
    clear hb bx2
    go_wp2_with fail
    refine (toComplex_any a0 ad0 n0 c0 xs0 _ (Hs0.out.keep HB3.out) (by omega)).mono ?_
    rintro e w4 ⟨adX2, nX2, cX2, rfl, ownX2, hb⟩
    have ST4 : Hid (Below w3.heap.size w3 w4) := Lib.hid (Below.trans (Below.refl _ _) (hb.mono (by first | exact Nat.le_refl _ | (simp; done) | (simp; omega))))
    have SZ4 : Hid (w3.heap.size + 0 ≤ w4.heap.size) := Lib.hid (Nat.le_trans (by simp) hb.size)
    have HB4 : Hid (Below w.heap.size w w4) := Lib.hid (HB3.out.trans (ST4.out.mono HB3.out.size))
    have BX4 := Lib.hid (BX3.out.keep hb)
    have bx4 := BX4.out
    simp only [Boxes, and_true, World.size_alloc] at bx4
    have LTX2 : Hid (∀ k, (Value.slice adX2 nX2 cX2).ownBlock = some k → w3.heap.size + 0 ≤ k ∧ k < w4.heap.size) := Lib.hid (fun k hk => ⟨Nat.le_trans (by simp) (ownX2.lt k hk).1, (ownX2.lt k hk).2⟩)
    have OWX2_4 := Lib.hid ownX2
    clear ownX2
    clear hb bx3
    go_wp2_with fail
    refine (HI.out _ adX2 nX2 cX2 (OWX2_4.out.reads.keep (Below.alloc (Below.refl _ _) (by first | exact Nat.le_refl _ | (simp; done) | (simp; omega)) _)) OWX2_4.out.cap).mono ?_
    rintro e w5 ⟨rfl, hb⟩
    have ST5 : Hid (Below w4.heap.size w4 w5) := Lib.hid (Below.trans (Below.alloc (Below.refl _ _) (by first | exact Nat.le_refl _ | (simp; done) | (simp; omega)) _) (hb.mono (by first | exact Nat.le_refl _ | (simp; done) | (simp; omega))))
    have SZ5 : Hid (w4.heap.size + 1 ≤ w5.heap.size) := Lib.hid (Nat.le_trans (by simp) hb.size)
    have HB5 : Hid (Below w.heap.size w w5) := Lib.hid (HB4.out.trans (ST5.out.mono HB4.out.size))
    have BX5 := Lib.hid ((BX4.out.alloc _ _ _).keep hb)
    have bx5 := BX5.out
    simp only [Boxes, and_true, World.size_alloc] at bx5
    have OWX2_5 := Lib.hid (OWX2_4.out.keep ST5.out)
    clear hb bx4
    go_wp2_with fail
    have hsd := Lib.hid (Hs0.out.keep HB5.out.drew)
    have rdd := Lib.hid (OWX2_5.out.reads.keep (Below.drew (Below.refl _ _)))
    go_cut [26] (fun v wx => v = .bool false ∧ Below w5.heap.size w5 wx)
    case first =>
      go_region_with (first | (go_at_call 39; (with_reducible refine (toComplex_any a0 ad0 n0 c0 xs0 _ hsd.out (by omega)).mono ?_); rintro e wz ⟨adz, nz, cz, rfl, ownz, hbz⟩; have rdz := ownz.reads; have bxz := (BX5.out.keep ((Below.refl _ _).drew)).keep hbz; simp only [Boxes, and_true, World.size_alloc] at bxz; have Hbz := Lib.hid hbz; clear ownz hbz) | (go_at_call 41; (with_reducible refine (eqComplex_yes a0 a0 adX2 adz nX2 nz cX2 cz xs0 xs0 _ (rdd.out.keep Hbz.out) rdz rfl rfl).mono ?_); rintro e wy ⟨rfl, hby⟩))
      all_goals (go_wp2_with fail; go_meet; exact ⟨rfl, ((Below.refl _ w5).drew).trans (Below.trans Hbz.out (hby.mono Hbz.out.size))⟩)
    case rest =>
      obtain ⟨rfl, hbc⟩ := hcut
      obtain ⟨w6, rfl⟩ : ∃ x : World, x = wc := ⟨_, rfl⟩
      have ST6 : Hid (Below w5.heap.size w5 w6) := Lib.hid (Below.trans (Below.refl _ _) (hbc.mono (by first | exact Nat.le_refl _ | (simp; done) | (simp; omega))))
      have SZ6 : Hid (w5.heap.size + 0 ≤ w6.heap.size) := Lib.hid (Nat.le_trans (by simp) hbc.size)
      have HB6 : Hid (Below w.heap.size w w6) := Lib.hid (HB5.out.trans (ST6.out.mono HB5.out.size))
      have BX6 := Lib.hid (BX5.out.keep hbc)
      have bx6 := BX6.out
      simp only [Boxes, and_true, World.size_alloc] at bx6
      have OWX2_6 := Lib.hid (OWX2_5.out.keep ST6.out)
      clear hbc bx5
      go_wp2_with fail
      go_ret
      exact ⟨rfl, HB6.out⟩
  · have hbig0 : 1048576 < n0 := by omega
    clear hn0
    have hsm0 := Hs0.out.small
    go_enter Tryz.func4, Tryz.ntmps4
    go_wp2_with fail
    refine (szComplex_no a0 ad0 n0 c0 1048576 _ hbig0 (by omega) hsm0).mono ?_
    rintro e w1 ⟨rfl, hb1⟩
    have HB1 : Hid (Below w.heap.size w w1) := Lib.hid (Below.trans (by repeat (first | exact Below.refl _ _ | assumption | refine Below.setCell ?_ (by first | omega | (simp; done) | (simp; omega)) _ | refine Below.alloc ?_ (by first | omega | (simp; done) | (simp; omega)) _ | apply Below.drew)) (hb1.mono (by simp <;> omega)))
    have BX1 := Lib.hid (((Boxes.nil w).alloc _ _ _).keep hb1)
    have bx1 := BX1.out
    simp only [Boxes, and_true, World.size_alloc] at bx1
    clear hb1
    go_wp2_with fail
    go_ret
    exact ⟨rfl, HB1.out⟩

end Go.Proofs.YtihfhfihladlcaaGreatDoor.lawSurfaceText

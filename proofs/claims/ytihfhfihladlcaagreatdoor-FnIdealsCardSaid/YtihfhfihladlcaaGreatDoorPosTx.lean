/- Numbers of one digit as texts; a family of sets with its number of points as text. -/
import Derived.Test.YtihfhfihladlcaaGreatDoorSetsI
import Derived.Test.YtihfhfihladlcaaGreatDoorStr3
namespace Go.Proofs.YtihfhfihladlcaaGreatDoor
set_option maxRecDepth 20000
open Go.RowKit
set_option linter.unusedSimpArgs false
set_option linter.unusedVariables false

/-- a poset as text -/
def posText (p : Nat) (l : List Nat) : List UInt8 := [UInt8.ofNat (48 + p)] ++ [58] ++ setsText l
theorem dec_one (n : Nat) (h : n ≤ 9) : (⟨(Lib.decDigits n).toArray⟩ : ByteArray) = str [UInt8.ofNat (48 + n)] := by
  unfold Lib.decDigits
  rw [dif_pos (by omega)]; rfl
theorem posText_cat (p : Nat) (l : List Nat) : str [UInt8.ofNat (48 + p)] ++ (⟨#[58]⟩ : ByteArray) ++ str (setsText l) = str (posText p l) := by
  have : (⟨#[58]⟩ : ByteArray) = str [58] := rfl
  rw [this, str_append, str_append]; rfl
theorem byt_str (l : List UInt8) : byt (str l) = l := by simp [byt, str]

theorem iFormat_one (n : Nat) (w : World) (h9 : n ≤ 9) :
    Calls Tryz.prog 104 #[.int .i64 n] w fun e w' => e = .returned (.string (str [UInt8.ofNat (48 + n)])) ∧ Below w.heap.size w w' := by
  have hF := Tryz.strconv_Itoa_small n (by omega) w
  rw [dec_one n h9] at hF
  obtain ⟨D, hD⟩ : ∃ D, D = str [UInt8.ofNat (48 + n)] := ⟨_, rfl⟩
  rw [← hD] at hF ⊢
  have HF := Lib.hid hF; clear hF hD
  go_enter Tryz.func104, Tryz.ntmps104
  go_wp2_with fail
  refine HF.out.mono ?_
  rintro e w1 ⟨rfl, rfl⟩
  go_wp2_with fail
  go_ret
  exact ⟨rfl, Below.refl _ _⟩
theorem sFormat_one (n : Nat) (w : World) (h1 : 1 ≤ n) (h9 : n ≤ 9) :
    Calls Tryz.prog 112 #[.int .i64 n] w fun e w' => e = .returned (.string (str [UInt8.ofNat (48 + n)])) ∧ Below w.heap.size w w' := by
  refine (sFormat_small n w h1 h9).mono ?_
  rintro e w' ⟨t, rfl, ht, hb⟩
  refine ⟨?_, hb⟩
  rw [byt_inj (ht.trans (byt_str _).symm)]

end Go.Proofs.YtihfhfihladlcaaGreatDoor

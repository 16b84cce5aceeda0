/- Contracts of FlipAt, the program's and the reference's. -/
import Derived.Test.YtikehbbggdmcfaaFlipS2
namespace Go.Proofs.Ytikehbbggdmcfaa
open Go.RowKit
set_option linter.unusedSimpArgs false
set_option linter.unusedVariables false

/-- the program's deletionIn -/
def delB (F s x : Nat) : Bool := F.testBit x && !sub s x
def delN (F s : Nat) : Nat := pickN (delB F s) (2 ^ 6)
theorem delFam (F s : Nat) : Fam (delN F s) := pickN_Fam _ _
theorem delBit {F s x : Nat} (hx : x < 64) : (delN F s).testBit x = delB F s x := by
  unfold delN; rw [pickN_bit hx]
  have : x < 2 ^ 6 := hx
  simp [this]
theorem sdiff_nz {a b : Nat} (ha : a < 64) (hb : b < 64) : (((sdiff a b : Nat) : Int) != 0) = !sub a b := by
  unfold bne; rw [sdiff_zero ha hb]

/-- the new faces of a flip -/
def newB (s t x : Nat) : Bool := sub x (s ||| t) && !sub s x
theorem flipFam_eq {l : List Nat} {m s t x : Nat} (hx : x < 64) : (delN (faceSet l) s ||| pickN (newB s t) (2 ^ m)).testBit x = flipFam l m s t x := by
  rw [Nat.testBit_or, delBit hx, pickN_bit hx]
  unfold delB flipFam newB
  rw [faceSet_bit hx]
end Go.Proofs.Ytikehbbggdmcfaa

/- Contracts of the program's linkIn, flips and CanFlip. -/
import Derived.Test.YtikehbbggdmcfaaFlipM
import Derived.Test.YtikehbbggdmcfaaPure
import Derived.Test.YtikehbbggdmcfaaIdeal3
namespace Go.Proofs.Ytikehbbggdmcfaa
open Go.RowKit
set_option linter.unusedSimpArgs false
set_option linter.unusedVariables false

theorem u64_noBit (F k : Nat) (hF : Fam F) (hk : k < 64) : bits .andNot .u64 (F : Int) (2 ^ k) = ((fam fun x => F.testBit x && x != k : Nat) : Int) := by
  have e : ((2 : Int) ^ k) = ((2 ^ k : Nat) : Int) := by norm_cast
  have hk2 : 2 ^ k < 18446744073709551616 := Nat.lt_of_lt_of_le (Nat.pow_lt_pow_right (by omega) hk) (by omega)
  rw [e, u64_andNot_nat F (2 ^ k) hF hk2]
  congr 1
  refine fam_eq (Nat.lt_of_le_of_lt Nat.and_le_left hF) fun s hs => ?_
  rw [Nat.testBit_and]
  have e : 18446744073709551615 - 2 ^ k = 2 ^ 64 - (2 ^ k + 1) := by omega
  rw [e, Nat.testBit_two_pow_sub_succ (by omega), Nat.testBit_two_pow]
  by_cases h : k = s
  · subst h; simp
  · have h2 : ¬ s = k := fun e => h e.symm
    simp [h, h2, hs]
/-- the test of the program's linkIn -/
def lkB (F s x : Nat) : Bool := x &&& s == 0 && F.testBit (x ||| s)
/-- the program's linkIn -/
def lkF (F s : Nat) : Nat := pickN (lkB F s) (2 ^ 6)
theorem lkFam (F s : Nat) : Fam (lkF F s) := pickN_Fam _ _
theorem lkBit {F s x : Nat} (hx : x < 64) : (lkF F s).testBit x = lkB F s x := by
  unfold lkF; rw [pickN_bit hx]
  have : x < 2 ^ 6 := hx
  simp [this]
theorem lkFace {l : List Nat} {s x : Nat} (hs : s < 64) (hx : x < 64) : (lkF (faceSet l) s).testBit x = linkB l s x := by
  rw [lkBit hx]; unfold lkB linkB
  rw [faceSet_bit (or_lt64 hx hs)]
/-- the program's proper subsets -/
def prF (t : Nat) : Nat := fam fun x => (fam fun y => sub y t).testBit x && x != t
theorem prFam (t : Nat) : Fam (prF t) := fam_Fam _
theorem prBit {t x : Nat} (hx : x < 64) : (prF t).testBit x = propB t x := by
  unfold prF propB; rw [fam_at hx, fam_at hx]
theorem flip_fams {l : List Nat} {s t : Nat} (hs : s < 64) : (lkF (faceSet l) s == prF t) = (List.range 64).all fun x => linkB l s x == propB t x := by
  rw [Bool.eq_iff_iff, flipB_same, beq_iff_eq]
  constructor
  · intro h x hx
    rw [← lkFace hs hx, ← prBit hx, h]
  · intro h
    have h1 : lkF (faceSet l) s = fam (propB t) := fam_eq (lkFam _ _) fun x hx => by rw [lkFace hs hx, h x hx]
    have h2 : prF t = fam (propB t) := fam_eq (prFam _) fun x hx => prBit hx
    rw [h1, h2]


/-- what the program's flips tests, for sets of numbers below 64 -/
def flipF (F s t : Nat) : Bool := s != 0 && t != 0 && s &&& t == 0 && F.testBit s && !F.testBit t && lkF F s == prF t
theorem flipFace {l : List Nat} {s t : Nat} (hs : s < 64) (ht : t < 64) : flipF (faceSet l) s t = flipB l s t := by
  unfold flipF flipB
  rw [faceSet_bit hs, faceSet_bit ht, flip_fams hs]
/-- the two sets may be flipped in a pure complex -/
def FlipQ (p : Int) (l : List Nat) (s t : Int) : Prop := ∃ u v : Nat, s = u ∧ t = v ∧ isSetB p s = true ∧ isSetB p t = true ∧ flipB l u v = true
theorem FlipQ.notS {p : Int} {l : List Nat} {s t : Int} (h : isSetB p s = false) : ¬ FlipQ p l s t := fun ⟨_, _, _, _, h1, _⟩ => by rw [h] at h1; cases h1
theorem FlipQ.notT {p : Int} {l : List Nat} {s t : Int} (h : isSetB p t = false) : ¬ FlipQ p l s t := fun ⟨_, _, _, _, _, h1, _⟩ => by rw [h] at h1; cases h1
theorem FlipQ.iff {p : Int} {l : List Nat} {u v : Nat} (h0 : isSetB p u = true) (h1 : isSetB p v = true) : FlipQ p l u v ↔ flipB l u v = true := by
  constructor
  · rintro ⟨u', v', h2, h3, _, _, h⟩
    obtain rfl : u = u' := by omega
    obtain rfl : v = v' := by omega
    exact h
  · intro h; exact ⟨u, v, rfl, rfl, h0, h1, h⟩
end Go.Proofs.Ytikehbbggdmcfaa

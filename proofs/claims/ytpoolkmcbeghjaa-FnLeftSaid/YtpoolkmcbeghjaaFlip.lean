/- Texts of this claim, one behind the other: what each says stands at its head. -/
import Derived.Test.YtpoolkmcbeghjaaCore
import Derived.Test.YtpoolkmcbeghjaaFaces
import Derived.Test.YtpoolkmcbeghjaaFaces2
import Derived.Test.YtpoolkmcbeghjaaIdeal3
/- Contracts of the program's linkIn, flips and CanFlip. -/
namespace Go.Proofs.Ytpoolkmcbeghjaa
set_option maxRecDepth 20000
open Go.RowKit
set_option linter.unusedSimpArgs false
set_option linter.unusedVariables false

theorem u64_noBit (F k : Nat) (hF : Fam F) (hk : k < 64) : bits .andNot .u64 (F : Int) (2 ^ k) = ((fam fun x => F.testBit x && x != k : Nat) : Int) := by
  have e : ((2 : Int) ^ k) = ((2 ^ k : Nat) : Int) := by norm_cast
  have hk2 : 2 ^ k < 18446744073709551616 := Nat.lt_of_lt_of_le (Nat.pow_lt_pow_right (by omega) hk) (by omega)
  rw [e, u64_andNot_nat F (2 ^ k) hF hk2]
  congr 1
  refine fam_eq (Nat.lt_of_le_of_lt Nat.and_le_left hF) fun s hs => ?_
  rw [Nat.testBit_and]
  have e : 18446744073709551615 - 2 ^ k = 2 ^ 64 - (2 ^ k + 1) := by omega
  rw [e, Nat.testBit_two_pow_sub_succ (by omega), Nat.testBit_two_pow]
  by_cases h : k = s
  · subst h; simp
  · have h2 : ¬ s = k := fun e => h e.symm
    simp [h, h2, hs]
/-- the test of the program's linkIn -/
def lkB (F s x : Nat) : Bool := x &&& s == 0 && F.testBit (x ||| s)
/-- the program's linkIn -/
def lkF (F s : Nat) : Nat := pickN (lkB F s) (2 ^ 6)
theorem lkFam (F s : Nat) : Fam (lkF F s) := pickN_Fam _ _
theorem lkBit {F s x : Nat} (hx : x < 64) : (lkF F s).testBit x = lkB F s x := by
  unfold lkF; rw [pickN_bit hx]
  have : x < 2 ^ 6 := hx
  simp [this]
theorem lkFace {l : List Nat} {s x : Nat} (hs : s < 64) (hx : x < 64) : (lkF (faceSet l) s).testBit x = linkB l s x := by
  rw [lkBit hx]; unfold lkB linkB
  rw [faceSet_bit (or_lt64 hx hs)]
/-- the program's proper subsets -/
def prF (t : Nat) : Nat := fam fun x => (fam fun y => sub y t).testBit x && x != t
theorem prFam (t : Nat) : Fam (prF t) := fam_Fam _
theorem prBit {t x : Nat} (hx : x < 64) : (prF t).testBit x = propB t x := by
  unfold prF propB; rw [fam_at hx, fam_at hx]
theorem flip_fams {l : List Nat} {s t : Nat} (hs : s < 64) : (lkF (faceSet l) s == prF t) = (List.range 64).all fun x => linkB l s x == propB t x := by
  rw [Bool.eq_iff_iff, flipB_same, beq_iff_eq]
  constructor
  · intro h x hx
    rw [← lkFace hs hx, ← prBit hx, h]
  · intro h
    have h1 : lkF (faceSet l) s = fam (propB t) := fam_eq (lkFam _ _) fun x hx => by rw [lkFace hs hx, h x hx]
    have h2 : prF t = fam (propB t) := fam_eq (prFam _) fun x hx => prBit hx
    rw [h1, h2]


/-- what the program's flips tests, for sets of numbers below 64 -/
def flipF (F s t : Nat) : Bool := s != 0 && t != 0 && s &&& t == 0 && F.testBit s && !F.testBit t && lkF F s == prF t
theorem flipFace {l : List Nat} {s t : Nat} (hs : s < 64) (ht : t < 64) : flipF (faceSet l) s t = flipB l s t := by
  unfold flipF flipB
  rw [faceSet_bit hs, faceSet_bit ht, flip_fams hs]
/-- the two sets may be flipped in a pure complex -/
def FlipQ (p : Int) (l : List Nat) (s t : Int) : Prop := ∃ u v : Nat, s = u ∧ t = v ∧ isSetB p s = true ∧ isSetB p t = true ∧ flipB l u v = true
theorem FlipQ.notS {p : Int} {l : List Nat} {s t : Int} (h : isSetB p s = false) : ¬ FlipQ p l s t := fun ⟨_, _, _, _, h1, _⟩ => by rw [h] at h1; cases h1
theorem FlipQ.notT {p : Int} {l : List Nat} {s t : Int} (h : isSetB p t = false) : ¬ FlipQ p l s t := fun ⟨_, _, _, _, _, h1, _⟩ => by rw [h] at h1; cases h1
theorem FlipQ.iff {p : Int} {l : List Nat} {u v : Nat} (h0 : isSetB p u = true) (h1 : isSetB p v = true) : FlipQ p l u v ↔ flipB l u v = true := by
  constructor
  · rintro ⟨u', v', h2, h3, _, _, h⟩
    obtain rfl : u = u' := by omega
    obtain rfl : v = v' := by omega
    exact h
  · intro h; exact ⟨u, v, rfl, rfl, h0, h1, h⟩
end Go.Proofs.Ytpoolkmcbeghjaa

/- Contract of the reference's CanFlip. -/
namespace Go.Proofs.Ytpoolkmcbeghjaa
set_option maxRecDepth 20000
open Go.RowKit
set_option linter.unusedSimpArgs false
set_option linter.unusedVariables false

theorem propTo_yes {D : List Nat} {t I : Nat} (hI : I < D.length) (h : nthN D I ≠ t) : (D.take (I + 1)).filter (fun x => x != t) = (D.take I).filter (fun x => x != t) ++ [nthN D I] := by
  rw [nthN_take D I hI, List.filter_append]; simp [h]
theorem propTo_no {D : List Nat} {t I : Nat} (hI : I < D.length) (h : nthN D I = t) : (D.take (I + 1)).filter (fun x => x != t) = (D.take I).filter (fun x => x != t) := by
  rw [nthN_take D I hI, List.filter_append]; simp [h]
end Go.Proofs.Ytpoolkmcbeghjaa

/- Contracts of FlipAt, the program's and the reference's. -/
namespace Go.Proofs.Ytpoolkmcbeghjaa
set_option maxRecDepth 20000
open Go.RowKit
set_option linter.unusedSimpArgs false
set_option linter.unusedVariables false

/-- the program's deletionIn -/
def delB (F s x : Nat) : Bool := F.testBit x && !sub s x
def delN (F s : Nat) : Nat := pickN (delB F s) (2 ^ 6)
theorem delFam (F s : Nat) : Fam (delN F s) := pickN_Fam _ _
theorem delBit {F s x : Nat} (hx : x < 64) : (delN F s).testBit x = delB F s x := by
  unfold delN; rw [pickN_bit hx]
  have : x < 2 ^ 6 := hx
  simp [this]
theorem sdiff_nz {a b : Nat} (ha : a < 64) (hb : b < 64) : (((sdiff a b : Nat) : Int) != 0) = !sub a b := by
  unfold bne; rw [sdiff_zero ha hb]

/-- the new faces of a flip -/
def newB (s t x : Nat) : Bool := sub x (s ||| t) && !sub s x
theorem flipFam_eq {l : List Nat} {m s t x : Nat} (hx : x < 64) : (delN (faceSet l) s ||| pickN (newB s t) (2 ^ m)).testBit x = flipFam l m s t x := by
  rw [Nat.testBit_or, delBit hx, pickN_bit hx]
  unfold delB flipFam newB
  rw [faceSet_bit hx]
end Go.Proofs.Ytpoolkmcbeghjaa

/- Contracts of HasFace and of SubdivideAt, the program's and the reference's. -/
namespace Go.Proofs.Ytpoolkmcbeghjaa
set_option maxRecDepth 20000
open Go.RowKit
set_option linter.unusedSimpArgs false
set_option linter.unusedVariables false

/-- append of two numbers to a row of the call's own -/
theorem ap_two {ops : Array Oper} {rest : List Oper} {o : Oper} {a : Act} {Q : Exit → Act → World → Prop} {w0 : World} (hgd : o.guard = none) (s x : Operand)
    (ho : o.op = .call { callee := .builtin .append, args := #[s, x], argTypes := #[22, 22] })
    (B : Nat) (ad : Option Addr) (n c : Nat) (xs : List Int) (y1 y2 : Int) (hs : a.eval s = .slice ad n c) (hown : Own 3 w0 B ad n c xs)
    (hx : a.eval x = .slice (some ⟨w0.heap.size, 0, none⟩) 2 2) (hn : n < 1099511627776) (hB : B ≤ w0.heap.size)
    (h : ∀ ad' c' w', Own 3 w' B ad' (n + 2) c' (xs ++ [y1, y2]) → Below B w0 w' → wpList Try.prog ops Q rest (a.put o.dst (.slice ad' (n + 2 : Nat) c')) w') :
    wpList Try.prog ops Q (o :: rest) a (w0.alloc (.cells #[.int .i64 y1, .int .i64 y2] 3)) := by
  obtain ⟨i0, hi, hz0, hz1, hz2⟩ := info_parts infoInt
  refine wpList_append_own _ hgd s x 22 ho B 3 i0 (.int .i64 0) 1 8 Try.underlying22 hi hz0 hz1 hz2 rfl (by decide) _ n _ hs (hown.row.alloc _) ⟨w0.heap.size, 0, none⟩ 2 2 [.int .i64 y1, .int .i64 y2] hx rfl ?_ ?_ ?_ ?_ ?_ ?_
  · intro j u hj
    match j, hj with
    | 0, hj => simp at hj; subst hj; simp [Addr.add]
    | 1, hj => simp at hj; subst hj; simp [Addr.add]
  · intro u hu
    simp at hu
    rcases hu with rfl | rfl <;> rfl
  · unfold maxLen; omega
  · omega
  · simp; omega
  · intro v' w' hown' hgrow _
    have hl := hown.lt
    have hg0 : w0.grownBy w' (Value.slice ad n c).ownBlock :=
      ⟨hgrow.os, hgrow.tape, hgrow.output, by have := hgrow.size; simp at this; omega, fun k hk hne => (hgrow.block k (by simp; omega) hne).trans (Below.heap_alloc _ _ _ hk)⟩
    have hb : Below B w0 w' := (Below.refl B w0).grown hg0 hB (fun k hk => (hl k hk).1)
    have hv : ∃ ad' c', v' = .slice ad' (n + 2) c' := by
      rcases hown'.2 with ⟨_, h0⟩ | ⟨g, cap, cur, hv, _⟩
      · omega
      · exact ⟨_, _, hv⟩
    obtain ⟨ad', c', rfl⟩ := hv
    exact h ad' c' w' ⟨by rw [List.length_map, List.length_append, hown.len]; rfl, by unfold Own at *; rw [List.map_append]; exact hown'⟩ hb

/-- a face of a complex -/
def HasP (p : Int) (xs : List Int) (s : Int) : Prop := ∃ (l : List Nat) (u : Nat), xs = up l ∧ Anti p (up l) ∧ s = u ∧ u < 64 ∧ isFace l u = true
theorem HasP.anti {p : Int} {xs : List Int} {s : Int} (h : HasP p xs s) : Anti p xs := by obtain ⟨l, u, rfl, h, _⟩ := h; exact h
theorem HasP.iff {p : Int} {l : List Nat} {u : Nat} (hA : Anti p (up l)) (hu : u < 64) : HasP p (up l) u ↔ isFace l u = true := by
  constructor
  · rintro ⟨l', u', h1, _, h2, _, h⟩
    have := up_inj h1; subst this
    obtain rfl : u = u' := by omega
    exact h
  · intro h; exact ⟨l, u, rfl, hA, rfl, hu, h⟩
theorem isFace_lt {l : List Nat} {N s : Nat} (h : isFace l s = true) (hl : ∀ t ∈ l, t < N) : s < N := by
  obtain ⟨f, hf, hs⟩ := isFace_iff.1 h
  exact sub_lt hs (hl f hf)

theorem iSub_any (s : Nat) (w : World) (hs : s < 64) : Calls Try.prog 83 #[.int .i64 s] w (RetInts w (up (ord fun t => sub t s))) := by
  have hF := fam_Fam fun t => sub t s
  have HE : Hid (ord (fam fun t => sub t s).testBit = ord fun t => sub t s) := Lib.hid (ord_congr fun t ht => fam_at ht)
  go_enter Try.func83, Try.ntmps83
  go_wp2_with (first | (go_at_call 97; (with_reducible refine (IsSet6 s _ hs).mono ?_); rintro e w' ⟨rfl, rfl⟩) | (go_at_call 100; (with_reducible refine (subsetFamily_any s _ hs).mono ?_); rintro e w' ⟨rfl, rfl⟩))
  refine (setsIn_any _ _ hF).mono ?_
  rw [HE.out]
  rintro e w1 ⟨ad, k, d, rfl, hown, hb⟩
  have HO := Lib.hid hown; have HB := Lib.hid hb
  clear hown hb
  go_wp2_with fail
  go_ret
  exact ⟨ad, k, d, rfl, HO.out, HB.out⟩
end Go.Proofs.Ytpoolkmcbeghjaa

/- Contracts of SubdivideAt, the program's and the reference's. -/
namespace Go.Proofs.Ytpoolkmcbeghjaa
set_option maxRecDepth 20000
open Go.RowKit
set_option linter.unusedSimpArgs false
set_option linter.unusedVariables false

/-- a complex may be subdivided at s -/
def DivP (p : Int) (xs : List Int) (s : Int) : Prop := HasP p xs s ∧ p ≠ 6 ∧ s ≠ 0
theorem or_top : ∀ m, m < 6 → ∀ a, a < 2 ^ m → a + 2 ^ m = a ||| 2 ^ m := by decide +kernel

end Go.Proofs.Ytpoolkmcbeghjaa

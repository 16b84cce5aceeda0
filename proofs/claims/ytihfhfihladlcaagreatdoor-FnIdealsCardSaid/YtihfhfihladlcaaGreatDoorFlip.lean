/- Texts of this claim, one behind the other: what each says stands at its head. -/
import Derived.Test.YtihfhfihladlcaaGreatDoorCore
import Derived.Test.YtihfhfihladlcaaGreatDoorFrom
import Derived.Test.YtihfhfihladlcaaGreatDoorIdeal3
import Derived.Test.YtihfhfihladlcaaGreatDoorPure
/- Contracts of the program's linkIn, flips and CanFlip. -/
namespace Go.Proofs.YtihfhfihladlcaaGreatDoor
set_option maxRecDepth 20000
open Go.RowKit
set_option linter.unusedSimpArgs false
set_option linter.unusedVariables false

theorem u64_noBit (F k : Nat) (hF : Fam F) (hk : k < 64) : bits .andNot .u64 (F : Int) (2 ^ k) = ((fam fun x => F.testBit x && x != k : Nat) : Int) := by
  have e : ((2 : Int) ^ k) = ((2 ^ k : Nat) : Int) := by norm_cast
  have hk2 : 2 ^ k < 18446744073709551616 := Nat.lt_of_lt_of_le (Nat.pow_lt_pow_right (by omega) hk) (by omega)
  rw [e, u64_andNot_nat F (2 ^ k) hF hk2]
  congr 1
  refine fam_eq (Nat.lt_of_le_of_lt Nat.and_le_left hF) fun s hs => ?_
  rw [Nat.testBit_and]
  have e : 18446744073709551615 - 2 ^ k = 2 ^ 64 - (2 ^ k + 1) := by omega
  rw [e, Nat.testBit_two_pow_sub_succ (by omega), Nat.testBit_two_pow]
  by_cases h : k = s
  · subst h; simp
  · have h2 : ¬ s = k := fun e => h e.symm
    simp [h, h2, hs]
/-- the test of the program's linkIn -/
def lkB (F s x : Nat) : Bool := x &&& s == 0 && F.testBit (x ||| s)
/-- the program's linkIn -/
def lkF (F s : Nat) : Nat := pickN (lkB F s) (2 ^ 6)
theorem lkFam (F s : Nat) : Fam (lkF F s) := pickN_Fam _ _
theorem lkBit {F s x : Nat} (hx : x < 64) : (lkF F s).testBit x = lkB F s x := by
  unfold lkF; rw [pickN_bit hx]
  have : x < 2 ^ 6 := hx
  simp [this]
theorem lkFace {l : List Nat} {s x : Nat} (hs : s < 64) (hx : x < 64) : (lkF (faceSet l) s).testBit x = linkB l s x := by
  rw [lkBit hx]; unfold lkB linkB
  rw [faceSet_bit (or_lt64 hx hs)]
/-- the program's proper subsets -/
def prF (t : Nat) : Nat := fam fun x => (fam fun y => sub y t).testBit x && x != t
theorem prFam (t : Nat) : Fam (prF t) := fam_Fam _
theorem prBit {t x : Nat} (hx : x < 64) : (prF t).testBit x = propB t x := by
  unfold prF propB; rw [fam_at hx, fam_at hx]
theorem flip_fams {l : List Nat} {s t : Nat} (hs : s < 64) : (lkF (faceSet l) s == prF t) = (List.range 64).all fun x => linkB l s x == propB t x := by
  rw [Bool.eq_iff_iff, flipB_same, beq_iff_eq]
  constructor
  · intro h x hx
    rw [← lkFace hs hx, ← prBit hx, h]
  · intro h
    have h1 : lkF (faceSet l) s = fam (propB t) := fam_eq (lkFam _ _) fun x hx => by rw [lkFace hs hx, h x hx]
    have h2 : prF t = fam (propB t) := fam_eq (prFam _) fun x hx => prBit hx
    rw [h1, h2]

theorem linkFn_any (g1 g2 x s F : Nat) (w : World) (hx : x < 64) (hs : s < 64) (hF : Fam F) (h1 : w.cell? ⟨g1, 0, none⟩ = some (.int .i64 s)) (h2 : w.cell? ⟨g2, 0, none⟩ = some (.int .u64 F)) :
    Calls Tryz.prog 212 #[.int .i64 x, .pointer (some ⟨g1, 0, none⟩), .pointer (some ⟨g2, 0, none⟩)] w fun e w' => e = .returned (.bool (lkB F s x)) ∧ w = w' := by
  have hor := or_lt64 hx hs
  have how := w_or x s hx hs
  obtain ⟨d, hd⟩ : ∃ d, d = (x &&& s == 0) := ⟨_, rfl⟩
  have hz : (((x &&& s : Nat) : Int) == 0) = d := by rw [hd]; exact castBeq _ 0
  have Hd : Hid (lkB F s x = (d && F.testBit (x ||| s))) := Lib.hid (by rw [hd]; rfl)
  clear hd
  cases d
  · go_enter Tryz.func212, Tryz.ntmps212
    go_wp2_with (go_at_call 152; (with_reducible refine (hasSet_any F (x ||| s) _ hF hor).mono ?_); rintro e w' ⟨rfl, rfl⟩)
    go_ret
    exact ⟨ret_bool (by rw [Hd.out]; rfl), rfl⟩
  · go_enter Tryz.func212, Tryz.ntmps212
    go_wp2_with (go_at_call 152; (with_reducible refine (hasSet_any F (x ||| s) _ hF hor).mono ?_); rintro e w' ⟨rfl, rfl⟩)
    go_ret
    exact ⟨ret_bool (by rw [Hd.out]; rfl), rfl⟩
set_option maxRecDepth 100000 in
theorem linkIn_any (F s : Nat) (w : World) (hF : Fam F) (hs : s < 64) :
    Calls Tryz.prog 195 #[.int .u64 F, .int .i64 s] w fun e w' => e = .returned (.int .u64 (lkF F s)) ∧ Below w.heap.size w w' := by
  go_enter Tryz.func195, Tryz.ntmps195
  go_wp2_with fail
  refine (pickSets_any 212 #[.pointer (some ⟨w.heap.size + 1, 0, none⟩), .pointer (some ⟨w.heap.size, 0, none⟩)] (lkB F s) 6 _ (by omega) (fun _ _ => rfl) (fun x hx => linkFn_any (w.heap.size + 1) w.heap.size x s F _ hx hs hF (by rw [show w.heap.size + 1 = (w.alloc (.cells #[.int .u64 F] 77)).heap.size by simp, World.cell?_alloc_at _ _ _ _ rfl]; rfl) (by rw [World.cell?_alloc_lt _ _ _ (by simp), World.cell?_alloc_at _ _ _ _ rfl]; rfl))).mono ?_
  rintro e we ⟨rfl, rfl⟩
  go_wp2_with fail
  go_ret
  exact ⟨rfl, (by repeat (first | exact Below.refl _ _ | assumption | refine Below.setCell ?_ (by first | omega | (simp; done) | (simp; omega)) _ | refine Below.alloc ?_ (by first | omega | (simp; done) | (simp; omega)) _ | apply Below.drew))⟩

/-- what the program's flips tests, for sets of numbers below 64 -/
def flipF (F s t : Nat) : Bool := s != 0 && t != 0 && s &&& t == 0 && F.testBit s && !F.testBit t && lkF F s == prF t
theorem flipFace {l : List Nat} {s t : Nat} (hs : s < 64) (ht : t < 64) : flipF (faceSet l) s t = flipB l s t := by
  unfold flipF flipB
  rw [faceSet_bit hs, faceSet_bit ht, flip_fams hs]
/-- the two sets may be flipped in a pure complex -/
def FlipQ (p : Int) (l : List Nat) (s t : Int) : Prop := ∃ u v : Nat, s = u ∧ t = v ∧ isSetB p s = true ∧ isSetB p t = true ∧ flipB l u v = true
theorem FlipQ.notS {p : Int} {l : List Nat} {s t : Int} (h : isSetB p s = false) : ¬ FlipQ p l s t := fun ⟨_, _, _, _, h1, _⟩ => by rw [h] at h1; cases h1
theorem FlipQ.notT {p : Int} {l : List Nat} {s t : Int} (h : isSetB p t = false) : ¬ FlipQ p l s t := fun ⟨_, _, _, _, _, h1, _⟩ => by rw [h] at h1; cases h1
theorem FlipQ.iff {p : Int} {l : List Nat} {u v : Nat} (h0 : isSetB p u = true) (h1 : isSetB p v = true) : FlipQ p l u v ↔ flipB l u v = true := by
  constructor
  · rintro ⟨u', v', h2, h3, _, _, h⟩
    obtain rfl : u = u' := by omega
    obtain rfl : v = v' := by omega
    exact h
  · intro h; exact ⟨u, v, rfl, rfl, h0, h1, h⟩
end Go.Proofs.YtihfhfihladlcaaGreatDoor

/- Contract of the reference's CanFlip. -/
namespace Go.Proofs.YtihfhfihladlcaaGreatDoor
set_option maxRecDepth 20000
open Go.RowKit
set_option linter.unusedSimpArgs false
set_option linter.unusedVariables false

theorem propTo_yes {D : List Nat} {t I : Nat} (hI : I < D.length) (h : nthN D I ≠ t) : (D.take (I + 1)).filter (fun x => x != t) = (D.take I).filter (fun x => x != t) ++ [nthN D I] := by
  rw [nthN_take D I hI, List.filter_append]; simp [h]
theorem propTo_no {D : List Nat} {t I : Nat} (hI : I < D.length) (h : nthN D I = t) : (D.take (I + 1)).filter (fun x => x != t) = (D.take I).filter (fun x => x != t) := by
  rw [nthN_take D I hI, List.filter_append]; simp [h]
end Go.Proofs.YtihfhfihladlcaaGreatDoor

/- Contracts of FlipAt, the program's and the reference's. -/
namespace Go.Proofs.YtihfhfihladlcaaGreatDoor
set_option maxRecDepth 20000
open Go.RowKit
set_option linter.unusedSimpArgs false
set_option linter.unusedVariables false

/-- the program's deletionIn -/
def delB (F s x : Nat) : Bool := F.testBit x && !sub s x
def delN (F s : Nat) : Nat := pickN (delB F s) (2 ^ 6)
theorem delFam (F s : Nat) : Fam (delN F s) := pickN_Fam _ _
theorem delBit {F s x : Nat} (hx : x < 64) : (delN F s).testBit x = delB F s x := by
  unfold delN; rw [pickN_bit hx]
  have : x < 2 ^ 6 := hx
  simp [this]
theorem sdiff_nz {a b : Nat} (ha : a < 64) (hb : b < 64) : (((sdiff a b : Nat) : Int) != 0) = !sub a b := by
  unfold bne; rw [sdiff_zero ha hb]

/-- the new faces of a flip -/
def newB (s t x : Nat) : Bool := sub x (s ||| t) && !sub s x
theorem flipFam_eq {l : List Nat} {m s t x : Nat} (hx : x < 64) : (delN (faceSet l) s ||| pickN (newB s t) (2 ^ m)).testBit x = flipFam l m s t x := by
  rw [Nat.testBit_or, delBit hx, pickN_bit hx]
  unfold delB flipFam newB
  rw [faceSet_bit hx]
end Go.Proofs.YtihfhfihladlcaaGreatDoor

/- Plain law of RunFlips: the maximal sets of a family are a complex again, and what a run of flips leaves. -/
namespace Go.Proofs.YtihfhfihladlcaaGreatDoor
set_option maxRecDepth 20000
open Go.RowKit
set_option linter.unusedSimpArgs false
set_option linter.unusedVariables false

theorem anti_maxL {m : Nat} {p : Nat → Bool} (h1 : 1 ≤ m) (h6 : m ≤ 6) (hp : ∀ s, s < 64 → p s = true → s < 2 ^ m) : Anti m (up (maxL p)) := by
  have hsorted : (maxL p).Pairwise fun a b => rank a < rank b := ord_sorted _
  rw [List.pairwise_iff_getElem] at hsorted
  have hat : ∀ j (hj : j < (maxL p).length), nth (up (maxL p)) j = ((maxL p)[j] : Int) := fun j hj => by rw [nth_up, nthN_eq hj]
  refine ⟨by omega, by omega, fun j hj => ?_⟩
  rw [up_len] at hj
  have hmj := mem_maxL.1 (List.getElem_mem hj)
  have hlt : (maxL p)[j] < 2 ^ m := hp _ hmj.1 hmj.2.1
  refine ⟨?_, fun h0 => ?_, fun i hi => ?_⟩
  · rw [hat j hj]; exact isSet_iff.2 ⟨h6, _, rfl, hlt⟩
  · have hj1 : j - 1 < (maxL p).length := by omega
    rw [hat j hj, hat (j - 1) hj1]
    unfold befB
    simpa using hsorted (j - 1) j hj1 hj (by omega)
  · have hij : i < (maxL p).length := by omega
    have hmi := mem_maxL.1 (List.getElem_mem hij)
    rw [hat j hj, hat i hij]
    have hr := hsorted i j hij hj hi
    cases hs : sub (maxL p)[i] (maxL p)[j] with
    | false => simpa using hs
    | true =>
      have := hmi.2.2 _ hmj.1 hmj.2.1 hs
      rw [this] at hr
      exact absurd hr (Nat.lt_irrefl _)
/-- the facets of a complex, as numbers -/
structure Cpx (m : Nat) (l : List Nat) : Prop where
  anti : Anti m (up l)
  lt : ∀ t ∈ l, t < 2 ^ m
theorem Cpx.six {m : Nat} {l : List Nat} (h : Cpx m l) : m ≤ 6 := by have := h.anti.2.1; omega
theorem Cpx.one {m : Nat} {l : List Nat} (h : Cpx m l) : 1 ≤ m := by have := h.anti.1; omega
theorem Cpx.lt64 {m : Nat} {l : List Nat} (h : Cpx m l) : ∀ t ∈ l, t < 64 := fun t ht => Nat.lt_of_lt_of_le (h.lt t ht) (pow_le64 h.six)
theorem Cpx.len {m : Nat} {l : List Nat} (h : Cpx m l) : l.length ≤ 64 := by
  obtain ⟨l', he, _, hs, _⟩ := h.anti.nat
  have := up_inj he; subst this
  exact sorted_len hs h.lt64
theorem Cpx.of {m : Nat} {l : List Nat} (h : Anti m (up l)) : Cpx m l := by
  obtain ⟨l', he, hl, _, _⟩ := h.nat
  have := up_inj he; subst this
  exact ⟨h, fun t ht => by simpa using (hl t ht).1⟩
theorem flip_cpx {m : Nat} {l : List Nat} (h : Cpx m l) (s t : Nat) : Cpx m (maxL (flipFam l m s t)) := by
  have hp : ∀ x, x < 64 → flipFam l m s t x = true → x < 2 ^ m := fun x _ hx => by
    unfold flipFam at hx
    rw [Bool.or_eq_true, Bool.and_eq_true, Bool.and_eq_true, decide_eq_true_eq] at hx
    rcases hx with ⟨h1, _⟩ | ⟨h1, _⟩
    · obtain ⟨f, hf, hs⟩ := isFace_iff.1 h1
      exact sub_lt hs (h.lt f hf)
    · exact h1
  exact ⟨anti_maxL h.one h.six hp, fun t ht => by
    have := mem_maxL.1 ht
    exact hp t this.1 this.2.1⟩
/-- the flip may be made, for any two numbers -/
def okI (m : Nat) (l : List Nat) (s t : Int) : Bool := pureB l && (isSetB m s && (isSetB m t && flipB l s.toNat t.toNat))
theorem okIiff {m : Nat} {l : List Nat} {s t : Int} : okI m l s t = true ↔ pureB l = true ∧ FlipQ m l s t := by
  unfold okI
  rw [Bool.and_eq_true, Bool.and_eq_true, Bool.and_eq_true]
  constructor
  · rintro ⟨h, h1, h2, h3⟩
    obtain ⟨_, u, _, rfl, _, _, _⟩ := isSet_nat h1
    obtain ⟨_, v, _, rfl, _, _, _⟩ := isSet_nat h2
    exact ⟨h, u, v, rfl, rfl, h1, h2, h3⟩
  · rintro ⟨h, u, v, rfl, rfl, h1, h2, h3⟩
    exact ⟨h, h1, h2, h3⟩
/-- one flip: the new facets, or nothing -/
def step1 (m : Nat) (l : List Nat) (s t : Int) : Option (List Nat) := if okI m l s t = true then some (maxL (flipFam l m s.toNat t.toNat)) else none
theorem step1_cpx {m : Nat} {l l' : List Nat} {s t : Int} (h : Cpx m l) (hs : step1 m l s t = some l') : Cpx m l' := by
  unfold step1 at hs
  split at hs
  · injection hs with hs; rw [← hs]; exact flip_cpx h _ _
  · cases hs
/-- the first k flips of a list -/
def runTo (m : Nat) (l : List Nat) (L : List (List Int)) : Nat → Option (List Nat)
  | 0 => some l
  | k + 1 => match runTo m l L k with
    | none => none
    | some l' => if (nthL L k).length = 2 then step1 m l' (nth (nthL L k) 0) (nth (nthL L k) 1) else none
theorem runTo_none {m : Nat} {l : List Nat} {L : List (List Int)} {k : Nat} (h : runTo m l L k = none) : ∀ d, runTo m l L (k + d) = none := by
  intro d
  induction d with
  | zero => exact h
  | succ d ih => rw [← Nat.add_assoc]; unfold runTo; rw [ih]
theorem runTo_step {m : Nat} {l l' : List Nat} {L : List (List Int)} {k : Nat} (h : runTo m l L k = some l') (h2 : (nthL L k).length = 2) : runTo m l L (k + 1) = step1 m l' (nth (nthL L k) 0) (nth (nthL L k) 1) := by
  conv => lhs; unfold runTo
  rw [h]; simp [h2]
theorem runTo_bad {m : Nat} {l l' : List Nat} {L : List (List Int)} {k : Nat} (h : runTo m l L k = some l') (h2 : (nthL L k).length ≠ 2) : runTo m l L (k + 1) = none := by
  conv => lhs; unfold runTo
  rw [h]; simp [h2]
theorem runTo_cpx {m : Nat} {l : List Nat} {L : List (List Int)} (h : Cpx m l) : ∀ k l', runTo m l L k = some l' → Cpx m l' := by
  intro k
  induction k with
  | zero => intro l' hl; unfold runTo at hl; injection hl with hl; rw [← hl]; exact h
  | succ k ih =>
    intro l' hl
    cases hk : runTo m l L k with
    | none =>
      have := runTo_none hk 1
      rw [this] at hl; cases hl
    | some l1 =>
      by_cases h2 : (nthL L k).length = 2
      · rw [runTo_step hk h2] at hl; exact step1_cpx (ih l1 hk) hl
      · rw [runTo_bad hk h2] at hl; cases hl

/-! ### One flip, the program's and the reference's -/
end Go.Proofs.YtihfhfihladlcaaGreatDoor

/- Contracts of the laws' own helpers for structs of a number and a list: size, copy, comparison, marks and their check. -/
import Derived.Test.YtpoolkmcbeghjaaHelp
namespace Go.Proofs.Ytpoolkmcbeghjaa
set_option maxRecDepth 20000
open Go.RowKit
set_option linter.unusedSimpArgs false

theorem grownBy_trans {a b c : World} {row : Option Nat} (h : a.grownBy b row) (k : b.grownBy c row) : a.grownBy c row :=
  ⟨k.os.trans h.os, k.tape.trans h.tape, k.output.trans h.output, Nat.le_trans h.size k.size, fun i hi hne => (k.block i (Nat.lt_of_lt_of_le hi h.size) hne).trans (h.block i hi hne)⟩

/-- What a call that makes a struct of a number and a list hands back. -/
def RetBox (w : World) (p : Int) (xs : List Int) (e : Ending) (w' : World) : Prop :=
  ∃ ad n c, e = .returned (.agg #[.int .i64 p, .slice ad n c]) ∧ Own 3 w' w.heap.size ad n c xs ∧ Below w.heap.size w w'
/-- .. with a true or a false behind it -/
def RetBox2 (w : World) (p : Int) (xs : List Int) (b : Bool) (e : Ending) (w' : World) : Prop :=
  ∃ ad n c, e = .returned (.tuple #[.agg #[.int .i64 p, .slice ad n c], .bool b]) ∧ Own 3 w' w.heap.size ad n c xs ∧ Below w.heap.size w w'
/-- What marking a row leaves: the row marked, all else as it was. -/
def RetMark (w : World) (B : Nat) (a : Option Addr) (n c s : Nat) (e : Ending) (w' : World) : Prop :=
  e = .returned (.int .i64 ((s + n : Nat) : Int)) ∧ Own 3 w' B a n c (marks s n) ∧ w.grownBy w' (Value.slice a n c).ownBlock

theorem eqPoset_yes (p q : Int) (a b : Option Addr) (n m c d : Nat) (xs ys : List Int) (w : World) (h : IntsAt w a n xs) (h' : IntsAt w b m ys) (hp : p = q) (he : xs = ys) :
    Calls Try.prog 8 #[.agg #[.int .i64 p, .slice a n c], .agg #[.int .i64 q, .slice b m d]] w fun e w' => e = .returned (.bool true) ∧ Below w.heap.size w w' := by
  subst hp
  have Hh := Lib.hid h; clear h
  have Hh' := Lib.hid h'; clear h'
  have He := Lib.hid he; clear he
  have hpp : (p != p) = false := by simp
  go_enter Try.func8, Try.ntmps8
  go_wp2_with fail
  refine (eqIntS_yes a b n m c d xs ys _ (Hh.out.keep (by repeat (first | exact Below.refl _ _ | assumption | refine Below.setCell ?_ (by first | omega | (simp; done) | (simp; omega)) _ | refine Below.alloc ?_ (by first | omega | (simp; done) | (simp; omega)) _ | apply Below.drew))) (Hh'.out.keep (by repeat (first | exact Below.refl _ _ | assumption | refine Below.setCell ?_ (by first | omega | (simp; done) | (simp; omega)) _ | refine Below.alloc ?_ (by first | omega | (simp; done) | (simp; omega)) _ | apply Below.drew))) He.out).mono ?_
  rintro e w1 ⟨rfl, hb⟩
  go_wp2_with fail
  go_ret
  exact ⟨rfl, Below.trans (by repeat (first | exact Below.refl _ _ | assumption | refine Below.setCell ?_ (by first | omega | (simp; done) | (simp; omega)) _ | refine Below.alloc ?_ (by first | omega | (simp; done) | (simp; omega)) _ | apply Below.drew)) (hb.mono (by simp; omega))⟩
theorem markPoset_any (B : Nat) (p : Int) (a : Option Addr) (n c s : Nat) (xs : List Int) (w : World) (h : Own 3 w B a n c xs) (hs : s ≤ 1099511627776) (hm : n ≤ 1099511627776) :
    Calls Try.prog 9 #[.agg #[.int .i64 p, .slice a n c], .int .i64 s] w (RetMark w B a n c s) := by
  have Hh := Lib.hid h; clear h
  go_enter Try.func9, Try.ntmps9
  go_wp2_with fail
  refine (markIntS_any B a n c s xs _ (Hh.out.alloc _) hs hm).mono ?_
  rintro e w1 ⟨rfl, hown, hg⟩
  have Hg := Lib.hid hg; clear hg
  go_wp2_with fail
  go_ret
  exact ⟨rfl, hown, grownBy_trans (World.grownBy_alloc _ _ _) Hg.out⟩
theorem heldPoset_yes (p : Int) (a : Option Addr) (n c s : Nat) (xs : List Int) (w : World) (h : IntsAt w a n xs) (hx : xs = marks s n) (hs : s ≤ 1099511627776) (hm : n ≤ 1099511627776) :
    Calls Try.prog 10 #[.agg #[.int .i64 p, .slice a n c], .int .i64 s] w fun e w' => e = .returned (.int .i64 ((s + n : Nat) : Int)) ∧ Below w.heap.size w w' := by
  have Hh := Lib.hid h; clear h
  have Hx := Lib.hid hx; clear hx
  go_enter Try.func10, Try.ntmps10
  go_wp2_with fail
  refine (heldIntS_yes a n c s xs _ (Hh.out.keep (by repeat (first | exact Below.refl _ _ | assumption | refine Below.setCell ?_ (by first | omega | (simp; done) | (simp; omega)) _ | refine Below.alloc ?_ (by first | omega | (simp; done) | (simp; omega)) _ | apply Below.drew))) Hx.out hs hm).mono ?_
  rintro e w' ⟨rfl, rfl⟩
  go_wp2_with fail
  go_ret
  exact ⟨rfl, (by repeat (first | exact Below.refl _ _ | assumption | refine Below.setCell ?_ (by first | omega | (simp; done) | (simp; omega)) _ | refine Below.alloc ?_ (by first | omega | (simp; done) | (simp; omega)) _ | apply Below.drew))⟩

end Go.Proofs.Ytpoolkmcbeghjaa

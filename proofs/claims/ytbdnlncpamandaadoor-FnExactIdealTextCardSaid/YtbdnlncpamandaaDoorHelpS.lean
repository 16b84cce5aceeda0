/- Contracts of the laws' own helpers for structs of a number and a list: size, copy, comparison, marks and their check. -/
import Derived.Test.YtbdnlncpamandaaDoorHelp
namespace Go.Proofs.YtbdnlncpamandaaDoor
set_option maxRecDepth 20000
open Go.RowKit
set_option linter.unusedSimpArgs false

theorem grownBy_trans {a b c : World} {row : Option Nat} (h : a.grownBy b row) (k : b.grownBy c row) : a.grownBy c row :=
  ⟨k.os.trans h.os, k.tape.trans h.tape, k.output.trans h.output, Nat.le_trans h.size k.size, fun i hi hne => (k.block i (Nat.lt_of_lt_of_le hi h.size) hne).trans (h.block i hi hne)⟩

/-- What a call that makes a struct of a number and a list hands back. -/
def RetBox (w : World) (p : Int) (xs : List Int) (e : Ending) (w' : World) : Prop :=
  ∃ ad n c, e = .returned (.agg #[.int .i64 p, .slice ad n c]) ∧ Own 3 w' w.heap.size ad n c xs ∧ Below w.heap.size w w'
/-- .. with a true or a false behind it -/
def RetBox2 (w : World) (p : Int) (xs : List Int) (b : Bool) (e : Ending) (w' : World) : Prop :=
  ∃ ad n c, e = .returned (.tuple #[.agg #[.int .i64 p, .slice ad n c], .bool b]) ∧ Own 3 w' w.heap.size ad n c xs ∧ Below w.heap.size w w'
/-- What marking a row leaves: the row marked, all else as it was. -/
def RetMark (w : World) (B : Nat) (a : Option Addr) (n c s : Nat) (e : Ending) (w' : World) : Prop :=
  e = .returned (.int .i64 ((s + n : Nat) : Int)) ∧ Own 3 w' B a n c (marks s n) ∧ w.grownBy w' (Value.slice a n c).ownBlock

theorem szIdeal_yes (p : Int) (a : Option Addr) (n c : Nat) (L : Nat) (w : World) (hn : n ≤ L) (hL : L ≤ 1048576) :
    Calls Tryd.prog 4 #[.agg #[.int .i64 p, .slice a n c], .int .i64 L] w fun e w' => e = .returned (.int .i64 ((L - n : Nat) : Int)) ∧ Below w.heap.size w w' := by
  go_enter Tryd.func4, Tryd.ntmps4
  go_wp2_with (go_at_call 9; (with_reducible refine (szIntS_yes a n c L _ hn hL).mono ?_); rintro e w' ⟨rfl, rfl⟩)
  go_ret
  exact ⟨rfl, (Below.refl _ _).alloc (Nat.le_refl _) _⟩
theorem szIdeal_no (p : Int) (a : Option Addr) (n c : Nat) (L : Nat) (w : World) (hn : L < n) (hL : L ≤ 1048576) (hm : n ≤ 9223372036854775807) :
    Calls Tryd.prog 4 #[.agg #[.int .i64 p, .slice a n c], .int .i64 L] w fun e w' => e = .returned (.int .i64 (-1)) ∧ Below w.heap.size w w' := by
  go_enter Tryd.func4, Tryd.ntmps4
  go_wp2_with (go_at_call 9; (with_reducible refine (szIntS_no a n c L _ hn hL hm).mono ?_); rintro e w' ⟨rfl, rfl⟩)
  go_ret
  exact ⟨rfl, (Below.refl _ _).alloc (Nat.le_refl _) _⟩
theorem toIdeal_any (p : Int) (a : Option Addr) (n c : Nat) (xs : List Int) (w : World) (h : IntsAt w a n xs) (hm : n ≤ 1048576) :
    Calls Tryd.prog 6 #[.agg #[.int .i64 p, .slice a n c]] w (RetBox w p xs) := by
  have Hh := Lib.hid h; clear h
  go_enter Tryd.func6, Tryd.ntmps6
  go_wp2_with fail
  refine (toIntS_any a n c xs _ (Hh.out.keep (by repeat (first | exact Below.refl _ _ | assumption | refine Below.setCell ?_ (by first | omega | (simp; done) | (simp; omega)) _ | refine Below.alloc ?_ (by first | omega | (simp; done) | (simp; omega)) _ | apply Below.drew))) hm).mono ?_
  rintro e w1 ⟨ad, m, d, rfl, hown, hb⟩
  obtain ⟨hc, hf⟩ := bcell hb
  have hz : w.heap.size + 3 ≤ w1.heap.size := by have := hb.size; simp at this; omega
  have hbl : Below w.heap.size w w1 := Below.trans (by repeat (first | exact Below.refl _ _ | assumption | refine Below.setCell ?_ (by first | omega | (simp; done) | (simp; omega)) _ | refine Below.alloc ?_ (by first | omega | (simp; done) | (simp; omega)) _ | apply Below.drew)) (hb.mono (by simp; omega))
  have ho : Own 3 w1 (w.heap.size + 3) ad m d xs := hown.mono (by simp)
  go_wp2_with fail
  refine bodyPost_ret (v := .agg #[.int .i64 p, .slice ad m d]) (by simp [results, Tryd.results6, go_sem, hc, hz]) rfl ⟨ad, m, d, rfl, ?_, (by repeat (first | exact Below.refl _ _ | assumption | refine Below.setCell ?_ (by first | omega | (simp; done) | (simp; omega)) _ | refine Below.alloc ?_ (by first | omega | (simp; done) | (simp; omega)) _ | apply Below.drew))⟩
  exact (((ho.setBelow _ (by omega)).setBelow _ (by omega)).setBelow _ (by omega)).mono (by omega)
theorem eqIdeal_yes (p q : Int) (a b : Option Addr) (n m c d : Nat) (xs ys : List Int) (w : World) (h : IntsAt w a n xs) (h' : IntsAt w b m ys) (hp : p = q) (he : xs = ys) :
    Calls Tryd.prog 8 #[.agg #[.int .i64 p, .slice a n c], .agg #[.int .i64 q, .slice b m d]] w fun e w' => e = .returned (.bool true) ∧ Below w.heap.size w w' := by
  subst hp
  have Hh := Lib.hid h; clear h
  have Hh' := Lib.hid h'; clear h'
  have He := Lib.hid he; clear he
  have hpp : (p != p) = false := by simp
  go_enter Tryd.func8, Tryd.ntmps8
  go_wp2_with fail
  refine (eqIntS_yes a b n m c d xs ys _ (Hh.out.keep (by repeat (first | exact Below.refl _ _ | assumption | refine Below.setCell ?_ (by first | omega | (simp; done) | (simp; omega)) _ | refine Below.alloc ?_ (by first | omega | (simp; done) | (simp; omega)) _ | apply Below.drew))) (Hh'.out.keep (by repeat (first | exact Below.refl _ _ | assumption | refine Below.setCell ?_ (by first | omega | (simp; done) | (simp; omega)) _ | refine Below.alloc ?_ (by first | omega | (simp; done) | (simp; omega)) _ | apply Below.drew))) He.out).mono ?_
  rintro e w1 ⟨rfl, hb⟩
  go_wp2_with fail
  go_ret
  exact ⟨rfl, Below.trans (by repeat (first | exact Below.refl _ _ | assumption | refine Below.setCell ?_ (by first | omega | (simp; done) | (simp; omega)) _ | refine Below.alloc ?_ (by first | omega | (simp; done) | (simp; omega)) _ | apply Below.drew)) (hb.mono (by simp; omega))⟩

end Go.Proofs.YtbdnlncpamandaaDoor

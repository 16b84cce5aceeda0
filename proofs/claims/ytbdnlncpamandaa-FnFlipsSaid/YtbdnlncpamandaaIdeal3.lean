/- Texts of this claim, one behind the other: what each says stands at its head. -/
import Derived.Lib.LazyBuf
import Derived.Test.YtbdnlncpamandaaAnti2
import Derived.Test.YtbdnlncpamandaaCore
import Derived.Test.YtbdnlncpamandaaGraph
import Derived.Test.YtbdnlncpamandaaIdeal2
/- Contracts of QuotientBy, PrimesOf, CoversOf and ApartComplex, the program's and the reference's. -/
namespace Go.Proofs.Ytbdnlncpamandaa
set_option maxRecDepth 20000
open Go.RowKit
set_option linter.unusedSimpArgs false
set_option linter.unusedVariables false

theorem pickN_Fam (q : Nat → Bool) (N : Nat) : Fam (pickN q N) := by unfold pickN; exact fam_Fam _
theorem pickN_bit {q : Nat → Bool} {N s : Nat} (hs : s < 64) : (pickN q N).testBit s = (decide (s < N) && q s) := by unfold pickN; rw [fam_at hs]
theorem cell_mid (w : World) (o o' : Obj) (v : Value) (T : Nat) : (((w.alloc o).alloc (.cells #[v] T)).alloc o').cell? ⟨w.heap.size + 1, 0, none⟩ = some v := by
  have e : w.heap.size + 1 = (w.alloc o).heap.size := by simp
  rw [World.cell?_alloc_lt _ _ _ (by simp), e]
  rw [World.cell?_alloc_at _ _ _ _ rfl]; rfl
/-- an ideal and a set of its points -/
def QuoP (p : Int) (xs : List Int) (s : Int) : Prop := Anti p xs ∧ isSetB p s = true



end Go.Proofs.Ytbdnlncpamandaa

/- Contracts of slices.Clone, CoversOf and PrimesOf, the program's and the reference's. -/
namespace Go.Proofs.Ytbdnlncpamandaa
set_option maxRecDepth 20000
open Go.RowKit
set_option linter.unusedSimpArgs false
set_option linter.unusedVariables false

set_option maxRecDepth 100000 in
theorem clone_any (a : Option Addr) (n c : Nat) (xs : List Int) (w : World) (h : IntsAt w a n xs) (hf : Fit a n c) (hn : n < 1000000000) :
    Calls Try.prog 138 #[.slice a n c] w (RetInts w xs) := by
  cases a with
  | none =>
    have hc := hf.nil rfl
    have hn0 : n = 0 := by have := hf.cap; omega
    subst hc; subst hn0
    have hxs : xs = [] := List.eq_nil_of_length_eq_zero h.len
    subst hxs
    clear h hf hn
    have hnil := run_eql_slice_nil (P := Try.prog) (t := 24) (e := 3) (a := none) (l := 0) (c := 0) (h := Try.underlying24)
    go_enter Try.func138, Try.ntmps138
    go_wp2_with fail
    go_ret
    exact ⟨none, 0, 0, rfl, Own.nil _ _ _, Below.refl _ _⟩
  | some g =>
    have Hx := Lib.hid h; have Hf := Lib.hid hf
    clear h hf
    have Hx1 := Lib.hid (Hx.out.keep (w' := w.alloc (.cells #[] 3)) (by repeat (first | exact Below.refl _ _ | assumption | refine Below.setCell ?_ (by first | omega | (simp; done) | (simp; omega)) _ | refine Below.alloc ?_ (by first | omega | (simp; done) | (simp; omega)) _ | apply Below.drew)))
    have hnil := run_eql_slice_nil (P := Try.prog) (t := 24) (e := 3) (a := some g) (l := n) (c := c) (h := Try.underlying24)
    go_enter Try.func138, Try.ntmps138
    go_wp2_with (at_builtin; refine list_ap rfl _ _ rfl w.heap.size _ _ _ _ rfl (Own.empty _ _ _ (Nat.le_refl _)) _ _ _ _ rfl Hx1.out Hf.out (by omega) (by simp) ?_; intro ad' c' w' hown' hb'; have HO := Lib.hid hown'; have HB := Lib.hid hb'; clear hown' hb')
    go_ret
    refine ⟨ad', 0 + n, c', by first | rfl | simp, ?_, ?_⟩
    · have := HO.out; simpa using this
    · exact ((Below.refl _ _).alloc (Nat.le_refl _) _).trans HB.out



end Go.Proofs.Ytbdnlncpamandaa

/- Small laws for a call over copies of the arguments in a region that draws its order: where the result's box lies. -/
import Derived.Test.YtnapicpeccjkoaaHelp
import Derived.Deep.RegionHeld3
namespace Go.Proofs.Ytnapicpeccjkoaa
open Go.RowKit

/-- A box of the call's own, made before the last call. -/
structure BoxR (W : World) (A g B : Nat) (x y : Value) : Prop where
  box : BoxF W g x y
  lo : A ≤ g
  hi : g < B
theorem BoxR.new {W W' : World} {A T : Nat} {x y : Value} (h : A ≤ W.heap.size) (hb : Below (W.alloc (.cells #[x, y] T)).heap.size (W.alloc (.cells #[x, y] T)) W') : BoxR W' A W.heap.size (W.alloc (.cells #[x, y] T)).heap.size x y :=
  ⟨(BoxF.new W x y T).keep hb (by simp), h, by simp⟩
theorem BoxR.newd {W W' : World} {A T : Nat} {x y : Value} (h : A ≤ W.heap.size) (hb : Below (W.alloc (.cells #[x, y] T)).drew.heap.size (W.alloc (.cells #[x, y] T)).drew W') : BoxR W' A W.heap.size (W.alloc (.cells #[x, y] T)).drew.heap.size x y :=
  ⟨((BoxF.new W x y T).drew).keep hb (by simp), h, by simp⟩
theorem BoxR.newe {W W' : World} {T : Nat} {x y : Value} (hb : Below (W.drew.alloc (.cells #[x, y] T)).heap.size (W.drew.alloc (.cells #[x, y] T)) W') : BoxR W' W.heap.size W.heap.size (W.drew.alloc (.cells #[x, y] T)).heap.size x y :=
  ⟨(BoxF.new W.drew x y T).keep hb (by simp), Nat.le_refl _, by simp⟩
theorem chaind {W W' : World} {o : Obj} (hb : Below (W.alloc o).drew.heap.size (W.alloc o).drew W') : Below W.heap.size W W' := (((Below.refl _ W).alloc (Nat.le_refl _) o).drew).trans (hb.mono (by simp))
theorem beld {W : World} (o : Obj) : Below W.heap.size W (W.alloc o).drew := ((Below.refl _ W).alloc (Nat.le_refl _) o).drew
theorem BoxR.keep {W W' : World} {A g B : Nat} {x y : Value} (h : BoxR W A g B x y) (hb : Below W.heap.size W W') : BoxR W' A g W.heap.size x y :=
  ⟨h.box.keep hb h.box.lt, h.lo, h.box.lt⟩
theorem BoxR.ne {W : World} {A g B q : Nat} {x y : Value} (h : BoxR W A g B x y) (hq : q < A) : ¬ q = g ∧ ¬ g = q := by have := h.lo; omega
theorem BoxR.fin {W W0 : World} {A g B T : Nat} {x y x' y' : Value} {ad : Option Addr} {n c : Nat} {ys : List Int} (h : BoxR W A g B x y) (hb : Below A W0 W) (ho : Own T W B ad n c ys) (hB : A ≤ B) :
    Below A W0 ((W.setCell ⟨g, 0, none⟩ x').setCell ⟨g, 1, none⟩ y') ∧ A ≤ g ∧ ((W.setCell ⟨g, 0, none⟩ x').setCell ⟨g, 1, none⟩ y').cell? ⟨g, 0, none⟩ = some x' ∧ ((W.setCell ⟨g, 0, none⟩ x').setCell ⟨g, 1, none⟩ y').cell? ⟨g, 1, none⟩ = some y' ∧
      g < ((W.setCell ⟨g, 0, none⟩ x').setCell ⟨g, 1, none⟩ y').heap.size ∧ Own T ((W.setCell ⟨g, 0, none⟩ x').setCell ⟨g, 1, none⟩ y') A ad n c ys := by
  have hbox := (h.box.set0 x').set1 y'
  exact ⟨(hb.setCell h.lo _).setCell h.lo _, h.lo, hbox.c0, hbox.c1, hbox.lt, ((ho.setBelow _ h.hi).setBelow _ h.hi).mono hB⟩
theorem late_fin {W W0 : World} {A B T TS : Nat} {x y x' y' : Value} {ad : Option Addr} {n c : Nat} {ys : List Int} (hb : Below A W0 W) (hs : A ≤ W.heap.size) (ho : Own T W B ad n c ys) (hB : A ≤ B) :
    Below A W0 (((W.alloc (.cells #[x, y] TS)).setCell ⟨W.heap.size, 0, none⟩ x').setCell ⟨W.heap.size, 1, none⟩ y') ∧ A ≤ W.heap.size ∧ (((W.alloc (.cells #[x, y] TS)).setCell ⟨W.heap.size, 0, none⟩ x').setCell ⟨W.heap.size, 1, none⟩ y').cell? ⟨W.heap.size, 0, none⟩ = some x' ∧ (((W.alloc (.cells #[x, y] TS)).setCell ⟨W.heap.size, 0, none⟩ x').setCell ⟨W.heap.size, 1, none⟩ y').cell? ⟨W.heap.size, 1, none⟩ = some y' ∧
      W.heap.size < (((W.alloc (.cells #[x, y] TS)).setCell ⟨W.heap.size, 0, none⟩ x').setCell ⟨W.heap.size, 1, none⟩ y').heap.size ∧ Own T (((W.alloc (.cells #[x, y] TS)).setCell ⟨W.heap.size, 0, none⟩ x').setCell ⟨W.heap.size, 1, none⟩ y') A ad n c ys := by
  have hbox := ((BoxF.new W x y TS).set0 x').set1 y'
  have hne : ad ≠ some ⟨W.heap.size, 0, none⟩ := fun e => by
    have := (ho.lt W.heap.size (by rw [e]; rfl)).2
    omega
  exact ⟨((hb.alloc hs _).setCell hs _).setCell hs _, hs, hbox.c0, hbox.c1, hbox.lt, (((ho.alloc _).setOther _ hne).setOther _ hne).mono hB⟩
theorem late_fin' {W W0 : World} {A B T TS : Nat} {x' y' : Value} {ad : Option Addr} {n c : Nat} {ys : List Int} (hb : Below A W0 W) (hs : A ≤ W.heap.size) (ho : Own T W B ad n c ys) (hB : A ≤ B) :
    Below A W0 (W.alloc (.cells #[x', y'] TS)) ∧ A ≤ W.heap.size ∧ (W.alloc (.cells #[x', y'] TS)).cell? ⟨W.heap.size, 0, none⟩ = some x' ∧ (W.alloc (.cells #[x', y'] TS)).cell? ⟨W.heap.size, 1, none⟩ = some y' ∧
      W.heap.size < (W.alloc (.cells #[x', y'] TS)).heap.size ∧ Own T (W.alloc (.cells #[x', y'] TS)) A ad n c ys := by
  have hbox := BoxF.new W x' y' TS
  exact ⟨hb.alloc hs _, hs, hbox.c0, hbox.c1, hbox.lt, (ho.alloc _).mono hB⟩
/-- behind one call, and perhaps the making of a box -/
theorem chain1 {A : Nat} {W0 W W' : World} (h : Below A W0 W) (hA : A ≤ W.heap.size) (hb : Below W.heap.size W W') : Below A W0 W' := h.trans (hb.mono hA)
theorem chain2 {A : Nat} {W0 W W' : World} {o : Obj} (h : Below A W0 W) (hA : A ≤ W.heap.size) (hb : Below (W.alloc o).heap.size (W.alloc o) W') : Below A W0 W' := (h.alloc hA o).trans (hb.mono (by simp; omega))
theorem chainS {A : Nat} {W : World} (o : Obj) (hA : A ≤ W.heap.size) : A ≤ (W.alloc o).heap.size := by simp; omega
end Go.Proofs.Ytnapicpeccjkoaa

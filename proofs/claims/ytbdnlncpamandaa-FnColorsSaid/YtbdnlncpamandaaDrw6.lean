/- Texts of this claim, one behind the other: what each says stands at its head. -/
import Derived.Test.YtbdnlncpamandaaCore
import Derived.Test.YtbdnlncpamandaaDrw5
/- The drawings of a complex with a number: DrawLeftMonomials, DrawLeftCount. -/
namespace Go.Proofs.Ytbdnlncpamandaa
set_option maxRecDepth 20000
open Go.RowKit
set_option linter.unusedSimpArgs false
set_option linter.unusedVariables false

/-- the bytes of a code that came in -/
def CodeAt (W : World) (a : Option Addr) (n : Nat) : Prop := ByAt W W.heap.size a n
theorem CodeAt.keep {W W' : World} {a : Option Addr} {n : Nat} (h : CodeAt W a n) (hb : Below W.heap.size W W') : CodeAt W' a n := by
  refine ⟨h.1, fun hn => ?_⟩
  obtain ⟨b, off, ha, hlt, hc⟩ := h.2 hn
  refine ⟨b, off, ha, Nat.lt_of_lt_of_le hlt hb.size, fun k hk => ?_⟩
  obtain ⟨v, hv, hcv⟩ := hc k hk
  exact ⟨v, hv, (World.cell?_of_block (a := ⟨b, off + k, none⟩) (hb.block b hlt)).trans hcv⟩
/-- a drawn complex with a number -/
def RetCxI (w : World) (e : Ending) (w' : World) : Prop := ∃ p ad n c xs d, e = .returned (.tuple #[.agg #[.int .i64 p, .slice ad n c], .int .i64 d]) ∧ Own 3 w' w.heap.size ad n c xs ∧ xs.length ≤ 1101 ∧ Below w.heap.size w w'
theorem IntsAt.drew {w : World} {a : Option Addr} {n : Nat} {xs : List Int} (h : IntsAt w a n xs) : IntsAt w.drew a n xs := h.keep (Below.refl _ _).drew
theorem Chg.belowNew {a b : World} {g B : Nat} (h : Chg a b g none) (hg : B ≤ g) (hB : B ≤ a.heap.size) : Below B a b := h.lowOf hg hB

end Go.Proofs.Ytbdnlncpamandaa

/- The bytes of a law's code, opened. -/
namespace Go.Proofs.Ytbdnlncpamandaa
set_option maxRecDepth 20000
open Go.ChangeShapes Go.WideShapes Go.ChangeAt Go.RowKit

theorem cellsByte : Try.prog.cellsOf 5 = 1 := by kernel_rfl
theorem open_code {H : Type} {enc : TypeId × Value → H} {W : World} {fuel : Nat} {v : Value} {x : DataW H × List MemPlace} (h : DataW.trod enc Try.prog W 0 (fun _ => true) true fuel 22 [v] = some x) :
    ∃ a n c, v = .slice a n c ∧ CodeAt W a n := by
  rcases open_ints Try.underlying22 Try.underlying5 cellsByte h with ⟨hcs, _⟩ | ⟨a, len, cap, zs, hcs, _, hl, hm, hz, _, hcell, hwf⟩
  · simp only [List.cons.injEq, and_true] at hcs
    exact ⟨none, 0, 0, hcs, by omega, fun h => by omega⟩
  · simp only [List.cons.injEq, and_true] at hcs
    simp only [if_true] at hz
    refine ⟨some a, len, cap, hcs, by unfold maxLen at hm; omega, fun hn => ?_⟩
    obtain ⟨b, off, rfl, hc⟩ := ints_at hcell (by omega)
    refine ⟨b, off, rfl, World.block_lt_of_cell? W _ (hc 0 (by omega)), fun i hi => ?_⟩
    have h1 := hc i (by omega)
    have h2 := hwf _ (show zs.getD i 0 ∈ zs by rw [List.getD_eq_getElem?_getD, List.getElem?_eq_getElem (by omega)]; exact List.getElem_mem _)
    obtain ⟨z, hz9⟩ : ∃ z, z = zs.getD i 0 := ⟨_, rfl⟩
    rw [← hz9] at h1 h2
    have h3 : 0 ≤ z ∧ z < 256 := by
      unfold Lit.wf at h2
      have h4 : IntKind.u8.min = 0 := rfl
      have h5 : IntKind.u8.max = 255 := rfl
      have h6 : IntKind.u8.min ≤ z ∧ z ≤ IntKind.u8.max := by simpa using h2
      omega
    refine ⟨z.toNat, by omega, ?_⟩
    rw [h1, show ((z.toNat : Nat) : Int) = z by omega]
end Go.Proofs.Ytbdnlncpamandaa

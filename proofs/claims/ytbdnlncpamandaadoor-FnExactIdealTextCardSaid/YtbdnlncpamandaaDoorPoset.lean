/- Contracts of the functions on orders of points: what IsPoset answers, the program's and the reference's. -/
import Derived.Test.YtbdnlncpamandaaDoorSet3
namespace Go.Proofs.YtbdnlncpamandaaDoor
set_option maxRecDepth 20000
open Go.RowKit
set_option linter.unusedSimpArgs false

/-- what is asked of each point alone -/
def OkPt (p : Int) (xs : List Int) (i : Nat) : Prop := ∃ t : Nat, nth xs i = t ∧ t < 2 ^ p.toNat ∧ t.testBit i = false
theorem okPt_cases {p : Int} (h1 : 1 ≤ p) (h6 : p ≤ 6) (xs : List Int) (i : Nat) : (isSetB p (nth xs i) = false ∧ ¬ OkPt p xs i) ∨ ∃ t : Nat, nth xs i = t ∧ t < 64 ∧ t < 2 ^ p.toNat ∧ isSetB p (nth xs i) = true ∧ (OkPt p xs i ↔ t.testBit i = false) := by
  obtain ⟨m, rfl⟩ := Int.eq_ofNat_of_zero_le (show 0 ≤ p by omega)
  cases h : isSetB (m : Int) (nth xs i)
  · refine .inl ⟨rfl, ?_⟩
    rintro ⟨t, ht, hlt, _⟩
    have : isSetB (m : Int) (nth xs i) = true := isSet_iff.2 ⟨by omega, t, ht, by simpa using hlt⟩
    rw [h] at this; cases this
  · obtain ⟨hm, t, ht, hlt⟩ := isSet_iff.1 h
    have := pow_le64 hm
    refine .inr ⟨t, ht, by omega, by simpa using hlt, rfl, ?_⟩
    constructor
    · rintro ⟨t', ht', _, hb⟩
      rw [ht] at ht'
      have : t = t' := by omega
      rw [this]; exact hb
    · intro hb; exact ⟨t, ht, by simpa using hlt, hb⟩

theorem below_box {w wr : World} {o : Obj} (hb : Below (w.heap.size + 1) (w.alloc o) wr) (n : Nat) : Below w.heap.size w (wr.drewN n) := below_drewN (box_below hb) n


end Go.Proofs.YtbdnlncpamandaaDoor

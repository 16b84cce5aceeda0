/- A set out of a text: plain law, and contracts of ParseSet, the program's and the reference's. -/
import Derived.Test.YtbdnlncpamandaaDoorStr
namespace Go.Proofs.YtbdnlncpamandaaDoor
set_option maxRecDepth 20000
open Go.RowKit
set_option linter.unusedSimpArgs false
set_option linter.unusedVariables false

/-- the byte at k -/
def bn (l : List UInt8) (k : Nat) : Nat := (l.getD k 0).toNat
theorem bn_at (t : ByteArray) (k : Nat) (h : k < t.size) : bn (byt t) k = t[k].toNat := by
  obtain ⟨h', e⟩ := byt_at t k h
  unfold bn
  rw [List.getD_eq_getElem?_getD, List.getElem?_eq_getElem h', e]; rfl
/-- the set of the first k letters, if they are letters that rise -/
def psTo (l : List UInt8) : Nat → Option Nat
  | 0 => some 0
  | k + 1 => match psTo l k with
    | none => none
    | some s => if 97 ≤ bn l k ∧ bn l k ≤ 102 ∧ s < 2 ^ (bn l k - 97) then some (s + 2 ^ (bn l k - 97)) else none
/-- the set of a text -/
def psv (l : List UInt8) : Option Nat := if l = [45] then some 0 else if l = [] then none else psTo l l.length
theorem psTo_no {l : List UInt8} {k : Nat} (h : psTo l k = none) : ∀ d, psTo l (k + d) = none := by
  intro d
  induction d with
  | zero => exact h
  | succ d ih => rw [← Nat.add_assoc, psTo, ih]
theorem psTo_stop {l : List UInt8} {k : Nat} (h : psTo l (k + 1) = none) (hk : k < l.length) : psTo l l.length = none := by
  have := psTo_no h (l.length - (k + 1))
  rwa [show k + 1 + (l.length - (k + 1)) = l.length by omega] at this
theorem psTo_yes {l : List UInt8} {k s : Nat} (h : psTo l k = some s) (h1 : 97 ≤ bn l k) (h2 : bn l k ≤ 102) (h3 : s < 2 ^ (bn l k - 97)) : psTo l (k + 1) = some (s + 2 ^ (bn l k - 97)) := by
  rw [psTo, h]; simp only []; rw [if_pos ⟨h1, h2, h3⟩]
theorem psTo_not {l : List UInt8} {k s : Nat} (h : psTo l k = some s) (hn : ¬ (97 ≤ bn l k ∧ bn l k ≤ 102 ∧ s < 2 ^ (bn l k - 97))) : psTo l (k + 1) = none := by
  rw [psTo, h]; simp only []; rw [if_neg hn]
theorem psTo_top {l : List UInt8} {k s : Nat} (h : psTo l (k + 1) = some s) : 97 ≤ bn l k ∧ bn l k ≤ 102 ∧ 2 ^ (bn l k - 97) ≤ s ∧ s < 2 ^ (bn l k - 97 + 1) := by
  rw [psTo] at h
  split at h
  · cases h
  · split at h
    · next hc =>
      cases h
      refine ⟨hc.1, hc.2.1, by omega, ?_⟩
      have := hc.2.2
      rw [Nat.pow_succ]; omega
    · cases h
theorem psTo_big {l : List UInt8} : ∀ {k s : Nat}, psTo l k = some s → 2 ^ k ≤ s + 1 ∧ s < 64 := by
  intro k
  induction k with
  | zero => intro s h; cases h; simp
  | succ k ih =>
    intro s h
    have ht := psTo_top h
    rw [psTo] at h
    split at h
    · cases h
    · next s0 h0 =>
      split at h
      · next hc =>
        cases h
        have h1 := (ih h0).1
        have h2 := hc.2.2
        refine ⟨by rw [Nat.pow_succ]; omega, ?_⟩
        have : 2 ^ (bn l k - 97 + 1) ≤ 2 ^ 6 := Nat.pow_le_pow_right (by omega) (by omega)
        omega
      · cases h
theorem psTo_long {l : List UInt8} {k : Nat} (h : 6 < k) : psTo l k = none := by
  cases hp : psTo l k with
  | none => rfl
  | some s =>
    have h1 := psTo_big hp
    have h2 : 2 ^ 7 ≤ 2 ^ k := Nat.pow_le_pow_right (by omega) h
    omega
/-- the next letter is higher -/
theorem psTo_rise {l : List UInt8} {k s : Nat} (h : psTo l (k + 1) = some s) (h2 : bn l (k + 1) ≤ 102) : s < 2 ^ (bn l (k + 1) - 97) ↔ bn l k < bn l (k + 1) := by
  obtain ⟨a1, a2, a3, a4⟩ := psTo_top h
  constructor
  · intro hs
    have := (Nat.pow_lt_pow_iff_right (a := 2) (by omega)).1 (Nat.lt_of_le_of_lt a3 hs)
    omega
  · intro hb
    exact Nat.lt_of_lt_of_le a4 (Nat.pow_le_pow_right (by omega) (by omega))
theorem or_add {s k : Nat} (h : s < 2 ^ k) (hk : k < 6) : s ||| 2 ^ k = s + 2 ^ k := by
  have hs : s < 64 := Nat.lt_of_lt_of_le h (show 2 ^ k ≤ 2 ^ 6 from Nat.pow_le_pow_right (by omega) (by omega))
  have : ∀ k < 6, ∀ s < 2 ^ k, s ||| 2 ^ k = s + 2 ^ k := by decide +kernel
  exact this k hk s h
theorem psv_dash : psv [45] = some 0 := rfl
theorem psv_lt {l : List UInt8} {s : Nat} (h : psv l = some s) : s < 64 := by
  unfold psv at h
  split at h
  · cases h; omega
  · split at h
    · cases h
    · exact (psTo_big h).2
theorem psv_none {l : List UInt8} (h0 : l ≠ [45]) (h : psTo l l.length = none) : psv l = none := by
  unfold psv; rw [if_neg h0]; split
  · rfl
  · exact h
theorem psv_some {l : List UInt8} (h0 : l ≠ [45]) (h1 : l ≠ []) : psv l = psTo l l.length := by
  unfold psv; rw [if_neg h0, if_neg h1]
/-- what ParseSet returns -/
def RetO (o : Option Nat) (w : World) (e : Ending) (w' : World) : Prop := e = .returned (.tuple #[.int .i64 ((o.getD 0 : Nat) : Int), .bool o.isSome]) ∧ Below w.heap.size w w'
def dashS : ByteArray := { data := #[45] }
theorem dash_iff (t : ByteArray) : t = dashS ↔ byt t = [45] := ⟨fun h => by rw [h]; rfl, fun h => byt_inj h⟩
theorem empty_iff (t : ByteArray) : t.size = 0 ↔ byt t = [] := by rw [← byt_len, List.length_eq_zero_iff]

end Go.Proofs.YtbdnlncpamandaaDoor

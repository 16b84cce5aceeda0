/- The laws of append and of reading, at this program's own types of numbers. -/
import Derived.Test.YtbdnlncpamandaaDoorRows
import Derived.Test.YtbdnlncpamandaaDoorMath
namespace Go.Proofs.YtbdnlncpamandaaDoor
set_option maxRecDepth 20000
open Go.RowKit

theorem infoInt : (Tryd.prog.info? 3).map (fun i => (i.zero, i.size, i.bytes)) = some (some (.int .i64 0), 1, 8) := by kernel_rfl

/-- append of one element to a row of the call's own, whatever the elements' type -/
theorem ap_row {ops : Array Oper} {rest : List Oper} {o : Oper} {a : Act} {Q : Exit → Act → World → Prop} {w0 : World} {TS TE bytes : Nat} {z : Value} (hu : Tryd.prog.underlying TS = some (.slice TE))
    (hinfo : (Tryd.prog.info? TE).map (fun i => (i.zero, i.size, i.bytes)) = some (some z, 1, bytes)) (hz : z.cells.size = 1) (hgd : o.guard = none) (s x : Operand)
    (ho : o.op = .call { callee := .builtin .append, args := #[s, x], argTypes := #[TS, TS] })
    (B : Nat) (ad : Option Addr) (n c : Nat) (vs : List Value) (y : Value) (hs : a.eval s = .slice ad n c) (hown : Row TE w0 B ad n c vs)
    (hx : a.eval x = .slice (some ⟨w0.heap.size, 0, none⟩) 1 1) (hy : y.oneCell' = true) (hn : n < 1099511627776) (hby : bytes ≤ 64) (hB : B ≤ w0.heap.size)
    (h : ∀ ad' c' w', Row TE w' B ad' (n + 1) c' (vs ++ [y]) → Below B w0 w' → w0.grownBy w' (Value.slice ad n c).ownBlock → wpList Tryd.prog ops Q rest (a.put o.dst (.slice ad' (n + 1 : Nat) c')) w') :
    wpList Tryd.prog ops Q (o :: rest) a (w0.alloc (.cells #[y] TE)) := by
  obtain ⟨i0, hi, hz0, hz1, hz2⟩ := info_parts hinfo
  refine wpList_append_own _ hgd s x TS ho B TE i0 z 1 bytes hu hi hz0 hz1 hz2 hz (by decide) _ n _ hs (hown.row.alloc _) ⟨w0.heap.size, 0, none⟩ 1 1 [y] hx rfl ?_ ?_ ?_ ?_ ?_ ?_
  · intro j u hj
    match j, hj with
    | 0, hj => simp at hj; subst hj; simp [Addr.add]
  · intro u hu; simp at hu; subst hu; exact hy
  · unfold maxLen; omega
  · have : (n + 1) * bytes ≤ 1099511627776 * 64 := Nat.mul_le_mul (by omega) hby
    omega
  · simp; omega
  · intro v' w' hown' hgrow _
    have hl := hown.lt
    have hg0 : w0.grownBy w' (Value.slice ad n c).ownBlock :=
      ⟨hgrow.os, hgrow.tape, hgrow.output, by have := hgrow.size; simp at this; omega, fun k hk hne => (hgrow.block k (by simp; omega) hne).trans (Below.heap_alloc _ _ _ hk)⟩
    have hb : Below B w0 w' := (Below.refl B w0).grown hg0 hB (fun k hk => (hl k hk).1)
    have hv : ∃ ad' c', v' = .slice ad' (n + 1) c' := by
      rcases hown'.2 with ⟨_, h0⟩ | ⟨g, cap, cur, hv, _⟩
      · omega
      · exact ⟨_, _, hv⟩
    obtain ⟨ad', c', rfl⟩ := hv
    exact h ad' c' w' ⟨by rw [List.length_append, hown.len]; rfl, hown'⟩ hb hg0

/-- append of one element within the capacity -/
theorem ap_fit {ops : Array Oper} {rest : List Oper} {o : Oper} {a : Act} {Q : Exit → Act → World → Prop} {w0 : World} {TS TE bytes : Nat} {z : Value} (hu : Tryd.prog.underlying TS = some (.slice TE))
    (hinfo : (Tryd.prog.info? TE).map (fun i => (i.zero, i.size, i.bytes)) = some (some z, 1, bytes)) (hgd : o.guard = none) (s x : Operand)
    (ho : o.op = .call { callee := .builtin .append, args := #[s, x], argTypes := #[TS, TS] })
    (B g n c : Nat) (vs : List Value) (y : Value) (hs : a.eval s = .slice (some ⟨g, 0, none⟩) n c) (hown : Row TE w0 B (some ⟨g, 0, none⟩) n c vs)
    (hx : a.eval x = .slice (some ⟨w0.heap.size, 0, none⟩) 1 1) (hy : y.oneCell' = true) (hn : n + 1 ≤ c)
    (h : ∀ w', Row TE w' B (some ⟨g, 0, none⟩) (n + 1) c (vs ++ [y]) → w0.grownBy w' (some g) → wpList Tryd.prog ops Q rest (a.put o.dst (.slice (some ⟨g, 0, none⟩) (n + 1 : Nat) c)) w') :
    wpList Tryd.prog ops Q (o :: rest) a (w0.alloc (.cells #[y] TE)) := by
  obtain ⟨i0, hi, hz0, hz1, hz2⟩ := info_parts hinfo
  refine wpList_append_fits _ hgd s x TS ho B TE i0 1 hu hi hz1 g n c vs hs (hown.row.alloc _) ⟨w0.heap.size, 0, none⟩ 1 1 [y] hx rfl ?_ ?_ hn ?_
  · intro j u hj
    match j, hj with
    | 0, hj => simp at hj; subst hj; simp [Addr.add]
  · intro u hu; simp at hu; subst hu; exact hy
  · intro w' hown' hgrow
    exact h w' ⟨by rw [List.length_append, hown.len]; rfl, hown'⟩
      ⟨hgrow.os, hgrow.tape, hgrow.output, by have := hgrow.size; simp at this; omega, fun k hk hne => (hgrow.block k (by simp; omega) hne).trans (Below.heap_alloc _ _ _ hk)⟩

/-- append of one number to a row of the call's own -/
theorem ap_g {ops : Array Oper} {rest : List Oper} {o : Oper} {a : Act} {Q : Exit → Act → World → Prop} {w0 : World} (hgd : o.guard = none) (s x : Operand)
    (ho : o.op = .call { callee := .builtin .append, args := #[s, x], argTypes := #[22, 22] })
    (B : Nat) (ad : Option Addr) (n c : Nat) (xs : List Int) (y : Int) (hs : a.eval s = .slice ad n c) (hown : Own 3 w0 B ad n c xs)
    (hx : a.eval x = .slice (some ⟨w0.heap.size, 0, none⟩) 1 1) (hn : n < 1099511627776) (hB : B ≤ w0.heap.size)
    (h : ∀ ad' c' w', Own 3 w' B ad' (n + 1) c' (xs ++ [y]) → Below B w0 w' → w0.grownBy w' (Value.slice ad n c).ownBlock → wpList Tryd.prog ops Q rest (a.put o.dst (.slice ad' (n + 1 : Nat) c')) w') :
    wpList Tryd.prog ops Q (o :: rest) a (w0.alloc (.cells #[.int .i64 y] 3)) :=
  ap_row Tryd.underlying22 infoInt rfl hgd s x ho B ad n c _ _ hs hown hx rfl hn (by omega) hB fun ad' c' w' h1 h2 h3 => h ad' c' w' (by unfold Own; rw [List.map_append]; exact h1) h2 h3

theorem ap {ops : Array Oper} {rest : List Oper} {o : Oper} {a : Act} {Q : Exit → Act → World → Prop} {w0 : World} (hgd : o.guard = none) (s x : Operand)
    (ho : o.op = .call { callee := .builtin .append, args := #[s, x], argTypes := #[22, 22] })
    (B : Nat) (ad : Option Addr) (n c : Nat) (xs : List Int) (y : Int) (hs : a.eval s = .slice ad n c) (hown : Own 3 w0 B ad n c xs)
    (hx : a.eval x = .slice (some ⟨w0.heap.size, 0, none⟩) 1 1) (hn : n < 1099511627776) (hB : B ≤ w0.heap.size)
    (h : ∀ ad' c' w', Own 3 w' B ad' (n + 1) c' (xs ++ [y]) → Below B w0 w' → wpList Tryd.prog ops Q rest (a.put o.dst (.slice ad' (n + 1 : Nat) c')) w') :
    wpList Tryd.prog ops Q (o :: rest) a (w0.alloc (.cells #[.int .i64 y] 3)) :=
  ap_g hgd s x ho B ad n c xs y hs hown hx hn hB fun ad' c' w' h1 h2 _ => h ad' c' w' h1 h2

theorem infoBool : (Tryd.prog.info? 4).map (fun i => (i.zero, i.size, i.bytes)) = some (some (.bool false), 1, 1) := by kernel_rfl
theorem toList_made (z : Value) (hz : z.cells = #[z]) (n : Nat) : (madeCells z.cells (n * 1)).toList = List.replicate n z := by rw [hz, Nat.mul_one]; exact toList_madeCells_one z n

/-- make of a list of numbers, all 0 -/
theorem mk_ints {ops : Array Oper} {rest : List Oper} {o : Oper} {a : Act} {Q : Exit → Act → World → Prop} {w : World} (hgd : o.guard = none) (l c : Operand) (ho : o.op = Op.makeSlice 22 l c)
    (L : Int) (hl : a.eval l = .int .i64 L) (hc : a.eval c = .int .i64 L) (n : Nat) (hL : L = (n : Int)) (hn : n < 1099511627776)
    (h : ∀ g w', Own 3 w' w.heap.size (some ⟨g, 0, none⟩) n n (List.replicate n 0) → Below w.heap.size w w' → wpList Tryd.prog ops Q rest (a.put o.dst (.slice (some ⟨g, 0, none⟩) n n)) w') :
    wpList Tryd.prog ops Q (o :: rest) a w := by
  obtain ⟨i0, hi, hz0, hz1, hz2⟩ := info_parts infoInt
  refine wpList_make_full w hgd l c 22 ho w.heap.size 3 i0 (.int .i64 0) 1 Tryd.underlying22 hi hz0 hz1 .i64 .i64 L L n hl hc hL hL (by rw [hz2]; omega) (by unfold maxLen; omega) (Nat.le_refl _) ?_
  intro w' hrow hg
  rw [toList_made (.int .i64 0) rfl] at hrow
  exact h _ w' ⟨by simp, by simpa using hrow⟩ ((Below.refl _ _).grown hg (Nat.le_refl _) (fun k hk => by cases hk))

/-- n zeros, as cells -/
def zeroI (n : Nat) : Array Value := madeCells (Value.int .i64 0).cells (n * 1)
theorem run_mk_ints (n : Nat) (hn : n < 1099511627776) (W : World) : Sem.run Tryd.prog (Instr.makeSlice 22 (.int .i64 (n : Int)) (.int .i64 (n : Int))) W = .ok (.slice (some ⟨W.heap.size, 0, none⟩) n n) (W.alloc (.cells (zeroI n) 3)) := by
  obtain ⟨i0, hi, hz0, hz1, hz2⟩ := info_parts infoInt
  have hr := run_make (P := Tryd.prog) W 22 3 i0 (.int .i64 0) Tryd.underlying22 hi hz0 .i64 .i64 n n (by omega) (Int.le_refl _) (by rw [hz2]; omega) (by omega)
  simp only [Int.toNat_natCast, hz1] at hr
  exact hr
theorem own_mk (n : Nat) (hn : n < 1099511627776) (W : World) (B : Nat) (hB : B ≤ W.heap.size) : Own 3 (W.alloc (.cells (zeroI n) 3)) B (some ⟨W.heap.size, 0, none⟩) n n (List.replicate n 0) := by
  have h := World.ownsRow_lit (base := B) (e := 3) (size := 1) W (zeroI n) n hB (by unfold maxLen; omega) (by unfold zeroI; rw [size_madeCells])
  have e : (zeroI n).toList = List.replicate n (Value.int .i64 0) := toList_made (.int .i64 0) rfl n
  rw [e] at h
  exact ⟨by simp, by simpa using h⟩


theorem infoByte : (Tryd.prog.info? 5).map (fun i => (i.zero, i.size, i.bytes)) = some (some (.int .u8 0), 1, 1) := by kernel_rfl
/-- The bytes of a row, as a string's list. -/
def bval (l : List UInt8) : List Value := l.map fun b => .int .u8 (b.toNat : Int)
/-- make of a list of bytes, none yet, with room for n -/
theorem mk_bytes0 {ops : Array Oper} {rest : List Oper} {o : Oper} {a : Act} {Q : Exit → Act → World → Prop} {w : World} (hgd : o.guard = none) (l c : Operand) (ho : o.op = Op.makeSlice 46 l c)
    (C : Int) (hl : a.eval l = .int .i64 0) (hc : a.eval c = .int .i64 C) (n : Nat) (hC : C = (n : Int)) (hn : n < 1099511627776)
    (h : ∀ g w', Row 5 w' w.heap.size (some ⟨g, 0, none⟩) 0 n (bval []) → Below w.heap.size w w' → wpList Tryd.prog ops Q rest (a.put o.dst (.slice (some ⟨g, 0, none⟩) 0 n)) w') :
    wpList Tryd.prog ops Q (o :: rest) a w := by
  obtain ⟨i0, hi, hz0, hz1, hz2⟩ := info_parts infoByte
  refine wpList_make_own w hgd l c 46 ho w.heap.size 5 i0 (.int .u8 0) 1 Tryd.underlying46 hi hz0 hz1 .i64 .i64 C n hl hc hC (by rw [hz2]; omega) (by unfold maxLen; omega) (Nat.le_refl _) ?_
  intro w' hrow hg
  exact h _ w' ⟨rfl, hrow⟩ ((Below.refl _ _).grown hg (Nat.le_refl _) (fun k hk => by cases hk))
theorem ap_bytefit {ops : Array Oper} {rest : List Oper} {o : Oper} {a : Act} {Q : Exit → Act → World → Prop} {w0 : World} (hgd : o.guard = none) (s x : Operand)
    (ho : o.op = .call { callee := .builtin .append, args := #[s, x], argTypes := #[46, 46] })
    (B g n c : Nat) (l : List UInt8) (y : Int) (b : UInt8) (hyb : y = (b.toNat : Int)) (hs : a.eval s = .slice (some ⟨g, 0, none⟩) n c) (hown : Row 5 w0 B (some ⟨g, 0, none⟩) n c (bval l))
    (hx : a.eval x = .slice (some ⟨w0.heap.size, 0, none⟩) 1 1) (hn : n + 1 ≤ c)
    (h : ∀ w', Row 5 w' B (some ⟨g, 0, none⟩) (n + 1) c (bval (l ++ [b])) → w0.grownBy w' (some g) → wpList Tryd.prog ops Q rest (a.put o.dst (.slice (some ⟨g, 0, none⟩) (n + 1 : Nat) c)) w') :
    wpList Tryd.prog ops Q (o :: rest) a (w0.alloc (.cells #[.int .u8 y] 5)) := by
  subst hyb
  exact ap_fit Tryd.underlying46 infoByte hgd s x ho B g n c _ _ hs hown hx rfl hn fun w' h1 h2 => h w' (by unfold bval; rw [List.map_append]; exact h1) h2
theorem ap_byte {ops : Array Oper} {rest : List Oper} {o : Oper} {a : Act} {Q : Exit → Act → World → Prop} {w0 : World} (hgd : o.guard = none) (s x : Operand)
    (ho : o.op = .call { callee := .builtin .append, args := #[s, x], argTypes := #[46, 46] })
    (B : Nat) (ad : Option Addr) (n c : Nat) (l : List UInt8) (y : Int) (b : UInt8) (hyb : y = (b.toNat : Int)) (hs : a.eval s = .slice ad n c) (hown : Row 5 w0 B ad n c (bval l))
    (hx : a.eval x = .slice (some ⟨w0.heap.size, 0, none⟩) 1 1) (hn : n < 1099511627776) (hB : B ≤ w0.heap.size)
    (h : ∀ ad' c' w', Row 5 w' B ad' (n + 1) c' (bval (l ++ [b])) → Below B w0 w' → wpList Tryd.prog ops Q rest (a.put o.dst (.slice ad' (n + 1 : Nat) c')) w') :
    wpList Tryd.prog ops Q (o :: rest) a (w0.alloc (.cells #[.int .u8 y] 5)) := by
  subst hyb
  exact ap_row Tryd.underlying46 infoByte rfl hgd s x ho B ad n c _ _ hs hown hx rfl hn (by omega) hB fun ad' c' w' h1 h2 _ => h ad' c' w' (by unfold bval; rw [List.map_append]; exact h1) h2
/-- string(b), b a row of the call's own -/
theorem run_str {w : World} {B : Nat} {ad : Option Addr} {n c : Nat} {l : List UInt8} (h : Row 5 w B ad n c (bval l)) : (convert 46 9 (.slice ad n c)).run Tryd.prog w = .ok (.string ⟨l.toArray⟩) w := by
  have hl : l.length = n := by have := h.len; simpa [bval] using this
  rcases Nat.eq_zero_or_pos n with h0 | h0
  · have : l = [] := List.eq_nil_of_length_eq_zero (by omega)
    subst this
    rw [h0]
    cases ad with
    | none => exact run_convert_bytes_nil w 46 5 Tryd.underlying46 Tryd.underlying5 0 c 9 Tryd.underlying9
    | some a => exact run_convert_bytes_back w 46 9 5 a c [] Tryd.underlying46 Tryd.underlying5 Tryd.underlying9 (fun j hj => by cases hj)
  · obtain ⟨g, rfl, _, _, hc, _⟩ := h.cells h0
    rw [← hl]
    refine run_convert_bytes_back w 46 9 5 ⟨g, 0, none⟩ c l Tryd.underlying46 Tryd.underlying5 Tryd.underlying9 (fun j hj => ?_)
    have e : (⟨g, 0, none⟩ : Addr).add j = ⟨g, j, none⟩ := by rw [WideShapes.add_plain]; simp
    rw [e, hc j (by omega)]
    unfold bval
    rw [List.getElem?_map, List.getElem?_eq_getElem hj]; rfl

/-- What a call that makes a list of numbers hands back. -/
def RetInts (w : World) (xs : List Int) (e : Ending) (w' : World) : Prop :=
  ∃ ad n c, e = .returned (.slice ad n c) ∧ Own 3 w' w.heap.size ad n c xs ∧ Below w.heap.size w w'

end Go.Proofs.YtbdnlncpamandaaDoor

/- Texts of this claim, one behind the other: what each says stands at its head. -/
import Derived.Test.YtihfhfihladlcaaGreatDoorRows
import Derived.Maps.AppendAt
import Derived.Laws.OwnMore
import Derived.Deep.RegionHeld3
import Derived.OpenShut
import Derived.Lib.SmallJoins
import Derived.BigQuiet
import Derived.Deep.QuietTactic
import Derived.Deep.RegionWith
import Derived.Deep.DeepCutAuto
import Derived.Test.YtihfhfihladlcaaGreatDoorBase
/- The laws of append and of reading, at this program's own types of numbers. -/
namespace Go.Proofs.YtihfhfihladlcaaGreatDoor
set_option maxRecDepth 20000
open Go.RowKit

theorem infoInt : (Tryz.prog.info? 3).map (fun i => (i.zero, i.size, i.bytes)) = some (some (.int .i64 0), 1, 8) := by kernel_rfl

/-- append of one element to a row of the call's own, whatever the elements' type -/
theorem ap_row {ops : Array Oper} {rest : List Oper} {o : Oper} {a : Act} {Q : Exit → Act → World → Prop} {w0 : World} {TS TE bytes : Nat} {z : Value} (hu : Tryz.prog.underlying TS = some (.slice TE))
    (hinfo : (Tryz.prog.info? TE).map (fun i => (i.zero, i.size, i.bytes)) = some (some z, 1, bytes)) (hz : z.cells.size = 1) (hgd : o.guard = none) (s x : Operand)
    (ho : o.op = .call { callee := .builtin .append, args := #[s, x], argTypes := #[TS, TS] })
    (B : Nat) (ad : Option Addr) (n c : Nat) (vs : List Value) (y : Value) (hs : a.eval s = .slice ad n c) (hown : Row TE w0 B ad n c vs)
    (hx : a.eval x = .slice (some ⟨w0.heap.size, 0, none⟩) 1 1) (hy : y.oneCell' = true) (hn : n < 1099511627776) (hby : bytes ≤ 64) (hB : B ≤ w0.heap.size)
    (h : ∀ ad' c' w', Row TE w' B ad' (n + 1) c' (vs ++ [y]) → Below B w0 w' → w0.grownBy w' (Value.slice ad n c).ownBlock → wpList Tryz.prog ops Q rest (a.put o.dst (.slice ad' (n + 1 : Nat) c')) w') :
    wpList Tryz.prog ops Q (o :: rest) a (w0.alloc (.cells #[y] TE)) := by
  obtain ⟨i0, hi, hz0, hz1, hz2⟩ := info_parts hinfo
  refine wpList_append_own _ hgd s x TS ho B TE i0 z 1 bytes hu hi hz0 hz1 hz2 hz (by decide) _ n _ hs (hown.row.alloc _) ⟨w0.heap.size, 0, none⟩ 1 1 [y] hx rfl ?_ ?_ ?_ ?_ ?_ ?_
  · intro j u hj
    match j, hj with
    | 0, hj => simp at hj; subst hj; simp [Addr.add]
  · intro u hu; simp at hu; subst hu; exact hy
  · unfold maxLen; omega
  · have : (n + 1) * bytes ≤ 1099511627776 * 64 := Nat.mul_le_mul (by omega) hby
    omega
  · simp; omega
  · intro v' w' hown' hgrow _
    have hl := hown.lt
    have hg0 : w0.grownBy w' (Value.slice ad n c).ownBlock :=
      ⟨hgrow.os, hgrow.tape, hgrow.output, by have := hgrow.size; simp at this; omega, fun k hk hne => (hgrow.block k (by simp; omega) hne).trans (Below.heap_alloc _ _ _ hk)⟩
    have hb : Below B w0 w' := (Below.refl B w0).grown hg0 hB (fun k hk => (hl k hk).1)
    have hv : ∃ ad' c', v' = .slice ad' (n + 1) c' := by
      rcases hown'.2 with ⟨_, h0⟩ | ⟨g, cap, cur, hv, _⟩
      · omega
      · exact ⟨_, _, hv⟩
    obtain ⟨ad', c', rfl⟩ := hv
    exact h ad' c' w' ⟨by rw [List.length_append, hown.len]; rfl, hown'⟩ hb hg0

/-- append of one element within the capacity -/
theorem ap_fit {ops : Array Oper} {rest : List Oper} {o : Oper} {a : Act} {Q : Exit → Act → World → Prop} {w0 : World} {TS TE bytes : Nat} {z : Value} (hu : Tryz.prog.underlying TS = some (.slice TE))
    (hinfo : (Tryz.prog.info? TE).map (fun i => (i.zero, i.size, i.bytes)) = some (some z, 1, bytes)) (hgd : o.guard = none) (s x : Operand)
    (ho : o.op = .call { callee := .builtin .append, args := #[s, x], argTypes := #[TS, TS] })
    (B g n c : Nat) (vs : List Value) (y : Value) (hs : a.eval s = .slice (some ⟨g, 0, none⟩) n c) (hown : Row TE w0 B (some ⟨g, 0, none⟩) n c vs)
    (hx : a.eval x = .slice (some ⟨w0.heap.size, 0, none⟩) 1 1) (hy : y.oneCell' = true) (hn : n + 1 ≤ c)
    (h : ∀ w', Row TE w' B (some ⟨g, 0, none⟩) (n + 1) c (vs ++ [y]) → w0.grownBy w' (some g) → wpList Tryz.prog ops Q rest (a.put o.dst (.slice (some ⟨g, 0, none⟩) (n + 1 : Nat) c)) w') :
    wpList Tryz.prog ops Q (o :: rest) a (w0.alloc (.cells #[y] TE)) := by
  obtain ⟨i0, hi, hz0, hz1, hz2⟩ := info_parts hinfo
  refine wpList_append_fits _ hgd s x TS ho B TE i0 1 hu hi hz1 g n c vs hs (hown.row.alloc _) ⟨w0.heap.size, 0, none⟩ 1 1 [y] hx rfl ?_ ?_ hn ?_
  · intro j u hj
    match j, hj with
    | 0, hj => simp at hj; subst hj; simp [Addr.add]
  · intro u hu; simp at hu; subst hu; exact hy
  · intro w' hown' hgrow
    exact h w' ⟨by rw [List.length_append, hown.len]; rfl, hown'⟩
      ⟨hgrow.os, hgrow.tape, hgrow.output, by have := hgrow.size; simp at this; omega, fun k hk hne => (hgrow.block k (by simp; omega) hne).trans (Below.heap_alloc _ _ _ hk)⟩

/-- append of one number to a row of the call's own -/
theorem ap_g {ops : Array Oper} {rest : List Oper} {o : Oper} {a : Act} {Q : Exit → Act → World → Prop} {w0 : World} (hgd : o.guard = none) (s x : Operand)
    (ho : o.op = .call { callee := .builtin .append, args := #[s, x], argTypes := #[24, 24] })
    (B : Nat) (ad : Option Addr) (n c : Nat) (xs : List Int) (y : Int) (hs : a.eval s = .slice ad n c) (hown : Own 3 w0 B ad n c xs)
    (hx : a.eval x = .slice (some ⟨w0.heap.size, 0, none⟩) 1 1) (hn : n < 1099511627776) (hB : B ≤ w0.heap.size)
    (h : ∀ ad' c' w', Own 3 w' B ad' (n + 1) c' (xs ++ [y]) → Below B w0 w' → w0.grownBy w' (Value.slice ad n c).ownBlock → wpList Tryz.prog ops Q rest (a.put o.dst (.slice ad' (n + 1 : Nat) c')) w') :
    wpList Tryz.prog ops Q (o :: rest) a (w0.alloc (.cells #[.int .i64 y] 3)) :=
  ap_row Tryz.underlying24 infoInt rfl hgd s x ho B ad n c _ _ hs hown hx rfl hn (by omega) hB fun ad' c' w' h1 h2 h3 => h ad' c' w' (by unfold Own; rw [List.map_append]; exact h1) h2 h3

theorem ap {ops : Array Oper} {rest : List Oper} {o : Oper} {a : Act} {Q : Exit → Act → World → Prop} {w0 : World} (hgd : o.guard = none) (s x : Operand)
    (ho : o.op = .call { callee := .builtin .append, args := #[s, x], argTypes := #[24, 24] })
    (B : Nat) (ad : Option Addr) (n c : Nat) (xs : List Int) (y : Int) (hs : a.eval s = .slice ad n c) (hown : Own 3 w0 B ad n c xs)
    (hx : a.eval x = .slice (some ⟨w0.heap.size, 0, none⟩) 1 1) (hn : n < 1099511627776) (hB : B ≤ w0.heap.size)
    (h : ∀ ad' c' w', Own 3 w' B ad' (n + 1) c' (xs ++ [y]) → Below B w0 w' → wpList Tryz.prog ops Q rest (a.put o.dst (.slice ad' (n + 1 : Nat) c')) w') :
    wpList Tryz.prog ops Q (o :: rest) a (w0.alloc (.cells #[.int .i64 y] 3)) :=
  ap_g hgd s x ho B ad n c xs y hs hown hx hn hB fun ad' c' w' h1 h2 _ => h ad' c' w' h1 h2

theorem infoBool : (Tryz.prog.info? 4).map (fun i => (i.zero, i.size, i.bytes)) = some (some (.bool false), 1, 1) := by kernel_rfl
theorem toList_made (z : Value) (hz : z.cells = #[z]) (n : Nat) : (madeCells z.cells (n * 1)).toList = List.replicate n z := by rw [hz, Nat.mul_one]; exact toList_madeCells_one z n

/-- make of a list of numbers, all 0 -/
theorem mk_ints {ops : Array Oper} {rest : List Oper} {o : Oper} {a : Act} {Q : Exit → Act → World → Prop} {w : World} (hgd : o.guard = none) (l c : Operand) (ho : o.op = Op.makeSlice 24 l c)
    (L : Int) (hl : a.eval l = .int .i64 L) (hc : a.eval c = .int .i64 L) (n : Nat) (hL : L = (n : Int)) (hn : n < 1099511627776)
    (h : ∀ g w', Own 3 w' w.heap.size (some ⟨g, 0, none⟩) n n (List.replicate n 0) → Below w.heap.size w w' → wpList Tryz.prog ops Q rest (a.put o.dst (.slice (some ⟨g, 0, none⟩) n n)) w') :
    wpList Tryz.prog ops Q (o :: rest) a w := by
  obtain ⟨i0, hi, hz0, hz1, hz2⟩ := info_parts infoInt
  refine wpList_make_full w hgd l c 24 ho w.heap.size 3 i0 (.int .i64 0) 1 Tryz.underlying24 hi hz0 hz1 .i64 .i64 L L n hl hc hL hL (by rw [hz2]; omega) (by unfold maxLen; omega) (Nat.le_refl _) ?_
  intro w' hrow hg
  rw [toList_made (.int .i64 0) rfl] at hrow
  exact h _ w' ⟨by simp, by simpa using hrow⟩ ((Below.refl _ _).grown hg (Nat.le_refl _) (fun k hk => by cases hk))

/-- n zeros, as cells -/
def zeroI (n : Nat) : Array Value := madeCells (Value.int .i64 0).cells (n * 1)
theorem run_mk_ints (n : Nat) (hn : n < 1099511627776) (W : World) : Sem.run Tryz.prog (Instr.makeSlice 24 (.int .i64 (n : Int)) (.int .i64 (n : Int))) W = .ok (.slice (some ⟨W.heap.size, 0, none⟩) n n) (W.alloc (.cells (zeroI n) 3)) := by
  obtain ⟨i0, hi, hz0, hz1, hz2⟩ := info_parts infoInt
  have hr := run_make (P := Tryz.prog) W 24 3 i0 (.int .i64 0) Tryz.underlying24 hi hz0 .i64 .i64 n n (by omega) (Int.le_refl _) (by rw [hz2]; omega) (by omega)
  simp only [Int.toNat_natCast, hz1] at hr
  exact hr
theorem own_mk (n : Nat) (hn : n < 1099511627776) (W : World) (B : Nat) (hB : B ≤ W.heap.size) : Own 3 (W.alloc (.cells (zeroI n) 3)) B (some ⟨W.heap.size, 0, none⟩) n n (List.replicate n 0) := by
  have h := World.ownsRow_lit (base := B) (e := 3) (size := 1) W (zeroI n) n hB (by unfold maxLen; omega) (by unfold zeroI; rw [size_madeCells])
  have e : (zeroI n).toList = List.replicate n (Value.int .i64 0) := toList_made (.int .i64 0) rfl n
  rw [e] at h
  exact ⟨by simp, by simpa using h⟩

/-- make of a list of bools, all false -/
theorem mk_bools {ops : Array Oper} {rest : List Oper} {o : Oper} {a : Act} {Q : Exit → Act → World → Prop} {w : World} (hgd : o.guard = none) (l c : Operand) (ho : o.op = Op.makeSlice 111 l c)
    (L : Int) (hl : a.eval l = .int .i64 L) (hc : a.eval c = .int .i64 L) (n : Nat) (hL : L = (n : Int)) (hn : n < 1099511627776)
    (h : ∀ g w', Row 4 w' w.heap.size (some ⟨g, 0, none⟩) n n (List.replicate n (.bool false)) → Below w.heap.size w w' → wpList Tryz.prog ops Q rest (a.put o.dst (.slice (some ⟨g, 0, none⟩) n n)) w') :
    wpList Tryz.prog ops Q (o :: rest) a w := by
  obtain ⟨i0, hi, hz0, hz1, hz2⟩ := info_parts infoBool
  refine wpList_make_full w hgd l c 111 ho w.heap.size 4 i0 (.bool false) 1 Tryz.underlying111 hi hz0 hz1 .i64 .i64 L L n hl hc hL hL (by rw [hz2]; omega) (by unfold maxLen; omega) (Nat.le_refl _) ?_
  intro w' hrow hg
  rw [toList_made (.bool false) rfl] at hrow
  exact h _ w' ⟨by simp, hrow⟩ ((Below.refl _ _).grown hg (Nat.le_refl _) (fun k hk => by cases hk))

theorem infoByte : (Tryz.prog.info? 5).map (fun i => (i.zero, i.size, i.bytes)) = some (some (.int .u8 0), 1, 1) := by kernel_rfl
/-- The bytes of a row, as a string's list. -/
def bval (l : List UInt8) : List Value := l.map fun b => .int .u8 (b.toNat : Int)
/-- make of a list of bytes, none yet, with room for n -/
theorem mk_bytes0 {ops : Array Oper} {rest : List Oper} {o : Oper} {a : Act} {Q : Exit → Act → World → Prop} {w : World} (hgd : o.guard = none) (l c : Operand) (ho : o.op = Op.makeSlice 22 l c)
    (C : Int) (hl : a.eval l = .int .i64 0) (hc : a.eval c = .int .i64 C) (n : Nat) (hC : C = (n : Int)) (hn : n < 1099511627776)
    (h : ∀ g w', Row 5 w' w.heap.size (some ⟨g, 0, none⟩) 0 n (bval []) → Below w.heap.size w w' → wpList Tryz.prog ops Q rest (a.put o.dst (.slice (some ⟨g, 0, none⟩) 0 n)) w') :
    wpList Tryz.prog ops Q (o :: rest) a w := by
  obtain ⟨i0, hi, hz0, hz1, hz2⟩ := info_parts infoByte
  refine wpList_make_own w hgd l c 22 ho w.heap.size 5 i0 (.int .u8 0) 1 Tryz.underlying22 hi hz0 hz1 .i64 .i64 C n hl hc hC (by rw [hz2]; omega) (by unfold maxLen; omega) (Nat.le_refl _) ?_
  intro w' hrow hg
  exact h _ w' ⟨rfl, hrow⟩ ((Below.refl _ _).grown hg (Nat.le_refl _) (fun k hk => by cases hk))
theorem ap_bytefit {ops : Array Oper} {rest : List Oper} {o : Oper} {a : Act} {Q : Exit → Act → World → Prop} {w0 : World} (hgd : o.guard = none) (s x : Operand)
    (ho : o.op = .call { callee := .builtin .append, args := #[s, x], argTypes := #[22, 22] })
    (B g n c : Nat) (l : List UInt8) (y : Int) (b : UInt8) (hyb : y = (b.toNat : Int)) (hs : a.eval s = .slice (some ⟨g, 0, none⟩) n c) (hown : Row 5 w0 B (some ⟨g, 0, none⟩) n c (bval l))
    (hx : a.eval x = .slice (some ⟨w0.heap.size, 0, none⟩) 1 1) (hn : n + 1 ≤ c)
    (h : ∀ w', Row 5 w' B (some ⟨g, 0, none⟩) (n + 1) c (bval (l ++ [b])) → w0.grownBy w' (some g) → wpList Tryz.prog ops Q rest (a.put o.dst (.slice (some ⟨g, 0, none⟩) (n + 1 : Nat) c)) w') :
    wpList Tryz.prog ops Q (o :: rest) a (w0.alloc (.cells #[.int .u8 y] 5)) := by
  subst hyb
  exact ap_fit Tryz.underlying22 infoByte hgd s x ho B g n c _ _ hs hown hx rfl hn fun w' h1 h2 => h w' (by unfold bval; rw [List.map_append]; exact h1) h2
theorem ap_byte {ops : Array Oper} {rest : List Oper} {o : Oper} {a : Act} {Q : Exit → Act → World → Prop} {w0 : World} (hgd : o.guard = none) (s x : Operand)
    (ho : o.op = .call { callee := .builtin .append, args := #[s, x], argTypes := #[22, 22] })
    (B : Nat) (ad : Option Addr) (n c : Nat) (l : List UInt8) (y : Int) (b : UInt8) (hyb : y = (b.toNat : Int)) (hs : a.eval s = .slice ad n c) (hown : Row 5 w0 B ad n c (bval l))
    (hx : a.eval x = .slice (some ⟨w0.heap.size, 0, none⟩) 1 1) (hn : n < 1099511627776) (hB : B ≤ w0.heap.size)
    (h : ∀ ad' c' w', Row 5 w' B ad' (n + 1) c' (bval (l ++ [b])) → Below B w0 w' → wpList Tryz.prog ops Q rest (a.put o.dst (.slice ad' (n + 1 : Nat) c')) w') :
    wpList Tryz.prog ops Q (o :: rest) a (w0.alloc (.cells #[.int .u8 y] 5)) := by
  subst hyb
  exact ap_row Tryz.underlying22 infoByte rfl hgd s x ho B ad n c _ _ hs hown hx rfl hn (by omega) hB fun ad' c' w' h1 h2 _ => h ad' c' w' (by unfold bval; rw [List.map_append]; exact h1) h2
/-- string(b), b a row of the call's own -/
theorem run_str {w : World} {B : Nat} {ad : Option Addr} {n c : Nat} {l : List UInt8} (h : Row 5 w B ad n c (bval l)) : (convert 22 9 (.slice ad n c)).run Tryz.prog w = .ok (.string ⟨l.toArray⟩) w := by
  have hl : l.length = n := by have := h.len; simpa [bval] using this
  rcases Nat.eq_zero_or_pos n with h0 | h0
  · have : l = [] := List.eq_nil_of_length_eq_zero (by omega)
    subst this
    rw [h0]
    cases ad with
    | none => exact run_convert_bytes_nil w 22 5 Tryz.underlying22 Tryz.underlying5 0 c 9 Tryz.underlying9
    | some a => exact run_convert_bytes_back w 22 9 5 a c [] Tryz.underlying22 Tryz.underlying5 Tryz.underlying9 (fun j hj => by cases hj)
  · obtain ⟨g, rfl, _, _, hc, _⟩ := h.cells h0
    rw [← hl]
    refine run_convert_bytes_back w 22 9 5 ⟨g, 0, none⟩ c l Tryz.underlying22 Tryz.underlying5 Tryz.underlying9 (fun j hj => ?_)
    have e : (⟨g, 0, none⟩ : Addr).add j = ⟨g, j, none⟩ := by rw [WideShapes.add_plain]; simp
    rw [e, hc j (by omega)]
    unfold bval
    rw [List.getElem?_map, List.getElem?_eq_getElem hj]; rfl

/-- What a call that makes a list of numbers hands back. -/
def RetInts (w : World) (xs : List Int) (e : Ending) (w' : World) : Prop :=
  ∃ ad n c, e = .returned (.slice ad n c) ∧ Own 3 w' w.heap.size ad n c xs ∧ Below w.heap.size w w'

end Go.Proofs.YtihfhfihladlcaaGreatDoor

/- The append of a whole list, at the builtin itself, as one step inside a region that draws its order, and in a plain region. -/
namespace Go.Proofs.YtihfhfihladlcaaGreatDoor
set_option maxRecDepth 20000
open Go.RowKit
set_option linter.unusedSimpArgs false
set_option linter.unusedVariables false

theorem run_ap_all {W : World} (B ty : Nat) (ad : Option Addr) (n c : Nat) (xs : List Int) (hown : Own 3 W B ad n c xs) (ad2 : Option Addr) (m d : Nat) (ys : List Int) (hx : IntsAt W ad2 m ys) (hf : Fit ad2 m d)
    (hn : n + m < 1099511627776) (hB : B ≤ W.heap.size) :
    ∃ ad' c' w', (Builtin.append_ #[24, 24] ty #[.slice ad n c, .slice ad2 m d]).run Tryz.prog W = .ok (.slice ad' (n + m : Nat) c') w' ∧ Own 3 w' B ad' (n + m) c' (xs ++ ys) ∧ Below B W w' := by
  obtain ⟨i0, hi, hz0, hz1, hz2⟩ := info_parts infoInt
  cases ad2 with
  | none =>
    have hd := hf.nil rfl
    have hm : m = 0 := by have := hf.cap; omega
    subst hm; subst hd
    have hys : ys = [] := List.eq_nil_of_length_eq_zero hx.len
    subst hys
    exact ⟨ad, c, W, run_append_owned_none (P := Tryz.prog) (w := W) B 24 ty 3 i0 1 Tryz.underlying24 hi _ n _ hown.row, by simpa using hown, Below.refl _ _⟩
  | some g =>
    have hnews : ∀ j u, (ys.map (Value.int .i64))[j]? = some u → W.cell? (g.add j) = some u := by
      intro j u hj
      have hlt : j < m := by
        rw [← hx.len]
        have := List.getElem?_eq_some_iff.1 hj
        obtain ⟨h, _⟩ := this
        simpa using h
      obtain ⟨b, off, hg, hc⟩ := hx.cells (by omega)
      cases hg
      rw [WideShapes.add_plain]
      rw [hc j hlt]
      rw [List.getElem?_map, List.getElem?_eq_getElem (by rw [hx.len]; exact hlt)] at hj
      rw [nth_eq (by rw [hx.len]; exact hlt)]
      exact hj
    have h1 : ∀ u ∈ ys.map (Value.int .i64), u.oneCell' = true := by
      intro u hu
      obtain ⟨x, _, rfl⟩ := List.mem_map.1 hu
      rfl
    obtain ⟨v', w', hr, h2, h3, h4, h5⟩ := run_append_own_at (P := Tryz.prog) W B 24 ty 3 i0 (.int .i64 0) 1 8 Tryz.underlying24 hi hz0 hz1 hz2 rfl (by decide) (.slice ad n c) n _ hown.row g m d (ys.map (Value.int .i64)) (by simp [hx.len]) hnews h1 (by unfold maxLen; omega) (by omega) hB
    have hl := hown.lt
    have hb : Below B W w' := (Below.refl B W).grown h3 hB (fun k hk => (hl k hk).1)
    have hv : ∃ ad' c', v' = .slice ad' (n + m) c' := by
      rcases h2.2 with ⟨hv, h0⟩ | ⟨g, cap, cur, hv, _⟩
      · exact ⟨none, 0, by rw [hv, h0]⟩
      · exact ⟨_, _, hv⟩
    obtain ⟨ad', c', rfl⟩ := hv
    exact ⟨ad', c', w', hr, ⟨by simp [hown.len, hx.len], by rw [List.map_append]; exact h2⟩, hb⟩

theorem step_ap {ops : Array Oper} {o : Oper} {a : Act} {W : World} {K : Act → World → Prop} {Q : Exit → Act → World → Prop} {E : Prop} (hgd : o.guard = none) (s x : Operand)
    (ho : o.op = .call { callee := .builtin .append, args := #[s, x], argTypes := #[24, 24] })
    (B : Nat) (ad : Option Addr) (n c : Nat) (xs : List Int) (hs : a.eval s = .slice ad n c) (hown : Own 3 W B ad n c xs)
    (ad2 : Option Addr) (m d : Nat) (ys : List Int) (hx : a.eval x = .slice ad2 m d) (hy : IntsAt W ad2 m ys) (hf : Fit ad2 m d)
    (hn : n + m < 1099511627776) (hB : B ≤ W.heap.size)
    (hK : ∀ ad' c' w', Own 3 w' B ad' (n + m) c' (xs ++ ys) → Below B W w' → K (a.put o.dst (.slice ad' (n + m : Nat) c')) w') :
    if Region.wanted o (yielded ops a.tmps) = true then Oper.wp Tryz.prog o a W K Q else E := by
  have hw : Region.wanted o (yielded ops a.tmps) = true := by simp [Region.wanted, hgd]
  rw [if_pos hw]
  obtain ⟨ad', c', w', hrun, h1, h2⟩ := run_ap_all B o.type ad n c xs hown ad2 m d ys hy hf hn hB
  unfold Oper.wp
  simp only [execOp, ho, resolve, invoke, builtin, Sem.run_bind, Sem.run_pure, Result.andThen_ok, List.map_toArray, List.map_cons, List.map_nil, hs, hx, hrun]
  exact hK _ _ _ h1 h2

theorem list_ap {ops : Array Oper} {rest : List Oper} {o : Oper} {a : Act} {Q : Exit → Act → World → Prop} {W : World} (hgd : o.guard = none) (s x : Operand)
    (ho : o.op = .call { callee := .builtin .append, args := #[s, x], argTypes := #[24, 24] })
    (B : Nat) (ad : Option Addr) (n c : Nat) (xs : List Int) (hs : a.eval s = .slice ad n c) (hown : Own 3 W B ad n c xs)
    (ad2 : Option Addr) (m d : Nat) (ys : List Int) (hx : a.eval x = .slice ad2 m d) (hy : IntsAt W ad2 m ys) (hf : Fit ad2 m d)
    (hn : n + m < 1099511627776) (hB : B ≤ W.heap.size)
    (h : ∀ ad' c' w', Own 3 w' B ad' (n + m) c' (xs ++ ys) → Below B W w' → wpList Tryz.prog ops Q rest (a.put o.dst (.slice ad' (n + m : Nat) c')) w') :
    wpList Tryz.prog ops Q (o :: rest) a W := by
  refine wpList_plain hgd fun K hK => ?_
  obtain ⟨ad', c', w', hrun, h1, h2⟩ := run_ap_all B o.type ad n c xs hown ad2 m d ys hy hf hn hB
  unfold Oper.wp execOp
  simp only [ho, resolve, invoke, builtin, Sem.run_bind, Sem.run_pure, Result.andThen_ok, List.map_toArray, List.map_cons, List.map_nil, hs, hx, hrun]
  exact hK _ _ (h _ _ _ h1 h2)

/-- the element that an append lays in a block of its own -/
theorem IntsAt.one (w : World) (y : Int) (T : Nat) : IntsAt (w.alloc (.cells #[.int .i64 y] T)) (some ⟨w.heap.size, 0, none⟩) 1 [y] := by
  refine ⟨rfl, by omega, fun _ => ⟨w.heap.size, 0, rfl, fun i hi => ?_⟩⟩
  obtain rfl : i = 0 := by omega
  simp [nth]
theorem Fit.one (g : Addr) : Fit (some g) 1 1 := ⟨Nat.le_refl _, fun h => by cases h⟩

end Go.Proofs.YtihfhfihladlcaaGreatDoor

/- A list of lists of numbers, of the call's own: how it is made and how a number is appended to one of its lists. It holds for every program with these types. -/
namespace Go.Proofs.YtihfhfihladlcaaGreatDoor
set_option maxRecDepth 20000
open Go.RowKit
set_option linter.unusedSimpArgs false
set_option linter.unusedVariables false

abbrev Sl := Option Addr × Nat × Nat
def Sl.val (x : Sl) : Value := .slice x.1 x.2.1 x.2.2

/-- The block g holds n lists, the i-th lies at f i and is L i; all lie in blocks of their own. -/
structure Grid (w : World) (B g n : Nat) (f : Nat → Sl) (L : Nat → List Int) : Prop where
  row : Row 24 w B (some ⟨g, 0, none⟩) n n ((List.range n).map fun i => (f i).val)
  own : ∀ i, i < n → Own 3 w B (f i).1 (f i).2.1 (f i).2.2 (L i)
  far : ∀ i, i < n → ∀ b, (f i).1 = some b → b.block ≠ g
  apart : ∀ i j, i < n → j < n → i ≠ j → ∀ b c, (f i).1 = some b → (f j).1 = some c → b.block ≠ c.block

section
variable {w w' : World} {B g n : Nat} {f : Nat → Sl} {L : Nat → List Int}

theorem Grid.keep (h : Grid w B g n f L) (hb : Below w.heap.size w w') : Grid w' B g n f L :=
  ⟨h.row.keep hb, fun i hi => (h.own i hi).keep hb, h.far, h.apart⟩
theorem Grid.alloc (h : Grid w B g n f L) (o : Obj) : Grid (w.alloc o) B g n f L := ⟨h.row.alloc o, fun i hi => (h.own i hi).alloc o, h.far, h.apart⟩

theorem Grid.glt (h : Grid w B g n f L) : B ≤ g ∧ g < w.heap.size := h.row.lt g rfl
/-- what the outer block's cells hold -/
theorem Grid.cell (h : Grid w B g n f L) {i : Nat} (hi : i < n) : w.cell? ⟨g, i, none⟩ = some (f i).val := by
  obtain ⟨g', hg, _, _, hc, _⟩ := h.row.cells (by omega)
  cases hg
  rw [hc i hi, List.getElem?_map, List.getElem?_range hi]; rfl
theorem Grid.frozen (h : Grid w B g n f L) {i : Nat} (hi : i < n) : w.frozen? ⟨g, i, none⟩ = false := by
  obtain ⟨g', hg, _, _, _, hf⟩ := h.row.cells (by omega)
  cases hg
  exact hf i

theorem ownBlock_some {a : Option Addr} {m c k : Nat} (h : (Value.slice a m c).ownBlock = some k) : ∃ b, a = some b ∧ b.block = k := by
  cases a with
  | none => cases h
  | some b => exact ⟨b, rfl, by injection h⟩

/-- one list has grown; nothing else has changed, but for new blocks -/
theorem Grid.step (h : Grid w B g n f L) {k : Nat} (hk : k < n) {x : Sl} {xs : List Int} (hown : Own 3 w' B x.1 x.2.1 x.2.2 xs)
    (hg : w.grownBy w' (f k).val.ownBlock) (hnew : ∀ b, x.1 = some b → (∃ c, (f k).1 = some c ∧ b.block = c.block) ∨ w.heap.size ≤ b.block) :
    Grid (w'.setCell ⟨g, k, none⟩ x.val) B g n (fun i => if i = k then x else f i) (fun i => if i = k then xs else L i) := by
  have hgl := h.glt
  have hfar : ∀ b, x.1 = some b → b.block ≠ g := fun b hb e => by
    rcases hnew b hb with ⟨c, hc, hbc⟩ | hge
    · exact h.far k hk c hc (by rw [← hbc]; exact e)
    · omega
  refine ⟨?_, ?_, ?_, ?_⟩
  · have h1 : Row 24 w' B (some ⟨g, 0, none⟩) n n ((List.range n).map fun i => (f i).val) := h.row.other fun g' hg' _ => by
      cases hg'
      refine hg.block g hgl.2 fun e => ?_
      obtain ⟨b, hb, hbg⟩ := ownBlock_some e.symm
      exact h.far k hk b hb hbg
    have h2 := h1.set k x.val
    have e : ((List.range n).map fun i => (f i).val).set k x.val = (List.range n).map fun i => (if i = k then x else f i).val := by
      apply List.ext_getElem (by simp)
      intro i h1 h2
      rw [List.getElem_set]
      by_cases hik : k = i
      · subst hik; simp
      · have hki : ¬ i = k := fun e => hik e.symm
        simp [hik, hki]
    rw [e] at h2
    exact h2
  · intro i hi
    by_cases hik : i = k
    · subst hik
      simp only [if_true]
      refine hown.setOther _ fun e => hfar _ e rfl
    · simp only [if_neg hik]
      have h1 : Own 3 w' B (f i).1 (f i).2.1 (f i).2.2 (L i) := (h.own i hi).grownNe hg fun q hq q2 hq2 e => by
        obtain ⟨b, hb, hbq⟩ := ownBlock_some hq
        obtain ⟨c, hc, hcq⟩ := ownBlock_some hq2
        exact h.apart i k hi hk hik c b hc hb (by rw [hcq, hbq]; exact e)
      exact h1.setOther _ fun e => h.far i hi _ e rfl
  · intro i hi b hb
    by_cases hik : i = k
    · simp only [hik, if_true] at hb; exact hfar b hb
    · simp only [if_neg hik] at hb; exact h.far i hi b hb
  · intro i j hi hj hij b c hb hc
    by_cases hik : i = k
    · subst hik
      have hji : ¬ j = i := fun e => hij e.symm
      simp only [if_true] at hb
      simp only [if_neg hji] at hc
      rcases hnew b hb with ⟨d, hd, hbd⟩ | hge
      · rw [hbd]; exact h.apart i j hi hj hij d c hd hc
      · have := (h.own j hj).lt c.block (by rw [hc]; rfl)
        omega
    · simp only [if_neg hik] at hb
      by_cases hjk : j = k
      · subst hjk
        simp only [if_true] at hc
        rcases hnew c hc with ⟨d, hd, hbd⟩ | hge
        · rw [hbd]; exact h.apart i j hi hj hij b d hb hd
        · have := (h.own i hi).lt b.block (by rw [hb]; rfl)
          omega
      · simp only [if_neg hjk] at hc
        exact h.apart i j hi hj hij b c hb hc
end

theorem infoInts : (Tryz.prog.info? 24).map (fun i => (i.zero, i.size, i.bytes)) = some (some (.slice none 0 0), 1, 24) := by kernel_rfl
/-- make of a list of lists, all nil -/
theorem mk_grid {ops : Array Oper} {rest : List Oper} {o : Oper} {a : Act} {Q : Exit → Act → World → Prop} {w : World} (hgd : o.guard = none) (l c : Operand) (ho : o.op = Op.makeSlice 113 l c)
    (M : Int) (hl : a.eval l = .int .i64 M) (hc : a.eval c = .int .i64 M) (n : Nat) (hM : M = (n : Int)) (hn : n < 1099511627776)
    (h : ∀ g w', Grid w' w.heap.size g n (fun _ => (none, 0, 0)) (fun _ => []) → Below w.heap.size w w' → wpList Tryz.prog ops Q rest (a.put o.dst (.slice (some ⟨g, 0, none⟩) n n)) w') :
    wpList Tryz.prog ops Q (o :: rest) a w := by
  obtain ⟨i0, hi, hz0, hz1, hz2⟩ := info_parts infoInts
  refine wpList_make_full w hgd l c 113 ho w.heap.size 24 i0 (.slice none 0 0) 1 Tryz.underlying113 hi hz0 hz1 .i64 .i64 M M n hl hc hM hM (by rw [hz2]; omega) (by unfold maxLen; omega) (Nat.le_refl _) ?_
  intro w' hrow hg
  rw [toList_made (.slice none 0 0) rfl] at hrow
  refine h _ w' ⟨⟨by simp, ?_⟩, fun i _ => Own.nil _ _ _, fun i _ b hb => (by cases hb), fun i j _ _ _ b c hb => (by cases hb)⟩ ((Below.refl _ _).grown hg (Nat.le_refl _) (fun k hk => by cases hk))
  have e : (List.range n).map (fun i => Sl.val ((fun _ => ((none, 0, 0) : Sl)) i)) = List.replicate n (Value.slice none 0 0) := by
    apply List.ext_getElem (by simp)
    intro i h1 h2
    simp [Sl.val]
  rw [e]; exact hrow

/-- append of one number to a row of the call's own, telling where the new row lies -/
theorem ap_at {ops : Array Oper} {rest : List Oper} {o : Oper} {a : Act} {Q : Exit → Act → World → Prop} {w0 : World} (hgd : o.guard = none) (s x : Operand)
    (ho : o.op = .call { callee := .builtin .append, args := #[s, x], argTypes := #[24, 24] })
    (B : Nat) (ad : Option Addr) (n c : Nat) (xs : List Int) (y : Int) (hs : a.eval s = .slice ad n c) (hown : Own 3 w0 B ad n c xs)
    (hx : a.eval x = .slice (some ⟨w0.heap.size, 0, none⟩) 1 1) (hn : n < 1099511627776) (hB : B ≤ w0.heap.size)
    (h : ∀ ad' c' w', Own 3 w' B ad' (n + 1) c' (xs ++ [y]) → Below B w0 w' → w0.grownBy w' (Value.slice ad n c).ownBlock → (∀ b, ad' = some b → (∃ d, ad = some d ∧ b.block = d.block) ∨ w0.heap.size ≤ b.block) → wpList Tryz.prog ops Q rest (a.put o.dst (.slice ad' (n + 1 : Nat) c')) w') :
    wpList Tryz.prog ops Q (o :: rest) a (w0.alloc (.cells #[.int .i64 y] 3)) := by
  obtain ⟨i0, hi, hz0, hz1, hz2⟩ := info_parts infoInt
  refine wpList_append_own_at (P := Tryz.prog) (w0.alloc (.cells #[.int .i64 y] 3)) hgd s x 24 ho B 3 i0 (.int .i64 0) 1 8 Tryz.underlying24 hi hz0 hz1 hz2 rfl (by decide) _ n _ hs (hown.row.alloc _) ⟨w0.heap.size, 0, none⟩ 1 1 [.int .i64 y] hx rfl ?_ ?_ ?_ ?_ ?_ ?_
  · intro j u hj
    match j, hj with
    | 0, hj => simp at hj; subst hj; simp [Addr.add]
  · intro u hu; simp at hu; subst hu; rfl
  · unfold maxLen; omega
  · omega
  · simp; omega
  · intro v' w' hown' hgrow _ h5
    have hl := hown.lt
    have hg0 : w0.grownBy w' (Value.slice ad n c).ownBlock :=
      ⟨hgrow.os, hgrow.tape, hgrow.output, by have := hgrow.size; simp at this; omega, fun k hk hne => (hgrow.block k (by simp; omega) hne).trans (Below.heap_alloc _ _ _ hk)⟩
    have hb : Below B w0 w' := (Below.refl B w0).grown hg0 hB (fun k hk => (hl k hk).1)
    have hv : ∃ ad' c', v' = .slice ad' (n + 1) c' := by
      rcases hown'.2 with ⟨_, h0⟩ | ⟨g, cap, cur, hv, _⟩
      · omega
      · exact ⟨_, _, hv⟩
    obtain ⟨ad', c', rfl⟩ := hv
    refine h ad' c' w' ⟨by simp [hown.len], by rw [List.map_append]; exact hown'⟩ hb hg0 fun b hb => ?_
    subst hb
    rcases h5 with h5 | h5
    · obtain ⟨d, hd, hdb⟩ := ownBlock_some h5.symm
      exact .inl ⟨d, hd, hdb.symm⟩
    · right
      have : b.block = (w0.alloc (.cells #[.int .i64 y] 3)).heap.size := by simpa [Value.ownBlock] using h5
      simp at this; omega

end Go.Proofs.YtihfhfihladlcaaGreatDoor

/- The append of a whole list as a step, telling what else it leaves alone. -/
namespace Go.Proofs.YtihfhfihladlcaaGreatDoor
set_option maxRecDepth 20000
open Go.RowKit
set_option linter.unusedSimpArgs false
set_option linter.unusedVariables false

theorem run_ap_g {W : World} (B ty : Nat) (ad : Option Addr) (n c : Nat) (xs : List Int) (hown : Own 3 W B ad n c xs) (ad2 : Option Addr) (m d : Nat) (ys : List Int) (hx : IntsAt W ad2 m ys) (hf : Fit ad2 m d)
    (hn : n + m < 1099511627776) (hB : B ≤ W.heap.size) :
    ∃ ad' c' w', (Builtin.append_ #[24, 24] ty #[.slice ad n c, .slice ad2 m d]).run Tryz.prog W = .ok (.slice ad' (n + m : Nat) c') w' ∧ Own 3 w' B ad' (n + m) c' (xs ++ ys) ∧ Below B W w' ∧ W.grownBy w' (Value.slice ad n c).ownBlock ∧ ((Value.slice ad' (n + m) c').ownBlock = (Value.slice ad n c).ownBlock ∨ (Value.slice ad' (n + m) c').ownBlock = some W.heap.size) := by
  obtain ⟨i0, hi, hz0, hz1, hz2⟩ := info_parts infoInt
  cases ad2 with
  | none =>
    have hd := hf.nil rfl
    have hm : m = 0 := by have := hf.cap; omega
    subst hm; subst hd
    have hys : ys = [] := List.eq_nil_of_length_eq_zero hx.len
    subst hys
    exact ⟨ad, c, W, run_append_owned_none (P := Tryz.prog) (w := W) B 24 ty 3 i0 1 Tryz.underlying24 hi _ n _ hown.row, by simpa using hown, Below.refl _ _, ⟨rfl, rfl, rfl, Nat.le_refl _, fun _ _ _ => rfl⟩, .inl rfl⟩
  | some g =>
    have hnews : ∀ j u, (ys.map (Value.int .i64))[j]? = some u → W.cell? (g.add j) = some u := by
      intro j u hj
      have hlt : j < m := by
        rw [← hx.len]
        have := List.getElem?_eq_some_iff.1 hj
        obtain ⟨h, _⟩ := this
        simpa using h
      obtain ⟨b, off, hg, hc⟩ := hx.cells (by omega)
      cases hg
      rw [WideShapes.add_plain]
      rw [hc j hlt]
      rw [List.getElem?_map, List.getElem?_eq_getElem (by rw [hx.len]; exact hlt)] at hj
      rw [nth_eq (by rw [hx.len]; exact hlt)]
      exact hj
    have h1 : ∀ u ∈ ys.map (Value.int .i64), u.oneCell' = true := by
      intro u hu
      obtain ⟨x, _, rfl⟩ := List.mem_map.1 hu
      rfl
    obtain ⟨v', w', hr, h2, h3, h4, h5⟩ := run_append_own_at (P := Tryz.prog) W B 24 ty 3 i0 (.int .i64 0) 1 8 Tryz.underlying24 hi hz0 hz1 hz2 rfl (by decide) (.slice ad n c) n _ hown.row g m d (ys.map (Value.int .i64)) (by simp [hx.len]) hnews h1 (by unfold maxLen; omega) (by omega) hB
    have hl := hown.lt
    have hb : Below B W w' := (Below.refl B W).grown h3 hB (fun k hk => (hl k hk).1)
    have hv : ∃ ad' c', v' = .slice ad' (n + m) c' := by
      rcases h2.2 with ⟨hv, h0⟩ | ⟨g, cap, cur, hv, _⟩
      · exact ⟨none, 0, by rw [hv, h0]⟩
      · exact ⟨_, _, hv⟩
    obtain ⟨ad', c', rfl⟩ := hv
    exact ⟨ad', c', w', hr, ⟨by simp [hown.len, hx.len], by rw [List.map_append]; exact h2⟩, hb, h3, h5⟩

theorem step_ap_g {ops : Array Oper} {o : Oper} {a : Act} {W : World} {K : Act → World → Prop} {Q : Exit → Act → World → Prop} {E : Prop} (hgd : o.guard = none) (s x : Operand)
    (ho : o.op = .call { callee := .builtin .append, args := #[s, x], argTypes := #[24, 24] })
    (B : Nat) (ad : Option Addr) (n c : Nat) (xs : List Int) (hs : a.eval s = .slice ad n c) (hown : Own 3 W B ad n c xs)
    (ad2 : Option Addr) (m d : Nat) (ys : List Int) (hx : a.eval x = .slice ad2 m d) (hy : IntsAt W ad2 m ys) (hf : Fit ad2 m d)
    (hn : n + m < 1099511627776) (hB : B ≤ W.heap.size)
    (hK : ∀ ad' c' w', Own 3 w' B ad' (n + m) c' (xs ++ ys) → Below B W w' → W.grownBy w' (Value.slice ad n c).ownBlock → K (a.put o.dst (.slice ad' (n + m : Nat) c')) w') :
    if Region.wanted o (yielded ops a.tmps) = true then Oper.wp Tryz.prog o a W K Q else E := by
  have hw : Region.wanted o (yielded ops a.tmps) = true := by simp [Region.wanted, hgd]
  rw [if_pos hw]
  obtain ⟨ad', c', w', hrun, h1, h2, h3, _⟩ := run_ap_g B o.type ad n c xs hown ad2 m d ys hy hf hn hB
  unfold Oper.wp
  simp only [execOp, ho, resolve, invoke, builtin, Sem.run_bind, Sem.run_pure, Result.andThen_ok, List.map_toArray, List.map_cons, List.map_nil, hs, hx, hrun]
  exact hK _ _ _ h1 h2 h3

theorem step_ap_at {ops : Array Oper} {o : Oper} {a : Act} {W : World} {K : Act → World → Prop} {Q : Exit → Act → World → Prop} {E : Prop} (hgd : o.guard = none) (s x : Operand)
    (ho : o.op = .call { callee := .builtin .append, args := #[s, x], argTypes := #[24, 24] })
    (B : Nat) (ad : Option Addr) (n c : Nat) (xs : List Int) (hs : a.eval s = .slice ad n c) (hown : Own 3 W B ad n c xs)
    (ad2 : Option Addr) (m d : Nat) (ys : List Int) (hx : a.eval x = .slice ad2 m d) (hy : IntsAt W ad2 m ys) (hf : Fit ad2 m d)
    (hn : n + m < 1099511627776) (hB : B ≤ W.heap.size)
    (hK : ∀ ad' c' w', Own 3 w' B ad' (n + m) c' (xs ++ ys) → Below B W w' → W.grownBy w' (Value.slice ad n c).ownBlock → ((Value.slice ad' (n + m) c').ownBlock = (Value.slice ad n c).ownBlock ∨ (Value.slice ad' (n + m) c').ownBlock = some W.heap.size) → K (a.put o.dst (.slice ad' (n + m : Nat) c')) w') :
    if Region.wanted o (yielded ops a.tmps) = true then Oper.wp Tryz.prog o a W K Q else E := by
  have hw : Region.wanted o (yielded ops a.tmps) = true := by simp [Region.wanted, hgd]
  rw [if_pos hw]
  obtain ⟨ad', c', w', hrun, h1, h2, h3, h9⟩ := run_ap_g B o.type ad n c xs hown ad2 m d ys hy hf hn hB
  unfold Oper.wp
  simp only [execOp, ho, resolve, invoke, builtin, Sem.run_bind, Sem.run_pure, Result.andThen_ok, List.map_toArray, List.map_cons, List.map_nil, hs, hx, hrun]
  exact hK _ _ _ h1 h2 h3 h9

theorem IntsAt.grown {w w' : World} {row : Option Nat} {a : Option Addr} {n : Nat} {xs : List Int} (h : IntsAt w a n xs) (hg : w.grownBy w' row) (hne : ∀ b, a = some b → row ≠ some b.block) : IntsAt w' a n xs := by
  refine ⟨h.len, h.small, fun hn => ?_⟩
  obtain ⟨b, off, ha, hc⟩ := h.cells hn
  refine ⟨b, off, ha, fun i hi => ?_⟩
  have hlt : b < w.heap.size := World.block_lt_of_cell? w _ (hc i hi)
  exact (World.cell?_of_block (a := ⟨b, off + i, none⟩) (hg.block b hlt fun e => hne _ ha e.symm)).trans (hc i hi)
end Go.Proofs.YtihfhfihladlcaaGreatDoor

/- The step from a law's walk to its row: how the arguments are opened, and that a call that returns true and changes nothing that was there meets the row's specification. -/
namespace Go.Proofs.YtihfhfihladlcaaGreatDoor
set_option maxRecDepth 20000
open Go.ChangeShapes Go.WideShapes Go.ChangeAt Go.RowKit

theorem own : ownKnob Tryz.prog.godebug = none := by kernel_rfl
theorem laidOut : laidOutB Tryz.prog = true := by kernel_rfl
theorem cellsInt : Tryz.prog.cellsOf 3 = 1 := by kernel_rfl

section
variable {H : Type} {enc : TypeId × Value → H}

theorem trodAll_below {W W' : World} (hb : Below W.heap.size W W') : ∀ (ts : List TypeId) (vs : List Value) (ds : List (DataW H)) (ps : List MemPlace), (∀ t ∈ ts, Tryz.prog.readableRec t = true ∧ t < Tryz.prog.types.size) →
    DataW.TrodAll enc Tryz.prog W 0 (fun _ => true) true ts vs ds ps → (∀ x ∈ ps, x.block < W.heap.size) → DataW.TrodAll enc Tryz.prog W' 0 (fun b => decide (b < W.heap.size)) true ts vs ds ps := by
  intro ts
  induction ts with
  | nil =>
    intro vs ds ps _ h _
    obtain ⟨rfl, rfl, rfl⟩ := trodAll_nil h
    exact trodAll_mk0
  | cons t ts ih =>
    intro vs ds ps ht h hlt
    obtain ⟨v, vs', d, ds', p, q, rfl, rfl, rfl, h0, h1⟩ := trodAll_cons h
    have ht0 := ht t (by simp)
    exact trodAll_cons_mk (Below.trod laidOut ht0.1 ht0.2 h0 hb (fun x hx => hlt x (List.mem_append_left _ hx))) (ih _ _ _ (fun u hu => ht u (by simp [hu])) h1 (fun x hx => hlt x (List.mem_append_right _ hx)))

/-- A call that returns true and leaves all that was there meets a law's specification. -/
theorem law_post {f : Func} {s : ChangeSpec} {W W' : World} {args : Array Value} {ds : List (DataW H)} {before : List MemPlace} (hv0 : s.vars = []) (hW : DataW.Whole enc Tryz.prog f.params.toList s.vars false W args.toList ds [] before)
    (hts0 : (f.params.toList.all fun t => Tryz.prog.readableRec t && decide (t < Tryz.prog.types.size)) = true) (hrt : f.resultTypes = #[4]) (hres : (s.fn H (ds ++ [])).results = [.lit (.bool true)]) (hargs : (s.fn H (ds ++ [])).args = ds) (hvars : (s.fn H (ds ++ [])).vars = [])
    (hb : Below W.heap.size W W') : s.post enc Tryz.prog f false true false false W args (.bool true) W' := by
  have hts : ∀ t ∈ f.params.toList, Tryz.prog.readableRec t = true ∧ t < Tryz.prog.types.size := fun t ht => by
    have := List.all_eq_true.1 hts0 t ht
    simpa using this
  have hlt : ∀ x ∈ before, x.block < W.heap.size := fun x hx => hW.lt x hx
  have hW2 := hW
  obtain ⟨p, q, hA, hV, rfl, _, _⟩ := hW2
  rw [hv0] at hV
  have hq : q = [] := by simpa [DataW.TrodVars] using hV
  subst hq
  refine ⟨ds, [], _, [], p, [], hW, ?_, ?_, ?_, hb.frame _, fun h => by cases h⟩
  · rw [hres, hrt]
    exact trodAll_mk1 (shut_bool Tryz.underlying4 true)
  · rw [hargs]
    exact trodAll_below hb _ _ _ _ hts hA (fun x hx => hlt x (by simp [hx]))
  · rw [hvars, hv0]; rfl

/-- A slice of numbers that came in. -/
theorem open_row {W : World} {fuel : Nat} {v : Value} {x : DataW H × List MemPlace} (h : DataW.trod enc Tryz.prog W 0 (fun _ => true) true fuel 24 [v] = some x) :
    ∃ a n c xs, v = .slice a n c ∧ IntsAt W a n xs ∧ ∀ y ∈ xs, (Lit.int .i64 y).wf = true := by
  rcases open_ints Tryz.underlying24 Tryz.underlying3 cellsInt h with ⟨hcs, _⟩ | ⟨a, len, cap, zs, hcs, _, hl, hm, hz, _, hcell, hwf⟩
  · simp only [List.cons.injEq, and_true] at hcs
    exact ⟨none, 0, 0, [], hcs, IntsAt.nil _, by simp⟩
  · simp only [List.cons.injEq, and_true] at hcs
    simp only [if_true] at hz
    have hlen : (zs.take len).length = len := by rw [List.length_take]; omega
    refine ⟨some a, len, cap, zs.take len, hcs, ⟨hlen, by unfold maxLen at hm; omega, fun hn => ?_⟩, fun y hy => hwf y (List.mem_of_mem_take hy)⟩
    obtain ⟨b, off, rfl, hc⟩ := ints_at hcell (by omega)
    refine ⟨b, off, rfl, fun i hi => ?_⟩
    rw [hc i (by omega)]
    unfold nth
    rw [List.getD_eq_getElem?_getD, List.getD_eq_getElem?_getD, List.getElem?_take_of_lt hi]
end
end Go.Proofs.YtihfhfihladlcaaGreatDoor

/- Contracts of the laws' own helpers for lists of numbers: a copy, a comparison, marks and their check; and how facts on memory are carried from world to world. -/
namespace Go.Proofs.YtihfhfihladlcaaGreatDoor
set_option maxRecDepth 20000
open Go.RowKit
set_option linter.unusedSimpArgs false

theorem bcell {B : Nat} {W w1 : World} (hb : Below B W w1) : (∀ b o, b < B → w1.cell? ⟨b, o, none⟩ = W.cell? ⟨b, o, none⟩) ∧ (∀ b o, b < B → w1.frozen? ⟨b, o, none⟩ = W.frozen? ⟨b, o, none⟩) :=
  ⟨fun b o h => hb.cell (p := ⟨b, o, none⟩) h, fun b o h => hb.frozen (p := ⟨b, o, none⟩) h⟩

/-- Boxes of two cells: the block's number and what the cells hold. -/
def Boxes (W : World) : List (Nat × Value × Value) → Prop
  | [] => True
  | (g, x, y) :: r => (W.cell? ⟨g, 0, none⟩ = some x ∧ W.cell? ⟨g, 1, none⟩ = some y ∧ g < W.heap.size) ∧ Boxes W r
theorem Boxes.other {W W' : World} : ∀ {bs : List (Nat × Value × Value)}, Boxes W bs → W.heap.size ≤ W'.heap.size → (∀ b ∈ bs, b.1 < W.heap.size → W'.heap[b.1]? = W.heap[b.1]?) → Boxes W' bs
  | [], _, _, _ => trivial
  | (g, x, y) :: r, h, hs, hk => by
    obtain ⟨⟨h1, h2, h3⟩, h4⟩ := h
    have e := hk (g, x, y) (by simp) h3
    exact ⟨⟨(World.cell?_of_block (a := ⟨g, 0, none⟩) e).trans h1, (World.cell?_of_block (a := ⟨g, 1, none⟩) e).trans h2, Nat.lt_of_lt_of_le h3 hs⟩, Boxes.other h4 hs fun b hb => hk b (by simp [hb])⟩
theorem Boxes.keep {W W' : World} {bs : List (Nat × Value × Value)} (h : Boxes W bs) (hb : Below W.heap.size W W') : Boxes W' bs := h.other hb.size fun b _ hlt => hb.block b.1 hlt
theorem Boxes.grown {W W' : World} {bs : List (Nat × Value × Value)} {row : Option Nat} (h : Boxes W bs) (hg : W.grownBy W' row) (hne : ∀ k, row = some k → ∀ b ∈ bs, b.1 ≠ k) : Boxes W' bs :=
  h.other hg.size fun b hb hlt => hg.block b.1 hlt fun e => hne b.1 e.symm b hb rfl
theorem Boxes.alloc {W : World} {bs : List (Nat × Value × Value)} (h : Boxes W bs) (x y : Value) (T : Nat) : Boxes (W.alloc (.cells #[x, y] T)) ((W.heap.size, x, y) :: bs) := by
  refine ⟨⟨by simp, by simp, by simp⟩, h.other (by simp) fun b _ hlt => Below.heap_alloc _ _ _ hlt⟩
theorem Boxes.nil (W : World) : Boxes W [] := trivial
theorem IntsAt.other {w w' : World} {a : Option Addr} {n : Nat} {xs : List Int} (h : IntsAt w a n xs) (hb : ∀ g off, a = some ⟨g, off, none⟩ → g < w.heap.size → w'.heap[g]? = w.heap[g]?) : IntsAt w' a n xs := by
  refine ⟨h.len, h.small, fun hn => ?_⟩
  obtain ⟨b, off, ha, hc⟩ := h.cells hn
  exact ⟨b, off, ha, fun i hi => (World.cell?_of_block (hb b off ha (World.block_lt_of_cell? w _ (hc i hi)))).trans (hc i hi)⟩

/-- the marks k, k + 1, .. -/
def marks (k n : Nat) : List Int := (List.range n).map fun i => ((k + i : Nat) : Int)
theorem marks_at {k n i : Nat} (h : i < n) : nth (marks k n) i = ((k + i : Nat) : Int) := by
  unfold nth marks
  rw [List.getD_eq_getElem?_getD, List.getElem?_map, List.getElem?_range h]; rfl
theorem marks_len (k n : Nat) : (marks k n).length = n := by simp [marks]

theorem szIntS_yes (a : Option Addr) (n c : Nat) (L : Nat) (w : World) (hn : n ≤ L) (hL : L ≤ 1048576) :
    Calls Tryz.prog 111 #[.slice a n c, .int .i64 L] w fun e w' => e = .returned (.int .i64 ((L - n : Nat) : Int)) ∧ w = w' := by
  have h : ((L - n : Nat) : Int) = (L : Int) - n := by omega
  have H := Lib.hid h; clear h
  go_enter Tryz.func111, Tryz.ntmps111
  go_wp2
  go_ret
  exact ⟨ret_int H.out.symm, rfl⟩
theorem szIntS_no (a : Option Addr) (n c : Nat) (L : Nat) (w : World) (hn : L < n) (hL : L ≤ 1048576) (hm : n ≤ 9223372036854775807) :
    Calls Tryz.prog 111 #[.slice a n c, .int .i64 L] w fun e w' => e = .returned (.int .i64 (-1)) ∧ w = w' := by
  go_enter Tryz.func111, Tryz.ntmps111
  go_wp2
  go_ret
  exact ⟨rfl, rfl⟩

/-- the first k numbers, 0 behind them -/
def fillTo (xs : List Int) (k : Nat) : List Int := (List.range xs.length).map fun i => if i < k then nth xs i else 0
theorem fillTo_zero (xs : List Int) : fillTo xs 0 = List.replicate xs.length 0 := by
  unfold fillTo
  apply List.ext_getElem?
  intro i
  rw [List.getElem?_map, List.getElem?_replicate]
  by_cases h : i < xs.length
  · rw [List.getElem?_range h]; simp [h]
  · rw [List.getElem?_eq_none (by simp; omega)]; simp [h]
theorem fillTo_all (xs : List Int) : fillTo xs xs.length = xs := by
  unfold fillTo
  apply List.ext_getElem?
  intro i
  rw [List.getElem?_map]
  by_cases h : i < xs.length
  · rw [List.getElem?_range h, List.getElem?_eq_getElem h]; simp [h, nth_eq]
  · rw [List.getElem?_eq_none (by simp; omega), List.getElem?_eq_none (by omega)]; rfl
theorem fillTo_succ (xs : List Int) (k : Nat) : (fillTo xs k).set k (nth xs k) = fillTo xs (k + 1) := by
  unfold fillTo
  apply List.ext_getElem?
  intro i
  rw [List.getElem?_set]
  by_cases hi : i < xs.length
  · by_cases h : k = i
    · subst h
      simp [hi]
    · rw [if_neg h, List.getElem?_map, List.getElem?_map, List.getElem?_range hi]
      simp only [Option.map_some]
      by_cases h1 : i < k
      · rw [if_pos h1, if_pos (by omega)]
      · rw [if_neg h1, if_neg (by omega)]
  · rw [List.getElem?_eq_none (l := (List.range xs.length).map fun i => if i < k then nth xs i else 0) (by simp; omega), List.getElem?_eq_none (l := (List.range xs.length).map fun i => if i < k + 1 then nth xs i else 0) (by simp; omega)]
    simp; omega
set_option maxHeartbeats 400000 in
theorem toIntS_any (a : Option Addr) (n c : Nat) (xs : List Int) (w : World) (h : IntsAt w a n xs) (hm : n ≤ 1048576) :
    Calls Tryz.prog 113 #[.slice a n c] w (RetInts w xs) := by
  have hlen := Lib.hid h.len
  have Hh := Lib.hid h; clear h
  go_enter Tryz.func113, Tryz.ntmps113
  go_wp2_with (at_make; refine mk_ints rfl _ _ rfl _ rfl rfl n rfl (by omega) ?_; intro g w1 hown hb1)
  have Hb1 := Lib.hid hb1; clear hb1
  go_loopw [4] (fun i wr => ∃ k : Nat, k ≤ n ∧ i = .int .i64 k ∧ Below w.heap.size w wr ∧ Own 3 wr w.heap.size (some ⟨g, 0, none⟩) n n (fillTo xs k)) (fun i _ => n - (intOf i).toNat)
  case atStart => exact ⟨0, Nat.zero_le _, rfl, Hb1.out, by rw [fillTo_zero, hlen.out]; exact hown⟩
  case round =>
    clear hown
    obtain ⟨k, hk, rfl, hb, hr⟩ := hrel
    by_cases hlt : k < n
    · obtain ⟨b, off, rfl, hc⟩ := (Hh.out.keep hb).cells (by omega)
      have hck := hc k hlt
      obtain ⟨g', hg', hB, hgl, hcell, hfr⟩ := Row.cells hr (by omega)
      simp only [Option.some.injEq, Addr.mk.injEq, and_true] at hg'
      subst hg'
      have hc1 := hcell k hlt
      have hf1 := hfr k
      obtain ⟨old, hold⟩ : ∃ old, wr.cell? ⟨g, k, none⟩ = some old := by
        rw [hc1, List.getElem?_eq_getElem (by rw [Row.len hr]; exact hlt)]; exact ⟨_, rfl⟩
      clear hc hcell hfr hc1
      go_wp2
      go_roundw
      case rel =>
        refine ⟨k + 1, by omega, by go_num, hb.setCell hB _, ?_⟩
        rw [← fillTo_succ]
        exact hr.set k _
      case measure => simp [intOf]; omega
    · obtain rfl : k = n := by omega
      go_wp2
      go_ret
      refine ⟨_, _, _, rfl, ?_, hb⟩
      rw [← hlen.out, fillTo_all] at hr
      rw [hlen.out] at hr
      exact hr

set_option maxHeartbeats 400000 in
theorem eqIntS_yes (a b : Option Addr) (n m c d : Nat) (xs ys : List Int) (w : World) (h : IntsAt w a n xs) (h' : IntsAt w b m ys) (he : xs = ys) :
    Calls Tryz.prog 115 #[.slice a n c, .slice b m d] w fun e w' => e = .returned (.bool true) ∧ Below w.heap.size w w' := by
  subst he
  obtain rfl : n = m := by rw [← h.len, ← h'.len]
  have hn := h.small
  have Hh := Lib.hid h; clear h
  have Hh' := Lib.hid h'; clear h'
  go_enter Tryz.func115, Tryz.ntmps115
  go_wp2
  go_loopw [5] (fun i wr => ∃ k : Nat, k ≤ n ∧ i = .int .i64 k ∧ Below w.heap.size w wr) (fun i _ => n - (intOf i).toNat)
  case atStart => exact ⟨0, Nat.zero_le _, rfl, Below.refl _ _⟩
  case round =>
    obtain ⟨k, hk, rfl, hb⟩ := hrel
    by_cases hlt : k < n
    · obtain ⟨b1, o1, rfl, hc1⟩ := (Hh.out.keep hb).cells (by omega)
      obtain ⟨b2, o2, rfl, hc2⟩ := (Hh'.out.keep hb).cells (by omega)
      have h1 := hc1 k hlt
      have h2 := hc2 k hlt
      have hk0 : (0 : Int) ≤ k := by omega
      have hkn : (k : Int) < n := by omega
      clear hc1 hc2
      go_wp2_with fail
      go_quiet (fail)
      go_wp2
      go_roundw
      case rel => exact ⟨k + 1, by omega, by go_num, below_drewN hb _⟩
      case measure => simp [intOf]; omega
    · obtain rfl : k = n := by omega
      go_wp2
      go_ret
      exact ⟨rfl, hb⟩



end Go.Proofs.YtihfhfihladlcaaGreatDoor

/- Lists of lists of numbers that a call hands out: where they lie, how one is appended, and the laws' functions that compare, mark and read them. -/
namespace Go.Proofs.YtihfhfihladlcaaGreatDoor
set_option maxRecDepth 20000
open Go.RowKit
set_option linter.unusedSimpArgs false
set_option linter.unusedVariables false

def nthL (L : List (List Int)) (i : Nat) : List Int := L.getD i []
theorem nthL_at {L : List (List Int)} {i : Nat} (h : i < L.length) : nthL L i = L[i] := by
  unfold nthL; rw [List.getD_eq_getElem?_getD, List.getElem?_eq_getElem h]; rfl
theorem nthL_left {L M : List (List Int)} {i : Nat} (h : i < L.length) : nthL (L ++ M) i = nthL L i := by
  rw [nthL_at h, nthL_at (by rw [List.length_append]; omega), List.getElem_append_left h]
theorem nthL_last (L : List (List Int)) (x : List Int) : nthL (L ++ [x]) L.length = x := by
  rw [nthL_at (by simp)]; simp

/-- n lists, the i-th at f i; all in blocks of their own from B on and below U -/
structure O2 (w : World) (B U : Nat) (a : Option Addr) (n c : Nat) (f : Nat → Sl) (L : List (List Int)) : Prop where
  len : L.length = n
  row : Row 24 w B a n c ((List.range n).map fun i => (f i).val)
  own : ∀ i, i < n → Own 3 w B (f i).1 (f i).2.1 (f i).2.2 (nthL L i)
  far : ∀ i, i < n → ∀ b d, (f i).1 = some b → a = some d → b.block ≠ d.block
  apart : ∀ i j, i < n → j < n → i ≠ j → ∀ b d, (f i).1 = some b → (f j).1 = some d → b.block ≠ d.block
  hi : ∀ d, a = some d → d.block < U
  his : ∀ i, i < n → ∀ b, (f i).1 = some b → b.block < U
/-- .. wherever the lists lie -/
def Own2 (w : World) (B U : Nat) (a : Option Addr) (n c : Nat) (L : List (List Int)) : Prop := ∃ f, O2 w B U a n c f L

section
variable {w w' : World} {B U : Nat} {a : Option Addr} {n c : Nat} {f : Nat → Sl} {L : List (List Int)}
theorem O2.pres (h : O2 w B U a n c f L) (hp : ∀ k, B ≤ k → k < U → k < w.heap.size → w'.heap[k]? = w.heap[k]?) : O2 w' B U a n c f L :=
  ⟨h.len, h.row.other fun g hg hl => hp g (h.row.lt g (by rw [hg]; rfl)).1 (h.hi _ hg) hl,
    fun i hi => Row.other (h.own i hi) fun g hg hl => hp g ((h.own i hi).lt g (by rw [hg]; rfl)).1 (h.his i hi _ hg) hl, h.far, h.apart, h.hi, h.his⟩
theorem O2.up {U' : Nat} (h : O2 w B U a n c f L) (hU : U ≤ U') : O2 w B U' a n c f L :=
  ⟨h.len, h.row, h.own, h.far, h.apart, fun d hd => Nat.lt_of_lt_of_le (h.hi d hd) hU, fun i hi b hb => Nat.lt_of_lt_of_le (h.his i hi b hb) hU⟩
theorem O2.mono {B' : Nat} (h : O2 w B U a n c f L) (hB : B' ≤ B) : O2 w B' U a n c f L :=
  ⟨h.len, h.row.mono hB, fun i hi => (h.own i hi).mono hB, h.far, h.apart, h.hi, h.his⟩
theorem O2.nil (w : World) (B U : Nat) : O2 w B U none 0 0 (fun _ => (none, 0, 0)) [] :=
  ⟨rfl, Row.nil _ _ _, fun i hi => absurd hi (Nat.not_lt_zero _), fun i hi => absurd hi (Nat.not_lt_zero _), fun i j hi => absurd hi (Nat.not_lt_zero _), (fun d hd => by cases hd), fun i hi => absurd hi (Nat.not_lt_zero _)⟩
theorem O2.empty (w : World) (B : Nat) (hB : B ≤ w.heap.size) : O2 (w.alloc (.cells #[] 24)) B (w.heap.size + 1) (some ⟨w.heap.size, 0, none⟩) 0 0 (fun _ => (none, 0, 0)) [] :=
  ⟨rfl, ⟨rfl, World.ownsRow_made w #[] 0 hB (by decide) (by simp)⟩, fun i hi => absurd hi (Nat.not_lt_zero _), fun i hi => absurd hi (Nat.not_lt_zero _), fun i j hi => absurd hi (Nat.not_lt_zero _), (fun d hd => by cases hd; simp), fun i hi => absurd hi (Nat.not_lt_zero _)⟩
theorem O2.cell (h : O2 w B U a n c f L) {i : Nat} (hi : i < n) : ∃ g, a = some ⟨g, 0, none⟩ ∧ w.cell? ⟨g, i, none⟩ = some (f i).val := by
  obtain ⟨g, hg, _, _, hc, _⟩ := h.row.cells (by omega)
  exact ⟨g, hg, by rw [hc i hi, List.getElem?_map, List.getElem?_range hi]; rfl⟩
theorem Own2.keep (h : Own2 w B U a n c L) (hb : Below w.heap.size w w') : Own2 w' B U a n c L := by
  obtain ⟨f, h⟩ := h
  exact ⟨f, h.pres fun k _ _ hk => hb.block k hk⟩
theorem Own2.up {U' : Nat} (h : Own2 w B U a n c L) (hU : U ≤ U') : Own2 w B U' a n c L := by
  obtain ⟨f, h⟩ := h
  exact ⟨f, h.up hU⟩
theorem Own2.mono {B' : Nat} (h : Own2 w B U a n c L) (hB : B' ≤ B) : Own2 w B' U a n c L := by
  obtain ⟨f, h⟩ := h
  exact ⟨f, h.mono hB⟩
theorem Own2.lt (h : Own2 w B U a n c L) : ∀ k, (Value.slice a n c).ownBlock = some k → B ≤ k ∧ k < w.heap.size := by
  obtain ⟨f, h⟩ := h
  exact h.row.lt
theorem Own2.len (h : Own2 w B U a n c L) : L.length = n := by
  obtain ⟨f, h⟩ := h
  exact h.len
/-- another row was written to -/
theorem Own2.grown2 {row : Option Nat} (h : Own2 w B U a n c L) (hg : w.grownBy w' row) (hne : ∀ k, row = some k → k < B ∨ U ≤ k) : Own2 w' B U a n c L := by
  obtain ⟨f, h⟩ := h
  exact ⟨f, h.pres fun k h1 h2 h3 => hg.block k h3 fun e => by
    have := hne k e.symm
    omega⟩
end
/-- nothing that was there has changed, but for blocks from B on and below U -/
structure Within (w w' : World) (B U : Nat) : Prop where
  os : w'.os = w.os
  tape : w'.tape = w.tape
  output : w'.output = w.output
  size : w.heap.size ≤ w'.heap.size
  block : ∀ k, k < w.heap.size → (k < B ∨ U ≤ k) → w'.heap[k]? = w.heap[k]?
theorem Within.refl (w : World) (B U : Nat) : Within w w B U := ⟨rfl, rfl, rfl, Nat.le_refl _, fun _ _ _ => rfl⟩
theorem Within.grown {w w' w2 : World} {B U : Nat} {row : Option Nat} (h : Within w w' B U) (hg : w'.grownBy w2 row) (hr : ∀ k, row = some k → B ≤ k ∧ k < U) : Within w w2 B U :=
  ⟨hg.os.trans h.os, hg.tape.trans h.tape, hg.output.trans h.output, Nat.le_trans h.size hg.size, fun k hk ho => (hg.block k (Nat.lt_of_lt_of_le hk h.size) (fun e => by have := hr k e.symm; omega)).trans (h.block k hk ho)⟩
theorem Own2.within {w w' : World} {B U B' U' : Nat} {a : Option Addr} {n c : Nat} {L : List (List Int)} (h : Own2 w B U a n c L) (hw : Within w w' B' U') (hd : U ≤ B' ∨ U' ≤ B) : Own2 w' B U a n c L := by
  obtain ⟨f, h⟩ := h
  exact ⟨f, h.pres fun k h1 h2 h3 => hw.block k h3 (by omega)⟩
theorem below_within {w w1 w2 : World} {B0 B U : Nat} (h : Below B0 w w1) (hw : Within w1 w2 B U) (hB : B0 ≤ B) (hs : B0 ≤ w1.heap.size) : Below B0 w w2 :=
  h.trans ⟨hw.os, hw.tape, hw.output, hw.size, fun k hk => hw.block k (by omega) (.inl (by omega))⟩
theorem Boxes.within {w w' : World} {B U : Nat} {bs : List (Nat × Value × Value)} (h : Boxes w bs) (hw : Within w w' B U) (hne : ∀ b ∈ bs, b.1 < B ∨ U ≤ b.1) : Boxes w' bs :=
  h.other hw.size fun b hb hlt => hw.block b.1 hlt (hne b hb)

/-- append of one list to a list of lists -/
theorem ap_list {ops : Array Oper} {rest : List Oper} {o : Oper} {a : Act} {Q : Exit → Act → World → Prop} {w0 : World} (hgd : o.guard = none) (s x : Operand)
    (ho : o.op = .call { callee := .builtin .append, args := #[s, x], argTypes := #[113, 113] })
    (B : Nat) (ad : Option Addr) (n c : Nat) (vs : List Value) (y : Value) (hs : a.eval s = .slice ad n c) (hown : Row 24 w0 B ad n c vs) (hy : y.oneCell' = true)
    (hx : a.eval x = .slice (some ⟨w0.heap.size, 0, none⟩) 1 1) (hn : n < 1099511627776) (hB : B ≤ w0.heap.size)
    (h : ∀ ad' c' w', Row 24 w' B ad' (n + 1) c' (vs ++ [y]) → Below B w0 w' → w0.grownBy w' (Value.slice ad n c).ownBlock → (∀ b, ad' = some b → (∃ d, ad = some d ∧ b.block = d.block) ∨ w0.heap.size ≤ b.block) → wpList Tryz.prog ops Q rest (a.put o.dst (.slice ad' (n + 1 : Nat) c')) w') :
    wpList Tryz.prog ops Q (o :: rest) a (w0.alloc (.cells #[y] 24)) := by
  obtain ⟨i0, hi, hz0, hz1, hz2⟩ := info_parts infoInts
  refine wpList_append_own_at (P := Tryz.prog) (w0.alloc (.cells #[y] 24)) hgd s x 113 ho B 24 i0 (.slice none 0 0) 1 24 Tryz.underlying113 hi hz0 hz1 hz2 rfl (by decide) _ n _ hs (hown.row.alloc _) ⟨w0.heap.size, 0, none⟩ 1 1 [y] hx rfl ?_ ?_ ?_ ?_ ?_ ?_
  · intro j u hj
    match j, hj with
    | 0, hj => simp at hj; subst hj; simp [Addr.add]
  · intro u hu; simp at hu; subst hu; exact hy
  · unfold maxLen; omega
  · omega
  · simp; omega
  · intro v' w' hown' hgrow _ h5
    have hl := hown.lt
    have hg0 : w0.grownBy w' (Value.slice ad n c).ownBlock :=
      ⟨hgrow.os, hgrow.tape, hgrow.output, by have := hgrow.size; simp at this; omega, fun k hk hne => (hgrow.block k (by simp; omega) hne).trans (Below.heap_alloc _ _ _ hk)⟩
    have hb : Below B w0 w' := (Below.refl B w0).grown hg0 hB (fun k hk => (hl k hk).1)
    have hv : ∃ ad' c', v' = .slice ad' (n + 1) c' := by
      rcases hown'.2 with ⟨_, h0⟩ | ⟨g, cap, cur, hv, _⟩
      · omega
      · exact ⟨_, _, hv⟩
    obtain ⟨ad', c', rfl⟩ := hv
    refine h ad' c' w' ⟨by simp [hown.len], hown'⟩ hb hg0 fun b hb => ?_
    subst hb
    rcases h5 with h5 | h5
    · obtain ⟨d, hd, hdb⟩ := ownBlock_some h5.symm
      exact .inl ⟨d, hd, hdb.symm⟩
    · right
      have : b.block = (w0.alloc (.cells #[y] 24)).heap.size := by simpa [Value.ownBlock] using h5
      simp at this; omega
theorem Own.pair (T : Nat) (w : World) (B : Nat) (hB : B ≤ w.heap.size) (x y : Int) : Own T (w.alloc (.cells #[.int .i64 x, .int .i64 y] T)) B (some ⟨w.heap.size, 0, none⟩) 2 2 [x, y] :=
  ⟨rfl, World.ownsRow_lit w #[.int .i64 x, .int .i64 y] 2 hB (by decide) (by simp)⟩
/-- a pair of numbers appended as a list -/
theorem ap_pair {ops : Array Oper} {rest : List Oper} {o : Oper} {a : Act} {Q : Exit → Act → World → Prop} {w : World} (hgd : o.guard = none) (s x : Operand)
    (ho : o.op = .call { callee := .builtin .append, args := #[s, x], argTypes := #[113, 113] })
    (B : Nat) (ad : Option Addr) (n c : Nat) (L : List (List Int)) (y z : Int) (hs : a.eval s = .slice ad n c) (hown : Own2 w B w.heap.size ad n c L)
    (hx : a.eval x = .slice (some ⟨w.heap.size + 1, 0, none⟩) 1 1) (hn : n < 1099511627776) (hB : B ≤ w.heap.size)
    (h : ∀ ad' c' w', Own2 w' B w'.heap.size ad' (n + 1) c' (L ++ [[y, z]]) → Below B w w' → wpList Tryz.prog ops Q rest (a.put o.dst (.slice ad' (n + 1 : Nat) c')) w') :
    wpList Tryz.prog ops Q (o :: rest) a ((w.alloc (.cells #[.int .i64 y, .int .i64 z] 3)).alloc (.cells #[.slice (some ⟨w.heap.size, 0, none⟩) 2 2] 24)) := by
  obtain ⟨f, h2⟩ := hown
  have hsz : (w.alloc (.cells #[.int .i64 y, .int .i64 z] 3)).heap.size = w.heap.size + 1 := by simp
  refine ap_list hgd s x ho B ad n c _ (.slice (some ⟨w.heap.size, 0, none⟩) 2 2) hs (h2.row.alloc _) rfl (by rw [hsz]; exact hx) hn (by rw [hsz]; omega) ?_
  intro ad' c' w' hrow hb hg hnew
  have hsz' : w.heap.size + 1 ≤ w'.heap.size := by have := hg.size; rw [hsz] at this; exact this
  have hout : ∀ k, (Value.slice ad n c).ownBlock = some k → k < w.heap.size := fun k hk => (h2.row.lt k hk).2
  have hold : ∀ i, i < n → Own 3 w' B (f i).1 (f i).2.1 (f i).2.2 (nthL L i) := fun i hi => by
    refine ((h2.own i hi).alloc _).grownNe hg fun k hk k2 hk2 e => ?_
    obtain ⟨b, hb1, hb2⟩ := ownBlock_some hk2
    obtain ⟨d, hd1, hd2⟩ := ownBlock_some hk
    exact h2.far i hi b d hb1 hd1 (by omega)
  have hpair : Own 3 w' B (some ⟨w.heap.size, 0, none⟩) 2 2 [y, z] := by
    refine (Own.pair 3 w B hB y z).grownNe hg fun k hk k2 hk2 e => ?_
    have h1 := hout k hk
    have h3 : w.heap.size = k2 := by simpa [Value.ownBlock] using hk2
    omega
  have hin : ∀ i, i < n → ∀ b, (f i).1 = some b → b.block < w.heap.size := fun i hi b hb => h2.his i hi b hb
  have hfn : ∀ i, i < n → (if i < n then f i else ((some ⟨w.heap.size, 0, none⟩, 2, 2) : Sl)) = f i := fun i hi => if_pos hi
  have hfl : (if n < n then f n else ((some ⟨w.heap.size, 0, none⟩, 2, 2) : Sl)) = (some ⟨w.heap.size, 0, none⟩, 2, 2) := if_neg (Nat.lt_irrefl _)
  have hll := h2.len
  refine h ad' c' w' ⟨fun i => if i < n then f i else (some ⟨w.heap.size, 0, none⟩, 2, 2), ?_⟩ (((Below.refl B w).alloc hB _).trans hb)
  refine ⟨by rw [List.length_append, h2.len]; rfl, ?_, ?_, ?_, ?_, ?_, ?_⟩
  · have e : (List.range (n + 1)).map (fun i => (if i < n then f i else ((some ⟨w.heap.size, 0, none⟩, 2, 2) : Sl)).val) = (List.range n).map (fun i => (f i).val) ++ [.slice (some ⟨w.heap.size, 0, none⟩) 2 2] := by
      rw [List.range_succ, List.map_append]
      congr 1
      · exact List.map_congr_left fun i hi => by rw [hfn i (List.mem_range.1 hi)]
      · simp only [List.map_cons, List.map_nil]; rw [hfl]; rfl
    rw [e]; exact hrow
  · intro i hi
    by_cases hin : i < n
    · simp only [hfn i hin]
      rw [nthL_left (by omega)]; exact hold i hin
    · obtain rfl : i = n := by omega
      simp only [hfl]
      have : nthL (L ++ [[y, z]]) i = [y, z] := by rw [← hll]; exact nthL_last L _
      rw [this]; exact hpair
  · intro i hi b d hb' hd'
    by_cases hin2 : i < n
    · simp only [hfn i hin2] at hb'
      have h1 := hin i hin2 b hb'
      rcases hnew d hd' with ⟨d0, hd0, hdb⟩ | hge
      · rw [hdb]; exact h2.far i hin2 b d0 hb' hd0
      · rw [hsz] at hge; omega
    · obtain rfl : i = n := by omega
      simp only [hfl] at hb'
      cases hb'
      rcases hnew d hd' with ⟨d0, hd0, hdb⟩ | hge
      · have := h2.hi d0 hd0
        simp only []; omega
      · rw [hsz] at hge
        simp only []; omega
  · intro i j hi hj hij b d hb' hd'
    by_cases hi2 : i < n
    · simp only [hfn i hi2] at hb'
      have h1 := hin i hi2 b hb'
      by_cases hj2 : j < n
      · simp only [hfn j hj2] at hd'
        exact h2.apart i j hi2 hj2 hij b d hb' hd'
      · obtain rfl : j = n := by omega
        simp only [hfl] at hd'
        cases hd'
        simp only []; omega
    · obtain rfl : i = n := by omega
      simp only [hfl] at hb'
      cases hb'
      have hj2 : j < i := by omega
      simp only [hfn j hj2] at hd'
      have h1 := hin j hj2 d hd'
      simp only []; omega
  · intro d hd
    exact (hrow.lt d.block (by rw [hd]; rfl)).2
  · intro i hi b hb'
    by_cases hi2 : i < n
    · simp only [hfn i hi2] at hb'
      have h1 := hin i hi2 b hb'
      omega
    · obtain rfl : i = n := by omega
      simp only [hfl] at hb'
      cases hb'
      simp only []; omega
def RetInts2 (w : World) (L : List (List Int)) (e : Ending) (w' : World) : Prop :=
  ∃ ad n c, e = .returned (.slice ad n c) ∧ Own2 w' w.heap.size w'.heap.size ad n c L ∧ Below w.heap.size w w'
end Go.Proofs.YtihfhfihladlcaaGreatDoor

/- Contracts of the laws' functions over lists of lists: compare, mark, read back. -/
namespace Go.Proofs.YtihfhfihladlcaaGreatDoor
set_option maxRecDepth 20000
open Go.RowKit
set_option linter.unusedSimpArgs false
set_option linter.unusedVariables false

/-- how many numbers the first k lists hold -/
def totTo (L : List (List Int)) : Nat → Nat
  | 0 => 0
  | k + 1 => totTo L k + (nthL L k).length
theorem totTo_le {L : List (List Int)} {M : Nat} (h : ∀ x ∈ L, x.length ≤ M) : ∀ k, k ≤ L.length → totTo L k ≤ k * M := by
  intro k
  induction k with
  | zero => intro _; simp [totTo]
  | succ k ih =>
    intro hk
    have h1 := ih (by omega)
    have h2 : (nthL L k).length ≤ M := h _ (by rw [nthL_at (by omega)]; exact List.getElem_mem (by omega))
    unfold totTo
    rw [Nat.succ_mul]; omega
theorem totTo_up (L : List (List Int)) : ∀ k j, k ≤ j → totTo L k ≤ totTo L j := by
  intro k j h
  induction h with
  | refl => exact Nat.le_refl _
  | @step m _ ih =>
    show totTo L k ≤ totTo L m + (nthL L m).length
    omega
def tot2 (L : List (List Int)) : Nat := totTo L L.length
/-- the lists marked with the numbers from s on, up to the k-th -/
def mk2 (L : List (List Int)) (s k : Nat) : List (List Int) := (List.range L.length).map fun i => if i < k then marks (s + totTo L i) (nthL L i).length else nthL L i
theorem mk2_len (L : List (List Int)) (s k : Nat) : (mk2 L s k).length = L.length := by simp [mk2]
theorem mk2_at {L : List (List Int)} {s k i : Nat} (h : i < L.length) : nthL (mk2 L s k) i = if i < k then marks (s + totTo L i) (nthL L i).length else nthL L i := by
  rw [nthL_at (by rw [mk2_len]; exact h)]; simp [mk2]
theorem mk2_zero (L : List (List Int)) (s : Nat) : mk2 L s 0 = L := by
  apply List.ext_getElem (by rw [mk2_len])
  intro i h1 h2
  rw [← nthL_at h1, ← nthL_at h2, mk2_at h2, if_neg (Nat.not_lt_zero _)]


end Go.Proofs.YtihfhfihladlcaaGreatDoor

/- Lists of lists that a call is given; a list that is the call's own is appended to a list of lists. -/
namespace Go.Proofs.YtihfhfihladlcaaGreatDoor
set_option maxRecDepth 20000
open Go.RowKit
set_option linter.unusedSimpArgs false
set_option linter.unusedVariables false

/-- the slice (a, n, _) reads as the lists L, the i-th at f i -/
structure R2 (w : World) (a : Option Addr) (n : Nat) (f : Nat → Sl) (L : List (List Int)) : Prop where
  len : L.length = n
  small : n ≤ 9223372036854775807
  cells : 0 < n → ∃ b off, a = some ⟨b, off, none⟩ ∧ ∀ i, i < n → w.cell? ⟨b, off + i, none⟩ = some (f i).val
  each : ∀ i, i < n → IntsAt w (f i).1 (f i).2.1 (nthL L i)
theorem R2.keep {w w' : World} {a : Option Addr} {n : Nat} {f : Nat → Sl} {L : List (List Int)} (h : R2 w a n f L) (hb : Below w.heap.size w w') : R2 w' a n f L := by
  refine ⟨h.len, h.small, fun hn => ?_, fun i hi => (h.each i hi).keep hb⟩
  obtain ⟨b, off, ha, hc⟩ := h.cells hn
  exact ⟨b, off, ha, fun i hi => (hb.cell (World.block_lt_of_cell? w _ (hc i hi))).trans (hc i hi)⟩
theorem O2.reads {w : World} {B U : Nat} {a : Option Addr} {n c : Nat} {f : Nat → Sl} {L : List (List Int)} (h : O2 w B U a n c f L) : R2 w a n f L := by
  refine ⟨h.len, Row.small h.row, fun hn => ?_, fun i hi => (h.own i hi).reads⟩
  obtain ⟨g, ha, _⟩ := h.cell hn
  refine ⟨g, 0, ha, fun i hi => ?_⟩
  obtain ⟨g', ha', hc⟩ := h.cell hi
  rw [ha] at ha'
  cases ha'
  rw [Nat.zero_add]; exact hc
def RowsAt (w : World) (a : Option Addr) (n : Nat) (L : List (List Int)) : Prop := ∃ f, R2 w a n f L
theorem RowsAt.keep {w w' : World} {a : Option Addr} {n : Nat} {L : List (List Int)} (h : RowsAt w a n L) (hb : Below w.heap.size w w') : RowsAt w' a n L := by
  obtain ⟨f, h⟩ := h; exact ⟨f, h.keep hb⟩
theorem Own2.reads {w : World} {B U : Nat} {a : Option Addr} {n c : Nat} {L : List (List Int)} (h : Own2 w B U a n c L) : RowsAt w a n L := by
  obtain ⟨f, h⟩ := h; exact ⟨f, h.reads⟩

/-- a list of the call's own, appended to a list of lists -/
theorem ap_own {ops : Array Oper} {rest : List Oper} {o : Oper} {a : Act} {Q : Exit → Act → World → Prop} {w : World} (hgd : o.guard = none) (s x : Operand)
    (ho : o.op = .call { callee := .builtin .append, args := #[s, x], argTypes := #[113, 113] })
    (B V : Nat) (ad : Option Addr) (n c : Nat) (L : List (List Int)) (ad1 : Option Addr) (n1 c1 : Nat) (ys : List Int) (hs : a.eval s = .slice ad n c) (hown : Own2 w B V ad n c L) (hone : Own 3 w V ad1 n1 c1 ys)
    (hx : a.eval x = .slice (some ⟨w.heap.size, 0, none⟩) 1 1) (hn : n < 1099511627776) (hB : B ≤ V) (hV : V ≤ w.heap.size)
    (h : ∀ ad' c' w', Own2 w' B w'.heap.size ad' (n + 1) c' (L ++ [ys]) → Below B w w' → w.grownBy w' (Value.slice ad n c).ownBlock → (∀ b, ad' = some b → (∃ d, ad = some d ∧ b.block = d.block) ∨ w.heap.size ≤ b.block) → wpList Tryz.prog ops Q rest (a.put o.dst (.slice ad' (n + 1 : Nat) c')) w') :
    wpList Tryz.prog ops Q (o :: rest) a (w.alloc (.cells #[.slice ad1 n1 c1] 24)) := by
  obtain ⟨f, h2⟩ := hown
  refine ap_list hgd s x ho B ad n c _ (.slice ad1 n1 c1) hs h2.row rfl hx hn (by omega) ?_
  intro ad' c' w' hrow hb hg hnew
  have hsz' : w.heap.size ≤ w'.heap.size := hg.size
  have hout : ∀ k, (Value.slice ad n c).ownBlock = some k → k < V := fun k hk => by
    obtain ⟨d, hd1, hd2⟩ := ownBlock_some hk
    have := h2.hi d hd1; omega
  have hold : ∀ i, i < n → Own 3 w' B (f i).1 (f i).2.1 (f i).2.2 (nthL L i) := fun i hi => by
    refine (h2.own i hi).grownNe hg fun k hk k2 hk2 e => ?_
    obtain ⟨b, hb1, hb2⟩ := ownBlock_some hk2
    obtain ⟨d, hd1, hd2⟩ := ownBlock_some hk
    exact h2.far i hi b d hb1 hd1 (by omega)
  have hpair : Own 3 w' B ad1 n1 c1 ys := by
    refine (hone.grownNe hg fun k hk k2 hk2 e => ?_).mono hB
    have h1 := hout k hk
    have h3 := (hone.lt k2 hk2).1
    omega
  have h1V : ∀ b, ad1 = some b → V ≤ b.block ∧ b.block < w.heap.size := fun b hb => hone.lt b.block (by rw [hb]; rfl)
  have hin : ∀ i, i < n → ∀ b, (f i).1 = some b → b.block < V := fun i hi b hb => h2.his i hi b hb
  have hfn : ∀ i, i < n → (if i < n then f i else ((ad1, n1, c1) : Sl)) = f i := fun i hi => if_pos hi
  have hfl : (if n < n then f n else ((ad1, n1, c1) : Sl)) = (ad1, n1, c1) := if_neg (Nat.lt_irrefl _)
  have hll := h2.len
  refine h ad' c' w' ⟨fun i => if i < n then f i else (ad1, n1, c1), ?_⟩ hb hg hnew
  refine ⟨by rw [List.length_append, h2.len]; rfl, ?_, ?_, ?_, ?_, ?_, ?_⟩
  · have e : (List.range (n + 1)).map (fun i => (if i < n then f i else ((ad1, n1, c1) : Sl)).val) = (List.range n).map (fun i => (f i).val) ++ [.slice ad1 n1 c1] := by
      rw [List.range_succ, List.map_append]
      congr 1
      · exact List.map_congr_left fun i hi => by rw [hfn i (List.mem_range.1 hi)]
      · simp only [List.map_cons, List.map_nil]; rw [hfl]; rfl
    rw [e]; exact hrow
  · intro i hi
    by_cases hin : i < n
    · simp only [hfn i hin]
      rw [nthL_left (by omega)]; exact hold i hin
    · obtain rfl : i = n := by omega
      simp only [hfl]
      have : nthL (L ++ [ys]) i = ys := by rw [← hll]; exact nthL_last L _
      rw [this]; exact hpair
  · intro i hi b d hb' hd'
    by_cases hin2 : i < n
    · simp only [hfn i hin2] at hb'
      have h1 := hin i hin2 b hb'
      rcases hnew d hd' with ⟨d0, hd0, hdb⟩ | hge
      · rw [hdb]; exact h2.far i hin2 b d0 hb' hd0
      · omega
    · obtain rfl : i = n := by omega
      simp only [hfl] at hb'
      have h1 := h1V b hb'
      rcases hnew d hd' with ⟨d0, hd0, hdb⟩ | hge
      · have := h2.hi d0 hd0
        omega
      · omega
  · intro i j hi hj hij b d hb' hd'
    by_cases hi2 : i < n
    · simp only [hfn i hi2] at hb'
      have h1 := hin i hi2 b hb'
      by_cases hj2 : j < n
      · simp only [hfn j hj2] at hd'
        exact h2.apart i j hi2 hj2 hij b d hb' hd'
      · obtain rfl : j = n := by omega
        simp only [hfl] at hd'
        have := h1V d hd'
        omega
    · obtain rfl : i = n := by omega
      simp only [hfl] at hb'
      have h0 := h1V b hb'
      have hj2 : j < i := by omega
      simp only [hfn j hj2] at hd'
      have h1 := hin j hj2 d hd'
      omega
  · intro d hd
    exact (hrow.lt d.block (by rw [hd]; rfl)).2
  · intro i hi b hb'
    by_cases hi2 : i < n
    · simp only [hfn i hi2] at hb'
      have h1 := hin i hi2 b hb'
      omega
    · obtain rfl : i = n := by omega
      simp only [hfl] at hb'
      have := h1V b hb'
      omega
/-- since w nothing that was there has changed, but for the block g -/
structure Apt (w w' : World) (g : Nat) : Prop where
  os : w'.os = w.os
  tape : w'.tape = w.tape
  output : w'.output = w.output
  size : w.heap.size ≤ w'.heap.size
  block : ∀ k, k < w.heap.size → k ≠ g → w'.heap[k]? = w.heap[k]?
section
variable {w w' w2 : World} {g : Nat}
theorem Apt.refl (w : World) (g : Nat) : Apt w w g := ⟨rfl, rfl, rfl, Nat.le_refl _, fun _ _ _ => rfl⟩
theorem Apt.keep (h : Apt w w' g) (hb : Below w'.heap.size w' w2) : Apt w w2 g :=
  ⟨hb.os.trans h.os, hb.tape.trans h.tape, hb.output.trans h.output, Nat.le_trans h.size hb.size, fun k hk hne => (hb.block k (Nat.lt_of_lt_of_le hk h.size)).trans (h.block k hk hne)⟩
theorem Apt.grown {row : Option Nat} (h : Apt w w' g) (hg : w'.grownBy w2 row) (hr : ∀ k, row = some k → k = g ∨ w.heap.size ≤ k) : Apt w w2 g :=
  ⟨hg.os.trans h.os, hg.tape.trans h.tape, hg.output.trans h.output, Nat.le_trans h.size hg.size, fun k hk hne => (hg.block k (Nat.lt_of_lt_of_le hk h.size) (fun e => by have := hr k e.symm; omega)).trans (h.block k hk hne)⟩
theorem Apt.own {T B : Nat} {a : Option Addr} {n c : Nat} {xs : List Int} (h : Apt w w' g) (ho : Own T w B a n c xs) (hne : ∀ k, (Value.slice a n c).ownBlock = some k → k ≠ g) : Own T w' B a n c xs :=
  Row.other ho fun k hak hl => h.block k hl (hne k (by rw [hak]; rfl))
theorem Apt.box {G : Nat} {x y : Value} (h : Apt w w' g) (hx : BoxF w G x y) (hne : G ≠ g) : BoxF w' G x y := hx.other h.size (h.block G hx.lt hne)
theorem Apt.ints {a : Option Addr} {n : Nat} {xs : List Int} (h : Apt w w' g) (hx : IntsAt w a n xs) (hne : ∀ b, a = some b → b.block ≠ g) : IntsAt w' a n xs := by
  refine ⟨hx.len, hx.small, fun hn => ?_⟩
  obtain ⟨b, off, ha, hc⟩ := hx.cells hn
  refine ⟨b, off, ha, fun i hi => ?_⟩
  have h1 := hc i hi
  have hlt := World.block_lt_of_cell? w _ h1
  have h2 := h.block b hlt (hne _ ha)
  rw [← h1]
  unfold World.cell?
  rw [h2]
end
end Go.Proofs.YtihfhfihladlcaaGreatDoor

/- Contracts of the laws' own helpers for structs of a number and a list: size, copy, comparison, marks and their check. -/
namespace Go.Proofs.YtihfhfihladlcaaGreatDoor
set_option maxRecDepth 20000
open Go.RowKit
set_option linter.unusedSimpArgs false

theorem grownBy_trans {a b c : World} {row : Option Nat} (h : a.grownBy b row) (k : b.grownBy c row) : a.grownBy c row :=
  ⟨k.os.trans h.os, k.tape.trans h.tape, k.output.trans h.output, Nat.le_trans h.size k.size, fun i hi hne => (k.block i (Nat.lt_of_lt_of_le hi h.size) hne).trans (h.block i hi hne)⟩

/-- What a call that makes a struct of a number and a list hands back. -/
def RetBox (w : World) (p : Int) (xs : List Int) (e : Ending) (w' : World) : Prop :=
  ∃ ad n c, e = .returned (.agg #[.int .i64 p, .slice ad n c]) ∧ Own 3 w' w.heap.size ad n c xs ∧ Below w.heap.size w w'
/-- .. with a true or a false behind it -/
def RetBox2 (w : World) (p : Int) (xs : List Int) (b : Bool) (e : Ending) (w' : World) : Prop :=
  ∃ ad n c, e = .returned (.tuple #[.agg #[.int .i64 p, .slice ad n c], .bool b]) ∧ Own 3 w' w.heap.size ad n c xs ∧ Below w.heap.size w w'
/-- What marking a row leaves: the row marked, all else as it was. -/
def RetMark (w : World) (B : Nat) (a : Option Addr) (n c s : Nat) (e : Ending) (w' : World) : Prop :=
  e = .returned (.int .i64 ((s + n : Nat) : Int)) ∧ Own 3 w' B a n c (marks s n) ∧ w.grownBy w' (Value.slice a n c).ownBlock

theorem szComplex_yes (p : Int) (a : Option Addr) (n c : Nat) (L : Nat) (w : World) (hn : n ≤ L) (hL : L ≤ 1048576) :
    Calls Tryz.prog 37 #[.agg #[.int .i64 p, .slice a n c], .int .i64 L] w fun e w' => e = .returned (.int .i64 ((L - n : Nat) : Int)) ∧ Below w.heap.size w w' := by
  go_enter Tryz.func37, Tryz.ntmps37
  go_wp2_with (go_at_call 111; (with_reducible refine (szIntS_yes a n c L _ hn hL).mono ?_); rintro e w' ⟨rfl, rfl⟩)
  go_ret
  exact ⟨rfl, (Below.refl _ _).alloc (Nat.le_refl _) _⟩
theorem szComplex_no (p : Int) (a : Option Addr) (n c : Nat) (L : Nat) (w : World) (hn : L < n) (hL : L ≤ 1048576) (hm : n ≤ 9223372036854775807) :
    Calls Tryz.prog 37 #[.agg #[.int .i64 p, .slice a n c], .int .i64 L] w fun e w' => e = .returned (.int .i64 (-1)) ∧ Below w.heap.size w w' := by
  go_enter Tryz.func37, Tryz.ntmps37
  go_wp2_with (go_at_call 111; (with_reducible refine (szIntS_no a n c L _ hn hL hm).mono ?_); rintro e w' ⟨rfl, rfl⟩)
  go_ret
  exact ⟨rfl, (Below.refl _ _).alloc (Nat.le_refl _) _⟩
theorem toComplex_any (p : Int) (a : Option Addr) (n c : Nat) (xs : List Int) (w : World) (h : IntsAt w a n xs) (hm : n ≤ 1048576) :
    Calls Tryz.prog 39 #[.agg #[.int .i64 p, .slice a n c]] w (RetBox w p xs) := by
  have Hh := Lib.hid h; clear h
  go_enter Tryz.func39, Tryz.ntmps39
  go_wp2_with fail
  refine (toIntS_any a n c xs _ (Hh.out.keep (by repeat (first | exact Below.refl _ _ | assumption | refine Below.setCell ?_ (by first | omega | (simp; done) | (simp; omega)) _ | refine Below.alloc ?_ (by first | omega | (simp; done) | (simp; omega)) _ | apply Below.drew))) hm).mono ?_
  rintro e w1 ⟨ad, m, d, rfl, hown, hb⟩
  obtain ⟨hc, hf⟩ := bcell hb
  have hz : w.heap.size + 3 ≤ w1.heap.size := by have := hb.size; simp at this; omega
  have hbl : Below w.heap.size w w1 := Below.trans (by repeat (first | exact Below.refl _ _ | assumption | refine Below.setCell ?_ (by first | omega | (simp; done) | (simp; omega)) _ | refine Below.alloc ?_ (by first | omega | (simp; done) | (simp; omega)) _ | apply Below.drew)) (hb.mono (by simp; omega))
  have ho : Own 3 w1 (w.heap.size + 3) ad m d xs := hown.mono (by simp)
  go_wp2_with fail
  refine bodyPost_ret (v := .agg #[.int .i64 p, .slice ad m d]) (by simp [results, Tryz.results39, go_sem, hc, hz]) rfl ⟨ad, m, d, rfl, ?_, (by repeat (first | exact Below.refl _ _ | assumption | refine Below.setCell ?_ (by first | omega | (simp; done) | (simp; omega)) _ | refine Below.alloc ?_ (by first | omega | (simp; done) | (simp; omega)) _ | apply Below.drew))⟩
  exact (((ho.setBelow _ (by omega)).setBelow _ (by omega)).setBelow _ (by omega)).mono (by omega)
theorem eqComplex_yes (p q : Int) (a b : Option Addr) (n m c d : Nat) (xs ys : List Int) (w : World) (h : IntsAt w a n xs) (h' : IntsAt w b m ys) (hp : p = q) (he : xs = ys) :
    Calls Tryz.prog 41 #[.agg #[.int .i64 p, .slice a n c], .agg #[.int .i64 q, .slice b m d]] w fun e w' => e = .returned (.bool true) ∧ Below w.heap.size w w' := by
  subst hp
  have Hh := Lib.hid h; clear h
  have Hh' := Lib.hid h'; clear h'
  have He := Lib.hid he; clear he
  have hpp : (p != p) = false := by simp
  go_enter Tryz.func41, Tryz.ntmps41
  go_wp2_with fail
  refine (eqIntS_yes a b n m c d xs ys _ (Hh.out.keep (by repeat (first | exact Below.refl _ _ | assumption | refine Below.setCell ?_ (by first | omega | (simp; done) | (simp; omega)) _ | refine Below.alloc ?_ (by first | omega | (simp; done) | (simp; omega)) _ | apply Below.drew))) (Hh'.out.keep (by repeat (first | exact Below.refl _ _ | assumption | refine Below.setCell ?_ (by first | omega | (simp; done) | (simp; omega)) _ | refine Below.alloc ?_ (by first | omega | (simp; done) | (simp; omega)) _ | apply Below.drew))) He.out).mono ?_
  rintro e w1 ⟨rfl, hb⟩
  go_wp2_with fail
  go_ret
  exact ⟨rfl, Below.trans (by repeat (first | exact Below.refl _ _ | assumption | refine Below.setCell ?_ (by first | omega | (simp; done) | (simp; omega)) _ | refine Below.alloc ?_ (by first | omega | (simp; done) | (simp; omega)) _ | apply Below.drew)) (hb.mono (by simp; omega))⟩

end Go.Proofs.YtihfhfihladlcaaGreatDoor

/- Worlds that differ in one block and in a row, and in new blocks. -/
namespace Go.Proofs.YtihfhfihladlcaaGreatDoor
set_option maxRecDepth 20000
open Go.RowKit

/-- nothing that was there has changed, but for the block g and a row -/
structure Chg (w w' : World) (g : Nat) (r : Option Nat) : Prop where
  os : w'.os = w.os
  tape : w'.tape = w.tape
  output : w'.output = w.output
  size : w.heap.size ≤ w'.heap.size
  block : ∀ i, i < w.heap.size → i ≠ g → some i ≠ r → w'.heap[i]? = w.heap[i]?
theorem Chg.refl (w : World) (g : Nat) (r : Option Nat) : Chg w w g r := ⟨rfl, rfl, rfl, Nat.le_refl _, fun _ _ _ _ => rfl⟩
theorem Chg.of {a b : World} {g : Nat} {r : Option Nat} (h : Below a.heap.size a b) : Chg a b g r := ⟨h.os, h.tape, h.output, h.size, fun i hi _ _ => h.block i hi⟩
theorem Chg.then {a b c : World} {g : Nat} {r q : Option Nat} (h : Chg a b g r) (k : Chg b c g q) (hq : ∀ j, q = some j → some j = r ∨ a.heap.size ≤ j) : Chg a c g r :=
  ⟨k.os.trans h.os, k.tape.trans h.tape, k.output.trans h.output, Nat.le_trans h.size k.size, fun i hi hg hne => (k.block i (Nat.lt_of_lt_of_le hi h.size) hg (fun e => by
    rcases hq i e.symm with h1 | h1
    · exact hne h1
    · omega)).trans (h.block i hi hg hne)⟩
theorem Chg.grown {a b c : World} {g : Nat} {r : Option Nat} (h : Chg a b g r) (k : b.grownBy c r) : Chg a c g r :=
  ⟨k.os.trans h.os, k.tape.trans h.tape, k.output.trans h.output, Nat.le_trans h.size k.size, fun i hi hg hne => (k.block i (Nat.lt_of_lt_of_le hi h.size) hne).trans (h.block i hi hg hne)⟩
theorem Chg.set {a b : World} {g : Nat} {r : Option Nat} (h : Chg a b g r) (v : Value) : Chg a (b.setCell ⟨g, 0, none⟩ v) g r :=
  ⟨h.os, h.tape, h.output, by simpa using h.size, fun i hi hg hne => (Below.heap_setCell _ _ _ _ (fun e => hg e)).trans (h.block i hi hg hne)⟩
theorem IntsAt.chg {w w' : World} {g : Nat} {r : Option Nat} {a : Option Addr} {n : Nat} {xs : List Int} (h : IntsAt w a n xs) (hg : Chg w w' g r) (hne : ∀ b, a = some b → b.block ≠ g ∧ r ≠ some b.block) : IntsAt w' a n xs := by
  refine ⟨h.len, h.small, fun hn => ?_⟩
  obtain ⟨b, off, ha, hc⟩ := h.cells hn
  refine ⟨b, off, ha, fun i hi => ?_⟩
  have hlt : b < w.heap.size := World.block_lt_of_cell? w _ (hc i hi)
  have := hne _ ha
  exact (World.cell?_of_block (a := ⟨b, off + i, none⟩) (hg.block b hlt this.1 fun e => this.2 e.symm)).trans (hc i hi)
theorem BoxF.chg {W W' : World} {g G : Nat} {x y : Value} (h : BoxF W g x y) (hg : Chg W W' G none) (hne : g ≠ G) : BoxF W' g x y := h.other hg.size (hg.block g h.lt hne (by simp))
theorem Chg.lowOf {W W' : World} {G B : Nat} (hg : Chg W W' G none) (hB : B ≤ G) (hs : B ≤ W.heap.size) : Below B W W' := ⟨hg.os, hg.tape, hg.output, hg.size, fun i hi => hg.block i (by omega) (by omega) (by simp)⟩
theorem Chg.upto {a b c : World} {g : Nat} (h : Chg a b g none) (k : Below a.heap.size b c) : Chg a c g none :=
  ⟨k.os.trans h.os, k.tape.trans h.tape, k.output.trans h.output, Nat.le_trans h.size k.size, fun i hi hg hne => (k.block i hi).trans (h.block i hi hg hne)⟩
theorem Chg.setAny {a b : World} {g : Nat} (h : Chg a b g none) (k : Nat) (v : Value) : Chg a (b.setCell ⟨g, k, none⟩ v) g none :=
  ⟨h.os, h.tape, h.output, by simpa using h.size, fun i hi hg hne => (Below.heap_setCell _ _ _ _ (fun e => hg e)).trans (h.block i hi hg hne)⟩
theorem Chg.trans {a b c : World} {g : Nat} (h : Chg a b g none) (k : Chg b c g none) : Chg a c g none := h.then k (by simp)
theorem Chg.drew {a b : World} {g : Nat} (h : Chg a b g none) : Chg a b.drew g none := ⟨h.os, h.tape, h.output, h.size, h.block⟩
theorem Chg.alloc {a b : World} {g : Nat} (h : Chg a b g none) (o : Obj) : Chg a (b.alloc o) g none :=
  ⟨h.os, h.tape, h.output, Nat.le_trans h.size (by simp), fun i hi hg hne => (Below.heap_alloc _ _ _ (Nat.lt_of_lt_of_le hi h.size)).trans (h.block i hi hg hne)⟩
theorem Chg.below {a b : World} {g B : Nat} (h : Chg a b g none) (hg : B ≤ g) (hB : B ≤ a.heap.size) : Below B a b := h.lowOf hg hB
theorem Chg.row {w w' : World} {g T B : Nat} {a : Option Addr} {n c : Nat} {vs : List Value} (h : Chg w w' g none) (r : Row T w B a n c vs) (hne : ∀ k, (Value.slice a n c).ownBlock = some k → k ≠ g) : Row T w' B a n c vs :=
  r.other fun k hk hlt => h.block k hlt (hne k (by rw [hk]; rfl)) (by simp)
end Go.Proofs.YtihfhfihladlcaaGreatDoor

/- A matrix of the call's own: rows in blocks of their own; writes into a row, and two rows changing places. -/
namespace Go.Proofs.YtihfhfihladlcaaGreatDoor
set_option maxRecDepth 20000
open Go.RowKit
set_option linter.unusedSimpArgs false
set_option linter.unusedVariables false

/-- n rows, the i-th at f i and R i; all in blocks of their own from B on and below U -/
structure Mx (w : World) (B U : Nat) (a : Option Addr) (n c : Nat) (f : Nat → Sl) (R : Nat → List Int) : Prop where
  row : Row 24 w B a n c ((List.range n).map fun i => (f i).val)
  own : ∀ i, i < n → Own 3 w B (f i).1 (f i).2.1 (f i).2.2 (R i)
  far : ∀ i, i < n → ∀ b d, (f i).1 = some b → a = some d → b.block ≠ d.block
  apart : ∀ i j, i < n → j < n → i ≠ j → ∀ b d, (f i).1 = some b → (f j).1 = some d → b.block ≠ d.block
  hi : ∀ d, a = some d → d.block < U
  his : ∀ i, i < n → ∀ b, (f i).1 = some b → b.block < U
theorem O2.mx {w : World} {B U : Nat} {a : Option Addr} {n c : Nat} {f : Nat → Sl} {L : List (List Int)} (h : O2 w B U a n c f L) : Mx w B U a n c f (nthL L) := ⟨h.row, h.own, h.far, h.apart, h.hi, h.his⟩
section
variable {w w' : World} {B U : Nat} {a : Option Addr} {n c : Nat} {f : Nat → Sl} {R : Nat → List Int}
theorem Mx.pres (h : Mx w B U a n c f R) (hp : ∀ k, B ≤ k → k < U → k < w.heap.size → w'.heap[k]? = w.heap[k]?) : Mx w' B U a n c f R :=
  ⟨h.row.other fun g hg hl => hp g (h.row.lt g (by rw [hg]; rfl)).1 (h.hi _ hg) hl,
    fun i hi => Row.other (h.own i hi) fun g hg hl => hp g ((h.own i hi).lt g (by rw [hg]; rfl)).1 (h.his i hi _ hg) hl, h.far, h.apart, h.hi, h.his⟩
theorem Mx.keep (h : Mx w B U a n c f R) (hb : Below w.heap.size w w') : Mx w' B U a n c f R := h.pres fun k _ _ hk => hb.block k hk
theorem Mx.drew (h : Mx w B U a n c f R) : Mx w.drew B U a n c f R := h.pres fun _ _ _ _ => rfl
theorem Mx.congr {R' : Nat → List Int} (h : Mx w B U a n c f R) (e : ∀ i, i < n → R i = R' i) : Mx w B U a n c f R' :=
  ⟨h.row, fun i hi => by rw [← e i hi]; exact h.own i hi, h.far, h.apart, h.hi, h.his⟩
theorem Mx.mono {B' : Nat} (h : Mx w B U a n c f R) (hB : B' ≤ B) : Mx w B' U a n c f R := ⟨h.row.mono hB, fun i hi => (h.own i hi).mono hB, h.far, h.apart, h.hi, h.his⟩
theorem Mx.up {U' : Nat} (h : Mx w B U a n c f R) (hU : U ≤ U') : Mx w B U' a n c f R :=
  ⟨h.row, h.own, h.far, h.apart, fun d hd => Nat.lt_of_lt_of_le (h.hi d hd) hU, fun i hi b hb => Nat.lt_of_lt_of_le (h.his i hi b hb) hU⟩
theorem Mx.head (h : Mx w B U a n c f R) (hn : 0 < n) : ∃ g, a = some ⟨g, 0, none⟩ ∧ B ≤ g ∧ g < U ∧ g < w.heap.size ∧ ∀ i, i < n → w.cell? ⟨g, i, none⟩ = some (f i).val ∧ w.frozen? ⟨g, i, none⟩ = false := by
  obtain ⟨g, hg, hl, _, hc, hf⟩ := h.row.cells hn
  have hlt := h.row.lt g (by rw [hg]; rfl)
  exact ⟨g, hg, hlt.1, h.hi _ hg, hlt.2, fun i hi => ⟨by rw [hc i hi, List.getElem?_map, List.getElem?_range hi]; rfl, hf i⟩⟩
theorem Mx.at (h : Mx w B U a n c f R) {i N : Nat} (hi : i < n) (hN : (R i).length = N) (h0 : 0 < N) : ∃ g k, f i = (some ⟨g, 0, none⟩, N, k) ∧ B ≤ g ∧ g < U ∧ g < w.heap.size ∧ ∀ j, j < N → w.cell? ⟨g, j, none⟩ = some (.int .i64 (nth (R i) j)) ∧ w.frozen? ⟨g, j, none⟩ = false := by
  have ho := h.own i hi
  have hl := ho.len
  obtain ⟨g, hg, _, _, hc, hf⟩ := Row.cells ho (by omega)
  have hlt := ho.lt g (by rw [hg]; rfl)
  refine ⟨g, (f i).2.2, ?_, hlt.1, h.his i hi _ hg, hlt.2, fun j hj => ⟨?_, hf j⟩⟩
  · rw [← hg, ← hN, hl]
  · rw [hc j (by omega), List.getElem?_map, List.getElem?_eq_getElem (by omega), nth_eq (by omega)]; rfl
/-- a number is written into a row -/
theorem Mx.write (h : Mx w B U a n c f R) {i g N k : Nat} (hi : i < n) (hf : f i = (some ⟨g, 0, none⟩, N, k)) (j : Nat) (u : Int) :
    Mx (w.setCell ⟨g, j, none⟩ (.int .i64 u)) B U a n c f (fun r => if r = i then (R i).set j u else R r) := by
  have hfi : (f i).1 = some ⟨g, 0, none⟩ := by rw [hf]
  refine ⟨h.row.setOther _ fun e => h.far i hi _ _ hfi e rfl, fun r hr => ?_, h.far, h.apart, h.hi, h.his⟩
  by_cases e : r = i
  · subst e
    rw [if_pos rfl]
    have := h.own r hr
    rw [hfi] at this ⊢
    exact this.set j u
  · rw [if_neg e]
    exact (h.own r hr).setOther _ fun e2 => h.apart r i hr hi e _ _ e2 hfi rfl
/-- two rows change places -/
theorem Mx.swap (h : Mx w B U a n c f R) {g i j : Nat} (hg : a = some ⟨g, 0, none⟩) (hi : i < n) (hj : j < n) :
    Mx ((w.setCell ⟨g, j, none⟩ (f i).val).setCell ⟨g, i, none⟩ (f j).val) B U a n c (fun r => if r = i then f j else if r = j then f i else f r) (swapR R i j) := by
  have hm : ∀ r, r < n → (if r = i then j else if r = j then i else r) < n := fun r hr => by
    by_cases e1 : r = i
    · rw [if_pos e1]; exact hj
    · rw [if_neg e1]
      by_cases e2 : r = j
      · rw [if_pos e2]; exact hi
      · rw [if_neg e2]; exact hr
  have hf : ∀ r, (if r = i then f j else if r = j then f i else f r) = f (if r = i then j else if r = j then i else r) := fun r => by
    by_cases e1 : r = i
    · rw [if_pos e1, if_pos e1]
    · rw [if_neg e1, if_neg e1]
      by_cases e2 : r = j
      · rw [if_pos e2, if_pos e2]
      · rw [if_neg e2, if_neg e2]
  have hR : ∀ r, swapR R i j r = R (if r = i then j else if r = j then i else r) := fun r => by
    unfold swapR
    by_cases e1 : r = i
    · rw [if_pos e1, if_pos e1]
    · rw [if_neg e1, if_neg e1]
      by_cases e2 : r = j
      · rw [if_pos e2, if_pos e2]
      · rw [if_neg e2, if_neg e2]
  have hinj : ∀ r s, r ≠ s → (if r = i then j else if r = j then i else r) ≠ (if s = i then j else if s = j then i else s) := fun r s hrs => by
    split <;> split <;> (try split) <;> (try split) <;> omega
  refine ⟨?_, fun r hr => ?_, fun r hr b d hb hd => ?_, fun r s hr hs hrs b d hb hd => ?_, h.hi, fun r hr b hb => ?_⟩
  · have h1 := h.row
    rw [hg] at h1 ⊢
    have h2 := (h1.set j (f i).val).set i (f j).val
    have e : (((List.range n).map fun i => (f i).val).set j (f i).val).set i (f j).val = (List.range n).map fun r => (if r = i then f j else if r = j then f i else f r).val := by
      apply List.ext_getElem (by simp)
      intro r h1 h2
      rw [List.getElem_set, List.getElem_set]
      by_cases e1 : i = r
      · subst e1; simp
      · have e1' : ¬ r = i := fun e => e1 e.symm
        by_cases e2 : j = r
        · subst e2; simp [e1, e1']
        · have e2' : ¬ r = j := fun e => e2 e.symm
          simp [e1, e1', e2, e2']
    rw [e] at h2
    exact h2
  · rw [hR]
    simp only [hf]
    have hr' := hm r hr
    refine (((h.own _ hr').setOther _ fun e => h.far _ hr' _ _ e hg rfl)).setOther _ fun e => h.far _ hr' _ _ e hg rfl
  · simp only [hf] at hb
    exact h.far _ (hm r hr) b d hb hd
  · simp only [hf] at hb hd
    exact h.apart _ _ (hm r hr) (hm s hs) (hinj r s hrs) b d hb hd
  · simp only [hf] at hb
    exact h.his _ (hm r hr) b hb
end
theorem Within.set {w w' : World} {B U g : Nat} (h : Within w w' B U) (h1 : B ≤ g) (h2 : g < U) (j : Nat) (u : Value) : Within w (w'.setCell ⟨g, j, none⟩ u) B U :=
  ⟨h.os, h.tape, h.output, by simpa using h.size, fun k hk ho => (Below.heap_setCell _ _ _ _ (fun e => by simp only at e; omega)).trans (h.block k hk ho)⟩
theorem Within.drew {w w' : World} {B U : Nat} (h : Within w w' B U) : Within w w'.drew B U := by
  refine ⟨h.os, h.tape, h.output, h.size, h.block⟩
theorem Within.below {w w' w2 : World} {B U : Nat} (h : Within w w' B U) (hb : Below w'.heap.size w' w2) : Within w w2 B U :=
  ⟨hb.os.trans h.os, hb.tape.trans h.tape, hb.output.trans h.output, Nat.le_trans h.size hb.size, fun k hk ho => (hb.block k (Nat.lt_of_lt_of_le hk h.size)).trans (h.block k hk ho)⟩
theorem Within.trans {w w' w2 : World} {B U : Nat} (h : Within w w' B U) (k : Within w' w2 B U) : Within w w2 B U :=
  ⟨k.os.trans h.os, k.tape.trans h.tape, k.output.trans h.output, Nat.le_trans h.size k.size, fun q hq ho => (k.block q (Nat.lt_of_lt_of_le hq h.size) ho).trans (h.block q hq ho)⟩
theorem Own.wit {T : Nat} {w w' : World} {B U B' : Nat} {a : Option Addr} {n c : Nat} {xs : List Int} (h : Own T w B' a n c xs) (hw : Within w w' B U) (hU : U ≤ B') : Own T w' B' a n c xs :=
  Row.other h fun g hag hl => hw.block g hl (by have := (h.lt g (by rw [hag]; rfl)).1; omega)
/-- a row with its front already turned -/
def partL (n J : Nat) (g h : Nat → Int) : List Int := mkL n fun j => if j < J then g j else h j
theorem partL_set {n J : Nat} {g h : Nat → Int} (hJ : J < n) : (partL n J g h).set J (g J) = partL n (J + 1) g h := by
  refine nth_ext (by rw [List.length_set, partL, partL, mkL_len, mkL_len]) fun j hj => ?_
  rw [List.length_set, partL, mkL_len] at hj
  unfold partL
  rw [nth_mkL, if_pos hj]
  unfold nth
  rw [List.getD_eq_getElem?_getD, List.getElem?_set]
  by_cases e : J = j
  · subst e; simp [mkL_len, hJ]
  · rw [if_neg e]
    have := nth_mkL n (fun j => if j < J then g j else h j) j
    unfold nth at this
    rw [List.getD_eq_getElem?_getD, if_pos hj] at this
    rw [this]
    by_cases e2 : j < J
    · rw [if_pos e2, if_pos (by omega)]
    · rw [if_neg e2, if_neg (by omega)]
theorem partL_zero {n : Nat} {g : Nat → Int} {r : List Int} (h : r.length = n) : partL n 0 g (nth r) = r := by
  unfold partL; simp only [Nat.not_lt_zero, if_false]; exact mkL_nth h
theorem partL_all (n : Nat) (g h : Nat → Int) : partL n n g h = mkL n g := mkL_congr fun j hj => by rw [if_pos hj]
theorem partL_at {n J : Nat} {g h : Nat → Int} (hJ : J < n) : nth (partL n J g h) J = h J := by unfold partL; rw [nth_mkL, if_pos hJ, if_neg (Nat.lt_irrefl _)]
theorem partL_len (n J : Nat) (g h : Nat → Int) : (partL n J g h).length = n := mkL_len _ _
end Go.Proofs.YtihfhfihladlcaaGreatDoor

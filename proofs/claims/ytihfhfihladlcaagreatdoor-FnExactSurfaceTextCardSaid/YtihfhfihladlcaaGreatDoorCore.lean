/- Texts of this claim, one behind the other: what each says stands at its head. -/
import Derived.Test.YtihfhfihladlcaaGreatDoorRows
import Derived.Maps.AppendAt
import Derived.Laws.OwnMore
import Derived.Deep.RegionHeld3
import Derived.OpenShut
import Derived.Lib.SmallJoins
import Derived.Test.YtihfhfihladlcaaGreatDoorBase
/- The laws of append and of reading, at this program's own types of numbers. -/
namespace Go.Proofs.YtihfhfihladlcaaGreatDoor
set_option maxRecDepth 20000
open Go.RowKit

theorem infoInt : (Tryz.prog.info? 3).map (fun i => (i.zero, i.size, i.bytes)) = some (some (.int .i64 0), 1, 8) := by kernel_rfl

/-- append of one element to a row of the call's own, whatever the elements' type -/
theorem ap_row {ops : Array Oper} {rest : List Oper} {o : Oper} {a : Act} {Q : Exit → Act → World → Prop} {w0 : World} {TS TE bytes : Nat} {z : Value} (hu : Tryz.prog.underlying TS = some (.slice TE))
    (hinfo : (Tryz.prog.info? TE).map (fun i => (i.zero, i.size, i.bytes)) = some (some z, 1, bytes)) (hz : z.cells.size = 1) (hgd : o.guard = none) (s x : Operand)
    (ho : o.op = .call { callee := .builtin .append, args := #[s, x], argTypes := #[TS, TS] })
    (B : Nat) (ad : Option Addr) (n c : Nat) (vs : List Value) (y : Value) (hs : a.eval s = .slice ad n c) (hown : Row TE w0 B ad n c vs)
    (hx : a.eval x = .slice (some ⟨w0.heap.size, 0, none⟩) 1 1) (hy : y.oneCell' = true) (hn : n < 1099511627776) (hby : bytes ≤ 64) (hB : B ≤ w0.heap.size)
    (h : ∀ ad' c' w', Row TE w' B ad' (n + 1) c' (vs ++ [y]) → Below B w0 w' → w0.grownBy w' (Value.slice ad n c).ownBlock → wpList Tryz.prog ops Q rest (a.put o.dst (.slice ad' (n + 1 : Nat) c')) w') :
    wpList Tryz.prog ops Q (o :: rest) a (w0.alloc (.cells #[y] TE)) := by
  obtain ⟨i0, hi, hz0, hz1, hz2⟩ := info_parts hinfo
  refine wpList_append_own _ hgd s x TS ho B TE i0 z 1 bytes hu hi hz0 hz1 hz2 hz (by decide) _ n _ hs (hown.row.alloc _) ⟨w0.heap.size, 0, none⟩ 1 1 [y] hx rfl ?_ ?_ ?_ ?_ ?_ ?_
  · intro j u hj
    match j, hj with
    | 0, hj => simp at hj; subst hj; simp [Addr.add]
  · intro u hu; simp at hu; subst hu; exact hy
  · unfold maxLen; omega
  · have : (n + 1) * bytes ≤ 1099511627776 * 64 := Nat.mul_le_mul (by omega) hby
    omega
  · simp; omega
  · intro v' w' hown' hgrow _
    have hl := hown.lt
    have hg0 : w0.grownBy w' (Value.slice ad n c).ownBlock :=
      ⟨hgrow.os, hgrow.tape, hgrow.output, by have := hgrow.size; simp at this; omega, fun k hk hne => (hgrow.block k (by simp; omega) hne).trans (Below.heap_alloc _ _ _ hk)⟩
    have hb : Below B w0 w' := (Below.refl B w0).grown hg0 hB (fun k hk => (hl k hk).1)
    have hv : ∃ ad' c', v' = .slice ad' (n + 1) c' := by
      rcases hown'.2 with ⟨_, h0⟩ | ⟨g, cap, cur, hv, _⟩
      · omega
      · exact ⟨_, _, hv⟩
    obtain ⟨ad', c', rfl⟩ := hv
    exact h ad' c' w' ⟨by rw [List.length_append, hown.len]; rfl, hown'⟩ hb hg0

/-- append of one element within the capacity -/
theorem ap_fit {ops : Array Oper} {rest : List Oper} {o : Oper} {a : Act} {Q : Exit → Act → World → Prop} {w0 : World} {TS TE bytes : Nat} {z : Value} (hu : Tryz.prog.underlying TS = some (.slice TE))
    (hinfo : (Tryz.prog.info? TE).map (fun i => (i.zero, i.size, i.bytes)) = some (some z, 1, bytes)) (hgd : o.guard = none) (s x : Operand)
    (ho : o.op = .call { callee := .builtin .append, args := #[s, x], argTypes := #[TS, TS] })
    (B g n c : Nat) (vs : List Value) (y : Value) (hs : a.eval s = .slice (some ⟨g, 0, none⟩) n c) (hown : Row TE w0 B (some ⟨g, 0, none⟩) n c vs)
    (hx : a.eval x = .slice (some ⟨w0.heap.size, 0, none⟩) 1 1) (hy : y.oneCell' = true) (hn : n + 1 ≤ c)
    (h : ∀ w', Row TE w' B (some ⟨g, 0, none⟩) (n + 1) c (vs ++ [y]) → w0.grownBy w' (some g) → wpList Tryz.prog ops Q rest (a.put o.dst (.slice (some ⟨g, 0, none⟩) (n + 1 : Nat) c)) w') :
    wpList Tryz.prog ops Q (o :: rest) a (w0.alloc (.cells #[y] TE)) := by
  obtain ⟨i0, hi, hz0, hz1, hz2⟩ := info_parts hinfo
  refine wpList_append_fits _ hgd s x TS ho B TE i0 1 hu hi hz1 g n c vs hs (hown.row.alloc _) ⟨w0.heap.size, 0, none⟩ 1 1 [y] hx rfl ?_ ?_ hn ?_
  · intro j u hj
    match j, hj with
    | 0, hj => simp at hj; subst hj; simp [Addr.add]
  · intro u hu; simp at hu; subst hu; exact hy
  · intro w' hown' hgrow
    exact h w' ⟨by rw [List.length_append, hown.len]; rfl, hown'⟩
      ⟨hgrow.os, hgrow.tape, hgrow.output, by have := hgrow.size; simp at this; omega, fun k hk hne => (hgrow.block k (by simp; omega) hne).trans (Below.heap_alloc _ _ _ hk)⟩

/-- append of one number to a row of the call's own -/
theorem ap_g {ops : Array Oper} {rest : List Oper} {o : Oper} {a : Act} {Q : Exit → Act → World → Prop} {w0 : World} (hgd : o.guard = none) (s x : Operand)
    (ho : o.op = .call { callee := .builtin .append, args := #[s, x], argTypes := #[24, 24] })
    (B : Nat) (ad : Option Addr) (n c : Nat) (xs : List Int) (y : Int) (hs : a.eval s = .slice ad n c) (hown : Own 3 w0 B ad n c xs)
    (hx : a.eval x = .slice (some ⟨w0.heap.size, 0, none⟩) 1 1) (hn : n < 1099511627776) (hB : B ≤ w0.heap.size)
    (h : ∀ ad' c' w', Own 3 w' B ad' (n + 1) c' (xs ++ [y]) → Below B w0 w' → w0.grownBy w' (Value.slice ad n c).ownBlock → wpList Tryz.prog ops Q rest (a.put o.dst (.slice ad' (n + 1 : Nat) c')) w') :
    wpList Tryz.prog ops Q (o :: rest) a (w0.alloc (.cells #[.int .i64 y] 3)) :=
  ap_row Tryz.underlying24 infoInt rfl hgd s x ho B ad n c _ _ hs hown hx rfl hn (by omega) hB fun ad' c' w' h1 h2 h3 => h ad' c' w' (by unfold Own; rw [List.map_append]; exact h1) h2 h3

theorem ap {ops : Array Oper} {rest : List Oper} {o : Oper} {a : Act} {Q : Exit → Act → World → Prop} {w0 : World} (hgd : o.guard = none) (s x : Operand)
    (ho : o.op = .call { callee := .builtin .append, args := #[s, x], argTypes := #[24, 24] })
    (B : Nat) (ad : Option Addr) (n c : Nat) (xs : List Int) (y : Int) (hs : a.eval s = .slice ad n c) (hown : Own 3 w0 B ad n c xs)
    (hx : a.eval x = .slice (some ⟨w0.heap.size, 0, none⟩) 1 1) (hn : n < 1099511627776) (hB : B ≤ w0.heap.size)
    (h : ∀ ad' c' w', Own 3 w' B ad' (n + 1) c' (xs ++ [y]) → Below B w0 w' → wpList Tryz.prog ops Q rest (a.put o.dst (.slice ad' (n + 1 : Nat) c')) w') :
    wpList Tryz.prog ops Q (o :: rest) a (w0.alloc (.cells #[.int .i64 y] 3)) :=
  ap_g hgd s x ho B ad n c xs y hs hown hx hn hB fun ad' c' w' h1 h2 _ => h ad' c' w' h1 h2

theorem infoBool : (Tryz.prog.info? 4).map (fun i => (i.zero, i.size, i.bytes)) = some (some (.bool false), 1, 1) := by kernel_rfl
theorem toList_made (z : Value) (hz : z.cells = #[z]) (n : Nat) : (madeCells z.cells (n * 1)).toList = List.replicate n z := by rw [hz, Nat.mul_one]; exact toList_madeCells_one z n

/-- make of a list of numbers, all 0 -/
theorem mk_ints {ops : Array Oper} {rest : List Oper} {o : Oper} {a : Act} {Q : Exit → Act → World → Prop} {w : World} (hgd : o.guard = none) (l c : Operand) (ho : o.op = Op.makeSlice 24 l c)
    (L : Int) (hl : a.eval l = .int .i64 L) (hc : a.eval c = .int .i64 L) (n : Nat) (hL : L = (n : Int)) (hn : n < 1099511627776)
    (h : ∀ g w', Own 3 w' w.heap.size (some ⟨g, 0, none⟩) n n (List.replicate n 0) → Below w.heap.size w w' → wpList Tryz.prog ops Q rest (a.put o.dst (.slice (some ⟨g, 0, none⟩) n n)) w') :
    wpList Tryz.prog ops Q (o :: rest) a w := by
  obtain ⟨i0, hi, hz0, hz1, hz2⟩ := info_parts infoInt
  refine wpList_make_full w hgd l c 24 ho w.heap.size 3 i0 (.int .i64 0) 1 Tryz.underlying24 hi hz0 hz1 .i64 .i64 L L n hl hc hL hL (by rw [hz2]; omega) (by unfold maxLen; omega) (Nat.le_refl _) ?_
  intro w' hrow hg
  rw [toList_made (.int .i64 0) rfl] at hrow
  exact h _ w' ⟨by simp, by simpa using hrow⟩ ((Below.refl _ _).grown hg (Nat.le_refl _) (fun k hk => by cases hk))

/-- n zeros, as cells -/
def zeroI (n : Nat) : Array Value := madeCells (Value.int .i64 0).cells (n * 1)
theorem run_mk_ints (n : Nat) (hn : n < 1099511627776) (W : World) : Sem.run Tryz.prog (Instr.makeSlice 24 (.int .i64 (n : Int)) (.int .i64 (n : Int))) W = .ok (.slice (some ⟨W.heap.size, 0, none⟩) n n) (W.alloc (.cells (zeroI n) 3)) := by
  obtain ⟨i0, hi, hz0, hz1, hz2⟩ := info_parts infoInt
  have hr := run_make (P := Tryz.prog) W 24 3 i0 (.int .i64 0) Tryz.underlying24 hi hz0 .i64 .i64 n n (by omega) (Int.le_refl _) (by rw [hz2]; omega) (by omega)
  simp only [Int.toNat_natCast, hz1] at hr
  exact hr
theorem own_mk (n : Nat) (hn : n < 1099511627776) (W : World) (B : Nat) (hB : B ≤ W.heap.size) : Own 3 (W.alloc (.cells (zeroI n) 3)) B (some ⟨W.heap.size, 0, none⟩) n n (List.replicate n 0) := by
  have h := World.ownsRow_lit (base := B) (e := 3) (size := 1) W (zeroI n) n hB (by unfold maxLen; omega) (by unfold zeroI; rw [size_madeCells])
  have e : (zeroI n).toList = List.replicate n (Value.int .i64 0) := toList_made (.int .i64 0) rfl n
  rw [e] at h
  exact ⟨by simp, by simpa using h⟩

/-- make of a list of bools, all false -/
theorem mk_bools {ops : Array Oper} {rest : List Oper} {o : Oper} {a : Act} {Q : Exit → Act → World → Prop} {w : World} (hgd : o.guard = none) (l c : Operand) (ho : o.op = Op.makeSlice 111 l c)
    (L : Int) (hl : a.eval l = .int .i64 L) (hc : a.eval c = .int .i64 L) (n : Nat) (hL : L = (n : Int)) (hn : n < 1099511627776)
    (h : ∀ g w', Row 4 w' w.heap.size (some ⟨g, 0, none⟩) n n (List.replicate n (.bool false)) → Below w.heap.size w w' → wpList Tryz.prog ops Q rest (a.put o.dst (.slice (some ⟨g, 0, none⟩) n n)) w') :
    wpList Tryz.prog ops Q (o :: rest) a w := by
  obtain ⟨i0, hi, hz0, hz1, hz2⟩ := info_parts infoBool
  refine wpList_make_full w hgd l c 111 ho w.heap.size 4 i0 (.bool false) 1 Tryz.underlying111 hi hz0 hz1 .i64 .i64 L L n hl hc hL hL (by rw [hz2]; omega) (by unfold maxLen; omega) (Nat.le_refl _) ?_
  intro w' hrow hg
  rw [toList_made (.bool false) rfl] at hrow
  exact h _ w' ⟨by simp, hrow⟩ ((Below.refl _ _).grown hg (Nat.le_refl _) (fun k hk => by cases hk))

theorem infoByte : (Tryz.prog.info? 5).map (fun i => (i.zero, i.size, i.bytes)) = some (some (.int .u8 0), 1, 1) := by kernel_rfl
/-- The bytes of a row, as a string's list. -/
def bval (l : List UInt8) : List Value := l.map fun b => .int .u8 (b.toNat : Int)
/-- make of a list of bytes, none yet, with room for n -/
theorem mk_bytes0 {ops : Array Oper} {rest : List Oper} {o : Oper} {a : Act} {Q : Exit → Act → World → Prop} {w : World} (hgd : o.guard = none) (l c : Operand) (ho : o.op = Op.makeSlice 22 l c)
    (C : Int) (hl : a.eval l = .int .i64 0) (hc : a.eval c = .int .i64 C) (n : Nat) (hC : C = (n : Int)) (hn : n < 1099511627776)
    (h : ∀ g w', Row 5 w' w.heap.size (some ⟨g, 0, none⟩) 0 n (bval []) → Below w.heap.size w w' → wpList Tryz.prog ops Q rest (a.put o.dst (.slice (some ⟨g, 0, none⟩) 0 n)) w') :
    wpList Tryz.prog ops Q (o :: rest) a w := by
  obtain ⟨i0, hi, hz0, hz1, hz2⟩ := info_parts infoByte
  refine wpList_make_own w hgd l c 22 ho w.heap.size 5 i0 (.int .u8 0) 1 Tryz.underlying22 hi hz0 hz1 .i64 .i64 C n hl hc hC (by rw [hz2]; omega) (by unfold maxLen; omega) (Nat.le_refl _) ?_
  intro w' hrow hg
  exact h _ w' ⟨rfl, hrow⟩ ((Below.refl _ _).grown hg (Nat.le_refl _) (fun k hk => by cases hk))
theorem ap_bytefit {ops : Array Oper} {rest : List Oper} {o : Oper} {a : Act} {Q : Exit → Act → World → Prop} {w0 : World} (hgd : o.guard = none) (s x : Operand)
    (ho : o.op = .call { callee := .builtin .append, args := #[s, x], argTypes := #[22, 22] })
    (B g n c : Nat) (l : List UInt8) (y : Int) (b : UInt8) (hyb : y = (b.toNat : Int)) (hs : a.eval s = .slice (some ⟨g, 0, none⟩) n c) (hown : Row 5 w0 B (some ⟨g, 0, none⟩) n c (bval l))
    (hx : a.eval x = .slice (some ⟨w0.heap.size, 0, none⟩) 1 1) (hn : n + 1 ≤ c)
    (h : ∀ w', Row 5 w' B (some ⟨g, 0, none⟩) (n + 1) c (bval (l ++ [b])) → w0.grownBy w' (some g) → wpList Tryz.prog ops Q rest (a.put o.dst (.slice (some ⟨g, 0, none⟩) (n + 1 : Nat) c)) w') :
    wpList Tryz.prog ops Q (o :: rest) a (w0.alloc (.cells #[.int .u8 y] 5)) := by
  subst hyb
  exact ap_fit Tryz.underlying22 infoByte hgd s x ho B g n c _ _ hs hown hx rfl hn fun w' h1 h2 => h w' (by unfold bval; rw [List.map_append]; exact h1) h2
theorem ap_byte {ops : Array Oper} {rest : List Oper} {o : Oper} {a : Act} {Q : Exit → Act → World → Prop} {w0 : World} (hgd : o.guard = none) (s x : Operand)
    (ho : o.op = .call { callee := .builtin .append, args := #[s, x], argTypes := #[22, 22] })
    (B : Nat) (ad : Option Addr) (n c : Nat) (l : List UInt8) (y : Int) (b : UInt8) (hyb : y = (b.toNat : Int)) (hs : a.eval s = .slice ad n c) (hown : Row 5 w0 B ad n c (bval l))
    (hx : a.eval x = .slice (some ⟨w0.heap.size, 0, none⟩) 1 1) (hn : n < 1099511627776) (hB : B ≤ w0.heap.size)
    (h : ∀ ad' c' w', Row 5 w' B ad' (n + 1) c' (bval (l ++ [b])) → Below B w0 w' → wpList Tryz.prog ops Q rest (a.put o.dst (.slice ad' (n + 1 : Nat) c')) w') :
    wpList Tryz.prog ops Q (o :: rest) a (w0.alloc (.cells #[.int .u8 y] 5)) := by
  subst hyb
  exact ap_row Tryz.underlying22 infoByte rfl hgd s x ho B ad n c _ _ hs hown hx rfl hn (by omega) hB fun ad' c' w' h1 h2 _ => h ad' c' w' (by unfold bval; rw [List.map_append]; exact h1) h2
/-- string(b), b a row of the call's own -/
theorem run_str {w : World} {B : Nat} {ad : Option Addr} {n c : Nat} {l : List UInt8} (h : Row 5 w B ad n c (bval l)) : (convert 22 9 (.slice ad n c)).run Tryz.prog w = .ok (.string ⟨l.toArray⟩) w := by
  have hl : l.length = n := by have := h.len; simpa [bval] using this
  rcases Nat.eq_zero_or_pos n with h0 | h0
  · have : l = [] := List.eq_nil_of_length_eq_zero (by omega)
    subst this
    rw [h0]
    cases ad with
    | none => exact run_convert_bytes_nil w 22 5 Tryz.underlying22 Tryz.underlying5 0 c 9 Tryz.underlying9
    | some a => exact run_convert_bytes_back w 22 9 5 a c [] Tryz.underlying22 Tryz.underlying5 Tryz.underlying9 (fun j hj => by cases hj)
  · obtain ⟨g, rfl, _, _, hc, _⟩ := h.cells h0
    rw [← hl]
    refine run_convert_bytes_back w 22 9 5 ⟨g, 0, none⟩ c l Tryz.underlying22 Tryz.underlying5 Tryz.underlying9 (fun j hj => ?_)
    have e : (⟨g, 0, none⟩ : Addr).add j = ⟨g, j, none⟩ := by rw [WideShapes.add_plain]; simp
    rw [e, hc j (by omega)]
    unfold bval
    rw [List.getElem?_map, List.getElem?_eq_getElem hj]; rfl

/-- What a call that makes a list of numbers hands back. -/
def RetInts (w : World) (xs : List Int) (e : Ending) (w' : World) : Prop :=
  ∃ ad n c, e = .returned (.slice ad n c) ∧ Own 3 w' w.heap.size ad n c xs ∧ Below w.heap.size w w'

end Go.Proofs.YtihfhfihladlcaaGreatDoor

/- The append of a whole list, at the builtin itself, as one step inside a region that draws its order, and in a plain region. -/
namespace Go.Proofs.YtihfhfihladlcaaGreatDoor
set_option maxRecDepth 20000
open Go.RowKit
set_option linter.unusedSimpArgs false
set_option linter.unusedVariables false

theorem run_ap_all {W : World} (B ty : Nat) (ad : Option Addr) (n c : Nat) (xs : List Int) (hown : Own 3 W B ad n c xs) (ad2 : Option Addr) (m d : Nat) (ys : List Int) (hx : IntsAt W ad2 m ys) (hf : Fit ad2 m d)
    (hn : n + m < 1099511627776) (hB : B ≤ W.heap.size) :
    ∃ ad' c' w', (Builtin.append_ #[24, 24] ty #[.slice ad n c, .slice ad2 m d]).run Tryz.prog W = .ok (.slice ad' (n + m : Nat) c') w' ∧ Own 3 w' B ad' (n + m) c' (xs ++ ys) ∧ Below B W w' := by
  obtain ⟨i0, hi, hz0, hz1, hz2⟩ := info_parts infoInt
  cases ad2 with
  | none =>
    have hd := hf.nil rfl
    have hm : m = 0 := by have := hf.cap; omega
    subst hm; subst hd
    have hys : ys = [] := List.eq_nil_of_length_eq_zero hx.len
    subst hys
    exact ⟨ad, c, W, run_append_owned_none (P := Tryz.prog) (w := W) B 24 ty 3 i0 1 Tryz.underlying24 hi _ n _ hown.row, by simpa using hown, Below.refl _ _⟩
  | some g =>
    have hnews : ∀ j u, (ys.map (Value.int .i64))[j]? = some u → W.cell? (g.add j) = some u := by
      intro j u hj
      have hlt : j < m := by
        rw [← hx.len]
        have := List.getElem?_eq_some_iff.1 hj
        obtain ⟨h, _⟩ := this
        simpa using h
      obtain ⟨b, off, hg, hc⟩ := hx.cells (by omega)
      cases hg
      rw [WideShapes.add_plain]
      rw [hc j hlt]
      rw [List.getElem?_map, List.getElem?_eq_getElem (by rw [hx.len]; exact hlt)] at hj
      rw [nth_eq (by rw [hx.len]; exact hlt)]
      exact hj
    have h1 : ∀ u ∈ ys.map (Value.int .i64), u.oneCell' = true := by
      intro u hu
      obtain ⟨x, _, rfl⟩ := List.mem_map.1 hu
      rfl
    obtain ⟨v', w', hr, h2, h3, h4, h5⟩ := run_append_own_at (P := Tryz.prog) W B 24 ty 3 i0 (.int .i64 0) 1 8 Tryz.underlying24 hi hz0 hz1 hz2 rfl (by decide) (.slice ad n c) n _ hown.row g m d (ys.map (Value.int .i64)) (by simp [hx.len]) hnews h1 (by unfold maxLen; omega) (by omega) hB
    have hl := hown.lt
    have hb : Below B W w' := (Below.refl B W).grown h3 hB (fun k hk => (hl k hk).1)
    have hv : ∃ ad' c', v' = .slice ad' (n + m) c' := by
      rcases h2.2 with ⟨hv, h0⟩ | ⟨g, cap, cur, hv, _⟩
      · exact ⟨none, 0, by rw [hv, h0]⟩
      · exact ⟨_, _, hv⟩
    obtain ⟨ad', c', rfl⟩ := hv
    exact ⟨ad', c', w', hr, ⟨by simp [hown.len, hx.len], by rw [List.map_append]; exact h2⟩, hb⟩

theorem step_ap {ops : Array Oper} {o : Oper} {a : Act} {W : World} {K : Act → World → Prop} {Q : Exit → Act → World → Prop} {E : Prop} (hgd : o.guard = none) (s x : Operand)
    (ho : o.op = .call { callee := .builtin .append, args := #[s, x], argTypes := #[24, 24] })
    (B : Nat) (ad : Option Addr) (n c : Nat) (xs : List Int) (hs : a.eval s = .slice ad n c) (hown : Own 3 W B ad n c xs)
    (ad2 : Option Addr) (m d : Nat) (ys : List Int) (hx : a.eval x = .slice ad2 m d) (hy : IntsAt W ad2 m ys) (hf : Fit ad2 m d)
    (hn : n + m < 1099511627776) (hB : B ≤ W.heap.size)
    (hK : ∀ ad' c' w', Own 3 w' B ad' (n + m) c' (xs ++ ys) → Below B W w' → K (a.put o.dst (.slice ad' (n + m : Nat) c')) w') :
    if Region.wanted o (yielded ops a.tmps) = true then Oper.wp Tryz.prog o a W K Q else E := by
  have hw : Region.wanted o (yielded ops a.tmps) = true := by simp [Region.wanted, hgd]
  rw [if_pos hw]
  obtain ⟨ad', c', w', hrun, h1, h2⟩ := run_ap_all B o.type ad n c xs hown ad2 m d ys hy hf hn hB
  unfold Oper.wp
  simp only [execOp, ho, resolve, invoke, builtin, Sem.run_bind, Sem.run_pure, Result.andThen_ok, List.map_toArray, List.map_cons, List.map_nil, hs, hx, hrun]
  exact hK _ _ _ h1 h2

theorem list_ap {ops : Array Oper} {rest : List Oper} {o : Oper} {a : Act} {Q : Exit → Act → World → Prop} {W : World} (hgd : o.guard = none) (s x : Operand)
    (ho : o.op = .call { callee := .builtin .append, args := #[s, x], argTypes := #[24, 24] })
    (B : Nat) (ad : Option Addr) (n c : Nat) (xs : List Int) (hs : a.eval s = .slice ad n c) (hown : Own 3 W B ad n c xs)
    (ad2 : Option Addr) (m d : Nat) (ys : List Int) (hx : a.eval x = .slice ad2 m d) (hy : IntsAt W ad2 m ys) (hf : Fit ad2 m d)
    (hn : n + m < 1099511627776) (hB : B ≤ W.heap.size)
    (h : ∀ ad' c' w', Own 3 w' B ad' (n + m) c' (xs ++ ys) → Below B W w' → wpList Tryz.prog ops Q rest (a.put o.dst (.slice ad' (n + m : Nat) c')) w') :
    wpList Tryz.prog ops Q (o :: rest) a W := by
  refine wpList_plain hgd fun K hK => ?_
  obtain ⟨ad', c', w', hrun, h1, h2⟩ := run_ap_all B o.type ad n c xs hown ad2 m d ys hy hf hn hB
  unfold Oper.wp execOp
  simp only [ho, resolve, invoke, builtin, Sem.run_bind, Sem.run_pure, Result.andThen_ok, List.map_toArray, List.map_cons, List.map_nil, hs, hx, hrun]
  exact hK _ _ (h _ _ _ h1 h2)

/-- the element that an append lays in a block of its own -/
theorem IntsAt.one (w : World) (y : Int) (T : Nat) : IntsAt (w.alloc (.cells #[.int .i64 y] T)) (some ⟨w.heap.size, 0, none⟩) 1 [y] := by
  refine ⟨rfl, by omega, fun _ => ⟨w.heap.size, 0, rfl, fun i hi => ?_⟩⟩
  obtain rfl : i = 0 := by omega
  simp [nth]
theorem Fit.one (g : Addr) : Fit (some g) 1 1 := ⟨Nat.le_refl _, fun h => by cases h⟩

end Go.Proofs.YtihfhfihladlcaaGreatDoor

/- A list of lists of numbers, of the call's own: how it is made and how a number is appended to one of its lists. It holds for every program with these types. -/
namespace Go.Proofs.YtihfhfihladlcaaGreatDoor
set_option maxRecDepth 20000
open Go.RowKit
set_option linter.unusedSimpArgs false
set_option linter.unusedVariables false

abbrev Sl := Option Addr × Nat × Nat
def Sl.val (x : Sl) : Value := .slice x.1 x.2.1 x.2.2

/-- The block g holds n lists, the i-th lies at f i and is L i; all lie in blocks of their own. -/
structure Grid (w : World) (B g n : Nat) (f : Nat → Sl) (L : Nat → List Int) : Prop where
  row : Row 24 w B (some ⟨g, 0, none⟩) n n ((List.range n).map fun i => (f i).val)
  own : ∀ i, i < n → Own 3 w B (f i).1 (f i).2.1 (f i).2.2 (L i)
  far : ∀ i, i < n → ∀ b, (f i).1 = some b → b.block ≠ g
  apart : ∀ i j, i < n → j < n → i ≠ j → ∀ b c, (f i).1 = some b → (f j).1 = some c → b.block ≠ c.block

section
variable {w w' : World} {B g n : Nat} {f : Nat → Sl} {L : Nat → List Int}

theorem Grid.keep (h : Grid w B g n f L) (hb : Below w.heap.size w w') : Grid w' B g n f L :=
  ⟨h.row.keep hb, fun i hi => (h.own i hi).keep hb, h.far, h.apart⟩
theorem Grid.alloc (h : Grid w B g n f L) (o : Obj) : Grid (w.alloc o) B g n f L := ⟨h.row.alloc o, fun i hi => (h.own i hi).alloc o, h.far, h.apart⟩

theorem Grid.glt (h : Grid w B g n f L) : B ≤ g ∧ g < w.heap.size := h.row.lt g rfl
/-- what the outer block's cells hold -/
theorem Grid.cell (h : Grid w B g n f L) {i : Nat} (hi : i < n) : w.cell? ⟨g, i, none⟩ = some (f i).val := by
  obtain ⟨g', hg, _, _, hc, _⟩ := h.row.cells (by omega)
  cases hg
  rw [hc i hi, List.getElem?_map, List.getElem?_range hi]; rfl
theorem Grid.frozen (h : Grid w B g n f L) {i : Nat} (hi : i < n) : w.frozen? ⟨g, i, none⟩ = false := by
  obtain ⟨g', hg, _, _, _, hf⟩ := h.row.cells (by omega)
  cases hg
  exact hf i

theorem ownBlock_some {a : Option Addr} {m c k : Nat} (h : (Value.slice a m c).ownBlock = some k) : ∃ b, a = some b ∧ b.block = k := by
  cases a with
  | none => cases h
  | some b => exact ⟨b, rfl, by injection h⟩

/-- one list has grown; nothing else has changed, but for new blocks -/
theorem Grid.step (h : Grid w B g n f L) {k : Nat} (hk : k < n) {x : Sl} {xs : List Int} (hown : Own 3 w' B x.1 x.2.1 x.2.2 xs)
    (hg : w.grownBy w' (f k).val.ownBlock) (hnew : ∀ b, x.1 = some b → (∃ c, (f k).1 = some c ∧ b.block = c.block) ∨ w.heap.size ≤ b.block) :
    Grid (w'.setCell ⟨g, k, none⟩ x.val) B g n (fun i => if i = k then x else f i) (fun i => if i = k then xs else L i) := by
  have hgl := h.glt
  have hfar : ∀ b, x.1 = some b → b.block ≠ g := fun b hb e => by
    rcases hnew b hb with ⟨c, hc, hbc⟩ | hge
    · exact h.far k hk c hc (by rw [← hbc]; exact e)
    · omega
  refine ⟨?_, ?_, ?_, ?_⟩
  · have h1 : Row 24 w' B (some ⟨g, 0, none⟩) n n ((List.range n).map fun i => (f i).val) := h.row.other fun g' hg' _ => by
      cases hg'
      refine hg.block g hgl.2 fun e => ?_
      obtain ⟨b, hb, hbg⟩ := ownBlock_some e.symm
      exact h.far k hk b hb hbg
    have h2 := h1.set k x.val
    have e : ((List.range n).map fun i => (f i).val).set k x.val = (List.range n).map fun i => (if i = k then x else f i).val := by
      apply List.ext_getElem (by simp)
      intro i h1 h2
      rw [List.getElem_set]
      by_cases hik : k = i
      · subst hik; simp
      · have hki : ¬ i = k := fun e => hik e.symm
        simp [hik, hki]
    rw [e] at h2
    exact h2
  · intro i hi
    by_cases hik : i = k
    · subst hik
      simp only [if_true]
      refine hown.setOther _ fun e => hfar _ e rfl
    · simp only [if_neg hik]
      have h1 : Own 3 w' B (f i).1 (f i).2.1 (f i).2.2 (L i) := (h.own i hi).grownNe hg fun q hq q2 hq2 e => by
        obtain ⟨b, hb, hbq⟩ := ownBlock_some hq
        obtain ⟨c, hc, hcq⟩ := ownBlock_some hq2
        exact h.apart i k hi hk hik c b hc hb (by rw [hcq, hbq]; exact e)
      exact h1.setOther _ fun e => h.far i hi _ e rfl
  · intro i hi b hb
    by_cases hik : i = k
    · simp only [hik, if_true] at hb; exact hfar b hb
    · simp only [if_neg hik] at hb; exact h.far i hi b hb
  · intro i j hi hj hij b c hb hc
    by_cases hik : i = k
    · subst hik
      have hji : ¬ j = i := fun e => hij e.symm
      simp only [if_true] at hb
      simp only [if_neg hji] at hc
      rcases hnew b hb with ⟨d, hd, hbd⟩ | hge
      · rw [hbd]; exact h.apart i j hi hj hij d c hd hc
      · have := (h.own j hj).lt c.block (by rw [hc]; rfl)
        omega
    · simp only [if_neg hik] at hb
      by_cases hjk : j = k
      · subst hjk
        simp only [if_true] at hc
        rcases hnew c hc with ⟨d, hd, hbd⟩ | hge
        · rw [hbd]; exact h.apart i j hi hj hij b d hb hd
        · have := (h.own i hi).lt b.block (by rw [hb]; rfl)
          omega
      · simp only [if_neg hjk] at hc
        exact h.apart i j hi hj hij b c hb hc
end

theorem infoInts : (Tryz.prog.info? 24).map (fun i => (i.zero, i.size, i.bytes)) = some (some (.slice none 0 0), 1, 24) := by kernel_rfl
/-- make of a list of lists, all nil -/
theorem mk_grid {ops : Array Oper} {rest : List Oper} {o : Oper} {a : Act} {Q : Exit → Act → World → Prop} {w : World} (hgd : o.guard = none) (l c : Operand) (ho : o.op = Op.makeSlice 113 l c)
    (M : Int) (hl : a.eval l = .int .i64 M) (hc : a.eval c = .int .i64 M) (n : Nat) (hM : M = (n : Int)) (hn : n < 1099511627776)
    (h : ∀ g w', Grid w' w.heap.size g n (fun _ => (none, 0, 0)) (fun _ => []) → Below w.heap.size w w' → wpList Tryz.prog ops Q rest (a.put o.dst (.slice (some ⟨g, 0, none⟩) n n)) w') :
    wpList Tryz.prog ops Q (o :: rest) a w := by
  obtain ⟨i0, hi, hz0, hz1, hz2⟩ := info_parts infoInts
  refine wpList_make_full w hgd l c 113 ho w.heap.size 24 i0 (.slice none 0 0) 1 Tryz.underlying113 hi hz0 hz1 .i64 .i64 M M n hl hc hM hM (by rw [hz2]; omega) (by unfold maxLen; omega) (Nat.le_refl _) ?_
  intro w' hrow hg
  rw [toList_made (.slice none 0 0) rfl] at hrow
  refine h _ w' ⟨⟨by simp, ?_⟩, fun i _ => Own.nil _ _ _, fun i _ b hb => (by cases hb), fun i j _ _ _ b c hb => (by cases hb)⟩ ((Below.refl _ _).grown hg (Nat.le_refl _) (fun k hk => by cases hk))
  have e : (List.range n).map (fun i => Sl.val ((fun _ => ((none, 0, 0) : Sl)) i)) = List.replicate n (Value.slice none 0 0) := by
    apply List.ext_getElem (by simp)
    intro i h1 h2
    simp [Sl.val]
  rw [e]; exact hrow

/-- append of one number to a row of the call's own, telling where the new row lies -/
theorem ap_at {ops : Array Oper} {rest : List Oper} {o : Oper} {a : Act} {Q : Exit → Act → World → Prop} {w0 : World} (hgd : o.guard = none) (s x : Operand)
    (ho : o.op = .call { callee := .builtin .append, args := #[s, x], argTypes := #[24, 24] })
    (B : Nat) (ad : Option Addr) (n c : Nat) (xs : List Int) (y : Int) (hs : a.eval s = .slice ad n c) (hown : Own 3 w0 B ad n c xs)
    (hx : a.eval x = .slice (some ⟨w0.heap.size, 0, none⟩) 1 1) (hn : n < 1099511627776) (hB : B ≤ w0.heap.size)
    (h : ∀ ad' c' w', Own 3 w' B ad' (n + 1) c' (xs ++ [y]) → Below B w0 w' → w0.grownBy w' (Value.slice ad n c).ownBlock → (∀ b, ad' = some b → (∃ d, ad = some d ∧ b.block = d.block) ∨ w0.heap.size ≤ b.block) → wpList Tryz.prog ops Q rest (a.put o.dst (.slice ad' (n + 1 : Nat) c')) w') :
    wpList Tryz.prog ops Q (o :: rest) a (w0.alloc (.cells #[.int .i64 y] 3)) := by
  obtain ⟨i0, hi, hz0, hz1, hz2⟩ := info_parts infoInt
  refine wpList_append_own_at (P := Tryz.prog) (w0.alloc (.cells #[.int .i64 y] 3)) hgd s x 24 ho B 3 i0 (.int .i64 0) 1 8 Tryz.underlying24 hi hz0 hz1 hz2 rfl (by decide) _ n _ hs (hown.row.alloc _) ⟨w0.heap.size, 0, none⟩ 1 1 [.int .i64 y] hx rfl ?_ ?_ ?_ ?_ ?_ ?_
  · intro j u hj
    match j, hj with
    | 0, hj => simp at hj; subst hj; simp [Addr.add]
  · intro u hu; simp at hu; subst hu; rfl
  · unfold maxLen; omega
  · omega
  · simp; omega
  · intro v' w' hown' hgrow _ h5
    have hl := hown.lt
    have hg0 : w0.grownBy w' (Value.slice ad n c).ownBlock :=
      ⟨hgrow.os, hgrow.tape, hgrow.output, by have := hgrow.size; simp at this; omega, fun k hk hne => (hgrow.block k (by simp; omega) hne).trans (Below.heap_alloc _ _ _ hk)⟩
    have hb : Below B w0 w' := (Below.refl B w0).grown hg0 hB (fun k hk => (hl k hk).1)
    have hv : ∃ ad' c', v' = .slice ad' (n + 1) c' := by
      rcases hown'.2 with ⟨_, h0⟩ | ⟨g, cap, cur, hv, _⟩
      · omega
      · exact ⟨_, _, hv⟩
    obtain ⟨ad', c', rfl⟩ := hv
    refine h ad' c' w' ⟨by simp [hown.len], by rw [List.map_append]; exact hown'⟩ hb hg0 fun b hb => ?_
    subst hb
    rcases h5 with h5 | h5
    · obtain ⟨d, hd, hdb⟩ := ownBlock_some h5.symm
      exact .inl ⟨d, hd, hdb.symm⟩
    · right
      have : b.block = (w0.alloc (.cells #[.int .i64 y] 3)).heap.size := by simpa [Value.ownBlock] using h5
      simp at this; omega

end Go.Proofs.YtihfhfihladlcaaGreatDoor

/- The append of a whole list as a step, telling what else it leaves alone. -/
namespace Go.Proofs.YtihfhfihladlcaaGreatDoor
set_option maxRecDepth 20000
open Go.RowKit
set_option linter.unusedSimpArgs false
set_option linter.unusedVariables false

theorem run_ap_g {W : World} (B ty : Nat) (ad : Option Addr) (n c : Nat) (xs : List Int) (hown : Own 3 W B ad n c xs) (ad2 : Option Addr) (m d : Nat) (ys : List Int) (hx : IntsAt W ad2 m ys) (hf : Fit ad2 m d)
    (hn : n + m < 1099511627776) (hB : B ≤ W.heap.size) :
    ∃ ad' c' w', (Builtin.append_ #[24, 24] ty #[.slice ad n c, .slice ad2 m d]).run Tryz.prog W = .ok (.slice ad' (n + m : Nat) c') w' ∧ Own 3 w' B ad' (n + m) c' (xs ++ ys) ∧ Below B W w' ∧ W.grownBy w' (Value.slice ad n c).ownBlock ∧ ((Value.slice ad' (n + m) c').ownBlock = (Value.slice ad n c).ownBlock ∨ (Value.slice ad' (n + m) c').ownBlock = some W.heap.size) := by
  obtain ⟨i0, hi, hz0, hz1, hz2⟩ := info_parts infoInt
  cases ad2 with
  | none =>
    have hd := hf.nil rfl
    have hm : m = 0 := by have := hf.cap; omega
    subst hm; subst hd
    have hys : ys = [] := List.eq_nil_of_length_eq_zero hx.len
    subst hys
    exact ⟨ad, c, W, run_append_owned_none (P := Tryz.prog) (w := W) B 24 ty 3 i0 1 Tryz.underlying24 hi _ n _ hown.row, by simpa using hown, Below.refl _ _, ⟨rfl, rfl, rfl, Nat.le_refl _, fun _ _ _ => rfl⟩, .inl rfl⟩
  | some g =>
    have hnews : ∀ j u, (ys.map (Value.int .i64))[j]? = some u → W.cell? (g.add j) = some u := by
      intro j u hj
      have hlt : j < m := by
        rw [← hx.len]
        have := List.getElem?_eq_some_iff.1 hj
        obtain ⟨h, _⟩ := this
        simpa using h
      obtain ⟨b, off, hg, hc⟩ := hx.cells (by omega)
      cases hg
      rw [WideShapes.add_plain]
      rw [hc j hlt]
      rw [List.getElem?_map, List.getElem?_eq_getElem (by rw [hx.len]; exact hlt)] at hj
      rw [nth_eq (by rw [hx.len]; exact hlt)]
      exact hj
    have h1 : ∀ u ∈ ys.map (Value.int .i64), u.oneCell' = true := by
      intro u hu
      obtain ⟨x, _, rfl⟩ := List.mem_map.1 hu
      rfl
    obtain ⟨v', w', hr, h2, h3, h4, h5⟩ := run_append_own_at (P := Tryz.prog) W B 24 ty 3 i0 (.int .i64 0) 1 8 Tryz.underlying24 hi hz0 hz1 hz2 rfl (by decide) (.slice ad n c) n _ hown.row g m d (ys.map (Value.int .i64)) (by simp [hx.len]) hnews h1 (by unfold maxLen; omega) (by omega) hB
    have hl := hown.lt
    have hb : Below B W w' := (Below.refl B W).grown h3 hB (fun k hk => (hl k hk).1)
    have hv : ∃ ad' c', v' = .slice ad' (n + m) c' := by
      rcases h2.2 with ⟨hv, h0⟩ | ⟨g, cap, cur, hv, _⟩
      · exact ⟨none, 0, by rw [hv, h0]⟩
      · exact ⟨_, _, hv⟩
    obtain ⟨ad', c', rfl⟩ := hv
    exact ⟨ad', c', w', hr, ⟨by simp [hown.len, hx.len], by rw [List.map_append]; exact h2⟩, hb, h3, h5⟩

theorem step_ap_g {ops : Array Oper} {o : Oper} {a : Act} {W : World} {K : Act → World → Prop} {Q : Exit → Act → World → Prop} {E : Prop} (hgd : o.guard = none) (s x : Operand)
    (ho : o.op = .call { callee := .builtin .append, args := #[s, x], argTypes := #[24, 24] })
    (B : Nat) (ad : Option Addr) (n c : Nat) (xs : List Int) (hs : a.eval s = .slice ad n c) (hown : Own 3 W B ad n c xs)
    (ad2 : Option Addr) (m d : Nat) (ys : List Int) (hx : a.eval x = .slice ad2 m d) (hy : IntsAt W ad2 m ys) (hf : Fit ad2 m d)
    (hn : n + m < 1099511627776) (hB : B ≤ W.heap.size)
    (hK : ∀ ad' c' w', Own 3 w' B ad' (n + m) c' (xs ++ ys) → Below B W w' → W.grownBy w' (Value.slice ad n c).ownBlock → K (a.put o.dst (.slice ad' (n + m : Nat) c')) w') :
    if Region.wanted o (yielded ops a.tmps) = true then Oper.wp Tryz.prog o a W K Q else E := by
  have hw : Region.wanted o (yielded ops a.tmps) = true := by simp [Region.wanted, hgd]
  rw [if_pos hw]
  obtain ⟨ad', c', w', hrun, h1, h2, h3, _⟩ := run_ap_g B o.type ad n c xs hown ad2 m d ys hy hf hn hB
  unfold Oper.wp
  simp only [execOp, ho, resolve, invoke, builtin, Sem.run_bind, Sem.run_pure, Result.andThen_ok, List.map_toArray, List.map_cons, List.map_nil, hs, hx, hrun]
  exact hK _ _ _ h1 h2 h3

theorem step_ap_at {ops : Array Oper} {o : Oper} {a : Act} {W : World} {K : Act → World → Prop} {Q : Exit → Act → World → Prop} {E : Prop} (hgd : o.guard = none) (s x : Operand)
    (ho : o.op = .call { callee := .builtin .append, args := #[s, x], argTypes := #[24, 24] })
    (B : Nat) (ad : Option Addr) (n c : Nat) (xs : List Int) (hs : a.eval s = .slice ad n c) (hown : Own 3 W B ad n c xs)
    (ad2 : Option Addr) (m d : Nat) (ys : List Int) (hx : a.eval x = .slice ad2 m d) (hy : IntsAt W ad2 m ys) (hf : Fit ad2 m d)
    (hn : n + m < 1099511627776) (hB : B ≤ W.heap.size)
    (hK : ∀ ad' c' w', Own 3 w' B ad' (n + m) c' (xs ++ ys) → Below B W w' → W.grownBy w' (Value.slice ad n c).ownBlock → ((Value.slice ad' (n + m) c').ownBlock = (Value.slice ad n c).ownBlock ∨ (Value.slice ad' (n + m) c').ownBlock = some W.heap.size) → K (a.put o.dst (.slice ad' (n + m : Nat) c')) w') :
    if Region.wanted o (yielded ops a.tmps) = true then Oper.wp Tryz.prog o a W K Q else E := by
  have hw : Region.wanted o (yielded ops a.tmps) = true := by simp [Region.wanted, hgd]
  rw [if_pos hw]
  obtain ⟨ad', c', w', hrun, h1, h2, h3, h9⟩ := run_ap_g B o.type ad n c xs hown ad2 m d ys hy hf hn hB
  unfold Oper.wp
  simp only [execOp, ho, resolve, invoke, builtin, Sem.run_bind, Sem.run_pure, Result.andThen_ok, List.map_toArray, List.map_cons, List.map_nil, hs, hx, hrun]
  exact hK _ _ _ h1 h2 h3 h9

theorem IntsAt.grown {w w' : World} {row : Option Nat} {a : Option Addr} {n : Nat} {xs : List Int} (h : IntsAt w a n xs) (hg : w.grownBy w' row) (hne : ∀ b, a = some b → row ≠ some b.block) : IntsAt w' a n xs := by
  refine ⟨h.len, h.small, fun hn => ?_⟩
  obtain ⟨b, off, ha, hc⟩ := h.cells hn
  refine ⟨b, off, ha, fun i hi => ?_⟩
  have hlt : b < w.heap.size := World.block_lt_of_cell? w _ (hc i hi)
  exact (World.cell?_of_block (a := ⟨b, off + i, none⟩) (hg.block b hlt fun e => hne _ ha e.symm)).trans (hc i hi)
end Go.Proofs.YtihfhfihladlcaaGreatDoor

/- The step from a law's walk to its row: how the arguments are opened, and that a call that returns true and changes nothing that was there meets the row's specification. -/
namespace Go.Proofs.YtihfhfihladlcaaGreatDoor
set_option maxRecDepth 20000
open Go.ChangeShapes Go.WideShapes Go.ChangeAt Go.RowKit

theorem own : ownKnob Tryz.prog.godebug = none := by kernel_rfl
theorem laidOut : laidOutB Tryz.prog = true := by kernel_rfl
theorem cellsInt : Tryz.prog.cellsOf 3 = 1 := by kernel_rfl

section
variable {H : Type} {enc : TypeId × Value → H}

theorem trodAll_below {W W' : World} (hb : Below W.heap.size W W') : ∀ (ts : List TypeId) (vs : List Value) (ds : List (DataW H)) (ps : List MemPlace), (∀ t ∈ ts, Tryz.prog.readableRec t = true ∧ t < Tryz.prog.types.size) →
    DataW.TrodAll enc Tryz.prog W 0 (fun _ => true) true ts vs ds ps → (∀ x ∈ ps, x.block < W.heap.size) → DataW.TrodAll enc Tryz.prog W' 0 (fun b => decide (b < W.heap.size)) true ts vs ds ps := by
  intro ts
  induction ts with
  | nil =>
    intro vs ds ps _ h _
    obtain ⟨rfl, rfl, rfl⟩ := trodAll_nil h
    exact trodAll_mk0
  | cons t ts ih =>
    intro vs ds ps ht h hlt
    obtain ⟨v, vs', d, ds', p, q, rfl, rfl, rfl, h0, h1⟩ := trodAll_cons h
    have ht0 := ht t (by simp)
    exact trodAll_cons_mk (Below.trod laidOut ht0.1 ht0.2 h0 hb (fun x hx => hlt x (List.mem_append_left _ hx))) (ih _ _ _ (fun u hu => ht u (by simp [hu])) h1 (fun x hx => hlt x (List.mem_append_right _ hx)))

/-- A call that returns true and leaves all that was there meets a law's specification. -/
theorem law_post {f : Func} {s : ChangeSpec} {W W' : World} {args : Array Value} {ds : List (DataW H)} {before : List MemPlace} (hv0 : s.vars = []) (hW : DataW.Whole enc Tryz.prog f.params.toList s.vars false W args.toList ds [] before)
    (hts0 : (f.params.toList.all fun t => Tryz.prog.readableRec t && decide (t < Tryz.prog.types.size)) = true) (hrt : f.resultTypes = #[4]) (hres : (s.fn H (ds ++ [])).results = [.lit (.bool true)]) (hargs : (s.fn H (ds ++ [])).args = ds) (hvars : (s.fn H (ds ++ [])).vars = [])
    (hb : Below W.heap.size W W') : s.post enc Tryz.prog f false true false false W args (.bool true) W' := by
  have hts : ∀ t ∈ f.params.toList, Tryz.prog.readableRec t = true ∧ t < Tryz.prog.types.size := fun t ht => by
    have := List.all_eq_true.1 hts0 t ht
    simpa using this
  have hlt : ∀ x ∈ before, x.block < W.heap.size := fun x hx => hW.lt x hx
  have hW2 := hW
  obtain ⟨p, q, hA, hV, rfl, _, _⟩ := hW2
  rw [hv0] at hV
  have hq : q = [] := by simpa [DataW.TrodVars] using hV
  subst hq
  refine ⟨ds, [], _, [], p, [], hW, ?_, ?_, ?_, hb.frame _, fun h => by cases h⟩
  · rw [hres, hrt]
    exact trodAll_mk1 (shut_bool Tryz.underlying4 true)
  · rw [hargs]
    exact trodAll_below hb _ _ _ _ hts hA (fun x hx => hlt x (by simp [hx]))
  · rw [hvars, hv0]; rfl

/-- A slice of numbers that came in. -/
theorem open_row {W : World} {fuel : Nat} {v : Value} {x : DataW H × List MemPlace} (h : DataW.trod enc Tryz.prog W 0 (fun _ => true) true fuel 24 [v] = some x) :
    ∃ a n c xs, v = .slice a n c ∧ IntsAt W a n xs ∧ ∀ y ∈ xs, (Lit.int .i64 y).wf = true := by
  rcases open_ints Tryz.underlying24 Tryz.underlying3 cellsInt h with ⟨hcs, _⟩ | ⟨a, len, cap, zs, hcs, _, hl, hm, hz, _, hcell, hwf⟩
  · simp only [List.cons.injEq, and_true] at hcs
    exact ⟨none, 0, 0, [], hcs, IntsAt.nil _, by simp⟩
  · simp only [List.cons.injEq, and_true] at hcs
    simp only [if_true] at hz
    have hlen : (zs.take len).length = len := by rw [List.length_take]; omega
    refine ⟨some a, len, cap, zs.take len, hcs, ⟨hlen, by unfold maxLen at hm; omega, fun hn => ?_⟩, fun y hy => hwf y (List.mem_of_mem_take hy)⟩
    obtain ⟨b, off, rfl, hc⟩ := ints_at hcell (by omega)
    refine ⟨b, off, rfl, fun i hi => ?_⟩
    rw [hc i (by omega)]
    unfold nth
    rw [List.getD_eq_getElem?_getD, List.getD_eq_getElem?_getD, List.getElem?_take_of_lt hi]
end
end Go.Proofs.YtihfhfihladlcaaGreatDoor

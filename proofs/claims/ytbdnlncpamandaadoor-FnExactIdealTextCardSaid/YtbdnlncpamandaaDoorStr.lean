/- Texts: parting at a byte, sets out of texts. Plain laws and contracts, the program's and the reference's. -/
import Derived.BigQuiet
import Derived.Lib.Strings
import Derived.Test.YtbdnlncpamandaaDoorSet3
namespace Go.Proofs.YtbdnlncpamandaaDoor
set_option maxRecDepth 20000
open Go.RowKit
set_option linter.unusedSimpArgs false
set_option linter.unusedVariables false

/-- the bytes of a string -/
def byt (t : ByteArray) : List UInt8 := t.data.toList
theorem byt_len (t : ByteArray) : (byt t).length = t.size := (Lib.size_eq t).symm
theorem byt_at (t : ByteArray) (k : Nat) (h : k < t.size) : ∃ h', (byt t)[k]'h' = t[k] := ⟨by rw [byt_len]; exact h, rfl⟩
theorem byt_extract (t : ByteArray) (a b : Nat) : byt (t.extract a b) = ((byt t).take b).drop a := by
  unfold byt; rw [Lib.extract_data, List.drop_take]
theorem byt_drop (t : ByteArray) (k : Nat) (h : k < t.size) : (byt t).drop k = t[k] :: (byt t).drop (k + 1) := by
  obtain ⟨h', e⟩ := byt_at t k h
  exact List.drop_eq_getElem_cons h'
theorem byt_take (t : ByteArray) (k : Nat) (h : k < t.size) : (byt t).take (k + 1) = (byt t).take k ++ [t[k]] := by
  obtain ⟨h', e⟩ := byt_at t k h
  exact List.take_succ_eq_append_getElem h'
theorem byt_inj {s t : ByteArray} (h : byt s = byt t) : s = t := ByteArray.ext (Array.toList_inj.1 h)

/-- the parts of the bytes that follow, where cur is the part begun -/
def spl (b : UInt8) : List UInt8 → List UInt8 → List (List UInt8)
  | cur, [] => [cur]
  | cur, x :: r => if x = b then cur :: spl b [] r else spl b (cur ++ [x]) r
/-- .. after I bytes, the part begun at S -/
def splAt (b : UInt8) (t : ByteArray) (S I : Nat) : List (List UInt8) := spl b (((byt t).take I).drop S) ((byt t).drop I)
theorem splAt_zero (b : UInt8) (t : ByteArray) : splAt b t 0 0 = spl b [] (byt t) := rfl
theorem splAt_yes {b : UInt8} {t : ByteArray} {S I : Nat} (h : I < t.size) (hb : t[I] = b) : splAt b t S I = byt (t.extract S I) :: splAt b t (I + 1) (I + 1) := by
  unfold splAt
  rw [byt_drop t I h, spl, if_pos hb, byt_extract]
  congr 2
  rw [List.drop_eq_nil_of_le]; simp
  omega
theorem splAt_no {b : UInt8} {t : ByteArray} {S I : Nat} (h : I < t.size) (hs : S ≤ I) (hb : t[I] ≠ b) : splAt b t S I = splAt b t S (I + 1) := by
  unfold splAt
  rw [byt_drop t I h, spl, if_neg hb, byt_take t I h, List.drop_append_of_le_length]
  rw [List.length_take, byt_len]; omega
theorem splAt_end {b : UInt8} {t : ByteArray} {S I : Nat} (h : I = t.size) : splAt b t S I = [byt (t.extract S I)] := by
  unfold splAt
  have e : (byt t).drop I = [] := List.drop_eq_nil_of_le (by rw [byt_len]; omega)
  rw [e, byt_extract]; rfl
theorem spl_count (b : UInt8) : ∀ (r cur : List UInt8), (spl b cur r).length ≤ r.length + 1
  | [], cur => by simp [spl]
  | x :: r, cur => by
    unfold spl
    split
    · have := spl_count b r []; simp; omega
    · have := spl_count b r (cur ++ [x]); simp; omega
theorem u8_beq (x b : UInt8) (v : Int) (hv : v = (b.toNat : Int)) : ((x.toNat : Int) == v) = true ↔ x = b := by
  rw [hv, beq_iff_eq, Int.natCast_inj, UInt8.toNat_inj]
theorem u8_eq {x b : UInt8} {v : Int} (hv : v = (b.toNat : Int)) (h : x = b) : ((x.toNat : Int) == v) = true := (u8_beq x b v hv).2 h
theorem u8_ne {x b : UInt8} {v : Int} (hv : v = (b.toNat : Int)) (h : x ≠ b) : ((x.toNat : Int) == v) = false := by
  cases hb : ((x.toNat : Int) == v)
  · rfl
  · exact absurd ((u8_beq x b v hv).1 hb) h

theorem infoStr : (Tryd.prog.info? 9).map (fun i => (i.zero, i.size, i.bytes)) = some (some (.string ByteArray.empty), 1, 16) := by kernel_rfl
/-- append of one text to a row of texts of the call's own -/
theorem ap_str {ops : Array Oper} {rest : List Oper} {o : Oper} {a : Act} {Q : Exit → Act → World → Prop} {w0 : World} (hgd : o.guard = none) (s x : Operand)
    (ho : o.op = .call { callee := .builtin .append, args := #[s, x], argTypes := #[42, 42] })
    (B : Nat) (ad : Option Addr) (n c : Nat) (L : List ByteArray) (y : ByteArray) (hs : a.eval s = .slice ad n c) (hown : Row 9 w0 B ad n c (L.map Value.string))
    (hx : a.eval x = .slice (some ⟨w0.heap.size, 0, none⟩) 1 1) (hn : n < 1099511627776) (hB : B ≤ w0.heap.size)
    (h : ∀ ad' c' w', Row 9 w' B ad' (n + 1) c' ((L ++ [y]).map Value.string) → Below B w0 w' → wpList Tryd.prog ops Q rest (a.put o.dst (.slice ad' (n + 1 : Nat) c')) w') :
    wpList Tryd.prog ops Q (o :: rest) a (w0.alloc (.cells #[.string y] 9)) :=
  ap_row Tryd.underlying42 infoStr rfl hgd s x ho B ad n c _ _ hs hown hx rfl hn (by omega) hB fun ad' c' w' h1 h2 h3 => h ad' c' w' (by rw [List.map_append]; exact h1) h2
/-- a row of texts, new -/
def RetStrs (w : World) (L : List (List UInt8)) (e : Ending) (w' : World) : Prop :=
  ∃ ad n c, ∃ S : List ByteArray, e = .returned (.slice ad n c) ∧ Row 9 w' w.heap.size ad n c (S.map Value.string) ∧ S.map byt = L ∧ Below w.heap.size w w'

end Go.Proofs.YtbdnlncpamandaaDoor

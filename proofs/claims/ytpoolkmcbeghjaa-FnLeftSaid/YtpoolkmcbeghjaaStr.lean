/- Texts: parting at a byte, sets out of texts. Plain laws and contracts, the program's and the reference's. -/
import Derived.BigQuiet
import Derived.Lib.Strings
import Derived.Test.YtpoolkmcbeghjaaSet3
namespace Go.Proofs.Ytpoolkmcbeghjaa
open Go.RowKit
set_option linter.unusedSimpArgs false
set_option linter.unusedVariables false

/-- the bytes of a string -/
def byt (t : ByteArray) : List UInt8 := t.data.toList
theorem byt_len (t : ByteArray) : (byt t).length = t.size := (Lib.size_eq t).symm
theorem byt_at (t : ByteArray) (k : Nat) (h : k < t.size) : ∃ h', (byt t)[k]'h' = t[k] := ⟨by rw [byt_len]; exact h, rfl⟩
theorem byt_extract (t : ByteArray) (a b : Nat) : byt (t.extract a b) = ((byt t).take b).drop a := by
  unfold byt; rw [Lib.extract_data, List.drop_take]
theorem byt_drop (t : ByteArray) (k : Nat) (h : k < t.size) : (byt t).drop k = t[k] :: (byt t).drop (k + 1) := by
  obtain ⟨h', e⟩ := byt_at t k h
  exact List.drop_eq_getElem_cons h'
theorem byt_take (t : ByteArray) (k : Nat) (h : k < t.size) : (byt t).take (k + 1) = (byt t).take k ++ [t[k]] := by
  obtain ⟨h', e⟩ := byt_at t k h
  exact List.take_succ_eq_append_getElem h'
theorem byt_inj {s t : ByteArray} (h : byt s = byt t) : s = t := ByteArray.ext (Array.toList_inj.1 h)

/-- the parts of the bytes that follow, where cur is the part begun -/
def spl (b : UInt8) : List UInt8 → List UInt8 → List (List UInt8)
  | cur, [] => [cur]
  | cur, x :: r => if x = b then cur :: spl b [] r else spl b (cur ++ [x]) r
/-- .. after I bytes, the part begun at S -/
def splAt (b : UInt8) (t : ByteArray) (S I : Nat) : List (List UInt8) := spl b (((byt t).take I).drop S) ((byt t).drop I)
theorem splAt_zero (b : UInt8) (t : ByteArray) : splAt b t 0 0 = spl b [] (byt t) := rfl
theorem splAt_yes {b : UInt8} {t : ByteArray} {S I : Nat} (h : I < t.size) (hb : t[I] = b) : splAt b t S I = byt (t.extract S I) :: splAt b t (I + 1) (I + 1) := by
  unfold splAt
  rw [byt_drop t I h, spl, if_pos hb, byt_extract]
  congr 2
  rw [List.drop_eq_nil_of_le]; simp
  omega
theorem splAt_no {b : UInt8} {t : ByteArray} {S I : Nat} (h : I < t.size) (hs : S ≤ I) (hb : t[I] ≠ b) : splAt b t S I = splAt b t S (I + 1) := by
  unfold splAt
  rw [byt_drop t I h, spl, if_neg hb, byt_take t I h, List.drop_append_of_le_length]
  rw [List.length_take, byt_len]; omega
theorem splAt_end {b : UInt8} {t : ByteArray} {S I : Nat} (h : I = t.size) : splAt b t S I = [byt (t.extract S I)] := by
  unfold splAt
  have e : (byt t).drop I = [] := List.drop_eq_nil_of_le (by rw [byt_len]; omega)
  rw [e, byt_extract]; rfl
theorem spl_count (b : UInt8) : ∀ (r cur : List UInt8), (spl b cur r).length ≤ r.length + 1
  | [], cur => by simp [spl]
  | x :: r, cur => by
    unfold spl
    split
    · have := spl_count b r []; simp; omega
    · have := spl_count b r (cur ++ [x]); simp; omega
theorem u8_beq (x b : UInt8) (v : Int) (hv : v = (b.toNat : Int)) : ((x.toNat : Int) == v) = true ↔ x = b := by
  rw [hv, beq_iff_eq, Int.natCast_inj, UInt8.toNat_inj]
theorem u8_eq {x b : UInt8} {v : Int} (hv : v = (b.toNat : Int)) (h : x = b) : ((x.toNat : Int) == v) = true := (u8_beq x b v hv).2 h
theorem u8_ne {x b : UInt8} {v : Int} (hv : v = (b.toNat : Int)) (h : x ≠ b) : ((x.toNat : Int) == v) = false := by
  cases hb : ((x.toNat : Int) == v)
  · rfl
  · exact absurd ((u8_beq x b v hv).1 hb) h

theorem infoStr : (Try.prog.info? 9).map (fun i => (i.zero, i.size, i.bytes)) = some (some (.string ByteArray.empty), 1, 16) := by kernel_rfl
/-- append of one text to a row of texts of the call's own -/
theorem ap_str {ops : Array Oper} {rest : List Oper} {o : Oper} {a : Act} {Q : Exit → Act → World → Prop} {w0 : World} (hgd : o.guard = none) (s x : Operand)
    (ho : o.op = .call { callee := .builtin .append, args := #[s, x], argTypes := #[55, 55] })
    (B : Nat) (ad : Option Addr) (n c : Nat) (L : List ByteArray) (y : ByteArray) (hs : a.eval s = .slice ad n c) (hown : Row 9 w0 B ad n c (L.map Value.string))
    (hx : a.eval x = .slice (some ⟨w0.heap.size, 0, none⟩) 1 1) (hn : n < 1099511627776) (hB : B ≤ w0.heap.size)
    (h : ∀ ad' c' w', Row 9 w' B ad' (n + 1) c' ((L ++ [y]).map Value.string) → Below B w0 w' → wpList Try.prog ops Q rest (a.put o.dst (.slice ad' (n + 1 : Nat) c')) w') :
    wpList Try.prog ops Q (o :: rest) a (w0.alloc (.cells #[.string y] 9)) :=
  ap_row Try.underlying55 infoStr rfl hgd s x ho B ad n c _ _ hs hown hx rfl hn (by omega) hB fun ad' c' w' h1 h2 h3 => h ad' c' w' (by rw [List.map_append]; exact h1) h2
/-- a row of texts, new -/
def RetStrs (w : World) (L : List (List UInt8)) (e : Ending) (w' : World) : Prop :=
  ∃ ad n c, ∃ S : List ByteArray, e = .returned (.slice ad n c) ∧ Row 9 w' w.heap.size ad n c (S.map Value.string) ∧ S.map byt = L ∧ Below w.heap.size w w'

set_option maxHeartbeats 400000 in
theorem iSplit_any (t : ByteArray) (b : UInt8) (v : Int) (hv : v = (b.toNat : Int)) (w : World) (ht : t.size ≤ 1048576) :
    Calls Try.prog 53 #[.string t, .int .u8 v] w (RetStrs w (spl b [] (byt t))) := by
  have HV := Lib.hid hv; clear hv
  go_enter Try.func53, Try.ntmps53
  go_wp2_with fail
  go_loopw [5, 6, 7] (fun o s i wr => ∃ (S I : Nat) (L : List ByteArray), S ≤ I ∧ I ≤ t.size ∧ i = .int .i64 I ∧ s = .int .i64 S ∧ Hid (spl b [] (byt t) = L.map byt ++ splAt b t S I) ∧ Below w.heap.size w wr ∧ ∃ ad k d, o = .slice ad k d ∧ k ≤ I ∧ Row 9 wr w.heap.size ad k d (L.map Value.string)) (fun _ _ i _ => t.size - (intOf i).toNat)
  case atStart => exact ⟨0, 0, [], Nat.le_refl _, Nat.zero_le _, rfl, rfl, Lib.hid rfl, Below.refl _ _, none, 0, 0, rfl, Nat.le_refl _, Row.nil _ _ _⟩
  case round =>
    obtain ⟨S, I, L, hS, hI, rfl, rfl, hL, hbr, ad, k, d, rfl, hk, hrow⟩ := hrel
    have HBr := Lib.hid hbr; have HR := Lib.hid hrow
    have hzr : w.heap.size ≤ wr.heap.size := hbr.size
    clear hbr hrow
    by_cases hlt : I < t.size
    · by_cases hb : t[I] = b
      · have hq := u8_eq HV.out hb
        have Hy := Lib.hid (splAt_yes (S := S) hlt hb)
        clear hb
        go_wp2_with (at_builtin; refine ap_str rfl _ _ rfl w.heap.size _ _ _ _ _ rfl HR.out rfl (by omega) hzr ?_; intro ad5 d5 w5 hrow5 hb5; have HR5 := Lib.hid hrow5; have HB5 := Lib.hid (HBr.out.trans hb5); clear hrow5 hb5)
        go_roundw
        case rel => exact ⟨I + 1, I + 1, _, by omega, by omega, by go_num, by go_num, Lib.hid (by rw [hL.out, Hy.out]; simp), HB5.out, ad5, k + 1, d5, rfl, by omega, HR5.out⟩
        case measure => simp [intOf]; omega
      · have hq := u8_ne HV.out hb
        have Hn := Lib.hid (splAt_no hlt hS hb)
        clear hb
        go_wp2_with fail
        go_roundw
        case rel => exact ⟨S, I + 1, L, by omega, by omega, by go_num, rfl, Lib.hid (by rw [hL.out, Hn.out]), HBr.out, ad, k, d, rfl, by omega, HR.out⟩
        case measure => simp [intOf]; omega
    · obtain rfl : I = t.size := by omega
      have He := Lib.hid (splAt_end (b := b) (t := t) (S := S) rfl)
      go_wp2_with (at_builtin; refine ap_str rfl _ _ rfl w.heap.size _ _ _ _ _ rfl HR.out rfl (by omega) hzr ?_; intro ad5 d5 w5 hrow5 hb5; have HR5 := Lib.hid hrow5; have HB5 := Lib.hid (HBr.out.trans hb5); clear hrow5 hb5)
      go_ret
      exact ⟨ad5, k + 1, d5, _, rfl, HR5.out, by rw [hL.out, He.out]; simp, HB5.out⟩
set_option maxHeartbeats 400000 in
theorem sSplit_any (t : ByteArray) (b : UInt8) (v : Int) (hv : v = (b.toNat : Int)) (w : World) (ht : t.size ≤ 1048576) :
    Calls Try.prog 48 #[.string t, .int .u8 v] w (RetStrs w (spl b [] (byt t))) := by
  have HV := Lib.hid hv; clear hv
  have HE : Hid (Row 9 (w.alloc (.cells #[] 9)) w.heap.size (some ⟨w.heap.size, 0, none⟩) 0 0 (([] : List ByteArray).map Value.string)) := Lib.hid ⟨rfl, World.ownsRow_made w #[] 0 (Nat.le_refl _) (by decide) (by simp)⟩
  go_enter Try.func48, Try.ntmps48
  go_wp2_with fail
  go_loopw [5, 6, 7] (fun o s i wr => ∃ (S I : Nat) (L : List ByteArray), I ≤ t.size + 1 ∧ i = .int .i64 I ∧ s = .int .i64 S ∧ ((S ≤ I ∧ I ≤ t.size ∧ Hid (spl b [] (byt t) = L.map byt ++ splAt b t S I)) ∨ (I = t.size + 1 ∧ Hid (spl b [] (byt t) = L.map byt))) ∧ Below w.heap.size w wr ∧ ∃ ad k d, o = .slice ad k d ∧ k ≤ I ∧ Row 9 wr w.heap.size ad k d (L.map Value.string)) (fun _ _ i _ => t.size + 1 - (intOf i).toNat)
  case atStart => exact ⟨0, 0, [], Nat.zero_le _, rfl, rfl, .inl ⟨Nat.zero_le _, Nat.zero_le _, Lib.hid rfl⟩, (by repeat (first | exact Below.refl _ _ | assumption | refine Below.setCell ?_ (by first | omega | (simp; done) | (simp; omega)) _ | refine Below.alloc ?_ (by first | omega | (simp; done) | (simp; omega)) _ | apply Below.drew)), _, 0, 0, rfl, Nat.le_refl _, HE.out⟩
  case round =>
    obtain ⟨S, I, L, hI, rfl, rfl, hL, hbr, ad, k, d, rfl, hk, hrow⟩ := hrel
    have HBr := Lib.hid hbr; have HR := Lib.hid hrow
    have hzr : w.heap.size ≤ wr.heap.size := hbr.size
    clear hbr hrow
    rcases hL with ⟨hS, hI, hL⟩ | ⟨hI, hL⟩
    · by_cases hlt : I < t.size
      · have hle : (I : Int) ≤ t.size := by omega
        have hne : ((I : Int) == t.size) = false := by simp; omega
        by_cases hb : t[I] = b
        · have hq := u8_eq HV.out hb
          have Hy := Lib.hid (splAt_yes (S := S) hlt hb)
          clear hb
          go_wp2_with (at_builtin; refine ap_str rfl _ _ rfl w.heap.size _ _ _ _ _ rfl HR.out rfl (by omega) hzr ?_; intro ad5 d5 w5 hrow5 hb5; have HR5 := Lib.hid hrow5; have HB5 := Lib.hid (HBr.out.trans hb5); clear hrow5 hb5)
          go_roundw
          case rel => exact ⟨I + 1, I + 1, _, by omega, by go_num, by go_num, .inl ⟨by omega, by omega, Lib.hid (by rw [hL.out, Hy.out]; simp)⟩, HB5.out, ad5, k + 1, d5, rfl, by omega, HR5.out⟩
          case measure => simp [intOf]; omega
        · have hq := u8_ne HV.out hb
          have Hn := Lib.hid (splAt_no hlt hS hb)
          clear hb
          go_wp2_with fail
          go_roundw
          case rel => exact ⟨S, I + 1, L, by omega, by go_num, rfl, .inl ⟨by omega, by omega, Lib.hid (by rw [hL.out, Hn.out])⟩, HBr.out, ad, k, d, rfl, by omega, HR.out⟩
          case measure => simp [intOf]; omega
      · obtain rfl : I = t.size := by omega
        have He := Lib.hid (splAt_end (b := b) (t := t) (S := S) rfl)
        go_wp2_with (at_builtin; refine ap_str rfl _ _ rfl w.heap.size _ _ _ _ _ rfl HR.out rfl (by omega) hzr ?_; intro ad5 d5 w5 hrow5 hb5; have HR5 := Lib.hid hrow5; have HB5 := Lib.hid (HBr.out.trans hb5); clear hrow5 hb5)
        go_roundw
        case rel => exact ⟨t.size + 1, t.size + 1, _, by omega, by go_num, by go_num, .inr ⟨rfl, Lib.hid (by rw [hL.out, He.out]; simp)⟩, HB5.out, ad5, k + 1, d5, rfl, by omega, HR5.out⟩
        case measure => simp [intOf]
    · subst hI
      have hle : ¬ (((t.size + 1 : Nat) : Int) ≤ t.size) := by omega
      go_wp2_with fail
      go_ret
      exact ⟨ad, k, d, _, rfl, HR.out, hL.out.symm, HBr.out⟩
end Go.Proofs.Ytpoolkmcbeghjaa

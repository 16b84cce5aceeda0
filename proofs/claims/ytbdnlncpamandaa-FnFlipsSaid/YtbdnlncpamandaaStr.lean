/- Texts of this claim, one behind the other: what each says stands at its head. -/
import Derived.BigQuiet
import Derived.Lib.Strings
import Derived.Test.YtbdnlncpamandaaCore
import Derived.Test.YtbdnlncpamandaaSet3
/- Texts: parting at a byte, sets out of texts. Plain laws and contracts, the program's and the reference's. -/
namespace Go.Proofs.Ytbdnlncpamandaa
set_option maxRecDepth 20000
open Go.RowKit
set_option linter.unusedSimpArgs false
set_option linter.unusedVariables false

/-- the bytes of a string -/
def byt (t : ByteArray) : List UInt8 := t.data.toList
theorem byt_len (t : ByteArray) : (byt t).length = t.size := (Lib.size_eq t).symm
theorem byt_at (t : ByteArray) (k : Nat) (h : k < t.size) : ∃ h', (byt t)[k]'h' = t[k] := ⟨by rw [byt_len]; exact h, rfl⟩
theorem byt_extract (t : ByteArray) (a b : Nat) : byt (t.extract a b) = ((byt t).take b).drop a := by
  unfold byt; rw [Lib.extract_data, List.drop_take]
theorem byt_drop (t : ByteArray) (k : Nat) (h : k < t.size) : (byt t).drop k = t[k] :: (byt t).drop (k + 1) := by
  obtain ⟨h', e⟩ := byt_at t k h
  exact List.drop_eq_getElem_cons h'
theorem byt_take (t : ByteArray) (k : Nat) (h : k < t.size) : (byt t).take (k + 1) = (byt t).take k ++ [t[k]] := by
  obtain ⟨h', e⟩ := byt_at t k h
  exact List.take_succ_eq_append_getElem h'
theorem byt_inj {s t : ByteArray} (h : byt s = byt t) : s = t := ByteArray.ext (Array.toList_inj.1 h)

/-- the parts of the bytes that follow, where cur is the part begun -/
def spl (b : UInt8) : List UInt8 → List UInt8 → List (List UInt8)
  | cur, [] => [cur]
  | cur, x :: r => if x = b then cur :: spl b [] r else spl b (cur ++ [x]) r
/-- .. after I bytes, the part begun at S -/
def splAt (b : UInt8) (t : ByteArray) (S I : Nat) : List (List UInt8) := spl b (((byt t).take I).drop S) ((byt t).drop I)
theorem splAt_zero (b : UInt8) (t : ByteArray) : splAt b t 0 0 = spl b [] (byt t) := rfl
theorem splAt_yes {b : UInt8} {t : ByteArray} {S I : Nat} (h : I < t.size) (hb : t[I] = b) : splAt b t S I = byt (t.extract S I) :: splAt b t (I + 1) (I + 1) := by
  unfold splAt
  rw [byt_drop t I h, spl, if_pos hb, byt_extract]
  congr 2
  rw [List.drop_eq_nil_of_le]; simp
  omega
theorem splAt_no {b : UInt8} {t : ByteArray} {S I : Nat} (h : I < t.size) (hs : S ≤ I) (hb : t[I] ≠ b) : splAt b t S I = splAt b t S (I + 1) := by
  unfold splAt
  rw [byt_drop t I h, spl, if_neg hb, byt_take t I h, List.drop_append_of_le_length]
  rw [List.length_take, byt_len]; omega
theorem splAt_end {b : UInt8} {t : ByteArray} {S I : Nat} (h : I = t.size) : splAt b t S I = [byt (t.extract S I)] := by
  unfold splAt
  have e : (byt t).drop I = [] := List.drop_eq_nil_of_le (by rw [byt_len]; omega)
  rw [e, byt_extract]; rfl
theorem spl_count (b : UInt8) : ∀ (r cur : List UInt8), (spl b cur r).length ≤ r.length + 1
  | [], cur => by simp [spl]
  | x :: r, cur => by
    unfold spl
    split
    · have := spl_count b r []; simp; omega
    · have := spl_count b r (cur ++ [x]); simp; omega
theorem u8_beq (x b : UInt8) (v : Int) (hv : v = (b.toNat : Int)) : ((x.toNat : Int) == v) = true ↔ x = b := by
  rw [hv, beq_iff_eq, Int.natCast_inj, UInt8.toNat_inj]
theorem u8_eq {x b : UInt8} {v : Int} (hv : v = (b.toNat : Int)) (h : x = b) : ((x.toNat : Int) == v) = true := (u8_beq x b v hv).2 h
theorem u8_ne {x b : UInt8} {v : Int} (hv : v = (b.toNat : Int)) (h : x ≠ b) : ((x.toNat : Int) == v) = false := by
  cases hb : ((x.toNat : Int) == v)
  · rfl
  · exact absurd ((u8_beq x b v hv).1 hb) h

theorem infoStr : (Try.prog.info? 9).map (fun i => (i.zero, i.size, i.bytes)) = some (some (.string ByteArray.empty), 1, 16) := by kernel_rfl
/-- append of one text to a row of texts of the call's own -/
theorem ap_str {ops : Array Oper} {rest : List Oper} {o : Oper} {a : Act} {Q : Exit → Act → World → Prop} {w0 : World} (hgd : o.guard = none) (s x : Operand)
    (ho : o.op = .call { callee := .builtin .append, args := #[s, x], argTypes := #[109, 109] })
    (B : Nat) (ad : Option Addr) (n c : Nat) (L : List ByteArray) (y : ByteArray) (hs : a.eval s = .slice ad n c) (hown : Row 9 w0 B ad n c (L.map Value.string))
    (hx : a.eval x = .slice (some ⟨w0.heap.size, 0, none⟩) 1 1) (hn : n < 1099511627776) (hB : B ≤ w0.heap.size)
    (h : ∀ ad' c' w', Row 9 w' B ad' (n + 1) c' ((L ++ [y]).map Value.string) → Below B w0 w' → wpList Try.prog ops Q rest (a.put o.dst (.slice ad' (n + 1 : Nat) c')) w') :
    wpList Try.prog ops Q (o :: rest) a (w0.alloc (.cells #[.string y] 9)) :=
  ap_row Try.underlying109 infoStr rfl hgd s x ho B ad n c _ _ hs hown hx rfl hn (by omega) hB fun ad' c' w' h1 h2 h3 => h ad' c' w' (by rw [List.map_append]; exact h1) h2
/-- a row of texts, new -/
def RetStrs (w : World) (L : List (List UInt8)) (e : Ending) (w' : World) : Prop :=
  ∃ ad n c, ∃ S : List ByteArray, e = .returned (.slice ad n c) ∧ Row 9 w' w.heap.size ad n c (S.map Value.string) ∧ S.map byt = L ∧ Below w.heap.size w w'

set_option maxHeartbeats 400000 in
theorem sSplit_any (t : ByteArray) (b : UInt8) (v : Int) (hv : v = (b.toNat : Int)) (w : World) (ht : t.size ≤ 1048576) :
    Calls Try.prog 142 #[.string t, .int .u8 v] w (RetStrs w (spl b [] (byt t))) := by
  have HV := Lib.hid hv; clear hv
  have HE : Hid (Row 9 (w.alloc (.cells #[] 9)) w.heap.size (some ⟨w.heap.size, 0, none⟩) 0 0 (([] : List ByteArray).map Value.string)) := Lib.hid ⟨rfl, World.ownsRow_made w #[] 0 (Nat.le_refl _) (by decide) (by simp)⟩
  go_enter Try.func142, Try.ntmps142
  go_wp2_with fail
  go_loopw [5, 6, 7] (fun o s i wr => ∃ (S I : Nat) (L : List ByteArray), I ≤ t.size + 1 ∧ i = .int .i64 I ∧ s = .int .i64 S ∧ ((S ≤ I ∧ I ≤ t.size ∧ Hid (spl b [] (byt t) = L.map byt ++ splAt b t S I)) ∨ (I = t.size + 1 ∧ Hid (spl b [] (byt t) = L.map byt))) ∧ Below w.heap.size w wr ∧ ∃ ad k d, o = .slice ad k d ∧ k ≤ I ∧ Row 9 wr w.heap.size ad k d (L.map Value.string)) (fun _ _ i _ => t.size + 1 - (intOf i).toNat)
  case atStart => exact ⟨0, 0, [], Nat.zero_le _, rfl, rfl, .inl ⟨Nat.zero_le _, Nat.zero_le _, Lib.hid rfl⟩, (by repeat (first | exact Below.refl _ _ | assumption | refine Below.setCell ?_ (by first | omega | (simp; done) | (simp; omega)) _ | refine Below.alloc ?_ (by first | omega | (simp; done) | (simp; omega)) _ | apply Below.drew)), _, 0, 0, rfl, Nat.le_refl _, HE.out⟩
  case round =>
    obtain ⟨S, I, L, hI, rfl, rfl, hL, hbr, ad, k, d, rfl, hk, hrow⟩ := hrel
    have HBr := Lib.hid hbr; have HR := Lib.hid hrow
    have hzr : w.heap.size ≤ wr.heap.size := hbr.size
    clear hbr hrow
    rcases hL with ⟨hS, hI, hL⟩ | ⟨hI, hL⟩
    · by_cases hlt : I < t.size
      · have hle : (I : Int) ≤ t.size := by omega
        have hne : ((I : Int) == t.size) = false := by simp; omega
        by_cases hb : t[I] = b
        · have hq := u8_eq HV.out hb
          have Hy := Lib.hid (splAt_yes (S := S) hlt hb)
          clear hb
          go_wp2_with (at_builtin; refine ap_str rfl _ _ rfl w.heap.size _ _ _ _ _ rfl HR.out rfl (by omega) hzr ?_; intro ad5 d5 w5 hrow5 hb5; have HR5 := Lib.hid hrow5; have HB5 := Lib.hid (HBr.out.trans hb5); clear hrow5 hb5)
          go_roundw
          case rel => exact ⟨I + 1, I + 1, _, by omega, by go_num, by go_num, .inl ⟨by omega, by omega, Lib.hid (by rw [hL.out, Hy.out]; simp)⟩, HB5.out, ad5, k + 1, d5, rfl, by omega, HR5.out⟩
          case measure => simp [intOf]; omega
        · have hq := u8_ne HV.out hb
          have Hn := Lib.hid (splAt_no hlt hS hb)
          clear hb
          go_wp2_with fail
          go_roundw
          case rel => exact ⟨S, I + 1, L, by omega, by go_num, rfl, .inl ⟨by omega, by omega, Lib.hid (by rw [hL.out, Hn.out])⟩, HBr.out, ad, k, d, rfl, by omega, HR.out⟩
          case measure => simp [intOf]; omega
      · obtain rfl : I = t.size := by omega
        have He := Lib.hid (splAt_end (b := b) (t := t) (S := S) rfl)
        go_wp2_with (at_builtin; refine ap_str rfl _ _ rfl w.heap.size _ _ _ _ _ rfl HR.out rfl (by omega) hzr ?_; intro ad5 d5 w5 hrow5 hb5; have HR5 := Lib.hid hrow5; have HB5 := Lib.hid (HBr.out.trans hb5); clear hrow5 hb5)
        go_roundw
        case rel => exact ⟨t.size + 1, t.size + 1, _, by omega, by go_num, by go_num, .inr ⟨rfl, Lib.hid (by rw [hL.out, He.out]; simp)⟩, HB5.out, ad5, k + 1, d5, rfl, by omega, HR5.out⟩
        case measure => simp [intOf]
    · subst hI
      have hle : ¬ (((t.size + 1 : Nat) : Int) ≤ t.size) := by omega
      go_wp2_with fail
      go_ret
      exact ⟨ad, k, d, _, rfl, HR.out, hL.out.symm, HBr.out⟩
end Go.Proofs.Ytbdnlncpamandaa

/- A set out of a text: plain law, and contracts of ParseSet, the program's and the reference's. -/
namespace Go.Proofs.Ytbdnlncpamandaa
set_option maxRecDepth 20000
open Go.RowKit
set_option linter.unusedSimpArgs false
set_option linter.unusedVariables false

/-- the byte at k -/
def bn (l : List UInt8) (k : Nat) : Nat := (l.getD k 0).toNat
theorem bn_at (t : ByteArray) (k : Nat) (h : k < t.size) : bn (byt t) k = t[k].toNat := by
  obtain ⟨h', e⟩ := byt_at t k h
  unfold bn
  rw [List.getD_eq_getElem?_getD, List.getElem?_eq_getElem h', e]; rfl
/-- the set of the first k letters, if they are letters that rise -/
def psTo (l : List UInt8) : Nat → Option Nat
  | 0 => some 0
  | k + 1 => match psTo l k with
    | none => none
    | some s => if 97 ≤ bn l k ∧ bn l k ≤ 102 ∧ s < 2 ^ (bn l k - 97) then some (s + 2 ^ (bn l k - 97)) else none
/-- the set of a text -/
def psv (l : List UInt8) : Option Nat := if l = [45] then some 0 else if l = [] then none else psTo l l.length
theorem psTo_no {l : List UInt8} {k : Nat} (h : psTo l k = none) : ∀ d, psTo l (k + d) = none := by
  intro d
  induction d with
  | zero => exact h
  | succ d ih => rw [← Nat.add_assoc, psTo, ih]
theorem psTo_stop {l : List UInt8} {k : Nat} (h : psTo l (k + 1) = none) (hk : k < l.length) : psTo l l.length = none := by
  have := psTo_no h (l.length - (k + 1))
  rwa [show k + 1 + (l.length - (k + 1)) = l.length by omega] at this
theorem psTo_yes {l : List UInt8} {k s : Nat} (h : psTo l k = some s) (h1 : 97 ≤ bn l k) (h2 : bn l k ≤ 102) (h3 : s < 2 ^ (bn l k - 97)) : psTo l (k + 1) = some (s + 2 ^ (bn l k - 97)) := by
  rw [psTo, h]; simp only []; rw [if_pos ⟨h1, h2, h3⟩]
theorem psTo_not {l : List UInt8} {k s : Nat} (h : psTo l k = some s) (hn : ¬ (97 ≤ bn l k ∧ bn l k ≤ 102 ∧ s < 2 ^ (bn l k - 97))) : psTo l (k + 1) = none := by
  rw [psTo, h]; simp only []; rw [if_neg hn]
theorem psTo_top {l : List UInt8} {k s : Nat} (h : psTo l (k + 1) = some s) : 97 ≤ bn l k ∧ bn l k ≤ 102 ∧ 2 ^ (bn l k - 97) ≤ s ∧ s < 2 ^ (bn l k - 97 + 1) := by
  rw [psTo] at h
  split at h
  · cases h
  · split at h
    · next hc =>
      cases h
      refine ⟨hc.1, hc.2.1, by omega, ?_⟩
      have := hc.2.2
      rw [Nat.pow_succ]; omega
    · cases h
theorem psTo_big {l : List UInt8} : ∀ {k s : Nat}, psTo l k = some s → 2 ^ k ≤ s + 1 ∧ s < 64 := by
  intro k
  induction k with
  | zero => intro s h; cases h; simp
  | succ k ih =>
    intro s h
    have ht := psTo_top h
    rw [psTo] at h
    split at h
    · cases h
    · next s0 h0 =>
      split at h
      · next hc =>
        cases h
        have h1 := (ih h0).1
        have h2 := hc.2.2
        refine ⟨by rw [Nat.pow_succ]; omega, ?_⟩
        have : 2 ^ (bn l k - 97 + 1) ≤ 2 ^ 6 := Nat.pow_le_pow_right (by omega) (by omega)
        omega
      · cases h
theorem psTo_long {l : List UInt8} {k : Nat} (h : 6 < k) : psTo l k = none := by
  cases hp : psTo l k with
  | none => rfl
  | some s =>
    have h1 := psTo_big hp
    have h2 : 2 ^ 7 ≤ 2 ^ k := Nat.pow_le_pow_right (by omega) h
    omega
/-- the next letter is higher -/
theorem psTo_rise {l : List UInt8} {k s : Nat} (h : psTo l (k + 1) = some s) (h2 : bn l (k + 1) ≤ 102) : s < 2 ^ (bn l (k + 1) - 97) ↔ bn l k < bn l (k + 1) := by
  obtain ⟨a1, a2, a3, a4⟩ := psTo_top h
  constructor
  · intro hs
    have := (Nat.pow_lt_pow_iff_right (a := 2) (by omega)).1 (Nat.lt_of_le_of_lt a3 hs)
    omega
  · intro hb
    exact Nat.lt_of_lt_of_le a4 (Nat.pow_le_pow_right (by omega) (by omega))
theorem or_add {s k : Nat} (h : s < 2 ^ k) (hk : k < 6) : s ||| 2 ^ k = s + 2 ^ k := by
  have hs : s < 64 := Nat.lt_of_lt_of_le h (show 2 ^ k ≤ 2 ^ 6 from Nat.pow_le_pow_right (by omega) (by omega))
  have : ∀ k < 6, ∀ s < 2 ^ k, s ||| 2 ^ k = s + 2 ^ k := by decide +kernel
  exact this k hk s h
theorem psv_dash : psv [45] = some 0 := rfl
theorem psv_lt {l : List UInt8} {s : Nat} (h : psv l = some s) : s < 64 := by
  unfold psv at h
  split at h
  · cases h; omega
  · split at h
    · cases h
    · exact (psTo_big h).2
theorem psv_none {l : List UInt8} (h0 : l ≠ [45]) (h : psTo l l.length = none) : psv l = none := by
  unfold psv; rw [if_neg h0]; split
  · rfl
  · exact h
theorem psv_some {l : List UInt8} (h0 : l ≠ [45]) (h1 : l ≠ []) : psv l = psTo l l.length := by
  unfold psv; rw [if_neg h0, if_neg h1]
/-- what ParseSet returns -/
def RetO (o : Option Nat) (w : World) (e : Ending) (w' : World) : Prop := e = .returned (.tuple #[.int .i64 ((o.getD 0 : Nat) : Int), .bool o.isSome]) ∧ Below w.heap.size w w'
def dashS : ByteArray := { data := #[45] }
theorem dash_iff (t : ByteArray) : t = dashS ↔ byt t = [45] := ⟨fun h => by rw [h]; rfl, fun h => byt_inj h⟩
theorem empty_iff (t : ByteArray) : t.size = 0 ↔ byt t = [] := by rw [← byt_len, List.length_eq_zero_iff]

set_option maxHeartbeats 1000000 in
theorem sPset_any (t : ByteArray) (w : World) (ht : t.size ≤ 1048576) :
    Calls Try.prog 144 #[.string t] w (RetO (psv (byt t)) w) := by
  obtain ⟨V, hV⟩ : ∃ V, V = psv (byt t) := ⟨_, rfl⟩
  rw [← hV]
  have HV := Lib.hid hV; clear hV
  by_cases h0 : t = dashS
  · have hVe : V = some 0 := by rw [HV.out, (dash_iff t).1 h0]; rfl
    subst hVe
    subst h0
    clear ht HV
    unfold dashS
    go_enter Try.func144, Try.ntmps144
    go_wp2_with fail
    go_loop [4, 5] (fun s i => s = .int .i64 0 ∧ i = .int .i64 0) (fun _ i => 0)
    case atStart => exact ⟨rfl, rfl⟩
    case round =>
      obtain ⟨rfl, rfl⟩ := hrel
      go_wp2_with fail
      go_ret2
      exact ⟨rfl, Below.refl _ _⟩
  · have hd : (t.toList == [45]) = false := by
      rw [Lib.toList_data]; exact beq_eq_false_iff_ne.2 fun e => h0 ((dash_iff t).2 e)
    have hd2 : (t.toList != [45]) = true := by rw [bne, hd]; rfl
    have Hd0 : Hid (byt t ≠ [45]) := Lib.hid fun e => h0 ((dash_iff t).2 e)
    clear h0
    by_cases hz : t.size = 0
    · have hVe : V = none := by rw [HV.out, (empty_iff t).1 hz]; rfl
      subst hVe
      obtain rfl : t = ByteArray.empty := byt_inj ((empty_iff t).1 hz)
      clear hz HV Hd0 hd hd2
      go_enter Try.func144, Try.ntmps144
      go_wp2_with fail
      go_loop [4, 5] (fun s i => s = .int .i64 0 ∧ i = .int .i64 0) (fun _ i => 0)
      case atStart => exact ⟨rfl, rfl⟩
      case round =>
        obtain ⟨rfl, rfl⟩ := hrel
        go_wp2_with fail
        go_ret2
        exact ⟨rfl, Below.refl _ _⟩
    · have hVp : Hid (V = psTo (byt t) t.size) := Lib.hid (by rw [HV.out, psv_some Hd0.out (fun e => hz ((empty_iff t).2 e)), byt_len])
      have Hlen := Lib.hid (byt_len t)
      have he : (t.toList != []) = true := by
        rw [bne_iff_ne, Lib.toList_data]; exact fun e => hz ((empty_iff t).2 e)
      have hem : t.toList.isEmpty = false := by
        cases hb : t.toList.isEmpty
        · rfl
        · rw [List.isEmpty_iff, Lib.toList_data] at hb; exact absurd ((empty_iff t).2 hb) hz
      clear HV Hd0 hz
      go_enter Try.func144, Try.ntmps144
      go_wp2_with fail
      go_loop [4, 5, 6] (fun s i _ => ∃ I S : Nat, I ≤ t.size ∧ i = .int .i64 I ∧ s = .int .i64 S ∧ S < 64 ∧ Hid (psTo (byt t) I = some S)) (fun _ i _ => t.size - (intOf i).toNat)
      case atStart => exact ⟨0, 0, Nat.zero_le _, rfl, rfl, by omega, Lib.hid rfl⟩
      case round =>
        obtain ⟨I, S, hI, rfl, rfl, hS, hp⟩ := hrel
        by_cases hlt : I < t.size
        · have Hx := Lib.hid (bn_at t I hlt)
          by_cases hr : 97 ≤ t[I].toNat ∧ t[I].toNat ≤ 102
          · obtain ⟨h97, h102⟩ := hr
            obtain ⟨y, hy⟩ : ∃ y, y = t[I].toNat - 97 := ⟨_, rfl⟩
            have hty : t[I].toNat = y + 97 := by omega
            have hy6 : y < 6 := by omega
            have Hy : Hid (bn (byt t) I = y + 97) := Lib.hid (by rw [Hx.out, hty])
            have hw64 : IntKind.u64.wrap (y : Int) = (y : Int) := by rw [IntKind.wrap_u64]; omega
            have hm64 : min y 64 = y := by omega
            have hm63 : min y 63 = y := by omega
            clear hy
            by_cases hs : S < 2 ^ y
            · have hdiv : (S : Int) / 2 ^ y = 0 := by
                have e : ((S : Int) / 2 ^ y) = ((S / 2 ^ y : Nat) : Int) := by norm_cast
                rw [e, Nat.div_eq_of_lt hs]; rfl
              have h1 := psTo_yes hp.out (by rw [Hy.out]; omega) (by rw [Hy.out]; omega) (by rw [Hy.out]; simpa using hs)
              rw [Hy.out, Nat.add_sub_cancel] at h1
              have hS2 := (psTo_big h1).2
              obtain ⟨S2, hS2e⟩ : ∃ S2, S2 = S + 2 ^ y := ⟨_, rfl⟩
              rw [← hS2e] at h1 hS2
              have hsum : wrap64 ((S : Int) + 2 ^ y) = (S2 : Int) := by
                have e : ((S : Int) + 2 ^ y) = ((S + 2 ^ y : Nat) : Int) := by norm_cast
                rw [e, ← hS2e]; unfold wrap64; omega
              have hw2 : wrap64 ((2 : Int) ^ y) = 2 ^ y := by
                have e : ((2 : Int) ^ y) = ((2 ^ y : Nat) : Int) := by norm_cast
                have h : 2 ^ y < 2 ^ 6 := Nat.pow_lt_pow_right (by omega) hy6
                rw [e]
                generalize 2 ^ y = q at h
                unfold wrap64; omega
              have H1 := Lib.hid h1
              clear h1 hS2e hs
              go_wp2_with (go_at_call 72; (with_reducible refine (l1In_yes (y : Int) 0 5 _ (by omega) (by omega)).mono ?_); rintro e w' ⟨rfl, rfl⟩)
              go_round
              case rel => exact ⟨I + 1, S2, by omega, by go_num, by first | rfl | go_num | (rw [← hsum]; rfl) | (rw [hw2, hsum]), hS2, H1⟩
              case measure => simp [intOf]; omega
            · have hVe : V = none := by
                rw [hVp.out, ← Hlen.out]; exact psTo_stop (k := I) (psTo_not hp.out (fun h => hs (by have := h.2.2; rw [Hy.out] at this; simpa using this))) (by rw [Hlen.out]; exact hlt)
              have hdiv : ((S : Int) / 2 ^ y != 0) = true := by
                have e : ((S : Int) / 2 ^ y) = ((S / 2 ^ y : Nat) : Int) := by norm_cast
                have : 0 < S / 2 ^ y := Nat.div_pos (by omega) (Nat.pow_pos (by omega))
                rw [e, bne_iff_ne]; omega
              subst hVe
              clear hs
              go_wp2_with (go_at_call 72; (with_reducible refine (l1In_yes (y : Int) 0 5 _ (by omega) (by omega)).mono ?_); rintro e w' ⟨rfl, rfl⟩)
              go_ret2
              exact ⟨rfl, Below.refl _ _⟩
          · have hVe : V = none := by
              rw [hVp.out, ← Hlen.out]; exact psTo_stop (k := I) (psTo_not hp.out (fun h => hr (by rw [Hx.out] at h; exact ⟨h.1, h.2.1⟩))) (by rw [Hlen.out]; exact hlt)
            subst hVe
            obtain ⟨x, hx⟩ : ∃ x, x = t[I].toNat := ⟨_, rfl⟩
            have hx256 : x < 256 := by rw [hx]; exact UInt8.toNat_lt _
            rw [← hx] at hr
            have hx' := hx.symm
            have hno : ¬ (0 ≤ (x : Int) - 97 ∧ (x : Int) - 97 ≤ 5) := by omega
            have Hno := Lib.hid hno
            clear hx hr hno
            go_wp2_with (go_at_call 72; (with_reducible refine (l1In_no _ 0 5 _ Hno.out).mono ?_); rintro e w' ⟨rfl, rfl⟩)
            go_ret2
            exact ⟨rfl, Below.refl _ _⟩
        · obtain rfl : I = t.size := by omega
          have hVe : V = some S := by rw [hVp.out]; exact hp.out
          subst hVe
          go_wp2_with fail
          go_ret2
          exact ⟨rfl, Below.refl _ _⟩
end Go.Proofs.Ytbdnlncpamandaa

/- Parsing an order: plain laws about parts of a text, and parseHead. -/
namespace Go.Proofs.Ytbdnlncpamandaa
set_option maxRecDepth 20000
open Go.RowKit
set_option linter.unusedSimpArgs false
set_option linter.unusedVariables false

theorem spl_none {b : UInt8} : ∀ (r cur : List UInt8), b ∉ r → spl b cur r = [cur ++ r]
  | [], cur, _ => by simp [spl]
  | x :: r, cur, h => by
    have hx : x ≠ b := fun e => h (by rw [e]; exact List.mem_cons_self)
    rw [spl, if_neg hx, spl_none r _ fun e => h (List.mem_cons_of_mem _ e)]
    simp
theorem spl_ne (b : UInt8) : ∀ (r cur : List UInt8), spl b cur r ≠ []
  | [], cur => by simp [spl]
  | x :: r, cur => by rw [spl]; split; simp; exact spl_ne b r _
theorem spl_one {b : UInt8} : ∀ (r cur : List UInt8) {c : List UInt8}, spl b cur r = [c] → c = cur ++ r
  | [], cur, c, h => by simp [spl] at h; simp [h]
  | x :: r, cur, c, h => by
    rw [spl] at h
    split at h
    · simp only [List.cons.injEq] at h
      exact absurd h.2 (spl_ne b r [])
    · rw [spl_one r _ h]; simp
theorem spl_two {b : UInt8} : ∀ (r cur : List UInt8) {a c : List UInt8}, spl b cur r = [a, c] → ∃ a', a = cur ++ a' ∧ r = a' ++ b :: c
  | [], cur, a, c, h => by simp [spl] at h
  | x :: r, cur, a, c, h => by
    rw [spl] at h
    split at h
    · next e =>
      simp only [List.cons.injEq] at h
      obtain ⟨rfl, h⟩ := h
      have := spl_one r [] h
      exact ⟨[], by simp, by rw [e, this]; simp⟩
    · obtain ⟨a', h1, h2⟩ := spl_two r _ h
      exact ⟨x :: a', by rw [h1]; simp, by rw [h2]; simp⟩
theorem spl_more {b : UInt8} : ∀ (r cur : List UInt8), b ∈ r → 2 ≤ (spl b cur r).length
  | [], cur, h => by cases h
  | x :: r, cur, h => by
    rw [spl]
    split
    · have : 0 < (spl b [] r).length := List.length_pos_iff.2 (spl_ne b r [])
      simp; omega
    · next e =>
      rcases List.mem_cons.1 h with h | h
      · exact absurd h.symm e
      · exact spl_more r _ h
theorem spl_bytes {b : UInt8} : ∀ (r cur : List UInt8), (∀ x ∈ cur, ∃ p ∈ spl b cur r, x ∈ p) ∧ ∀ x ∈ r, x = b ∨ ∃ p ∈ spl b cur r, x ∈ p
  | [], cur => ⟨fun x hx => ⟨cur, by simp [spl], hx⟩, fun x hx => by cases hx⟩
  | y :: r, cur => by
    rw [spl]
    split
    · next e =>
      obtain ⟨_, h2⟩ := spl_bytes (b := b) r []
      refine ⟨fun x hx => ⟨cur, List.mem_cons_self, hx⟩, fun x hx => ?_⟩
      rcases List.mem_cons.1 hx with rfl | hx
      · exact .inl e
      · rcases h2 x hx with h | ⟨p, hp, hxp⟩
        · exact .inl h
        · exact .inr ⟨p, List.mem_cons_of_mem _ hp, hxp⟩
    · obtain ⟨h1, h2⟩ := spl_bytes (b := b) r (cur ++ [y])
      refine ⟨fun x hx => h1 x (List.mem_append_left _ hx), fun x hx => ?_⟩
      rcases List.mem_cons.1 hx with rfl | hx
      · exact .inr (h1 x (List.mem_append_right _ (by simp)))
      · exact h2 x hx
theorem spl_part {b : UInt8} : ∀ (r cur : List UInt8), ∀ p ∈ spl b cur r, p.length ≤ cur.length + r.length
  | [], cur, p, hp => by simp [spl] at hp; simp [hp]
  | y :: r, cur, p, hp => by
    rw [spl] at hp
    split at hp
    · rcases List.mem_cons.1 hp with rfl | hp
      · simp
      · have := spl_part r [] p hp; simp at this ⊢; omega
    · have := spl_part r _ p hp; simp at this ⊢; omega
theorem psv_bytes {l : List UInt8} {s : Nat} (h : psv l = some s) : ∀ x ∈ l, x ≠ 58 := by
  unfold psv at h
  split at h
  · next e => rw [e]; intro x hx; have : x = 45 := by simpa using hx
              rw [this]; decide
  · split at h
    · cases h
    · intro x hx e
      obtain ⟨k, hk, hkx⟩ := List.mem_iff_getElem.1 hx
      have hn : psTo l (k + 1) ≠ none := fun e => by rw [psTo_stop e hk] at h; cases h
      obtain ⟨s2, hs2⟩ := Option.ne_none_iff_exists'.1 hn
      have := psTo_top hs2
      have hb : bn l k = 58 := by unfold bn; rw [List.getD_eq_getElem?_getD, List.getElem?_eq_getElem hk, hkx, e]; rfl
      omega
/-- the sets of all parts, if each is one -/
def allP (L : List (List UInt8)) : Option (List Nat) := L.foldl (fun o x => o.bind fun l => (psv x).map fun s => l ++ [s]) (some [])
theorem allP_nil : allP [] = some [] := rfl
theorem allP_stay (L : List (List UInt8)) : L.foldl (fun (o : Option (List Nat)) x => o.bind fun l => (psv x).map fun s => l ++ [s]) none = none := by
  induction L with
  | nil => rfl
  | cons x L ih => exact ih
theorem allP_none {A B : List (List UInt8)} (h : allP A = none) : allP (A ++ B) = none := by
  unfold allP at h ⊢; rw [List.foldl_append, h]; exact allP_stay B
theorem allP_snoc (L : List (List UInt8)) (x : List UInt8) : allP (L ++ [x]) = (allP L).bind fun l => (psv x).map fun s => l ++ [s] := by
  unfold allP; rw [List.foldl_append]; rfl
theorem allP_bytes {r : List UInt8} {l : List Nat} (h : allP (spl 44 [] r) = some l) : (58 : UInt8) ∉ r := fun hm => by
  rcases (spl_bytes (b := 44) r []).2 58 hm with h1 | ⟨p, hp, hx⟩
  · exact absurd h1 (by decide)
  · have hn : psv p = none := by
      cases hq : psv p with
      | none => rfl
      | some s => exact absurd rfl (psv_bytes hq 58 hx)
    obtain ⟨A, B, hAB⟩ := List.append_of_mem hp
    have h2 : allP (A ++ [p]) = none := by rw [allP_snoc, hn]; cases allP A <;> rfl
    have h3 := allP_none (B := B) h2
    rw [show A ++ [p] ++ B = spl 44 [] r by rw [hAB]; simp, h] at h3
    cases h3
theorem allP_next {L : List (List UInt8)} {k : Nat} (h : k < L.length) {l : List Nat} (ha : allP (L.take k) = some l) {o : Option Nat} (ho : psv L[k] = o) :
    (∀ s, o = some s → allP (L.take (k + 1)) = some (l ++ [s])) ∧ (o = none → allP L = none) := by
  have e : allP (L.take (k + 1)) = o.map fun s => l ++ [s] := by rw [List.take_succ_eq_append_getElem h, allP_snoc, ha, ho]; rfl
  refine ⟨fun s hs => by rw [e, hs]; rfl, fun hn => ?_⟩
  rw [hn] at e
  have := allP_none (B := L.drop (k + 1)) e
  rwa [List.take_append_drop] at this

/-- a text that begins with a number of points -/
def HeadP (l : List UInt8) (m : Nat) (r : List UInt8) : Prop := 1 ≤ m ∧ m ≤ 6 ∧ l = UInt8.ofNat (48 + m) :: 58 :: r
theorem HeadP.size {t : ByteArray} {m : Nat} {r : List UInt8} (h : HeadP (byt t) m r) : t.size = r.length + 2 := by rw [← byt_len, h.2.2]; rfl

end Go.Proofs.Ytbdnlncpamandaa

/- Numbers as texts: FormatInt, l1Read and ParseInt of the reference, parseHead of the program. -/
namespace Go.Proofs.Ytbdnlncpamandaa
set_option maxRecDepth 20000
open Go.RowKit
set_option linter.unusedSimpArgs false
set_option linter.unusedVariables false

/-- string([]byte{c}) -/
theorem run_str1 (w : World) (c : UInt8) (x : Int) (hx : x = (c.toNat : Int)) : (convert 22 9 (.slice (some ⟨w.heap.size, 0, none⟩) 1 1)).run Try.prog (w.alloc (.cells #[.int .u8 x] 5)) = .ok (.string ⟨#[c]⟩) (w.alloc (.cells #[.int .u8 x] 5)) := by
  have := run_convert_bytes_back (P := Try.prog) (w.alloc (.cells #[.int .u8 x] 5)) 22 9 5 ⟨w.heap.size, 0, none⟩ 1 [c] Try.underlying22 Try.underlying5 Try.underlying9 (fun j hj => by
    have hj0 : j = 0 := by simpa using hj
    subst hj0
    simp [Addr.add, hx])
  exact this
theorem dig_nat {n : Nat} (h : n ≤ 9) : (48 + (n : Int)) = ((UInt8.ofNat (48 + n)).toNat : Int) := by
  rw [UInt8.toNat_ofNat']; omega
theorem byt_append (a b : ByteArray) : byt (a ++ b) = byt a ++ byt b := by unfold byt; simp
theorem dig_size (c : UInt8) : (⟨#[c]⟩ : ByteArray).size = 1 := rfl
/-- quotient and rest by ten: both fall towards zero -/
theorem ten_parts (x : Int) : x = 10 * Int.tdiv x 10 + Int.tmod x 10 ∧ -9 ≤ Int.tmod x 10 ∧ Int.tmod x 10 ≤ 9 ∧ (0 ≤ x → 0 ≤ Int.tmod x 10) ∧ (x ≤ 0 → Int.tmod x 10 ≤ 0) := by
  have h := (Int.mul_tdiv_add_tmod x 10).symm
  rcases Int.le_total 0 x with h0 | h0
  · have e := Int.tmod_eq_emod_of_nonneg h0 (b := 10)
    refine ⟨h, ?_⟩
    rw [e]; omega
  · have e := Int.tmod_eq_emod_of_nonneg (show 0 ≤ -x by omega) (b := 10)
    rw [Int.neg_tmod] at e
    refine ⟨h, ?_⟩
    omega
set_option maxHeartbeats 1000000 in
theorem sFormat_small (n : Nat) (w : World) (h1 : 1 ≤ n) (h9 : n ≤ 9) :
    Calls Try.prog 153 #[.int .i64 n] w fun e w' => ∃ t : ByteArray, e = .returned (.string t) ∧ byt t = [UInt8.ofNat (48 + n)] ∧ Below w.heap.size w w' := by
  have hn0 : ((n : Int) == 0) = false := by simp; omega
  have hn1 : ((n : Int) != 0) = true := by simp; omega
  have hneg : ¬ ((n : Int) < 0) := by omega
  go_enter Try.func153, Try.ntmps153
  go_wp2_with fail
  go_loopw [0, 4, 5] (fun a o _ wr => Below w.heap.size w wr ∧ ((a = .int .i64 n ∧ o = .string { data := #[] }) ∨ (a = .int .i64 0 ∧ ∃ t, o = .string t ∧ byt t = [UInt8.ofNat (48 + n)]))) (fun a _ _ _ => (intOf a).toNat)
  case atStart => exact ⟨Below.refl _ _, .inl ⟨rfl, rfl⟩⟩
  case round =>
    obtain ⟨hbr, hcase⟩ := hrel
    have HBr := Lib.hid hbr; clear hbr
    rcases hcase with ⟨rfl, rfl⟩ | ⟨rfl, t, rfl, ht⟩
    · have hmod : Int.tmod (n : Int) 10 = n := Int.tmod_eq_of_lt (by omega) (by omega)
      have hdiv : Int.tdiv (n : Int) 10 = 0 := Int.tdiv_eq_zero_of_lt (by omega) (by omega)
      obtain ⟨c, hc⟩ : ∃ c : UInt8, c = UInt8.ofNat (48 + n) := ⟨_, rfl⟩
      have hr := run_str1 wr c (48 + (n : Int)) (by rw [hc]; exact dig_nat h9)
      have Hc := Lib.hid hc; clear hc
      go_wp2_with fail
      go_roundw
      case rel => exact ⟨HBr.out.alloc HBr.out.size _, .inr ⟨rfl, _, rfl, by rw [byt_append, ← Hc.out]; rfl⟩⟩
      case measure => simp [intOf]; omega
    · go_wp2_with fail
      go_ret
      exact ⟨t, rfl, ht, HBr.out⟩
set_option maxHeartbeats 1000000 in
theorem sFormat_any (n : Int) (w : World) (h1 : -1000000000000 < n) (h2 : n < 1000000000000) :
    Calls Try.prog 153 #[.int .i64 n] w fun e w' => ∃ t : ByteArray, e = .returned (.string t) ∧ Below w.heap.size w w' := by
  by_cases h0 : n = 0
  · subst h0
    go_enter Try.func153, Try.ntmps153
    go_wp2_with fail
    go_ret
    exact ⟨_, rfl, Below.refl _ _⟩
  have hn0 : (n == 0) = false := by simpa using h0
  clear h0
  have hP : ∃ below, decide (n < 0) = below := ⟨_, rfl⟩
  obtain ⟨below, hbl⟩ := hP
  go_enter Try.func153, Try.ntmps153
  go_wp2_with fail
  go_loopw [0, 4, 5] (fun a o _ wr => Below w.heap.size w wr ∧ ∃ (k : Nat) (x : Int) (t : ByteArray), a = .int .i64 x ∧ o = .string t ∧ -(10 ^ k : Int) < x ∧ x < 10 ^ k ∧ k ≤ 12 ∧ t.size + k ≤ 12) (fun a _ _ _ => (intOf a).natAbs)
  case atStart => exact ⟨Below.refl _ _, 12, n, _, rfl, rfl, by omega, by omega, by omega, Nat.le_refl 12⟩
  case round =>
    obtain ⟨hbr, k, x, t, rfl, rfl, hx1, hx2, hk, hts⟩ := hrel
    have HBr := Lib.hid hbr; clear hbr
    by_cases hx : x = 0
    · subst hx
      clear hx1 hx2
      cases below
      · go_wp2_with fail
        go_ret
        exact ⟨_, rfl, HBr.out⟩
      · go_wp2_with fail
        go_ret
        exact ⟨_, rfl, HBr.out⟩
    · have hx0 : (x != 0) = true := by simpa using hx
      obtain ⟨j, rfl⟩ : ∃ j, k = j + 1 := by
        rcases k with _ | j
        · simp at hx1 hx2; omega
        · exact ⟨j, rfl⟩
      rw [Int.pow_succ] at hx1 hx2
      obtain ⟨Z, hZ⟩ : ∃ Z : Int, Z = 10 ^ j := ⟨_, rfl⟩
      rw [← hZ] at hx1 hx2
      obtain ⟨r, hr⟩ : ∃ r, r = Int.tmod x 10 := ⟨_, rfl⟩
      obtain ⟨q, hq⟩ : ∃ q, q = Int.tdiv x 10 := ⟨_, rfl⟩
      obtain ⟨hqr, hr1, hr2, hr3, hr4⟩ := ten_parts x
      rw [← hr, ← hq] at hqr
      rw [← hr] at hr1 hr2 hr3 hr4
      have hZ12 : Z ≤ 100000000000 := by
        have : (10 : Int) ^ j ≤ 10 ^ 11 := by
          have := Nat.pow_le_pow_right (n := 10) (by omega) (show j ≤ 11 by omega)
          exact_mod_cast this
        rw [hZ]; omega
      have hq1 : -Z < q ∧ q < Z := by omega
      have hq2 : q.natAbs < x.natAbs := by omega
      have Hwq : Hid (wrap64 q = q) := Lib.hid (by unfold wrap64; omega)
      have hr' := hr.symm; have hq' := hq.symm
      have HZ := Lib.hid hZ; have Hq1 := Lib.hid hq1; have Hq2 := Lib.hid hq2
      clear hr hq hZ hq1 hq2 hqr hx1 hx2 hr3 hr4 hZ12
      by_cases hneg : r < 0
      · obtain ⟨d, rfl⟩ : ∃ d : Nat, r = -(d : Int) := ⟨(-r).toNat, by omega⟩
        obtain ⟨c, hc⟩ : ∃ c : UInt8, (48 + (d : Int)) = (c.toNat : Int) := ⟨_, dig_nat (by omega)⟩
        have hrs := run_str1 wr c _ hc
        have hsz := dig_size c
        clear hc
        go_wp2_with fail
        go_roundw
        case rel => exact ⟨HBr.out.alloc HBr.out.size _, j, q, _, by rw [Hwq.out], rfl, by rw [← HZ.out]; exact Hq1.out.1, by rw [← HZ.out]; exact Hq1.out.2, by omega, by rw [ByteArray.size_append, hsz]; omega⟩
        case measure => (show (wrap64 q).natAbs < x.natAbs); rw [Hwq.out]; exact Hq2.out
      · obtain ⟨d, rfl⟩ := Int.eq_ofNat_of_zero_le (show 0 ≤ r by omega)
        obtain ⟨c, hc⟩ : ∃ c : UInt8, (48 + (d : Int)) = (c.toNat : Int) := ⟨_, dig_nat (by omega)⟩
        have hrs := run_str1 wr c _ hc
        have hsz := dig_size c
        clear hc
        go_wp2_with fail
        go_roundw
        case rel => exact ⟨HBr.out.alloc HBr.out.size _, j, q, _, by rw [Hwq.out], rfl, by rw [← HZ.out]; exact Hq1.out.1, by rw [← HZ.out]; exact Hq1.out.2, by omega, by rw [ByteArray.size_append, hsz]; omega⟩
        case measure => (show (wrap64 q).natAbs < x.natAbs); rw [Hwq.out]; exact Hq2.out
end Go.Proofs.Ytbdnlncpamandaa

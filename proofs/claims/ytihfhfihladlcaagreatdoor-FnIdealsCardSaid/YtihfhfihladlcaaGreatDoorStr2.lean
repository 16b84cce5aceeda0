/- Texts of this claim, one behind the other: what each says stands at its head. -/
import Derived.Test.YtihfhfihladlcaaGreatDoorCore
import Derived.Test.YtihfhfihladlcaaGreatDoorSet3
/- A set out of a text: plain law, and contracts of ParseSet, the program's and the reference's. -/
namespace Go.Proofs.YtihfhfihladlcaaGreatDoor
set_option maxRecDepth 20000
open Go.RowKit
set_option linter.unusedSimpArgs false
set_option linter.unusedVariables false

/-- the byte at k -/
def bn (l : List UInt8) (k : Nat) : Nat := (l.getD k 0).toNat
theorem bn_at (t : ByteArray) (k : Nat) (h : k < t.size) : bn (byt t) k = t[k].toNat := by
  obtain ⟨h', e⟩ := byt_at t k h
  unfold bn
  rw [List.getD_eq_getElem?_getD, List.getElem?_eq_getElem h', e]; rfl
/-- the set of the first k letters, if they are letters that rise -/
def psTo (l : List UInt8) : Nat → Option Nat
  | 0 => some 0
  | k + 1 => match psTo l k with
    | none => none
    | some s => if 97 ≤ bn l k ∧ bn l k ≤ 102 ∧ s < 2 ^ (bn l k - 97) then some (s + 2 ^ (bn l k - 97)) else none
/-- the set of a text -/
def psv (l : List UInt8) : Option Nat := if l = [45] then some 0 else if l = [] then none else psTo l l.length
theorem psTo_no {l : List UInt8} {k : Nat} (h : psTo l k = none) : ∀ d, psTo l (k + d) = none := by
  intro d
  induction d with
  | zero => exact h
  | succ d ih => rw [← Nat.add_assoc, psTo, ih]
theorem psTo_stop {l : List UInt8} {k : Nat} (h : psTo l (k + 1) = none) (hk : k < l.length) : psTo l l.length = none := by
  have := psTo_no h (l.length - (k + 1))
  rwa [show k + 1 + (l.length - (k + 1)) = l.length by omega] at this
theorem psTo_yes {l : List UInt8} {k s : Nat} (h : psTo l k = some s) (h1 : 97 ≤ bn l k) (h2 : bn l k ≤ 102) (h3 : s < 2 ^ (bn l k - 97)) : psTo l (k + 1) = some (s + 2 ^ (bn l k - 97)) := by
  rw [psTo, h]; simp only []; rw [if_pos ⟨h1, h2, h3⟩]
theorem psTo_not {l : List UInt8} {k s : Nat} (h : psTo l k = some s) (hn : ¬ (97 ≤ bn l k ∧ bn l k ≤ 102 ∧ s < 2 ^ (bn l k - 97))) : psTo l (k + 1) = none := by
  rw [psTo, h]; simp only []; rw [if_neg hn]
theorem psTo_top {l : List UInt8} {k s : Nat} (h : psTo l (k + 1) = some s) : 97 ≤ bn l k ∧ bn l k ≤ 102 ∧ 2 ^ (bn l k - 97) ≤ s ∧ s < 2 ^ (bn l k - 97 + 1) := by
  rw [psTo] at h
  split at h
  · cases h
  · split at h
    · next hc =>
      cases h
      refine ⟨hc.1, hc.2.1, by omega, ?_⟩
      have := hc.2.2
      rw [Nat.pow_succ]; omega
    · cases h
theorem psTo_big {l : List UInt8} : ∀ {k s : Nat}, psTo l k = some s → 2 ^ k ≤ s + 1 ∧ s < 64 := by
  intro k
  induction k with
  | zero => intro s h; cases h; simp
  | succ k ih =>
    intro s h
    have ht := psTo_top h
    rw [psTo] at h
    split at h
    · cases h
    · next s0 h0 =>
      split at h
      · next hc =>
        cases h
        have h1 := (ih h0).1
        have h2 := hc.2.2
        refine ⟨by rw [Nat.pow_succ]; omega, ?_⟩
        have : 2 ^ (bn l k - 97 + 1) ≤ 2 ^ 6 := Nat.pow_le_pow_right (by omega) (by omega)
        omega
      · cases h
theorem psTo_long {l : List UInt8} {k : Nat} (h : 6 < k) : psTo l k = none := by
  cases hp : psTo l k with
  | none => rfl
  | some s =>
    have h1 := psTo_big hp
    have h2 : 2 ^ 7 ≤ 2 ^ k := Nat.pow_le_pow_right (by omega) h
    omega
/-- the next letter is higher -/
theorem psTo_rise {l : List UInt8} {k s : Nat} (h : psTo l (k + 1) = some s) (h2 : bn l (k + 1) ≤ 102) : s < 2 ^ (bn l (k + 1) - 97) ↔ bn l k < bn l (k + 1) := by
  obtain ⟨a1, a2, a3, a4⟩ := psTo_top h
  constructor
  · intro hs
    have := (Nat.pow_lt_pow_iff_right (a := 2) (by omega)).1 (Nat.lt_of_le_of_lt a3 hs)
    omega
  · intro hb
    exact Nat.lt_of_lt_of_le a4 (Nat.pow_le_pow_right (by omega) (by omega))
theorem or_add {s k : Nat} (h : s < 2 ^ k) (hk : k < 6) : s ||| 2 ^ k = s + 2 ^ k := by
  have hs : s < 64 := Nat.lt_of_lt_of_le h (show 2 ^ k ≤ 2 ^ 6 from Nat.pow_le_pow_right (by omega) (by omega))
  have : ∀ k < 6, ∀ s < 2 ^ k, s ||| 2 ^ k = s + 2 ^ k := by decide +kernel
  exact this k hk s h
theorem psv_dash : psv [45] = some 0 := rfl
theorem psv_lt {l : List UInt8} {s : Nat} (h : psv l = some s) : s < 64 := by
  unfold psv at h
  split at h
  · cases h; omega
  · split at h
    · cases h
    · exact (psTo_big h).2
theorem psv_none {l : List UInt8} (h0 : l ≠ [45]) (h : psTo l l.length = none) : psv l = none := by
  unfold psv; rw [if_neg h0]; split
  · rfl
  · exact h
theorem psv_some {l : List UInt8} (h0 : l ≠ [45]) (h1 : l ≠ []) : psv l = psTo l l.length := by
  unfold psv; rw [if_neg h0, if_neg h1]
/-- what ParseSet returns -/
def RetO (o : Option Nat) (w : World) (e : Ending) (w' : World) : Prop := e = .returned (.tuple #[.int .i64 ((o.getD 0 : Nat) : Int), .bool o.isSome]) ∧ Below w.heap.size w w'
def dashS : ByteArray := { data := #[45] }
theorem dash_iff (t : ByteArray) : t = dashS ↔ byt t = [45] := ⟨fun h => by rw [h]; rfl, fun h => byt_inj h⟩
theorem empty_iff (t : ByteArray) : t.size = 0 ↔ byt t = [] := by rw [← byt_len, List.length_eq_zero_iff]

set_option maxHeartbeats 1000000 in
theorem iPset_any (t : ByteArray) (w : World) (ht : t.size ≤ 1048576) :
    Calls Tryz.prog 126 #[.string t] w (RetO (psv (byt t)) w) := by
  obtain ⟨V, hV⟩ : ∃ V, V = psv (byt t) := ⟨_, rfl⟩
  rw [← hV]
  have HV := Lib.hid hV; clear hV
  by_cases h0 : t = dashS
  · have hVe : V = some 0 := by rw [HV.out, (dash_iff t).1 h0]; rfl
    subst hVe
    subst h0
    clear ht HV
    unfold dashS
    go_enter Tryz.func126, Tryz.ntmps126
    go_wp2_with fail
    go_ret2
    exact ⟨rfl, Below.refl _ _⟩
  · have hd : (t.toList == [45]) = false := by
      rw [Lib.toList_data]; exact beq_eq_false_iff_ne.2 fun e => h0 ((dash_iff t).2 e)
    have Hd0 : Hid (byt t ≠ [45]) := Lib.hid fun e => h0 ((dash_iff t).2 e)
    clear h0
    by_cases hz : t.size = 0
    · have hVe : V = none := by rw [HV.out, (empty_iff t).1 hz]; rfl
      subst hVe
      obtain rfl : t = ByteArray.empty := byt_inj ((empty_iff t).1 hz)
      clear hz HV Hd0
      go_enter Tryz.func126, Tryz.ntmps126
      go_wp2_with fail
      go_ret2
      exact ⟨rfl, Below.refl _ _⟩
    · have he : ¬ t = ByteArray.empty := fun e => hz (by rw [e]; rfl)
      have hz1 : ((t.size : Int) == 0) = false := by simp; omega
      by_cases h6 : 6 < t.size
      · have hVe : V = none := by rw [HV.out]; exact psv_none Hd0.out (by rw [byt_len]; exact psTo_long h6)
        subst hVe
        clear hz HV Hd0
        go_enter Tryz.func126, Tryz.ntmps126
        go_wp2_with fail
        go_ret2
        exact ⟨rfl, Below.refl _ _⟩
      · have h6i : ¬ (6 < (t.size : Int)) := by omega
        have hVp : Hid (V = psTo (byt t) t.size) := Lib.hid (by rw [HV.out, psv_some Hd0.out (fun e => hz ((empty_iff t).2 e)), byt_len])
        have Hlen := Lib.hid (byt_len t)
        clear HV Hd0
        go_enter Tryz.func126, Tryz.ntmps126
        go_wp2_with fail
        go_loopw [4, 5] (fun s i wr => ∃ I S : Nat, I ≤ t.size ∧ i = .int .i64 I ∧ s = .int .i64 S ∧ S < 64 ∧ Hid (psTo (byt t) I = some S) ∧ Below w.heap.size w wr) (fun _ i _ => t.size - (intOf i).toNat)
        case atStart => exact ⟨0, 0, Nat.zero_le _, rfl, rfl, by omega, Lib.hid rfl, Below.refl _ _⟩
        case round =>
          obtain ⟨I, S, hI, rfl, rfl, hS, hp, hbr⟩ := hrel
          have HBr := Lib.hid hbr; clear hbr
          by_cases hlt : I < t.size
          · have Hx := Lib.hid (bn_at t I hlt)
            by_cases hr : 97 ≤ t[I].toNat ∧ t[I].toNat ≤ 102
            · obtain ⟨h97, h102⟩ := hr
              have a1 : ¬ ((t[I].toNat : Int) < 97) := by omega
              have a2 : ¬ (102 < (t[I].toNat : Int)) := by omega
              obtain ⟨y, hy⟩ : ∃ y, y = t[I].toNat - 97 := ⟨_, rfl⟩
              have hty : t[I].toNat = y + 97 := by omega
              have hy6 : y < 6 := by omega
              have Hy : Hid (bn (byt t) I = y + 97) := Lib.hid (by rw [Hx.out, hty])
              have hw8 : IntKind.u8.wrap (y : Int) = (y : Int) := by rw [IntKind.wrap_u8]; omega
              have hw64 : IntKind.u64.wrap (y : Int) = (y : Int) := by rw [IntKind.wrap_u64]; omega
              have hm64 : min y 64 = y := by omega
              have hor := w_or6bit S y hS hy6
              clear hy
              have hw2 : wrap64 ((2 : Int) ^ y) = 2 ^ y := by
                have e : ((2 : Int) ^ y) = ((2 ^ y : Nat) : Int) := by norm_cast
                have h : 2 ^ y < 2 ^ 6 := Nat.pow_lt_pow_right (by omega) hy6
                rw [e]
                generalize 2 ^ y = q at h
                unfold wrap64; omega
              have Hok : Hid (S < 2 ^ y → psTo (byt t) (I + 1) = some (S ||| 2 ^ y) ∧ S ||| 2 ^ y < 64) := Lib.hid (fun h => by
                have h1 := psTo_yes hp.out (by rw [Hy.out]; omega) (by rw [Hy.out]; omega) (by rw [Hy.out]; simpa using h)
                rw [Hy.out, Nat.add_sub_cancel] at h1
                rw [or_add h hy6]
                exact ⟨h1, (psTo_big h1).2⟩)
              rcases I with _ | k
              · have HS0 : Hid (S < 2 ^ y) := Lib.hid (by
                  have := hp.out; unfold psTo at this
                  have h0 : 0 = S := by simpa using this
                  rw [← h0]; exact Nat.pow_pos (by omega))
                go_wp2_with fail
                go_quiet (fail)
                go_wp2_with fail
                go_roundw
                case rel => exact ⟨1, S ||| 2 ^ y, by omega, rfl, rfl, (Hok.out HS0.out).2, Lib.hid (Hok.out HS0.out).1, below_drewN HBr.out _⟩
                case measure => simp [intOf]; omega
              · have hkl : k < t.size := by omega
                have Hz := Lib.hid (bn_at t k hkl)
                have htop := psTo_top hp.out
                obtain ⟨z, hz⟩ : ∃ z, z = t[k].toNat - 97 := ⟨_, rfl⟩
                have htz : t[k].toNat = z + 97 := by rw [Hz.out] at htop; omega
                have Hbz : Hid (bn (byt t) k = z + 97) := Lib.hid (by rw [Hz.out, htz])
                have Hrise := Lib.hid (psTo_rise hp.out (by rw [Hy.out]; omega))
                clear htop hz
                by_cases hyz : y ≤ z
                · have hVe : V = none := by
                    rw [hVp.out, ← Hlen.out]; exact psTo_stop (k := k + 1) (psTo_not hp.out (fun h => by have h1 := Hrise.out.1 h.2.2; rw [Hy.out, Hbz.out] at h1; omega)) (by rw [Hlen.out]; exact hlt)
                  subst hVe
                  go_wp2_with fail
                  go_quiet (fail)
                  go_wp2_with fail
                  go_ret2
                  exact ⟨rfl, below_drewN HBr.out _⟩
                · have HS0 : Hid (S < 2 ^ y) := Lib.hid (by
                    have := Hrise.out.2 (by rw [Hy.out, Hbz.out]; omega)
                    rw [Hy.out] at this; simpa using this)
                  go_wp2_with fail
                  go_quiet (fail)
                  go_wp2_with fail
                  go_roundw
                  case rel => exact ⟨k + 1 + 1, S ||| 2 ^ y, by omega, by go_num, rfl, (Hok.out HS0.out).2, Lib.hid (Hok.out HS0.out).1, below_drewN HBr.out _⟩
                  case measure => simp [intOf]; omega
            · have hVe : V = none := by
                rw [hVp.out, ← Hlen.out]; exact psTo_stop (k := I) (psTo_not hp.out (fun h => hr (by rw [Hx.out] at h; exact ⟨h.1, h.2.1⟩))) (by rw [Hlen.out]; exact hlt)
              subst hVe
              by_cases h97 : t[I].toNat < 97
              · have a1 : (t[I].toNat : Int) < 97 := by omega
                clear hr
                go_wp2_with fail
                go_ret2
                exact ⟨rfl, HBr.out⟩
              · have a1 : ¬ ((t[I].toNat : Int) < 97) := by omega
                have a2 : 102 < (t[I].toNat : Int) := by omega
                clear hr
                go_wp2_with fail
                go_ret2
                exact ⟨rfl, HBr.out⟩
          · obtain rfl : I = t.size := by omega
            have hVe : V = some S := by rw [hVp.out]; exact hp.out
            subst hVe
            go_wp2_with fail
            go_ret2
            exact ⟨rfl, HBr.out⟩
set_option maxHeartbeats 1000000 in
theorem sPset_any (t : ByteArray) (w : World) (ht : t.size ≤ 1048576) :
    Calls Tryz.prog 129 #[.string t] w (RetO (psv (byt t)) w) := by
  obtain ⟨V, hV⟩ : ∃ V, V = psv (byt t) := ⟨_, rfl⟩
  rw [← hV]
  have HV := Lib.hid hV; clear hV
  by_cases h0 : t = dashS
  · have hVe : V = some 0 := by rw [HV.out, (dash_iff t).1 h0]; rfl
    subst hVe
    subst h0
    clear ht HV
    unfold dashS
    go_enter Tryz.func129, Tryz.ntmps129
    go_wp2_with fail
    go_loop [4, 5] (fun s i => s = .int .i64 0 ∧ i = .int .i64 0) (fun _ i => 0)
    case atStart => exact ⟨rfl, rfl⟩
    case round =>
      obtain ⟨rfl, rfl⟩ := hrel
      go_wp2_with fail
      go_ret2
      exact ⟨rfl, Below.refl _ _⟩
  · have hd : (t.toList == [45]) = false := by
      rw [Lib.toList_data]; exact beq_eq_false_iff_ne.2 fun e => h0 ((dash_iff t).2 e)
    have hd2 : (t.toList != [45]) = true := by rw [bne, hd]; rfl
    have Hd0 : Hid (byt t ≠ [45]) := Lib.hid fun e => h0 ((dash_iff t).2 e)
    clear h0
    by_cases hz : t.size = 0
    · have hVe : V = none := by rw [HV.out, (empty_iff t).1 hz]; rfl
      subst hVe
      obtain rfl : t = ByteArray.empty := byt_inj ((empty_iff t).1 hz)
      clear hz HV Hd0 hd hd2
      go_enter Tryz.func129, Tryz.ntmps129
      go_wp2_with fail
      go_loop [4, 5] (fun s i => s = .int .i64 0 ∧ i = .int .i64 0) (fun _ i => 0)
      case atStart => exact ⟨rfl, rfl⟩
      case round =>
        obtain ⟨rfl, rfl⟩ := hrel
        go_wp2_with fail
        go_ret2
        exact ⟨rfl, Below.refl _ _⟩
    · have hVp : Hid (V = psTo (byt t) t.size) := Lib.hid (by rw [HV.out, psv_some Hd0.out (fun e => hz ((empty_iff t).2 e)), byt_len])
      have Hlen := Lib.hid (byt_len t)
      have he : (t.toList != []) = true := by
        rw [bne_iff_ne, Lib.toList_data]; exact fun e => hz ((empty_iff t).2 e)
      have hem : t.toList.isEmpty = false := by
        cases hb : t.toList.isEmpty
        · rfl
        · rw [List.isEmpty_iff, Lib.toList_data] at hb; exact absurd ((empty_iff t).2 hb) hz
      clear HV Hd0 hz
      go_enter Tryz.func129, Tryz.ntmps129
      go_wp2_with fail
      go_loop [4, 5, 6] (fun s i _ => ∃ I S : Nat, I ≤ t.size ∧ i = .int .i64 I ∧ s = .int .i64 S ∧ S < 64 ∧ Hid (psTo (byt t) I = some S)) (fun _ i _ => t.size - (intOf i).toNat)
      case atStart => exact ⟨0, 0, Nat.zero_le _, rfl, rfl, by omega, Lib.hid rfl⟩
      case round =>
        obtain ⟨I, S, hI, rfl, rfl, hS, hp⟩ := hrel
        by_cases hlt : I < t.size
        · have Hx := Lib.hid (bn_at t I hlt)
          by_cases hr : 97 ≤ t[I].toNat ∧ t[I].toNat ≤ 102
          · obtain ⟨h97, h102⟩ := hr
            obtain ⟨y, hy⟩ : ∃ y, y = t[I].toNat - 97 := ⟨_, rfl⟩
            have hty : t[I].toNat = y + 97 := by omega
            have hy6 : y < 6 := by omega
            have Hy : Hid (bn (byt t) I = y + 97) := Lib.hid (by rw [Hx.out, hty])
            have hw64 : IntKind.u64.wrap (y : Int) = (y : Int) := by rw [IntKind.wrap_u64]; omega
            have hm64 : min y 64 = y := by omega
            have hm63 : min y 63 = y := by omega
            clear hy
            by_cases hs : S < 2 ^ y
            · have hdiv : (S : Int) / 2 ^ y = 0 := by
                have e : ((S : Int) / 2 ^ y) = ((S / 2 ^ y : Nat) : Int) := by norm_cast
                rw [e, Nat.div_eq_of_lt hs]; rfl
              have h1 := psTo_yes hp.out (by rw [Hy.out]; omega) (by rw [Hy.out]; omega) (by rw [Hy.out]; simpa using hs)
              rw [Hy.out, Nat.add_sub_cancel] at h1
              have hS2 := (psTo_big h1).2
              obtain ⟨S2, hS2e⟩ : ∃ S2, S2 = S + 2 ^ y := ⟨_, rfl⟩
              rw [← hS2e] at h1 hS2
              have hsum : wrap64 ((S : Int) + 2 ^ y) = (S2 : Int) := by
                have e : ((S : Int) + 2 ^ y) = ((S + 2 ^ y : Nat) : Int) := by norm_cast
                rw [e, ← hS2e]; unfold wrap64; omega
              have hw2 : wrap64 ((2 : Int) ^ y) = 2 ^ y := by
                have e : ((2 : Int) ^ y) = ((2 ^ y : Nat) : Int) := by norm_cast
                have h : 2 ^ y < 2 ^ 6 := Nat.pow_lt_pow_right (by omega) hy6
                rw [e]
                generalize 2 ^ y = q at h
                unfold wrap64; omega
              have H1 := Lib.hid h1
              clear h1 hS2e hs
              go_wp2_with (go_at_call 110; (with_reducible refine (l1In_yes (y : Int) 0 5 _ (by omega) (by omega)).mono ?_); rintro e w' ⟨rfl, rfl⟩)
              go_round
              case rel => exact ⟨I + 1, S2, by omega, by go_num, by first | rfl | go_num | (rw [← hsum]; rfl) | (rw [hw2, hsum]), hS2, H1⟩
              case measure => simp [intOf]; omega
            · have hVe : V = none := by
                rw [hVp.out, ← Hlen.out]; exact psTo_stop (k := I) (psTo_not hp.out (fun h => hs (by have := h.2.2; rw [Hy.out] at this; simpa using this))) (by rw [Hlen.out]; exact hlt)
              have hdiv : ((S : Int) / 2 ^ y != 0) = true := by
                have e : ((S : Int) / 2 ^ y) = ((S / 2 ^ y : Nat) : Int) := by norm_cast
                have : 0 < S / 2 ^ y := Nat.div_pos (by omega) (Nat.pow_pos (by omega))
                rw [e, bne_iff_ne]; omega
              subst hVe
              clear hs
              go_wp2_with (go_at_call 110; (with_reducible refine (l1In_yes (y : Int) 0 5 _ (by omega) (by omega)).mono ?_); rintro e w' ⟨rfl, rfl⟩)
              go_ret2
              exact ⟨rfl, Below.refl _ _⟩
          · have hVe : V = none := by
              rw [hVp.out, ← Hlen.out]; exact psTo_stop (k := I) (psTo_not hp.out (fun h => hr (by rw [Hx.out] at h; exact ⟨h.1, h.2.1⟩))) (by rw [Hlen.out]; exact hlt)
            subst hVe
            obtain ⟨x, hx⟩ : ∃ x, x = t[I].toNat := ⟨_, rfl⟩
            have hx256 : x < 256 := by rw [hx]; exact UInt8.toNat_lt _
            rw [← hx] at hr
            have hx' := hx.symm
            have hno : ¬ (0 ≤ (x : Int) - 97 ∧ (x : Int) - 97 ≤ 5) := by omega
            have Hno := Lib.hid hno
            clear hx hr hno
            go_wp2_with (go_at_call 110; (with_reducible refine (l1In_no _ 0 5 _ Hno.out).mono ?_); rintro e w' ⟨rfl, rfl⟩)
            go_ret2
            exact ⟨rfl, Below.refl _ _⟩
        · obtain rfl : I = t.size := by omega
          have hVe : V = some S := by rw [hVp.out]; exact hp.out
          subst hVe
          go_wp2_with fail
          go_ret2
          exact ⟨rfl, Below.refl _ _⟩
end Go.Proofs.YtihfhfihladlcaaGreatDoor

/- Parsing an order: plain laws about parts of a text, and parseHead. -/
namespace Go.Proofs.YtihfhfihladlcaaGreatDoor
set_option maxRecDepth 20000
open Go.RowKit
set_option linter.unusedSimpArgs false
set_option linter.unusedVariables false

theorem spl_none {b : UInt8} : ∀ (r cur : List UInt8), b ∉ r → spl b cur r = [cur ++ r]
  | [], cur, _ => by simp [spl]
  | x :: r, cur, h => by
    have hx : x ≠ b := fun e => h (by rw [e]; exact List.mem_cons_self)
    rw [spl, if_neg hx, spl_none r _ fun e => h (List.mem_cons_of_mem _ e)]
    simp
theorem spl_ne (b : UInt8) : ∀ (r cur : List UInt8), spl b cur r ≠ []
  | [], cur => by simp [spl]
  | x :: r, cur => by rw [spl]; split; simp; exact spl_ne b r _
theorem spl_one {b : UInt8} : ∀ (r cur : List UInt8) {c : List UInt8}, spl b cur r = [c] → c = cur ++ r
  | [], cur, c, h => by simp [spl] at h; simp [h]
  | x :: r, cur, c, h => by
    rw [spl] at h
    split at h
    · simp only [List.cons.injEq] at h
      exact absurd h.2 (spl_ne b r [])
    · rw [spl_one r _ h]; simp
theorem spl_two {b : UInt8} : ∀ (r cur : List UInt8) {a c : List UInt8}, spl b cur r = [a, c] → ∃ a', a = cur ++ a' ∧ r = a' ++ b :: c
  | [], cur, a, c, h => by simp [spl] at h
  | x :: r, cur, a, c, h => by
    rw [spl] at h
    split at h
    · next e =>
      simp only [List.cons.injEq] at h
      obtain ⟨rfl, h⟩ := h
      have := spl_one r [] h
      exact ⟨[], by simp, by rw [e, this]; simp⟩
    · obtain ⟨a', h1, h2⟩ := spl_two r _ h
      exact ⟨x :: a', by rw [h1]; simp, by rw [h2]; simp⟩
theorem spl_more {b : UInt8} : ∀ (r cur : List UInt8), b ∈ r → 2 ≤ (spl b cur r).length
  | [], cur, h => by cases h
  | x :: r, cur, h => by
    rw [spl]
    split
    · have : 0 < (spl b [] r).length := List.length_pos_iff.2 (spl_ne b r [])
      simp; omega
    · next e =>
      rcases List.mem_cons.1 h with h | h
      · exact absurd h.symm e
      · exact spl_more r _ h
theorem spl_bytes {b : UInt8} : ∀ (r cur : List UInt8), (∀ x ∈ cur, ∃ p ∈ spl b cur r, x ∈ p) ∧ ∀ x ∈ r, x = b ∨ ∃ p ∈ spl b cur r, x ∈ p
  | [], cur => ⟨fun x hx => ⟨cur, by simp [spl], hx⟩, fun x hx => by cases hx⟩
  | y :: r, cur => by
    rw [spl]
    split
    · next e =>
      obtain ⟨_, h2⟩ := spl_bytes (b := b) r []
      refine ⟨fun x hx => ⟨cur, List.mem_cons_self, hx⟩, fun x hx => ?_⟩
      rcases List.mem_cons.1 hx with rfl | hx
      · exact .inl e
      · rcases h2 x hx with h | ⟨p, hp, hxp⟩
        · exact .inl h
        · exact .inr ⟨p, List.mem_cons_of_mem _ hp, hxp⟩
    · obtain ⟨h1, h2⟩ := spl_bytes (b := b) r (cur ++ [y])
      refine ⟨fun x hx => h1 x (List.mem_append_left _ hx), fun x hx => ?_⟩
      rcases List.mem_cons.1 hx with rfl | hx
      · exact .inr (h1 x (List.mem_append_right _ (by simp)))
      · exact h2 x hx
theorem spl_part {b : UInt8} : ∀ (r cur : List UInt8), ∀ p ∈ spl b cur r, p.length ≤ cur.length + r.length
  | [], cur, p, hp => by simp [spl] at hp; simp [hp]
  | y :: r, cur, p, hp => by
    rw [spl] at hp
    split at hp
    · rcases List.mem_cons.1 hp with rfl | hp
      · simp
      · have := spl_part r [] p hp; simp at this ⊢; omega
    · have := spl_part r _ p hp; simp at this ⊢; omega
theorem psv_bytes {l : List UInt8} {s : Nat} (h : psv l = some s) : ∀ x ∈ l, x ≠ 58 := by
  unfold psv at h
  split at h
  · next e => rw [e]; intro x hx; have : x = 45 := by simpa using hx
              rw [this]; decide
  · split at h
    · cases h
    · intro x hx e
      obtain ⟨k, hk, hkx⟩ := List.mem_iff_getElem.1 hx
      have hn : psTo l (k + 1) ≠ none := fun e => by rw [psTo_stop e hk] at h; cases h
      obtain ⟨s2, hs2⟩ := Option.ne_none_iff_exists'.1 hn
      have := psTo_top hs2
      have hb : bn l k = 58 := by unfold bn; rw [List.getD_eq_getElem?_getD, List.getElem?_eq_getElem hk, hkx, e]; rfl
      omega
/-- the sets of all parts, if each is one -/
def allP (L : List (List UInt8)) : Option (List Nat) := L.foldl (fun o x => o.bind fun l => (psv x).map fun s => l ++ [s]) (some [])
theorem allP_nil : allP [] = some [] := rfl
theorem allP_stay (L : List (List UInt8)) : L.foldl (fun (o : Option (List Nat)) x => o.bind fun l => (psv x).map fun s => l ++ [s]) none = none := by
  induction L with
  | nil => rfl
  | cons x L ih => exact ih
theorem allP_none {A B : List (List UInt8)} (h : allP A = none) : allP (A ++ B) = none := by
  unfold allP at h ⊢; rw [List.foldl_append, h]; exact allP_stay B
theorem allP_snoc (L : List (List UInt8)) (x : List UInt8) : allP (L ++ [x]) = (allP L).bind fun l => (psv x).map fun s => l ++ [s] := by
  unfold allP; rw [List.foldl_append]; rfl
theorem allP_bytes {r : List UInt8} {l : List Nat} (h : allP (spl 44 [] r) = some l) : (58 : UInt8) ∉ r := fun hm => by
  rcases (spl_bytes (b := 44) r []).2 58 hm with h1 | ⟨p, hp, hx⟩
  · exact absurd h1 (by decide)
  · have hn : psv p = none := by
      cases hq : psv p with
      | none => rfl
      | some s => exact absurd rfl (psv_bytes hq 58 hx)
    obtain ⟨A, B, hAB⟩ := List.append_of_mem hp
    have h2 : allP (A ++ [p]) = none := by rw [allP_snoc, hn]; cases allP A <;> rfl
    have h3 := allP_none (B := B) h2
    rw [show A ++ [p] ++ B = spl 44 [] r by rw [hAB]; simp, h] at h3
    cases h3
theorem allP_next {L : List (List UInt8)} {k : Nat} (h : k < L.length) {l : List Nat} (ha : allP (L.take k) = some l) {o : Option Nat} (ho : psv L[k] = o) :
    (∀ s, o = some s → allP (L.take (k + 1)) = some (l ++ [s])) ∧ (o = none → allP L = none) := by
  have e : allP (L.take (k + 1)) = o.map fun s => l ++ [s] := by rw [List.take_succ_eq_append_getElem h, allP_snoc, ha, ho]; rfl
  refine ⟨fun s hs => by rw [e, hs]; rfl, fun hn => ?_⟩
  rw [hn] at e
  have := allP_none (B := L.drop (k + 1)) e
  rwa [List.take_append_drop] at this

/-- a text that begins with a number of points -/
def HeadP (l : List UInt8) (m : Nat) (r : List UInt8) : Prop := 1 ≤ m ∧ m ≤ 6 ∧ l = UInt8.ofNat (48 + m) :: 58 :: r
theorem HeadP.size {t : ByteArray} {m : Nat} {r : List UInt8} (h : HeadP (byt t) m r) : t.size = r.length + 2 := by rw [← byt_len, h.2.2]; rfl

set_option maxHeartbeats 1000000 in
theorem iHead_yes (t : ByteArray) (m : Nat) (r : List UInt8) (w : World) (ht : t.size ≤ 1048576) (h : HeadP (byt t) m r) :
    Calls Tryz.prog 124 #[.string t] w fun e w' => ∃ t' : ByteArray, e = .returned (.tuple #[.int .i64 m, .string t', .bool true]) ∧ byt t' = r ∧ Below w.heap.size w w' := by
  obtain ⟨h1, h6, hl⟩ := id h
  have hsz := h.size
  have h0 : 0 < t.size := by omega
  have h1s : 1 < t.size := by omega
  have hd0 : t[0].toNat = m + 48 := by
    rw [← bn_at t 0 h0, hl]
    show (UInt8.ofNat (48 + m)).toNat = _
    rw [UInt8.toNat_ofNat']; omega
  have hd1 : t[1].toNat = 58 := by rw [← bn_at t 1 h1s, hl]; rfl
  have Hr : Hid (byt (t.extract 2 t.size) = r) := Lib.hid (by rw [byt_extract, List.take_of_length_le (by rw [byt_len]; omega), hl]; rfl)
  have a0 : ¬ ((t.size : Int) < 2) := by omega
  have a1 : ¬ ((t[0].toNat : Int) < 49) := by omega
  have a2 : ¬ (54 < (t[0].toNat : Int)) := by omega
  have a3 : ((t[1].toNat : Int) != 58) = false := by rw [hd1]; rfl
  have a4 : ((t[1].toNat : Int) == 58) = true := by rw [hd1]; rfl
  have Hd0 := Lib.hid hd0
  clear h hl hd0 hd1 a4 hsz
  go_enter Tryz.func124, Tryz.ntmps124
  go_wp2_with fail
  go_quiet (fail)
  go_wp2_with fail
  go_ret3
  refine ⟨t.extract 2 t.size, ?_, Hr.out, below_drewN (Below.refl _ _) _⟩
  have e : ((t[0].toNat : Int) - 48) = (m : Int) := by rw [Hd0.out]; omega
  rw [← e]; rfl
set_option maxHeartbeats 1000000 in
theorem iHead_no (t : ByteArray) (w : World) (ht : t.size ≤ 1048576) (h : ∀ m r, ¬ HeadP (byt t) m r) :
    Calls Tryz.prog 124 #[.string t] w fun e w' => e = .returned (.tuple #[.int .i64 0, .string { data := #[] }, .bool false]) ∧ w = w' := by
  by_cases h0 : t.size < 2
  · have a0 : (t.size : Int) < 2 := by omega
    clear h
    go_enter Tryz.func124, Tryz.ntmps124
    go_wp2_with fail
    go_ret3
    exact ⟨rfl, rfl⟩
  · have a0 : ¬ ((t.size : Int) < 2) := by omega
    have h1 : 0 < t.size := by omega
    have h2 : 1 < t.size := by omega
    by_cases h3 : t[0].toNat < 49
    · have a1 : ((t[0].toNat : Int) < 49) := by omega
      clear h h3
      go_enter Tryz.func124, Tryz.ntmps124
      go_wp2_with fail
      go_ret3
      exact ⟨rfl, rfl⟩
    · have a1 : ¬ ((t[0].toNat : Int) < 49) := by omega
      by_cases h4 : 54 < t[0].toNat
      · have a2 : (54 < (t[0].toNat : Int)) := by omega
        clear h h3 h4
        go_enter Tryz.func124, Tryz.ntmps124
        go_wp2_with fail
        go_ret3
        exact ⟨rfl, rfl⟩
      · have a2 : ¬ (54 < (t[0].toNat : Int)) := by omega
        have h5 : t[1] ≠ 58 := fun e => h (t[0].toNat - 48) ((byt t).drop 2) ⟨by omega, by omega, by
          have e0 := byt_drop t 0 h1
          have e1 := byt_drop t 1 h2
          rw [List.drop_zero] at e0
          rw [e0, e1, e, show 48 + (t[0].toNat - 48) = t[0].toNat by omega, UInt8.ofNat_toNat]; rfl⟩
        have a3 : ((t[1].toNat : Int) != 58) = true := by
          have := u8_ne (x := t[1]) (b := 58) (v := 58) rfl h5
          rw [bne, this]; rfl
        have a4 := u8_ne (x := t[1]) (b := 58) (v := 58) rfl h5
        clear h h3 h4 h5
        go_enter Tryz.func124, Tryz.ntmps124
        go_wp2_with fail
        go_ret3
        exact ⟨rfl, rfl⟩
end Go.Proofs.YtihfhfihladlcaaGreatDoor

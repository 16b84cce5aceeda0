/- Contracts of slices.Clone, CoversOf and PrimesOf, the program's and the reference's. -/
import Derived.Test.YtfhegdgpcjhoaaaIdeal3
import Derived.Lib.LazyBuf
namespace Go.Proofs.Ytfhegdgpcjhoaaa
open Go.RowKit
set_option linter.unusedSimpArgs false
set_option linter.unusedVariables false

set_option maxRecDepth 100000 in
theorem clone_any (a : Option Addr) (n c : Nat) (xs : List Int) (w : World) (h : IntsAt w a n xs) (hf : Fit a n c) (hn : n < 1000000000) :
    Calls Try.prog 105 #[.slice a n c] w (RetInts w xs) := by
  cases a with
  | none =>
    have hc := hf.nil rfl
    have hn0 : n = 0 := by have := hf.cap; omega
    subst hc; subst hn0
    have hxs : xs = [] := List.eq_nil_of_length_eq_zero h.len
    subst hxs
    clear h hf hn
    have hnil := run_eql_slice_nil (P := Try.prog) (t := 22) (e := 3) (a := none) (l := 0) (c := 0) (h := Try.underlying22)
    go_enter Try.func105, Try.ntmps105
    go_wp2_with fail
    go_ret
    exact ⟨none, 0, 0, rfl, Own.nil _ _ _, Below.refl _ _⟩
  | some g =>
    have Hx := Lib.hid h; have Hf := Lib.hid hf
    clear h hf
    have Hx1 := Lib.hid (Hx.out.keep (w' := w.alloc (.cells #[] 3)) (by repeat (first | exact Below.refl _ _ | assumption | refine Below.setCell ?_ (by first | omega | (simp; done) | (simp; omega)) _ | refine Below.alloc ?_ (by first | omega | (simp; done) | (simp; omega)) _ | apply Below.drew)))
    have hnil := run_eql_slice_nil (P := Try.prog) (t := 22) (e := 3) (a := some g) (l := n) (c := c) (h := Try.underlying22)
    go_enter Try.func105, Try.ntmps105
    go_wp2_with (at_builtin; refine list_ap rfl _ _ rfl w.heap.size _ _ _ _ rfl (Own.empty _ _ _ (Nat.le_refl _)) _ _ _ _ rfl Hx1.out Hf.out (by omega) (by simp) ?_; intro ad' c' w' hown' hb'; have HO := Lib.hid hown'; have HB := Lib.hid hb'; clear hown' hb')
    go_ret
    refine ⟨ad', 0 + n, c', by first | rfl | simp, ?_, ?_⟩
    · have := HO.out; simpa using this
    · exact ((Below.refl _ _).alloc (Nat.le_refl _) _).trans HB.out

theorem coverFn_any (g t : Nat) (a : Option Addr) (n c : Nat) (l : List Nat) (w : World) (ht : t < 64) (hb : w.cell? ⟨g, 0, none⟩ = some (.slice a n c)) (h : IntsAt w a n (up l)) (hl : ∀ t ∈ l, t < 64) :
    Calls Try.prog 123 #[.int .i64 t, .pointer (some ⟨g, 0, none⟩)] w fun e w' => e = .returned (.bool (l.all fun u => t &&& u != 0)) ∧ w = w' := by
  have hn := h.small
  have hlen : l.length = n := by rw [← h.len, up_len]
  have Hlen := Lib.hid hlen; clear hlen
  have Hh := Lib.hid h; have Hl := Lib.hid hl
  clear h hl
  obtain ⟨b, hb'⟩ : ∃ b, b = l.all fun u => t &&& u != 0 := ⟨_, rfl⟩
  have Hb := Lib.hid hb'
  rw [← hb']
  clear hb'
  go_enter Try.func123, Try.ntmps123
  go_wp2_with fail
  go_loop [5, 8] (fun _ i => ∃ k : Nat, k ≤ n ∧ i = .int .i64 k ∧ Hid (∀ j, j < k → (t &&& nthN l j != 0) = true)) (fun _ i => n - (intOf i).toNat)
  case atStart => exact ⟨0, Nat.zero_le _, rfl, Lib.hid fun j hj => absurd hj (Nat.not_lt_zero _)⟩
  case round =>
    obtain ⟨k, hk, rfl, hok⟩ := hrel
    by_cases hlt : k < n
    · obtain ⟨b1, o1, rfl, hc⟩ := Hh.out.cells (by omega)
      have hck := hc k hlt
      rw [nth_up] at hck
      have hu := Hl.out _ (nthN_mem (xs := l) (k := k) (by rw [Hlen.out]; exact hlt))
      obtain ⟨u, hue⟩ : ∃ u, u = nthN l k := ⟨_, rfl⟩
      rw [← hue] at hck hu
      have Hue := Lib.hid hue
      have hand := w_and t u ht hu
      clear hc hue
      cases hst : (((t &&& u : Nat) : Int) == 0)
      · go_wp2_with fail
        go_round
        case rel =>
          refine ⟨k + 1, by omega, by go_num, Lib.hid fun j hj => ?_⟩
          rcases Nat.lt_or_ge j k with h | h
          · exact hok.out j h
          · obtain rfl : j = k := by omega
            rw [← Hue.out]; rw [show (0 : Int) = ((0 : Nat) : Int) from rfl, castBeq] at hst; unfold bne; rw [hst]; rfl
        case measure => simp [intOf]; omega
      · have hbf : b = false := by
          rw [Hb.out, List.all_eq_false]
          refine ⟨u, by rw [Hue.out]; exact nthN_mem (by rw [Hlen.out]; exact hlt), ?_⟩
          rw [show (0 : Int) = ((0 : Nat) : Int) from rfl, castBeq] at hst
          unfold bne; rw [hst]; simp
        subst hbf
        go_wp2_with fail
        go_ret
        exact ⟨rfl, rfl⟩
    · obtain rfl : k = n := by omega
      have hbt : b = true := by
        rw [Hb.out, List.all_eq_true]
        intro u hu
        obtain ⟨j, hj, rfl⟩ := List.mem_iff_getElem.1 hu
        have := hok.out j (by rw [← Hlen.out]; exact hj)
        rwa [nthN_eq hj] at this
      subst hbt
      go_wp2_with fail
      go_ret
      exact ⟨rfl, rfl⟩
set_option maxRecDepth 100000 in
theorem iCovers_yes (m : Nat) (a : Option Addr) (n c : Nat) (l : List Nat) (w : World) (h : IntsAt w a n (up l)) (hm : m ≤ 6) (hok : SetsOk m (up l)) (hl : ∀ t ∈ l, t < 64) :
    Calls Try.prog 104 #[.int .i64 m, .slice a n c] w (RetInts w (up (minL (meets l (2 ^ m))))) := by
  have hx : IntsAt (w.alloc (.cells #[.slice a n c] 22)) a n (up l) := h.keep (by repeat (first | exact Below.refl _ _ | assumption | refine Below.setCell ?_ (by first | omega | (simp; done) | (simp; omega)) _ | refine Below.alloc ?_ (by first | omega | (simp; done) | (simp; omega)) _ | apply Below.drew))
  have hcell : (w.alloc (.cells #[.slice a n c] 22)).cell? ⟨w.heap.size, 0, none⟩ = some (.slice a n c) := by simp
  have Hx := Lib.hid hx; have Hok := Lib.hid hok; have Hl := Lib.hid hl; have Hcell := Lib.hid hcell
  clear hx h hok hl hcell
  have hF := pickN_Fam (fun t => l.all fun u => t &&& u != 0) (2 ^ m)
  have hcong := minL_congr (p := (pickN (fun t => l.all fun u => t &&& u != 0) (2 ^ m)).testBit) (q := meets l (2 ^ m)) (fun t ht => by rw [pickN_bit ht]; rfl)
  obtain ⟨F, hFe⟩ : ∃ F, F = pickN (fun t => l.all fun u => t &&& u != 0) (2 ^ m) := ⟨_, rfl⟩
  rw [← hFe] at hF hcong
  have HFe := Lib.hid hFe; have Hcong := Lib.hid hcong
  clear hFe hcong
  go_enter Try.func104, Try.ntmps104
  go_wp2_with (go_at_call 122; (with_reducible refine (areSets_any m a n c _ _ Hx.out true (by simp [Hok.out])).mono ?_); rintro e w' ⟨rfl, rfl⟩)
  refine (pickSets_any 123 #[.pointer (some ⟨w.heap.size, 0, none⟩)] (fun t => l.all fun u => t &&& u != 0) m _ hm (fun _ _ => rfl) (fun t ht => coverFn_any w.heap.size t a n c l _ ht Hcell.out Hx.out Hl.out)).mono ?_
  rw [← HFe.out]
  rintro e we ⟨rfl, rfl⟩
  go_wp2_with fail
  refine (minimalIn_any F _ hF).mono ?_
  rw [Hcong.out]
  rintro e w1 ⟨ad, k, d, rfl, hown, hb⟩
  have HO := Lib.hid (hown.mono (show w.heap.size ≤ _ by simp)); have HB := Lib.hid (show Below w.heap.size w w1 from Below.trans (by repeat (first | exact Below.refl _ _ | assumption | refine Below.setCell ?_ (by first | omega | (simp; done) | (simp; omega)) _ | refine Below.alloc ?_ (by first | omega | (simp; done) | (simp; omega)) _ | apply Below.drew)) (hb.mono (by simp)))
  clear hown hb
  go_wp2_with fail
  go_ret
  exact ⟨ad, k, d, rfl, HO.out, HB.out⟩

theorem iPrimes_no (p : Int) (a : Option Addr) (n c : Nat) (xs : List Int) (w : World) (h : IntsAt w a n xs) (hcap : n ≤ c) (hno : ¬ Anti p xs) :
    Calls Try.prog 60 #[.agg #[.int .i64 p, .slice a n c]] w (RetInts w []) := by
  have hx : IntsAt (w.alloc (.cells #[.int .i64 p, .slice a n c] 51)) a n xs := h.keep (by repeat (first | exact Below.refl _ _ | assumption | refine Below.setCell ?_ (by first | omega | (simp; done) | (simp; omega)) _ | refine Below.alloc ?_ (by first | omega | (simp; done) | (simp; omega)) _ | apply Below.drew))
  have Hx := Lib.hid hx; clear hx h
  have Hno := Lib.hid hno; clear hno
  have Hcap := Lib.hid hcap; clear hcap
  go_enter Try.func60, Try.ntmps60
  go_wp2_with fail
  refine (iIsIdeal_any p a n c xs _ Hx.out Hcap.out false (by simp [Hno.out])).mono ?_
  rintro e w1 ⟨rfl, hb⟩
  have HB : Hid (Below w.heap.size w w1) := Lib.hid (Below.trans (by repeat (first | exact Below.refl _ _ | assumption | refine Below.setCell ?_ (by first | omega | (simp; done) | (simp; omega)) _ | refine Below.alloc ?_ (by first | omega | (simp; done) | (simp; omega)) _ | apply Below.drew)) (hb.mono (by simp <;> omega)))
  clear hb
  go_wp2_with fail
  go_ret
  exact ⟨none, 0, 0, rfl, Own.nil _ _ _, HB.out⟩
set_option maxRecDepth 100000 in
set_option maxHeartbeats 2000000 in
theorem iPrimes_yes (m : Nat) (a : Option Addr) (n c : Nat) (l : List Nat) (w : World) (h : IntsAt w a n (up l)) (hf : Fit a n c) (hm : m ≤ 6) (hn : n ≤ 64) (hA : Anti m (up l)) (hok : SetsOk m (up l)) (hl : ∀ t ∈ l, t < 64) :
    Calls Try.prog 60 #[.agg #[.int .i64 m, .slice a n c]] w (RetInts w (up (minL (meets l (2 ^ m))))) := by
  have hx : IntsAt (w.alloc (.cells #[.int .i64 m, .slice a n c] 51)) a n (up l) := h.keep (by repeat (first | exact Below.refl _ _ | assumption | refine Below.setCell ?_ (by first | omega | (simp; done) | (simp; omega)) _ | refine Below.alloc ?_ (by first | omega | (simp; done) | (simp; omega)) _ | apply Below.drew))
  have Hx := Lib.hid hx; have HA := Lib.hid hA; have Hf := Lib.hid hf; have Hl := Lib.hid hl; have Hok := Lib.hid hok
  have xA := BoxF.new w (.int .i64 m) (.slice a n c) 51
  have XA := Lib.hid xA
  clear hx h hA hf hl xA hok
  go_enter Try.func60, Try.ntmps60
  go_wp2_with fail
  refine (iIsIdeal_any m a n c _ _ Hx.out Hf.out.cap true (by simp [HA.out])).mono ?_
  rintro e w1 ⟨rfl, hb⟩
  have HB : Hid (Below w.heap.size w w1) := Lib.hid (Below.trans (by repeat (first | exact Below.refl _ _ | assumption | refine Below.setCell ?_ (by first | omega | (simp; done) | (simp; omega)) _ | refine Below.alloc ?_ (by first | omega | (simp; done) | (simp; omega)) _ | apply Below.drew)) (hb.mono (by simp <;> omega)))
  have XA1 := Lib.hid (XA.out.keep hb (by simp))
  obtain ⟨p0, p1, _, _, _⟩ := XA1.out
  have hz : w.heap.size + 1 ≤ w1.heap.size := by have := hb.size; simp at this; omega
  have Hx1 := Lib.hid (Hx.out.keep hb)
  clear hb
  go_wp2_with fail
  have Hx2 := Lib.hid (Hx1.out.keep (Below.drew (Below.refl _ _)))
  have XA2 := Lib.hid (XA1.out.drew)
  go_region_held3 (fun W => W.cell? ⟨w.heap.size, 0, none⟩ = some (.int .i64 m) ∧ W.cell? ⟨w.heap.size, 1, none⟩ = some (.slice a n c))
    (first | exact ⟨p0, p1⟩ | exact ⟨y0, y1⟩ | exact ⟨z0, z1⟩ | go_keep)
    (first
      | (go_simp; go_at_call 105; (with_reducible refine (clone_any a n c _ _ Hx2.out Hf.out (by omega)).mono ?_); rintro e w4 ⟨ad4, n4, c4, rfl, hown4, hb4⟩; have HO4 := Lib.hid hown4; have HB4 := Lib.hid hb4; have hl4 := hown4.len; rw [up_len] at hl4; have XA4 := Lib.hid (XA2.out.keep hb4 (by simp; omega)); obtain ⟨y0, y1, _, _, _⟩ := XA4.out; clear hown4 hb4)
      | (go_simp; go_at_call 104; (with_reducible refine (iCovers_yes m ad4 n4 c4 l _ HO4.out.reads hm Hok.out Hl.out).mono ?_); rintro e w5 ⟨ad, d, r, rfl, hown, hb5⟩; have HO5 := Lib.hid hown; have HB5 := Lib.hid hb5; have XA5 := Lib.hid (XA4.out.keep hb5 (by have := HB4.out.size; simp at this; omega)); obtain ⟨z0, z1, _, _, _⟩ := XA5.out; clear hb5 hown))
  all_goals (go_wp2_with fail)
  go_ret
  have hz4 : w1.heap.size ≤ w4.heap.size := by have := HB4.out.size; simpa using this
  refine ⟨ad, d, r, rfl, HO5.out.mono (by omega), ?_⟩
  have hd : Below w.heap.size w1 w1.drew := (Below.refl _ _).drew
  exact ((HB.out.trans hd).trans (HB4.out.mono (by first | omega | (simp; omega)))).trans (HB5.out.mono (by omega))

theorem sPrimes_no (p : Int) (a : Option Addr) (n c : Nat) (xs : List Int) (w : World) (h : IntsAt w a n xs) (hno : ¬ Anti p xs) :
    Calls Try.prog 59 #[.agg #[.int .i64 p, .slice a n c]] w (RetInts w []) := by
  have hx : IntsAt (w.alloc (.cells #[.int .i64 p, .slice a n c] 51)) a n xs := h.keep (by repeat (first | exact Below.refl _ _ | assumption | refine Below.setCell ?_ (by first | omega | (simp; done) | (simp; omega)) _ | refine Below.alloc ?_ (by first | omega | (simp; done) | (simp; omega)) _ | apply Below.drew))
  have Hx := Lib.hid hx; clear hx h
  have Hno := Lib.hid hno; clear hno
  go_enter Try.func59, Try.ntmps59
  go_wp2_with fail
  refine (sIsIdeal_any p a n c xs _ Hx.out false (by simp [Hno.out])).mono ?_
  rintro e w1 ⟨rfl, hb⟩
  have HB : Hid (Below w.heap.size w w1) := Lib.hid (Below.trans (by repeat (first | exact Below.refl _ _ | assumption | refine Below.setCell ?_ (by first | omega | (simp; done) | (simp; omega)) _ | refine Below.alloc ?_ (by first | omega | (simp; done) | (simp; omega)) _ | apply Below.drew)) (hb.mono (by simp <;> omega)))
  clear hb
  go_wp2_with fail
  go_ret
  exact ⟨_, 0, 0, rfl, Own.empty _ _ _ HB.out.size, HB.out.alloc HB.out.size _⟩
theorem sPrimes_yes (m : Nat) (a : Option Addr) (n c : Nat) (l : List Nat) (w : World) (h : IntsAt w a n (up l)) (hm : m ≤ 6) (hA : Anti m (up l)) (hl : ∀ t ∈ l, t < 64) :
    Calls Try.prog 59 #[.agg #[.int .i64 m, .slice a n c]] w (RetInts w (up (minL (meets l (2 ^ m))))) := by
  have hx : IntsAt (w.alloc (.cells #[.int .i64 m, .slice a n c] 51)) a n (up l) := h.keep (by repeat (first | exact Below.refl _ _ | assumption | refine Below.setCell ?_ (by first | omega | (simp; done) | (simp; omega)) _ | refine Below.alloc ?_ (by first | omega | (simp; done) | (simp; omega)) _ | apply Below.drew))
  have Hx := Lib.hid hx; have HA := Lib.hid hA; have Hl := Lib.hid hl
  have xA := BoxF.new w (.int .i64 m) (.slice a n c) 51
  have XA := Lib.hid xA
  clear hx h hA hl xA
  go_enter Try.func59, Try.ntmps59
  go_wp2_with fail
  refine (sIsIdeal_any m a n c _ _ Hx.out true (by simp [HA.out])).mono ?_
  rintro e w1 ⟨rfl, hb⟩
  have HB : Hid (Below w.heap.size w w1) := Lib.hid (Below.trans (by repeat (first | exact Below.refl _ _ | assumption | refine Below.setCell ?_ (by first | omega | (simp; done) | (simp; omega)) _ | refine Below.alloc ?_ (by first | omega | (simp; done) | (simp; omega)) _ | apply Below.drew)) (hb.mono (by simp <;> omega)))
  obtain ⟨p0, p1, _, _, _⟩ := XA.out.keep hb (by simp)
  have hz : w.heap.size + 1 ≤ w1.heap.size := by have := hb.size; simp at this; omega
  have Hx1 := Lib.hid (Hx.out.keep hb)
  clear hb
  go_wp2_with fail
  refine (l8Covers_any m a n c l _ Hx1.out hm Hl.out).mono ?_
  rintro e w2 ⟨ad, k, d, rfl, hown, hb⟩
  have HO := Lib.hid (hown.mono (show w.heap.size ≤ _ by omega)); have HB2 := Lib.hid (HB.out.trans (hb.mono (by omega)))
  clear hown hb
  go_wp2_with fail
  go_ret
  exact ⟨ad, k, d, rfl, HO.out, HB2.out⟩
end Go.Proofs.Ytfhegdgpcjhoaaa

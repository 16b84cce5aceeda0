/- Contracts of OtherGraph, the program's and the reference's. -/
import Derived.Test.YtplbegfebnnbaaaNeigh
import Derived.Test.YtplbegfebnnbaaaHelpS
import Derived.Test.YtplbegfebnnbaaaSet3
import Derived.Deep.RegionWith
import Derived.Deep.DeepCutAuto
namespace Go.Proofs.Ytplbegfebnnbaaa
open Go.RowKit
set_option linter.unusedSimpArgs false
set_option linter.unusedVariables false

/-- a set of two points that is no edge -/
def othQ (l : List Nat) (s : Nat) : Bool := decide (sz s = 2) && !l.contains s
def othL (l : List Nat) (k : Nat) : List Nat := (List.range k).filter (othQ l)
theorem othL_yes {l : List Nat} {k : Nat} (h : othQ l k = true) : othL l (k + 1) = othL l k ++ [k] := by unfold othL; rw [List.range_succ, List.filter_append]; simp [h]
theorem othL_no {l : List Nat} {k : Nat} (h : othQ l k = false) : othL l (k + 1) = othL l k := by unfold othL; rw [List.range_succ, List.filter_append]; simp [h]
theorem othL_len (l : List Nat) (k : Nat) : (othL l k).length ≤ k := by unfold othL; exact Nat.le_trans (List.length_filter_le _ _) (by simp)
theorem oth_ord (l : List Nat) (m : Nat) (hm : m ≤ 6) : ord (fun s => decide (s < 2 ^ m) && othQ l s) = othL l (2 ^ m) := by
  have h64 : 2 ^ m ≤ 64 := pow_le64 hm
  have hsort : (othL l (2 ^ m)).Pairwise fun a b => rank a < rank b := by
    unfold othL
    have h1 : ((List.range (2 ^ m)).filter (othQ l)).Pairwise (· < ·) := List.Pairwise.filter _ List.pairwise_lt_range
    refine List.Pairwise.imp_of_mem ?_ h1
    intro a b ha hb hab
    have ha2 := (List.mem_filter.1 ha).2
    have hb2 := (List.mem_filter.1 hb).2
    unfold othQ at ha2 hb2
    simp at ha2 hb2
    unfold rank
    omega
  rw [← ord_of_sorted hsort (fun s hs => by
    unfold othL at hs
    have := List.mem_range.1 (List.mem_filter.1 hs).1
    omega)]
  apply ord_congr
  intro s hs
  rw [Bool.eq_iff_iff]
  unfold othL
  simp

theorem l2Has_any (a : Option Addr) (n c : Nat) (l : List Nat) (s : Nat) (w : World) (h : IntsAt w a n (up l)) :
    Calls Try.prog 146 #[.slice a n c, .int .i64 s] w fun e w' => e = .returned (.bool (l.contains s)) ∧ w = w' := by
  have hn := h.small
  have hlen : l.length = n := by rw [← h.len, up_len]
  have Hlen := Lib.hid hlen; clear hlen
  have Hh := Lib.hid h; clear h
  obtain ⟨b, hb⟩ : ∃ b, b = l.contains s := ⟨_, rfl⟩
  have Hb := Lib.hid hb
  rw [← hb]
  clear hb
  go_enter Try.func146, Try.ntmps146
  go_wp2_with fail
  go_loop [5] (fun i => ∃ k : Nat, k ≤ n ∧ i = .int .i64 k ∧ Hid (∀ j, j < k → nthN l j ≠ s)) (fun i => n - (intOf i).toNat)
  case atStart => exact ⟨0, Nat.zero_le _, rfl, Lib.hid fun j hj => absurd hj (Nat.not_lt_zero _)⟩
  case round =>
    obtain ⟨k, hk, rfl, hok⟩ := hrel
    by_cases hlt : k < n
    · obtain ⟨b1, o1, rfl, hc⟩ := Hh.out.cells (by omega)
      have hck := hc k hlt
      rw [nth_up] at hck
      obtain ⟨t, hte⟩ : ∃ t, t = nthN l k := ⟨_, rfl⟩
      rw [← hte] at hck
      have Hte := Lib.hid hte
      clear hc hte
      cases hst : ((t : Int) == (s : Int))
      · go_wp2_with fail
        go_round
        case rel =>
          refine ⟨k + 1, by omega, by go_num, Lib.hid fun j hj => ?_⟩
          rcases Nat.lt_or_ge j k with h | h
          · exact hok.out j h
          · obtain rfl : j = k := by omega
            rw [← Hte.out]
            rw [castBeq] at hst; simpa using hst
        case measure => simp [intOf]; omega
      · have hbt : b = true := by
          rw [castBeq] at hst
          rw [Hb.out, List.contains_iff_mem]
          have : t = s := by simpa using hst
          rw [← this, Hte.out]
          exact nthN_mem (by rw [Hlen.out]; exact hlt)
        subst hbt
        go_wp2_with fail
        go_ret
        exact ⟨rfl, rfl⟩
    · obtain rfl : k = n := by omega
      have hbt : b = false := by
        rw [Hb.out, ← Bool.not_eq_true, List.contains_iff_mem]
        intro hm
        obtain ⟨i, hi, he⟩ := List.mem_iff_getElem.1 hm
        exact hok.out i (by rw [← Hlen.out]; exact hi) (by rw [nthN_eq hi]; exact he)
      subst hbt
      have hkk : ¬ ((k : Int) < k) := by omega
      go_wp2_with fail
      go_ret
      exact ⟨rfl, rfl⟩

theorem sOther_no (p : Int) (a : Option Addr) (n c : Nat) (xs : List Int) (w : World) (h : IntsAt w a n xs) (hP : ¬ GraphP p xs) :
    Calls Try.prog 112 #[.agg #[.int .i64 p, .slice a n c]] w (RetBox2 w 0 [] false) := by
  have Hh := Lib.hid h; clear h
  have HP := Lib.hid hP; clear hP
  go_enter Try.func112, Try.ntmps112
  go_wp2_with fail
  refine (sIsGraph_any p a n c xs _ (Hh.out.keep (by repeat (first | exact Below.refl _ _ | assumption | refine Below.setCell ?_ (by first | omega | (simp; done) | (simp; omega)) _ | refine Below.alloc ?_ (by first | omega | (simp; done) | (simp; omega)) _ | apply Below.drew))) false (by simp [HP.out])).mono ?_
  rintro e w1 ⟨rfl, hb⟩
  obtain ⟨hc, hf⟩ := bcell hb
  have hz : w.heap.size + 2 ≤ w1.heap.size := by have := hb.size; simp at this; omega
  have hbl : Below w.heap.size w w1 := Below.trans (by repeat (first | exact Below.refl _ _ | assumption | refine Below.setCell ?_ (by first | omega | (simp; done) | (simp; omega)) _ | refine Below.alloc ?_ (by first | omega | (simp; done) | (simp; omega)) _ | apply Below.drew)) (hb.mono (by simp; omega))
  go_wp2_with fail
  refine bodyPost_ret (v := .tuple #[.agg #[.int .i64 0, .slice none 0 0], .bool false]) (by simp [results, Try.results112, go_sem, hc, hz]) rfl ⟨none, 0, 0, rfl, Own.nil _ _ _, (by repeat (first | exact Below.refl _ _ | assumption | refine Below.setCell ?_ (by first | omega | (simp; done) | (simp; omega)) _ | refine Below.alloc ?_ (by first | omega | (simp; done) | (simp; omega)) _ | apply Below.drew))⟩
set_option maxHeartbeats 4000000 in
theorem sOther_yes (m : Nat) (a : Option Addr) (n c : Nat) (l : List Nat) (w : World) (h : IntsAt w a n (up l)) (hP : GraphP m (up l)) :
    Calls Try.prog 112 #[.agg #[.int .i64 m, .slice a n c]] w (RetBox2 w m (up (othL l (2 ^ m))) true) := by
  have hm6 : m ≤ 6 := by have := hP.2.1; omega
  have hm8 : m < 8 := by omega
  have HP := Lib.hid hP; clear hP
  have Hh := Lib.hid h; clear h
  obtain ⟨N, hN⟩ : ∃ N, N = 2 ^ m := ⟨_, rfl⟩
  have hN64 : N ≤ 64 := by rw [hN]; exact pow_le64 hm6
  have hNe : (2 : Int) ^ m = (N : Int) := by rw [hN]; norm_cast
  rw [← hN]
  have HN := Lib.hid hN; clear hN
  go_enter Try.func112, Try.ntmps112
  go_wp2_with fail
  refine (sIsGraph_any m a n c _ _ (Hh.out.keep (by repeat (first | exact Below.refl _ _ | assumption | refine Below.setCell ?_ (by first | omega | (simp; done) | (simp; omega)) _ | refine Below.alloc ?_ (by first | omega | (simp; done) | (simp; omega)) _ | apply Below.drew))) true (by simp [HP.out])).mono ?_
  rintro e w1 ⟨rfl, hb⟩
  have hz : w.heap.size + 2 ≤ w1.heap.size := by have := hb.size; simp at this; omega
  have Hbl : Hid (Below w.heap.size w w1) := Lib.hid (Below.trans (by repeat (first | exact Below.refl _ _ | assumption | refine Below.setCell ?_ (by first | omega | (simp; done) | (simp; omega)) _ | refine Below.alloc ?_ (by first | omega | (simp; done) | (simp; omega)) _ | apply Below.drew)) (hb.mono (by simp; omega)))
  have xA := ((BoxF.new w (.int .i64 m) (.slice a n c) 30).alloc (.cells #[.int .i64 0, .slice none 0 0] 30)).keep hb (by simp; omega)
  have xR := (BoxF.new (w.alloc (.cells #[.int .i64 m, .slice a n c] 30)) (.int .i64 0) (.slice none 0 0) 30).keep hb (by simp)
  have eR : (w.alloc (.cells #[.int .i64 m, .slice a n c] 30)).heap.size = w.heap.size + 1 := by simp
  rw [eR] at xR
  have XA := Lib.hid xA; have XR := Lib.hid xR
  obtain ⟨a0, a1, _, _, _⟩ := xA
  clear hb xR eR
  go_wp2_with fail
  obtain ⟨B2, hB2⟩ : ∃ B2, B2 = w1.heap.size + 1 := ⟨_, rfl⟩
  have HB2 := Lib.hid hB2; clear hB2
  go_loopw [5] (fun i wr => ∃ I : Nat, I ≤ N ∧ i = .int .i64 I ∧ Below w1.heap.size w1 wr ∧ ∃ ad k d, k = (othL l I).length ∧ BoxF wr w1.heap.size (.int .i64 m) (.slice ad k d) ∧ Own 3 wr B2 ad k d (up (othL l I))) (fun i _ => N - (intOf i).toNat)
  case atStart => exact ⟨0, Nat.zero_le _, rfl, (Below.refl _ _).alloc (Nat.le_refl _) _, none, 0, 0, rfl, BoxF.new _ _ _ _, Own.nil _ _ _⟩
  case round =>
    obtain ⟨I, hI, rfl, hb, ad, k, d, hk, xO, hown⟩ := hrel
    have xA2 := XA.out.keep hb (by omega)
    have XO := Lib.hid xO
    have Hb := Lib.hid hb
    obtain ⟨a20, a21, _, _, _⟩ := xA2
    obtain ⟨o0, o1, _, of1, olt⟩ := xO
    have hh := Hh.out.keep (Hbl.out.trans (hb.mono (by omega)))
    have Hh2 := Lib.hid hh
    have Hown := Lib.hid hown
    have Hk := Lib.hid hk
    have hkI : k ≤ I := by rw [hk]; exact othL_len l I
    clear a0 a1 hb hh hown hk
    by_cases hlt : I < N
    · have hlt' : (I : Int) < 2 ^ m := by rw [hNe]; omega
      have hI64 : I < 64 := by omega
      cases hz2 : (((sz I : Nat) : Int) == 2)
      · have hq : othQ l I = false := by unfold othQ; simp at hz2 ⊢; intro h; omega
        have Hq := Lib.hid hq; clear hq
        go_wp2_with (go_at_call 122; (with_reducible refine (l2Size_any I _ hI64).mono ?_); rintro e w' ⟨rfl, rfl⟩)
        go_roundw
        case rel => exact ⟨I + 1, by omega, by go_num, Hb.out, ad, k, d, by rw [othL_no Hq.out]; exact Hk.out, XO.out, by rw [othL_no Hq.out]; exact Hown.out⟩
        case measure => simp [intOf]; omega
      · cases hcon : l.contains I
        · have hq : othQ l I = true := by unfold othQ; rw [hcon]; simp at hz2 ⊢; omega
          have Hq := Lib.hid hq; have Hcon := Lib.hid hcon; clear hq
          have hB : B2 ≤ wr.heap.size := by have := HB2.out; omega
          have hg2 : w1.heap.size < B2 := by have := HB2.out; omega
          go_wp2_with (first | (go_at_call 122; (with_reducible refine (l2Size_any I _ hI64).mono ?_); rintro e w' ⟨rfl, rfl⟩) | (go_at_call 146; refine (l2Has_any a n c l I _ Hh2.out).mono ?_; rw [Hcon.out]; rintro e we ⟨rfl, rfl⟩) | (at_builtin; refine ap rfl _ _ rfl B2 _ _ _ _ _ rfl Hown.out rfl (by omega) hB ?_; intro ad' d' w' hown' hb'; have xO' := XO.out.keep hb' hg2; have XO' := Lib.hid xO'; obtain ⟨p0, p1, pf0, pf1, plt⟩ := xO'; have Hb' := Lib.hid hb'; clear hb'))
          go_roundw
          case rel =>
            refine ⟨I + 1, by omega, by go_num, (Hb.out.trans (Hb'.out.mono (by omega))).setCell (Nat.le_refl _) _, ad', k + 1, d', by rw [othL_yes Hq.out, List.length_append, ← Hk.out]; rfl, XO'.out.set1 _, ?_⟩
            rw [othL_yes Hq.out, up_append]
            exact hown'.setBelow (i := 1) (.slice ad' (k + 1 : Nat) d') hg2
          case measure => simp [intOf]; omega
        · have hq : othQ l I = false := by unfold othQ; rw [hcon]; simp
          have Hq := Lib.hid hq; have Hcon := Lib.hid hcon; clear hq
          go_wp2_with (first | (go_at_call 122; (with_reducible refine (l2Size_any I _ hI64).mono ?_); rintro e w' ⟨rfl, rfl⟩) | (go_at_call 146; refine (l2Has_any a n c l I _ Hh2.out).mono ?_; rw [Hcon.out]; rintro e we ⟨rfl, rfl⟩))
          go_roundw
          case rel => exact ⟨I + 1, by omega, by go_num, Hb.out, ad, k, d, by rw [othL_no Hq.out]; exact Hk.out, XO.out, by rw [othL_no Hq.out]; exact Hown.out⟩
          case measure => simp [intOf]; omega
    · obtain rfl : I = N := by omega
      have xR2 := XR.out.keep Hb.out (by omega)
      obtain ⟨q0, q1, qf0, qf1, qlt⟩ := xR2
      have hmm : ¬ ((I : Int) < 2 ^ m) := by rw [hNe]; omega
      go_wp2_with fail
      refine bodyPost_ret (v := .tuple #[.agg #[.int .i64 m, .slice ad k d], .bool true]) (by simp [results, Try.results112, go_sem, q0, q1]) rfl ⟨ad, k, d, rfl, ?_, ?_⟩
      · refine ((Hown.out.setBelow _ ?_).setBelow _ ?_).mono ?_ <;> (have := HB2.out; omega)
      · exact ((Hbl.out.trans (Hb.out.mono (by omega))).setCell (by simp) _).setCell (by simp) _

end Go.Proofs.Ytplbegfebnnbaaa

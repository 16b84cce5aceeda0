/- Contracts of OtherGraph, the program's and the reference's. -/
import Derived.Test.YthijccgbkmappaaNeigh
import Derived.Test.YthijccgbkmappaaHelpS
import Derived.Test.YthijccgbkmappaaSet3
import Derived.Deep.RegionWith
import Derived.Deep.DeepCutAuto
namespace Go.Proofs.Ythijccgbkmappaa
open Go.RowKit
set_option linter.unusedSimpArgs false
set_option linter.unusedVariables false

/-- a set of two points that is no edge -/
def othQ (l : List Nat) (s : Nat) : Bool := decide (sz s = 2) && !l.contains s
def othL (l : List Nat) (k : Nat) : List Nat := (List.range k).filter (othQ l)
theorem othL_yes {l : List Nat} {k : Nat} (h : othQ l k = true) : othL l (k + 1) = othL l k ++ [k] := by unfold othL; rw [List.range_succ, List.filter_append]; simp [h]
theorem othL_no {l : List Nat} {k : Nat} (h : othQ l k = false) : othL l (k + 1) = othL l k := by unfold othL; rw [List.range_succ, List.filter_append]; simp [h]
theorem othL_len (l : List Nat) (k : Nat) : (othL l k).length ≤ k := by unfold othL; exact Nat.le_trans (List.length_filter_le _ _) (by simp)
theorem oth_ord (l : List Nat) (m : Nat) (hm : m ≤ 6) : ord (fun s => decide (s < 2 ^ m) && othQ l s) = othL l (2 ^ m) := by
  have h64 : 2 ^ m ≤ 64 := pow_le64 hm
  have hsort : (othL l (2 ^ m)).Pairwise fun a b => rank a < rank b := by
    unfold othL
    have h1 : ((List.range (2 ^ m)).filter (othQ l)).Pairwise (· < ·) := List.Pairwise.filter _ List.pairwise_lt_range
    refine List.Pairwise.imp_of_mem ?_ h1
    intro a b ha hb hab
    have ha2 := (List.mem_filter.1 ha).2
    have hb2 := (List.mem_filter.1 hb).2
    unfold othQ at ha2 hb2
    simp at ha2 hb2
    unfold rank
    omega
  rw [← ord_of_sorted hsort (fun s hs => by
    unfold othL at hs
    have := List.mem_range.1 (List.mem_filter.1 hs).1
    omega)]
  apply ord_congr
  intro s hs
  rw [Bool.eq_iff_iff]
  unfold othL
  simp

theorem l2Has_any (a : Option Addr) (n c : Nat) (l : List Nat) (s : Nat) (w : World) (h : IntsAt w a n (up l)) :
    Calls Try.prog 74 #[.slice a n c, .int .i64 s] w fun e w' => e = .returned (.bool (l.contains s)) ∧ w = w' := by
  have hn := h.small
  have hlen : l.length = n := by rw [← h.len, up_len]
  have Hlen := Lib.hid hlen; clear hlen
  have Hh := Lib.hid h; clear h
  obtain ⟨b, hb⟩ : ∃ b, b = l.contains s := ⟨_, rfl⟩
  have Hb := Lib.hid hb
  rw [← hb]
  clear hb
  go_enter Try.func74, Try.ntmps74
  go_wp2_with fail
  go_loop [5] (fun i => ∃ k : Nat, k ≤ n ∧ i = .int .i64 k ∧ Hid (∀ j, j < k → nthN l j ≠ s)) (fun i => n - (intOf i).toNat)
  case atStart => exact ⟨0, Nat.zero_le _, rfl, Lib.hid fun j hj => absurd hj (Nat.not_lt_zero _)⟩
  case round =>
    obtain ⟨k, hk, rfl, hok⟩ := hrel
    by_cases hlt : k < n
    · obtain ⟨b1, o1, rfl, hc⟩ := Hh.out.cells (by omega)
      have hck := hc k hlt
      rw [nth_up] at hck
      obtain ⟨t, hte⟩ : ∃ t, t = nthN l k := ⟨_, rfl⟩
      rw [← hte] at hck
      have Hte := Lib.hid hte
      clear hc hte
      cases hst : ((t : Int) == (s : Int))
      · go_wp2_with fail
        go_round
        case rel =>
          refine ⟨k + 1, by omega, by go_num, Lib.hid fun j hj => ?_⟩
          rcases Nat.lt_or_ge j k with h | h
          · exact hok.out j h
          · obtain rfl : j = k := by omega
            rw [← Hte.out]
            rw [castBeq] at hst; simpa using hst
        case measure => simp [intOf]; omega
      · have hbt : b = true := by
          rw [castBeq] at hst
          rw [Hb.out, List.contains_iff_mem]
          have : t = s := by simpa using hst
          rw [← this, Hte.out]
          exact nthN_mem (by rw [Hlen.out]; exact hlt)
        subst hbt
        go_wp2_with fail
        go_ret
        exact ⟨rfl, rfl⟩
    · obtain rfl : k = n := by omega
      have hbt : b = false := by
        rw [Hb.out, ← Bool.not_eq_true, List.contains_iff_mem]
        intro hm
        obtain ⟨i, hi, he⟩ := List.mem_iff_getElem.1 hm
        exact hok.out i (by rw [← Hlen.out]; exact hi) (by rw [nthN_eq hi]; exact he)
      subst hbt
      have hkk : ¬ ((k : Int) < k) := by omega
      go_wp2_with fail
      go_ret
      exact ⟨rfl, rfl⟩

theorem sOther_no (p : Int) (a : Option Addr) (n c : Nat) (xs : List Int) (w : World) (h : IntsAt w a n xs) (hP : ¬ GraphP p xs) :
    Calls Try.prog 50 #[.agg #[.int .i64 p, .slice a n c]] w (RetBox2 w 0 [] false) := by
  have Hh := Lib.hid h; clear h
  have HP := Lib.hid hP; clear hP
  go_enter Try.func50, Try.ntmps50
  go_wp2_with fail
  refine (sIsGraph_any p a n c xs _ (Hh.out.keep (by repeat (first | exact Below.refl _ _ | assumption | refine Below.setCell ?_ (by first | omega | (simp; done) | (simp; omega)) _ | refine Below.alloc ?_ (by first | omega | (simp; done) | (simp; omega)) _ | apply Below.drew))) false (by simp [HP.out])).mono ?_
  rintro e w1 ⟨rfl, hb⟩
  obtain ⟨hc, hf⟩ := bcell hb
  have hz : w.heap.size + 2 ≤ w1.heap.size := by have := hb.size; simp at this; omega
  have hbl : Below w.heap.size w w1 := Below.trans (by repeat (first | exact Below.refl _ _ | assumption | refine Below.setCell ?_ (by first | omega | (simp; done) | (simp; omega)) _ | refine Below.alloc ?_ (by first | omega | (simp; done) | (simp; omega)) _ | apply Below.drew)) (hb.mono (by simp; omega))
  go_wp2_with fail
  refine bodyPost_ret (v := .tuple #[.agg #[.int .i64 0, .slice none 0 0], .bool false]) (by simp [results, Try.results50, go_sem, hc, hz]) rfl ⟨none, 0, 0, rfl, Own.nil _ _ _, (by repeat (first | exact Below.refl _ _ | assumption | refine Below.setCell ?_ (by first | omega | (simp; done) | (simp; omega)) _ | refine Below.alloc ?_ (by first | omega | (simp; done) | (simp; omega)) _ | apply Below.drew))⟩
set_option maxHeartbeats 4000000 in
theorem sOther_yes (m : Nat) (a : Option Addr) (n c : Nat) (l : List Nat) (w : World) (h : IntsAt w a n (up l)) (hP : GraphP m (up l)) :
    Calls Try.prog 50 #[.agg #[.int .i64 m, .slice a n c]] w (RetBox2 w m (up (othL l (2 ^ m))) true) := by
  have hm6 : m ≤ 6 := by have := hP.2.1; omega
  have hm8 : m < 8 := by omega
  have HP := Lib.hid hP; clear hP
  have Hh := Lib.hid h; clear h
  obtain ⟨N, hN⟩ : ∃ N, N = 2 ^ m := ⟨_, rfl⟩
  have hN64 : N ≤ 64 := by rw [hN]; exact pow_le64 hm6
  have hNe : (2 : Int) ^ m = (N : Int) := by rw [hN]; norm_cast
  rw [← hN]
  have HN := Lib.hid hN; clear hN
  go_enter Try.func50, Try.ntmps50
  go_wp2_with fail
  refine (sIsGraph_any m a n c _ _ (Hh.out.keep (by repeat (first | exact Below.refl _ _ | assumption | refine Below.setCell ?_ (by first | omega | (simp; done) | (simp; omega)) _ | refine Below.alloc ?_ (by first | omega | (simp; done) | (simp; omega)) _ | apply Below.drew))) true (by simp [HP.out])).mono ?_
  rintro e w1 ⟨rfl, hb⟩
  have hz : w.heap.size + 2 ≤ w1.heap.size := by have := hb.size; simp at this; omega
  have Hbl : Hid (Below w.heap.size w w1) := Lib.hid (Below.trans (by repeat (first | exact Below.refl _ _ | assumption | refine Below.setCell ?_ (by first | omega | (simp; done) | (simp; omega)) _ | refine Below.alloc ?_ (by first | omega | (simp; done) | (simp; omega)) _ | apply Below.drew)) (hb.mono (by simp; omega)))
  have xA := ((BoxF.new w (.int .i64 m) (.slice a n c) 42).alloc (.cells #[.int .i64 0, .slice none 0 0] 42)).keep hb (by simp; omega)
  have xR := (BoxF.new (w.alloc (.cells #[.int .i64 m, .slice a n c] 42)) (.int .i64 0) (.slice none 0 0) 42).keep hb (by simp)
  have eR : (w.alloc (.cells #[.int .i64 m, .slice a n c] 42)).heap.size = w.heap.size + 1 := by simp
  rw [eR] at xR
  have XA := Lib.hid xA; have XR := Lib.hid xR
  obtain ⟨a0, a1, _, _, _⟩ := xA
  clear hb xR eR
  go_wp2_with fail
  obtain ⟨B2, hB2⟩ : ∃ B2, B2 = w1.heap.size + 1 := ⟨_, rfl⟩
  have HB2 := Lib.hid hB2; clear hB2
  go_loopw [5] (fun i wr => ∃ I : Nat, I ≤ N ∧ i = .int .i64 I ∧ Below w1.heap.size w1 wr ∧ ∃ ad k d, k = (othL l I).length ∧ BoxF wr w1.heap.size (.int .i64 m) (.slice ad k d) ∧ Own 3 wr B2 ad k d (up (othL l I))) (fun i _ => N - (intOf i).toNat)
  case atStart => exact ⟨0, Nat.zero_le _, rfl, (Below.refl _ _).alloc (Nat.le_refl _) _, none, 0, 0, rfl, BoxF.new _ _ _ _, Own.nil _ _ _⟩
  case round =>
    obtain ⟨I, hI, rfl, hb, ad, k, d, hk, xO, hown⟩ := hrel
    have xA2 := XA.out.keep hb (by omega)
    have XO := Lib.hid xO
    have Hb := Lib.hid hb
    obtain ⟨a20, a21, _, _, _⟩ := xA2
    obtain ⟨o0, o1, _, of1, olt⟩ := xO
    have hh := Hh.out.keep (Hbl.out.trans (hb.mono (by omega)))
    have Hh2 := Lib.hid hh
    have Hown := Lib.hid hown
    have Hk := Lib.hid hk
    have hkI : k ≤ I := by rw [hk]; exact othL_len l I
    clear a0 a1 hb hh hown hk
    by_cases hlt : I < N
    · have hlt' : (I : Int) < 2 ^ m := by rw [hNe]; omega
      have hI64 : I < 64 := by omega
      cases hz2 : (((sz I : Nat) : Int) == 2)
      · have hq : othQ l I = false := by unfold othQ; simp at hz2 ⊢; intro h; omega
        have Hq := Lib.hid hq; clear hq
        go_wp2_with (go_at_call 66; (with_reducible refine (l2Size_any I _ hI64).mono ?_); rintro e w' ⟨rfl, rfl⟩)
        go_roundw
        case rel => exact ⟨I + 1, by omega, by go_num, Hb.out, ad, k, d, by rw [othL_no Hq.out]; exact Hk.out, XO.out, by rw [othL_no Hq.out]; exact Hown.out⟩
        case measure => simp [intOf]; omega
      · cases hcon : l.contains I
        · have hq : othQ l I = true := by unfold othQ; rw [hcon]; simp at hz2 ⊢; omega
          have Hq := Lib.hid hq; have Hcon := Lib.hid hcon; clear hq
          have hB : B2 ≤ wr.heap.size := by have := HB2.out; omega
          have hg2 : w1.heap.size < B2 := by have := HB2.out; omega
          go_wp2_with (first | (go_at_call 66; (with_reducible refine (l2Size_any I _ hI64).mono ?_); rintro e w' ⟨rfl, rfl⟩) | (go_at_call 74; refine (l2Has_any a n c l I _ Hh2.out).mono ?_; rw [Hcon.out]; rintro e we ⟨rfl, rfl⟩) | (at_builtin; refine ap rfl _ _ rfl B2 _ _ _ _ _ rfl Hown.out rfl (by omega) hB ?_; intro ad' d' w' hown' hb'; have xO' := XO.out.keep hb' hg2; have XO' := Lib.hid xO'; obtain ⟨p0, p1, pf0, pf1, plt⟩ := xO'; have Hb' := Lib.hid hb'; clear hb'))
          go_roundw
          case rel =>
            refine ⟨I + 1, by omega, by go_num, (Hb.out.trans (Hb'.out.mono (by omega))).setCell (Nat.le_refl _) _, ad', k + 1, d', by rw [othL_yes Hq.out, List.length_append, ← Hk.out]; rfl, XO'.out.set1 _, ?_⟩
            rw [othL_yes Hq.out, up_append]
            exact hown'.setBelow (i := 1) (.slice ad' (k + 1 : Nat) d') hg2
          case measure => simp [intOf]; omega
        · have hq : othQ l I = false := by unfold othQ; rw [hcon]; simp
          have Hq := Lib.hid hq; have Hcon := Lib.hid hcon; clear hq
          go_wp2_with (first | (go_at_call 66; (with_reducible refine (l2Size_any I _ hI64).mono ?_); rintro e w' ⟨rfl, rfl⟩) | (go_at_call 74; refine (l2Has_any a n c l I _ Hh2.out).mono ?_; rw [Hcon.out]; rintro e we ⟨rfl, rfl⟩))
          go_roundw
          case rel => exact ⟨I + 1, by omega, by go_num, Hb.out, ad, k, d, by rw [othL_no Hq.out]; exact Hk.out, XO.out, by rw [othL_no Hq.out]; exact Hown.out⟩
          case measure => simp [intOf]; omega
    · obtain rfl : I = N := by omega
      have xR2 := XR.out.keep Hb.out (by omega)
      obtain ⟨q0, q1, qf0, qf1, qlt⟩ := xR2
      have hmm : ¬ ((I : Int) < 2 ^ m) := by rw [hNe]; omega
      go_wp2_with fail
      refine bodyPost_ret (v := .tuple #[.agg #[.int .i64 m, .slice ad k d], .bool true]) (by simp [results, Try.results50, go_sem, q0, q1]) rfl ⟨ad, k, d, rfl, ?_, ?_⟩
      · refine ((Hown.out.setBelow _ ?_).setBelow _ ?_).mono ?_ <;> (have := HB2.out; omega)
      · exact ((Hbl.out.trans (Hb.out.mono (by omega))).setCell (by simp) _).setCell (by simp) _

theorem othGn_any (F b s : Nat) (w : World) (hF : Fam F) (hs : s < 64) (hc : w.cell? ⟨b, 0, none⟩ = some (.int .u64 F)) :
    Calls Try.prog 77 #[.int .i64 s, .pointer (some ⟨b, 0, none⟩)] w fun e w' => e = .returned (.bool (decide (sz s = 2) && !F.testBit s)) ∧ w = w' := by
  have hk : (((sz s : Nat) : Int) == 2) = decide (sz s = 2) := by
    rw [Bool.eq_iff_iff]; simp; omega
  have Hk := Lib.hid hk; clear hk
  obtain ⟨d, hd⟩ : ∃ d, d = decide (sz s = 2) := ⟨_, rfl⟩
  rw [← hd]
  have Hd := Lib.hid hd; clear hd
  have hz : (((sz s : Nat) : Int) == 2) = d := by rw [Hk.out, Hd.out]
  cases d
  · go_enter Try.func77, Try.ntmps77
    go_wp2_with (first | (go_at_call 67; (with_reducible refine (SizeOf_any s _ hs).mono ?_); rintro e w' ⟨rfl, rfl⟩) | (go_at_call 78; (with_reducible refine (hasSet_any F s _ hF hs).mono ?_); rintro e w' ⟨rfl, rfl⟩))
    go_ret
    exact ⟨rfl, rfl⟩
  · go_enter Try.func77, Try.ntmps77
    go_wp2_with (first | (go_at_call 67; (with_reducible refine (SizeOf_any s _ hs).mono ?_); rintro e w' ⟨rfl, rfl⟩) | (go_at_call 78; (with_reducible refine (hasSet_any F s _ hF hs).mono ?_); rintro e w' ⟨rfl, rfl⟩))
    go_ret
    exact ⟨ret_bool (by simp), rfl⟩
/-- the family so far -/
def othG (F k : Nat) : Nat := fam fun s => decide (s < k) && (decide (sz s = 2) && !F.testBit s)
theorem othG_zero (F : Nat) : othG F 0 = 0 := (fam_congr fun s _ => by simp).trans fam_zero
theorem othG_yes {F k : Nat} (hk : k < 64) (h : (decide (sz k = 2) && !F.testBit k) = true) : othG F k ||| 2 ^ k = othG F (k + 1) := by
  unfold othG
  rw [fam_or_bit _ hk]
  apply fam_congr
  intro s _
  by_cases hs : s = k
  · subst hs; simp at h ⊢; exact h
  · have : (s < k + 1) = (s < k) := by apply propext; omega
    simp [hs, this]
theorem othG_no {F k : Nat} (h : (decide (sz k = 2) && !F.testBit k) = false) : othG F (k + 1) = othG F k := by
  unfold othG
  apply fam_congr
  intro s _
  by_cases hs : s = k
  · subst hs; rw [h]; simp
  · have : (s < k + 1) = (s < k) := by apply propext; omega
    simp [this]
set_option maxHeartbeats 1000000 in
theorem pickOther_any (m F b : Nat) (w : World) (hF : Fam F) (hm6 : m ≤ 6) (hc : w.cell? ⟨b, 0, none⟩ = some (.int .u64 F)) :
    Calls Try.prog 76 #[.int .i64 m, .func (.func 77) #[] #[.pointer (some ⟨b, 0, none⟩)]] w fun e w' => e = .returned (.int .u64 (othG F (2 ^ m))) ∧ w = w' := by
  have hm8 : m < 8 := by omega
  obtain ⟨N, hN⟩ : ∃ N, N = 2 ^ m := ⟨_, rfl⟩
  have hN64 : N ≤ 64 := by rw [hN]; exact pow_le64 hm6
  have hNe : (2 : Int) ^ m = (N : Int) := by rw [hN]; norm_cast
  rw [← hN]
  have HN := Lib.hid hN; clear hN
  have Hc := Lib.hid hc; clear hc
  go_enter Try.func76, Try.ntmps76
  go_wp2_with fail
  go_loop [5, 6] (fun f i => ∃ I G : Nat, I ≤ N ∧ i = .int .i64 I ∧ f = .int .u64 G ∧ Fam G ∧ Hid (G = othG F I)) (fun _ i => N - (intOf i).toNat)
  case atStart => exact ⟨0, 0, Nat.zero_le _, rfl, rfl, Fam.zero, Lib.hid (othG_zero F).symm⟩
  case round =>
    obtain ⟨I, G, hI, rfl, rfl, hG, hGe⟩ := hrel
    by_cases hlt : I < N
    · have hlt' : (I : Int) < 2 ^ m := by rw [hNe]; omega
      have hI64 : I < 64 := by omega
      obtain ⟨q, hq⟩ : ∃ q, q = (decide (sz I = 2) && !F.testBit I) := ⟨_, rfl⟩
      have Hq := Lib.hid hq; clear hq
      cases q
      · go_wp2_with (go_at_call 77; refine (othGn_any F b I _ hF hI64 Hc.out).mono ?_; rw [← Hq.out]; rintro e we ⟨rfl, rfl⟩)
        go_round
        case rel => exact ⟨I + 1, G, by omega, by go_num, rfl, hG, Lib.hid (by rw [hGe.out, othG_no Hq.out.symm])⟩
        case measure => simp [intOf]; omega
      · go_wp2_with (go_at_call 77; refine (othGn_any F b I _ hF hI64 Hc.out).mono ?_; rw [← Hq.out]; rintro e we ⟨rfl, rfl⟩)
        go_round
        case rel => exact ⟨I + 1, G ||| 2 ^ I, by omega, by go_num, by go_num, hG.or (Fam.bit hI64), Lib.hid (by rw [hGe.out, othG_yes hI64 Hq.out.symm])⟩
        case measure => simp [intOf]; omega
    · obtain rfl : I = N := by omega
      have hmm : ¬ ((I : Int) < 2 ^ m) := by rw [hNe]; omega
      go_wp2_with fail
      go_ret
      exact ⟨by rw [← hGe.out]; rfl, rfl⟩

theorem iOther_no (p : Int) (a : Option Addr) (n c : Nat) (xs : List Int) (w : World) (h : IntsAt w a n xs) (hP : ¬ GraphP p xs) :
    Calls Try.prog 51 #[.agg #[.int .i64 p, .slice a n c]] w (RetBox2 w 0 [] false) := by
  have Hh := Lib.hid h; clear h
  have HP := Lib.hid hP; clear hP
  go_enter Try.func51, Try.ntmps51
  go_wp2_with fail
  refine (iIsGraph_any p a n c xs _ (Hh.out.keep (by repeat (first | exact Below.refl _ _ | assumption | refine Below.setCell ?_ (by first | omega | (simp; done) | (simp; omega)) _ | refine Below.alloc ?_ (by first | omega | (simp; done) | (simp; omega)) _ | apply Below.drew))) false (by simp [HP.out])).mono ?_
  rintro e w1 ⟨rfl, hb⟩
  obtain ⟨hc, hf⟩ := bcell hb
  have hz : w.heap.size + 2 ≤ w1.heap.size := by have := hb.size; simp at this; omega
  have hbl : Below w.heap.size w w1 := Below.trans (by repeat (first | exact Below.refl _ _ | assumption | refine Below.setCell ?_ (by first | omega | (simp; done) | (simp; omega)) _ | refine Below.alloc ?_ (by first | omega | (simp; done) | (simp; omega)) _ | apply Below.drew)) (hb.mono (by simp; omega))
  go_wp2_with fail
  refine bodyPost_ret (v := .tuple #[.agg #[.int .i64 0, .slice none 0 0], .bool false]) (by simp [results, Try.results51, go_sem, hc, hz]) rfl ⟨none, 0, 0, rfl, Own.nil _ _ _, (by repeat (first | exact Below.refl _ _ | assumption | refine Below.setCell ?_ (by first | omega | (simp; done) | (simp; omega)) _ | refine Below.alloc ?_ (by first | omega | (simp; done) | (simp; omega)) _ | apply Below.drew))⟩
set_option maxHeartbeats 4000000 in
theorem iOther_yes (m : Nat) (a : Option Addr) (n c : Nat) (l : List Nat) (w : World) (h : IntsAt w a n (up l)) (hP : GraphP m (up l)) (hl : ∀ t ∈ l, t < 64) :
    Calls Try.prog 51 #[.agg #[.int .i64 m, .slice a n c]] w (RetBox2 w m (up (othL l (2 ^ m))) true) := by
  have hm6 : m ≤ 6 := by have := hP.2.1; omega
  have HP := Lib.hid hP; clear hP
  have Hh := Lib.hid h; clear h
  have Hl := Lib.hid hl; clear hl
  obtain ⟨F, hFe⟩ : ∃ F, F = fam l.contains := ⟨_, rfl⟩
  have hF : Fam F := by rw [hFe]; exact fam_Fam _
  obtain ⟨G, hGe⟩ : ∃ G, G = othG F (2 ^ m) := ⟨_, rfl⟩
  have hG : Fam G := by rw [hGe]; exact fam_Fam _
  have hL : ord G.testBit = othL l (2 ^ m) := by
    rw [hGe]
    unfold othG
    rw [ord_fam, ← oth_ord l m hm6]
    apply ord_congr
    intro s hs
    rw [hFe, fam_at hs]
    rfl
  have HL := Lib.hid hL; clear hL
  have HFe := Lib.hid hFe; have HGe := Lib.hid hGe
  clear hFe hGe
  go_enter Try.func51, Try.ntmps51
  go_wp2_with fail
  refine (iIsGraph_any m a n c _ _ (Hh.out.keep (by repeat (first | exact Below.refl _ _ | assumption | refine Below.setCell ?_ (by first | omega | (simp; done) | (simp; omega)) _ | refine Below.alloc ?_ (by first | omega | (simp; done) | (simp; omega)) _ | apply Below.drew))) true (by simp [HP.out])).mono ?_
  rintro e w1 ⟨rfl, hb⟩
  have hz : w.heap.size + 2 ≤ w1.heap.size := by have := hb.size; simp at this; omega
  have Hbl : Hid (Below w.heap.size w w1) := Lib.hid (Below.trans (by repeat (first | exact Below.refl _ _ | assumption | refine Below.setCell ?_ (by first | omega | (simp; done) | (simp; omega)) _ | refine Below.alloc ?_ (by first | omega | (simp; done) | (simp; omega)) _ | apply Below.drew)) (hb.mono (by simp; omega)))
  have Hx1 := Lib.hid (Hh.out.keep Hbl.out)
  have xA := ((BoxF.new w (.int .i64 m) (.slice a n c) 42).alloc (.cells #[.int .i64 0, .slice none 0 0] 42)).keep hb (by simp; omega)
  have xR := (BoxF.new (w.alloc (.cells #[.int .i64 m, .slice a n c] 42)) (.int .i64 0) (.slice none 0 0) 42).keep hb (by simp)
  have eR : (w.alloc (.cells #[.int .i64 m, .slice a n c] 42)).heap.size = w.heap.size + 1 := by simp
  rw [eR] at xR
  have XA := Lib.hid xA; have XR := Lib.hid xR
  obtain ⟨a0, a1, _, _, _⟩ := xA
  clear hb xR eR
  go_wp2_with (go_at_call 75; refine (familyOf_yes a n c l _ Hx1.out Hl.out).mono ?_; rw [← HFe.out]; rintro e we ⟨rfl, rfl⟩)
  have hcF : (w1.alloc (.cells #[.int .u64 F] 79)).cell? ⟨w1.heap.size, 0, none⟩ = some (.int .u64 F) := by simp
  refine (pickOther_any m F w1.heap.size _ hF hm6 hcF).mono ?_
  rw [← HGe.out]
  rintro e we ⟨rfl, rfl⟩
  have XA2 := Lib.hid (XA.out.alloc (.cells #[.int .u64 F] 79))
  have XR2 := Lib.hid (XR.out.alloc (.cells #[.int .u64 F] 79))
  obtain ⟨w2, hw2⟩ : ∃ w2, w2 = w1.alloc (.cells #[.int .u64 F] 79) := ⟨_, rfl⟩
  have Hb2 : Hid (Below w1.heap.size w1 w2) := Lib.hid (by rw [hw2]; exact (Below.refl _ _).alloc (Nat.le_refl _) _)
  rw [← hw2] at XA2 XR2
  have hz2 : w1.heap.size ≤ w2.heap.size := Hb2.out.size
  clear a0 a1 hcF
  try simp only [← hw2]
  clear hw2
  obtain ⟨a0, a1, _, _, _⟩ := XA2.out
  obtain ⟨r0, r1, rf0, rf1, rlt⟩ := XR2.out
  go_wp2_with fail
  go_cut [3] (fun v W => v = .bool true ∧ Below (w.heap.size + 1) w2 W ∧ ∃ ad k d, BoxF W (w.heap.size + 1) (.int .i64 m) (.slice ad k d) ∧ Own 3 W w2.heap.size ad k d (up (othL l (2 ^ m))))
  case first =>
    go_region_with ((go_at_call 79; (with_reducible refine (setsIn_any G _ hG).mono ?_); rw [HL.out]; rintro e wz ⟨ad, k, d, rfl, ownz, hbz⟩; have xaz := (XA2.out.drew).keep hbz (by simp; omega); have xrz := (XR2.out.drew).keep hbz (by simp; omega); have XRZ := Lib.hid xrz; have OWZ := Lib.hid ownz; have HBZ := Lib.hid hbz; obtain ⟨z0, z1, zf0, zf1, zlt⟩ := xaz; obtain ⟨y0, y1, yf0, yf1, ylt⟩ := xrz; clear ownz hbz))
    all_goals (go_wp2_with fail; go_meet)
    all_goals exact ⟨rfl, ((((((Below.refl _ w2).drew).trans HBZ.out).mono (by first | omega | (simp; omega))).setCell (by simp) _).setCell (by simp) _), ad, k, d, (XRZ.out.set0 _).set1 _, (OWZ.out.setBelow _ (by simp; omega)).setBelow _ (by simp; omega)⟩
  case rest =>
    obtain ⟨rfl, hb, ad, k, d, xR3, hown⟩ := hcut
    obtain ⟨q0, q1, qf0, qf1, qlt⟩ := xR3
    go_wp2_with fail
    refine bodyPost_ret (v := .tuple #[.agg #[.int .i64 m, .slice ad k d], .bool true]) (by simp [results, Try.results51, go_sem, q0, q1]) rfl ⟨ad, k, d, rfl, hown.mono (by omega), ?_⟩
    exact Hbl.out.trans ((Hb2.out.mono (by omega)).trans (hb.mono (by omega)))
end Go.Proofs.Ythijccgbkmappaa

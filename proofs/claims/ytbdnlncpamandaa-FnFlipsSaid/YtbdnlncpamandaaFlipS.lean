/- Contracts of the reference's l5Set, l5Link, SubsetsOf, l2Same and EqualComplex. -/
import Derived.Test.YtbdnlncpamandaaAnti2
import Derived.Test.YtbdnlncpamandaaFaces2
namespace Go.Proofs.Ytbdnlncpamandaa
set_option maxRecDepth 20000
open Go.RowKit
set_option linter.unusedSimpArgs false
set_option linter.unusedVariables false

theorem sL5_no (p : Int) (a : Option Addr) (n c : Nat) (xs : List Int) (s : Int) (w : World) (h : IntsAt w a n xs) (hno : ¬ Anti p xs) :
    Calls Try.prog 135 #[.agg #[.int .i64 p, .slice a n c], .int .i64 s] w fun e w' => e = .returned (.bool false) ∧ Below w.heap.size w w' := by
  have hx : IntsAt (w.alloc (.cells #[.int .i64 p, .slice a n c] 26)) a n xs := h.keep (by repeat (first | exact Below.refl _ _ | assumption | refine Below.setCell ?_ (by first | omega | (simp; done) | (simp; omega)) _ | refine Below.alloc ?_ (by first | omega | (simp; done) | (simp; omega)) _ | apply Below.drew))
  have Hx := Lib.hid hx; have Hno := Lib.hid hno
  clear hx h hno
  go_enter Try.func135, Try.ntmps135
  go_wp2_with fail
  refine (sIsComplex_any p a n c xs _ Hx.out false (by simp [Hno.out])).mono ?_
  rintro e w1 ⟨rfl, hb⟩
  have HB : Hid (Below w.heap.size w w1) := Lib.hid (Below.trans (by repeat (first | exact Below.refl _ _ | assumption | refine Below.setCell ?_ (by first | omega | (simp; done) | (simp; omega)) _ | refine Below.alloc ?_ (by first | omega | (simp; done) | (simp; omega)) _ | apply Below.drew)) (hb.mono (by simp <;> omega)))
  clear hb
  go_wp2_with fail
  go_ret
  exact ⟨rfl, HB.out⟩
theorem sL5_yes (p : Int) (a : Option Addr) (n c : Nat) (xs : List Int) (s : Int) (w : World) (h : IntsAt w a n xs) (hA : Anti p xs) (b : Bool) (hb : isSetB p s = b) :
    Calls Try.prog 135 #[.agg #[.int .i64 p, .slice a n c], .int .i64 s] w fun e w' => e = .returned (.bool b) ∧ Below w.heap.size w w' := by
  have hx : IntsAt (w.alloc (.cells #[.int .i64 p, .slice a n c] 26)) a n xs := h.keep (by repeat (first | exact Below.refl _ _ | assumption | refine Below.setCell ?_ (by first | omega | (simp; done) | (simp; omega)) _ | refine Below.alloc ?_ (by first | omega | (simp; done) | (simp; omega)) _ | apply Below.drew))
  have Hx := Lib.hid hx; have HA := Lib.hid hA
  have XA := Lib.hid (BoxF.new w (.int .i64 p) (.slice a n c) 26)
  clear hx h hA
  go_enter Try.func135, Try.ntmps135
  go_wp2_with fail
  refine (sIsComplex_any p a n c xs _ Hx.out true (by simp [HA.out])).mono ?_
  rintro e w1 ⟨rfl, hb1⟩
  have HB : Hid (Below w.heap.size w w1) := Lib.hid (Below.trans (by repeat (first | exact Below.refl _ _ | assumption | refine Below.setCell ?_ (by first | omega | (simp; done) | (simp; omega)) _ | refine Below.alloc ?_ (by first | omega | (simp; done) | (simp; omega)) _ | apply Below.drew)) (hb1.mono (by simp <;> omega)))
  obtain ⟨p0, p1, _, _, _⟩ := XA.out.keep hb1 (by simp)
  clear hb1
  go_wp2_with (go_at_call 82; (with_reducible refine (sIsSet_is p s b _ hb).mono ?_); rintro e w' ⟨rfl, rfl⟩)
  go_ret
  exact ⟨ret_bool (by simp), HB.out⟩

theorem sub_and {f s : Nat} (h : sub s f = true) : f &&& s = s := by
  unfold sub at h; rw [Nat.and_comm]; simpa using h
theorem sub_and_no {f s : Nat} (h : sub s f = false) : f &&& s ≠ s := fun e => by
  unfold sub at h
  rw [Nat.and_comm, e] at h; simp at h
theorem linkL_yes {l : List Nat} {s I : Nat} (hI : I < l.length) (h : sub s (nthN l I) = true) : linkL (l.take (I + 1)) s = linkL (l.take I) s ++ [sdiff (nthN l I) s] := by
  unfold linkL; rw [nthN_take l I hI, List.filter_append, List.map_append]; simp [h]
theorem linkL_no {l : List Nat} {s I : Nat} (hI : I < l.length) (h : sub s (nthN l I) = false) : linkL (l.take (I + 1)) s = linkL (l.take I) s := by
  unfold linkL; rw [nthN_take l I hI, List.filter_append, List.map_append]; simp [h]
theorem w_less : ∀ g : Nat, g < 64 → ∀ s : Nat, s < 64 → sub s g = true → IntKind.i64.wrap ((g : Int) - (s : Int)) = ((sdiff g s : Nat) : Int) := by decide +kernel
set_option maxRecDepth 100000 in
set_option maxHeartbeats 1000000 in
theorem sLink_any (p : Int) (a : Option Addr) (n c : Nat) (l : List Nat) (s : Nat) (w : World) (h : IntsAt w a n (up l)) (hn : n ≤ 64) (hs : s < 64) (hl : ∀ t ∈ l, t < 64) :
    Calls Try.prog 136 #[.agg #[.int .i64 p, .slice a n c], .int .i64 s] w (RetBox w p (up (maxL (linkL l s).contains))) := by
  have hx : IntsAt ((w.alloc (.cells #[.int .i64 p, .slice a n c] 26)).alloc (.cells #[.int .i64 0, .slice none 0 0] 26)) a n (up l) := h.keep (by repeat (first | exact Below.refl _ _ | assumption | refine Below.setCell ?_ (by first | omega | (simp; done) | (simp; omega)) _ | refine Below.alloc ?_ (by first | omega | (simp; done) | (simp; omega)) _ | apply Below.drew))
  have Hx := Lib.hid hx
  have xA := (BoxF.new w (.int .i64 p) (.slice a n c) 26).alloc (.cells #[.int .i64 0, .slice none 0 0] 26)
  have xR := BoxF.new (w.alloc (.cells #[.int .i64 p, .slice a n c] 26)) (.int .i64 0) (.slice none 0 0) 26
  have e2 : (w.alloc (.cells #[.int .i64 p, .slice a n c] 26)).heap.size = w.heap.size + 1 := by simp
  rw [e2] at xR
  have XR := Lib.hid xR; have XA := Lib.hid xA; have Hl := Lib.hid hl
  have hll := h.len
  rw [up_len] at hll
  have Hll := Lib.hid hll
  obtain ⟨w1, hw1⟩ : ∃ w1, w1 = (w.alloc (.cells #[.int .i64 p, .slice a n c] 26)).alloc (.cells #[.int .i64 0, .slice none 0 0] 26) := ⟨_, rfl⟩
  have HB : Hid (Below w.heap.size w w1) := Lib.hid (by rw [hw1]; exact (by repeat (first | exact Below.refl _ _ | assumption | refine Below.setCell ?_ (by first | omega | (simp; done) | (simp; omega)) _ | refine Below.alloc ?_ (by first | omega | (simp; done) | (simp; omega)) _ | apply Below.drew)))
  have hz : w1.heap.size = w.heap.size + 2 := by rw [hw1]; simp
  have HW1 := Lib.hid hw1
  rw [← hw1] at Hx XA XR
  clear hx h xR xA hl e2 hll hw1
  go_enter Try.func136, Try.ntmps136
  go_wp2_with fail
  rw [← HW1.out]
  go_loopw [5, 6] (fun f i wr => ∃ I : Nat, I ≤ n ∧ i = .int .i64 I ∧ Below w1.heap.size w1 wr ∧ ∃ ad K d, f = .slice ad K d ∧ K ≤ I ∧ Own 3 wr w1.heap.size ad K d (up (linkL (l.take I) s))) (fun _ i _ => n - (intOf i).toNat)
  case atStart => exact ⟨0, Nat.zero_le _, rfl, (by repeat (first | exact Below.refl _ _ | assumption | refine Below.setCell ?_ (by first | omega | (simp; done) | (simp; omega)) _ | refine Below.alloc ?_ (by first | omega | (simp; done) | (simp; omega)) _ | apply Below.drew)), some ⟨w.heap.size + 2, 0, none⟩, 0, 0, (by first | rfl | simp), by omega, by rw [← hz]; exact Own.empty _ _ _ (by first | exact Nat.le_refl _ | simp)⟩
  case round =>
    obtain ⟨I, hI, rfl, hb, ad, K, d, rfl, hK, hown⟩ := hrel
    have HBO := Lib.hid hb; have HO := Lib.hid hown
    have XA2 := Lib.hid (XA.out.keep hb (by omega))
    have XR2 := Lib.hid (XR.out.keep hb (by omega))
    have Hx2 := Lib.hid (Hx.out.keep hb)
    obtain ⟨p0, p1, _, _, _⟩ := XA2.out
    have hzr : w1.heap.size ≤ wr.heap.size := hb.size
    clear hb hown
    by_cases hlt : I < n
    · obtain ⟨b1, o1, rfl, hc1⟩ := Hx2.out.cells (by omega)
      have hci := hc1 I hlt
      rw [nth_up] at hci
      have ht := Hl.out _ (nthN_mem (xs := l) (k := I) (by rw [Hll.out]; omega))
      have hyes := linkL_yes (s := s) (l := l) (I := I) (by rw [Hll.out]; omega)
      have hno := linkL_no (s := s) (l := l) (I := I) (by rw [Hll.out]; omega)
      obtain ⟨f, hf⟩ : ∃ f, f = nthN l I := ⟨_, rfl⟩
      rw [← hf] at hci ht hyes hno
      have Hyes := Lib.hid hyes; have Hno := Lib.hid hno
      have hI0 : (0 : Int) ≤ I := by omega
      have hIn : (I : Int) < n := by omega
      clear hc1 hf hyes hno
      have hand := w_and f s ht hs
      cases hsub : sub s f
      · have hne : (((f &&& s : Nat) : Int) == (s : Int)) = false := by rw [castBeq]; simpa using sub_and_no hsub
        have Hsub := Lib.hid hsub; clear hsub
        go_wp2_with fail
        go_roundw
        case rel => exact ⟨I + 1, by omega, by go_num, HBO.out, ad, K, d, rfl, by omega, by rw [Hno.out Hsub.out]; exact HO.out⟩
        case measure => simp [intOf]; omega
      · have hne : (((f &&& s : Nat) : Int) == (s : Int)) = true := by rw [castBeq]; simpa using sub_and hsub
        have hless := w_less f ht s hs hsub
        have Hsub := Lib.hid hsub; clear hsub
        go_wp2_with (at_builtin; refine ap rfl _ _ rfl w1.heap.size _ _ _ _ _ rfl HO.out rfl (by omega) hzr ?_; intro ad' d' w' hown' hb'; have HO3 := Lib.hid hown'; have HB3 := Lib.hid hb'; clear hown' hb')
        go_roundw
        case rel => exact ⟨I + 1, by omega, by go_num, HBO.out.trans HB3.out, ad', K + 1, d', rfl, by omega, by rw [Hyes.out Hsub.out, up_append]; first | exact HO3.out | (have := HO3.out; rw [hless] at this; exact this)⟩
        case measure => simp [intOf]; omega
    · obtain rfl : I = n := by omega
      have hii : ¬ ((I : Int) < I) := by omega
      have HOf : Hid (Own 3 wr w1.heap.size ad K d (up (linkL l s))) := Lib.hid (by have := HO.out; rw [← Hll.out, List.take_length] at this; exact this)
      go_wp2_with fail
      refine (l3Make_any p ad K d _ _ HOf.out.reads (linkL_lt Hl.out)).mono ?_
      rintro e w5 ⟨ad5, d5, r5, rfl, hown, hb5⟩
      have XR5 := Lib.hid (XR2.out.keep hb5 (by omega))
      have HO5 := Lib.hid hown; have HB5 := Lib.hid (HBO.out.trans (hb5.mono hzr))
      have hz5 : wr.heap.size ≤ w5.heap.size := hb5.size
      obtain ⟨q0, q1, qf0, qf1, qlt⟩ := XR5.out
      clear hown hb5
      go_wp2_with fail
      refine bodyPost_ret (v := .agg #[.int .i64 p, .slice ad5 d5 r5]) (by simp [results, Try.results136, go_sem, q0, q1]) rfl ⟨ad5, d5, r5, rfl, ?_, ?_⟩
      · refine ((HO5.out.setBelow _ ?_).setBelow _ ?_).mono ?_ <;> omega
      · exact ((HB.out.trans (HB5.out.mono (by omega))).setCell (by simp) _).setCell (by simp) _

theorem sSub_any (s : Nat) (w : World) (hs : s < 64) : Calls Try.prog 106 #[.int .i64 s] w (RetInts w (up (ord fun t => sub t s))) := by
  go_enter Try.func106, Try.ntmps106
  go_wp2_with fail
  go_loopw [3, 4] (fun f i wr => ∃ I : Nat, I ≤ 64 ∧ i = .int .i64 I ∧ Below w.heap.size w wr ∧ ∃ ad k d, f = .slice ad k d ∧ k ≤ I ∧ Own 3 wr w.heap.size ad k d (up (lst (fun t => sub t s) I))) (fun _ i _ => 64 - (intOf i).toNat)
  case atStart => exact ⟨0, by omega, rfl, (by repeat (first | exact Below.refl _ _ | assumption | refine Below.setCell ?_ (by first | omega | (simp; done) | (simp; omega)) _ | refine Below.alloc ?_ (by first | omega | (simp; done) | (simp; omega)) _ | apply Below.drew)), _, 0, 0, rfl, by omega, Own.empty 3 w w.heap.size (Nat.le_refl _)⟩
  case round =>
    obtain ⟨I, hI, rfl, hb, ad, k, d, rfl, hk, hown⟩ := hrel
    have hz : w.heap.size ≤ wr.heap.size := hb.size
    have HB := Lib.hid hb; have HO := Lib.hid hown
    clear hb hown
    by_cases hlt : I < 64
    · have hand := w_and I s hlt hs
      cases hsub : sub I s
      · have hne : (((I &&& s : Nat) : Int) == (I : Int)) = false := by rw [castBeq]; exact hsub
        have Hsub := Lib.hid hsub; clear hsub
        go_wp2_with (go_at_call 72; (with_reducible refine (l1In_set s _ hs).mono ?_); rintro e w' ⟨rfl, rfl⟩)
        go_roundw
        case rel => exact ⟨I + 1, by omega, by go_num, HB.out, ad, k, d, rfl, by omega, by rw [lst_no (q := fun t => sub t s) Hsub.out]; exact HO.out⟩
        case measure => simp [intOf]; omega
      · have hne : (((I &&& s : Nat) : Int) == (I : Int)) = true := by rw [castBeq]; exact hsub
        have Hsub := Lib.hid hsub; clear hsub
        go_wp2_with (first | (go_at_call 72; (with_reducible refine (l1In_set s _ hs).mono ?_); rintro e w' ⟨rfl, rfl⟩) | (at_builtin; refine ap rfl _ _ rfl w.heap.size _ _ _ _ _ rfl HO.out rfl (by omega) hz ?_; intro ad' d' w' hown' hb'; have HO3 := Lib.hid hown'; have HB3 := Lib.hid hb'; clear hown' hb'))
        go_roundw
        case rel => exact ⟨I + 1, by omega, by go_num, HB.out.trans HB3.out, ad', k + 1, d', rfl, by omega, by rw [lst_yes (q := fun t => sub t s) Hsub.out, up_append]; exact HO3.out⟩
        case measure => simp [intOf]; omega
    · obtain rfl : I = 64 := by omega
      go_wp2_with fail
      refine (l2Order_any ad k d (lst (fun t => sub t s) 64) _ HO.out.reads (fun s hs => (mem_lst.1 hs).1)).mono ?_
      rintro e w2 ⟨ad2, m2, d2, rfl, hown, hb⟩
      have HB2 := Lib.hid (HB.out.trans (hb.mono hz)); have HO2 := Lib.hid (hown.mono hz)
      clear hb hown
      go_wp2_with fail
      go_ret
      refine ⟨ad2, m2, d2, rfl, ?_, HB2.out⟩
      have e : (ord fun t => sub t s) = ord (lst (fun t => sub t s) 64).contains := ord_congr fun s hs => by rw [lst_has]; simp [hs]
      rw [e]; exact HO2.out

set_option maxRecDepth 100000 in
theorem l2Same_any (a : Option Addr) (n c : Nat) (xs : List Int) (a' : Option Addr) (n' c' : Nat) (ys : List Int) (w : World) (h : IntsAt w a n xs) (h' : IntsAt w a' n' ys) (b : Bool) (hb : b = true ↔ xs = ys) :
    Calls Try.prog 149 #[.slice a n c, .slice a' n' c'] w fun e w' => e = .returned (.bool b) ∧ Below w.heap.size w w' := by
  have hsm := h.small; have hsm' := h'.small
  have Hl := Lib.hid h.len; have Hl' := Lib.hid h'.len
  have Hx := Lib.hid h; have Hy := Lib.hid h'; have Hb := Lib.hid hb
  clear h h' hb
  by_cases hn : n = n'
  · subst hn
    have hne : ((n : Int) != (n : Int)) = false := by simp
    go_enter Try.func149, Try.ntmps149
    go_wp2_with fail
    go_loopw [5] (fun i wr => ∃ I : Nat, I ≤ n ∧ i = .int .i64 I ∧ Below w.heap.size w wr ∧ Hid (∀ j, j < I → nth xs j = nth ys j)) (fun i _ => n - (intOf i).toNat)
    case atStart => exact ⟨0, Nat.zero_le _, rfl, Below.refl _ _, Lib.hid fun j hj => absurd hj (Nat.not_lt_zero _)⟩
    case round =>
      obtain ⟨wo, rfl⟩ : ∃ x : World, x = wr := ⟨_, rfl⟩
      obtain ⟨I, hI, rfl, hbr, hok⟩ := hrel
      have HBr := Lib.hid hbr
      have Hxr := Lib.hid (Hx.out.keep hbr); have Hyr := Lib.hid (Hy.out.keep hbr)
      clear hbr
      by_cases hlt : I < n
      · obtain ⟨b1, o1, rfl, hc1⟩ := Hxr.out.cells (by omega)
        obtain ⟨b2, o2, rfl, hc2⟩ := Hyr.out.cells (by omega)
        have hci := hc1 I hlt
        have hcj := hc2 I hlt
        obtain ⟨x, hx⟩ : ∃ x, x = nth xs I := ⟨_, rfl⟩
        obtain ⟨y, hy⟩ : ∃ y, y = nth ys I := ⟨_, rfl⟩
        rw [← hx] at hci
        rw [← hy] at hcj
        have HX := Lib.hid hx; have HY := Lib.hid hy
        have hI0 : (0 : Int) ≤ I := by omega
        have hIn : (I : Int) < n := by omega
        clear hc1 hc2 hx hy
        by_cases he : x = y
        · have hxy : (x != y) = false := by simp [he]
          have He := Lib.hid he; clear he
          go_wp2_with fail
          go_quiet (fail)
          go_wp2_with fail
          go_roundw
          case rel =>
            refine ⟨I + 1, by omega, by go_num, below_drewN HBr.out _, Lib.hid fun j hj => ?_⟩
            rcases Nat.lt_or_ge j I with h | h
            · exact hok.out j h
            · obtain rfl : j = I := by omega
              rw [← HX.out, ← HY.out]; exact He.out
          case measure => simp [intOf]; omega
        · have hxy : (x != y) = true := by simp [he]
          have hbf : b = false := by
            cases b
            · rfl
            · have := Hb.out.1 rfl
              subst this
              exact absurd (HX.out.trans HY.out.symm) he
          subst hbf
          clear he
          go_wp2_with fail
          go_quiet (fail)
          go_wp2_with fail
          go_ret
          exact ⟨rfl, below_drewN HBr.out _⟩
      · obtain rfl : I = n := by omega
        have hii : ¬ ((I : Int) < I) := by omega
        have hbt : b = true := by
          refine Hb.out.2 (List.ext_getElem (by rw [Hl.out, Hl'.out]) fun i h1 h2 => ?_)
          rw [← nth_eq h1, ← nth_eq h2]; exact hok.out i (by rw [← Hl.out]; exact h1)
        subst hbt
        go_wp2_with fail
        go_ret
        exact ⟨rfl, HBr.out⟩
  · have hbf : b = false := by
      cases b
      · rfl
      · have := Hb.out.1 rfl
        subst this
        exact absurd (Hl.out.symm.trans Hl'.out) hn
    subst hbf
    have hne : ((n : Int) != (n' : Int)) = true := by simp; omega
    go_enter Try.func149, Try.ntmps149
    go_wp2_with fail
    go_ret
    exact ⟨rfl, (by repeat (first | exact Below.refl _ _ | assumption | refine Below.setCell ?_ (by first | omega | (simp; done) | (simp; omega)) _ | refine Below.alloc ?_ (by first | omega | (simp; done) | (simp; omega)) _ | apply Below.drew))⟩
theorem sEqual_any (p : Int) (a : Option Addr) (n c : Nat) (xs : List Int) (a' : Option Addr) (n' c' : Nat) (ys : List Int) (w : World) (h : IntsAt w a n xs) (h' : IntsAt w a' n' ys) (b : Bool) (hb : b = true ↔ xs = ys) :
    Calls Try.prog 137 #[.agg #[.int .i64 p, .slice a n c], .agg #[.int .i64 p, .slice a' n' c']] w fun e w' => e = .returned (.bool b) ∧ Below w.heap.size w w' := by
  have hx : IntsAt ((w.alloc (.cells #[.int .i64 p, .slice a n c] 26)).alloc (.cells #[.int .i64 p, .slice a' n' c'] 26)) a n xs := h.keep (by repeat (first | exact Below.refl _ _ | assumption | refine Below.setCell ?_ (by first | omega | (simp; done) | (simp; omega)) _ | refine Below.alloc ?_ (by first | omega | (simp; done) | (simp; omega)) _ | apply Below.drew))
  have hy : IntsAt ((w.alloc (.cells #[.int .i64 p, .slice a n c] 26)).alloc (.cells #[.int .i64 p, .slice a' n' c'] 26)) a' n' ys := h'.keep (by repeat (first | exact Below.refl _ _ | assumption | refine Below.setCell ?_ (by first | omega | (simp; done) | (simp; omega)) _ | refine Below.alloc ?_ (by first | omega | (simp; done) | (simp; omega)) _ | apply Below.drew))
  have Hx := Lib.hid hx; have Hy := Lib.hid hy; have Hb := Lib.hid hb
  have hpp : (p == p) = true := by simp
  clear hx hy h h' hb
  go_enter Try.func137, Try.ntmps137
  go_wp2_with fail
  refine (l2Same_any a n c xs a' n' c' ys _ Hx.out Hy.out b Hb.out).mono ?_
  rintro e w1 ⟨rfl, hb1⟩
  have HB : Hid (Below w.heap.size w w1) := Lib.hid (Below.trans (by repeat (first | exact Below.refl _ _ | assumption | refine Below.setCell ?_ (by first | omega | (simp; done) | (simp; omega)) _ | refine Below.alloc ?_ (by first | omega | (simp; done) | (simp; omega)) _ | apply Below.drew)) (hb1.mono (by simp <;> omega)))
  clear hb1
  go_wp2_with fail
  go_ret
  exact ⟨ret_bool (by simp), HB.out⟩
end Go.Proofs.Ytbdnlncpamandaa

/- Contracts of ColorH, the program's and the reference's. -/
import Derived.Test.YtbdnlncpamandaaColC2
import Derived.Test.YtbdnlncpamandaaDiv
namespace Go.Proofs.Ytbdnlncpamandaa
set_option maxRecDepth 20000
open Go.RowKit
set_option linter.unusedSimpArgs false
set_option linter.unusedVariables false

theorem iColH_no (p : Int) (a : Option Addr) (n c : Nat) (xs : List Int) (a' : Option Addr) (n' c' : Nat) (cs : List Int) (w : World) (h : IntsAt w a n xs) (h' : IntsAt w a' n' cs) (hF : ∀ W, IntsAt W a n xs → IntsAt W a' n' cs → Calls Try.prog 8 #[.agg #[.int .i64 p, .slice a n c], .slice a' n' c'] W (RetInts W [])) :
    Calls Try.prog 9 #[.agg #[.int .i64 p, .slice a n c], .slice a' n' c'] w (RetInts w []) := by
  have hx : IntsAt (w.alloc (.cells #[.int .i64 p, .slice a n c] 26)) a n xs := h.keep (by repeat (first | exact Below.refl _ _ | assumption | refine Below.setCell ?_ (by first | omega | (simp; done) | (simp; omega)) _ | refine Below.alloc ?_ (by first | omega | (simp; done) | (simp; omega)) _ | apply Below.drew))
  have hy : IntsAt (w.alloc (.cells #[.int .i64 p, .slice a n c] 26)) a' n' cs := h'.keep (by repeat (first | exact Below.refl _ _ | assumption | refine Below.setCell ?_ (by first | omega | (simp; done) | (simp; omega)) _ | refine Below.alloc ?_ (by first | omega | (simp; done) | (simp; omega)) _ | apply Below.drew))
  have Hx := Lib.hid hx; have Hy := Lib.hid hy; have HF := Lib.hid hF
  clear hx hy h h' hF
  go_enter Try.func9, Try.ntmps9
  go_wp2_with fail
  refine (HF.out _ Hx.out Hy.out).mono ?_
  rintro e w1 ⟨ad, k, d, rfl, hown, hb⟩
  have HB : Hid (Below w.heap.size w w1) := Lib.hid (Below.trans (by repeat (first | exact Below.refl _ _ | assumption | refine Below.setCell ?_ (by first | omega | (simp; done) | (simp; omega)) _ | refine Below.alloc ?_ (by first | omega | (simp; done) | (simp; omega)) _ | apply Below.drew)) (hb.mono (by simp <;> omega)))
  obtain rfl : k = 0 := by have := hown.len; simpa using this.symm
  clear hb hown
  go_wp2_with fail
  go_ret
  exact ⟨none, 0, 0, rfl, Own.nil _ _ _, HB.out⟩
set_option maxRecDepth 100000 in
set_option maxHeartbeats 2000000 in
theorem iColH_yes (p : Int) (a : Option Addr) (n c : Nat) (xs : List Int) (a' : Option Addr) (n' c' : Nat) (cs : List Int) (f : List Nat) (w : World) (h : IntsAt w a n xs) (h' : IntsAt w a' n' cs) (hfl : f.length = 64) (hf : ∀ k, nthN f k ≤ 64) (hF : ∀ W, IntsAt W a n xs → IntsAt W a' n' cs → Calls Try.prog 8 #[.agg #[.int .i64 p, .slice a n c], .slice a' n' c'] W (RetInts W (up f))) :
    Calls Try.prog 9 #[.agg #[.int .i64 p, .slice a n c], .slice a' n' c'] w (RetInts w (chTo f 64)) := by
  have hx : IntsAt (w.alloc (.cells #[.int .i64 p, .slice a n c] 26)) a n xs := h.keep (by repeat (first | exact Below.refl _ _ | assumption | refine Below.setCell ?_ (by first | omega | (simp; done) | (simp; omega)) _ | refine Below.alloc ?_ (by first | omega | (simp; done) | (simp; omega)) _ | apply Below.drew))
  have hy : IntsAt (w.alloc (.cells #[.int .i64 p, .slice a n c] 26)) a' n' cs := h'.keep (by repeat (first | exact Below.refl _ _ | assumption | refine Below.setCell ?_ (by first | omega | (simp; done) | (simp; omega)) _ | refine Below.alloc ?_ (by first | omega | (simp; done) | (simp; omega)) _ | apply Below.drew))
  have Hx := Lib.hid hx; have Hy := Lib.hid hy; have HF := Lib.hid hF; have Hf := Lib.hid hf; have Hfl := Lib.hid hfl
  clear hx hy h h' hF hf hfl
  go_enter Try.func9, Try.ntmps9
  go_wp2_with fail
  refine (HF.out _ Hx.out Hy.out).mono ?_
  rintro e w1 ⟨ad, k, d, rfl, hown, hb⟩
  have HB : Hid (Below w.heap.size w w1) := Lib.hid (Below.trans (by repeat (first | exact Below.refl _ _ | assumption | refine Below.setCell ?_ (by first | omega | (simp; done) | (simp; omega)) _ | refine Below.alloc ?_ (by first | omega | (simp; done) | (simp; omega)) _ | apply Below.drew)) (hb.mono (by simp <;> omega)))
  obtain rfl : k = 64 := by have := hown.len; rw [up_len, Hfl.out] at this; omega
  have HC1 := Lib.hid hown.reads
  clear hb hown
  have hz : w.heap.size ≤ w1.heap.size := HB.out.size
  go_wp2_with (at_make; refine mk_ints rfl _ _ rfl _ rfl rfl 64 rfl (by omega) ?_; intro g w2 hown2 hb2; have HO2 := Lib.hid hown2; have HB2 := Lib.hid hb2; clear hown2 hb2)
  have hgB := HO2.out.lt g rfl
  go_loopw [7, 9, 19] (fun _ _ i wr => ∃ I : Nat, I ≤ 64 ∧ i = .int .i64 I ∧ Below w1.heap.size w1 wr ∧ w2.heap.size ≤ wr.heap.size ∧ Own 3 wr w1.heap.size (some ⟨g, 0, none⟩) 64 64 (chRow f I)) (fun _ _ i _ => 64 - (intOf i).toNat)
  case atStart => exact ⟨0, Nat.zero_le _, rfl, HB2.out, Nat.le_refl _, by rw [chRow_zero]; exact HO2.out⟩
  case round =>
    obtain ⟨wo, rfl⟩ : ∃ x : World, x = wr := ⟨_, rfl⟩
    obtain ⟨I, hI, rfl, hbr, hzr, hor⟩ := hrel
    have HBr := Lib.hid hbr; have HOr := Lib.hid hor
    clear hbr hor
    by_cases hlt : I < 64
    · have hI0 : (0 : Int) ≤ I := by omega
      have hI64 : (I : Int) < 64 := by omega
      go_wp2_with fail
      refine (iSub_any I _ hlt).mono ?_
      obtain ⟨A, hA⟩ : ∃ A, A = ord fun t => sub t I := ⟨_, rfl⟩
      rw [← hA]
      rintro e w7 ⟨ad7, k7, c7, rfl, hown, hb⟩
      have HA64 : Hid (∀ x ∈ A, x < 64) := Lib.hid (by rw [hA]; exact ord_lt)
      have hAl : A.length ≤ 64 := by rw [hA]; exact ord_len _
      have HAe : Hid (altSum f I A = altSum f I (lowTo I (I + 1))) := Lib.hid (by rw [hA]; exact altSum_perm (ord_low hlt))
      have HB7 : Hid (Below w1.heap.size w1 w7) := Lib.hid (HBr.out.trans (hb.mono HBr.out.size))
      have HO7 := Lib.hid (HOr.out.keep hb)
      have HR7 := Lib.hid hown
      have hal : A.length = k7 := by have := hown.len; rwa [up_len] at this
      have Hal := Lib.hid hal
      have hne : ad7 ≠ some ⟨g, 0, none⟩ := fun e => by subst e; have := hown.lt g rfl; omega
      have Hne := Lib.hid hne
      have hz7 : w2.heap.size ≤ w7.heap.size := by have := hb.size; omega
      have hk7 : k7 ≤ 64 := by omega
      clear hb hown hal hA hne hAl
      go_wp2_with fail
      go_loopw [9, 25] (fun _ j wr => ∃ J : Nat, J ≤ k7 ∧ j = .int .i64 J ∧ Below w1.heap.size w1 wr ∧ w2.heap.size ≤ wr.heap.size ∧ Own 3 wr w1.heap.size (some ⟨g, 0, none⟩) 64 64 (chAt f I (altSum f I (A.take J))) ∧ Own 3 wr wo.heap.size ad7 k7 c7 (up A)) (fun _ j _ => k7 - (intOf j).toNat)
      case atStart => exact ⟨0, Nat.zero_le _, rfl, HB7.out, hz7, by rw [List.take_zero, show altSum f I [] = 0 from rfl, chAt_zero hlt]; exact HO7.out, HR7.out⟩
      case round =>
        obtain ⟨J, hJ, rfl, hbi, hzi, hoi, hri⟩ := hrel
        have HBi := Lib.hid hbi; have HOi := Lib.hid hoi; have HRi := Lib.hid hri
        have HCi := Lib.hid (HC1.out.keep hbi)
        clear hbi hoi hri
        by_cases hjt : J < k7
        · obtain ⟨b2, o2, rfl, hc⟩ := HRi.out.reads.cells (by omega)
          have hck := hc J hjt
          rw [nth_up] at hck
          have hx64 := HA64.out _ (nthN_mem (xs := A) (k := J) (by rw [Hal.out]; omega))
          have htk := nthN_take A J (by rw [Hal.out]; exact hjt)
          obtain ⟨t, ht⟩ : ∃ t, t = nthN A J := ⟨_, rfl⟩
          rw [← ht] at hck hx64 htk
          have hsn := altSum_snoc f I (A.take J) t
          rw [← htk] at hsn
          obtain ⟨b3, o3, rfl, hc3⟩ := HCi.out.cells (by omega)
          have hct := hc3 t hx64
          rw [nth_up] at hct
          have hcg := HOi.out.reads.cellAt I hlt
          rw [Nat.zero_add, chAt_nth hlt] at hcg
          have hfro : wr.frozen? ⟨g, I, none⟩ = false := by
            obtain ⟨g', hg', _, _, _, hf⟩ := Row.cells HOi.out (by omega)
            cases hg'; exact hf I
          have hbd := altSum_bd Hf.out I (A.take J)
          have hlen : (A.take J).length ≤ 64 := by rw [List.length_take]; omega
          have hfx := Hf.out t
          have halt : alt f I t = if sz (sdiff I t) % 2 = 1 then -(nthN f t : Int) else (nthN f t : Int) := rfl
          have hd64 : sdiff I t < 64 := sdiff_lt hlt
          have hand := w_andNot I t hlt hx64
          have hset := fun u => HOi.out.set I u
          simp only [chAt_set] at hset
          have Hset := Lib.hid hset
          obtain ⟨v, hv⟩ : ∃ v, v = altSum f I (A.take J) := ⟨_, rfl⟩
          rw [← hv] at hcg hbd hsn
          obtain ⟨x, hx⟩ : ∃ x, x = nthN f t := ⟨_, rfl⟩
          rw [← hx] at hct hfx halt
          obtain ⟨q, hq⟩ : ∃ q, q = sdiff I t := ⟨_, rfl⟩
          rw [← hq] at halt hand hd64
          have HSz : Hid (∀ W, Calls Try.prog 65 #[.int .i64 q] W fun e w' => e = .returned (.int .i64 (sz q)) ∧ W = w') := Lib.hid (fun W => SizeOf_any q W hd64)
          obtain ⟨z, hz⟩ : ∃ z, z = sz q := ⟨_, rfl⟩
          rw [← hz] at halt HSz
          have Halt := Lib.hid halt; have Hsn := Lib.hid hsn
          have hv1 : -4096 ≤ v := by omega
          have hv2 : v ≤ 4096 := by omega
          have hJ0 : (0 : Int) ≤ J := by omega
          have hJn : (J : Int) < k7 := by omega
          have ht0 : (0 : Int) ≤ t := by omega
          have ht64 : (t : Int) < 64 := by omega
          have hw1 : IntKind.i64.wrap (v + (x : Int)) = v + (x : Int) := IntWalk.i64_in _ (by omega)
          have hw2 : IntKind.i64.wrap (v - (x : Int)) = v - (x : Int) := IntWalk.i64_in _ (by omega)
          clear hc hc3 ht htk hbd hlen halt hsn hset hv hx hq hz
          rcases Nat.mod_two_eq_zero_or_one z with hpar | hpar
          · have hpi : (z : Int) % 2 = 0 := by omega
            have HV : Hid (v + (x : Int) = altSum f I (A.take (J + 1))) := Lib.hid (by rw [Hsn.out, Halt.out, if_neg (by omega)])
            clear hpar
            go_wp2_with (go_at_call 65; (with_reducible refine (HSz.out _).mono ?_); rintro e w' ⟨rfl, rfl⟩)
            go_region
            all_goals (
              go_wp2_with fail
              go_roundw
              case rel => exact ⟨J + 1, by omega, by go_num, (HBi.out.setCell (p := ⟨g, I, none⟩) (by simp; omega) (.int .i64 (v + x))).drew, by simpa using hzi, by rw [← HV.out]; exact (Hset.out (v + x)).drew, (HRi.out.setOther (g := g) (i := I) (.int .i64 (v + x)) Hne.out).drew⟩
              case measure => simp [intOf]; omega)
          · have hpi : (z : Int) % 2 = 1 := by omega
            have HV : Hid (v - (x : Int) = altSum f I (A.take (J + 1))) := Lib.hid (by rw [Hsn.out, Halt.out, if_pos hpar]; omega)
            clear hpar
            go_wp2_with (go_at_call 65; (with_reducible refine (HSz.out _).mono ?_); rintro e w' ⟨rfl, rfl⟩)
            go_region
            all_goals (
              go_wp2_with fail
              go_roundw
              case rel => exact ⟨J + 1, by omega, by go_num, (HBi.out.setCell (p := ⟨g, I, none⟩) (by simp; omega) (.int .i64 (v - x))).drew, by simpa using hzi, by rw [← HV.out]; exact (Hset.out (v - x)).drew, (HRi.out.setOther (g := g) (i := I) (.int .i64 (v - x)) Hne.out).drew⟩
              case measure => simp [intOf]; omega)
        · obtain rfl : J = k7 := by omega
          have hjj : ¬ ((J : Int) < J) := by omega
          have HOn : Hid (Own 3 wr w1.heap.size (some ⟨g, 0, none⟩) 64 64 (chRow f (I + 1))) := Lib.hid (by have := HOi.out; rw [← Hal.out, List.take_length, HAe.out, chAt_done hlt] at this; exact this)
          go_wp2_with fail
          go_roundw
          case rel => exact ⟨I + 1, by omega, by go_num, HBi.out, hzi, HOn.out⟩
          case measure => simp [intOf]; omega
    · obtain rfl : I = 64 := by omega
      have HOf : Hid (Own 3 wo w1.heap.size (some ⟨g, 0, none⟩) 64 64 (chTo f 64)) := Lib.hid (by rw [← chRow_all]; exact HOr.out)
      go_wp2_with fail
      go_ret
      exact ⟨_, 64, 64, rfl, HOf.out.mono (by omega), HB.out.trans (HBr.out.mono (by omega))⟩
theorem sColH_no (p : Int) (a : Option Addr) (n c : Nat) (xs : List Int) (a' : Option Addr) (n' c' : Nat) (cs : List Int) (w : World) (h : IntsAt w a n xs) (h' : IntsAt w a' n' cs) (hF : ∀ W, IntsAt W a n xs → IntsAt W a' n' cs → Calls Try.prog 15 #[.agg #[.int .i64 p, .slice a n c], .slice a' n' c'] W (RetInts W [])) :
    Calls Try.prog 16 #[.agg #[.int .i64 p, .slice a n c], .slice a' n' c'] w (RetInts w []) := by
  have hx : IntsAt (w.alloc (.cells #[.int .i64 p, .slice a n c] 26)) a n xs := h.keep (by repeat (first | exact Below.refl _ _ | assumption | refine Below.setCell ?_ (by first | omega | (simp; done) | (simp; omega)) _ | refine Below.alloc ?_ (by first | omega | (simp; done) | (simp; omega)) _ | apply Below.drew))
  have hy : IntsAt (w.alloc (.cells #[.int .i64 p, .slice a n c] 26)) a' n' cs := h'.keep (by repeat (first | exact Below.refl _ _ | assumption | refine Below.setCell ?_ (by first | omega | (simp; done) | (simp; omega)) _ | refine Below.alloc ?_ (by first | omega | (simp; done) | (simp; omega)) _ | apply Below.drew))
  have Hx := Lib.hid hx; have Hy := Lib.hid hy; have HF := Lib.hid hF
  clear hx hy h h' hF
  go_enter Try.func16, Try.ntmps16
  go_wp2_with fail
  refine (HF.out _ Hx.out Hy.out).mono ?_
  rintro e w1 ⟨ad, k, d, rfl, hown, hb⟩
  have HB : Hid (Below w.heap.size w w1) := Lib.hid (Below.trans (by repeat (first | exact Below.refl _ _ | assumption | refine Below.setCell ?_ (by first | omega | (simp; done) | (simp; omega)) _ | refine Below.alloc ?_ (by first | omega | (simp; done) | (simp; omega)) _ | apply Below.drew)) (hb.mono (by simp <;> omega)))
  obtain rfl : k = 0 := by have := hown.len; simpa using this.symm
  clear hb hown
  go_wp2_with fail
  go_loopw [7, 8, 9, 6] (fun i _ _ o wr => i = .int .i64 0 ∧ wr = w1.alloc (.cells #[] 3) ∧ o = .slice (some ⟨w1.heap.size, 0, none⟩) 0 0) (fun _ _ _ _ _ => 0)
  case atStart => exact ⟨rfl, rfl, rfl⟩
  case round =>
    obtain ⟨rfl, rfl, rfl⟩ := hrel
    go_wp2_with fail
    go_ret
    exact ⟨_, 0, 0, rfl, Own.empty 3 _ _ HB.out.size, by have := HB.out.alloc HB.out.size (.cells #[] 3); exact this⟩
set_option maxRecDepth 100000 in
set_option maxHeartbeats 2000000 in
theorem sColH_yes (p : Int) (a : Option Addr) (n c : Nat) (xs : List Int) (a' : Option Addr) (n' c' : Nat) (cs : List Int) (f : List Nat) (w : World) (h : IntsAt w a n xs) (h' : IntsAt w a' n' cs) (hfl : f.length = 64) (hf : ∀ k, nthN f k ≤ 64) (hF : ∀ W, IntsAt W a n xs → IntsAt W a' n' cs → Calls Try.prog 15 #[.agg #[.int .i64 p, .slice a n c], .slice a' n' c'] W (RetInts W (up f))) :
    Calls Try.prog 16 #[.agg #[.int .i64 p, .slice a n c], .slice a' n' c'] w (RetInts w (chTo f 64)) := by
  have hx : IntsAt (w.alloc (.cells #[.int .i64 p, .slice a n c] 26)) a n xs := h.keep (by repeat (first | exact Below.refl _ _ | assumption | refine Below.setCell ?_ (by first | omega | (simp; done) | (simp; omega)) _ | refine Below.alloc ?_ (by first | omega | (simp; done) | (simp; omega)) _ | apply Below.drew))
  have hy : IntsAt (w.alloc (.cells #[.int .i64 p, .slice a n c] 26)) a' n' cs := h'.keep (by repeat (first | exact Below.refl _ _ | assumption | refine Below.setCell ?_ (by first | omega | (simp; done) | (simp; omega)) _ | refine Below.alloc ?_ (by first | omega | (simp; done) | (simp; omega)) _ | apply Below.drew))
  have Hx := Lib.hid hx; have Hy := Lib.hid hy; have HF := Lib.hid hF; have Hf := Lib.hid hf; have Hfl := Lib.hid hfl
  clear hx hy h h' hF hf hfl
  go_enter Try.func16, Try.ntmps16
  go_wp2_with fail
  refine (HF.out _ Hx.out Hy.out).mono ?_
  rintro e w1 ⟨ad, k, d, rfl, hown, hb⟩
  have HB : Hid (Below w.heap.size w w1) := Lib.hid (Below.trans (by repeat (first | exact Below.refl _ _ | assumption | refine Below.setCell ?_ (by first | omega | (simp; done) | (simp; omega)) _ | refine Below.alloc ?_ (by first | omega | (simp; done) | (simp; omega)) _ | apply Below.drew)) (hb.mono (by simp <;> omega)))
  obtain rfl : k = 64 := by have := hown.len; rw [up_len, Hfl.out] at this; omega
  have HC1 := Lib.hid hown.reads
  clear hb hown
  have hz : w.heap.size ≤ w1.heap.size := HB.out.size
  go_wp2_with fail
  go_loopw [6, 7, 8, 9] (fun o i _ _ wr => ∃ I : Nat, I ≤ 64 ∧ i = .int .i64 I ∧ Below w1.heap.size w1 wr ∧ ∃ ad2 d2, o = .slice ad2 I d2 ∧ Own 3 wr w1.heap.size ad2 I d2 (chTo f I)) (fun _ i _ _ _ => 64 - (intOf i).toNat)
  case atStart => exact ⟨0, Nat.zero_le _, rfl, (by repeat (first | exact Below.refl _ _ | assumption | refine Below.setCell ?_ (by first | omega | (simp; done) | (simp; omega)) _ | refine Below.alloc ?_ (by first | omega | (simp; done) | (simp; omega)) _ | apply Below.drew)), _, 0, rfl, Own.empty _ _ _ (Nat.le_refl _)⟩
  case round =>
    obtain ⟨wo, rfl⟩ : ∃ x : World, x = wr := ⟨_, rfl⟩
    obtain ⟨I, hI, rfl, hbr, ad2, d2, rfl, hor⟩ := hrel
    have HBr := Lib.hid hbr; have HOr := Lib.hid hor
    have hzr : w1.heap.size ≤ wo.heap.size := hbr.size
    clear hbr hor
    by_cases hlt : I < 64
    · have hI0 : (0 : Int) ≤ I := by omega
      have hI64 : (I : Int) < 64 := by omega
      go_wp2_with fail
      go_loopw [8, 9] (fun u j wr => ∃ (J : Nat) (v : Int), J ≤ I + 1 ∧ j = .int .i64 J ∧ u = .int .i64 v ∧ Hid (v = altSum f I (lowTo I J)) ∧ Below w1.heap.size w1 wr ∧ Own 3 wr w1.heap.size ad2 I d2 (chTo f I)) (fun _ j _ => I + 1 - (intOf j).toNat)
      case atStart => exact ⟨0, 0, Nat.zero_le _, rfl, rfl, Lib.hid rfl, HBr.out, HOr.out⟩
      case round =>
        obtain ⟨J, v, hJ, rfl, rfl, hv, hbi, hoi⟩ := hrel
        have HBi := Lib.hid hbi; have HOi := Lib.hid hoi
        have HCi := Lib.hid (HC1.out.keep hbi)
        have hzi : w1.heap.size ≤ wr.heap.size := hbi.size
        clear hbi hoi
        by_cases hjt : J ≤ I
        · have hJ64 : J < 64 := by omega
          have hJi : (J : Int) ≤ I := by omega
          have hand := w_and J I hJ64 hlt
          have hJ0 : (0 : Int) ≤ J := by omega
          have hJn : (J : Int) < 64 := by omega
          cases hsub : sub J I
          · have hne : (((J &&& I : Nat) : Int) == (J : Int)) = false := by rw [castBeq]; exact hsub
            have Hno := Lib.hid (lowTo_no hsub)
            clear hsub
            go_wp2_with fail
            go_roundw
            case rel => exact ⟨J + 1, v, by omega, by go_num, rfl, Lib.hid (by rw [Hno.out]; exact hv.out), HBi.out, HOi.out⟩
            case measure => simp [intOf]; omega
          · have hne : (((J &&& I : Nat) : Int) == (J : Int)) = true := by rw [castBeq]; exact hsub
            have Hyes := Lib.hid (lowTo_yes hsub)
            obtain ⟨b3, o3, rfl, hc3⟩ := HCi.out.cells (by omega)
            have hct := hc3 J hJ64
            rw [nth_up] at hct
            have hbd := altSum_bd Hf.out I (lowTo I J)
            have hlen := lowTo_len I J
            have hfx := Hf.out J
            have halt : alt f I J = if sz (sdiff I J) % 2 = 1 then -(nthN f J : Int) else (nthN f J : Int) := rfl
            have hd64 : sdiff I J < 64 := sdiff_lt hlt
            have hless := w_less I hlt J hJ64 hsub
            have hsn := altSum_snoc f I (lowTo I J) J
            rw [← lowTo_yes hsub] at hsn
            obtain ⟨x, hx⟩ : ∃ x, x = nthN f J := ⟨_, rfl⟩
            rw [← hx] at hct hfx halt
            obtain ⟨q, hq⟩ : ∃ q, q = sdiff I J := ⟨_, rfl⟩
            rw [← hq] at halt hd64 hless
            have hqi : (I : Int) - J = (q : Int) := by have := hless; rw [IntKind.wrap_i64] at this; omega
            have HSz : Hid (∀ W, Calls Try.prog 74 #[.int .i64 q] W fun e w' => e = .returned (.int .i64 (sz q)) ∧ W = w') := Lib.hid (fun W => l2Size_any q W hd64)
            obtain ⟨z, hz2⟩ : ∃ z, z = sz q := ⟨_, rfl⟩
            have hz6 := sz_le q
            rw [← hz2] at halt HSz hz6
            rw [← hv.out] at hbd hsn
            have hv1 : -4096 ≤ v := by omega
            have hv2 : v ≤ 4096 := by omega
            have HV : Hid (v + (1 - 2 * ((z : Int) % 2)) * (x : Int) = altSum f I (lowTo I (J + 1))) := Lib.hid (by
              rw [hsn, halt]
              rcases Nat.mod_two_eq_zero_or_one z with hpar | hpar
              · rw [if_neg (by omega), show (z : Int) % 2 = 0 by omega]; omega
              · rw [if_pos hpar, show (z : Int) % 2 = 1 by omega]; omega)
            have HV6 : Hid (wrap64 (v + wrap64 ((1 - 2 * ((z : Int) % 2)) * (x : Int))) = v + (1 - 2 * ((z : Int) % 2)) * (x : Int)) := Lib.hid (by
              rcases Nat.mod_two_eq_zero_or_one z with hpar | hpar
              · rw [show (z : Int) % 2 = 0 by omega]; unfold wrap64; omega
              · rw [show (z : Int) % 2 = 1 by omega]; unfold wrap64; omega)
            have hw4 : IntKind.i64.wrap (q : Int) = q := IntWalk.i64_in _ (by omega)
            clear hsub hc3 hbd hlen halt hsn hx hq hz2
            go_wp2_with fail
            go_quiet ((go_at_call 74; with_reducible exact ql (HSz.out _)))
            go_wp2_with fail
            go_roundw
            case rel => exact ⟨J + 1, _, by omega, by go_num, rfl, Lib.hid (by rw [HV6.out, HV.out]), below_drewN HBi.out _, HOi.out.keep (below_drewN (Below.refl _ _) _)⟩
            case measure => simp [intOf]; omega
        · obtain rfl : J = I + 1 := by omega
          have hjj : ¬ ((I : Int) + 1 ≤ I) := by omega
          have Hch := Lib.hid (chTo_succ f I)
          go_wp2_with (at_builtin; refine ap rfl _ _ rfl w1.heap.size _ _ _ _ _ rfl HOi.out rfl (by omega) hzi ?_; intro ad' d' w' hown' hb'; have HO3 := Lib.hid hown'; have HB3 := Lib.hid hb'; clear hown' hb')
          go_roundw
          case rel => exact ⟨I + 1, by omega, by go_num, HBi.out.trans HB3.out, ad', d', rfl, by rw [Hch.out, ← hv.out]; exact HO3.out⟩
          case measure => simp [intOf]; omega
    · obtain rfl : I = 64 := by omega
      go_wp2_with fail
      go_ret
      exact ⟨_, 64, _, rfl, HOr.out.mono (by omega), HB.out.trans (HBr.out.mono (by omega))⟩
end Go.Proofs.Ytbdnlncpamandaa

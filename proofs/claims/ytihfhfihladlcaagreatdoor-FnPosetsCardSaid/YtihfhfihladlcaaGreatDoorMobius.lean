/- Contracts of MobiusOf, the program's and the reference's. -/
import Derived.Test.YtihfhfihladlcaaGreatDoorBase
import Derived.Test.YtihfhfihladlcaaGreatDoorPoset
import Derived.Test.YtihfhfihladlcaaGreatDoorPoset2
namespace Go.Proofs.YtihfhfihladlcaaGreatDoor
set_option maxRecDepth 20000
open Go.RowKit
set_option linter.unusedSimpArgs false

theorem posL_of {p : Int} {xs : List Int} (h : PosetP p xs) : PosL (nats xs) ∧ xs = up (nats xs) ∧ ((nats xs).length : Int) = p := by
  have hx := poset_nats h
  have hlen : (nats xs).length = xs.length := nats_len xs
  refine ⟨⟨by rw [hlen]; exact poset_len h, fun i hi => ?_, fun i hi k hk hb => ?_⟩, hx, by rw [hlen]; exact h.2.2.1⟩
  · rw [hlen] at hi
    obtain ⟨t, ht, hlt, hb⟩ := h.2.2.2.1 i hi
    have h2 := poset_lt h i hi
    rw [hx, nth_up] at ht
    have : nthN (nats xs) i = t := by omega
    rw [hlen]; exact ⟨h2.1, h2.2, by rw [this]; exact hb⟩
  · rw [hlen] at hi hk
    have := h.2.2.2.2 i hi k hk
    have e : ∀ j, (nth xs j).toNat = nthN (nats xs) j := fun j => by
      have : nth xs j = nth (up (nats xs)) j := congrArg (fun y => nth y j) hx
      rw [this, nth_up, Int.toNat_natCast]
    rw [e, e] at this
    exact this hb

theorem iMobius_no (p : Int) (a : Option Addr) (n c : Nat) (xs : List Int) (w : World) (h : IntsAt w a n xs) (hP : ¬ PosetP p xs) :
    Calls Tryz.prog 54 #[.agg #[.int .i64 p, .slice a n c]] w fun e w' => e = .returned (.int .i64 0) ∧ Below w.heap.size w w' := by
  have Hh := Lib.hid h; clear h
  have HP := Lib.hid hP; clear hP
  go_enter Tryz.func54, Tryz.ntmps54
  go_wp2_with fail
  refine (iIsPoset_any p a n c xs _ (Hh.out.keep (by repeat (first | exact Below.refl _ _ | assumption | refine Below.setCell ?_ (by first | omega | (simp; done) | (simp; omega)) _ | refine Below.alloc ?_ (by first | omega | (simp; done) | (simp; omega)) _ | apply Below.drew))) false (by simp [HP.out])).mono ?_
  rintro e w1 ⟨rfl, hb⟩
  have HB : Hid (Below w.heap.size w w1) := Lib.hid (Below.trans (by repeat (first | exact Below.refl _ _ | assumption | refine Below.setCell ?_ (by first | omega | (simp; done) | (simp; omega)) _ | refine Below.alloc ?_ (by first | omega | (simp; done) | (simp; omega)) _ | apply Below.drew)) (hb.mono (by simp)))
  clear hb
  go_wp2_with fail
  go_ret
  exact ⟨rfl, HB.out⟩
/-- what is done as the program's loop stands at size m and point I -/
def iD (l : List Nat) (m I j : Nat) : Bool := decide (sz (nthN l j) < m) || (decide (sz (nthN l j) = m) && decide (j < I))
set_option maxHeartbeats 4000000 in
theorem iMobius_yes (a : Option Addr) (n c : Nat) (l : List Nat) (w : World) (h : IntsAt w a n (up l)) (hL : PosL l) (hP : PosetP (n : Int) (up l)) :
    Calls Tryz.prog 54 #[.agg #[.int .i64 n, .slice a n c]] w fun e w' => e = .returned (.int .i64 (-(tot l fun _ => true))) ∧ Below w.heap.size w w' := by
  have hlen : l.length = n := by rw [← h.len, up_len]
  have hn6 : n ≤ 6 := by rw [← hlen]; exact hL.1
  have Hlen := Lib.hid hlen; clear hlen
  have HL := Lib.hid hL; clear hL
  have HP := Lib.hid hP; clear hP
  have Hh := Lib.hid h; clear h
  go_enter Tryz.func54, Tryz.ntmps54
  go_wp2_with fail
  refine (iIsPoset_any n a n c _ _ (Hh.out.keep (by repeat (first | exact Below.refl _ _ | assumption | refine Below.setCell ?_ (by first | omega | (simp; done) | (simp; omega)) _ | refine Below.alloc ?_ (by first | omega | (simp; done) | (simp; omega)) _ | apply Below.drew))) true (by simp [HP.out])).mono ?_
  rintro e w1 ⟨rfl, hb⟩
  have hz1 : w.heap.size + 1 ≤ w1.heap.size := by have := hb.size; simp at this; omega
  have hbx := (BoxF.new w (.int .i64 n) (.slice a n c) 59).keep hb (by simp)
  have Hbl1 : Hid (Below w.heap.size w w1) := Lib.hid (Below.trans (by repeat (first | exact Below.refl _ _ | assumption | refine Below.setCell ?_ (by first | omega | (simp; done) | (simp; omega)) _ | refine Below.alloc ?_ (by first | omega | (simp; done) | (simp; omega)) _ | apply Below.drew)) (hb.mono (by simp)))
  have Hh1 := Lib.hid (Hh.out.keep Hbl1.out)
  obtain ⟨a0, a1, _, _, _⟩ := hbx
  have hbx := (BoxF.new w (.int .i64 n) (.slice a n c) 59).keep hb (by simp)
  have Hbx := Lib.hid hbx
  clear hb hbx
  go_wp2_with (at_make; refine mk_ints rfl _ _ rfl _ rfl rfl n rfl (by omega) ?_; intro g w2 hown hb2)
  obtain ⟨B, hB⟩ : ∃ B, B = w1.heap.size := ⟨_, rfl⟩
  have ho0 : Own 3 w2 B (some ⟨g, 0, none⟩) n n (tab n (dv l (iD l 0 0))) := by
    rw [tab_zero] at hown
    rw [hB, tab_congr (g := fun _ => 0)]
    · exact hown
    · intro i _; unfold dv iD; simp
  have Hb2 : Hid (Below B w1 w2) := Lib.hid (by rw [hB]; exact hb2)
  have HBs : Hid (B = w1.heap.size) := Lib.hid hB
  have ht0 : (1 : Int) = tot l (iD l 0 0) := by
    rw [tot_congr (E := fun _ => false), tot_zero]
    intro j _; unfold iD; simp
  have Ht0 := Lib.hid ht0
  clear hb2 hown hB a0 a1 ht0
  go_wp2_with fail
  go_loopw [4, 5, 6, 7, 8, 10, 26, 38] (fun s m _ _ _ _ _ _ wr => ∃ (M : Nat) (S : Int), M ≤ n ∧ m = .int .i64 M ∧ s = .int .i64 S ∧ Hid (S = tot l (iD l M 0)) ∧ Below B w1 wr ∧ Own 3 wr B (some ⟨g, 0, none⟩) n n (tab n (dv l (iD l M 0)))) (fun _ m _ _ _ _ _ _ _ => n - (intOf m).toNat)
  case atStart => exact ⟨0, 1, Nat.zero_le _, rfl, rfl, Ht0, Hb2.out, ho0⟩
  case round =>
    clear ho0
    obtain ⟨M, S, hM, rfl, rfl, hS, hb, hown⟩ := hrel
    have hx := Hbx.out.keep hb (by have := HBs.out; omega)
    obtain ⟨a0, a1, _, _, _⟩ := hx
    by_cases hlt : M < n
    · have Hb := Lib.hid hb; have Hown := Lib.hid hown
      clear hb hown
      obtain ⟨wo, rfl⟩ : ∃ wo : World, wo = wr := ⟨_, rfl⟩
      go_wp2_with fail
      clear a0 a1
      go_loopw [4, 6, 7, 8, 10, 26, 38] (fun s _ _ _ _ i _ wr => ∃ (I : Nat) (S : Int), I ≤ n ∧ i = .int .i64 I ∧ s = .int .i64 S ∧ Hid (S = tot l (iD l M I)) ∧ Below B w1 wr ∧ Own 3 wr B (some ⟨g, 0, none⟩) n n (tab n (dv l (iD l M I)))) (fun _ _ _ _ _ i _ _ => n - (intOf i).toNat)
      case atStart => exact ⟨0, S, Nat.zero_le _, rfl, rfl, hS, Hb.out, Hown.out⟩
      case round =>
        obtain ⟨I, S, hI, rfl, rfl, hS, hb, hown⟩ := hrel
        by_cases hlt2 : I < n
        · have hh := Hh1.out.keep (by rw [← HBs.out]; exact hb)
          obtain ⟨b1, o1, rfl, hc⟩ := hh.cells (by omega)
          have hcI := hc I hlt2
          rw [nth_up] at hcI
          have hIl : I < l.length := by rw [Hlen.out]; exact hlt2
          have ht := (HL.out.2.1 I hIl).2.1
          have hSb := tot_bd HL.out.1 (iD l M I)
          rw [← hS.out] at hSb
          obtain ⟨t, hte⟩ : ∃ t, t = nthN l I := ⟨_, rfl⟩
          rw [← hte] at hcI ht
          have Hte := Lib.hid hte
          have HIl := Lib.hid hIl
          have Hb3 := Lib.hid hb; have Hown3 := Lib.hid hown
          clear hc hte hIl hh hb hown
          cases hz : (((sz t : Nat) : Int) != (M : Int))
          · have hzz : sz t = M := by simp at hz; omega
            have Hzz := Lib.hid hzz; clear hzz
            obtain ⟨L, hLe⟩ : ∃ L, L = pts t := ⟨_, rfl⟩
            have HLe := Lib.hid hLe
            have hL6 : L.length ≤ 6 := by rw [hLe]; exact pts_len t
            have hLn : ∀ k, k < L.length → nthN L k < n ∧ nthN L k < 6 ∧ iD l M I (nthN L k) = true := fun k hk => by
              have hm := nthN_mem hk
              rw [hLe] at hm
              obtain ⟨h6, hbt⟩ := mem_pts.1 hm
              rw [← hLe] at h6 hbt
              rw [Hte.out] at hbt
              obtain ⟨h1, h2⟩ := HL.out.down HIl.out hbt
              rw [← Hte.out, Hzz.out] at h2
              exact ⟨by rw [← Hlen.out]; exact h1, h6, by unfold iD; simp [h2]⟩
            have HLn := Lib.hid hLn
            clear hLn hLe
            go_wp2_with (first | (go_at_call 136; (with_reducible refine (SizeOf_any t _ ht).mono ?_); rintro e w' ⟨rfl, rfl⟩) | (go_at_call 117; (with_reducible refine (PointsOf_any t _ ht).mono ?_); rintro e wp ⟨la, ln, lc, rfl, hownP, hbP⟩))
            rw [← HLe.out] at hownP
            have hln : L.length = ln := by have := hownP.len; rw [up_len] at this; exact this
            subst hln
            have HownP := Lib.hid hownP; have HbP := Lib.hid hbP
            clear hownP hbP
            have hgB : B ≤ g := Hown3.out.lt g rfl |>.1
            have Hown4 := Lib.hid (Hown3.out.keep HbP.out)
            go_loop [8, 10, 38] (fun m _ j => ∃ (J : Nat) (A : Int), J ≤ L.length ∧ j = .int .i64 J ∧ m = .int .i64 A ∧ Hid (A = part (dv l (iD l M I)) L J)) (fun _ _ j => L.length - (intOf j).toNat)
            case atStart => exact ⟨0, 1, Nat.zero_le _, rfl, rfl, Lib.hid (part_zero _ _).symm⟩
            case round =>
              obtain ⟨J, A, hJ, rfl, rfl, hA⟩ := hrel
              have hAb := part_bd (f := dv l (iD l M I)) L hL6 (fun x _ => dv_bd _ _ _) J
              rw [← hA.out] at hAb
              by_cases hlt3 : J < L.length
              · obtain ⟨h1, h2, h3⟩ := HLn.out J hlt3
                obtain ⟨b2, o2, rfl, hcp⟩ := HownP.out.reads.cells (by omega)
                have hcJ := hcp J hlt3
                rw [nth_up] at hcJ
                obtain ⟨x, hxe⟩ : ∃ x, x = nthN L J := ⟨_, rfl⟩
                rw [← hxe] at hcJ h1 h2 h3
                obtain ⟨b3, o3, hg3, hcv⟩ := Hown4.out.reads.cells (by omega)
                simp only [Option.some.injEq, Addr.mk.injEq, and_true] at hg3
                obtain ⟨rfl, rfl⟩ := hg3
                have hcx := hcv x h1
                rw [tab_at h1] at hcx
                have hvb := dv_bd l (iD l M I) x
                obtain ⟨V, hVe⟩ : ∃ V, V = dv l (iD l M I) x := ⟨_, rfl⟩
                rw [← hVe] at hcx hvb
                simp only [Nat.zero_add] at hcx
                have Hxe := Lib.hid hxe; have HVe := Lib.hid hVe
                have hw : IntKind.i64.wrap (A + V) = A + V := IntWalk.i64_in _ (by omega)
                clear hcp hcv hxe hVe
                go_wp2_with fail
                go_round
                case rel => exact ⟨J + 1, A + V, by omega, by go_num, rfl, Lib.hid (by rw [part_succ hlt3, ← hA.out, ← Hxe.out, ← HVe.out])⟩
                case measure => simp [intOf]; omega
              · obtain rfl : J = L.length := by omega
                have hJJ : ¬ ((L.length : Int) < L.length) := by omega
                obtain ⟨g', hg', hBg, hgl, hcell, hfr⟩ := Hown4.out.cells (by omega)
                simp only [Option.some.injEq, Addr.mk.injEq, and_true] at hg'
                subst hg'
                have hcI2 := hcell I hlt2
                have hfI := hfr I
                rw [List.getElem?_map, List.getElem?_eq_getElem (by rw [tab_len]; exact hlt2)] at hcI2
                simp only [Option.map_some] at hcI2
                obtain ⟨V0, hV0⟩ : ∃ V0, V0 = (tab n (dv l (iD l M I)))[I]'(by rw [tab_len]; exact hlt2) := ⟨_, rfl⟩
                rw [← hV0] at hcI2
                have hmu : mu l I = -A := by
                  rw [hA.out, mu_part HL.out HIl.out (f := dv l (iD l M I)), ← Hte.out, ← HLe.out]
                  intro k hk
                  obtain ⟨h1, h2⟩ := HL.out.down HIl.out hk
                  rw [← Hte.out, Hzz.out] at h2
                  unfold dv iD; simp [h2]
                have hD : iD l M I I = false := by unfold iD; rw [← Hte.out, Hzz.out]; simp
                have htot : tot l (iD l M (I + 1)) = S + -A := by
                  rw [hS.out, ← hmu, ← tot_add HIl.out hD]
                  apply tot_congr
                  intro j _
                  unfold iD
                  by_cases hj : j = I
                  · subst hj; rw [← Hte.out, Hzz.out]; simp
                  · have : (j < I + 1) = (j < I) := by apply propext; omega
                    simp [hj, this]
                have htab : (tab n (dv l (iD l M I))).set I (-A) = tab n (dv l (iD l M (I + 1))) := by
                  rw [← hmu, tab_set, dv_add]
                  apply tab_congr
                  intro j _
                  unfold dv iD
                  by_cases hj : j = I
                  · subst hj; rw [← Hte.out, Hzz.out]; simp
                  · have : (j < I + 1) = (j < I) := by apply propext; omega
                    simp [hj, this]
                have Htot := Lib.hid htot; have Htab := Lib.hid htab
                have hwA : IntKind.i64.wrap (-A) = -A := IntWalk.i64_in _ (by omega)
                have hwS : IntKind.i64.wrap (S + -A) = S + -A := IntWalk.i64_in _ (by omega)
                have Hb5 := Lib.hid (Hb3.out.trans (HbP.out.mono (by have := Hb3.out.size; have := HBs.out; omega)))
                clear hV0 hcell hfr hmu hD htot htab
                go_wp2_with fail
                go_roundw
                case rel => exact ⟨I + 1, S + -A, by omega, by go_num, by first | rfl | go_num, Lib.hid Htot.out.symm, Hb5.out.setCell hBg _, by rw [← Htab.out]; exact Hown4.out.set I (-A)⟩
                case measure => simp [intOf]; omega
          · have hzz : ¬ sz t = M := by simp at hz; omega
            have Hzz := Lib.hid hzz; clear hzz
            go_wp2_with (go_at_call 136; (with_reducible refine (SizeOf_any t _ ht).mono ?_); rintro e w' ⟨rfl, rfl⟩)
            have he : ∀ j, iD l M (I + 1) j = iD l M I j := fun j => by
              unfold iD
              by_cases hj : j = I
              · subst hj; rw [← Hte.out]; simp [Hzz.out]
              · have : (j < I + 1) = (j < I) := by apply propext; omega
                simp [this]
            go_roundw
            case rel => exact ⟨I + 1, S, by omega, by go_num, rfl, Lib.hid (by rw [hS.out]; exact tot_congr fun j _ => (he j).symm), Hb3.out, by rw [show iD l M (I + 1) = iD l M I from funext he]; exact Hown3.out⟩
            case measure => simp [intOf]; omega
        · obtain rfl : I = n := by omega
          have hII : ¬ ((I : Int) < I) := by omega
          have he : ∀ j, j < l.length → iD l M I j = iD l (M + 1) 0 j := fun j hj => by
            rw [Hlen.out] at hj
            unfold iD
            have : (sz (nthN l j) < M + 1) = (sz (nthN l j) < M ∨ sz (nthN l j) = M) := by apply propext; omega
            simp [this, hj]
          have He := Lib.hid he; clear he
          have Hown3 := Lib.hid hown
          clear hown
          go_wp2_with fail
          go_roundw
          case rel =>
            refine ⟨M + 1, S, by omega, by go_num, rfl, Lib.hid (by rw [hS.out]; exact tot_congr He.out), hb, ?_⟩
            have := Hown3.out
            rw [tab_congr (g := dv l (iD l (M + 1) 0)) fun i hi => by unfold dv; rw [He.out i (by rw [Hlen.out]; exact hi)]] at this
            exact this
          case measure => simp [intOf]; omega
    · obtain rfl : M = n := by omega
      have hMM : ¬ ((M : Int) < M) := by omega
      have hSb := tot_bd HL.out.1 (iD l M 0)
      rw [← hS.out] at hSb
      have hw : IntKind.i64.wrap (-S) = -S := IntWalk.i64_in _ (by omega)
      go_wp2_with fail
      go_ret
      refine ⟨ret_int ?_, Hbl1.out.trans (hb.mono (by have := HBs.out; have := Hbl1.out.size; omega))⟩
      rw [hS.out]
      rw [tot_congr (E := fun _ => true) fun j hj => by have h := HL.out.sz_lt hj; rw [Hlen.out] at h; unfold iD; simp [h]]

theorem sMobius_no (p : Int) (a : Option Addr) (n c : Nat) (xs : List Int) (w : World) (h : IntsAt w a n xs) (hP : ¬ PosetP p xs) :
    Calls Tryz.prog 55 #[.agg #[.int .i64 p, .slice a n c]] w fun e w' => e = .returned (.int .i64 0) ∧ Below w.heap.size w w' := by
  have Hh := Lib.hid h; clear h
  have HP := Lib.hid hP; clear hP
  go_enter Tryz.func55, Tryz.ntmps55
  go_wp2_with fail
  refine (sIsPoset_any p a n c xs _ (Hh.out.keep (by repeat (first | exact Below.refl _ _ | assumption | refine Below.setCell ?_ (by first | omega | (simp; done) | (simp; omega)) _ | refine Below.alloc ?_ (by first | omega | (simp; done) | (simp; omega)) _ | apply Below.drew))) false (by simp [HP.out])).mono ?_
  rintro e w1 ⟨rfl, hb⟩
  have HB : Hid (Below w.heap.size w w1) := Lib.hid (Below.trans (by repeat (first | exact Below.refl _ _ | assumption | refine Below.setCell ?_ (by first | omega | (simp; done) | (simp; omega)) _ | refine Below.alloc ?_ (by first | omega | (simp; done) | (simp; omega)) _ | apply Below.drew)) (hb.mono (by simp)))
  clear hb
  go_wp2_with fail
  go_ret
  exact ⟨rfl, HB.out⟩
/-- all points of at most so many points below them are done -/
def DoneBelow (l : List Nat) (D : Nat → Bool) (m : Nat) : Prop := ∀ j, j < l.length → sz (nthN l j) < m → D j = true
set_option maxHeartbeats 8000000 in
theorem sMobius_yes (a : Option Addr) (n c : Nat) (l : List Nat) (w : World) (h : IntsAt w a n (up l)) (hL : PosL l) (hP : PosetP (n : Int) (up l)) :
    Calls Tryz.prog 55 #[.agg #[.int .i64 n, .slice a n c]] w fun e w' => e = .returned (.int .i64 (-(tot l fun _ => true))) ∧ Below w.heap.size w w' := by
  have hlen : l.length = n := by rw [← h.len, up_len]
  have hn6 : n ≤ 6 := by rw [← hlen]; exact hL.1
  have Hlen := Lib.hid hlen; clear hlen
  have HL := Lib.hid hL; clear hL
  have HP := Lib.hid hP; clear hP
  have Hh := Lib.hid h; clear h
  go_enter Tryz.func55, Tryz.ntmps55
  go_wp2_with fail
  refine (sIsPoset_any n a n c _ _ (Hh.out.keep (by repeat (first | exact Below.refl _ _ | assumption | refine Below.setCell ?_ (by first | omega | (simp; done) | (simp; omega)) _ | refine Below.alloc ?_ (by first | omega | (simp; done) | (simp; omega)) _ | apply Below.drew))) true (by simp [HP.out])).mono ?_
  rintro e w1 ⟨rfl, hb⟩
  have hz1 : w.heap.size + 1 ≤ w1.heap.size := by have := hb.size; simp at this; omega
  have hbx := (BoxF.new w (.int .i64 n) (.slice a n c) 59).keep hb (by simp)
  have Hbx := Lib.hid hbx
  have Hbl1 : Hid (Below w.heap.size w w1) := Lib.hid (Below.trans (by repeat (first | exact Below.refl _ _ | assumption | refine Below.setCell ?_ (by first | omega | (simp; done) | (simp; omega)) _ | refine Below.alloc ?_ (by first | omega | (simp; done) | (simp; omega)) _ | apply Below.drew)) (hb.mono (by simp)))
  have Hh1 := Lib.hid (Hh.out.keep Hbl1.out)
  obtain ⟨a0, a1, _, _, _⟩ := hbx
  clear hb
  go_wp2_with (first | (at_make; refine mk_ints rfl _ _ rfl _ rfl rfl n rfl (by omega) ?_; intro g w2 hown hb2; have hx2 := Hbx.out.keep hb2 (by omega); have HX2 := Lib.hid hx2; obtain ⟨p0, p1, _, _, _⟩ := hx2) | (at_make; refine mk_bools rfl _ _ rfl _ rfl rfl n rfl (by omega) ?_; intro gd w3 hrow hb3; have hx3 := HX2.out.keep hb3 (by have := hb2.size; omega); obtain ⟨q0, q1, _, _, _⟩ := hx3))
  obtain ⟨B, hB⟩ : ∃ B, B = w1.heap.size := ⟨_, rfl⟩
  have hz2 : w1.heap.size ≤ w2.heap.size := hb2.size
  have hgl2 : ∀ k, (Value.slice (some ⟨g, 0, none⟩) n n).ownBlock = some k → B ≤ k ∧ k < w2.heap.size := fun k hk => by rw [hB]; exact hown.lt k hk
  have hgd2 : ∀ k, (Value.slice (some ⟨gd, 0, none⟩) n n).ownBlock = some k → w2.heap.size ≤ k ∧ k < w3.heap.size := fun k hk => Row.lt hrow k hk
  have hgg : g ≠ gd := by
    have h1 := (hgl2 g rfl).2; have h2 := (hgd2 gd rfl).1; omega
  have hBg : B ≤ g := (hgl2 g rfl).1
  have hBd : B ≤ gd := by have := (hgd2 gd rfl).1; omega
  have ho0 : Own 3 w3 B (some ⟨g, 0, none⟩) n n (tab n (dv l fun _ => false)) := by
    rw [tab_zero] at hown
    rw [hB, tab_congr (g := fun _ => 0)]
    · exact hown.keep hb3
    · intro i _; unfold dv; simp
  have hr0 : Row 4 w3 B (some ⟨gd, 0, none⟩) n n (tabB n fun _ => false) := by
    rw [tabB_zero] at hrow
    exact Row.mono hrow (by omega)
  have Hb3 : Hid (Below B w1 w3) := Lib.hid (by rw [hB]; exact hb2.trans (hb3.mono hb2.size))
  have HBs : Hid (B = w1.heap.size) := Lib.hid hB
  have Hgg := Lib.hid hgg; have HBg := Lib.hid hBg; have HBd := Lib.hid hBd
  clear hb2 hb3 hown hrow hB a0 a1 p0 p1 q0 q1 hgl2 hgd2 hz2 hgg hBg hBd
  go_loopw [5, 6, 7, 8, 9, 10] (fun s m _ _ _ _ wr => ∃ (M : Nat) (D : Nat → Bool), M ≤ n ∧ m = .int .i64 M ∧ s = .int .i64 (tot l D) ∧ Hid (DoneBelow l D M) ∧ Below B w1 wr ∧ Own 3 wr B (some ⟨g, 0, none⟩) n n (tab n (dv l D)) ∧ Row 4 wr B (some ⟨gd, 0, none⟩) n n (tabB n D)) (fun _ m _ _ _ _ _ => n - (intOf m).toNat)
  case atStart => exact ⟨0, fun _ => false, Nat.zero_le _, rfl, by rw [tot_zero], Lib.hid (fun j _ h => absurd h (Nat.not_lt_zero _)), Hb3.out, ho0, hr0⟩
  case round =>
    clear ho0 hr0
    obtain ⟨M, D, hM, rfl, rfl, hD, hb, hown, hrow⟩ := hrel
    have hx := Hbx.out.keep hb (by have := HBs.out; omega)
    obtain ⟨a0, a1, _, _, _⟩ := hx
    by_cases hlt : M < n
    · have Hb := Lib.hid hb; have Hown := Lib.hid hown; have Hrow := Lib.hid hrow
      clear hb hown hrow
      obtain ⟨wo, rfl⟩ : ∃ wo : World, wo = wr := ⟨_, rfl⟩
      go_wp2_with fail
      clear a0 a1
      go_loopw [5, 7, 8, 9, 10] (fun s i _ _ _ wr => ∃ (I : Nat) (D : Nat → Bool), I ≤ n ∧ i = .int .i64 I ∧ s = .int .i64 (tot l D) ∧ Hid (DoneBelow l D M) ∧ Hid (∀ j, j < I → j < l.length → sz (nthN l j) ≤ M → D j = true) ∧ Below B w1 wr ∧ Own 3 wr B (some ⟨g, 0, none⟩) n n (tab n (dv l D)) ∧ Row 4 wr B (some ⟨gd, 0, none⟩) n n (tabB n D)) (fun _ i _ _ _ _ => n - (intOf i).toNat)
      case atStart => exact ⟨0, D, Nat.zero_le _, rfl, rfl, hD, Lib.hid (fun j hj => absurd hj (Nat.not_lt_zero _)), Hb.out, Hown.out, Hrow.out⟩
      case round =>
        obtain ⟨I, E, hI, rfl, rfl, hE, hEI, hb, hown, hrow⟩ := hrel
        have hx := Hbx.out.keep hb (by have := HBs.out; omega)
        obtain ⟨a0, a1, _, _, _⟩ := hx
        by_cases hlt2 : I < n
        · obtain ⟨gd', hgd', hBd', hgdl, hdc, hdf⟩ := Row.cells hrow (by omega)
          simp only [Option.some.injEq, Addr.mk.injEq, and_true] at hgd'
          subst hgd'
          have hdI := hdc I hlt2
          have hdfI := hdf I
          rw [tabB_at hlt2] at hdI
          have hh := Hh1.out.keep (by rw [← HBs.out]; exact hb)
          obtain ⟨b1, o1, rfl, hc⟩ := hh.cells (by omega)
          have hcI := hc I hlt2
          rw [nth_up] at hcI
          have hIl : I < l.length := by rw [Hlen.out]; exact hlt2
          have ht := (HL.out.2.1 I hIl).2.1
          obtain ⟨t, hte⟩ : ∃ t, t = nthN l I := ⟨_, rfl⟩
          rw [← hte] at hcI ht
          obtain ⟨e, hee⟩ : ∃ e, e = E I := ⟨_, rfl⟩
          rw [← hee] at hdI
          have Hee := Lib.hid hee
          have Hte := Lib.hid hte
          have HIl := Lib.hid hIl
          have Hb4 := Lib.hid hb; have Hown4 := Lib.hid hown; have Hrow4 := Lib.hid hrow
          have hcells := hown.reads.cells (by omega)
          have Hcells := Lib.hid hcells
          have Hdc := Lib.hid hdc
          clear hc hte hIl hh hb hown hrow hdc hdf hee hcells
          go_wp2_with fail
          go_loop [8, 9, 10] (fun r m k => ∃ K : Nat, K ≤ n ∧ k = .int .i64 K ∧ r = .bool (!e && doneTo E t K) ∧ m = .int .i64 (partTo (dv l E) t K)) (fun _ _ k => n - (intOf k).toNat)
          case atStart => exact ⟨0, Nat.zero_le _, rfl, by simp [doneTo, ptsTo], by rw [partTo_zero]⟩
          case round =>
            obtain ⟨K, hK, rfl, rfl, rfl⟩ := hrel
            have hpb := partTo_bd (f := dv l E) t K (by omega) (fun x => dv_bd _ _ _)
            obtain ⟨A, hA⟩ : ∃ A, A = partTo (dv l E) t K := ⟨_, rfl⟩
            obtain ⟨R, hR⟩ : ∃ R, R = (!e && doneTo E t K) := ⟨_, rfl⟩
            rw [← hA] at hpb
            rw [← hA, ← hR]
            have HA := Lib.hid hA; have HR := Lib.hid hR
            clear hA hR
            by_cases hlt3 : K < n
            · have hK6 : K < 6 := by omega
              cases hbit : t.testBit K
              · have Hbit := Lib.hid hbit
                go_wp2_with fail
                go_round
                case rel => exact ⟨K + 1, by omega, by go_num, by rw [doneTo_no Hbit.out, HR.out], by rw [partTo_no Hbit.out, HA.out]⟩
                case measure => simp [intOf]; omega
              · have Hbit := Lib.hid hbit
                obtain ⟨b3, o3, hg3, hcv⟩ := Hcells.out
                simp only [Option.some.injEq, Addr.mk.injEq, and_true] at hg3
                obtain ⟨rfl, rfl⟩ := hg3
                have hcK := hcv K hlt3
                rw [tab_at hlt3, Nat.zero_add] at hcK
                have hvb := dv_bd l E K
                obtain ⟨V, hVe⟩ : ∃ V, V = dv l E K := ⟨_, rfl⟩
                rw [← hVe] at hcK hvb
                have hdK := Hdc.out K hlt3
                rw [tabB_at hlt3] at hdK
                obtain ⟨d, hde⟩ : ∃ d, d = E K := ⟨_, rfl⟩
                rw [← hde] at hdK
                have HVe := Lib.hid hVe; have Hde := Lib.hid hde
                have hw : IntKind.i64.wrap (A + V) = A + V := IntWalk.i64_in _ (by omega)
                clear hcv hVe hde
                cases R
                · go_wp2_with fail
                  go_round
                  case rel => exact ⟨K + 1, by omega, by go_num, by rw [doneTo_yes Hbit.out, ← Bool.and_assoc, ← HR.out]; simp, by rw [partTo_yes Hbit.out, ← HA.out, ← HVe.out]⟩
                  case measure => simp [intOf]; omega
                · go_wp2_with fail
                  go_round
                  case rel => exact ⟨K + 1, by omega, by go_num, by rw [doneTo_yes Hbit.out, ← Bool.and_assoc, ← HR.out, ← Hde.out]; simp, by rw [partTo_yes Hbit.out, ← HA.out, ← HVe.out]⟩
                  case measure => simp [intOf]; omega
            · obtain rfl : K = n := by omega
              have hKK : ¬ ((K : Int) < K) := by omega
              have hall : doneTo E t K = true → ∀ k, t.testBit k = true → E k = true := fun h k hk => by
                have hk2 : k < 6 := bit6 ht hk
                have hp : ptsTo t K = pts t := ptsTo_all (by rw [Hte.out, ← Hlen.out]; exact (HL.out.2.1 I HIl.out).1) (by omega)
                unfold doneTo at h
                rw [hp, List.all_eq_true] at h
                exact h k (mem_pts.2 ⟨hk2, hk⟩)
              have Hall := Lib.hid hall; clear hall
              cases hRb : R
              · have hstay : sz (nthN l I) ≤ M → E I = true := fun hsz => by
                  have h1 := HR.out
                  rw [hRb] at h1
                  have h2 : e = true ∨ doneTo E t K = false := by
                    cases e
                    · right; simpa using h1.symm
                    · left; rfl
                  rcases h2 with h2 | h2
                  · rw [← Hee.out]; exact h2
                  · exfalso
                    have h3 : doneTo E t K = true := by
                      unfold doneTo
                      rw [List.all_eq_true]
                      intro k hk
                      have hk2 : t.testBit k = true := by unfold ptsTo at hk; exact (List.mem_filter.1 hk).2
                      rw [Hte.out] at hk2
                      obtain ⟨h5, h6⟩ := HL.out.down HIl.out hk2
                      exact hE.out k h5 (by omega)
                    rw [h2] at h3; cases h3
                subst hRb
                have Hstay := Lib.hid hstay; clear hstay
                go_wp2_with fail
                go_roundw
                case rel =>
                  refine ⟨I + 1, E, by omega, by go_num, rfl, hE, Lib.hid fun j hj hjl hsz => ?_, Hb4.out, Hown4.out, Hrow4.out⟩
                  rcases Nat.lt_or_ge j I with h | h
                  · exact hEI.out j h hjl hsz
                  · obtain rfl : j = I := by omega
                    exact Hstay.out hsz
                case measure => simp [intOf]; omega
              · have h1 := HR.out
                rw [hRb] at h1
                have he : e = false := by cases e <;> simp at h1 ⊢
                have hd : doneTo E t K = true := by rw [he] at h1; simpa using h1.symm
                have hmu : mu l I = -A := by
                  have hlk : l.length = K := Hlen.out
                  rw [HA.out, mu_partTo HL.out HIl.out (f := dv l E), ← Hte.out, hlk]
                  intro k hk
                  rw [← Hte.out] at hk
                  have := Hall.out hd k hk
                  unfold dv; rw [this]; rfl
                have htot : tot l (fun j => E j || j == I) = tot l E + -A := by rw [tot_add HIl.out (by rw [← Hee.out]; exact he), hmu]
                have htab : (tab K (dv l E)).set I (-A) = tab K (dv l fun j => E j || j == I) := by rw [← hmu, tab_set, dv_add]
                have hTb := tot_bd HL.out.1 E
                obtain ⟨S, hS⟩ : ∃ S, S = tot l E := ⟨_, rfl⟩
                rw [← hS] at hTb htot
                rw [← hS]
                have Htot := Lib.hid htot; have Htab := Lib.hid htab
                have hwA : IntKind.i64.wrap (-A) = -A := IntWalk.i64_in _ (by omega)
                have hwS : IntKind.i64.wrap (S + -A) = S + -A := IntWalk.i64_in _ (by omega)
                subst hRb
                subst he
                obtain ⟨g', hg', hBg', hgl', hcell, hfr⟩ := Hown4.out.cells (by omega)
                simp only [Option.some.injEq, Addr.mk.injEq, and_true] at hg'
                subst hg'
                have hcI2 := hcell I hlt2
                have hfI := hfr I
                rw [List.getElem?_map, List.getElem?_eq_getElem (by rw [tab_len]; exact hlt2)] at hcI2
                simp only [Option.map_some] at hcI2
                obtain ⟨V0, hV0⟩ : ∃ V0, V0 = (tab K (dv l E))[I]'(by rw [tab_len]; exact hlt2) := ⟨_, rfl⟩
                rw [← hV0] at hcI2
                have hne : g ≠ gd := Hgg.out
                have hne2 : gd ≠ g := fun h => Hgg.out h.symm
                clear hV0 hcell hfr h1 hd hmu htot htab
                go_wp2_with fail
                go_roundw
                case rel =>
                  refine ⟨I + 1, fun j => E j || j == I, by omega, by go_num, by rw [Htot.out, hS], Lib.hid fun j hj hsz => by simp [hE.out j hj hsz], Lib.hid fun j hj hjl hsz => ?_, (Hb4.out.setCell HBg.out _).setCell HBd.out _, ?_, ?_⟩
                  · rcases Nat.lt_or_ge j I with h | h
                    · simp [hEI.out j h hjl hsz]
                    · obtain rfl : j = I := by omega
                      simp
                  · rw [← Htab.out]; exact (Hown4.out.set I (-A)).setOther _ (by simp [hne])
                  · rw [← tabB_set]; exact Row.set (Row.setOther Hrow4.out _ (by simp [hne2])) I _
                case measure => simp [intOf]; omega
        · obtain rfl : I = n := by omega
          have hII : ¬ ((I : Int) < I) := by omega
          go_wp2_with fail
          go_roundw
          case rel => exact ⟨M + 1, E, by omega, by go_num, rfl, Lib.hid fun j hj hsz => hEI.out j (by rw [← Hlen.out]; exact hj) hj (by omega), hb, hown, hrow⟩
          case measure => simp [intOf]; omega
    · obtain rfl : M = n := by omega
      have hMM : ¬ ((M : Int) < M) := by omega
      have hSb := tot_bd HL.out.1 D
      have he : tot l D = tot l fun _ => true := tot_congr fun j hj => hD.out j hj (by rw [← Hlen.out]; exact HL.out.sz_lt hj)
      rw [he] at hSb
      rw [he]
      obtain ⟨S, hS⟩ : ∃ S, S = tot l fun _ => true := ⟨_, rfl⟩
      rw [← hS] at hSb
      rw [← hS]
      have hw : IntKind.i64.wrap (-S) = -S := IntWalk.i64_in _ (by omega)
      have HS := Lib.hid hS
      clear he hS
      go_wp2_with fail
      go_ret
      exact ⟨ret_int (by rw [HS.out]), Hbl1.out.trans (hb.mono (by have := HBs.out; have := Hbl1.out.size; omega))⟩
end Go.Proofs.YtihfhfihladlcaaGreatDoor

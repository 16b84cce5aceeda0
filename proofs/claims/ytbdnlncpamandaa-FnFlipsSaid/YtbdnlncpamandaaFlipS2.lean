/- Texts of this claim, one behind the other: what each says stands at its head. -/
import Derived.Test.YtbdnlncpamandaaCore
import Derived.Test.YtbdnlncpamandaaFlip
import Derived.Test.YtbdnlncpamandaaFlipS
/- Contract of the reference's CanFlip. -/
namespace Go.Proofs.Ytbdnlncpamandaa
set_option maxRecDepth 20000
open Go.RowKit
set_option linter.unusedSimpArgs false
set_option linter.unusedVariables false

theorem propTo_yes {D : List Nat} {t I : Nat} (hI : I < D.length) (h : nthN D I ≠ t) : (D.take (I + 1)).filter (fun x => x != t) = (D.take I).filter (fun x => x != t) ++ [nthN D I] := by
  rw [nthN_take D I hI, List.filter_append]; simp [h]
theorem propTo_no {D : List Nat} {t I : Nat} (hI : I < D.length) (h : nthN D I = t) : (D.take (I + 1)).filter (fun x => x != t) = (D.take I).filter (fun x => x != t) := by
  rw [nthN_take D I hI, List.filter_append]; simp [h]
theorem sFlip_no (p : Int) (a : Option Addr) (n c : Nat) (xs : List Int) (s t : Int) (w : World) (h : IntsAt w a n xs) (hno : ¬ Anti p xs) :
    Calls Try.prog 105 #[.agg #[.int .i64 p, .slice a n c], .int .i64 s, .int .i64 t] w fun e w' => e = .returned (.bool false) ∧ Below w.heap.size w w' := by
  have hx : IntsAt (w.alloc (.cells #[.int .i64 p, .slice a n c] 26)) a n xs := h.keep (by repeat (first | exact Below.refl _ _ | assumption | refine Below.setCell ?_ (by first | omega | (simp; done) | (simp; omega)) _ | refine Below.alloc ?_ (by first | omega | (simp; done) | (simp; omega)) _ | apply Below.drew))
  have Hx := Lib.hid hx; have Hno := Lib.hid hno
  clear hx h hno
  go_enter Try.func105, Try.ntmps105
  go_wp2_with fail
  refine (sPure_no p a n c xs _ Hx.out Hno.out).mono ?_
  rintro e w1 ⟨rfl, hb⟩
  have HB : Hid (Below w.heap.size w w1) := Lib.hid (Below.trans (by repeat (first | exact Below.refl _ _ | assumption | refine Below.setCell ?_ (by first | omega | (simp; done) | (simp; omega)) _ | refine Below.alloc ?_ (by first | omega | (simp; done) | (simp; omega)) _ | apply Below.drew)) (hb.mono (by simp <;> omega)))
  clear hb
  go_wp2_with fail
  go_ret
  exact ⟨rfl, HB.out⟩
set_option maxRecDepth 100000 in
set_option maxHeartbeats 4000000 in
theorem sFlip_yes (p : Int) (a : Option Addr) (n c : Nat) (l : List Nat) (s t : Int) (w : World) (h : IntsAt w a n (up l)) (hn : n ≤ 64) (hA : Anti p (up l)) (hl : ∀ t ∈ l, t < 64) (b : Bool) (hb : b = true ↔ pureB l = true ∧ FlipQ p l s t) :
    Calls Try.prog 105 #[.agg #[.int .i64 p, .slice a n c], .int .i64 s, .int .i64 t] w fun e w' => e = .returned (.bool b) ∧ Below w.heap.size w w' := by
  have hx : IntsAt (w.alloc (.cells #[.int .i64 p, .slice a n c] 26)) a n (up l) := h.keep (by repeat (first | exact Below.refl _ _ | assumption | refine Below.setCell ?_ (by first | omega | (simp; done) | (simp; omega)) _ | refine Below.alloc ?_ (by first | omega | (simp; done) | (simp; omega)) _ | apply Below.drew))
  have Hx := Lib.hid hx; have HA := Lib.hid hA; have Hl := Lib.hid hl; have Hb := Lib.hid hb
  have XA := Lib.hid (BoxF.new w (.int .i64 p) (.slice a n c) 26)
  clear hx h hA hl hb
  obtain ⟨q, hq⟩ : ∃ q, pureB l = q := ⟨_, rfl⟩
  obtain ⟨d1, hd1⟩ : ∃ d, isSetB p s = d := ⟨_, rfl⟩
  obtain ⟨d2, hd2⟩ : ∃ d, isSetB p t = d := ⟨_, rfl⟩
  have Hq := Lib.hid hq; have Hd1 := Lib.hid hd1; have Hd2 := Lib.hid hd2
  clear hq hd1 hd2
  go_enter Try.func105, Try.ntmps105
  go_wp2_with fail
  refine (sPure_yes p a n c l _ Hx.out HA.out Hl.out q Hq.out).mono ?_
  rintro e w1 ⟨rfl, hb⟩
  have HB1 : Hid (Below w.heap.size w w1) := Lib.hid (Below.trans (by repeat (first | exact Below.refl _ _ | assumption | refine Below.setCell ?_ (by first | omega | (simp; done) | (simp; omega)) _ | refine Below.alloc ?_ (by first | omega | (simp; done) | (simp; omega)) _ | apply Below.drew)) (hb.mono (by simp <;> omega)))
  have XA1 := Lib.hid (XA.out.keep hb (by simp)); have Hx1 := Lib.hid (Hx.out.keep hb)
  have hz1 : w.heap.size + 1 ≤ w1.heap.size := by have := hb.size; simp at this; omega
  clear hb
  cases q
  · obtain rfl : b = false := by
      cases b
      · rfl
      · have := (Hb.out.1 rfl).1; rw [Hq.out] at this; cases this
    go_wp2_with fail
    go_ret
    exact ⟨rfl, HB1.out⟩
  obtain ⟨p0, p1, _, _, _⟩ := XA1.out
  go_wp2_with fail
  refine (sL5_yes p a n c _ s _ Hx1.out HA.out d1 Hd1.out).mono ?_
  rintro e w2 ⟨rfl, hb⟩
  have HB2 := Lib.hid (HB1.out.trans (hb.mono HB1.out.size)); have XA2 := Lib.hid (XA1.out.keep hb (by omega)); have Hx2 := Lib.hid (Hx1.out.keep hb)
  have hz2 : w.heap.size + 1 ≤ w2.heap.size := by have := hb.size; omega
  clear hb p0 p1
  cases d1
  · obtain rfl : b = false := by
      cases b
      · rfl
      · exact absurd (Hb.out.1 rfl).2 (FlipQ.notS Hd1.out)
    go_wp2_with fail
    go_ret
    exact ⟨rfl, HB2.out⟩
  obtain ⟨p0, p1, _, _, _⟩ := XA2.out
  go_wp2_with fail
  refine (sL5_yes p a n c _ t _ Hx2.out HA.out d2 Hd2.out).mono ?_
  rintro e w3 ⟨rfl, hb⟩
  have HB3 := Lib.hid (HB2.out.trans (hb.mono HB2.out.size)); have XA3 := Lib.hid (XA2.out.keep hb (by omega)); have Hx3 := Lib.hid (Hx2.out.keep hb)
  have hz3 : w.heap.size + 1 ≤ w3.heap.size := by have := hb.size; omega
  clear hb p0 p1
  cases d2
  · obtain rfl : b = false := by
      cases b
      · rfl
      · exact absurd (Hb.out.1 rfl).2 (FlipQ.notT Hd2.out)
    go_wp2_with fail
    go_ret
    exact ⟨rfl, HB3.out⟩
  obtain ⟨u, rfl, hu⟩ : ∃ u : Nat, s = u ∧ u < 64 := by
    obtain ⟨_, u, _, h, _, _, hu⟩ := isSet_nat Hd1.out
    exact ⟨u, h, hu⟩
  obtain ⟨v, rfl, hv⟩ : ∃ v : Nat, t = v ∧ v < 64 := by
    obtain ⟨_, v, _, h, _, _, hv⟩ := isSet_nat Hd2.out
    exact ⟨v, h, hv⟩
  have hbf : b = flipB l u v := by
    rw [Bool.eq_iff_iff, Hb.out, FlipQ.iff Hd1.out Hd2.out]
    exact ⟨fun h => h.2, fun h => ⟨Hq.out, h⟩⟩
  unfold flipB at hbf
  obtain ⟨z0, hz0⟩ : ∃ z, ((u : Int) == 0) = z := ⟨_, rfl⟩
  obtain ⟨z1, hz9⟩ : ∃ z, ((v : Int) == 0) = z := ⟨_, rfl⟩
  obtain ⟨d, hd⟩ : ∃ d, (((u &&& v : Nat) : Int) != 0) = d := ⟨_, rfl⟩
  obtain ⟨x, hx⟩ : ∃ x, isFace l u = x := ⟨_, rfl⟩
  obtain ⟨y, hy⟩ : ∃ y, isFace l v = y := ⟨_, rfl⟩
  obtain ⟨e, he⟩ : ∃ e, ((List.range 64).all fun x => linkB l u x == propB v x) = e := ⟨_, rfl⟩
  have hbe : b = (!z0 && !z1 && !d && x && !y && e) := by
    rw [hbf, he, hx, hy, ← hz0, ← hz9, ← hd]
    have e1 : ((u : Int) == 0) = (u == 0) := castBeq u 0
    have e2 : ((v : Int) == 0) = (v == 0) := castBeq v 0
    have e3 : (((u &&& v : Nat) : Int) != 0) = (u &&& v != 0) := castBne (u &&& v) 0
    rw [e1, e2, e3]
    simp [bne]
  have HX := Lib.hid hx; have HY := Lib.hid hy; have HE := Lib.hid he; have HBE := Lib.hid hbe
  have hand := w_and u v hu hv
  obtain ⟨p0, p1, _, _, _⟩ := XA3.out
  clear hbf hx hy he hbe
  cases z0
  rotate_left
  · obtain rfl : b = false := by rw [HBE.out]; rfl
    go_wp2_with fail
    go_ret
    exact ⟨rfl, HB3.out⟩
  cases z1
  rotate_left
  · obtain rfl : b = false := by rw [HBE.out]; rfl
    go_wp2_with fail
    go_ret
    exact ⟨rfl, HB3.out⟩
  cases d
  rotate_left
  · obtain rfl : b = false := by rw [HBE.out]; rfl
    go_wp2_with fail
    go_ret
    exact ⟨rfl, HB3.out⟩
  go_wp2_with fail
  refine (l3Has_any p u a n c l _ Hx3.out hu Hl.out x HX.out).mono ?_
  rintro e9 w4 ⟨rfl, hb⟩
  have HB4 := Lib.hid (HB3.out.trans (hb.mono HB3.out.size)); have XA4 := Lib.hid (XA3.out.keep hb (by omega)); have Hx4 := Lib.hid (Hx3.out.keep hb)
  have hz4 : w.heap.size + 1 ≤ w4.heap.size := by have := hb.size; omega
  clear hb p0 p1
  cases x
  · obtain rfl : b = false := by rw [HBE.out]; rfl
    go_wp2_with fail
    go_ret
    exact ⟨rfl, HB4.out⟩
  obtain ⟨p0, p1, _, _, _⟩ := XA4.out
  go_wp2_with fail
  refine (l3Has_any p v a n c l _ Hx4.out hv Hl.out y HY.out).mono ?_
  rintro e9 w5 ⟨rfl, hb⟩
  have HB5 := Lib.hid (HB4.out.trans (hb.mono HB4.out.size)); have XA5 := Lib.hid (XA4.out.keep hb (by omega)); have Hx5 := Lib.hid (Hx4.out.keep hb)
  have hz5 : w.heap.size + 1 ≤ w5.heap.size := by have := hb.size; omega
  clear hb p0 p1
  cases y
  rotate_left
  · obtain rfl : b = false := by rw [HBE.out]; rfl
    go_wp2_with fail
    go_ret
    exact ⟨rfl, HB5.out⟩
  obtain ⟨p0, p1, _, _, _⟩ := XA5.out
  go_wp2_with fail
  refine (sLink_any p a n c l u _ Hx5.out hn hu Hl.out).mono ?_
  rintro e9 w6 ⟨ad6, k6, c6, rfl, hown, hb⟩
  have HB6 := Lib.hid (HB5.out.trans (hb.mono HB5.out.size)); have XA6 := Lib.hid (XA5.out.keep hb (by omega))
  have HO6 := Lib.hid hown
  have hz6 : w.heap.size + 1 ≤ w6.heap.size := by have := hb.size; omega
  clear hb hown p0 p1
  have xL := (BoxF.new w6 (.int .i64 p) (.slice ad6 k6 c6) 26).alloc (.cells #[] 3)
  have hP0 := Own.empty 3 (w6.alloc (.cells #[.int .i64 p, .slice ad6 k6 c6] 26)) (w6.heap.size + 1) (by simp)
  simp only [World.size_alloc] at hP0
  have hO6 := (HO6.out.alloc (.cells #[.int .i64 p, .slice ad6 k6 c6] 26)).alloc (.cells #[] 3)
  have XL := Lib.hid xL; have HP0 := Lib.hid hP0; have HO7 := Lib.hid hO6
  have XA7 := Lib.hid ((XA6.out.alloc (.cells #[.int .i64 p, .slice ad6 k6 c6] 26)).alloc (.cells #[] 3))
  have Hlt6 : Hid (∀ k, (Value.slice ad6 k6 c6).ownBlock = some k → k < w6.heap.size) := Lib.hid fun k hk => (HO6.out.lt k hk).2
  have HB7 : Hid (Below w.heap.size w ((w6.alloc (.cells #[.int .i64 p, .slice ad6 k6 c6] 26)).alloc (.cells #[] 3))) := Lib.hid ((HB6.out.alloc HB6.out.size _).alloc (by have := HB6.out.size; simp; omega) _)
  have HDl : Hid ((ord fun x => sub x v).length ≤ 64) := Lib.hid (ord_len _)
  obtain ⟨D, hD⟩ : ∃ D, D = ord fun x => sub x v := ⟨_, rfl⟩
  have hD64 : ∀ x ∈ D, x < 64 := by rw [hD]; exact ord_lt
  rw [← hD] at HDl
  have HD := Lib.hid hD; have HD64 := Lib.hid hD64
  clear xL hP0 hO6 hD hD64
  go_wp2_with fail
  refine (sSub_any v _ hv).mono ?_
  rw [← HD.out]
  rintro e9 w8 ⟨ad8, k8, c8, rfl, hown, hb⟩
  have hz8 : w6.heap.size + 2 ≤ w8.heap.size := by have := hb.size; simp at this; omega
  have XL8 := Lib.hid (XL.out.keep hb (by simp; omega)); have HP8 := Lib.hid (HP0.out.keep hb); have HO8 := Lib.hid (HO7.out.keep hb); have XA8 := Lib.hid (XA7.out.keep hb (by simp; omega))
  have HB8 : Hid (Below w.heap.size w w8) := Lib.hid (HB7.out.trans (hb.mono HB7.out.size))
  have HR8 := Lib.hid hown
  have Hlt8 : Hid (∀ k, (Value.slice ad8 k8 c8).ownBlock = some k → w6.heap.size + 2 ≤ k ∧ k < w8.heap.size) := Lib.hid fun k hk => by have := hown.lt k hk; simp at this; omega
  have hdl : D.length = k8 := by have := hown.len; rwa [up_len] at this
  have Hdl := Lib.hid hdl
  have hk64 : k8 ≤ 64 := by have := HDl.out; omega
  clear hb hown hdl
  go_wp2_with fail
  go_loopw [8, 10] (fun f i wr => ∃ I : Nat, I ≤ k8 ∧ i = .int .i64 I ∧ Below (w6.heap.size + 1) w8 wr ∧ ∃ ad K d, f = .slice ad K d ∧ K ≤ I ∧ Own 3 wr (w6.heap.size + 1) ad K d (up ((D.take I).filter fun x => x != v)) ∧ Own 3 wr (w6.heap.size + 2) ad8 k8 c8 (up D) ∧ (∀ b, ad = some b → b.block = w6.heap.size + 1 ∨ w8.heap.size ≤ b.block)) (fun _ i _ => k8 - (intOf i).toNat)
  case atStart => exact ⟨0, Nat.zero_le _, rfl, Below.refl _ _, _, 0, 0, rfl, by omega, HP8.out, by have := HR8.out; simp only [World.size_alloc] at this; exact this, fun b hb => .inl (by cases hb; rfl)⟩
  case round =>
    obtain ⟨I, hI, rfl, hbr, ad, K, d, rfl, hK, hown, hR, hloc⟩ := hrel
    have HBr := Lib.hid hbr; have HO := Lib.hid hown; have HRr := Lib.hid hR; have Hloc := Lib.hid hloc
    have hzr : w8.heap.size ≤ wr.heap.size := hbr.size
    clear hbr hown hR hloc
    by_cases hlt : I < k8
    · obtain ⟨b1, o1, rfl, hc⟩ := HRr.out.reads.cells (by omega)
      have hck := hc I hlt
      rw [nth_up] at hck
      have hyes := propTo_yes (D := D) (t := v) (I := I) (by rw [Hdl.out]; omega)
      have hno := propTo_no (D := D) (t := v) (I := I) (by rw [Hdl.out]; omega)
      obtain ⟨x, hx⟩ : ∃ x, x = nthN D I := ⟨_, rfl⟩
      rw [← hx] at hck hyes hno
      have Hyes := Lib.hid hyes; have Hno := Lib.hid hno
      have hI0 : (0 : Int) ≤ I := by omega
      have hIn : (I : Int) < k8 := by omega
      clear hc hx hyes hno
      by_cases hxv : x = v
      · have hne : ((x : Int) != (v : Int)) = false := by rw [castBne]; simp [hxv]
        have Hxv := Lib.hid hxv; clear hxv
        go_wp2_with fail
        go_roundw
        case rel => exact ⟨I + 1, by omega, by go_num, HBr.out, ad, K, d, rfl, by omega, by rw [Hno.out Hxv.out]; exact HO.out, HRr.out, Hloc.out⟩
        case measure => simp [intOf]; omega
      · have hne : ((x : Int) != (v : Int)) = true := by rw [castBne]; simp [hxv]
        have Hxv := Lib.hid hxv; clear hxv
        go_wp2_with (at_builtin; refine ap_at rfl _ _ rfl (w6.heap.size + 1) _ _ _ _ _ rfl HO.out rfl (by omega) (by omega) ?_; intro ad' d' w' hown' hb' hg' hnew'; have HO' := Lib.hid hown'; have HB' := Lib.hid hb'; have HG' := Lib.hid hg'; have HN' := Lib.hid hnew'; clear hown' hb' hg' hnew')
        go_roundw
        case rel =>
          refine ⟨I + 1, by omega, by go_num, HBr.out.trans HB'.out, ad', K + 1, d', rfl, by omega, by rw [Hyes.out Hxv.out, up_append]; exact HO'.out, ?_, fun b hb => ?_⟩
          · refine HRr.out.grownNe HG'.out fun q1 h1 q2 h2 e => ?_
            obtain ⟨b, hb, hbq⟩ := ownBlock_some h1
            have h3 := Hlt8.out q2 h2
            rcases Hloc.out b hb with h4 | h4 <;> omega
          · rcases HN'.out b hb with ⟨c, hc, hbc⟩ | h
            · rw [hbc]; exact Hloc.out c hc
            · exact .inr (by omega)
        case measure => simp [intOf]; omega
    · obtain rfl : I = k8 := by omega
      have hii : ¬ ((I : Int) < I) := by omega
      have HOf : Hid (Own 3 wr (w6.heap.size + 1) ad K d (up (propL v))) := Lib.hid (by have := HO.out; rw [← Hdl.out, List.take_length, HD.out] at this; exact this)
      have XLr := Lib.hid (XL8.out.keep HBr.out (by omega)); have XAr := Lib.hid (XA8.out.keep HBr.out (by omega))
      have HLr : Hid (Own 3 wr w5.heap.size ad6 k6 c6 (up (maxL (linkL l u).contains))) := Lib.hid (Row.other HO8.out fun g hag _ => HBr.out.block g (by have := Hlt6.out g (by rw [hag]; rfl); omega))
      have HBe : Hid (Below w.heap.size w wr) := Lib.hid (HB8.out.trans (HBr.out.mono (by have := HB6.out.size; omega)))
      have Heb : Hid (b = true ↔ up (maxL (linkL l u).contains) = up (maxL (propL v).contains)) := Lib.hid (by
        have h1 : b = e := by rw [HBE.out]; rfl
        rw [h1, ← HE.out, flipB_same, ← flip_same Hl.out hu hv]
        exact ⟨fun h => by rw [h], fun h => up_inj h⟩)
      have Hpl : Hid (∀ x ∈ propL v, x < 64) := Lib.hid propL_lt
      obtain ⟨x0, x1, _, _, _⟩ := XAr.out
      obtain ⟨y0, y1, _, _, _⟩ := XLr.out
      have Hmk := Lib.hid (HOf.out.drew.reads)
      have HLd := Lib.hid HLr.out.drew
      have XLd := Lib.hid XLr.out.drew; have XAd := Lib.hid XAr.out.drew
      clear hz0 hz9 hd
      go_wp2_with fail
      go_cut [6] (fun q W => q = .bool b ∧ Below w.heap.size w W)
      case first =>
        go_region_held3 (fun W => W.cell? ⟨w.heap.size, 0, none⟩ = some (.int .i64 p) ∧ W.cell? ⟨w6.heap.size, 0, none⟩ = some (.int .i64 p) ∧ W.cell? ⟨w6.heap.size, 1, none⟩ = some (.slice ad6 k6 c6)) (first | exact ⟨x0, y0, y1⟩ | exact ⟨s0, t0, t1⟩ | go_keep) (first
          | (go_simp; go_at_call 94; (with_reducible refine (l3Make_any p ad K d (propL v) _ Hmk.out Hpl.out).mono ?_); rintro e9 w9 ⟨ad9, k9, c9, rfl, hown9, hb9⟩; have HB9 := Lib.hid hb9; have HM9 := Lib.hid hown9.reads; have HL9 := Lib.hid (HLd.out.reads.keep hb9); have XL9 := Lib.hid (XLd.out.keep hb9 (by simp; omega)); have XA9 := Lib.hid (XAd.out.keep hb9 (by simp; omega)); obtain ⟨t0, t1, _, _, _⟩ := XL9.out; obtain ⟨s0, s1, _, _, _⟩ := XA9.out; clear hb9 hown9)
          | (go_simp; go_at_call 137; (with_reducible refine (sEqual_any p ad6 k6 c6 _ ad9 k9 c9 _ _ HL9.out HM9.out b Heb.out).mono ?_); rintro e9 w10 ⟨rfl, hb10⟩; have HB10 := Lib.hid hb10; have XL9 := Lib.hid (XL9.out.keep hb10 (by have := HB9.out.size; simp at this; omega)); have XA9 := Lib.hid (XA9.out.keep hb10 (by have := HB9.out.size; simp at this; omega)); obtain ⟨t0, t1, _, _, _⟩ := XL9.out; obtain ⟨s0, s1, _, _, _⟩ := XA9.out; clear hb10))
        all_goals (go_wp2_with fail; go_meet)
        all_goals exact ⟨rfl, (HBe.out.drew.trans (HB9.out.mono (by have := HBe.out.size; simp; omega))).trans (HB10.out.mono (by have := HBe.out.size; have := HB9.out.size; simp at this; omega))⟩
      case rest =>
        obtain ⟨rfl, hbc⟩ := hcut
        have HBc := Lib.hid hbc
        clear hbc
        go_wp2_with fail
        go_ret
        exact ⟨rfl, HBc.out⟩
end Go.Proofs.Ytbdnlncpamandaa

/- Contracts of FlipsOf, the program's and the reference's. -/
namespace Go.Proofs.Ytbdnlncpamandaa
set_option maxRecDepth 20000
open Go.RowKit
set_option linter.unusedSimpArgs false
set_option linter.unusedVariables false

/-- the flip (s, t) may be made -/
def okF (p : Int) (l : List Nat) (s t : Nat) : Bool := pureB l && (isSetB p s && (isSetB p t && flipB l s t))
theorem okIff {p : Int} {l : List Nat} {s t : Nat} : okF p l s t = true ↔ pureB l = true ∧ FlipQ p l s t := by
  unfold okF
  rw [Bool.and_eq_true, Bool.and_eq_true, Bool.and_eq_true]
  constructor
  · rintro ⟨h, h1, h2, h3⟩; exact ⟨h, s, t, rfl, rfl, h1, h2, h3⟩
  · rintro ⟨h, u, v, hu, hv, h1, h2, h3⟩
    obtain rfl : s = u := by omega
    obtain rfl : t = v := by omega
    exact ⟨h, h1, h2, h3⟩
/-- the pairs (s, t) with t below T that pass -/
def rowT (ok : Nat → Nat → Bool) (s T : Nat) : List (List Int) := ((List.range T).filter (ok s)).map fun t : Nat => [(s : Int), (t : Int)]
def allS (ok : Nat → Nat → Bool) (S : Nat) : List (List Int) := (List.range S).flatMap fun s => rowT ok s 64
theorem rowYes {ok : Nat → Nat → Bool} {s T : Nat} (h : ok s T = true) : rowT ok s (T + 1) = rowT ok s T ++ [[(s : Int), (T : Int)]] := by
  unfold rowT; rw [List.range_succ, List.filter_append, List.map_append]; simp [h]
theorem rowNo {ok : Nat → Nat → Bool} {s T : Nat} (h : ok s T = false) : rowT ok s (T + 1) = rowT ok s T := by
  unfold rowT; rw [List.range_succ, List.filter_append, List.map_append]; simp [h]
theorem rowZero (ok : Nat → Nat → Bool) (s : Nat) : rowT ok s 0 = [] := rfl
theorem allS_next (ok : Nat → Nat → Bool) (S : Nat) : allS ok (S + 1) = allS ok S ++ rowT ok S 64 := by
  unfold allS; rw [List.range_succ, List.flatMap_append]; simp
theorem rowNone {ok : Nat → Nat → Bool} {s : Nat} (h : ∀ t, ok s t = false) : ∀ T, rowT ok s T = [] := by
  intro T
  induction T with
  | zero => rfl
  | succ T ih => rw [rowNo (h T), ih]
theorem rowStay {ok : Nat → Nat → Bool} {s N : Nat} (h : ∀ t, N ≤ t → ok s t = false) : ∀ d, rowT ok s (N + d) = rowT ok s N := by
  intro d
  induction d with
  | zero => rfl
  | succ d ih => rw [← Nat.add_assoc, rowNo (h _ (by omega)), ih]
theorem allS_stay {ok : Nat → Nat → Bool} {N : Nat} (h : ∀ s, N ≤ s → ∀ t, ok s t = false) : ∀ d, allS ok (N + d) = allS ok N := by
  intro d
  induction d with
  | zero => rfl
  | succ d ih => rw [← Nat.add_assoc, allS_next, rowNone (h _ (by omega)), List.append_nil, ih]
theorem allS_none {ok : Nat → Nat → Bool} (h : ∀ s t, ok s t = false) (S : Nat) : allS ok S = [] := by
  have := allS_stay (N := 0) (fun s _ => h s) S
  rwa [Nat.zero_add] at this
theorem rowLen (ok : Nat → Nat → Bool) (s T : Nat) : (rowT ok s T).length ≤ T := by
  unfold rowT; rw [List.length_map]; exact Nat.le_trans (List.length_filter_le _ _) (by simp)
theorem allS_len (ok : Nat → Nat → Bool) : ∀ S, (allS ok S).length ≤ S * 64 := by
  intro S
  induction S with
  | zero => simp [allS]
  | succ S ih => rw [allS_next, List.length_append, Nat.succ_mul]; have := rowLen ok S 64; omega
theorem allS_two {ok : Nat → Nat → Bool} {S : Nat} : ∀ x ∈ allS ok S, x.length ≤ 2 := fun x hx => by
  obtain ⟨s, _, hx⟩ := List.mem_flatMap.1 hx
  obtain ⟨t, _, rfl⟩ := List.mem_map.1 hx
  exact Nat.le_refl _
theorem isSetB_top {m : Nat} {s : Nat} (h : 2 ^ m ≤ s) : isSetB m s = false := by
  cases hb : isSetB m s
  · rfl
  · obtain ⟨_, t, ht, hlt⟩ := isSet_iff.1 hb
    omega
theorem okPos {p : Int} {l : List Nat} {s t : Nat} (h : okF p l s t = true) : s ≠ 0 ∧ t ≠ 0 ∧ isFace l s = true := by
  obtain ⟨_, u, v, hu, hv, _, _, h3⟩ := okIff.1 h
  obtain rfl : s = u := by omega
  obtain rfl : t = v := by omega
  unfold flipB at h3
  simp only [Bool.and_eq_true, bne_iff_ne] at h3
  exact ⟨h3.1.1.1.1.1, h3.1.1.1.1.2, h3.1.1.2⟩
theorem okNot {p : Int} {l : List Nat} {s t : Nat} (h : ¬ (s ≠ 0 ∧ t ≠ 0 ∧ isFace l s = true)) : okF p l s t = false := by
  cases hb : okF p l s t
  · rfl
  · exact absurd (okPos hb) h

theorem iFlipsOf_stop (p : Int) (a : Option Addr) (n c : Nat) (xs : List Int) (w : World) (h : IntsAt w a n xs) (hP : ∀ W, IntsAt W a n xs → Calls Try.prog 107 #[.agg #[.int .i64 p, .slice a n c]] W fun e w' => e = .returned (.bool false) ∧ Below W.heap.size W w') :
    Calls Try.prog 51 #[.agg #[.int .i64 p, .slice a n c]] w (RetInts2 w []) := by
  have hx : IntsAt (w.alloc (.cells #[.int .i64 p, .slice a n c] 26)) a n xs := h.keep (by repeat (first | exact Below.refl _ _ | assumption | refine Below.setCell ?_ (by first | omega | (simp; done) | (simp; omega)) _ | refine Below.alloc ?_ (by first | omega | (simp; done) | (simp; omega)) _ | apply Below.drew))
  have Hx := Lib.hid hx; have HP := Lib.hid hP
  clear hx h hP
  go_enter Try.func51, Try.ntmps51
  go_wp2_with fail
  refine (HP.out _ Hx.out).mono ?_
  rintro e w1 ⟨rfl, hb⟩
  have HB : Hid (Below w.heap.size w w1) := Lib.hid (Below.trans (by repeat (first | exact Below.refl _ _ | assumption | refine Below.setCell ?_ (by first | omega | (simp; done) | (simp; omega)) _ | refine Below.alloc ?_ (by first | omega | (simp; done) | (simp; omega)) _ | apply Below.drew)) (hb.mono (by simp <;> omega)))
  clear hb
  go_wp2_with fail
  go_ret
  exact ⟨none, 0, 0, rfl, ⟨_, O2.nil _ _ _⟩, HB.out⟩
set_option maxRecDepth 100000 in
set_option maxHeartbeats 1000000 in
theorem iFlipsOf_yes (m : Nat) (a : Option Addr) (n c : Nat) (l : List Nat) (w : World) (h : IntsAt w a n (up l)) (hcap : n ≤ c) (hm : m ≤ 6) (hA : Anti m (up l)) (hl : ∀ t ∈ l, t < 64) (hp : pureB l = true) :
    Calls Try.prog 51 #[.agg #[.int .i64 m, .slice a n c]] w (RetInts2 w (allS (okF m l) 64)) := by
  have hx : IntsAt (w.alloc (.cells #[.int .i64 m, .slice a n c] 26)) a n (up l) := h.keep (by repeat (first | exact Below.refl _ _ | assumption | refine Below.setCell ?_ (by first | omega | (simp; done) | (simp; omega)) _ | refine Below.alloc ?_ (by first | omega | (simp; done) | (simp; omega)) _ | apply Below.drew))
  have Hx := Lib.hid hx; have Hcap := Lib.hid hcap; have HA := Lib.hid hA; have Hl := Lib.hid hl; have Hp := Lib.hid hp
  have XA := Lib.hid (BoxF.new w (.int .i64 m) (.slice a n c) 26)
  clear hx h hcap hA hl hp
  obtain ⟨N, hN⟩ : ∃ N, N = 2 ^ m := ⟨_, rfl⟩
  have hN64 : N ≤ 64 := by rw [hN]; exact pow_le64 hm
  have hNe : (2 : Int) ^ m = (N : Int) := by rw [hN]; norm_cast
  have HN := Lib.hid hN; have HNe := Lib.hid hNe
  have hm8 : m < 8 := by omega
  have hm64 : min m 64 = m := by omega
  have hvm : IntKind.u64.wrap (m : Int) = (m : Int) := by rw [IntKind.wrap_u64]; omega
  have Hrow : Hid (∀ s, rowT (okF m l) s N = rowT (okF m l) s 64) := Lib.hid fun s => by
    have := rowStay (ok := okF m l) (s := s) (N := N) (fun t ht => by unfold okF; rw [isSetB_top (by omega : 2 ^ m ≤ t)]; simp) (64 - N)
    rw [show N + (64 - N) = 64 by omega] at this
    exact this.symm
  have Hall : Hid (allS (okF m l) 64 = allS (okF m l) N) := Lib.hid (by
    have := allS_stay (ok := okF m l) (N := N) (fun s hs t => by unfold okF; rw [isSetB_top (by omega : 2 ^ m ≤ s)]; simp) (64 - N)
    rwa [show N + (64 - N) = 64 by omega] at this)
  have hFF := faceSet_Fam l
  have Hbit : Hid (∀ s, s < 64 → (faceSet l).testBit s = isFace l s) := Lib.hid fun s hs => faceSet_bit hs
  have Hfl : Hid (∀ (s t : Nat) W, Calls Try.prog 109 #[.int .i64 m, .int .u64 (faceSet l), .int .i64 s, .int .i64 t] W fun e w' => e = .returned (.bool (okF m l s t)) ∧ Below W.heap.size W w') := Lib.hid fun s t W => flips_all m l s t W _ (by rw [okIff]; simp [Hp.out])
  have Hfc : Hid (∀ W, IntsAt W a n (up l) → Calls Try.prog 88 #[.agg #[.int .i64 m, .slice a n c]] W fun e w' => e = .returned (.int .u64 (faceSet l)) ∧ Below W.heap.size W w') := Lib.hid fun W hW => facesIn_any m a n c l W hW Hl.out
  obtain ⟨F, hFe⟩ : ∃ F, F = faceSet l := ⟨_, rfl⟩
  rw [← hFe] at hFF Hbit Hfl Hfc
  clear hN hNe hFe
  go_enter Try.func51, Try.ntmps51
  go_wp2_with fail
  refine (iPure_yes m a n c l _ Hx.out Hcap.out HA.out Hl.out true Hp.out).mono ?_
  rintro e w1 ⟨rfl, hb⟩
  have HB1 : Hid (Below w.heap.size w w1) := Lib.hid (Below.trans (by repeat (first | exact Below.refl _ _ | assumption | refine Below.setCell ?_ (by first | omega | (simp; done) | (simp; omega)) _ | refine Below.alloc ?_ (by first | omega | (simp; done) | (simp; omega)) _ | apply Below.drew)) (hb.mono (by simp <;> omega)))
  have XA1 := Lib.hid (XA.out.keep hb (by simp)); have Hx1 := Lib.hid (Hx.out.keep hb)
  have hz1 : w.heap.size + 1 ≤ w1.heap.size := by have := hb.size; simp at this; omega
  clear hb
  obtain ⟨p0, p1, _, _, _⟩ := XA1.out
  go_wp2_with fail
  refine (Hfc.out _ Hx1.out).mono ?_
  rintro e w2 ⟨rfl, hb⟩
  have HB2 := Lib.hid (HB1.out.trans (hb.mono HB1.out.size)); have XA2 := Lib.hid (XA1.out.keep hb (by omega))
  have hz2 : w.heap.size + 1 ≤ w2.heap.size := by have := hb.size; omega
  clear hb p0 p1
  go_wp2_with fail
  go_loopw [4, 5, 6] (fun o i _ wr => ∃ S : Nat, S ≤ N ∧ i = .int .i64 S ∧ Below w2.heap.size w2 wr ∧ ∃ ad k d, o = .slice ad k d ∧ Own2 wr w2.heap.size wr.heap.size ad k d (allS (okF m l) S)) (fun _ i _ _ => N - (intOf i).toNat)
  case atStart => exact ⟨0, Nat.zero_le _, rfl, Below.refl _ _, none, 0, 0, rfl, ⟨_, O2.nil _ _ _⟩⟩
  case round =>
    obtain ⟨wo, rfl⟩ : ∃ x : World, x = wr := ⟨_, rfl⟩
    obtain ⟨S, hS, rfl, hbr, ad, k, d, rfl, hown⟩ := hrel
    have HBr := Lib.hid hbr; have HO := Lib.hid hown
    have XAr := Lib.hid (XA2.out.keep hbr (by omega))
    have hzr : w2.heap.size ≤ wo.heap.size := hbr.size
    clear hbr hown
    obtain ⟨p0, p1, _, _, _⟩ := XAr.out
    by_cases hlt : S < N
    · have hlt' : (S : Int) < 2 ^ m := by rw [HNe.out]; omega
      have hS64 : S < 64 := by omega
      obtain ⟨x, hx⟩ : ∃ x, x = F.testBit S := ⟨_, rfl⟩
      have HX : Hid (∀ W, Calls Try.prog 108 #[.int .u64 F, .int .i64 S] W fun e w' => e = .returned (.bool x) ∧ W = w') := Lib.hid (fun W => by rw [hx]; exact hasSet_any F S W hFF hS64)
      have Hxe : Hid (x = isFace l S) := Lib.hid (by rw [hx, Hbit.out S hS64])
      have Hnext := Lib.hid (allS_next (okF m l) S)
      clear hx
      cases x
      · have Hn : Hid (rowT (okF m l) S 64 = []) := Lib.hid (rowNone (fun t => okNot fun h => by rw [← Hxe.out] at h; cases h.2.2) 64)
        go_wp2_with (go_at_call 108; (with_reducible refine (HX.out _).mono ?_); rintro e w' ⟨rfl, rfl⟩)
        go_roundw
        case rel => exact ⟨S + 1, by omega, by go_num, HBr.out, ad, k, d, rfl, by rw [Hnext.out, Hn.out, List.append_nil]; exact HO.out⟩
        case measure => simp [intOf]; omega
      · go_wp2_with (go_at_call 108; (with_reducible refine (HX.out _).mono ?_); rintro e w' ⟨rfl, rfl⟩)
        clear p0 p1
        go_loopw [4, 6] (fun o j wr => ∃ T : Nat, T ≤ N ∧ j = .int .i64 T ∧ Below w2.heap.size w2 wr ∧ ∃ ad k d, o = .slice ad k d ∧ Own2 wr w2.heap.size wr.heap.size ad k d (allS (okF m l) S ++ rowT (okF m l) S T)) (fun _ j _ => N - (intOf j).toNat)
        case atStart => exact ⟨0, Nat.zero_le _, rfl, HBr.out, ad, k, d, rfl, by rw [rowZero, List.append_nil]; exact HO.out⟩
        case round =>
          obtain ⟨T, hT, rfl, hbi, ad3, k3, d3, rfl, hown3⟩ := hrel
          have HBi := Lib.hid hbi; have HOi := Lib.hid hown3
          have XAi := Lib.hid (XA2.out.keep hbi (by omega))
          have hzi : w2.heap.size ≤ wr.heap.size := hbi.size
          clear hbi hown3
          obtain ⟨p0, p1, _, _, _⟩ := XAi.out
          by_cases hjt : T < N
          · have hjt' : (T : Int) < 2 ^ m := by rw [HNe.out]; omega
            have hk3 : k3 ≤ 8192 := by
              have h1 := HOi.out.len
              rw [List.length_append] at h1
              have h2 := allS_len (okF m l) S
              have h3 := rowLen (okF m l) S T
              omega
            have hcall := Hfl.out S T wr
            obtain ⟨b, hb⟩ : ∃ b, b = okF m l S T := ⟨_, rfl⟩
            rw [← hb] at hcall
            have Hb := Lib.hid hb.symm; have Hcall := Lib.hid hcall
            clear hb hcall
            go_wp2_with fail
            refine Hcall.out.mono ?_
            rintro e w5 ⟨rfl, hb5⟩
            have HB5 := Lib.hid (HBi.out.trans (hb5.mono hzi))
            have HO5 : Hid (Own2 w5 w2.heap.size w5.heap.size ad3 k3 d3 (allS (okF m l) S ++ rowT (okF m l) S T)) := Lib.hid ((HOi.out.keep hb5).up hb5.size)
            have hz5 : w2.heap.size ≤ w5.heap.size := HB5.out.size
            clear hb5
            cases b
            · have Hno := Lib.hid (rowNo Hb.out)
              go_wp2_with fail
              go_roundw
              case rel => exact ⟨T + 1, by omega, by go_num, HB5.out, ad3, k3, d3, rfl, by rw [Hno.out]; exact HO5.out⟩
              case measure => simp [intOf]; omega
            · have Hyes := Lib.hid (rowYes Hb.out)
              go_wp2_with (at_builtin; refine ap_pair rfl _ _ rfl w2.heap.size _ _ _ _ _ _ rfl HO5.out rfl (by omega) hz5 ?_; intro ad' d' w' hown' hb'; have HO6 := Lib.hid hown'; have HB6 := Lib.hid hb'; clear hown' hb')
              go_roundw
              case rel => exact ⟨T + 1, by omega, by go_num, HB5.out.trans HB6.out, ad', k3 + 1, d', rfl, by rw [Hyes.out, ← List.append_assoc]; exact HO6.out⟩
              case measure => simp [intOf]; omega
          · obtain rfl : T = N := by omega
            have hjj : ¬ ((T : Int) < 2 ^ m) := by rw [HNe.out]; omega
            go_wp2_with fail
            go_roundw
            case rel => exact ⟨S + 1, by omega, by go_num, HBi.out, ad3, k3, d3, rfl, by rw [Hnext.out, ← Hrow.out S]; exact HOi.out⟩
            case measure => simp [intOf]; omega
    · obtain rfl : S = N := by omega
      have hii : ¬ ((S : Int) < 2 ^ m) := by rw [HNe.out]; omega
      go_wp2_with fail
      go_ret
      exact ⟨ad, k, d, rfl, by rw [Hall.out]; exact HO.out.mono (by omega), HB2.out.trans (HBr.out.mono (by omega))⟩
theorem sFlipsOf_no (p : Int) (a : Option Addr) (n c : Nat) (xs : List Int) (w : World) (h : IntsAt w a n xs) (hno : ¬ Anti p xs) :
    Calls Try.prog 57 #[.agg #[.int .i64 p, .slice a n c]] w (RetInts2 w []) := by
  obtain ⟨w1, hw1⟩ : ∃ w1, w1 = (w.alloc (.cells #[.int .i64 p, .slice a n c] 26)).alloc (.cells #[] 24) := ⟨_, rfl⟩
  have hx : IntsAt w1 a n xs := by rw [hw1]; exact h.keep (by repeat (first | exact Below.refl _ _ | assumption | refine Below.setCell ?_ (by first | omega | (simp; done) | (simp; omega)) _ | refine Below.alloc ?_ (by first | omega | (simp; done) | (simp; omega)) _ | apply Below.drew))
  have hB : Below w.heap.size w w1 := by rw [hw1]; exact (by repeat (first | exact Below.refl _ _ | assumption | refine Below.setCell ?_ (by first | omega | (simp; done) | (simp; omega)) _ | refine Below.alloc ?_ (by first | omega | (simp; done) | (simp; omega)) _ | apply Below.drew))
  have hO : Own2 w1 w.heap.size w1.heap.size (some ⟨w.heap.size + 1, 0, none⟩) 0 0 [] := by
    have := O2.empty (w.alloc (.cells #[.int .i64 p, .slice a n c] 26)) w.heap.size (by simp)
    simp only [World.size_alloc] at this
    rw [hw1]; exact ⟨_, this.up (by simp)⟩
  have Hx := Lib.hid hx; have HB := Lib.hid hB; have HO := Lib.hid hO; have HW1 := Lib.hid hw1; have Hno := Lib.hid hno
  clear hx hB hO hw1 h hno
  go_enter Try.func57, Try.ntmps57
  go_wp2_with fail
  rw [← HW1.out]
  go_loopw [3, 4, 5] (fun o i _ wr => i = .int .i64 1 ∧ wr = w1 ∧ o = .slice (some ⟨w.heap.size + 1, 0, none⟩) 0 0) (fun _ _ _ _ => 0)
  case atStart => exact ⟨rfl, rfl, rfl⟩
  case round =>
    obtain ⟨rfl, rfl, rfl⟩ := hrel
    have hbx : BoxF wr w.heap.size (.int .i64 p) (.slice a n c) := by rw [HW1.out]; exact (BoxF.new w (.int .i64 p) (.slice a n c) 26).alloc _
    obtain ⟨p0, p1, _, _, _⟩ := hbx
    go_wp2_with fail
    refine (sIsComplex_any p a n c xs _ Hx.out false (by simp [Hno.out])).mono ?_
    rintro e w2 ⟨rfl, hb⟩
    have HB2 : Hid (Below w.heap.size w w2) := Lib.hid (HB.out.trans (hb.mono HB.out.size))
    have HO2 := Lib.hid ((HO.out.keep hb).up hb.size)
    clear hb
    go_wp2_with fail
    go_ret
    exact ⟨_, 0, 0, rfl, HO2.out, HB2.out⟩
set_option maxRecDepth 100000 in
set_option maxHeartbeats 1000000 in
theorem sFlipsOf_yes (p : Int) (a : Option Addr) (n c : Nat) (l : List Nat) (w : World) (h : IntsAt w a n (up l)) (hn : n ≤ 64) (hA : Anti p (up l)) (hl : ∀ t ∈ l, t < 64) :
    Calls Try.prog 57 #[.agg #[.int .i64 p, .slice a n c]] w (RetInts2 w (allS (okF p l) 64)) := by
  obtain ⟨w1, hw1⟩ : ∃ w1, w1 = (w.alloc (.cells #[.int .i64 p, .slice a n c] 26)).alloc (.cells #[] 24) := ⟨_, rfl⟩
  have hx : IntsAt w1 a n (up l) := by rw [hw1]; exact h.keep (by repeat (first | exact Below.refl _ _ | assumption | refine Below.setCell ?_ (by first | omega | (simp; done) | (simp; omega)) _ | refine Below.alloc ?_ (by first | omega | (simp; done) | (simp; omega)) _ | apply Below.drew))
  have hB : Below w.heap.size w w1 := by rw [hw1]; exact (by repeat (first | exact Below.refl _ _ | assumption | refine Below.setCell ?_ (by first | omega | (simp; done) | (simp; omega)) _ | refine Below.alloc ?_ (by first | omega | (simp; done) | (simp; omega)) _ | apply Below.drew))
  have hz1 : w1.heap.size = w.heap.size + 2 := by rw [hw1]; simp
  have hO : Own2 w1 (w.heap.size + 1) w1.heap.size (some ⟨w.heap.size + 1, 0, none⟩) 0 0 [] := by
    have := O2.empty (w.alloc (.cells #[.int .i64 p, .slice a n c] 26)) (w.heap.size + 1) (by simp)
    simp only [World.size_alloc] at this
    rw [hw1]; exact ⟨_, this.up (by simp)⟩
  have hbx : BoxF w1 w.heap.size (.int .i64 p) (.slice a n c) := by rw [hw1]; exact (BoxF.new w (.int .i64 p) (.slice a n c) 26).alloc _
  have HcF : Hid (∀ (s t : Nat) W, IntsAt W a n (up l) → Calls Try.prog 105 #[.agg #[.int .i64 p, .slice a n c], .int .i64 s, .int .i64 t] W fun e w' => e = .returned (.bool (okF p l s t)) ∧ Below W.heap.size W w') := Lib.hid fun s t W hW => sFlip_yes p a n c l s t W hW hn hA hl _ okIff
  have HcC : Hid (∀ W, IntsAt W a n (up l) → Calls Try.prog 23 #[.agg #[.int .i64 p, .slice a n c]] W fun e w' => e = .returned (.bool true) ∧ Below W.heap.size W w') := Lib.hid fun W hW => sIsComplex_any p a n c _ W hW true (by simp [hA])
  have H1 : Hid (allS (okF p l) 1 = []) := Lib.hid (by
    rw [show 1 = 0 + 1 from rfl, allS_next, rowNone (fun t => okNot fun h => h.1 rfl)]; rfl)
  have Hr1 : Hid (∀ s, rowT (okF p l) s 1 = []) := Lib.hid fun s => by
    rw [show 1 = 0 + 1 from rfl, rowNo (okNot fun h => h.2.1 rfl)]; rfl
  have HB := Lib.hid hB; have HO := Lib.hid hO; have HW1 := Lib.hid hw1; have XA := Lib.hid hbx
  have HxF : Hid (∀ W, Below (w.heap.size + 1) w1 W → IntsAt W a n (up l)) := Lib.hid fun W hW => h.keep (hB.trans (hW.mono (by omega)))
  clear hx hB hO hw1 h hA hl hbx
  go_enter Try.func57, Try.ntmps57
  go_wp2_with fail
  rw [← HW1.out]
  go_loopw [3, 4, 5] (fun o i _ wr => ∃ S : Nat, 1 ≤ S ∧ S ≤ 64 ∧ i = .int .i64 S ∧ Below (w.heap.size + 1) w1 wr ∧ ∃ ad k d, o = .slice ad k d ∧ Own2 wr (w.heap.size + 1) wr.heap.size ad k d (allS (okF p l) S)) (fun _ i _ _ => 64 - (intOf i).toNat)
  case atStart => exact ⟨1, by omega, by omega, rfl, Below.refl _ _, _, 0, 0, rfl, by rw [H1.out]; exact HO.out⟩
  case round =>
    obtain ⟨wo, rfl⟩ : ∃ x : World, x = wr := ⟨_, rfl⟩
    obtain ⟨S, hS1, hS, rfl, hbr, ad, k, d, rfl, hown⟩ := hrel
    have HBr := Lib.hid hbr; have HO2 := Lib.hid hown
    have XAr := Lib.hid (XA.out.keep hbr (by omega))
    have hzr : w.heap.size + 2 ≤ wo.heap.size := by have := hbr.size; omega
    have Hxr := Lib.hid (HxF.out _ hbr)
    clear hbr hown
    obtain ⟨p0, p1, _, _, _⟩ := XAr.out
    by_cases hlt : S < 64
    · have hlt' : (S : Int) < 64 := by omega
      have Hnext := Lib.hid (allS_next (okF p l) S)
      go_wp2_with fail
      refine (HcC.out _ Hxr.out).mono ?_
      rintro e w2 ⟨rfl, hb⟩
      have HB2 := Lib.hid (HBr.out.trans (hb.mono (by omega)))
      have HO3 : Hid (Own2 w2 (w.heap.size + 1) w2.heap.size ad k d (allS (okF p l) S)) := Lib.hid ((HO2.out.keep hb).up hb.size)
      clear hb p0 p1
      go_wp2_with fail
      go_loopw [3, 5] (fun o j wr => ∃ T : Nat, 1 ≤ T ∧ T ≤ 64 ∧ j = .int .i64 T ∧ Below (w.heap.size + 1) w1 wr ∧ ∃ ad k d, o = .slice ad k d ∧ Own2 wr (w.heap.size + 1) wr.heap.size ad k d (allS (okF p l) S ++ rowT (okF p l) S T)) (fun _ j _ => 64 - (intOf j).toNat)
      case atStart => exact ⟨1, by omega, by omega, rfl, HB2.out, ad, k, d, rfl, by rw [Hr1.out, List.append_nil]; exact HO3.out⟩
      case round =>
        obtain ⟨T, hT1, hT, rfl, hbi, ad3, k3, d3, rfl, hown3⟩ := hrel
        have HBi := Lib.hid hbi; have HOi := Lib.hid hown3
        have XAi := Lib.hid (XA.out.keep hbi (by omega))
        have hzi : w.heap.size + 2 ≤ wr.heap.size := by have := hbi.size; omega
        have Hxi := Lib.hid (HxF.out _ hbi)
        clear hbi hown3
        obtain ⟨p0, p1, _, _, _⟩ := XAi.out
        by_cases hjt : T < 64
        · have hjt' : (T : Int) < 64 := by omega
          have hk3 : k3 ≤ 8192 := by
            have h1 := HOi.out.len
            rw [List.length_append] at h1
            have h2 := allS_len (okF p l) S
            have h3 := rowLen (okF p l) S T
            omega
          have hcall := HcF.out S T wr Hxi.out
          obtain ⟨b, hb⟩ : ∃ b, b = okF p l S T := ⟨_, rfl⟩
          rw [← hb] at hcall
          have Hb := Lib.hid hb.symm; have Hcall := Lib.hid hcall
          clear hb hcall
          go_wp2_with fail
          refine Hcall.out.mono ?_
          rintro e w5 ⟨rfl, hb5⟩
          have HB5 := Lib.hid (HBi.out.trans (hb5.mono (by omega)))
          have HO5 : Hid (Own2 w5 (w.heap.size + 1) w5.heap.size ad3 k3 d3 (allS (okF p l) S ++ rowT (okF p l) S T)) := Lib.hid ((HOi.out.keep hb5).up hb5.size)
          have hz5 : w.heap.size + 1 ≤ w5.heap.size := by have := hb5.size; omega
          clear hb5
          cases b
          · have Hno := Lib.hid (rowNo Hb.out)
            go_wp2_with fail
            go_roundw
            case rel => exact ⟨T + 1, by omega, by omega, by go_num, HB5.out, ad3, k3, d3, rfl, by rw [Hno.out]; exact HO5.out⟩
            case measure => simp [intOf]; omega
          · have Hyes := Lib.hid (rowYes Hb.out)
            go_wp2_with (at_builtin; refine ap_pair rfl _ _ rfl (w.heap.size + 1) _ _ _ _ _ _ rfl HO5.out rfl (by omega) hz5 ?_; intro ad' d' w' hown' hb'; have HO6 := Lib.hid hown'; have HB6 := Lib.hid hb'; clear hown' hb')
            go_roundw
            case rel => exact ⟨T + 1, by omega, by omega, by go_num, HB5.out.trans HB6.out, ad', k3 + 1, d', rfl, by rw [Hyes.out, ← List.append_assoc]; exact HO6.out⟩
            case measure => simp [intOf]; omega
        · obtain rfl : T = 64 := by omega
          go_wp2_with fail
          go_roundw
          case rel => exact ⟨S + 1, by omega, by omega, by go_num, HBi.out, ad3, k3, d3, rfl, by rw [Hnext.out]; exact HOi.out⟩
          case measure => simp [intOf]; omega
    · obtain rfl : S = 64 := by omega
      go_wp2_with fail
      go_ret
      exact ⟨ad, k, d, rfl, HO2.out.mono (by omega), HB.out.trans (HBr.out.mono (by omega))⟩
end Go.Proofs.Ytbdnlncpamandaa

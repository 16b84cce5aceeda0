/- Contract of the reference's HolesMod. -/
import Derived.Test.YtihfhfihladlcaaGreatDoorBorder
import Derived.Test.YtihfhfihladlcaaGreatDoorCounts3
namespace Go.Proofs.YtihfhfihladlcaaGreatDoor
set_option maxRecDepth 20000
open Go.RowKit
set_option linter.unusedSimpArgs false
set_option linter.unusedVariables false

/-- the holes of a family, by the number of points -/
def holesL (p : Nat) (A : Nat → Bool) : List Int := (List.range (topTo A 64)).map (holeN p A)
theorem cnt_at {A : Nat → Bool} {k : Nat} (h : k < topTo A 64) : nthN (cntOf A) k = (lvlTo A 64 k).length := by
  rw [nthN_at2 (by unfold cntOf; simpa using h)]
  unfold cntOf; simp
theorem cnt_len2 (A : Nat → Bool) : (cntOf A).length = topTo A 64 := by simp [cntOf]
theorem lvl_top {A : Nat → Bool} {k : Nat} (h : topTo A 64 ≤ k) : lvlTo A 64 k = [] := by
  unfold lvlTo
  rw [List.filter_eq_nil_iff]
  intro s hs
  simp
  intro hA e
  have := topTo_ge hA 64 (List.mem_range.1 hs)
  omega
theorem rk_top {p : Nat} (hp : Prm p) {A : Nat → Bool} (hd : Dn A) {k : Nat} (h : topTo A 64 ≤ k) : rk0 p A k = 0 := by
  unfold rk0
  by_cases hk : k = 0
  · rw [if_pos hk]
  · rw [if_neg hk]
    have := (dim_cyc hp hd (show 1 ≤ k by omega)).1
    rw [lvl_top h] at this
    exact Nat.le_zero.1 this
theorem dn_isFace (l : List Nat) : Dn (isFace l) := fun t _ ht u hu => by
  unfold isFace at *
  rw [List.any_eq_true] at *
  obtain ⟨f, hf, h⟩ := ht
  exact ⟨f, hf, sub_trans hu h⟩
theorem ofSize_nat (l : List Nat) (k : Nat) : ofSize l (k : Int) = lvlTo (isFace l) 64 k := by
  unfold ofSize; rw [if_neg (by omega)]; rfl
theorem rk_le {p : Nat} (hp : Prm p) {A : Nat → Bool} (hd : Dn A) (k : Nat) : rk0 p A k ≤ 64 :=
  Nat.le_trans (dim_cyc0 hp hd k).1 (by unfold lvlTo; exact Nat.le_trans (List.length_filter_le _ _) (by simp))
theorem range_succ_map (f : Nat → Int) (I : Nat) : (List.range (I + 1)).map f = (List.range I).map f ++ [f I] := by rw [List.range_succ, List.map_append]; rfl

set_option maxRecDepth 100000 in
theorem sHoles_no (q : Int) (a : Option Addr) (n c : Nat) (xs : List Int) (p : Nat) (w : World) (h : IntsAt w a n xs) (hno : ¬ Anti q xs) (hp : Prm p) :
    Calls Tryz.prog 62 #[.agg #[.int .i64 q, .slice a n c], .int .i64 p] w (RetInts w []) := by
  obtain ⟨w0, hw0⟩ : ∃ w0, w0 = (w.alloc (.cells #[.int .i64 q, .slice a n c] 32)).alloc (.cells #[] 3) := ⟨_, rfl⟩
  have Hx : Hid (IntsAt w0 a n xs) := Lib.hid (by rw [hw0]; exact h.keep (by repeat (first | exact Below.refl _ _ | assumption | refine Below.setCell ?_ (by first | omega | (simp; done) | (simp; omega)) _ | refine Below.alloc ?_ (by first | omega | (simp; done) | (simp; omega)) _ | apply Below.drew)))
  have HB0 : Hid (Below w.heap.size w w0) := Lib.hid (by rw [hw0]; exact (by repeat (first | exact Below.refl _ _ | assumption | refine Below.setCell ?_ (by first | omega | (simp; done) | (simp; omega)) _ | refine Below.alloc ?_ (by first | omega | (simp; done) | (simp; omega)) _ | apply Below.drew)))
  have hz0 : w0.heap.size = w.heap.size + 2 := by rw [hw0]; simp
  have HO0 : Hid (Own 3 w0 w.heap.size (some ⟨w.heap.size + 1, 0, none⟩) 0 0 []) := Lib.hid (by
    have := Own.empty 3 (w.alloc (.cells #[.int .i64 q, .slice a n c] 32)) w.heap.size (by simp)
    simp only [World.size_alloc] at this
    rw [hw0]; exact this)
  have HW0 := Lib.hid hw0; have Hno := Lib.hid hno; have HP := Lib.hid hp
  clear h hno hw0 hp
  go_enter Tryz.func62, Tryz.ntmps62
  go_wp2_with fail
  rw [← HW0.out]
  refine (sCounts_no q a n c xs _ Hx.out Hno.out).mono ?_
  rintro e w1 ⟨a1, n1, c1, rfl, own1, hb1⟩
  have HB1 := Lib.hid (HB0.out.trans (hb1.mono HB0.out.size))
  have HO1 := Lib.hid (HO0.out.keep hb1)
  have hn1 : n1 = 0 := by have := own1.len; simpa using this.symm
  subst hn1
  clear hb1 own1
  go_wp2_with (go_at_call 140; (with_reducible refine (specPrime_yes p _ HP.out).mono ?_); rintro e w' ⟨rfl, rfl⟩)
  go_loopw [5, 7, 8, 9] (fun o _ k _ wr => o = .slice (some ⟨w.heap.size + 1, 0, none⟩) 0 0 ∧ k = .int .i64 0 ∧ wr = w1) (fun _ _ _ _ _ => 0)
  case atStart => exact ⟨rfl, rfl, rfl⟩
  case round =>
    obtain ⟨rfl, rfl, rfl⟩ := hrel
    go_wp2_with fail
    go_ret
    exact ⟨_, 0, 0, rfl, HO1.out, HB1.out⟩
set_option maxRecDepth 100000 in
set_option maxHeartbeats 2000000 in
theorem sHoles_yes (q : Int) (a : Option Addr) (n c : Nat) (l : List Nat) (p : Nat) (w : World) (h : IntsAt w a n (up l)) (hA : Anti q (up l)) (hl : ∀ t ∈ l, t < 64) (hp : Prm p) :
    Calls Tryz.prog 62 #[.agg #[.int .i64 q, .slice a n c], .int .i64 p] w (RetInts w (holesL p (isFace l))) := by
  obtain ⟨g, hg⟩ : ∃ g, g = w.heap.size + 1 := ⟨_, rfl⟩
  obtain ⟨w0, hw0⟩ : ∃ w0, w0 = (w.alloc (.cells #[.int .i64 q, .slice a n c] 32)).alloc (.cells #[] 3) := ⟨_, rfl⟩
  have Hx : Hid (IntsAt w0 a n (up l)) := Lib.hid (by rw [hw0]; exact h.keep (by repeat (first | exact Below.refl _ _ | assumption | refine Below.setCell ?_ (by first | omega | (simp; done) | (simp; omega)) _ | refine Below.alloc ?_ (by first | omega | (simp; done) | (simp; omega)) _ | apply Below.drew)))
  have HB0 : Hid (Below w.heap.size w w0) := Lib.hid (by rw [hw0]; exact (by repeat (first | exact Below.refl _ _ | assumption | refine Below.setCell ?_ (by first | omega | (simp; done) | (simp; omega)) _ | refine Below.alloc ?_ (by first | omega | (simp; done) | (simp; omega)) _ | apply Below.drew)))
  have hz0 : w0.heap.size = g + 1 := by rw [hw0, hg]; simp
  have HO0 : Hid (Own 3 w0 g (some ⟨g, 0, none⟩) 0 0 []) := Lib.hid (by
    have := Own.empty 3 (w.alloc (.cells #[.int .i64 q, .slice a n c] 32)) g (by rw [hg]; simp)
    simp only [World.size_alloc] at this
    rw [← hg] at this
    rw [hw0]; exact this)
  have X0 : Hid (BoxF w0 w.heap.size (.int .i64 q) (.slice a n c)) := Lib.hid (by rw [hw0]; exact (BoxF.new w (.int .i64 q) (.slice a n c) 32).alloc _)
  have Hna : Hid (∀ b, a = some b → 0 < n → b.block < w.heap.size) := Lib.hid fun b hb hn => by
    obtain ⟨b', off, he, hc⟩ := h.cells hn
    rw [hb] at he; cases he
    exact World.block_lt_of_cell? w _ (hc 0 hn)
  have Hg := Lib.hid hg
  have hgw : w.heap.size < g := by omega
  obtain ⟨A, hAe⟩ : ∃ A, A = isFace l := ⟨_, rfl⟩
  have HAe := Lib.hid hAe
  have HD : Hid (Dn A) := Lib.hid (by rw [hAe]; exact dn_isFace l)
  have HW0 := Lib.hid hw0; have HA := Lib.hid hA; have HP := Lib.hid hp; have Hl := Lib.hid hl
  have HBd : Hid (∀ (I : Nat) W, I ≤ 10 → IntsAt W a n (up l) → Calls Tryz.prog 142 #[.agg #[.int .i64 q, .slice a n c], .int .i64 ((I : Int) + 1)] W (RetInts2 W (bordL (lvlTo A 64 I) (lvlTo A 64 (I + 1))))) := Lib.hid fun I W hI hW => by
    have := sBorder_yes q a n c l (I + 1) W hW hA hl (by omega)
    rw [show (((I + 1 : Nat) : Int) - 1) = (I : Int) by omega, ofSize_nat, ofSize_nat, ← hAe] at this
    exact this
  have HF : Hid (∀ W, IntsAt W a n (up l) → Calls Tryz.prog 60 #[.agg #[.int .i64 q, .slice a n c]] W (RetInts W (up (cntOf A)))) := Lib.hid fun W hW => by rw [hAe]; exact sCounts_yes q a n c l W hW hA hl
  have HRk : Hid (∀ (I : Nat) (a2 : Option Addr) (m2 c2 : Nat) W, RowsAt W a2 m2 (bordL (lvlTo A 64 I) (lvlTo A 64 (I + 1))) → Calls Tryz.prog 141 #[.slice a2 m2 c2, .int .i64 p] W fun e w' => e = .returned (.int .i64 (rk0 p A (I + 1))) ∧ Below W.heap.size W w') := Lib.hid fun I a2 m2 c2 W hR => by
    obtain ⟨f, hR⟩ := hR
    have hm := hR.len
    unfold bordL at hm
    rw [List.length_map] at hm
    subst hm
    have hle : ∀ k, (lvlTo A 64 k).length ≤ 64 := fun k => by unfold lvlTo; exact Nat.le_trans (List.length_filter_le _ _) (by simp)
    refine (sRank_any a2 _ c2 (lvlTo A 64 (I + 1)).length p _ (bordR p (lvlTo A 64 I) (lvlTo A 64 (I + 1))) W ⟨f, hR⟩ hp (hle _) (hle _) (fun i hi => ?_) (fun i hi j hj => ?_) (fun i hi => bordR_eq hi)).mono ?_
    · rw [nthL_bord hi, List.length_map]
    · rw [nthL_bord hi, nth_map (α := Nat) _ _ hj]
      have := sgn_bd (nthN (lvlTo A 64 I) i) (lvlTo A 64 (I + 1))[j]
      omega
    · rintro e w' ⟨rfl, hb⟩
      refine ⟨?_, hb⟩
      unfold rk0
      rw [if_neg (by omega)]
      rfl
  obtain ⟨T, hT⟩ : ∃ T, T = topTo A 64 := ⟨_, rfl⟩
  have hT7 : T ≤ 7 := by rw [hT]; exact topTo_le _ _
  have HT := Lib.hid hT
  have HR : Hid (holesL p A = (List.range T).map (holeN p A)) := Lib.hid (by unfold holesL; rw [hT])
  rw [← HAe.out, HR.out]
  clear h hA hl hp hw0 hAe hT hg
  go_enter Tryz.func62, Tryz.ntmps62
  go_wp2_with fail
  rw [← HW0.out, ← Hg.out]
  refine (HF.out _ Hx.out).mono ?_
  rintro e w1 ⟨a1, n1, c1, rfl, own1, hb1⟩
  have HB1 := Lib.hid (HB0.out.trans (hb1.mono HB0.out.size))
  have HO1 := Lib.hid (HO0.out.keep hb1)
  have X1 := Lib.hid (X0.out.keep hb1 X0.out.lt)
  have Hx1 := Lib.hid (Hx.out.keep hb1)
  have hn1 : n1 = T := by have := own1.len; rw [up_len, cnt_len2] at this; rw [HT.out]; exact this.symm
  subst hn1
  have HF1 : Hid (Own 3 w1 (g + 1) a1 n1 c1 (up (cntOf A))) := Lib.hid (own1.mono (by omega))
  have hz1 : g + 1 ≤ w1.heap.size := by have := hb1.size; omega
  clear hb1 own1
  go_wp2_with (go_at_call 140; (with_reducible refine (specPrime_yes p _ HP.out).mono ?_); rintro e w' ⟨rfl, rfl⟩)
  go_loopw [5, 7, 8, 9] (fun o b k _ wr => ∃ (I k1 : Nat) (ad : Option Addr), I ≤ n1 ∧ k = .int .i64 I ∧ b = .int .i64 (rk0 p A I) ∧ o = .slice ad I k1 ∧ Own 3 wr g ad I k1 ((List.range I).map (holeN p A)) ∧ Below w.heap.size w wr ∧ Apt w1 wr g ∧ (∀ b, ad = some b → b.block = g ∨ w1.heap.size ≤ b.block)) (fun _ _ k _ _ => n1 - (intOf k).toNat)
  case atStart => exact ⟨0, 0, _, Nat.zero_le _, rfl, rfl, rfl, HO1.out, HB1.out, Apt.refl _ _, fun b hb => by cases hb; exact .inl rfl⟩
  case round =>
    obtain ⟨wo, rfl⟩ : ∃ x : World, x = wr := ⟨_, rfl⟩
    obtain ⟨I, k1, ad, hI, rfl, rfl, rfl, hown, hbl, hapt, hloc⟩ := hrel
    have HO := Lib.hid hown; have HBl := Lib.hid hbl; have HAp := Lib.hid hapt; have Hloc := Lib.hid hloc
    have hzo : w1.heap.size ≤ wo.heap.size := hapt.size
    clear hown hbl hapt hloc
    by_cases hlt : I < n1
    · have HX := Lib.hid (HAp.out.box X1.out (by omega))
      have HxI : Hid (IntsAt wo a n (up l)) := Lib.hid (by
        by_cases hn0 : 0 < n
        · exact HAp.out.ints Hx1.out fun b hb => by have := Hna.out b hb hn0; omega
        · exact ⟨Hx1.out.len, Hx1.out.small, fun h => absurd h hn0⟩)
      have HFo : Hid (Own 3 wo (g + 1) a1 n1 c1 (up (cntOf A))) := Lib.hid (HAp.out.own HF1.out fun k hk => by have := HF1.out.lt k hk; omega)
      have hr1 := rk_le HP.out HD.out I
      have hr2 := rk_le HP.out HD.out (I + 1)
      obtain ⟨f, hf⟩ : ∃ f, f = (lvlTo A 64 I).length := ⟨_, rfl⟩
      have hf64 : f ≤ 64 := by rw [hf]; unfold lvlTo; exact Nat.le_trans (List.length_filter_le _ _) (by simp)
      have HV : Hid (holeN p A I = (f : Int) - rk0 p A I - rk0 p A (I + 1)) := Lib.hid (by unfold holeN; rw [hf])
      have Hcf : Hid (nthN (cntOf A) I = f) := Lib.hid (by rw [hf]; exact cnt_at (by rw [← HT.out]; exact hlt))
      have Htop : Hid (¬ (I + 1 < n1) → rk0 p A (I + 1) = 0) := Lib.hid fun h => rk_top HP.out HD.out (by rw [← HT.out]; omega)
      have HRk1 : Hid (∀ (a2 : Option Addr) (m2 c2 : Nat) W, RowsAt W a2 m2 (bordL (lvlTo A 64 I) (lvlTo A 64 (I + 1))) → Calls Tryz.prog 141 #[.slice a2 m2 c2, .int .i64 p] W fun e w' => e = .returned (.int .i64 (rk0 p A (I + 1))) ∧ Below W.heap.size W w') := Lib.hid (HRk.out I)
      have Hnx : Hid ((List.range (I + 1)).map (holeN p A) = (List.range I).map (holeN p A) ++ [holeN p A I]) := Lib.hid (range_succ_map _ _)
      obtain ⟨R1, hR1⟩ : ∃ R1, R1 = rk0 p A I := ⟨_, rfl⟩
      obtain ⟨R2, hR2⟩ : ∃ R2, R2 = rk0 p A (I + 1) := ⟨_, rfl⟩
      rw [← hR1] at hr1 HV ⊢
      rw [← hR2] at hr2 HV Htop HRk1
      have HR2 := Lib.hid hR2
      obtain ⟨v, hv⟩ : ∃ v, v = holeN p A I := ⟨_, rfl⟩
      rw [← hv] at HV Hnx
      have hI0 : (0 : Int) ≤ I := by omega
      have hIn : (I : Int) < n1 := by omega
      clear hf hR1 hR2 hv
      have HB1x : Hid (∀ W, IntsAt W a n (up l) → Calls Tryz.prog 142 #[.agg #[.int .i64 q, .slice a n c], .int .i64 ((I : Int) + 1)] W (RetInts2 W (bordL (lvlTo A 64 I) (lvlTo A 64 (I + 1))))) := Lib.hid fun W hW => HBd.out I W (by omega) hW
      obtain ⟨p0, p1, _, _, _⟩ := HX.out
      by_cases hI1 : I + 1 < n1
      · have hI1i : (I : Int) + 1 < n1 := by omega
        go_wp2_with fail
        refine (HB1x.out _ HxI.out).mono ?_
        rintro e w2 ⟨a2, m2, c2, rfl, own2, hb2⟩
        have HR := Lib.hid own2.reads
        have HA2 := Lib.hid (HAp.out.keep hb2); have HO2 := Lib.hid (HO.out.keep hb2); have HB2 := Lib.hid (HBl.out.trans (hb2.mono (by omega)))
        have hz2 : wo.heap.size ≤ w2.heap.size := hb2.size
        have HF2 := Lib.hid (HFo.out.keep hb2)
        clear hb2 own2 p0 p1
        go_wp2_with fail
        refine (HRk1.out _ _ _ _ HR.out).mono ?_
        rintro e w3 ⟨rfl, hb3⟩
        have HA3 := Lib.hid (HA2.out.keep hb3); have HO3 := Lib.hid (HO2.out.keep hb3); have HB3 := Lib.hid (HB2.out.trans (hb3.mono (by omega)))
        have hz3 : w2.heap.size ≤ w3.heap.size := hb3.size
        have HF3 := Lib.hid (HF2.out.keep hb3)
        obtain ⟨b1, o1, rfl, hcc⟩ := HF3.out.reads.cells (by omega)
        have hck := hcc I hlt
        rw [nth_up, Hcf.out] at hck
        have hg3 : g ≤ w3.heap.size := by omega
        clear hb3 hcc
        have hvv : (f : Int) - R1 - R2 = v := HV.out.symm
        go_wp2_with (at_builtin; refine ap_at rfl _ _ rfl g _ _ _ _ _ rfl HO3.out rfl (by omega) hg3 ?_; intro ad6 d6 w6 hown6 hb6 hg6 hl6; have HO6 := Lib.hid hown6; have HB6 := Lib.hid (HB3.out.trans (hb6.mono (by omega))); have HA6 := Lib.hid (HA3.out.grown hg6 fun k hk => by obtain ⟨d, hd1, hd2⟩ := ownBlock_some hk; have := Hloc.out d hd1; omega); have HL6 : Hid (∀ b, ad6 = some b → b.block = g ∨ w1.heap.size ≤ b.block) := Lib.hid fun b hb => (hl6 b hb).elim (fun ⟨d, hd1, hd2⟩ => by have := Hloc.out d hd1; omega) (fun h => .inr (by omega)); clear hown6 hb6 hg6 hl6)
        go_roundw
        case rel => exact ⟨I + 1, d6, ad6, by omega, by go_num, by rw [HR2.out], rfl, by rw [Hnx.out]; exact HO6.out, HB6.out, HA6.out, HL6.out⟩
        case measure => simp [intOf]; omega
      · have hI1i : ¬ ((I : Int) + 1 < n1) := by omega
        have hz := Htop.out hI1
        obtain ⟨b1, o1, rfl, hcc⟩ := HFo.out.reads.cells (by omega)
        have hck := hcc I hlt
        rw [nth_up, Hcf.out] at hck
        have hg3 : g ≤ wo.heap.size := by omega
        clear hcc
        have HV2 : Hid ((f : Int) - R1 = v) := Lib.hid (by have := HV.out; rw [hz] at this; omega)
        clear hz
        go_wp2_with (at_builtin; refine ap_at rfl _ _ rfl g _ _ _ _ _ rfl HO.out rfl (by omega) hg3 ?_; intro ad6 d6 w6 hown6 hb6 hg6 hl6; have HO6 := Lib.hid hown6; have HB6 := Lib.hid (HBl.out.trans (hb6.mono (by omega))); have HA6 := Lib.hid (HAp.out.grown hg6 fun k hk => by obtain ⟨d, hd1, hd2⟩ := ownBlock_some hk; have := Hloc.out d hd1; omega); have HL6 : Hid (∀ b, ad6 = some b → b.block = g ∨ w1.heap.size ≤ b.block) := Lib.hid fun b hb => (hl6 b hb).elim (fun ⟨d, hd1, hd2⟩ => by have := Hloc.out d hd1; omega) (fun h => .inr (by omega)); clear hown6 hb6 hg6 hl6)
        go_roundw
        case rel => exact ⟨I + 1, d6, ad6, by omega, by go_num, by rw [← HR2.out, Htop.out hI1]; rfl, rfl, by rw [Hnx.out, ← HV2.out]; exact HO6.out, HB6.out, HA6.out, HL6.out⟩
        case measure => simp [intOf]; omega
    · obtain rfl : I = n1 := by omega
      have hII : ¬ ((I : Int) < I) := by omega
      go_wp2_with fail
      go_ret
      exact ⟨_, I, k1, rfl, HO.out.mono (by omega), HBl.out⟩
end Go.Proofs.YtihfhfihladlcaaGreatDoor

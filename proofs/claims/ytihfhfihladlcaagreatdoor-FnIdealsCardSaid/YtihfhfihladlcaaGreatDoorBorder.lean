/- Contracts of the reference's l13Sign and l13Border. -/
import Derived.Deep.RegionHeld3
import Derived.Test.YtihfhfihladlcaaGreatDoorChain2
import Derived.Test.YtihfhfihladlcaaGreatDoorCore
import Derived.Test.YtihfhfihladlcaaGreatDoorFaces2
import Derived.Test.YtihfhfihladlcaaGreatDoorReduce
namespace Go.Proofs.YtihfhfihladlcaaGreatDoor
set_option maxRecDepth 20000
open Go.RowKit
set_option linter.unusedSimpArgs false
set_option linter.unusedVariables false

/-- the matrix of a border, by rows -/
def bordL (Lo Hi : List Nat) : List (List Int) := Lo.map fun u => Hi.map fun t => sgnF u t
theorem nthL_bord {Lo Hi : List Nat} {i : Nat} (h : i < Lo.length) : nthL (bordL Lo Hi) i = Hi.map fun t => sgnF (nthN Lo i) t := by
  unfold bordL
  rw [nthL_at (by rw [List.length_map]; exact h), List.getElem_map, nthN_at2 h]
theorem bordR_eq {p : Nat} {Lo Hi : List Nat} {i : Nat} (h : i < Lo.length) : bordR p Lo Hi i = (nthL (bordL Lo Hi) i).map fun x => x % (p : Int) := by
  rw [nthL_bord h]
  refine nth_ext (by unfold bordR; simp [mkL_len]) fun j hj => ?_
  unfold bordR at hj ⊢
  rw [mkL_len] at hj
  rw [nth_mkL, if_pos hj, nth_map' (by rw [List.length_map]; exact hj), nth_map (α := Nat) _ _ hj, nthN_at2 hj]
theorem sgn_bd (u t : Nat) : -1 ≤ sgnF u t ∧ sgnF u t ≤ 1 := by
  unfold sgnF
  split <;> omega

theorem ofSize_lt2 {l : List Nat} {k : Int} : ∀ t ∈ ofSize l k, t < 64 := fun t ht => by
  unfold ofSize at ht
  split at ht
  · cases ht
  · unfold lvlTo at ht; rw [List.mem_filter, List.mem_range] at ht; exact ht.1

theorem l13Sign_any (u t : Nat) (w : World) (hu : u < 64) (ht : t < 64) :
    Calls Tryz.prog 190 #[.int .i64 u, .int .i64 t] w fun e w' => e = .returned (.int .i64 (sgnF u t)) ∧ w = w' := by
  have hand := w_and u t hu ht
  by_cases hs : sub u t = true
  · have hle := sub_le hs
    have hne : (((u &&& t : Nat) : Int) != (u : Int)) = false := by rw [castBne]; unfold sub at hs; simpa using hs
    by_cases hz : sz t = sz u + 1
    · have hlt : u < t := by
        rcases Nat.lt_or_ge u t with h | h
        · exact h
        · have : u = t := by omega
          subst this; omega
      have HV : Hid (sgnF u t = 1 - 2 * ((sz (t &&& (t - u - 1)) % 2 : Nat) : Int)) := Lib.hid (by unfold sgnF; rw [if_pos (by simp [hs, hz])])
      obtain ⟨q, hq⟩ : ∃ q, q = t - u - 1 := ⟨_, rfl⟩
      have hq64 : q < 64 := by omega
      have hqi : (t : Int) - u - 1 = (q : Int) := by omega
      have hand2 := w_and t q ht hq64
      have hv64 : t &&& q < 64 := Nat.lt_of_le_of_lt Nat.and_le_left ht
      rw [← hq] at HV
      obtain ⟨v, hv⟩ : ∃ v, v = t &&& q := ⟨_, rfl⟩
      rw [← hv] at HV hv64 hand2
      have hzi : (((sz t : Nat) : Int) - ((sz u : Nat) : Int) != 1) = false := by simp; omega
      have hzi2 : ((sz t : Nat) : Int) - ((sz u : Nat) : Int) = 1 := by omega
      have hszt := sz_le t; have hszu := sz_le u; have hszv := sz_le v
      clear hs hq hv
      go_enter Tryz.func190, Tryz.ntmps190
      go_wp2_with (first | (go_at_call 138; (with_reducible refine (l2Size_any u _ hu).mono ?_); rintro e w' ⟨rfl, rfl⟩) | (go_at_call 138; (with_reducible refine (l2Size_any t _ ht).mono ?_); rintro e w' ⟨rfl, rfl⟩) | (go_at_call 138; (with_reducible refine (l2Size_any v _ hv64).mono ?_); rintro e w' ⟨rfl, rfl⟩))
      all_goals go_ret
      exact ⟨ret_int (by rw [HV.out]; omega), rfl⟩
    · have HV : Hid (sgnF u t = 0) := Lib.hid (by unfold sgnF; rw [if_neg (by simp [hs]; omega)])
      have hszt := sz_le t; have hszu := sz_le u
      obtain ⟨A, hA⟩ : ∃ A, A = sz u := ⟨_, rfl⟩
      obtain ⟨C, hC⟩ : ∃ C, C = sz t := ⟨_, rfl⟩
      have H1 : Hid (∀ W, Calls Tryz.prog 138 #[.int .i64 u] W fun e w' => e = .returned (.int .i64 A) ∧ W = w') := Lib.hid fun W => by rw [hA]; exact l2Size_any u W hu
      have H2 : Hid (∀ W, Calls Tryz.prog 138 #[.int .i64 t] W fun e w' => e = .returned (.int .i64 C) ∧ W = w') := Lib.hid fun W => by rw [hC]; exact l2Size_any t W ht
      have hzi : ((C : Int) - (A : Int) != 1) = true := by simp; omega
      rw [← hA] at hszu
      rw [← hC] at hszt
      clear hs hz hA hC
      go_enter Tryz.func190, Tryz.ntmps190
      go_wp2_with (first | (go_at_call 138; (with_reducible refine (H1.out _).mono ?_); rintro e w' ⟨rfl, rfl⟩) | (go_at_call 138; (with_reducible refine (H2.out _).mono ?_); rintro e w' ⟨rfl, rfl⟩))
      all_goals go_ret
      exact ⟨ret_int HV.out.symm, rfl⟩
  · have HV : Hid (sgnF u t = 0) := Lib.hid (by unfold sgnF; rw [if_neg (by simp [hs])])
    have hne : (((u &&& t : Nat) : Int) != (u : Int)) = true := by rw [castBne]; unfold sub at hs; simpa using hs
    clear hs
    go_enter Tryz.func190, Tryz.ntmps190
    go_wp2_with fail
    all_goals go_ret
    exact ⟨ret_int HV.out.symm, rfl⟩
set_option maxRecDepth 100000 in
set_option maxHeartbeats 2000000 in
theorem sBorder_yes (p : Int) (a : Option Addr) (n c : Nat) (l : List Nat) (k : Nat) (w : World) (h : IntsAt w a n (up l)) (hA : Anti p (up l)) (hl : ∀ t ∈ l, t < 64) (hk : k ≤ 100) :
    Calls Tryz.prog 142 #[.agg #[.int .i64 p, .slice a n c], .int .i64 k] w (RetInts2 w (bordL (ofSize l ((k : Int) - 1)) (ofSize l k))) := by
  have hx : IntsAt (w.alloc (.cells #[.int .i64 p, .slice a n c] 32)) a n (up l) := h.keep (by repeat (first | exact Below.refl _ _ | assumption | refine Below.setCell ?_ (by first | omega | (simp; done) | (simp; omega)) _ | refine Below.alloc ?_ (by first | omega | (simp; done) | (simp; omega)) _ | apply Below.drew))
  have Hx := Lib.hid hx; have HA := Lib.hid hA; have Hl := Lib.hid hl
  have XA := Lib.hid (BoxF.new w (.int .i64 p) (.slice a n c) 32)
  have hk1 : IntKind.i64.wrap ((k : Int) - 1) = (k : Int) - 1 := IntWalk.i64_in _ (by omega)
  have HC : Hid (∀ W (j : Int), IntsAt W a n (up l) → Calls Tryz.prog 189 #[.agg #[.int .i64 p, .slice a n c], .int .i64 j] W (RetInts W (up (ofSize l j)))) := Lib.hid fun W j hW => sOfSize_yes p a n c l j W hW hA hl
  obtain ⟨Lo, hLo⟩ : ∃ L, L = ofSize l ((k : Int) - 1) := ⟨_, rfl⟩
  obtain ⟨Hi, hHi⟩ : ∃ L, L = ofSize l k := ⟨_, rfl⟩
  have HL1 : Hid (∀ t ∈ Lo, t < 64) := Lib.hid (by rw [hLo]; exact ofSize_lt2)
  have HL2 : Hid (∀ t ∈ Hi, t < 64) := Lib.hid (by rw [hHi]; exact ofSize_lt2)
  have Hn1 : Hid (Lo.length ≤ 64) := Lib.hid (by rw [hLo]; exact ofSize_len _ _)
  have Hn2 : Hid (Hi.length ≤ 64) := Lib.hid (by rw [hHi]; exact ofSize_len _ _)
  have HLo := Lib.hid hLo; have HHi := Lib.hid hHi
  rw [← HLo.out, ← HHi.out]
  clear hx h hA hl hLo hHi
  obtain ⟨L, hL⟩ : ∃ L, L = bordL Lo Hi := ⟨_, rfl⟩
  have HLl : Hid (L.length = Lo.length) := Lib.hid (by rw [hL]; unfold bordL; rw [List.length_map])
  have HLa : Hid (∀ i, i < Lo.length → nthL L i = Hi.map fun t => sgnF (nthN Lo i) t) := Lib.hid fun i hi => by rw [hL]; exact nthL_bord hi
  rw [← hL]
  clear hL
  obtain ⟨g, hg⟩ : ∃ g, g = w.heap.size + 1 := ⟨_, rfl⟩
  obtain ⟨w0, hw0⟩ : ∃ w0, w0 = (w.alloc (.cells #[.int .i64 p, .slice a n c] 32)).alloc (.cells #[] 24) := ⟨_, rfl⟩
  have hz0 : w0.heap.size = g + 1 := by rw [hw0, hg]; simp
  have HB0 : Hid (Below w.heap.size w w0) := Lib.hid (by rw [hw0]; exact (by repeat (first | exact Below.refl _ _ | assumption | refine Below.setCell ?_ (by first | omega | (simp; done) | (simp; omega)) _ | refine Below.alloc ?_ (by first | omega | (simp; done) | (simp; omega)) _ | apply Below.drew)))
  have Hx0 : Hid (IntsAt w0 a n (up l)) := Lib.hid (by rw [hw0]; exact Hx.out.keep (by repeat (first | exact Below.refl _ _ | assumption | refine Below.setCell ?_ (by first | omega | (simp; done) | (simp; omega)) _ | refine Below.alloc ?_ (by first | omega | (simp; done) | (simp; omega)) _ | apply Below.drew)))
  have X0 : Hid (BoxF w0 w.heap.size (.int .i64 p) (.slice a n c)) := Lib.hid (by rw [hw0]; exact XA.out.alloc _)
  have HO0 : Hid (Own2 w0 g (g + 1) (some ⟨g, 0, none⟩) 0 0 []) := Lib.hid (by
    have h1 : (w.alloc (.cells #[.int .i64 p, .slice a n c] 32)).heap.size = g := by rw [hg]; simp
    have := O2.empty (w.alloc (.cells #[.int .i64 p, .slice a n c] 32)) g (by omega)
    rw [h1] at this
    rw [hw0]; exact ⟨_, this⟩)
  have hgw : w.heap.size ≤ g := by omega
  have Hg := Lib.hid hg; have HW0 := Lib.hid hw0
  clear hg hw0
  go_enter Tryz.func142, Tryz.ntmps142
  go_wp2_with fail
  rw [← HW0.out]
  rw [← Hg.out]
  refine (HC.out _ _ Hx0.out).mono ?_
  rw [← HLo.out]
  rintro e w1 ⟨a1, n1, c1, rfl, own1, hb1⟩
  obtain ⟨p0, p1, _, _, _⟩ := X0.out.keep hb1 X0.out.lt
  have X1 := Lib.hid (X0.out.keep hb1 X0.out.lt)
  have Hx1 := Lib.hid (Hx0.out.keep hb1)
  have HB1 := Lib.hid (HB0.out.trans (hb1.mono HB0.out.size))
  have HO1 := Lib.hid (HO0.out.keep hb1)
  have hz1 : g + 1 ≤ w1.heap.size := by have := hb1.size; omega
  have hn1 : n1 ≤ 64 := by have := own1.len; rw [up_len] at this; have := Hn1.out; omega
  have Hl1 : Hid (Lo.length = n1) := Lib.hid (by have := own1.len; rwa [up_len] at this)
  have HA1 : Hid (Own 3 w1 (g + 1) a1 n1 c1 (up Lo)) := Lib.hid (own1.mono (by omega))
  clear hb1 own1
  go_wp2_with fail
  refine (HC.out _ _ Hx1.out).mono ?_
  rw [← HHi.out]
  rintro e w2 ⟨a2, n2, c2, rfl, own2, hb2⟩
  have HB2 := Lib.hid (HB1.out.trans (hb2.mono HB1.out.size))
  have HO2 := Lib.hid (HO1.out.keep hb2)
  have HA2 := Lib.hid (HA1.out.keep hb2)
  have HD2 : Hid (Own 3 w2 (g + 1) a2 n2 c2 (up Hi)) := Lib.hid (own2.mono (by omega))
  have hz2 : g + 1 ≤ w2.heap.size := by have := hb2.size; omega
  have hn2 : n2 ≤ 64 := by have := own2.len; rw [up_len] at this; have := Hn2.out; omega
  have Hl2 : Hid (Hi.length = n2) := Lib.hid (by have := own2.len; rwa [up_len] at this)
  clear hb2 own2 p0 p1
  go_wp2_with fail
  go_loopw [5, 8, 9, 10] (fun o i _ _ wr => ∃ (I k1 : Nat) (ad : Option Addr), I ≤ n1 ∧ i = .int .i64 I ∧ o = .slice ad I k1 ∧ Own2 wr g wr.heap.size ad I k1 (L.take I) ∧ Below w.heap.size w wr ∧ Apt w2 wr g ∧ (∀ b, ad = some b → b.block = g ∨ w2.heap.size ≤ b.block)) (fun _ i _ _ _ => n1 - (intOf i).toNat)
  case atStart => exact ⟨0, 0, _, Nat.zero_le _, rfl, rfl, HO2.out.up (by omega), HB2.out, Apt.refl _ _, fun b hb => by cases hb; exact .inl rfl⟩
  case round =>
    obtain ⟨wo, rfl⟩ : ∃ x : World, x = wr := ⟨_, rfl⟩
    obtain ⟨I, k1, ad, hI, rfl, rfl, hown, hbl, hapt, hloc⟩ := hrel
    have HO := Lib.hid hown; have HBl := Lib.hid hbl; have HAp := Lib.hid hapt; have Hloc := Lib.hid hloc
    have hzo : w2.heap.size ≤ wo.heap.size := hapt.size
    clear hown hbl hapt hloc
    by_cases hlt : I < n1
    · have HA3 : Hid (Own 3 wo (g + 1) a1 n1 c1 (up Lo)) := Lib.hid (HAp.out.own HA2.out fun k hk => by have := HA2.out.lt k hk; omega)
      have HD3 : Hid (Own 3 wo (g + 1) a2 n2 c2 (up Hi)) := Lib.hid (HAp.out.own HD2.out fun k hk => by have := HD2.out.lt k hk; omega)
      obtain ⟨u, hu⟩ : ∃ u, u = nthN Lo I := ⟨_, rfl⟩
      have hu64 : u < 64 := by rw [hu]; exact HL1.out _ (nthN_mem2 (by rw [Hl1.out]; exact hlt))
      have Hu := Lib.hid hu
      have HLt : Hid (L.take (I + 1) = L.take I ++ [Hi.map fun t => sgnF u t]) := Lib.hid (by
        rw [nthL_take (by rw [HLl.out, Hl1.out]; exact hlt), HLa.out I (by rw [Hl1.out]; exact hlt), hu])
      have hI0 : (0 : Int) ≤ I := by omega
      have hIn : (I : Int) < n1 := by omega
      clear hu
      go_wp2_with fail
      go_loopw [9, 10] (fun r j wr => ∃ (J k2 : Nat) (ad1 : Option Addr), J ≤ n2 ∧ j = .int .i64 J ∧ r = .slice ad1 J k2 ∧ Own 3 wr wo.heap.size ad1 J k2 ((Hi.take J).map fun t => sgnF u t) ∧ Below wo.heap.size wo wr) (fun _ j _ => n2 - (intOf j).toNat)
      case atStart => exact ⟨0, 0, _, Nat.zero_le _, rfl, rfl, Own.empty _ _ _ (Nat.le_refl _), (by repeat (first | exact Below.refl _ _ | assumption | refine Below.setCell ?_ (by first | omega | (simp; done) | (simp; omega)) _ | refine Below.alloc ?_ (by first | omega | (simp; done) | (simp; omega)) _ | apply Below.drew))⟩
      case round =>
        obtain ⟨J, k2, ad1, hJ, rfl, rfl, hone, hb2⟩ := hrel
        have HO1 := Lib.hid hone; have HB2 := Lib.hid hb2
        have hzz : wo.heap.size ≤ wr.heap.size := hb2.size
        have hra := HA3.out.reads.keep hb2
        have hrd := HD3.out.reads.keep hb2
        clear hone hb2
        by_cases hltJ : J < n2
        · obtain ⟨b1, o1, rfl, hc1⟩ := hra.cells (by omega)
          have hb1o := (HA3.out.lt b1 rfl).2
          have hx := hc1 I hlt
          obtain ⟨b3, o3, rfl, hc3⟩ := hrd.cells (by omega)
          have hb3o := (HD3.out.lt b3 rfl).2
          have hy := hc3 J hltJ
          rw [nth_up] at hx hy
          rw [← Hu.out] at hx
          obtain ⟨t, ht⟩ : ∃ t, t = nthN Hi J := ⟨_, rfl⟩
          have ht64 : t < 64 := by rw [ht]; exact HL2.out _ (nthN_mem2 (by rw [Hl2.out]; exact hltJ))
          rw [← ht] at hy
          have Htj : Hid ((Hi.take (J + 1)).map (fun t => sgnF u t) = (Hi.take J).map (fun t => sgnF u t) ++ [sgnF u t]) := Lib.hid (by
            rw [List.take_succ_eq_append_getElem (by rw [Hl2.out]; exact hltJ), List.map_append, ht, nthN_at2 (by rw [Hl2.out]; exact hltJ)]; rfl)
          have HS : Hid (∀ W, Calls Tryz.prog 190 #[.int .i64 u, .int .i64 t] W fun e w' => e = .returned (.int .i64 (sgnF u t)) ∧ w' = W) := Lib.hid fun W => (l13Sign_any u t W hu64 ht64).mono fun e w' h => ⟨h.1, h.2.symm⟩
          obtain ⟨y, hye⟩ : ∃ y, y = sgnF u t := ⟨_, rfl⟩
          rw [← hye] at HS Htj
          have hJ0 : (0 : Int) ≤ J := by omega
          have hJn : (J : Int) < n2 := by omega
          clear hc1 hc3 hra hrd ht hye
          have HW : Hid (∀ V, Below wo.heap.size wo V → V.cell? ⟨b1, o1 + I, none⟩ = some (.int .i64 u) ∧ V.cell? ⟨b3, o3 + J, none⟩ = some (.int .i64 t)) := Lib.hid fun V hV => ⟨by rw [← hx, World.cell?_of_block (a := ⟨b1, o1 + I, none⟩) ((hV.block b1 hb1o).trans (HB2.out.block b1 hb1o).symm)], by rw [← hy, World.cell?_of_block (a := ⟨b3, o3 + J, none⟩) ((hV.block b3 hb3o).trans (HB2.out.block b3 hb3o).symm)]⟩
          have HOa : Hid (Own 3 (wr.drew.alloc (.cells #[.int .i64 y] 3)) wo.heap.size ad1 J k2 ((Hi.take J).map fun t => sgnF u t)) := Lib.hid (HO1.out.drew.alloc _)
          have HYa := Lib.hid (IntsAt.one wr.drew y 3)
          have HBa : Hid (Below wo.heap.size wo (wr.drew.alloc (.cells #[.int .i64 y] 3))) := Lib.hid (HB2.out.drew.alloc hzz _)
          go_wp2_with fail
          go_region_held3 (fun W => W.cell? ⟨b1, o1 + I, none⟩ = some (.int .i64 u) ∧ W.cell? ⟨b3, o3 + J, none⟩ = some (.int .i64 t))
            (first | exact ⟨hx, hy⟩ | exact ⟨y0, y1⟩ | go_keep)
            (first
              | (go_simp; go_at_call 190; (with_reducible refine (HS.out _).mono ?_); rintro e w4 ⟨rfl, rfl⟩)
              | (refine step_ap rfl _ _ rfl wo.heap.size _ _ _ _ rfl HOa.out _ _ _ _ rfl HYa.out (Fit.one _) (by omega) HBa.out.size ?_; intro ad5 d5 w5 hown5 hb5; have HO5 := Lib.hid hown5; have HB5 := Lib.hid (HBa.out.trans hb5); obtain ⟨y0, y1⟩ := HW.out _ HB5.out; clear hown5 hb5))
          all_goals (go_wp2_with fail)
          go_roundw
          case rel => exact ⟨J + 1, d5, ad5, by omega, by go_num, rfl, by rw [Htj.out]; exact HO5.out, HB5.out⟩
          case measure => simp [intOf]; omega
        · obtain rfl : J = n2 := by omega
          have hJJ : ¬ ((J : Int) < J) := by omega
          have HOn : Hid (Own 3 wr wo.heap.size ad1 J k2 (Hi.map fun t => sgnF u t)) := Lib.hid (by have := HO1.out; rwa [List.take_of_length_le (by rw [Hl2.out]; exact Nat.le_refl _)] at this)
          have HOk := Lib.hid (HO.out.keep HB2.out)
          have hgo : g ≤ wo.heap.size := by omega
          go_wp2_with (at_builtin; refine ap_own rfl _ _ rfl g wo.heap.size _ _ _ _ _ _ _ _ rfl HOk.out HOn.out rfl (by omega) hgo (by omega) ?_; intro ad6 d6 w6 hown6 hb6 hg6 hl6; have HO6 := Lib.hid hown6; have HB6 := Lib.hid ((HBl.out.trans (HB2.out.mono (by omega))).trans (hb6.mono (by omega))); have HA6 := Lib.hid ((HAp.out.keep HB2.out).grown hg6 fun k hk => by obtain ⟨d, hd1, hd2⟩ := ownBlock_some hk; have := Hloc.out d hd1; omega); have HL6 : Hid (∀ b, ad6 = some b → b.block = g ∨ w2.heap.size ≤ b.block) := Lib.hid fun b hb => (hl6 b hb).elim (fun ⟨d, hd1, hd2⟩ => by have := Hloc.out d hd1; omega) (fun h => .inr (by omega)); clear hown6 hb6 hg6 hl6)
          go_roundw
          case rel => exact ⟨I + 1, d6, ad6, by omega, by go_num, rfl, by rw [HLt.out]; exact HO6.out, HB6.out, HA6.out, HL6.out⟩
          case measure => simp [intOf]; omega
    · obtain rfl : I = n1 := by omega
      have hII : ¬ ((I : Int) < I) := by omega
      have HOf : Hid (Own2 wo g wo.heap.size ad I k1 L) := Lib.hid (by have := HO.out; rwa [List.take_of_length_le (by rw [HLl.out, Hl1.out]; exact Nat.le_refl _)] at this)
      go_wp2_with fail
      go_ret
      exact ⟨_, I, k1, rfl, HOf.out.mono (by rw [Hg.out]; omega), HBl.out⟩
end Go.Proofs.YtihfhfihladlcaaGreatDoor

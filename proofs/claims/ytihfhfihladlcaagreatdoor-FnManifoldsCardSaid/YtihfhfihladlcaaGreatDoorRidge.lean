/- Ridges of a complex and how many facets contain each: RidgeCounts of the reference. -/
import Derived.Deep.RegionHeld3
import Derived.BigQuiet
import Derived.Test.YtihfhfihladlcaaGreatDoorCore
import Derived.Test.YtihfhfihladlcaaGreatDoorFaces3
import Derived.Test.YtihfhfihladlcaaGreatDoorMono3
import Derived.Test.YtihfhfihladlcaaGreatDoorTopo3
namespace Go.Proofs.YtihfhfihladlcaaGreatDoor
set_option maxRecDepth 20000
open Go.RowKit
set_option linter.unusedSimpArgs false
set_option linter.unusedVariables false

/-- how many of the first k have q -/
def cntTo (q : Nat → Bool) (l : List Nat) (k : Nat) : Nat := ((l.take k).filter q).length
theorem cntTo_succ {q : Nat → Bool} {l : List Nat} {k : Nat} (hk : k < l.length) : cntTo q l (k + 1) = cntTo q l k + (if q (nthN l k) then 1 else 0) := by
  unfold cntTo
  rw [List.take_succ_eq_append_getElem hk, List.filter_append, List.length_append, nthN_at2 hk]
  congr 1
  by_cases h : q l[k] = true
  · simp [h]
  · simp [h]
theorem cntTo_all (q : Nat → Bool) (l : List Nat) : cntTo q l l.length = (l.filter q).length := by unfold cntTo; rw [List.take_length]
theorem cntTo_le (q : Nat → Bool) (l : List Nat) (k : Nat) : cntTo q l k ≤ k := by
  unfold cntTo
  exact Nat.le_trans (List.length_filter_le _ _) (by rw [List.length_take]; omega)
/-- the facet f is one of T - 1 points that contains r -/
def isR (T r f : Nat) : Bool := sub r f && sz f + 1 == T
def cof (l : List Nat) (T r : Nat) : Nat := (l.filter (isR T r)).length
/-- the ridges -/
def rds (l : List Nat) (T : Nat) : List Nat := lvlTo (isFace l) 64 (T - 2)
def rdg (l : List Nat) (T : Nat) : List Nat := (rds l T).map (cof l T)
theorem rds_lt (l : List Nat) (T : Nat) : ∀ r ∈ rds l T, r < 64 := fun r hr => (mem_lvl2.1 hr).1
theorem rds_len (l : List Nat) (T : Nat) : (rds l T).length ≤ 64 := lvl_len _ _ _
theorem topTo_nil : topTo (isFace []) 64 = 0 := by decide +kernel
theorem top_pos {l : List Nat} {T : Nat} (hT : topTo (isFace l) 64 = T) (h : 1 ≤ T) : 0 < l.length := by
  cases l with
  | nil => rw [topTo_nil] at hT; omega
  | cons a r => simp
set_option maxHeartbeats 1000000 in
theorem sRidges_yes (p : Int) (a : Option Addr) (n c : Nat) (l : List Nat) (T : Nat) (w : World) (h : IntsAt w a n (up l)) (hA : Anti p (up l)) (hl : ∀ t ∈ l, t < 64) (hs : l.Pairwise fun a b => rank a < rank b) (hT : topTo (isFace l) 64 = T) (h2 : 2 ≤ T) :
    Calls Tryz.prog 150 #[.agg #[.int .i64 p, .slice a n c]] w (RetInts w (up (rds l T))) := by
  have hn : 0 < n := by have := top_pos hT (by omega); have := h.len; rw [up_len] at this; omega
  have HDm : Hid (∀ W, IntsAt W a n (up l) → Calls Tryz.prog 78 #[.agg #[.int .i64 p, .slice a n c]] W fun e w' => e = .returned (.int .i64 ((T : Int) - 2)) ∧ Below W.heap.size W w') := Lib.hid fun W hW => by rw [← hT]; exact sDim_yes p a n c l W hW hA hl hs hn
  have HC : Hid (∀ W, IntsAt W a n (up l) → Calls Tryz.prog 189 #[.agg #[.int .i64 p, .slice a n c], .int .i64 ((T : Int) - 2)] W (RetInts W (up (rds l T)))) := Lib.hid fun W hW => by
    have := sOfSize_yes p a n c l ((T : Int) - 2) W hW hA hl
    unfold ofSize at this
    rw [if_neg (by omega), show ((T : Int) - 2).toNat = T - 2 by omega] at this
    exact this
  obtain ⟨w0, hw0⟩ : ∃ w0, w0 = w.alloc (.cells #[.int .i64 p, .slice a n c] 32) := ⟨_, rfl⟩
  have X0 : Hid (BoxF w0 w.heap.size (.int .i64 p) (.slice a n c)) := Lib.hid (by rw [hw0]; exact BoxF.new _ _ _ _)
  have HB0 : Hid (Below w.heap.size w w0) := Lib.hid (by rw [hw0]; exact (by repeat (first | exact Below.refl _ _ | assumption | refine Below.setCell ?_ (by first | omega | (simp; done) | (simp; omega)) _ | refine Below.alloc ?_ (by first | omega | (simp; done) | (simp; omega)) _ | apply Below.drew)))
  have Hx0 : Hid (IntsAt w0 a n (up l)) := Lib.hid (h.keep HB0.out)
  have HW0 := Lib.hid hw0
  obtain ⟨p0, p1, _, _, _⟩ := X0.out
  clear h hA hl hs hT hw0 hn
  go_enter Tryz.func150, Tryz.ntmps150
  go_wp2_with fail
  rw [← HW0.out]
  have SX := Lib.hid (X0.out.keep (W' := w0.drew) (Below.refl _ _).drew X0.out.lt)
  have SI := Lib.hid (Hx0.out.keep (w' := w0.drew) (Below.refl _ _).drew)
  have SB := Lib.hid (HB0.out.drew)
  go_region_held3 (fun W => W.cell? ⟨w.heap.size, 0, none⟩ = some (.int .i64 p) ∧ W.cell? ⟨w.heap.size, 1, none⟩ = some (.slice a n c)) (first | exact ⟨p0, p1⟩ | exact ⟨SX.out.c0, SX.out.c1⟩ | go_keep) (first
    | (go_simp; go_at_call 78; (with_reducible refine (HDm.out _ SI.out).mono ?_); rintro e w6 ⟨rfl, hb6⟩; have SX := Lib.hid (SX.out.keep hb6 SX.out.lt); have SI := Lib.hid (SI.out.keep hb6); have SB := Lib.hid (SB.out.trans (hb6.mono SB.out.size)); clear hb6)
    | (go_simp; go_at_call 189; (with_reducible refine (HC.out _ SI.out).mono ?_); rintro e w6 ⟨ad, m, d, rfl, own, hb6⟩; have SX := Lib.hid (SX.out.keep hb6 SX.out.lt); have HO := Lib.hid (Own.mono own SB.out.size); have SB := Lib.hid (SB.out.trans (hb6.mono SB.out.size)); clear hb6 own))
  all_goals (go_wp2_with fail; go_ret)
  all_goals exact ⟨ad, m, d, rfl, HO.out, SB.out⟩
theorem sRC_stop (p : Int) (a : Option Addr) (n c : Nat) (xs : List Int) (d : Int) (w : World) (h : IntsAt w a n xs) (hd : d < 0)
    (hD : ∀ W, IntsAt W a n xs → Calls Tryz.prog 78 #[.agg #[.int .i64 p, .slice a n c]] W fun e w' => e = .returned (.int .i64 d) ∧ Below W.heap.size W w') :
    Calls Tryz.prog 69 #[.agg #[.int .i64 p, .slice a n c]] w (RetInts w []) := by
  obtain ⟨g, hg⟩ : ∃ g, g = w.heap.size + 1 := ⟨_, rfl⟩
  obtain ⟨w0, hw0⟩ : ∃ w0, w0 = (w.alloc (.cells #[.int .i64 p, .slice a n c] 32)).alloc (.cells #[] 3) := ⟨_, rfl⟩
  have HB0 : Hid (Below w.heap.size w w0) := Lib.hid (by rw [hw0]; exact (by repeat (first | exact Below.refl _ _ | assumption | refine Below.setCell ?_ (by first | omega | (simp; done) | (simp; omega)) _ | refine Below.alloc ?_ (by first | omega | (simp; done) | (simp; omega)) _ | apply Below.drew)))
  have Hx0 : Hid (IntsAt w0 a n xs) := Lib.hid (h.keep HB0.out)
  have HO0 : Hid (Own 3 w0 g (some ⟨g, 0, none⟩) 0 0 []) := Lib.hid (by
    have h1 : (w.alloc (.cells #[.int .i64 p, .slice a n c] 32)).heap.size = g := by rw [hg]; simp
    have := Own.empty 3 (w.alloc (.cells #[.int .i64 p, .slice a n c] 32)) g (by omega)
    rw [h1] at this
    rw [hw0]; exact this)
  have HD := Lib.hid hD; have HW0 := Lib.hid hw0; have Hg := Lib.hid hg
  have hgw : w.heap.size ≤ g := by omega
  clear h hD hw0 hg
  go_enter Tryz.func69, Tryz.ntmps69
  go_wp2_with fail
  rw [← HW0.out]
  rw [← Hg.out]
  refine (HD.out _ Hx0.out).mono ?_
  rintro e w1 ⟨rfl, hb1⟩
  have HB1 := Lib.hid (HB0.out.trans (hb1.mono HB0.out.size))
  have HO1 := Lib.hid (HO0.out.keep hb1)
  clear hb1
  go_wp2_with fail
  go_ret
  exact ⟨_, 0, 0, rfl, HO1.out.mono hgw, HB1.out⟩
set_option maxRecDepth 100000 in
set_option maxHeartbeats 2000000 in
theorem sRC_yes (p : Int) (a : Option Addr) (n c : Nat) (l : List Nat) (T : Nat) (w : World) (h : IntsAt w a n (up l)) (hA : Anti p (up l)) (hl : ∀ t ∈ l, t < 64) (hs : l.Pairwise fun a b => rank a < rank b) (hT : topTo (isFace l) 64 = T) (h2 : 2 ≤ T) :
    Calls Tryz.prog 69 #[.agg #[.int .i64 p, .slice a n c]] w (RetInts w (up (rdg l T))) := by
  have hn : 0 < n := by have := top_pos hT (by omega); have := h.len; rw [up_len] at this; omega
  have hT7 : T ≤ 7 := by rw [← hT]; exact topTo_le _ _
  have Hln : Hid (l.length = n) := Lib.hid (by have := h.len; rwa [up_len] at this)
  have HDm : Hid (∀ W, IntsAt W a n (up l) → Calls Tryz.prog 78 #[.agg #[.int .i64 p, .slice a n c]] W fun e w' => e = .returned (.int .i64 ((T : Int) - 2)) ∧ Below W.heap.size W w') := Lib.hid fun W hW => by rw [← hT]; exact sDim_yes p a n c l W hW hA hl hs hn
  have HC : Hid (∀ W, IntsAt W a n (up l) → Calls Tryz.prog 150 #[.agg #[.int .i64 p, .slice a n c]] W (RetInts W (up (rds l T)))) := Lib.hid fun W hW => sRidges_yes p a n c l T W hW hA hl hs hT h2
  have hsm := h.small
  have Hx := Lib.hid h; have Hl := Lib.hid hl
  obtain ⟨R, hR⟩ : ∃ R, R = rds l T := ⟨_, rfl⟩
  have HR6 : Hid (∀ r ∈ R, r < 64) := Lib.hid (by rw [hR]; exact rds_lt l T)
  have HRn : Hid (R.length ≤ 64) := Lib.hid (by rw [hR]; exact rds_len l T)
  have Hgoal : Hid (rdg l T = R.map (cof l T)) := Lib.hid (by rw [hR]; rfl)
  rw [← hR] at HC
  obtain ⟨g, hg⟩ : ∃ g, g = w.heap.size + 1 := ⟨_, rfl⟩
  obtain ⟨w0, hw0⟩ : ∃ w0, w0 = (w.alloc (.cells #[.int .i64 p, .slice a n c] 32)).alloc (.cells #[] 3) := ⟨_, rfl⟩
  have hz0 : w0.heap.size = g + 1 := by rw [hw0, hg]; simp
  have HB0 : Hid (Below w.heap.size w w0) := Lib.hid (by rw [hw0]; exact (by repeat (first | exact Below.refl _ _ | assumption | refine Below.setCell ?_ (by first | omega | (simp; done) | (simp; omega)) _ | refine Below.alloc ?_ (by first | omega | (simp; done) | (simp; omega)) _ | apply Below.drew)))
  have X0 : Hid (BoxF w0 w.heap.size (.int .i64 p) (.slice a n c)) := Lib.hid (by rw [hw0]; exact (BoxF.new _ _ _ _).alloc _)
  have HO0 : Hid (Own 3 w0 g (some ⟨g, 0, none⟩) 0 0 []) := Lib.hid (by
    have h1 : (w.alloc (.cells #[.int .i64 p, .slice a n c] 32)).heap.size = g := by rw [hg]; simp
    have := Own.empty 3 (w.alloc (.cells #[.int .i64 p, .slice a n c] 32)) g (by omega)
    rw [h1] at this
    rw [hw0]; exact this)
  have HW0 := Lib.hid hw0; have Hg := Lib.hid hg
  have hgw : w.heap.size ≤ g := by omega
  have hne : w.heap.size ≠ g := by omega
  have hT0 : ¬ ((T : Int) - 2 < 0) := by omega
  clear h hA hl hs hT hw0 hg hn hR
  go_enter Tryz.func69, Tryz.ntmps69
  go_wp2_with fail
  rw [← HW0.out]
  rw [← Hg.out]
  refine (HDm.out _ (Hx.out.keep HB0.out)).mono ?_
  rintro e w1 ⟨rfl, hb1⟩
  have HB1 := Lib.hid (HB0.out.trans (hb1.mono HB0.out.size))
  have HO1 := Lib.hid (HO0.out.keep hb1)
  have X1 := Lib.hid (X0.out.keep hb1 X0.out.lt)
  have hz1 : g + 1 ≤ w1.heap.size := by have := hb1.size; omega
  clear hb1
  obtain ⟨p0, p1, _, _, _⟩ := X1.out
  go_wp2_with fail
  refine (HC.out _ (Hx.out.keep HB1.out)).mono ?_
  rintro e w2 ⟨aR, nR, cR, rfl, ownR, hb2⟩
  have HB2 := Lib.hid (HB1.out.trans (hb2.mono HB1.out.size))
  have HO2 := Lib.hid (HO1.out.keep hb2)
  have X2 := Lib.hid (X1.out.keep hb2 X1.out.lt)
  have hz2 : g + 1 ≤ w2.heap.size := by have := hb2.size; omega
  have HR2 : Hid (Own 3 w2 (g + 1) aR nR cR (up R)) := Lib.hid (ownR.mono hz1)
  have HRl : Hid (R.length = nR) := Lib.hid (by have := ownR.len; rwa [up_len] at this)
  have hnR : nR ≤ 64 := by have := HRn.out; have := HRl.out; omega
  have G2 : Hid (Grow w2 g w2 (some ⟨g, 0, none⟩) 0 0 []) := Lib.hid (Grow.start HO2.out (by omega))
  clear hb2 ownR p0 p1
  go_wp2_with fail
  go_loopw [3, 5, 6, 7] (fun o i _ _ wr => ∃ (I k1 : Nat) (ad : Option Addr), I ≤ nR ∧ i = .int .i64 I ∧ o = .slice ad I k1 ∧ Grow w2 g wr ad I k1 (up ((R.take I).map (cof l T)))) (fun _ i _ _ _ => nR - (intOf i).toNat)
  case atStart => exact ⟨0, 0, _, Nat.zero_le _, rfl, rfl, G2.out⟩
  case round =>
    obtain ⟨wo, rfl⟩ : ∃ x : World, x = wr := ⟨_, rfl⟩
    obtain ⟨I, k1, ad, hI, rfl, rfl, hgr⟩ := hrel
    have HGr := Lib.hid hgr
    clear hgr
    by_cases hlt : I < nR
    · have HR3 : Hid (Own 3 wo (g + 1) aR nR cR (up R)) := Lib.hid (HGr.out.apt.own HR2.out fun k hk => by have := HR2.out.lt k hk; omega)
      have X3 : Hid (BoxF wo w.heap.size (.int .i64 p) (.slice a n c)) := Lib.hid (HGr.out.apt.box X2.out hne)
      have HB3 : Hid (Below w.heap.size w wo) := Lib.hid (HB2.out.trans (HGr.out.below hgw))
      obtain ⟨r, hr⟩ : ∃ r, r = nthN R I := ⟨_, rfl⟩
      have hr64 : r < 64 := by rw [hr]; exact HR6.out _ (nthN_mem2 (by rw [HRl.out]; exact hlt))
      have Hr := Lib.hid hr
      have HRt : Hid (up ((R.take (I + 1)).map (cof l T)) = up ((R.take I).map (cof l T)) ++ [((cof l T r : Nat) : Int)]) := Lib.hid (by
        rw [List.take_succ_eq_append_getElem (by rw [HRl.out]; exact hlt), List.map_append, hr, nthN_at2 (by rw [HRl.out]; exact hlt)]; simp [up])
      have hI0 : (0 : Int) ≤ I := by omega
      have hIn : (I : Int) < nR := by omega
      clear hr
      go_wp2_with fail
      go_loopw [6, 7] (fun v j wr => ∃ J : Nat, J ≤ n ∧ j = .int .i64 J ∧ v = .int .i64 (cntTo (isR T r) l J) ∧ Below wo.heap.size wo wr) (fun _ j _ => n - (intOf j).toNat)
      case atStart => exact ⟨0, Nat.zero_le _, rfl, rfl, Below.refl _ _⟩
      case round =>
        obtain ⟨J, hJ, rfl, rfl, hbr⟩ := hrel
        have HBr := Lib.hid hbr
        have X4 := Lib.hid (X3.out.keep hbr X3.out.lt)
        have HR4 := Lib.hid (HR3.out.keep hbr)
        have Hx4 := Lib.hid (Hx.out.keep (HB3.out.trans (hbr.mono HB3.out.size)))
        clear hbr
        obtain ⟨p0, p1, _, _, _⟩ := X4.out
        by_cases hltJ : J < n
        · obtain ⟨b1, o1, rfl, hc1⟩ := Hx4.out.cells (by omega)
          have hx := hc1 J hltJ
          obtain ⟨b3, o3, rfl, hc3⟩ := HR4.out.reads.cells (by omega)
          have hy := hc3 I hlt
          rw [nth_up] at hx hy
          rw [← Hr.out] at hy
          obtain ⟨f, hf⟩ : ∃ f, f = nthN l J := ⟨_, rfl⟩
          have hf64 : f < 64 := by rw [hf]; exact Hl.out _ (nthN_mem2 (by rw [Hln.out]; exact hltJ))
          rw [← hf] at hx
          have Hnx : Hid (cntTo (isR T r) l (J + 1) = cntTo (isR T r) l J + (if isR T r f then 1 else 0)) := Lib.hid (by rw [cntTo_succ (by rw [Hln.out]; exact hltJ), ← hf])
          have hcle := cntTo_le (isR T r) l J
          obtain ⟨K, hK⟩ : ∃ K, K = cntTo (isR T r) l J := ⟨_, rfl⟩
          rw [← hK] at Hnx hcle ⊢
          have hand := w_and f r hf64 hr64
          have hst : (((f &&& r : Nat) : Int) == (r : Int)) = sub r f := by rw [castBeq]; unfold sub; rw [Nat.and_comm]
          have hz6 := sz_le f
          have HS : Hid (∀ W, Calls Tryz.prog 138 #[.int .i64 f] W fun e w' => e = .returned (.int .i64 (sz f)) ∧ W = w') := Lib.hid fun W => l2Size_any f W hf64
          obtain ⟨z, hz⟩ : ∃ z, z = sz f := ⟨_, rfl⟩
          rw [← hz] at HS hz6
          have hJ0 : (0 : Int) ≤ J := by omega
          have hJn : (J : Int) < n := by omega
          have Hz := Lib.hid hz
          clear hc1 hc3 hf hK hz
          cases hsb : sub r f
          · rw [hsb] at hst
            have HB1 : Hid (∀ W, Calls Tryz.prog 151 #[.bool false] W fun e w' => e = .returned (.int .i64 0) ∧ W = w') := Lib.hid fun W => l1Bit9 false W
            have Hv : Hid (cntTo (isR T r) l (J + 1) = K) := Lib.hid (by rw [Hnx.out]; unfold isR; rw [hsb]; rfl)
            clear hsb
            go_wp2_with fail
            go_quiet (first | (go_at_call 151; with_reducible exact ql (HB1.out _)))
            go_wp2_with fail
            go_roundw
            case rel => exact ⟨J + 1, by omega, by go_num, by rw [Hv.out], below_drewN HBr.out _⟩
            case measure => simp [intOf]; omega
          · rw [hsb] at hst
            have SX := Lib.hid (X4.out.keep (W' := wr.drew) (Below.refl _ _).drew X4.out.lt)
            have SR := Lib.hid (HR4.out.keep (w' := wr.drew) (Below.refl _ _).drew)
            have SI := Lib.hid (Hx4.out.keep (w' := wr.drew) (Below.refl _ _).drew)
            have SB := Lib.hid (HBr.out.drew)
            have HY : Hid (∀ W, Below wr.heap.size wr W → W.cell? ⟨b1, o1 + J, none⟩ = some (.int .i64 f) ∧ W.cell? ⟨b3, o3 + I, none⟩ = some (.int .i64 r)) := Lib.hid fun W hW => ⟨(hW.cell (World.block_lt_of_cell? _ _ hx)).trans hx, (hW.cell (World.block_lt_of_cell? _ _ hy)).trans hy⟩
            have hwr : Below wr.heap.size wr wr.drew := (Below.refl _ _).drew
            have SW := Lib.hid hwr
            clear hwr
            have hwT : IntKind.i64.wrap ((T : Int) - 2 + 1) = (T : Int) - 2 + 1 := IntWalk.i64_in _ (by omega)
            have hq0 : (((z : Nat) : Int) == (T : Int) - 2 + 1) = decide (z + 1 = T) := by
              rw [Bool.eq_iff_iff]; simp; omega
            obtain ⟨q, hq⟩ : ∃ q, q = decide (z + 1 = T) := ⟨_, rfl⟩
            obtain ⟨v, hv⟩ : ∃ v : Nat, v = if q then 1 else 0 := ⟨_, rfl⟩
            have hv1 : v ≤ 1 := by rw [hv]; split <;> omega
            have HBt : Hid (∀ W, Calls Tryz.prog 151 #[.bool q] W fun e w' => e = .returned (.int .i64 v) ∧ W = w') := Lib.hid fun W => by
              have := l1Bit9 q W
              rw [show (if q = true then (1 : Int) else 0) = (v : Int) by rw [hv]; split <;> rfl] at this
              exact this
            have Hv : Hid (cntTo (isR T r) l (J + 1) = K + v) := Lib.hid (by rw [Hnx.out, hv, hq]; unfold isR; rw [hsb, Hz.out]; rfl)
            rw [← hq] at hq0
            clear hv
            have hwK : IntKind.i64.wrap ((K : Int) + v) = (K : Int) + v := IntWalk.i64_in _ (by omega)
            clear hq hsb
            go_wp2_with fail
            go_region_held3 (fun W => W.cell? ⟨w.heap.size, 0, none⟩ = some (.int .i64 p) ∧ W.cell? ⟨w.heap.size, 1, none⟩ = some (.slice (some ⟨b1, o1, none⟩) n c) ∧ W.cell? ⟨b1, o1 + J, none⟩ = some (.int .i64 f) ∧ W.cell? ⟨b3, o3 + I, none⟩ = some (.int .i64 r)) (first | exact ⟨p0, p1, hx, hy⟩ | exact ⟨SX.out.c0, SX.out.c1, HY.out _ SW.out⟩ | go_keep) (first
              | (go_simp; go_at_call 138; (with_reducible refine (HS.out _).mono ?_); rintro e w6 ⟨rfl, rfl⟩)
              | (go_simp; go_at_call 151; (with_reducible refine (HBt.out _).mono ?_); rintro e w6 ⟨rfl, rfl⟩)
              | (go_simp; go_at_call 78; (with_reducible refine (HDm.out _ SI.out).mono ?_); rintro e w6 ⟨rfl, hb6⟩; have SX := Lib.hid (SX.out.keep hb6 SX.out.lt); have SI := Lib.hid (SI.out.keep hb6); have SW := Lib.hid (SW.out.trans (hb6.mono SW.out.size)); have SB := Lib.hid (SB.out.trans (hb6.mono SB.out.size)); clear hb6))
            all_goals (go_wp2_with fail)
            go_roundw
            case rel => exact ⟨J + 1, by omega, by go_num, by rw [Hv.out]; go_num, SB.out⟩
            case measure => simp [intOf]; omega
        · obtain rfl : J = n := by omega
          have hJJ : ¬ ((J : Int) < J) := by omega
          have Hcf : Hid (cntTo (isR T r) l J = cof l T r) := Lib.hid (by rw [← Hln.out, cntTo_all]; rfl)
          obtain ⟨K, hK⟩ : ∃ K, K = cntTo (isR T r) l J := ⟨_, rfl⟩
          rw [← hK] at Hcf ⊢
          have HGk := Lib.hid (HGr.out.keep HBr.out)
          clear hK
          go_wp2_with (at_builtin; refine ap_grow rfl _ _ rfl g _ _ _ _ _ rfl HGk.out rfl (by omega) ?_; intro ad6 d6 w6 hg6; have HG6 := Lib.hid hg6; clear hg6)
          go_roundw
          case rel => exact ⟨I + 1, d6, ad6, by omega, by go_num, rfl, by rw [HRt.out, ← Hcf.out]; exact HG6.out⟩
          case measure => simp [intOf]; omega
    · obtain rfl : I = nR := by omega
      have hII : ¬ ((I : Int) < I) := by omega
      have HOf : Hid (Own 3 wo g ad I k1 (up (rdg l T))) := Lib.hid (by have := HGr.out.own; rwa [List.take_of_length_le (by rw [HRl.out]; exact Nat.le_refl _), ← Hgoal.out] at this)
      go_wp2_with fail
      go_ret
      exact ⟨_, I, k1, rfl, HOf.out.mono hgw, HB2.out.trans (HGr.out.below hgw)⟩
end Go.Proofs.YtihfhfihladlcaaGreatDoor

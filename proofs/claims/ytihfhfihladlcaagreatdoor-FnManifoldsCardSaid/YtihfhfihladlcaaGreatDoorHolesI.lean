/- rankOf, holesIn and HolesMod of the program. -/
import Derived.Deep.RegionHeld3
import Derived.Test.YtihfhfihladlcaaGreatDoorFaces3
import Derived.Test.YtihfhfihladlcaaGreatDoorFlip
import Derived.Test.YtihfhfihladlcaaGreatDoorHoles
import Derived.Test.YtihfhfihladlcaaGreatDoorRedI
import Derived.Test.YtihfhfihladlcaaGreatDoorTopo3
namespace Go.Proofs.YtihfhfihladlcaaGreatDoor
set_option maxRecDepth 20000
open Go.RowKit
set_option linter.unusedSimpArgs false
set_option linter.unusedVariables false

theorem Grid.mono {w : World} {B B' g n : Nat} {f : Nat → Sl} {L : Nat → List Int} (h : Grid w B g n f L) (hB : B' ≤ B) : Grid w B' g n f L := ⟨h.row.mono hB, fun i hi => (h.own i hi).mono hB, h.far, h.apart⟩
set_option maxHeartbeats 2000000 in
/-- the rank of a made matrix -/
theorem rank_any (g m N p : Nat) (f : Nat → Sl) (v : Nat → Nat → Int) (w : World) (B : Nat) (h : Grid w B g m f (fun i => mkL N (v i))) (hp : Prm p) (hm0 : 0 < m) (hm : m ≤ 64) (hN0 : 0 < N) (hN : N ≤ 64)
    (hb : ∀ i, i < m → ∀ j, j < N → -1000 ≤ v i j ∧ v i j ≤ 1000) (K : Nat) (hK : rankR p m N (fun i => mkL N fun j => v i j % (p : Int)) = K) :
    Calls Tryz.prog 213 #[.slice (some ⟨g, 0, none⟩) m m, .int .i64 p] w fun e w' => e = .returned (.int .i64 K) ∧ Below w.heap.size w w' := by
  obtain ⟨hp2, hp5⟩ := prm_bd hp
  have hK64 : K ≤ 64 := by
    rw [← hK]
    refine Nat.le_trans (dim_rank hp fun i hi j hj => ?_).1 hN
    rw [nth_mkL, if_pos hj]
    exact ⟨Int.emod_nonneg _ (by omega), Int.emod_lt_of_pos _ (by omega)⟩
  obtain ⟨L, hL⟩ : ∃ L : List (List Int), L = (List.range m).map fun i => mkL N (v i) := ⟨_, rfl⟩
  have hLl : L.length = m := by rw [hL]; simp
  have hLa : ∀ i, i < m → nthL L i = mkL N (v i) := fun i hi => by
    rw [nthL_at (by rw [hLl]; exact hi)]
    simp only [hL, List.getElem_map, List.getElem_range]
  have hrd : RowsAt w (some ⟨g, 0, none⟩) m L := by
    refine ⟨f, hLl, by omega, fun _ => ⟨g, 0, rfl, fun i hi => by rw [Nat.zero_add]; exact h.cell hi⟩, fun i hi => ?_⟩
    rw [hLa i hi]; exact (h.own i hi).reads
  have HMod : Hid (∀ W, Below w.heap.size w W → Calls Tryz.prog 220 #[.slice (some ⟨g, 0, none⟩) m m, .int .i64 p] W (RetMx W m N fun i j => nth (nthL L i) j % (p : Int))) := Lib.hid fun W hW =>
    modMat_any _ m m N p L W (hrd.keep hW) hp hm0 hm hN (fun i hi => by rw [hLa i hi, mkL_len]) (fun i hi j hj => by rw [hLa i hi, nth_mkL, if_pos hj]; exact hb i hi j hj)
  have HRed : Hid (∀ (W : World) (g2 : Nat) (f2 : Nat → Sl) (B2 : Nat), Grid W B2 g2 m f2 (fun i => mkL N fun j => nth (nthL L i) j % (p : Int)) → B2 ≤ W.heap.size → Calls Tryz.prog 219 #[.slice (some ⟨g2, 0, none⟩) m m, .int .i64 N, .int .i64 p] W fun e w' => ∃ ad c2, e = .returned (.slice ad K c2) ∧ Below B2 W w') := Lib.hid fun W g2 f2 B2 hG hB2 => by
    have := reduce_any g2 m N p f2 (fun i => mkL N fun j => v i j % (p : Int)) W B2 W.heap.size (hG.mx.congr fun i hi => by rw [hLa i hi]; exact mkL_congr fun j hj => by rw [nth_mkL, if_pos hj]) hp hm0 hm hN hB2 (Nat.le_refl _) (fun i hi => mkL_len _ _) (fun i hi j hj => by rw [nth_mkL, if_pos hj]; exact ⟨Int.emod_nonneg _ (by omega), Int.emod_lt_of_pos _ (by omega)⟩)
    rwa [hK] at this
  have hc0 := h.cell hm0
  have hgl := h.glt.2
  have hlen0 := (h.own 0 hm0).len
  rw [mkL_len] at hlen0
  obtain ⟨⟨a0, n0, c0⟩, hf0⟩ : ∃ x, x = f 0 := ⟨_, rfl⟩
  rw [← hf0] at hc0 hlen0
  simp only [Sl.val] at hc0 hlen0
  subst hlen0
  have hmz : ((m : Int) == 0) = false := by simp; omega
  have hm0i : (0 : Int) < m := by omega
  have SW := Lib.hid (show Below w.heap.size w w.drew from (Below.refl _ _).drew)
  clear h hb hK hL hLl hLa hrd hf0
  go_enter Tryz.func213, Tryz.ntmps213
  go_wp2_with fail
  go_region_held3 (fun W => W.cell? ⟨g, 0, none⟩ = some (.slice a0 N c0)) (first | exact hc0 | exact (SW.out.cell (p := ⟨g, 0, none⟩) hgl).trans hc0 | go_keep) (first
    | (go_simp; go_at_call 220; (with_reducible refine (HMod.out _ SW.out).mono ?_); rintro e w6 ⟨g2, f2, rfl, hG2, hb6⟩; have HG2 := Lib.hid (hG2.mono SW.out.size); have SW := Lib.hid (SW.out.trans (hb6.mono SW.out.size)); clear hb6 hG2)
    | (go_simp; go_at_call 219; (with_reducible refine (HRed.out _ g2 f2 w.heap.size HG2.out SW.out.size).mono ?_); rintro e w7 ⟨ad, c2, rfl, hb7⟩; have SW := Lib.hid (SW.out.trans hb7); clear hb7))
  all_goals (go_wp2_with fail; go_ret)
  all_goals exact ⟨rfl, SW.out⟩
theorem down_size : ∀ s, s < 64 → ∀ k, k < 7 → k ≤ sz s → ∃ u, u < 64 ∧ (sub u s = true ∧ sz u = k) := by decide +kernel
theorem lvl_some {A : Nat → Bool} (hd : Dn A) {k : Nat} (h : k < topTo A 64) : 0 < (lvlTo A 64 k).length := by
  rcases topTo_hit (p := A) 64 with h0 | ⟨s, hs, hA, hz⟩
  · omega
  · have := sz_le s
    obtain ⟨u, hu, hus, huz⟩ := down_size s hs k (by omega) (by omega)
    exact List.length_pos_iff.2 (List.ne_nil_of_mem (mem_lvl2.2 ⟨hu, hd s hs hA u hus, huz⟩))
theorem partL_skip {n : Nat} {g : Nat → Int} {J : Nat} (h : g J = 0) : partL n J g (fun _ => 0) = partL n (J + 1) g (fun _ => 0) := by
  unfold partL
  refine mkL_congr fun j hj => ?_
  by_cases e : j < J
  · rw [if_pos e, if_pos (by omega)]
  · by_cases e2 : j = J
    · subst e2; rw [if_neg e, if_pos (by omega), h]
    · rw [if_neg e, if_neg (by omega)]
set_option maxRecDepth 100000 in
set_option maxHeartbeats 4000000 in
theorem holesIn_any (F p : Nat) (w : World) (hF : Fam F) (hp : Prm p) (hd : Dn F.testBit) (hT1 : 1 ≤ topTo F.testBit 64) :
    Calls Tryz.prog 197 #[.int .u64 F, .int .i64 p] w (RetInts w (holesL p F.testBit)) := by
  obtain ⟨T, hT⟩ : ∃ T, T = topTo F.testBit 64 := ⟨_, rfl⟩
  have hT7 : T ≤ 7 := by rw [hT]; exact topTo_le _ _
  have hT1' : 1 ≤ T := by omega
  have HBs : Hid (∀ W, Calls Tryz.prog 205 #[.int .u64 F] W fun e w' => ∃ g f, e = .returned (.slice (some ⟨g, 0, none⟩) T T) ∧ Grid w' W.heap.size g T f (fun k => up (lvlTo F.testBit 64 k)) ∧ Below W.heap.size W w') := Lib.hid fun W => by
    have := bySize_any F W hF
    unfold RetLvl at this
    rwa [← hT] at this
  obtain ⟨A, hA⟩ : ∃ A, A = F.testBit := ⟨_, rfl⟩
  rw [← hA] at HBs hd hT
  have HLv : Hid (∀ k, k < T → 0 < (lvlTo A 64 k).length) := Lib.hid fun k hk => lvl_some hd (by rw [← hT]; exact hk)
  have Hrk : Hid (∀ k, 1 ≤ k → rk0 p A k = rankR p (lvlTo A 64 (k - 1)).length (lvlTo A 64 k).length (fun i => mkL (lvlTo A 64 k).length fun j => sgnF (nthN (lvlTo A 64 (k - 1)) i) (nthN (lvlTo A 64 k) j) % (p : Int))) := Lib.hid fun k hk => by
    unfold rk0; rw [if_neg (by omega)]; rfl
  have Hrle : Hid (∀ k, rk0 p A k ≤ 64) := Lib.hid fun k => rk_le hp hd k
  have HrT : Hid (rk0 p A T = 0) := Lib.hid (rk_top hp hd (by rw [← hT]; exact Nat.le_refl _))
  have Hr0 : Hid (rk0 p A 0 = 0) := Lib.hid (by unfold rk0; rw [if_pos rfl])
  have HP := Lib.hid hp
  have HoL : Hid (holesL p F.testBit = mkL T (holeN p A)) := Lib.hid (by rw [← hA]; unfold holesL mkL; rw [hT])
  obtain ⟨B, hB⟩ : ∃ B, B = w.heap.size := ⟨_, rfl⟩
  have HBe := Lib.hid hB
  clear hA hd hT hp hT1 hB
  go_enter Tryz.func197, Tryz.ntmps197
  go_wp2_with fail
  refine (HBs.out _).mono ?_
  rintro e w1 ⟨g, f, rfl, hG, hb1⟩
  have HG1 := Lib.hid hG
  have HB1 : Hid (Below B w w1) := Lib.hid (by rw [HBe.out]; exact hb1)
  have hBw1 : B ≤ w1.heap.size := by rw [HBe.out]; exact hb1.size
  have hgl := hG.glt.2
  clear hG hb1
  go_wp2_with (at_make; refine mk_ints rfl _ _ rfl _ rfl rfl (T + 1) (by first | omega | simp) (by omega) ?_; intro gr w2 hown2 hb2; have HO2 : Hid (Own 3 w2 w1.heap.size (some ⟨gr, 0, none⟩) (T + 1) (T + 1) (partL (T + 1) 1 (fun j => (rk0 p A j : Int)) (fun _ => 0))) := Lib.hid (by rw [← partL_skip (J := 0) (by rw [Hr0.out]; rfl), rep_part]; exact hown2); have HB2 := Lib.hid hb2; clear hown2 hb2)
  have hgr : w1.heap.size ≤ gr := (HO2.out.lt gr rfl).1
  go_loopw [7] (fun k wr => ∃ K : Nat, 1 ≤ K ∧ K ≤ T ∧ k = .int .i64 K ∧ Own 3 wr w1.heap.size (some ⟨gr, 0, none⟩) (T + 1) (T + 1) (partL (T + 1) K (fun j => (rk0 p A j : Int)) (fun _ => 0)) ∧ Below w1.heap.size w1 wr) (fun k _ => T - (intOf k).toNat)
  case atStart => exact ⟨1, Nat.le_refl _, hT1', rfl, HO2.out, HB2.out⟩
  case round =>
    clear HO2 HB2
    obtain ⟨K, hK1, hKT, rfl, hown, hbl⟩ := hrel
    have HO := Lib.hid hown; have HBl := Lib.hid hbl
    clear hown hbl
    by_cases hlt : K < T
    · have hKm : K - 1 < T := by omega
      have HGr := Lib.hid (HG1.out.keep HBl.out)
      have hm1 : (lvlTo A 64 (K - 1)).length ≤ 64 := lvl_len _ _ _
      have hm2 : (lvlTo A 64 K).length ≤ 64 := lvl_len _ _ _
      have hp1 := HLv.out (K - 1) hKm
      have hp2 := HLv.out K hlt
      have hc1 := HGr.out.cell hKm
      have hc2 := HGr.out.cell hlt
      have hl1 := (HGr.out.own (K - 1) hKm).len
      have hl2 := (HGr.out.own K hlt).len
      rw [up_len] at hl1 hl2
      have hrd1 := (HGr.out.own (K - 1) hKm).reads
      have hrd2 := (HGr.out.own K hlt).reads
      obtain ⟨⟨a1, n1, d1⟩, hf1⟩ : ∃ x, x = f (K - 1) := ⟨_, rfl⟩
      obtain ⟨⟨a2, n2, d2⟩, hf2⟩ : ∃ x, x = f K := ⟨_, rfl⟩
      rw [← hf1] at hc1 hl1 hrd1
      rw [← hf2] at hc2 hl2 hrd2
      simp only [Sl.val] at hc1 hl1 hrd1 hc2 hl2 hrd2
      have HR1 := Lib.hid hrd1; have HR2 := Lib.hid hrd2
      obtain ⟨R, hR⟩ : ∃ R, R = rk0 p A K := ⟨_, rfl⟩
      have hRle : R ≤ 64 := by rw [hR]; exact Hrle.out K
      have HRk := Hrk.out K hK1
      rw [← hR] at HRk
      rw [hl1, hl2] at HRk
      rw [hl1] at hp1 hm1
      rw [hl2] at hp2 hm2
      have HBo : Hid (∀ W, Below wr.heap.size wr W → Calls Tryz.prog 214 #[.slice a1 n1 d1, .slice a2 n2 d2] W (RetMx W n1 n2 fun i j => sgnF (nthN (lvlTo A 64 (K - 1)) i) (nthN (lvlTo A 64 K) j))) := Lib.hid fun W hW => by
        exact border_of_any a1 n1 d1 a2 n2 d2 _ _ W (hrd1.keep hW) (hrd2.keep hW) hm1 hm2 (fun u hu => (mem_lvl2.1 hu).1) (fun t ht => (mem_lvl2.1 ht).1) (fun u hu t ht => by have := (mem_lvl2.1 hu).2.2; have := (mem_lvl2.1 ht).2.2; omega)
      have HRa : Hid (∀ (W : World) (g2 : Nat) (f2 : Nat → Sl) (B2 : Nat), Grid W B2 g2 n1 f2 (fun i => mkL n2 fun j => sgnF (nthN (lvlTo A 64 (K - 1)) i) (nthN (lvlTo A 64 K) j)) → Calls Tryz.prog 213 #[.slice (some ⟨g2, 0, none⟩) n1 n1, .int .i64 p] W fun e w' => e = .returned (.int .i64 R) ∧ Below W.heap.size W w') := Lib.hid fun W g2 f2 B2 hG =>
        rank_any g2 n1 n2 p f2 _ W B2 hG HP.out hp1 hm1 hp2 hm2 (fun i hi j hj => by
          have : sgnF (nthN (lvlTo A 64 (K - 1)) i) (nthN (lvlTo A 64 K) j) = 0 ∨ sgnF (nthN (lvlTo A 64 (K - 1)) i) (nthN (lvlTo A 64 K) j) = 1 ∨ sgnF (nthN (lvlTo A 64 (K - 1)) i) (nthN (lvlTo A 64 K) j) = -1 := by
            by_cases e : sgnF (nthN (lvlTo A 64 (K - 1)) i) (nthN (lvlTo A 64 K) j) = 0
            · exact .inl e
            · obtain ⟨h1, h2⟩ := sgn_zero e
              exact .inr (sgn_val h1 h2)
          omega) R HRk.symm
      have hcr := HO.out.reads.cellAt K (by omega)
      rw [Nat.zero_add] at hcr
      have hfro : wr.frozen? ⟨gr, K, none⟩ = false := by
        obtain ⟨g', hg', _, _, _, hf⟩ := Row.cells HO.out (by omega)
        cases hg'; exact hf K
      have hgrl : gr < wr.heap.size := (HO.out.lt gr rfl).2
      have Hset : Hid (∀ W, Below wr.heap.size wr W → Own 3 (W.setCell ⟨gr, K, none⟩ (.int .i64 R)) w1.heap.size (some ⟨gr, 0, none⟩) (T + 1) (T + 1) (partL (T + 1) (K + 1) (fun j => (rk0 p A j : Int)) (fun _ => 0)) ∧ Below w1.heap.size w1 (W.setCell ⟨gr, K, none⟩ (.int .i64 R))) := Lib.hid fun W hW => ⟨by
        have := (HO.out.keep hW).set K (rk0 p A K : Int)
        rw [partL_set (g := fun j => (rk0 p A j : Int)) (show K < T + 1 by omega), ← hR] at this
        exact this, (HBl.out.trans (hW.mono HBl.out.size)).setCell (by simp only; omega) _⟩
      have SW := Lib.hid (show Below wr.heap.size wr wr.drew from (Below.refl _ _).drew)
      have hK0 : (0 : Int) ≤ K := by omega
      have hKTi : (K : Int) < T := by omega
      have hK10 : (0 : Int) ≤ (K : Int) - 1 := by omega
      have hK1T : (K : Int) - 1 < T := by omega
      obtain ⟨Q, hQ⟩ : ∃ Q, Q = K - 1 := ⟨_, rfl⟩
      have hwK : IntKind.i64.wrap ((K : Int) - 1) = (Q : Int) := by rw [show (K : Int) - 1 = (Q : Int) by omega]; exact IntWalk.i64_in _ (by omega)
      have hwK2 : wrap64 ((K : Int) - 1) = (Q : Int) := by unfold wrap64; omega
      have hQ0 : (0 : Int) ≤ Q := by omega
      have hQT : (Q : Int) < T := by omega
      have hKT1 : (K : Int) < (T : Int) + 1 := by omega
      have hKT2 : (K : Int) < ((T + 1 : Nat) : Int) := by omega
      rw [← hQ] at hc1
      have hgne : ¬ g = gr := by omega
      have hglr : g < wr.heap.size := Nat.lt_of_lt_of_le hgl HBl.out.size
      clear hl1 hl2 hrd1 hrd2 hf1 hf2 hR HRk hp1 hp2 hm1 hm2 hQ hK10 hK1T
      go_wp2_with fail
      go_region_held3 (fun W => W.cell? ⟨g, Q, none⟩ = some (.slice a1 n1 d1) ∧ W.cell? ⟨g, K, none⟩ = some (.slice a2 n2 d2)) (first | exact ⟨hc1, hc2⟩ | exact ⟨(SW.out.cell (p := ⟨g, Q, none⟩) hglr).trans hc1, (SW.out.cell (p := ⟨g, K, none⟩) hglr).trans hc2⟩ | exact ⟨(World.cell?_setCell_other _ _ _ _ (fun e => by have := congrArg Addr.block e; simp only at this; omega)).trans ((SW.out.cell (p := ⟨g, Q, none⟩) hglr).trans hc1), (World.cell?_setCell_other _ _ _ _ (fun e => by have := congrArg Addr.block e; simp only at this; omega)).trans ((SW.out.cell (p := ⟨g, K, none⟩) hglr).trans hc2)⟩ | go_keep) (first
        | (go_simp; go_at_call 214; (with_reducible refine (HBo.out _ SW.out).mono ?_); rintro e w6 ⟨g2, f2, rfl, hG2, hb6⟩; have HG2 := Lib.hid hG2; have SW := Lib.hid (SW.out.trans (hb6.mono SW.out.size)); clear hb6 hG2)
        | (go_simp; go_at_call 213; (with_reducible refine (HRa.out _ g2 f2 _ HG2.out).mono ?_); rintro e w7 ⟨rfl, hb7⟩; have SW := Lib.hid (SW.out.trans (hb7.mono SW.out.size)); (have hcr7 := (SW.out.cell (p := ⟨gr, K, none⟩) hgrl).trans hcr); (have hfr7 : w7.frozen? ⟨gr, K, none⟩ = false := (World.frozen?_of_block (a := ⟨gr, K, none⟩) (SW.out.block gr hgrl)).trans hfro); clear hb7))
      all_goals (go_wp2_with fail)
      all_goals (
        go_roundw
        case rel => exact ⟨K + 1, by omega, by omega, by go_num, (Hset.out _ SW.out).1, (Hset.out _ SW.out).2⟩
        case measure => simp [intOf]; omega)
    · obtain rfl : K = T := by omega
      have hKK : ¬ ((K : Int) < K) := by omega
      have HGr := Lib.hid (HG1.out.keep HBl.out)
      have HB3 : Hid (Below B w wr) := Lib.hid (HB1.out.trans (HBl.out.mono hBw1))
      have Hrv : Hid (∀ j, j ≤ K → nth (partL (K + 1) K (fun j => (rk0 p A j : Int)) (fun _ => 0)) j = (rk0 p A j : Int)) := Lib.hid fun j hj => by
        unfold partL
        rw [nth_mkL, if_pos (by omega)]
        by_cases e : j < K
        · rw [if_pos e]
        · obtain rfl : j = K := by omega
          rw [if_neg e, HrT.out]; rfl
      have hgrl : gr < wr.heap.size := (HO.out.lt gr rfl).2
      have hBw3 : B ≤ wr.heap.size := by have := HBl.out.size; omega
      have hglr : g < wr.heap.size := Nat.lt_of_lt_of_le hgl HBl.out.size
      obtain ⟨w3, hw3⟩ : ∃ w3, w3 = wr := ⟨_, rfl⟩
      have Hw3 := Lib.hid hw3
      go_wp2_with (at_make; refine mk_ints rfl _ _ rfl _ rfl rfl K (by first | omega | simp) (by omega) ?_; intro go w4 hown4 hb4; have HO4 : Hid (Own 3 w4 wr.heap.size (some ⟨go, 0, none⟩) K K (partL K 0 (holeN p A) (fun _ => 0))) := Lib.hid (by rw [rep_part]; exact hown4); have HB4 := Lib.hid hb4; clear hown4 hb4)
      rw [← Hw3.out] at HO HGr HB3 HO4 HB4 hgrl hBw3 hglr HBl
      clear Hw3 hw3
      have hgo : w3.heap.size ≤ go := (HO4.out.lt go rfl).1
      go_loopw [9, 42] (fun _ k wr => ∃ I : Nat, I ≤ K ∧ k = .int .i64 I ∧ Own 3 wr w3.heap.size (some ⟨go, 0, none⟩) K K (partL K I (holeN p A) (fun _ => 0)) ∧ Below w3.heap.size w3 wr) (fun _ k _ => K - (intOf k).toNat)
      case atStart => exact ⟨0, Nat.zero_le _, rfl, HO4.out, HB4.out⟩
      case round =>
        clear HO4 HB4
        obtain ⟨I, hI, rfl, hown, hbl⟩ := hrel
        have HO5 := Lib.hid hown; have HB5 := Lib.hid hbl
        clear hown hbl
        by_cases hlt2 : I < K
        · have HG5 := Lib.hid (HGr.out.keep HB5.out)
          have hc1 := HG5.out.cell hlt2
          have hl1 := (HG5.out.own I hlt2).len
          rw [up_len] at hl1
          obtain ⟨⟨a1, n1, d1⟩, hf1⟩ : ∃ x, x = f I := ⟨_, rfl⟩
          rw [← hf1] at hc1 hl1
          simp only [Sl.val] at hc1 hl1
          have hn1 : n1 ≤ 64 := by rw [← hl1]; exact lvl_len _ _ _
          have HRr := HO.out.reads.keep HB5.out
          have hr1 := HRr.cellAt I (by omega)
          have hr2 := HRr.cellAt (I + 1) (by omega)
          rw [Nat.zero_add] at hr1 hr2
          rw [Hrv.out I (by omega)] at hr1
          rw [Hrv.out (I + 1) (by omega)] at hr2
          have hle1 := Hrle.out I; have hle2 := Hrle.out (I + 1)
          have hval : holeN p A I = (n1 : Int) - (rk0 p A I : Int) - (rk0 p A (I + 1) : Int) := by unfold holeN; rw [hl1]
          obtain ⟨x1, hx1⟩ : ∃ x, x = rk0 p A I := ⟨_, rfl⟩
          obtain ⟨x2, hx2⟩ : ∃ x, x = rk0 p A (I + 1) := ⟨_, rfl⟩
          rw [← hx1] at hr1 hle1 hval
          rw [← hx2] at hr2 hle2 hval
          obtain ⟨y, hy⟩ : ∃ y, y = holeN p A I := ⟨_, rfl⟩
          have hco := HO5.out.reads.cellAt I (by omega)
          rw [Nat.zero_add] at hco
          have hfro : wr.frozen? ⟨go, I, none⟩ = false := by
            obtain ⟨g', hg', _, _, _, hf⟩ := Row.cells HO5.out (by omega)
            cases hg'; exact hf I
          have Hset : Hid (Own 3 (wr.setCell ⟨go, I, none⟩ (.int .i64 y)) w3.heap.size (some ⟨go, 0, none⟩) K K (partL K (I + 1) (holeN p A) (fun _ => 0)) ∧ Below w3.heap.size w3 (wr.setCell ⟨go, I, none⟩ (.int .i64 y))) := Lib.hid ⟨by
            have := HO5.out.set I (holeN p A I)
            rw [partL_set hlt2, ← hy] at this
            exact this, HB5.out.setCell (by simp only; omega) _⟩
          have Hw2 : Hid ((n1 : Int) - x1 - x2 = y) := Lib.hid (by rw [hy, hval])
          have Hw : Hid (wrap64 (wrap64 ((n1 : Int) - x1) - x2) = y) := Lib.hid (by rw [hy, hval]; unfold wrap64; omega)
          have hI0 : (0 : Int) ≤ I := by omega
          have hIK : (I : Int) < K := by omega
          have hI1 : (0 : Int) ≤ (I : Int) + 1 := by omega
          have hIK1 : (I : Int) + 1 < (K : Int) + 1 := by omega
          clear hl1 hf1 HRr hval hx1 hx2 hy
          go_wp2_with fail
          go_region
          all_goals (
            go_wp2_with fail
            go_roundw
            case rel => exact ⟨I + 1, by omega, by go_num, by first | (rw [Hw2.out]; exact Hset.out.1.drew) | (rw [Hw.out]; exact Hset.out.1.drew), by first | (rw [Hw2.out]; exact Hset.out.2.drew) | (rw [Hw.out]; exact Hset.out.2.drew)⟩
            case measure => simp [intOf]; omega)
        · obtain rfl : I = K := by omega
          have hII : ¬ ((I : Int) < I) := by omega
          go_wp2_with fail
          go_ret
          rw [HoL.out]
          exact ⟨_, I, I, rfl, by have := HO5.out; rw [partL_all] at this; rw [← HBe.out]; exact this.mono hBw3, by rw [← HBe.out]; exact HB3.out.trans (HB5.out.mono hBw3)⟩
end Go.Proofs.YtihfhfihladlcaaGreatDoor

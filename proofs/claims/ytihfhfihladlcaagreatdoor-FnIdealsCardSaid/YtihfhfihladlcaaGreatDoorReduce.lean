/- Contracts of the reference's l13Reduce and l13Rank: elimination finds as many pivots as the plain one. -/
import Derived.Test.YtihfhfihladlcaaGreatDoorCore
import Derived.Test.YtihfhfihladlcaaGreatDoorInv
namespace Go.Proofs.YtihfhfihladlcaaGreatDoor
set_option maxRecDepth 20000
open Go.RowKit
set_option linter.unusedSimpArgs false
set_option linter.unusedVariables false

theorem clear_len {p n d c : Nat} {R : Nat → List Int} (i : Nat) : (clearR p n d c R i).length = n := by
  unfold clearR normR
  by_cases e : i = d
  · rw [if_pos e, mkL_len]
  · rw [if_neg e, mkL_len]
theorem clear_bd {p n d c : Nat} (hp : 2 ≤ p) {R : Nat → List Int} (i : Nat) {j : Nat} (hj : j < n) : 0 ≤ nth (clearR p n d c R i) j ∧ nth (clearR p n d c R i) j < p := by
  unfold clearR
  by_cases e : i = d
  · rw [if_pos e, nth_norm hj]; exact ⟨Int.emod_nonneg _ (by omega), Int.emod_lt_of_pos _ (by omega)⟩
  · rw [if_neg e, nth_mkL, if_pos hj]; exact ⟨Int.emod_nonneg _ (by omega), Int.emod_lt_of_pos _ (by omega)⟩
theorem redR_end (p m n : Nat) (k j d : Nat) (R : Nat → List Int) (h : ¬ d < m) : redR p m n k j d R = d := by
  cases k with
  | zero => rfl
  | succ k => unfold redR; rw [if_neg h]
theorem nthL_take {L : List (List Int)} {I : Nat} (h : I < L.length) : L.take (I + 1) = L.take I ++ [nthL L I] := by
  rw [List.take_succ_eq_append_getElem h, nthL_at h]
theorem nth_take1 {xs : List Int} {J : Nat} (h : J < xs.length) : xs.take (J + 1) = xs.take J ++ [nth xs J] := by
  rw [List.take_succ_eq_append_getElem h, nth_eq h]

theorem nth_map' {xs : List Int} {j : Nat} {g : Int → Int} (h : j < xs.length) : nth (xs.map g) j = g (nth xs j) := by
  unfold nth
  rw [List.getD_eq_getElem?_getD, List.getD_eq_getElem?_getD, List.getElem?_map, List.getElem?_eq_getElem h]; rfl

set_option maxRecDepth 100000 in
set_option maxHeartbeats 4000000 in
theorem sReduce_any (a : Option Addr) (m c N p : Nat) (L : List (List Int)) (R0 : Nat → List Int) (w : World) (h : RowsAt w a m L) (hp : Prm p) (hm : m ≤ 64) (hN : N ≤ 64)
    (hl : ∀ i, i < m → (nthL L i).length = N) (hb : ∀ i, i < m → ∀ j, j < N → -1000 ≤ nth (nthL L i) j ∧ nth (nthL L i) j ≤ 1000) (hR : ∀ i, i < m → R0 i = (nthL L i).map fun x => x % (p : Int)) :
    Calls Tryz.prog 188 #[.slice a m c, .int .i64 p] w fun e w' => ∃ v ad c2, e = .returned (.tuple #[v, .slice ad (rankR p m N R0) c2]) ∧ Below w.heap.size w w' := by
  obtain ⟨hp2, hp5⟩ := prm_bd hp
  obtain ⟨f, hr⟩ := h
  have HR := Lib.hid hr
  have Hll : Hid (L.length = m) := Lib.hid hr.len
  have Hl := Lib.hid hl; have Hb := Lib.hid hb; have HP := Lib.hid hp; have HR0 := Lib.hid hR
  clear hr hl hb hp hR
  obtain ⟨B, hB⟩ : ∃ B, B = w.heap.size := ⟨_, rfl⟩
  have HBe := Lib.hid hB
  obtain ⟨RK, hRK⟩ : ∃ r, r = rankR p m N R0 := ⟨_, rfl⟩
  have HRK := Lib.hid hRK
  rw [← HRK.out]
  clear hRK hB
  go_enter Tryz.func188, Tryz.ntmps188
  go_wp2_with fail
  go_loopw [6, 7, 8, 9] (fun o i _ _ wr => ∃ (I k : Nat) (ad : Option Addr), I ≤ m ∧ i = .int .i64 I ∧ o = .slice ad I k ∧ Own2 wr B wr.heap.size ad I k ((L.take I).map fun r => r.map fun x => x % (p : Int)) ∧ Below B w wr) (fun _ i _ _ _ => m - (intOf i).toNat)
  case atStart => exact ⟨0, 0, _, Nat.zero_le _, rfl, rfl, by rw [HBe.out]; simp only [List.take_zero, List.map_nil, World.size_alloc]; exact ⟨_, O2.empty w _ (Nat.le_refl _)⟩, by rw [HBe.out]; exact (by repeat (first | exact Below.refl _ _ | assumption | refine Below.setCell ?_ (by first | omega | (simp; done) | (simp; omega)) _ | refine Below.alloc ?_ (by first | omega | (simp; done) | (simp; omega)) _ | apply Below.drew))⟩
  case round =>
    obtain ⟨wo, rfl⟩ : ∃ x : World, x = wr := ⟨_, rfl⟩
    obtain ⟨I, k, ad, hI, rfl, rfl, hown, hbe⟩ := hrel
    have HO := Lib.hid hown; have HBl := Lib.hid hbe
    have hbw : B ≤ wo.heap.size := by rw [HBe.out]; exact hbe.size
    have hRr := HR.out.keep (by rw [← HBe.out]; exact hbe)
    clear hown hbe
    by_cases hlt : I < m
    · obtain ⟨b, off, rfl, hc⟩ := hRr.cells (by omega)
      have hci := hc I hlt
      have hrow := hRr.each I hlt
      obtain ⟨⟨a1, n1, c1⟩, hfe⟩ : ∃ x, x = f I := ⟨_, rfl⟩
      rw [← hfe] at hci hrow
      simp only [Sl.val] at hci hrow
      have hlen := hrow.len
      rw [Hl.out I hlt] at hlen
      subst hlen
      obtain ⟨xs, hxs⟩ : ∃ xs, xs = nthL L I := ⟨_, rfl⟩
      rw [← hxs] at hrow
      have Hxl : Hid (xs.length = N) := Lib.hid (by rw [hxs]; exact Hl.out I hlt)
      have Hxb : Hid (∀ j, j < N → -1000 ≤ nth xs j ∧ nth xs j ≤ 1000) := Lib.hid (by rw [hxs]; exact Hb.out I hlt)
      have Htk : Hid ((L.take (I + 1)).map (fun r => r.map fun x => x % (p : Int)) = (L.take I).map (fun r => r.map fun x => x % (p : Int)) ++ [xs.map fun x => x % (p : Int)]) := Lib.hid (by
        rw [nthL_take (by rw [Hll.out]; exact hlt), List.map_append, hxs]; rfl)
      have Hci := Lib.hid hci; have Hrow := Lib.hid hrow
      have hI0 : (0 : Int) ≤ I := by omega
      have hIm : (I : Int) < m := by omega
      clear hc hfe hrow hRr hxs
      go_wp2_with fail
      go_loopw [8, 9] (fun r j wr => ∃ (J k1 : Nat) (ad1 : Option Addr), J ≤ N ∧ j = .int .i64 J ∧ r = .slice ad1 J k1 ∧ Own 3 wr wo.heap.size ad1 J k1 ((xs.take J).map fun x => x % (p : Int)) ∧ Below wo.heap.size wo wr) (fun _ j _ => N - (intOf j).toNat)
      case atStart => exact ⟨0, 0, _, Nat.zero_le _, rfl, rfl, Own.empty _ _ _ (Nat.le_refl _), (by repeat (first | exact Below.refl _ _ | assumption | refine Below.setCell ?_ (by first | omega | (simp; done) | (simp; omega)) _ | refine Below.alloc ?_ (by first | omega | (simp; done) | (simp; omega)) _ | apply Below.drew))⟩
      case round =>
        obtain ⟨J, k1, ad1, hJ, rfl, rfl, hone, hb2⟩ := hrel
        have HO1 := Lib.hid hone; have HB2 := Lib.hid hb2
        have hci := hb2.cell (World.block_lt_of_cell? wo _ Hci.out) |>.trans Hci.out
        have hzz : wo.heap.size ≤ wr.heap.size := hb2.size
        have hrd := Hrow.out.keep hb2
        clear hone hb2
        by_cases hltJ : J < N
        · obtain ⟨b3, o3, rfl, hc3⟩ := hrd.cells (by omega)
          have hx := hc3 J hltJ
          have hxb := Hxb.out J hltJ
          obtain ⟨x, hxe⟩ : ∃ x, x = nth xs J := ⟨_, rfl⟩
          rw [← hxe] at hx hxb
          have Htj : Hid ((xs.take (J + 1)).map (fun x => x % (p : Int)) = (xs.take J).map (fun x => x % (p : Int)) ++ [x % (p : Int)]) := Lib.hid (by
            rw [nth_take1 (by rw [Hxl.out]; exact hltJ), List.map_append, hxe]; rfl)
          have hx1 : -1000000 ≤ x ∧ x ≤ 1000000 := by omega
          have HC : Hid (∀ W, Calls Tryz.prog 209 #[.int .i64 x, .int .i64 p] W fun e w' => e = .returned (.int .i64 (x % (p : Int))) ∧ W = w') := Lib.hid fun W => l13Mod_any x p W ⟨hp2, hp5⟩ hx1
          obtain ⟨y, hy⟩ : ∃ y, y = x % (p : Int) := ⟨_, rfl⟩
          rw [← hy] at HC Htj
          clear hc3 hrd hxe hxb hx1 hy
          go_wp2_with (first | (go_at_call 209; (with_reducible refine (HC.out _).mono ?_); rintro e w' ⟨rfl, rfl⟩) | (at_builtin; refine ap rfl _ _ rfl wo.heap.size _ _ _ _ _ rfl HO1.out rfl (by omega) hzz ?_; intro ad5 d5 w5 hown5 hb5; have HO5 := Lib.hid hown5; have HB5 := Lib.hid (HB2.out.trans hb5); clear hown5 hb5))
          go_roundw
          case rel => exact ⟨J + 1, d5, ad5, by omega, by go_num, rfl, by rw [Htj.out]; exact HO5.out, HB5.out⟩
          case measure => simp [intOf]; omega
        · obtain rfl : J = N := by omega
          have hJJ : ¬ ((J : Int) < J) := by omega
          have HOn : Hid (Own 3 wr wo.heap.size ad1 J k1 (xs.map fun x => x % (p : Int))) := Lib.hid (by have := HO1.out; rwa [List.take_of_length_le (by rw [Hxl.out]; exact Nat.le_refl _)] at this)
          have HOk := Lib.hid (HO.out.keep HB2.out)
          go_wp2_with (at_builtin; refine ap_own rfl _ _ rfl B wo.heap.size _ _ _ _ _ _ _ _ rfl HOk.out HOn.out rfl (by omega) hbw (by omega) ?_; intro ad6 d6 w6 hown6 hb6 _ _; have HO6 := Lib.hid hown6; have HB6 := Lib.hid ((HBl.out.trans (HB2.out.mono hbw)).trans hb6); clear hown6 hb6)
          go_roundw
          case rel => exact ⟨I + 1, d6, ad6, by omega, by go_num, rfl, by rw [Htk.out]; exact HO6.out, HB6.out⟩
          case measure => simp [intOf]; omega
    · obtain rfl : I = m := by omega
      have hII : ¬ ((I : Int) < I) := by omega
      obtain ⟨f2, hO2⟩ := HO.out
      have hM0 := (hO2.mx).congr (R' := R0) fun i hi => by
        rw [HR0.out i hi]
        have : (L.take I).map (fun r => r.map fun x => x % (p : Int)) = L.map fun r => r.map fun x => x % (p : Int) := by rw [List.take_of_length_le (by rw [Hll.out]; exact Nat.le_refl _)]
        rw [this, nthL_at (by rw [List.length_map, Hll.out]; exact hi), List.getElem_map, nthL_at (by rw [Hll.out]; exact hi)]
      have HM0 := Lib.hid hM0
      obtain ⟨U, hU⟩ : ∃ U, U = wo.heap.size := ⟨_, rfl⟩
      rw [← hU] at HM0
      have HU := Lib.hid hU
      have Hl0 : Hid (∀ i, i < I → (R0 i).length = N) := Lib.hid fun i hi => by rw [HR0.out i hi, List.length_map]; exact Hl.out i hi
      have Hb0 : Hid (∀ i, i < I → ∀ j, j < N → 0 ≤ nth (R0 i) j ∧ nth (R0 i) j < p) := Lib.hid fun i hi j hj => by
        have e : nth (R0 i) j = nth (nthL L i) j % (p : Int) := by
          rw [HR0.out i hi, nth_map' (by rw [Hl.out i hi]; exact hj)]
        rw [e]; exact ⟨Int.emod_nonneg _ (by omega), Int.emod_lt_of_pos _ (by omega)⟩
      clear hO2 hM0 hU HO HR
      by_cases hm0 : I = 0
      · subst hm0
        have HRK0 : Hid (RK = 0) := Lib.hid (by rw [HRK.out]; unfold rankR; exact redR_end _ _ _ _ _ _ _ (by omega))
        have hm00 : ¬ ((0 : Int) > ((0 : Nat) : Int)) := by omega
        go_wp2_with fail
        go_loopw [6, 10, 11, 12, 13, 14] (fun o q j _ _ _ wr => o = .slice ad 0 k ∧ q = .slice (some ⟨wo.heap.size, 0, none⟩) 0 0 ∧ j = .int .i64 0 ∧ wr = wo.alloc (.cells #[] 3)) (fun _ _ _ _ _ _ _ => 0)
        case atStart => exact ⟨rfl, rfl, rfl, rfl⟩
        case round =>
          obtain ⟨rfl, rfl, rfl, rfl⟩ := hrel
          go_wp2_with fail
          have HBz := Lib.hid (HBl.out.alloc hbw (.cells #[] 3))
          refine bodyPost_ret (v := .tuple #[.slice ad 0 k, .slice (some ⟨wo.heap.size, 0, none⟩) 0 0]) (by simp [results, Tryz.results188, go_sem]) rfl ⟨_, _, _, by rw [HRK0.out], by rw [← HBe.out]; exact HBz.out⟩
      · obtain ⟨g, rfl, _, _, _, _⟩ := HM0.out.head (by omega)
        have hU1 : B ≤ U := by rw [HU.out]; exact hbw
        go_wp2_with fail
        go_loopw [6, 10, 11, 12, 13, 14] (fun o q j _ _ _ wr => ∃ (J D k1 : Nat) (ad1 : Option Addr) (ps : List Int) (f : Nat → Sl) (R : Nat → List Int), o = .slice (some ⟨g, 0, none⟩) I k ∧ q = .slice ad1 D k1 ∧ j = .int .i64 J ∧ J ≤ N ∧ D ≤ I ∧ Own 3 wr U ad1 D k1 ps ∧ Mx wr B U (some ⟨g, 0, none⟩) I k f R ∧ (∀ i, i < I → (R i).length = N) ∧ (∀ i, i < I → ∀ j, j < N → 0 ≤ nth (R i) j ∧ nth (R i) j < p) ∧ redR p I N (N - J) J D R = RK ∧ Below B w wr ∧ U ≤ wr.heap.size) (fun _ _ j _ _ _ _ => N - (intOf j).toNat)
        case atStart =>
          refine ⟨0, 0, 0, _, [], f2, R0, rfl, rfl, rfl, Nat.zero_le _, Nat.zero_le _, ?_, HM0.out.keep (by repeat (first | exact Below.refl _ _ | assumption | refine Below.setCell ?_ (by first | omega | (simp; done) | (simp; omega)) _ | refine Below.alloc ?_ (by first | omega | (simp; done) | (simp; omega)) _ | apply Below.drew)), Hl0.out, Hb0.out, by rw [HRK.out]; rfl, HBl.out.alloc hbw _, by rw [HU.out]; simp⟩
          rw [HU.out]; exact Own.empty _ _ _ (Nat.le_refl _)
        case round =>
          clear HM0 Hl0 Hb0 HBl HRK
          obtain ⟨w1, rfl⟩ : ∃ x : World, x = wr := ⟨_, rfl⟩
          obtain ⟨J, D, k1, ad1, ps, f, R, rfl, rfl, rfl, hJ, hD, hone, hmx, hl, hb, hred, hbl, hUw⟩ := hrel
          have HO1 := Lib.hid hone; have HM := Lib.hid hmx; have Hl := Lib.hid hl; have Hb := Lib.hid hb; have Hred := Lib.hid hred; have HBl := Lib.hid hbl
          obtain ⟨g', hg', _, hgU, _, hgc⟩ := hmx.head (by omega)
          cases hg'
          have Hgc := Lib.hid hgc
          have hm1 : (I : Int) > 0 := by omega
          have hm2 : 0 < I := by omega
          have hm3 : (0 : Int) < I := by omega
          obtain ⟨⟨a0, n0, c0⟩, hf0⟩ : ∃ x, x = f 0 := ⟨_, rfl⟩
          have hc0 := (hgc 0 hm2).1
          rw [← hf0] at hc0
          simp only [Sl.val] at hc0
          have hn0 : n0 = N := by
            have h1 := (hmx.own 0 hm2).len
            rw [hl 0 hm2, ← hf0] at h1
            exact h1.symm
          subst hn0
          clear hone hmx hl hb hred hbl hgc hf0
          by_cases hJN : J < n0
          · have hJi : (J : Int) < n0 := by omega
            by_cases hDI : D < I
            · have hDi : (D : Int) < I := by omega
              go_wp2_with fail
              clear hc0
              go_loop [13] (fun t => ∃ A : Nat, D ≤ A ∧ A ≤ I ∧ t = .int .i64 A ∧ findR R J I (I - A) A = findR R J I (I - D) D) (fun t => I - (intOf t).toNat)
              case atStart => exact ⟨D, Nat.le_refl _, hD, rfl, rfl⟩
              case round =>
                obtain ⟨A, hDA, hAI, rfl, hfind⟩ := hrel
                have Hf := Lib.hid hfind
                clear hfind
                by_cases hA : A < I
                · have hAi : (A : Int) < I := by omega
                  have hA0 : (0 : Int) ≤ A := by omega
                  have hJ0 : (0 : Int) ≤ J := by omega
                  obtain ⟨gA, kA, hfA, _, _, _, hcA⟩ := HM.out.at (i := A) hA (Hl.out A hA) (by omega)
                  have hcell := (Hgc.out A hA).1
                  rw [hfA] at hcell
                  simp only [Sl.val] at hcell
                  have hx := (hcA J hJN).1
                  have HfA := Lib.hid hfA
                  obtain ⟨x, hx2⟩ : ∃ x, x = nth (R A) J := ⟨_, rfl⟩
                  rw [← hx2] at hx
                  have Hx := Lib.hid hx2
                  obtain ⟨z, hz⟩ : ∃ z, (x == 0) = z := ⟨_, rfl⟩
                  clear hcA hfA hx2
                  cases z
                  · -- the pivot's row
                    have Hne : Hid (nth (R A) J ≠ 0) := Lib.hid (by rw [← Hx.out]; simpa using hz)
                    have Hfd : Hid (findR R J I (I - D) D = A) := Lib.hid (by
                      rw [← Hf.out, show I - A = (I - A - 1) + 1 by omega]
                      unfold findR
                      rw [if_neg fun h => Hne.out h.2])
                    have hAI2 : ((A : Int) == (I : Int)) = false := by simp; omega
                    have hcD := (Hgc.out D hDI).1
                    obtain ⟨⟨aD, nD, cD⟩, hfD⟩ : ∃ x, x = f D := ⟨_, rfl⟩
                    rw [← hfD] at hcD
                    simp only [Sl.val] at hcD
                    have hcD2 : (w1.setCell ⟨g, A, none⟩ (.slice aD nD cD)).cell? ⟨g, D, none⟩ = some (.slice aD nD cD) := by
                      by_cases e : A = D
                      · rw [e]; exact World.cell?_setCell_same w1 _ _ hcD
                      · rw [World.cell?_setCell_other w1 _ _ _ (by first | (simp; done) | (simp; omega))]; exact hcD
                    have hfr1 := (Hgc.out A hA).2
                    have hfr2 := (Hgc.out D hDI).2
                    have HS : Hid (Mx ((w1.setCell ⟨g, A, none⟩ (.slice aD nD cD)).setCell ⟨g, D, none⟩ (.slice (some ⟨gA, 0, none⟩) n0 kA)) B U (some ⟨g, 0, none⟩) I k (fun r => if r = D then f A else if r = A then f D else f r) (swapR R D A)) := Lib.hid (by
                      have := HM.out.swap rfl hDI hA
                      rw [show (f D).val = .slice aD nD cD by rw [← hfD]; rfl, show (f A).val = .slice (some ⟨gA, 0, none⟩) n0 kA by rw [HfA.out]; rfl] at this
                      exact this)
                    have HWs : Hid (Within w1 ((w1.setCell ⟨g, A, none⟩ (.slice aD nD cD)).setCell ⟨g, D, none⟩ (.slice (some ⟨gA, 0, none⟩) n0 kA)) B U) := Lib.hid (((Within.refl w1 B U).set (by omega) hgU _ _).set (by omega) hgU _ _)
                    have HSl : Hid (∀ i, i < I → (swapR R D A i).length = n0) := Lib.hid fun i hi => swapR_at (Q := fun r => r.length = n0) (fun _ => Hl.out _ hA) (fun _ => Hl.out _ hDI) (fun _ _ => Hl.out _ hi)
                    have HSb : Hid (∀ i, i < I → ∀ j, j < n0 → 0 ≤ nth (swapR R D A i) j ∧ nth (swapR R D A i) j < p) := Lib.hid fun i hi j hj => swapR_at (Q := fun r => 0 ≤ nth r j ∧ nth r j < p) (fun _ => Hb.out _ hA j hj) (fun _ => Hb.out _ hDI j hj) (fun _ _ => Hb.out _ hi j hj)
                    have Hn : Hid (redR p I n0 (n0 - (J + 1)) (J + 1) (D + 1) (clearR p n0 D J (swapR R D A)) = RK) := Lib.hid (by
                      have := Hred.out
                      rw [show n0 - J = (n0 - (J + 1)) + 1 by omega] at this
                      unfold redR at this
                      rw [if_pos hDI, Hfd.out, if_neg (by omega)] at this
                      exact this)
                    clear Hgc
                    go_wp2_with fail
                    refine (sClear_any _ I k n0 p D J _ _ _ B U HS.out HP.out hDI hJN hm hN HSl.out HSb.out).mono ?_
                    rintro e w3 ⟨rfl, hM3, hW3⟩
                    have HW3 := Lib.hid (HWs.out.trans hW3)
                    have HO3 := Lib.hid (HO1.out.wit HW3.out (Nat.le_refl _))
                    have HM3 := Lib.hid hM3
                    have hU3 : U ≤ w3.heap.size := Nat.le_trans hUw HW3.out.size
                    have HB3 : Hid (Below B w w3) := Lib.hid (below_within HBl.out HW3.out (Nat.le_refl _) (Nat.le_trans hU1 hUw))
                    clear hM3 hW3
                    go_wp2_with (at_builtin; refine ap rfl _ _ rfl U _ _ _ _ _ rfl HO3.out rfl (by omega) hU3 ?_; intro ad5 d5 w5 hown5 hb5; have HO5 := Lib.hid hown5; have HM5 := Lib.hid (HM3.out.pres fun k _ hk _ => hb5.block k hk); have HB5 := Lib.hid (HB3.out.trans (hb5.mono hU1)); have hU5 : U ≤ w5.heap.size := Nat.le_trans hU3 hb5.size; clear hown5 hb5)
                    go_roundw
                    case rel => exact ⟨J + 1, D + 1, d5, ad5, _, _, _, rfl, rfl, by go_num, by omega, by omega, HO5.out, HM5.out, fun i hi => clear_len i, fun i hi j hj => clear_bd hp2 i hj, Hn.out, HB5.out, hU5⟩
                    case measure => simp [intOf]; omega
                  · have He : Hid (nth (R A) J = 0) := Lib.hid (by rw [← Hx.out]; simpa using hz)
                    have Hfd : Hid (findR R J I (I - (A + 1)) (A + 1) = findR R J I (I - D) D) := Lib.hid (by
                      rw [← Hf.out, show I - A = (I - (A + 1)) + 1 by omega]
                      rw [findR, if_pos ⟨hA, He.out⟩])
                    clear Hgc
                    go_wp2_with fail
                    go_round
                    case rel => exact ⟨A + 1, by omega, by omega, by go_num, Hfd.out⟩
                    case measure => simp [intOf]; omega
                · obtain rfl : A = I := by omega
                  have hAA : ¬ ((A : Int) < A) := by omega
                  have hAe : ((A : Int) == (A : Int)) = true := by simp
                  have Hn : Hid (redR p A n0 (n0 - (J + 1)) (J + 1) D R = RK) := Lib.hid (by
                    have h0 := Hf.out
                    rw [Nat.sub_self] at h0
                    have h1 : findR R J A 0 A = A := rfl
                    rw [h1] at h0
                    have := Hred.out
                    rw [show n0 - J = (n0 - (J + 1)) + 1 by omega] at this
                    unfold redR at this
                    rw [if_pos hDI, ← h0, if_pos rfl] at this
                    exact this)
                  clear Hgc
                  go_wp2_with fail
                  go_roundw
                  case rel => exact ⟨J + 1, D, k1, ad1, ps, f, R, rfl, rfl, by go_num, by omega, hD, HO1.out, HM.out, Hl.out, Hb.out, Hn.out, HBl.out, hUw⟩
                  case measure => simp [intOf]; omega
            · obtain rfl : D = I := by omega
              have hDD : ¬ ((D : Int) < D) := by omega
              have HR1 : Hid (RK = D) := Lib.hid (by rw [← Hred.out]; exact redR_end _ _ _ _ _ _ _ (by omega))
              clear Hgc
              go_wp2_with fail
              refine bodyPost_ret (v := .tuple #[.slice (some ⟨g, 0, none⟩) D k, .slice ad1 D k1]) (by simp [results, Tryz.results188, go_sem]) rfl ?_
              first | exact ⟨_, _, _, by rw [HR1.out], by rw [← HBe.out]; exact HBl.out⟩ | exact ⟨⟨_, _, _, by rw [HR1.out]⟩, by rw [← HBe.out]; exact HBl.out⟩
          · obtain rfl : J = n0 := by omega
            have hJJ : ¬ ((J : Int) < J) := by omega
            have HR1 : Hid (RK = D) := Lib.hid (by have := Hred.out; rw [Nat.sub_self] at this; exact this.symm)
            clear Hgc
            go_wp2_with fail
            refine bodyPost_ret (v := .tuple #[.slice (some ⟨g, 0, none⟩) I k, .slice ad1 D k1]) (by simp [results, Tryz.results188, go_sem]) rfl ?_
            first | exact ⟨_, _, _, by rw [HR1.out], by rw [← HBe.out]; exact HBl.out⟩ | exact ⟨⟨_, _, _, by rw [HR1.out]⟩, by rw [← HBe.out]; exact HBl.out⟩
theorem sRank_any (a : Option Addr) (m c N p : Nat) (L : List (List Int)) (R0 : Nat → List Int) (w : World) (h : RowsAt w a m L) (hp : Prm p) (hm : m ≤ 64) (hN : N ≤ 64)
    (hl : ∀ i, i < m → (nthL L i).length = N) (hb : ∀ i, i < m → ∀ j, j < N → -1000 ≤ nth (nthL L i) j ∧ nth (nthL L i) j ≤ 1000) (hR : ∀ i, i < m → R0 i = (nthL L i).map fun x => x % (p : Int)) :
    Calls Tryz.prog 141 #[.slice a m c, .int .i64 p] w fun e w' => e = .returned (.int .i64 (rankR p m N R0)) ∧ Below w.heap.size w w' := by
  have HC := Lib.hid (sReduce_any a m c N p L R0 w h hp hm hN hl hb hR)
  have hr : rankR p m N R0 ≤ 64 := by
    refine Nat.le_trans (dim_rank (R := R0) hp fun i hi j hj => ?_).1 hN
    rw [hR i hi, nth_map' (by rw [hl i hi]; exact hj)]
    have := prm_bd hp
    exact ⟨Int.emod_nonneg _ (by omega), Int.emod_lt_of_pos _ (by omega)⟩
  obtain ⟨r, hre⟩ : ∃ r, r = rankR p m N R0 := ⟨_, rfl⟩
  rw [← hre] at HC hr ⊢
  clear h hl hb hR hre
  go_enter Tryz.func141, Tryz.ntmps141
  go_wp2_with fail
  refine HC.out.mono ?_
  rintro e w1 ⟨v, ad, c2, rfl, hb⟩
  have HB := Lib.hid hb
  clear hb
  go_wp2_with fail
  go_ret
  exact ⟨rfl, HB.out⟩
end Go.Proofs.YtihfhfihladlcaaGreatDoor

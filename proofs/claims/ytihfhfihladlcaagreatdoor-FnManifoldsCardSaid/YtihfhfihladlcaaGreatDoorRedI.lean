/- reduceMod of the program: as many pivots as the plain elimination. -/
import Derived.Deep.RegionWith
import Derived.Deep.DeepCutAuto
import Derived.Test.YtihfhfihladlcaaGreatDoorInv
namespace Go.Proofs.YtihfhfihladlcaaGreatDoor
set_option maxRecDepth 20000
open Go.RowKit
set_option linter.unusedSimpArgs false
set_option linter.unusedVariables false

theorem swapR_comm (R : Nat → List Int) (i j : Nat) : swapR R i j = swapR R j i := by
  funext k
  unfold swapR
  by_cases e1 : k = i
  · by_cases e2 : k = j
    · rw [if_pos e1, if_pos e2, ← e1, ← e2]
    · rw [if_pos e1, if_neg e2, if_pos e1]
  · by_cases e2 : k = j
    · rw [if_neg e1, if_pos e2, if_pos e2]
    · rw [if_neg e1, if_neg e2, if_neg e2, if_neg e1]
theorem lenR {p n d c : Nat} {R : Nat → List Int} (i : Nat) : (clearR p n d c R i).length = n := by
  unfold clearR normR
  by_cases e : i = d
  · rw [if_pos e, mkL_len]
  · rw [if_neg e, mkL_len]
theorem bdR {p n d c : Nat} (hp : 2 ≤ p) {R : Nat → List Int} (i : Nat) {j : Nat} (hj : j < n) : 0 ≤ nth (clearR p n d c R i) j ∧ nth (clearR p n d c R i) j < p := by
  unfold clearR
  by_cases e : i = d
  · unfold normR; rw [if_pos e, nth_mkL, if_pos hj]; exact ⟨Int.emod_nonneg _ (by omega), Int.emod_lt_of_pos _ (by omega)⟩
  · rw [if_neg e, nth_mkL, if_pos hj]; exact ⟨Int.emod_nonneg _ (by omega), Int.emod_lt_of_pos _ (by omega)⟩
theorem endR (p m n : Nat) (k j d : Nat) (R : Nat → List Int) (h : ¬ d < m) : redR p m n k j d R = d := by
  cases k with
  | zero => rfl
  | succ k => unfold redR; rw [if_neg h]

/-- the state of elimination -/
structure Red (w wr : World) (B U g n N p J D RK : Nat) (f : Nat → Sl) (R : Nat → List Int) : Prop where
  mx : Mx wr B U (some ⟨g, 0, none⟩) n n f R
  len : ∀ i, i < n → (R i).length = N
  bd : ∀ i, i < n → ∀ j, j < N → 0 ≤ nth (R i) j ∧ nth (R i) j < p
  red : redR p n N (N - J) J D R = RK
  below : Below B w wr
  size : U ≤ wr.heap.size
set_option maxRecDepth 100000 in
set_option maxHeartbeats 8000000 in
theorem reduce_any (g n N p : Nat) (f0 : Nat → Sl) (R0 : Nat → List Int) (w : World) (B U : Nat) (h : Mx w B U (some ⟨g, 0, none⟩) n n f0 R0) (hp : Prm p) (hn0 : 0 < n) (hn : n ≤ 64) (hN : N ≤ 64) (hBU : B ≤ U) (hUw : U ≤ w.heap.size)
    (hl : ∀ i, i < n → (R0 i).length = N) (hb : ∀ i, i < n → ∀ j, j < N → 0 ≤ nth (R0 i) j ∧ nth (R0 i) j < p) :
    Calls Tryz.prog 219 #[.slice (some ⟨g, 0, none⟩) n n, .int .i64 N, .int .i64 p] w fun e w' => ∃ ad c2, e = .returned (.slice ad (rankR p n N R0) c2) ∧ Below B w w' := by
  obtain ⟨hp2, hp5⟩ := prm_bd hp
  obtain ⟨RK, hRK⟩ : ∃ r, r = rankR p n N R0 := ⟨_, rfl⟩
  have HS0 : Hid (Red w w B U g n N p 0 0 RK f0 R0) := Lib.hid ⟨h, hl, hb, by rw [hRK]; rfl, Below.refl _ _, hUw⟩
  have HP := Lib.hid hp
  rw [← hRK]
  have hgU : g < U := h.hi _ rfl
  clear h hl hb hp hRK
  go_enter Tryz.func219, Tryz.ntmps219
  go_wp2_with fail
  go_loopw [7, 8] (fun q j wr => ∃ (J D k1 : Nat) (ad1 : Option Addr) (ps : List Int) (f : Nat → Sl) (R : Nat → List Int), q = .slice ad1 D k1 ∧ j = .int .i64 J ∧ J ≤ N ∧ D ≤ n ∧ Own 3 wr U ad1 D k1 ps ∧ Red w wr B U g n N p J D RK f R) (fun _ j _ => N - (intOf j).toNat)
  case atStart => exact ⟨0, 0, 0, none, [], f0, R0, rfl, rfl, Nat.zero_le _, Nat.zero_le _, Own.nil _ _ _, HS0.out⟩
  case round =>
    clear HS0
    obtain ⟨w1, rfl⟩ : ∃ x : World, x = wr := ⟨_, rfl⟩
    obtain ⟨J, D, k1, ad1, ps, f, R, rfl, rfl, hJ, hD, hone, hst⟩ := hrel
    have HO1 := Lib.hid hone; have HS := Lib.hid hst
    clear hone hst
    by_cases hJN : J < N
    · have hJi : (J : Int) < N := by omega
      by_cases hDn : D < n
      · have hDi : (D : Int) < n := by omega
        go_wp2_with fail
        go_loop [10] (fun t => ∃ A : Nat, D ≤ A ∧ A ≤ n ∧ t = .int .i64 A ∧ findR R J n (n - A) A = findR R J n (n - D) D) (fun t => n - (intOf t).toNat)
        case atStart => exact ⟨D, Nat.le_refl _, hD, rfl, rfl⟩
        case round =>
          obtain ⟨A, hDA, hAn, rfl, hfind⟩ := hrel
          have Hf := Lib.hid hfind
          clear hfind
          obtain ⟨g', hg', _, _, _, hgc⟩ := HS.out.mx.head (by omega)
          cases hg'
          by_cases hA : A < n
          · have hAi : (A : Int) < n := by omega
            have hA0 : (0 : Int) ≤ A := by omega
            have hJ0 : (0 : Int) ≤ J := by omega
            have hD0 : (0 : Int) ≤ D := by omega
            obtain ⟨gA, kA, hfA, _, _, _, hcA⟩ := HS.out.mx.at (i := A) hA (HS.out.len A hA) (by omega)
            have hcell := (hgc A hA).1
            rw [hfA] at hcell
            simp only [Sl.val] at hcell
            have hx := (hcA J hJN).1
            have HfA := Lib.hid hfA
            obtain ⟨x, hx2⟩ : ∃ x, x = nth (R A) J := ⟨_, rfl⟩
            rw [← hx2] at hx
            have Hx := Lib.hid hx2
            obtain ⟨z, hz⟩ : ∃ z, (x == 0) = z := ⟨_, rfl⟩
            clear hcA hfA hx2
            cases z
            · -- the pivot's row
              have Hne : Hid (nth (R A) J ≠ 0) := Lib.hid (by rw [← Hx.out]; simpa using hz)
              have Hfd : Hid (findR R J n (n - D) D = A) := Lib.hid (by
                rw [← Hf.out, show n - A = (n - A - 1) + 1 by omega]
                unfold findR
                rw [if_neg fun h => Hne.out h.2])
              have hAI2 : ((A : Int) == (n : Int)) = false := by simp; omega
              have hcD := (hgc D hDn).1
              obtain ⟨⟨aD, nD, cD⟩, hfD⟩ : ∃ x, x = f D := ⟨_, rfl⟩
              rw [← hfD] at hcD
              simp only [Sl.val] at hcD
              have hfr1 := (hgc A hA).2
              have hfr2 := (hgc D hDn).2
              have Hn : Hid (redR p n N (N - (J + 1)) (J + 1) (D + 1) (clearR p N D J (swapR R D A)) = RK) := Lib.hid (by
                have := HS.out.red
                rw [show N - J = (N - (J + 1)) + 1 by omega] at this
                unfold redR at this
                rw [if_pos hDn, Hfd.out, if_neg (by omega)] at this
                exact this)
              have HSl : Hid (∀ i, i < n → (swapR R D A i).length = N) := Lib.hid fun i hi => swapR_at (Q := fun r => r.length = N) (fun _ => HS.out.len _ hA) (fun _ => HS.out.len _ hDn) (fun _ _ => HS.out.len _ hi)
              have HSb : Hid (∀ i, i < n → ∀ j, j < N → 0 ≤ nth (swapR R D A i) j ∧ nth (swapR R D A i) j < p) := Lib.hid fun i hi j hj => swapR_at (Q := fun r => 0 ≤ nth r j ∧ nth r j < p) (fun _ => HS.out.bd _ hA j hj) (fun _ => HS.out.bd _ hDn j hj) (fun _ _ => HS.out.bd _ hi j hj)
              have HSw : Hid (Mx ((w1.setCell ⟨g, D, none⟩ (.slice (some ⟨gA, 0, none⟩) N kA)).setCell ⟨g, A, none⟩ (.slice aD nD cD)) B U (some ⟨g, 0, none⟩) n n (fun r => if r = A then f D else if r = D then f A else f r) (swapR R D A)) := Lib.hid (by
                have := HS.out.mx.swap rfl hA hDn
                rw [show (f D).val = .slice aD nD cD by rw [← hfD]; rfl, show (f A).val = .slice (some ⟨gA, 0, none⟩) N kA by rw [HfA.out]; rfl, swapR_comm R A D] at this
                exact this)
              have HWs : Hid (Within w1 ((w1.setCell ⟨g, D, none⟩ (.slice (some ⟨gA, 0, none⟩) N kA)).setCell ⟨g, A, none⟩ (.slice aD nD cD)) B U) := Lib.hid (((Within.refl w1 B U).set (by omega) hgU _ _).set (by omega) hgU _ _)
              have hcell2 : (w1.setCell ⟨g, D, none⟩ (.slice (some ⟨gA, 0, none⟩) N kA)).cell? ⟨g, A, none⟩ = some (.slice (some ⟨gA, 0, none⟩) N kA) := by
                by_cases e : A = D
                · rw [e]; exact World.cell?_setCell_same w1 _ _ hcD
                · rw [World.cell?_setCell_other w1 _ _ _ (by first | (simp; done) | (simp; omega))]; exact hcell
              clear Hx Hne hgc
              go_upto_region 10 with fail
              go_cut [8] (fun v W => v = .int .i64 J ∧ Mx W B U (some ⟨g, 0, none⟩) n n (fun r => if r = A then f D else if r = D then f A else f r) (swapR R D A) ∧ Within w1 W B U)
              case first =>
                go_region
                all_goals (go_wp2_with fail; go_meet)
                all_goals exact ⟨rfl, HSw.out.drew, HWs.out.drew⟩
              case rest =>
                obtain ⟨rfl, hmx, hwi⟩ := hcut
                obtain ⟨R2, hR2⟩ : ∃ r, r = swapR R D A := ⟨_, rfl⟩
                obtain ⟨f2, hf2⟩ : ∃ r, r = (fun r => if r = A then f D else if r = D then f A else f r) := ⟨_, rfl⟩
                rw [← hR2] at Hn HSl HSb hmx
                rw [← hf2] at hmx
                have HM := Lib.hid hmx
                have hO2 := HO1.out.wit hwi (Nat.le_refl _)
                have HO2 := Lib.hid hO2
                have hb2 : Below B w wc := below_within HS.out.below hwi (Nat.le_refl _) (Nat.le_trans hBU HS.out.size)
                have HB2 := Lib.hid hb2
                have hU2 : U ≤ wc.heap.size := Nat.le_trans HS.out.size hwi.size
                clear hR2 hf2 hmx hwi hO2 hb2 HSw HWs HO1 HS hx hz hcell hcell2 hcD hfr1 hfr2 hfD HfA Hfd Hf
                obtain ⟨g', hg', _, _, _, hgc⟩ := HM.out.head (by omega)
                cases hg'
                obtain ⟨gd, kd, hfd, hd1, hd2, hd3, hdc⟩ := HM.out.at hDn (HSl.out D hDn) (by omega)
                have Hfd := Lib.hid hfd
                have hcd := (hgc D hDn).1
                rw [hfd] at hcd
                simp only [Sl.val] at hcd
                have hvc := (hdc J hJN).1
                have hvb := HSb.out D hDn J hJN
                obtain ⟨v, hv⟩ := Int.eq_ofNat_of_zero_le hvb.1
                rw [hv] at hvc hvb
                have hvp : v < p := by omega
                have Hv := Lib.hid hv
                have hI := invM_bd HP.out (v : Int)
                have HInv : Hid (∀ W, Calls Tryz.prog 228 #[.int .i64 v, .int .i64 p] W fun e w' => e = .returned (.int .i64 (invM p v)) ∧ W = w') := Lib.hid fun W => iInv_any v p W HP.out hvp
                obtain ⟨b, hbe⟩ := Int.eq_ofNat_of_zero_le hI.1
                rw [hbe] at HInv hI
                have Hbe := Lib.hid hbe
                have hbp : b < p := by omega
                clear hgc hdc hfd hv hI hvb hbe
                go_wp2_with (go_at_call 228; (with_reducible refine (HInv.out _).mono ?_); rintro e w' ⟨rfl, rfl⟩)
                clear hcd hvc
                obtain ⟨nrm, hnrm⟩ : ∃ nrm : Nat → Int, nrm = fun j => nth (R2 D) j * b % p := ⟨_, rfl⟩
                have Hnrm : Hid (normR p N (R2 D) J = mkL N nrm) := Lib.hid (by rw [hnrm]; unfold normR; rw [Hv.out, Hbe.out])
                have Hna : Hid (∀ j, nrm j = nth (R2 D) j * b % p) := Lib.hid fun j => by rw [hnrm]
                clear hnrm
                go_loopw [12, 79] (fun _ i wr => ∃ K : Nat, K ≤ N ∧ i = .int .i64 K ∧ Mx wr B U (some ⟨g, 0, none⟩) n n f2 (fun r => if r = D then partL N K nrm (nth (R2 D)) else R2 r) ∧ Within wc wr B U) (fun _ i _ => N - (intOf i).toNat)
                case atStart => exact ⟨0, Nat.zero_le _, rfl, HM.out.congr fun r hr => by
                  by_cases e : r = D
                  · rw [if_pos e, e, partL_zero (HSl.out D hDn)]
                  · rw [if_neg e], Within.refl _ _ _⟩
                case round =>
                  clear HM
                  obtain ⟨K, hK, rfl, hm, hwi⟩ := hrel
                  have HMr := Lib.hid hm; have HWr := Lib.hid hwi
                  obtain ⟨g', hg', _, _, _, hgc⟩ := hm.head (by omega)
                  cases hg'
                  have hcd := (hgc D hDn).1
                  rw [Hfd.out] at hcd
                  simp only [Sl.val] at hcd
                  clear hm hwi hgc
                  by_cases hlt : K < N
                  · obtain ⟨g2, k2, hf2, _, _, _, hdc⟩ := HMr.out.at (N := N) hDn (by rw [if_pos rfl, partL_len]) (by omega)
                    rw [Hfd.out] at hf2
                    simp only [Prod.mk.injEq, Option.some.injEq, Addr.mk.injEq, and_true, true_and] at hf2
                    obtain ⟨rfl, rfl⟩ := hf2
                    have hx := (hdc K hlt).1
                    have hfz := (hdc K hlt).2
                    rw [if_pos rfl, partL_at hlt] at hx
                    have hxb := HSb.out D hDn K hlt
                    obtain ⟨x, hxe⟩ := Int.eq_ofNat_of_zero_le hxb.1
                    rw [hxe] at hx hxb
                    have hxp : x < p := by omega
                    have Hset := Lib.hid fun u => HMr.out.write hDn Hfd.out K u
                    have Hval : Hid (nrm K = ((x : Int) * b) % p) := Lib.hid (by rw [Hna.out, hxe])
                    have hK0 : (0 : Int) ≤ K := by omega
                    have hKN : (K : Int) < N := by omega
                    clear hdc hxb hxe
                    go_wp2_with fail
                    have Hw : Hid ((wrap64 ((x : Int) * b)).tmod p = nrm K) := Lib.hid (by
                      rw [Hval.out]
                      have h1 : (x : Int) * b ≤ 5 * 5 := Int.mul_le_mul (by omega) (by omega) (by omega) (by omega)
                      have h0 : 0 ≤ (x : Int) * b := Int.mul_nonneg (by omega) (by omega)
                      rw [show wrap64 ((x : Int) * b) = (x : Int) * b by unfold wrap64; omega]
                      exact Int.tmod_eq_emod_of_nonneg h0)
                    have HMn : Hid (Mx (wr.setCell ⟨gd, K, none⟩ (.int .i64 (nrm K))) B U (some ⟨g, 0, none⟩) n n f2 (fun r => if r = D then partL N (K + 1) nrm (nth (R2 D)) else R2 r)) := Lib.hid ((Hset.out (nrm K)).congr fun r hr => by
                      by_cases e : r = D
                      · subst e; simp [partL_set hlt]
                      · simp [e])
                    have HWn := Lib.hid (HWr.out.set (g := gd) (by omega) (by omega) K (.int .i64 (nrm K)))
                    clear Hset Hval
                    go_region
                    all_goals (
                      go_wp2_with fail
                      go_roundw
                      case rel => exact ⟨K + 1, by omega, by go_num, by rw [Hw.out]; exact HMn.out.drew, by rw [Hw.out]; exact HWn.out.drew⟩
                      case measure => simp [intOf]; omega)
                  · obtain rfl : K = N := by omega
                    have hKK : ¬ ((K : Int) < K) := by omega
                    have HM1 : Hid (Mx wr B U (some ⟨g, 0, none⟩) n n f2 (fun r => if r = D then mkL K nrm else R2 r)) := Lib.hid (by have := HMr.out; rwa [partL_all] at this)
                    obtain ⟨clr, hclr⟩ : ∃ clr : Nat → Nat → Int, clr = fun r j => (nth (R2 r) j - nth (R2 r) J * nrm j) % p := ⟨_, rfl⟩
                    have Hend : Hid (∀ i, clearR p K D J R2 i = if i = D then mkL K nrm else mkL K (clr i)) := Lib.hid fun i => by
                      unfold clearR
                      rw [Hnrm.out]
                      by_cases e : i = D
                      · rw [if_pos e, if_pos e]
                      · rw [if_neg e, if_neg e, hclr]
                        exact mkL_congr fun j hj => by rw [nth_mkL, if_pos hj]
                    have Hclr : Hid (∀ r j, clr r j = (nth (R2 r) j - nth (R2 r) J * nrm j) % p) := Lib.hid fun r j => by rw [hclr]
                    have Hnb : Hid (∀ j, 0 ≤ nrm j ∧ nrm j < p) := Lib.hid fun j => by rw [Hna.out]; exact ⟨Int.emod_nonneg _ (by omega), Int.emod_lt_of_pos _ (by omega)⟩
                    clear hclr HMr hlt hK Hna Hnrm
                    go_wp2_with fail
                    clear hcd hKK
                    go_loopw [13, 14, 15, 102] (fun _ _ _ i wr => ∃ I : Nat, I ≤ n ∧ i = .int .i64 I ∧ Mx wr B U (some ⟨g, 0, none⟩) n n f2 (fun r => if r = D then mkL K nrm else if r < I then mkL K (clr r) else R2 r) ∧ Within wc wr B U) (fun _ _ _ i _ => n - (intOf i).toNat)
                    case atStart => exact ⟨0, Nat.zero_le _, rfl, HM1.out.congr fun r hr => by
                      by_cases e : r = D
                      · rw [if_pos e, if_pos e]
                      · rw [if_neg e, if_neg e]; simp, HWr.out⟩
                    case round =>
                      clear HM1 HWr
                      obtain ⟨wo, rfl⟩ : ∃ x : World, x = wr := ⟨_, rfl⟩
                      obtain ⟨I, hI, rfl, hm, hwi⟩ := hrel
                      have HMr := Lib.hid hm; have HWr := Lib.hid hwi
                      obtain ⟨g', hg', _, _, _, hgc⟩ := hm.head (by omega)
                      cases hg'
                      clear hm hwi
                      by_cases hlt : I < n
                      · have hI0 : (0 : Int) ≤ I := by omega
                        have hIn : (I : Int) < n := by omega
                        by_cases hId : I = D
                        · have hne : ((I : Int) == (D : Int)) = true := by simp; omega
                          have Hnx : Hid (Mx wo B U (some ⟨g, 0, none⟩) n n f2 (fun r => if r = D then mkL K nrm else if r < I + 1 then mkL K (clr r) else R2 r)) := Lib.hid (HMr.out.congr fun r hr => by
                            by_cases e : r = D
                            · rw [if_pos e, if_pos e]
                            · rw [if_neg e, if_neg e]
                              by_cases e2 : r < I
                              · rw [if_pos e2, if_pos (by omega)]
                              · rw [if_neg e2, if_neg (by omega)])
                          clear hgc HMr hId
                          go_wp2_with fail
                          go_roundw
                          case rel => exact ⟨I + 1, by omega, by go_num, Hnx.out, HWr.out⟩
                          case measure => simp [intOf]; omega
                        · have hne : ((I : Int) == (D : Int)) = false := by simp; omega
                          have HrI : Hid ((if I = D then mkL K nrm else if I < I then mkL K (clr I) else R2 I) = R2 I) := Lib.hid (by
                            rw [if_neg hId, if_neg (Nat.lt_irrefl _)])
                          obtain ⟨g2, k2, hf2, hg21, hg22, hg23, hdc⟩ := HMr.out.at (N := K) hlt (by rw [HrI.out]; exact HSl.out I hlt) (by omega)
                          have hci := (hgc I hlt).1
                          rw [hf2] at hci
                          simp only [Sl.val] at hci
                          have hxc := (hdc J hJN).1
                          rw [HrI.out] at hxc
                          have Hf2 := Lib.hid hf2
                          have hFb := HSb.out I hlt J hJN
                          obtain ⟨F, hF⟩ := Int.eq_ofNat_of_zero_le hFb.1
                          rw [hF] at hxc hFb
                          have hFp : F < p := by omega
                          have HF := Lib.hid hF
                          have hK0 : (0 : Int) < K := by omega
                          clear hgc hdc hf2 hF hFb
                          by_cases hF0 : F = 0
                          · subst hF0
                            have Hnx : Hid (Mx wo B U (some ⟨g, 0, none⟩) n n f2 (fun r => if r = D then mkL K nrm else if r < I + 1 then mkL K (clr r) else R2 r)) := Lib.hid (HMr.out.congr fun r hr => by
                              by_cases e : r = D
                              · rw [if_pos e, if_pos e]
                              · rw [if_neg e, if_neg e]
                                by_cases e2 : r < I
                                · rw [if_pos e2, if_pos (by omega)]
                                · rw [if_neg e2]
                                  by_cases e3 : r = I
                                  · subst e3
                                    rw [if_pos (by omega), ← mkL_nth (HSl.out r hlt)]
                                    refine mkL_congr fun j hj => ?_
                                    have hbd := HSb.out r hlt j hj
                                    rw [Hclr.out, HF.out]
                                    simp only [Int.ofNat_zero, Int.zero_mul, Int.sub_zero, Int.natCast_zero]
                                    first | exact (Int.emod_eq_of_lt hbd.1 hbd.2).symm | (simp; exact (Int.emod_eq_of_lt hbd.1 hbd.2).symm)
                                  · rw [if_neg (by omega)])
                            clear HMr
                            go_wp2_with fail
                            go_roundw
                            case rel => exact ⟨I + 1, by omega, by go_num, Hnx.out, HWr.out⟩
                            case measure => simp [intOf]; omega
                          · have hFn : ((F : Int) == 0) = false := by simp; omega
                            obtain ⟨G, hG⟩ : ∃ G : Nat, G = p - F := ⟨_, rfl⟩
                            have hGi : (p : Int) - F = G := by omega
                            have hGw : IntKind.i64.wrap ((p : Int) - F) = G := by rw [hGi]; exact IntWalk.i64_in _ (by omega)
                            have hGw2 : wrap64 ((p : Int) - F) = G := by unfold wrap64; omega
                            have HGi := Lib.hid hGi
                            have hGp : G < p := by omega
                            clear hF0 hG
                            go_wp2_with fail
                            clear hci hxc
                            go_loopw [15, 132] (fun _ j wr => ∃ M : Nat, M ≤ K ∧ j = .int .i64 M ∧ Mx wr B U (some ⟨g, 0, none⟩) n n f2 (fun r => if r = D then mkL K nrm else if r < I then mkL K (clr r) else if r = I then partL K M (clr I) (nth (R2 I)) else R2 r) ∧ Within wc wr B U) (fun _ j _ => K - (intOf j).toNat)
                            case atStart => exact ⟨0, Nat.zero_le _, rfl, HMr.out.congr fun r hr => by
                              by_cases e : r = D
                              · rw [if_pos e, if_pos e]
                              · rw [if_neg e, if_neg e]
                                by_cases e2 : r < I
                                · rw [if_pos e2, if_pos e2]
                                · rw [if_neg e2, if_neg e2]
                                  by_cases e3 : r = I
                                  · rw [if_pos e3, e3, partL_zero (HSl.out I hlt)]
                                  · rw [if_neg e3], HWr.out⟩
                            case round =>
                              clear HMr HWr
                              obtain ⟨M, hM, rfl, hm, hwi⟩ := hrel
                              have HMr := Lib.hid hm; have HWr := Lib.hid hwi
                              obtain ⟨g', hg', _, _, _, hgc⟩ := hm.head (by omega)
                              cases hg'
                              have hci := (hgc I hlt).1
                              rw [Hf2.out] at hci
                              simp only [Sl.val] at hci
                              have hcd := (hgc D hDn).1
                              rw [Hfd.out] at hcd
                              simp only [Sl.val] at hcd
                              clear hm hwi hgc
                              by_cases hltM : M < K
                              · have HrK : Hid ((if I = D then mkL K nrm else if I < I then mkL K (clr I) else if I = I then partL K M (clr I) (nth (R2 I)) else R2 I) = partL K M (clr I) (nth (R2 I))) := Lib.hid (by
                                  rw [if_neg hId, if_neg (Nat.lt_irrefl _), if_pos rfl])
                                obtain ⟨g3, k3, hf3, _, _, _, hdc⟩ := HMr.out.at (N := K) hlt (by rw [HrK.out, partL_len]) (by omega)
                                rw [Hf2.out] at hf3
                                simp only [Prod.mk.injEq, Option.some.injEq, Addr.mk.injEq, and_true, true_and] at hf3
                                obtain ⟨rfl, rfl⟩ := hf3
                                have hx := (hdc M hltM).1
                                have hfz := (hdc M hltM).2
                                rw [HrK.out, partL_at hltM] at hx
                                have hxb := HSb.out I hlt M hltM
                                obtain ⟨x, hxe⟩ := Int.eq_ofNat_of_zero_le hxb.1
                                rw [hxe] at hx hxb
                                have hxp : x < p := by omega
                                obtain ⟨g4, k4, hf4, _, _, _, hdd⟩ := HMr.out.at (i := D) (N := K) hDn (by rw [if_pos rfl, mkL_len]) (by omega)
                                rw [Hfd.out] at hf4
                                simp only [Prod.mk.injEq, Option.some.injEq, Addr.mk.injEq, and_true, true_and] at hf4
                                obtain ⟨rfl, rfl⟩ := hf4
                                have hz := (hdd M hltM).1
                                rw [if_pos rfl, nth_mkL, if_pos hltM] at hz
                                have hzb := Hnb.out M
                                obtain ⟨z, hze⟩ := Int.eq_ofNat_of_zero_le hzb.1
                                rw [hze] at hz hzb
                                have hzp : z < p := by omega
                                have Hset := Lib.hid fun u => HMr.out.write hlt Hf2.out M u
                                have hval : clr I M = ((x : Int) - F * z) % p := by rw [Hclr.out, hxe, HF.out, hze]
                                have hm1 : (G : Int) * z ≤ 5 * 5 := Int.mul_le_mul (by omega) (by omega) (by omega) (by omega)
                                have hm0 : 0 ≤ (G : Int) * z := Int.mul_nonneg (by omega) (by omega)
                                obtain ⟨y, hy⟩ : ∃ y, y = clr I M := ⟨_, rfl⟩
                                have Hw : Hid ((wrap64 ((x : Int) + wrap64 ((G : Int) * z))).tmod p = y) := Lib.hid (by
                                  rw [hy, hval, show wrap64 ((G : Int) * z) = (G : Int) * z by unfold wrap64; omega, show wrap64 ((x : Int) + (G : Int) * z) = (x : Int) + (G : Int) * z by unfold wrap64; omega, Int.tmod_eq_emod_of_nonneg (by omega)]
                                  refine mod_of_dvd ⟨z, ?_⟩
                                  rw [← HGi.out, Int.sub_mul]; omega)
                                have HMn : Hid (Mx (wr.setCell ⟨g2, M, none⟩ (.int .i64 y)) B U (some ⟨g, 0, none⟩) n n f2 (fun r => if r = D then mkL K nrm else if r < I then mkL K (clr r) else if r = I then partL K (M + 1) (clr I) (nth (R2 I)) else R2 r)) := Lib.hid ((Hset.out y).congr fun r hr => by
                                  by_cases e : r = I
                                  · subst e
                                    rw [hy]
                                    simp [hId, partL_set hltM]
                                  · simp [e])
                                have HWn := Lib.hid (HWr.out.set (g := g2) (by omega) (by omega) M (.int .i64 y))
                                have hM0 : (0 : Int) ≤ M := by omega
                                have hMK : (M : Int) < K := by omega
                                clear hdc hdd hxe hxb hze hzb Hset hval hm1 hm0 hy hltM
                                go_wp2_with fail
                                go_region
                                all_goals (
                                  go_wp2_with fail
                                  go_roundw
                                  case rel => exact ⟨M + 1, by omega, by go_num, by rw [Hw.out]; exact HMn.out.drew, by rw [Hw.out]; exact HWn.out.drew⟩
                                  case measure => simp [intOf]; omega)
                              · obtain rfl : M = K := by omega
                                have hMM : ¬ ((M : Int) < M) := by omega
                                go_wp2_with fail
                                go_roundw
                                case rel => exact ⟨I + 1, by omega, by go_num, HMr.out.congr fun r hr => by
                                  by_cases e : r = D
                                  · rw [if_pos e, if_pos e]
                                  · rw [if_neg e, if_neg e]
                                    by_cases e2 : r < I
                                    · rw [if_pos e2, if_pos (by omega)]
                                    · rw [if_neg e2]
                                      by_cases e3 : r = I
                                      · rw [if_pos e3, if_pos (by omega), partL_all, e3]
                                      · rw [if_neg e3, if_neg (by omega)], HWr.out⟩
                                case measure => simp [intOf]; omega
                      · obtain rfl : I = n := by omega
                        have hII : ¬ ((I : Int) < I) := by omega
                        have HM3 : Hid (Mx wo B U (some ⟨g, 0, none⟩) I I f2 (clearR p K D J R2)) := Lib.hid (HMr.out.congr fun r hr => by
                          rw [Hend.out]
                          by_cases e : r = D
                          · rw [if_pos e, if_pos e]
                          · rw [if_neg e, if_neg e, if_pos hr])
                        have HO3 := Lib.hid (HO2.out.wit HWr.out (Nat.le_refl _))
                        have hU3 : U ≤ wo.heap.size := Nat.le_trans hU2 HWr.out.size
                        have HB3 : Hid (Below B w wo) := Lib.hid (below_within HB2.out HWr.out (Nat.le_refl _) (Nat.le_trans hBU hU2))
                        clear hgc HMr
                        go_wp2_with (at_builtin; refine ap rfl _ _ rfl U _ _ _ _ _ rfl HO3.out rfl (by omega) hU3 ?_; intro ad5 d5 w5 hown5 hb5; have HO5 := Lib.hid hown5; have HM5 := Lib.hid (HM3.out.pres fun k _ hk _ => hb5.block k hk); have HB5 := Lib.hid (HB3.out.trans (hb5.mono hBU)); have hU5 : U ≤ w5.heap.size := Nat.le_trans hU3 hb5.size; clear hown5 hb5)
                        go_roundw
                        case rel => exact ⟨J + 1, D + 1, d5, ad5, _, f2, _, rfl, by go_num, by omega, by omega, HO5.out, HM5.out, fun i hi => lenR i, fun i hi j hj => bdR hp2 i hj, Hn.out, HB5.out, hU5⟩
                        case measure => simp [intOf]; omega
            · have He : Hid (nth (R A) J = 0) := Lib.hid (by rw [← Hx.out]; simpa using hz)
              have Hfd : Hid (findR R J n (n - (A + 1)) (A + 1) = findR R J n (n - D) D) := Lib.hid (by
                rw [← Hf.out, show n - A = (n - (A + 1)) + 1 by omega]
                rw [findR, if_pos ⟨hA, He.out⟩])
              clear hgc
              go_wp2_with fail
              go_round
              case rel => exact ⟨A + 1, by omega, by omega, by go_num, Hfd.out⟩
              case measure => simp [intOf]; omega
          · obtain rfl : A = n := by omega
            have hAA : ¬ ((A : Int) < A) := by omega
            have hAe : ((A : Int) == (A : Int)) = true := by simp
            have Hn : Hid (redR p A N (N - (J + 1)) (J + 1) D R = RK) := Lib.hid (by
              have h0 := Hf.out
              rw [Nat.sub_self] at h0
              have h1 : findR R J A 0 A = A := rfl
              rw [h1] at h0
              have := HS.out.red
              rw [show N - J = (N - (J + 1)) + 1 by omega] at this
              unfold redR at this
              rw [if_pos hDn, ← h0, if_pos rfl] at this
              exact this)
            clear hgc
            go_wp2_with fail
            go_roundw
            case rel => exact ⟨J + 1, D, k1, ad1, ps, f, R, rfl, by go_num, by omega, hD, HO1.out, HS.out.mx, HS.out.len, HS.out.bd, Hn.out, HS.out.below, HS.out.size⟩
            case measure => simp [intOf]; omega
      · obtain rfl : D = n := by omega
        have hDD : ¬ ((D : Int) < D) := by omega
        have HR1 : Hid (RK = D) := Lib.hid (by rw [← HS.out.red]; exact endR _ _ _ _ _ _ _ (by omega))
        go_wp2_with fail
        go_ret
        exact ⟨⟨ad1, k1, by rw [HR1.out]; rfl⟩, HS.out.below⟩
    · obtain rfl : J = N := by omega
      have hJJ : ¬ ((J : Int) < J) := by omega
      have HR1 : Hid (RK = D) := Lib.hid (by have := HS.out.red; rw [Nat.sub_self] at this; exact this.symm)
      go_wp2_with fail
      go_ret
      exact ⟨⟨ad1, k1, by rw [HR1.out]; rfl⟩, HS.out.below⟩
end Go.Proofs.YtihfhfihladlcaaGreatDoor

/- Texts of this claim, one behind the other: what each says stands at its head. -/
import Derived.Test.YtihfhfihladlcaaGreatDoorChained
import Derived.Test.YtihfhfihladlcaaGreatDoorCore
import Derived.Test.YtihfhfihladlcaaGreatDoorFaces3
import Derived.Test.YtihfhfihladlcaaGreatDoorFlip
import Derived.Test.YtihfhfihladlcaaGreatDoorIdeal
import Derived.Test.YtihfhfihladlcaaGreatDoorIdeal2
import Derived.Test.YtihfhfihladlcaaGreatDoorRidge
import Derived.Test.YtihfhfihladlcaaGreatDoorTopo3
/- IsClosed and EdgeComplex of the reference. -/
namespace Go.Proofs.YtihfhfihladlcaaGreatDoor
set_option maxRecDepth 20000
open Go.RowKit
set_option linter.unusedSimpArgs false
set_option linter.unusedVariables false

theorem all2_yes {L : List Nat} (h : ∀ j, j < L.length → nthN L j = 2) : L.all (· == 2) = true := by
  rw [List.all_eq_true]
  intro x hx
  obtain ⟨j, hj, rfl⟩ := List.getElem_of_mem hx
  rw [← nthN_at2 hj, h j hj]; rfl
theorem all2_no {L : List Nat} {j : Nat} (hj : j < L.length) (h : nthN L j ≠ 2) : L.all (· == 2) = false := by
  rw [List.all_eq_false]
  exact ⟨nthN L j, nthN_mem2 hj, by simpa using h⟩
/-- the ridges that lie in one facet -/
def rd1 (l : List Nat) (T : Nat) : List Nat := (rds l T).filter fun r => cof l T r == 1
theorem rd1_lt (l : List Nat) (T : Nat) : ∀ r ∈ rd1 l T, r < 64 := fun r hr => rds_lt l T r (List.mem_filter.1 hr).1
theorem rdg_len (l : List Nat) (T : Nat) : (rdg l T).length = (rds l T).length := by unfold rdg; rw [List.length_map]
theorem rdg_at {l : List Nat} {T k : Nat} (h : k < (rds l T).length) : nthN (rdg l T) k = cof l T (nthN (rds l T) k) := by
  rw [nthN_at2 (by rw [rdg_len]; exact h), nthN_at2 h]
  unfold rdg; rw [List.getElem_map]
set_option maxHeartbeats 1000000 in
theorem sClosed_g (p : Int) (a : Option Addr) (n c : Nat) (xs : List Int) (L : List Nat) (P : Bool) (w : World) (h : IntsAt w a n xs)
    (hR : ∀ W, IntsAt W a n xs → Calls Tryz.prog 69 #[.agg #[.int .i64 p, .slice a n c]] W (RetInts W (up L)))
    (hP : ∀ W, IntsAt W a n xs → Calls Tryz.prog 149 #[.agg #[.int .i64 p, .slice a n c]] W fun e w' => e = .returned (.bool P) ∧ Below W.heap.size W w')
    (b : Bool) (hb : (L.all (· == 2) && (P && decide (0 < L.length))) = b) :
    Calls Tryz.prog 73 #[.agg #[.int .i64 p, .slice a n c]] w fun e w' => e = .returned (.bool b) ∧ Below w.heap.size w w' := by
  obtain ⟨w0, hw0⟩ : ∃ w0, w0 = w.alloc (.cells #[.int .i64 p, .slice a n c] 32) := ⟨_, rfl⟩
  have HB0 : Hid (Below w.heap.size w w0) := Lib.hid (by rw [hw0]; exact (by repeat (first | exact Below.refl _ _ | assumption | refine Below.setCell ?_ (by first | omega | (simp; done) | (simp; omega)) _ | refine Below.alloc ?_ (by first | omega | (simp; done) | (simp; omega)) _ | apply Below.drew)))
  have X0 : Hid (BoxF w0 w.heap.size (.int .i64 p) (.slice a n c)) := Lib.hid (by rw [hw0]; exact BoxF.new _ _ _ _)
  have Hx0 : Hid (IntsAt w0 a n xs) := Lib.hid (h.keep HB0.out)
  have HP := Lib.hid hP; have HR := Lib.hid hR; have HW0 := Lib.hid hw0; have Hb := Lib.hid hb
  clear h hP hR hw0 hb
  go_enter Tryz.func73, Tryz.ntmps73
  go_wp2_with fail
  rw [← HW0.out]
  refine (HR.out _ Hx0.out).mono ?_
  rintro e w1 ⟨ad, m, d, rfl, own, hb1⟩
  have HB1 := Lib.hid (HB0.out.trans (hb1.mono HB0.out.size))
  have X1 := Lib.hid (X0.out.keep hb1 X0.out.lt)
  have Hx1 := Lib.hid (Hx0.out.keep hb1)
  have HO := Lib.hid own.reads
  have hLm : L.length = m := by have := own.len; rwa [up_len] at this
  have HLm := Lib.hid hLm
  have hmm := HO.out.small
  clear hb1 own hLm
  obtain ⟨p0, p1, _, _, _⟩ := X1.out
  go_wp2_with fail
  go_loop [4] (fun k => ∃ I : Nat, I ≤ m ∧ k = .int .i64 I ∧ Hid (∀ j, j < I → nthN L j = 2)) (fun k => m - (intOf k).toNat)
  case atStart => exact ⟨0, Nat.zero_le _, rfl, Lib.hid fun j hj => absurd hj (Nat.not_lt_zero _)⟩
  case round =>
    obtain ⟨I, hI, rfl, hall⟩ := hrel
    by_cases hlt : I < m
    · obtain ⟨b1, o1, rfl, hc⟩ := HO.out.cells (by omega)
      have hck := hc I hlt
      rw [nth_up] at hck
      obtain ⟨x, hx⟩ : ∃ x, x = nthN L I := ⟨_, rfl⟩
      rw [← hx] at hck
      have Hx := Lib.hid hx; have Hlt := Lib.hid hlt
      have hI0 : (0 : Int) ≤ I := by omega
      have hIm : (I : Int) < m := by omega
      clear hc hx
      by_cases h2 : x = 2
      · have h2b : ((x : Int) != 2) = false := by simp; omega
        have Hall : Hid (∀ j, j < I + 1 → nthN L j = 2) := Lib.hid fun j hj => by
          rcases Nat.lt_or_ge j I with h | h
          · exact hall.out j h
          · obtain rfl : j = I := by omega
            rw [← Hx.out]; exact h2
        clear h2
        go_wp2_with fail
        go_round
        case rel => exact ⟨I + 1, Hlt.out, by go_num, Hall⟩
        case measure => have := Hlt.out; simp [intOf]; omega
      · have h2b : ((x : Int) != 2) = true := by simp; omega
        have hbf : b = false := by rw [← Hb.out, all2_no (j := I) (by rw [HLm.out]; exact hlt) (by rw [← Hx.out]; exact h2)]; rfl
        subst hbf
        clear h2
        go_wp2_with fail
        go_ret
        exact ⟨rfl, HB1.out⟩
    · obtain rfl : I = m := by omega
      have hII : ¬ ((I : Int) < I) := by omega
      have hbv : b = (P && decide (0 < I)) := by
        rw [← Hb.out, all2_yes (fun j hj => hall.out j (by rw [HLm.out] at hj; exact hj)), HLm.out, Bool.true_and]
      go_wp2_with fail
      refine (HP.out _ Hx1.out).mono ?_
      rintro e w2 ⟨rfl, hb2⟩
      have HB2 := Lib.hid (HB1.out.trans (hb2.mono HB1.out.size))
      clear hb2
      cases P
      · have : b = false := by rw [hbv]; rfl
        subst this
        clear hbv
        go_wp2_with fail
        go_ret
        exact ⟨rfl, HB2.out⟩
      · rw [Bool.true_and] at hbv
        by_cases h0 : 0 < I
        · have : b = true := by rw [hbv]; simpa using h0
          subst this
          have h0i : (0 : Int) < I := by omega
          clear hbv
          go_wp2_with fail
          go_ret
          exact ⟨rfl, HB2.out⟩
        · obtain rfl : I = 0 := by omega
          have : b = false := by rw [hbv]; rfl
          subst this
          clear hbv
          go_wp2_with fail
          go_ret
          exact ⟨rfl, HB2.out⟩
theorem sEdge_stop (p : Int) (a : Option Addr) (n c : Nat) (xs : List Int) (P : Bool) (d : Int) (w : World) (h : IntsAt w a n xs)
    (hD : ∀ W, IntsAt W a n xs → Calls Tryz.prog 78 #[.agg #[.int .i64 p, .slice a n c]] W fun e w' => e = .returned (.int .i64 d) ∧ Below W.heap.size W w')
    (hP : ∀ W, IntsAt W a n xs → Calls Tryz.prog 149 #[.agg #[.int .i64 p, .slice a n c]] W fun e w' => e = .returned (.bool P) ∧ Below W.heap.size W w')
    (hno : P = false ∨ d < 0) :
    Calls Tryz.prog 67 #[.agg #[.int .i64 p, .slice a n c]] w (RetBox2 w 0 [] false) := by
  obtain ⟨w0, hw0⟩ : ∃ w0, w0 = (w.alloc (.cells #[.int .i64 p, .slice a n c] 32)).alloc (.cells #[.int .i64 0, .slice none 0 0] 32) := ⟨_, rfl⟩
  have HB0 : Hid (Below w.heap.size w w0) := Lib.hid (by rw [hw0]; exact (by repeat (first | exact Below.refl _ _ | assumption | refine Below.setCell ?_ (by first | omega | (simp; done) | (simp; omega)) _ | refine Below.alloc ?_ (by first | omega | (simp; done) | (simp; omega)) _ | apply Below.drew)))
  have hz0 : w0.heap.size = w.heap.size + 2 := by rw [hw0]; simp
  have X0 : Hid (BoxF w0 w.heap.size (.int .i64 p) (.slice a n c)) := Lib.hid (by rw [hw0]; exact (BoxF.new _ _ _ _).alloc _)
  have Y0 : Hid (BoxF w0 (w.heap.size + 1) (.int .i64 0) (.slice none 0 0)) := Lib.hid (by
    have := BoxF.new (w.alloc (.cells #[.int .i64 p, .slice a n c] 32)) (.int .i64 0) (.slice none 0 0) 32
    rw [show (w.alloc (.cells #[.int .i64 p, .slice a n c] 32)).heap.size = w.heap.size + 1 by simp] at this
    rw [hw0]; exact this)
  have Hx0 : Hid (IntsAt w0 a n xs) := Lib.hid (h.keep HB0.out)
  have HP := Lib.hid hP; have HD := Lib.hid hD; have HW0 := Lib.hid hw0
  clear h hP hD hw0
  go_enter Tryz.func67, Tryz.ntmps67
  go_wp2_with fail
  rw [← HW0.out]
  refine (HP.out _ Hx0.out).mono ?_
  rintro e w1 ⟨rfl, hb1⟩
  have HB1 := Lib.hid (HB0.out.trans (hb1.mono HB0.out.size))
  have X1 := Lib.hid (X0.out.keep hb1 X0.out.lt)
  have Y1 := Lib.hid (Y0.out.keep hb1 Y0.out.lt)
  have Hx1 := Lib.hid (Hx0.out.keep hb1)
  clear hb1
  obtain ⟨p0, p1, _, _, _⟩ := X1.out
  cases P
  · obtain ⟨r0, r1, f0, f1, _⟩ := Y1.out
    go_wp2_with fail
    refine bodyPost_ret (v := .tuple #[.agg #[.int .i64 0, .slice none 0 0], .bool false]) (by simp [results, Tryz.results67, go_sem, r0, r1]) rfl ⟨none, 0, 0, rfl, Own.nil _ _ _, ?_⟩
    first | exact (HB1.out.setCell (by simp) _).setCell (by simp) _ | exact HB1.out
  · have hd : d < 0 := hno.resolve_left (by simp)
    go_wp2_with fail
    refine (HD.out _ Hx1.out).mono ?_
    rintro e w2 ⟨rfl, hb2⟩
    have HB2 := Lib.hid (HB1.out.trans (hb2.mono HB1.out.size))
    have Y2 := Lib.hid (Y1.out.keep hb2 Y1.out.lt)
    clear hb2
    obtain ⟨r0, r1, f0, f1, _⟩ := Y2.out
    go_wp2_with fail
    refine bodyPost_ret (v := .tuple #[.agg #[.int .i64 0, .slice none 0 0], .bool false]) (by simp [results, Tryz.results67, go_sem, r0, r1]) rfl ⟨none, 0, 0, rfl, Own.nil _ _ _, ?_⟩
    first | exact (HB2.out.setCell (by simp) _).setCell (by simp) _ | exact HB2.out
set_option maxHeartbeats 2000000 in
theorem sEdge_yes (p : Int) (a : Option Addr) (n c : Nat) (l : List Nat) (T : Nat) (w : World) (h : IntsAt w a n (up l)) (h2 : 2 ≤ T)
    (hD : ∀ W, IntsAt W a n (up l) → Calls Tryz.prog 78 #[.agg #[.int .i64 p, .slice a n c]] W fun e w' => e = .returned (.int .i64 ((T : Int) - 2)) ∧ Below W.heap.size W w')
    (hP : ∀ W, IntsAt W a n (up l) → Calls Tryz.prog 149 #[.agg #[.int .i64 p, .slice a n c]] W fun e w' => e = .returned (.bool true) ∧ Below W.heap.size W w')
    (hR : ∀ W, IntsAt W a n (up l) → Calls Tryz.prog 150 #[.agg #[.int .i64 p, .slice a n c]] W (RetInts W (up (rds l T))))
    (hC : ∀ W, IntsAt W a n (up l) → Calls Tryz.prog 69 #[.agg #[.int .i64 p, .slice a n c]] W (RetInts W (up (rdg l T)))) :
    Calls Tryz.prog 67 #[.agg #[.int .i64 p, .slice a n c]] w (RetBox2 w p (up (maxL (rd1 l T).contains)) true) := by
  obtain ⟨w0, hw0⟩ : ∃ w0, w0 = (w.alloc (.cells #[.int .i64 p, .slice a n c] 32)).alloc (.cells #[.int .i64 0, .slice none 0 0] 32) := ⟨_, rfl⟩
  have HB0 : Hid (Below w.heap.size w w0) := Lib.hid (by rw [hw0]; exact (by repeat (first | exact Below.refl _ _ | assumption | refine Below.setCell ?_ (by first | omega | (simp; done) | (simp; omega)) _ | refine Below.alloc ?_ (by first | omega | (simp; done) | (simp; omega)) _ | apply Below.drew)))
  have hz0 : w0.heap.size = w.heap.size + 2 := by rw [hw0]; simp
  have X0 : Hid (BoxF w0 w.heap.size (.int .i64 p) (.slice a n c)) := Lib.hid (by rw [hw0]; exact (BoxF.new _ _ _ _).alloc _)
  have Y0 : Hid (BoxF w0 (w.heap.size + 1) (.int .i64 0) (.slice none 0 0)) := Lib.hid (by
    have := BoxF.new (w.alloc (.cells #[.int .i64 p, .slice a n c] 32)) (.int .i64 0) (.slice none 0 0) 32
    rw [show (w.alloc (.cells #[.int .i64 p, .slice a n c] 32)).heap.size = w.heap.size + 1 by simp] at this
    rw [hw0]; exact this)
  have Hx0 : Hid (IntsAt w0 a n (up l)) := Lib.hid (h.keep HB0.out)
  obtain ⟨R, hRe⟩ : ∃ R, R = rds l T := ⟨_, rfl⟩
  have Hcn : Hid (∀ k, k < R.length → nthN (rdg l T) k = cof l T (nthN R k)) := Lib.hid fun k hk => by rw [hRe] at hk ⊢; exact rdg_at hk
  have Hcl : Hid ((rdg l T).length = R.length) := Lib.hid (by rw [hRe]; exact rdg_len l T)
  have Hr1 : Hid (rd1 l T = R.filter fun r => cof l T r == 1) := Lib.hid (by rw [hRe]; rfl)
  have Hr64 : Hid (∀ r ∈ rd1 l T, r < 64) := Lib.hid (rd1_lt l T)
  have HRn : Hid (R.length ≤ 64) := Lib.hid (by rw [hRe]; exact rds_len l T)
  rw [← hRe] at hR
  have HP := Lib.hid hP; have HD := Lib.hid hD; have HR := Lib.hid hR; have HC := Lib.hid hC; have HW0 := Lib.hid hw0
  have hT0 : ¬ ((T : Int) - 2 < 0) := by omega
  clear h hP hD hw0 hR hC hRe
  go_enter Tryz.func67, Tryz.ntmps67
  go_wp2_with fail
  rw [← HW0.out]
  refine (HP.out _ Hx0.out).mono ?_
  rintro e w1 ⟨rfl, hb1⟩
  have HB1 := Lib.hid (HB0.out.trans (hb1.mono HB0.out.size))
  have X1 := Lib.hid (X0.out.keep hb1 X0.out.lt)
  have Y1 := Lib.hid (Y0.out.keep hb1 Y0.out.lt)
  have Hx1 := Lib.hid (Hx0.out.keep hb1)
  clear hb1
  obtain ⟨p0, p1, _, _, _⟩ := X1.out
  go_wp2_with fail
  refine (HD.out _ Hx1.out).mono ?_
  rintro e w2 ⟨rfl, hb2⟩
  have HB2 := Lib.hid (HB1.out.trans (hb2.mono HB1.out.size))
  have X2 := Lib.hid (X1.out.keep hb2 X1.out.lt)
  have Y2 := Lib.hid (Y1.out.keep hb2 Y1.out.lt)
  have Hx2 := Lib.hid (Hx1.out.keep hb2)
  clear hb2 p0 p1
  obtain ⟨p0, p1, _, _, _⟩ := X2.out
  go_wp2_with fail
  refine (HR.out _ Hx2.out).mono ?_
  rintro e w3 ⟨a3, n3, c3, rfl, own3, hb3⟩
  have HB3 := Lib.hid (HB2.out.trans (hb3.mono HB2.out.size))
  have X3 := Lib.hid (X2.out.keep hb3 X2.out.lt)
  have Y3 := Lib.hid (Y2.out.keep hb3 Y2.out.lt)
  have Hx3 := Lib.hid (Hx2.out.keep hb3)
  have R3 := Lib.hid own3.reads
  have hRl : R.length = n3 := by have := own3.len; rwa [up_len] at this
  have HRl := Lib.hid hRl
  have hn3 : n3 ≤ 64 := by have := HRn.out; omega
  clear hb3 p0 p1 own3 hRl
  obtain ⟨p0, p1, _, _, _⟩ := X3.out
  go_wp2_with fail
  refine (HC.out _ Hx3.out).mono ?_
  rintro e w4 ⟨a4, n4, c4, rfl, own4, hb4⟩
  have HB4 := Lib.hid (HB3.out.trans (hb4.mono HB3.out.size))
  have X4 := Lib.hid (X3.out.keep hb4 X3.out.lt)
  have Y4 := Lib.hid (Y3.out.keep hb4 Y3.out.lt)
  have R4 := Lib.hid (R3.out.keep hb4)
  have C4 := Lib.hid own4.reads
  have hn4 : n4 = n3 := by have := own4.len; rw [up_len] at this; have := HRl.out; have := Hcl.out; omega
  subst hn4
  clear hb4 p0 p1 own4
  have hzz : w.heap.size + 2 ≤ w4.heap.size := by have := Y4.out.lt; omega
  go_wp2_with fail
  go_loopw [6, 7] (fun s k wr => ∃ (I q c5 : Nat) (ad : Option Addr), I ≤ n4 ∧ k = .int .i64 I ∧ s = .slice ad q c5 ∧ q ≤ I ∧ Own 3 wr w4.heap.size ad q c5 (up ((R.take I).filter fun r => cof l T r == 1)) ∧ Below w4.heap.size w4 wr) (fun _ k _ => n4 - (intOf k).toNat)
  case atStart => exact ⟨0, 0, 0, _, Nat.zero_le _, rfl, rfl, Nat.le_refl _, Own.empty _ _ _ (Nat.le_refl _), (by repeat (first | exact Below.refl _ _ | assumption | refine Below.setCell ?_ (by first | omega | (simp; done) | (simp; omega)) _ | refine Below.alloc ?_ (by first | omega | (simp; done) | (simp; omega)) _ | apply Below.drew))⟩
  case round =>
    obtain ⟨I, q, c5, ad, hI, rfl, rfl, hq, hown, hbl⟩ := hrel
    have HO := Lib.hid hown; have HB := Lib.hid hbl
    have hzr : w4.heap.size ≤ wr.heap.size := hbl.size
    have R5 := Lib.hid (R4.out.keep hbl); have C5 := Lib.hid (C4.out.keep hbl)
    have X5 := Lib.hid (X4.out.keep hbl X4.out.lt); have Y5 := Lib.hid (Y4.out.keep hbl Y4.out.lt)
    clear hown hbl
    obtain ⟨p0, p1, _, _, _⟩ := X5.out
    by_cases hlt : I < n4
    · obtain ⟨b1, o1, rfl, hc1⟩ := R5.out.cells (by omega)
      obtain ⟨b3, o3, rfl, hc3⟩ := C5.out.cells (by omega)
      have hx := hc1 I hlt
      have hy := hc3 I hlt
      rw [nth_up] at hx hy
      rw [Hcn.out I (by rw [HRl.out]; exact hlt)] at hy
      have Htk : Hid ((R.take (I + 1)).filter (fun r => cof l T r == 1) = (R.take I).filter (fun r => cof l T r == 1) ++ (if cof l T (nthN R I) = 1 then [nthN R I] else [])) := Lib.hid (by
        have hlR : I < R.length := by rw [HRl.out]; exact hlt
        rw [List.take_succ_eq_append_getElem hlR, List.filter_append, ← nthN_at2 hlR]
        congr 1
        by_cases e : cof l T (nthN R I) = 1
        · rw [if_pos e]; simp [e]
        · rw [if_neg e]; simp [e])
      obtain ⟨r, hr⟩ : ∃ r, r = nthN R I := ⟨_, rfl⟩
      obtain ⟨k, hk⟩ : ∃ k, k = cof l T (nthN R I) := ⟨_, rfl⟩
      rw [← hk] at hy Htk
      rw [← hr] at hx Htk
      have hI0 : (0 : Int) ≤ I := by omega
      have hIn : (I : Int) < n4 := by omega
      have hb1n : b1 < wr.heap.size := World.block_lt_of_cell? _ _ hx
      clear hc1 hc3 hr hk
      by_cases h1 : k = 1
      · have h1b : ((k : Int) == 1) = true := by simp; omega
        have Hst : Hid (up ((R.take (I + 1)).filter (fun r => cof l T r == 1)) = up ((R.take I).filter (fun r => cof l T r == 1)) ++ [(r : Int)]) := Lib.hid (by rw [Htk.out, if_pos h1, up_append]; rfl)
        clear h1
        go_wp2_with (at_builtin; refine ap rfl _ _ rfl w4.heap.size _ _ _ _ _ rfl HO.out rfl (by omega) hzr ?_; intro ad6 d6 w6 hown6 hb6; have HO6 := Lib.hid hown6; have HB6 := Lib.hid (HB.out.trans hb6); clear hown6 hb6)
        go_roundw
        case rel => exact ⟨I + 1, q + 1, d6, ad6, by omega, by go_num, by go_num, by omega, by rw [Hst.out]; exact HO6.out, HB6.out⟩
        case measure => simp [intOf]; omega
      · have h1b : ((k : Int) == 1) = false := by simp; omega
        have Hst : Hid (up ((R.take (I + 1)).filter (fun r => cof l T r == 1)) = up ((R.take I).filter (fun r => cof l T r == 1))) := Lib.hid (by rw [Htk.out, if_neg h1, List.append_nil])
        clear h1
        go_wp2_with fail
        go_roundw
        case rel => exact ⟨I + 1, q, c5, ad, by omega, by go_num, rfl, by omega, by rw [Hst.out]; exact HO.out, HB.out⟩
        case measure => simp [intOf]; omega
    · obtain rfl : I = n4 := by omega
      have hII : ¬ ((I : Int) < I) := by omega
      have Hfin : Hid (IntsAt wr ad q (up (rd1 l T))) := Lib.hid (by have := HO.out.reads; rwa [List.take_of_length_le (by rw [HRl.out]; exact Nat.le_refl _), ← Hr1.out] at this)
      go_wp2_with fail
      refine (l3Make_any p ad q c5 (rd1 l T) wr Hfin.out Hr64.out).mono ?_
      rintro e w6 ⟨ad6, n6, c6, rfl, hown6, hb6⟩
      have HB6 := Lib.hid ((HB4.out.trans (HB.out.mono HB4.out.size)).trans (hb6.mono (HB4.out.trans (HB.out.mono HB4.out.size)).size))
      have HO6 := Lib.hid hown6
      obtain ⟨r0, r1, f0, f1, _⟩ := Y5.out.keep hb6 Y5.out.lt
      clear hb6 hown6
      go_wp2_with fail
      refine bodyPost_ret (v := .tuple #[.agg #[.int .i64 p, .slice ad6 n6 c6], .bool true]) (by simp [results, Tryz.results67, go_sem, r0, r1]) rfl ⟨ad6, n6, c6, rfl, ?_, ?_⟩
      · exact Row.mono ((Row.setBelow HO6.out _ (by omega)).setBelow _ (by omega)) (by omega)
      · exact (HB6.out.setCell (by first | omega | (simp; done) | (simp; omega)) _).setCell (by first | omega | (simp; done) | (simp; omega)) _
end Go.Proofs.YtihfhfihladlcaaGreatDoor

/- ridgesOf, RidgeCounts, IsClosed and EdgeComplex of the program. -/
namespace Go.Proofs.YtihfhfihladlcaaGreatDoor
set_option maxRecDepth 20000
open Go.RowKit
set_option linter.unusedSimpArgs false
set_option linter.unusedVariables false

/-- counts of the first I ridges, K at the next one, else 0 -/
def csV (l R : List Nat) (T I K : Nat) : List Nat := (List.range R.length).map fun j => if j < I then cof l T (nthN R j) else if j = I then K else 0
theorem csV_len (l R : List Nat) (T I K : Nat) : (csV l R T I K).length = R.length := by simp [csV]
theorem csV_at {l R : List Nat} {T I K j : Nat} (h : j < R.length) : nthN (csV l R T I K) j = if j < I then cof l T (nthN R j) else if j = I then K else 0 := by
  rw [nthN_at2 (by rw [csV_len]; exact h)]
  unfold csV; rw [List.getElem_map, List.getElem_range]
theorem up_setN (l : List Nat) (i x : Nat) : (up l).set i (x : Int) = up (l.set i x) := by simp [up, List.map_set]
theorem nthN_ext {a b : List Nat} (hl : a.length = b.length) (h : ∀ j, j < a.length → nthN a j = nthN b j) : a = b := by
  refine List.ext_getElem hl fun j h1 h2 => ?_
  have := h j h1
  rwa [nthN_at2 h1, nthN_at2 h2] at this
theorem csV_set {l R : List Nat} {T I K K' : Nat} : (csV l R T I K).set I K' = csV l R T I K' := by
  refine nthN_ext (by rw [List.length_set, csV_len, csV_len]) fun j hj => ?_
  rw [List.length_set, csV_len] at hj
  rw [csV_at hj, nthN_at2 (by rw [List.length_set, csV_len]; exact hj), List.getElem_set]
  by_cases e : I = j
  · subst e; rw [if_pos rfl, if_neg (by omega), if_pos rfl]
  · rw [if_neg e, ← nthN_at2 (by rw [csV_len]; exact hj), csV_at hj]
    by_cases h : j < I
    · rw [if_pos h, if_pos h]
    · rw [if_neg h, if_neg h, if_neg (by omega), if_neg (by omega)]
theorem csV_next {l R : List Nat} {T I : Nat} : csV l R T I (cof l T (nthN R I)) = csV l R T (I + 1) 0 := by
  refine nthN_ext (by rw [csV_len, csV_len]) fun j hj => ?_
  rw [csV_len] at hj
  rw [csV_at hj, csV_at hj]
  by_cases h : j < I
  · rw [if_pos h, if_pos (by omega)]
  · by_cases e : j = I
    · subst e; rw [if_neg h, if_pos rfl, if_pos (by omega)]
    · rw [if_neg h, if_neg e, if_neg (by omega)]; split <;> rfl
theorem csV_zero (l R : List Nat) (T : Nat) : up (csV l R T 0 0) = List.replicate R.length 0 := by
  refine nth_ext (by rw [up_len, csV_len, List.length_replicate]) fun j hj => ?_
  rw [up_len, csV_len] at hj
  rw [nth_up, csV_at hj, if_neg (by omega)]
  have : nth (List.replicate R.length (0 : Int)) j = 0 := by rw [nth_eq (by simpa using hj)]; simp
  rw [this]; split <;> rfl
theorem csV_all {l : List Nat} {T : Nat} : csV l (rds l T) T (rds l T).length 0 = rdg l T := by
  refine nthN_ext (by rw [csV_len, rdg_len]) fun j hj => ?_
  rw [csV_len] at hj
  rw [csV_at hj, if_pos hj, rdg_at hj]
/-- two rows of numbers -/
def RetTwo (w : World) (L C : List Nat) (e : Ending) (w' : World) : Prop :=
  ∃ a1 n1 c1 a2 n2 c2, e = .returned (.tuple #[.slice a1 n1 c1, .slice a2 n2 c2]) ∧ Own 3 w' w.heap.size a1 n1 c1 (up L) ∧ Own 3 w' w.heap.size a2 n2 c2 (up C) ∧ Below w.heap.size w w'
theorem iRidges_stop (p : Int) (a : Option Addr) (n c : Nat) (xs : List Int) (d : Int) (w : World) (h : IntsAt w a n xs) (hd : d < 0)
    (hD : ∀ W, IntsAt W a n xs → Calls Tryz.prog 146 #[.agg #[.int .i64 p, .slice a n c]] W fun e w' => e = .returned (.int .i64 d) ∧ Below W.heap.size W w') :
    Calls Tryz.prog 147 #[.agg #[.int .i64 p, .slice a n c]] w (RetTwo w [] []) := by
  obtain ⟨w0, hw0⟩ : ∃ w0, w0 = w.alloc (.cells #[.int .i64 p, .slice a n c] 32) := ⟨_, rfl⟩
  have HB0 : Hid (Below w.heap.size w w0) := Lib.hid (by rw [hw0]; exact (by repeat (first | exact Below.refl _ _ | assumption | refine Below.setCell ?_ (by first | omega | (simp; done) | (simp; omega)) _ | refine Below.alloc ?_ (by first | omega | (simp; done) | (simp; omega)) _ | apply Below.drew)))
  have Hx0 : Hid (IntsAt w0 a n xs) := Lib.hid (h.keep HB0.out)
  have HD := Lib.hid hD; have HW0 := Lib.hid hw0
  clear h hD hw0
  go_enter Tryz.func147, Tryz.ntmps147
  go_wp2_with fail
  rw [← HW0.out]
  refine (HD.out _ Hx0.out).mono ?_
  rintro e w1 ⟨rfl, hb1⟩
  have HB1 := Lib.hid (HB0.out.trans (hb1.mono HB0.out.size))
  clear hb1
  go_wp2_with fail
  go_ret2
  exact ⟨none, 0, 0, none, 0, 0, rfl, Own.nil _ _ _, Own.nil _ _ _, HB1.out⟩
set_option maxRecDepth 100000 in
set_option maxHeartbeats 2000000 in
theorem iRidges_yes (p : Int) (a : Option Addr) (n c : Nat) (l : List Nat) (T : Nat) (w : World) (h : IntsAt w a n (up l)) (hcap : n ≤ c) (hA : Anti p (up l)) (hl : ∀ t ∈ l, t < 64) (hT : topTo (isFace l) 64 = T) (h2 : 2 ≤ T) :
    Calls Tryz.prog 147 #[.agg #[.int .i64 p, .slice a n c]] w (RetTwo w (rds l T) (rdg l T)) := by
  have hT7 : T ≤ 7 := by rw [← hT]; exact topTo_le _ _
  have Hln : Hid (l.length = n) := Lib.hid (by have := h.len; rwa [up_len] at this)
  have HDm : Hid (∀ W, IntsAt W a n (up l) → Calls Tryz.prog 146 #[.agg #[.int .i64 p, .slice a n c]] W fun e w' => e = .returned (.int .i64 ((T : Int) - 2)) ∧ Below W.heap.size W w') := Lib.hid fun W hW => by rw [← hT]; exact iDim_yes p a n c l W hW hcap hA hl
  have HC : Hid (∀ W, IntsAt W a n (up l) → Calls Tryz.prog 194 #[.agg #[.int .i64 p, .slice a n c], .int .i64 ((T : Int) - 2)] W (RetInts W (up (rds l T)))) := Lib.hid fun W hW => by
    have := iOfSize_yes p a n c l ((T : Int) - 2) W hW hcap hA hl
    unfold ofSize at this
    rw [if_neg (by omega), show ((T : Int) - 2).toNat = T - 2 by omega] at this
    exact this
  have hsm := h.small
  have Hx := Lib.hid h; have Hl := Lib.hid hl
  obtain ⟨R, hR⟩ : ∃ R, R = rds l T := ⟨_, rfl⟩
  have HR6 : Hid (∀ r ∈ R, r < 64) := Lib.hid (by rw [hR]; exact rds_lt l T)
  have HRn : Hid (R.length ≤ 64) := Lib.hid (by rw [hR]; exact rds_len l T)
  have Hgoal : Hid (csV l R T R.length 0 = rdg l T) := Lib.hid (by rw [hR]; exact csV_all)
  rw [← hR] at HC
  rw [← hR]
  obtain ⟨w0, hw0⟩ : ∃ w0, w0 = w.alloc (.cells #[.int .i64 p, .slice a n c] 32) := ⟨_, rfl⟩
  have HB0 : Hid (Below w.heap.size w w0) := Lib.hid (by rw [hw0]; exact (by repeat (first | exact Below.refl _ _ | assumption | refine Below.setCell ?_ (by first | omega | (simp; done) | (simp; omega)) _ | refine Below.alloc ?_ (by first | omega | (simp; done) | (simp; omega)) _ | apply Below.drew)))
  have X0 : Hid (BoxF w0 w.heap.size (.int .i64 p) (.slice a n c)) := Lib.hid (by rw [hw0]; exact BoxF.new _ _ _ _)
  have HW0 := Lib.hid hw0
  have hT0 : ¬ ((T : Int) - 2 < 0) := by omega
  have hwT : IntKind.i64.wrap ((T : Int) - 2 + 1) = (T : Int) - 2 + 1 := IntWalk.i64_in _ (by omega)
  clear h hA hl hT hw0 hR hcap
  go_enter Tryz.func147, Tryz.ntmps147
  go_wp2_with fail
  rw [← HW0.out]
  refine (HDm.out _ (Hx.out.keep HB0.out)).mono ?_
  rintro e w1 ⟨rfl, hb1⟩
  have HB1 := Lib.hid (HB0.out.trans (hb1.mono HB0.out.size))
  have X1 := Lib.hid (X0.out.keep hb1 X0.out.lt)
  clear hb1
  obtain ⟨p0, p1, _, _, _⟩ := X1.out
  go_wp2_with fail
  refine (HC.out _ (Hx.out.keep HB1.out)).mono ?_
  rintro e w2 ⟨aR, nR, cR, rfl, ownR, hb2⟩
  have HB2 := Lib.hid (HB1.out.trans (hb2.mono HB1.out.size))
  have X2 := Lib.hid (X1.out.keep hb2 X1.out.lt)
  have HR2 : Hid (Own 3 w2 w.heap.size aR nR cR (up R)) := Lib.hid (ownR.mono HB1.out.size)
  have hRl : R.length = nR := by have := ownR.len; rwa [up_len] at this
  have HRl := Lib.hid hRl
  have hnR : nR ≤ 64 := by have := HRn.out; have := HRl.out; omega
  clear hb2 ownR p0 p1 hRl
  go_wp2_with (at_make; refine mk_ints rfl _ _ rfl _ rfl rfl nR rfl (by omega) ?_; intro g w3 hown3 hb3; have HO3 := Lib.hid hown3; have HB3 := Lib.hid hb3; clear hown3 hb3)
  have HO30 : Hid (Own 3 w3 w2.heap.size (some ⟨g, 0, none⟩) nR nR (up (csV l R T 0 0))) := Lib.hid (by rw [csV_zero, HRl.out]; exact HO3.out)
  have hgl : w2.heap.size ≤ g := (HO3.out.lt g rfl).1
  clear HO3
  go_loopw [7, 8, 23] (fun _ _ i wr => ∃ I : Nat, I ≤ nR ∧ i = .int .i64 I ∧ Own 3 wr w2.heap.size (some ⟨g, 0, none⟩) nR nR (up (csV l R T I 0)) ∧ Below w2.heap.size w2 wr) (fun _ _ i _ => nR - (intOf i).toNat)
  case atStart => exact ⟨0, Nat.zero_le _, rfl, HO30.out, HB3.out⟩
  case round =>
    obtain ⟨wo, rfl⟩ : ∃ x : World, x = wr := ⟨_, rfl⟩
    obtain ⟨I, hI, rfl, hown, hbl⟩ := hrel
    have HO := Lib.hid hown; have HB := Lib.hid hbl
    clear hown hbl HO30
    by_cases hlt : I < nR
    · have HR4 := Lib.hid (HR2.out.keep HB.out)
      have X4 := Lib.hid (X2.out.keep HB.out X2.out.lt)
      obtain ⟨p0, p1, _, _, _⟩ := X4.out
      obtain ⟨b3, o3, rfl, hc3⟩ := HR4.out.reads.cells (by omega)
      have hy := hc3 I hlt
      rw [nth_up] at hy
      obtain ⟨r, hr⟩ : ∃ r, r = nthN R I := ⟨_, rfl⟩
      rw [← hr] at hy
      have hr64 : r < 64 := by rw [hr]; exact HR6.out _ (nthN_mem2 (by rw [HRl.out]; exact hlt))
      have Hnext : Hid (csV l R T I (cof l T r) = csV l R T (I + 1) 0) := Lib.hid (by rw [hr]; exact csV_next)
      have hI0 : (0 : Int) ≤ I := by omega
      have hIn : (I : Int) < nR := by omega
      clear hc3 hr
      go_wp2_with fail
      go_loopw [10, 31] (fun _ j wr => ∃ J K : Nat, J ≤ n ∧ j = .int .i64 J ∧ Hid (K = cntTo (isR T r) l J) ∧ K ≤ J ∧ Own 3 wr w2.heap.size (some ⟨g, 0, none⟩) nR nR (up (csV l R T I K)) ∧ Below w2.heap.size w2 wr) (fun _ j _ => n - (intOf j).toNat)
      case atStart => exact ⟨0, 0, Nat.zero_le _, rfl, Lib.hid rfl, Nat.le_refl _, HO.out, HB.out⟩
      case round =>
        obtain ⟨J, K, hJ, rfl, hK, hKJ, hown, hbl⟩ := hrel
        have HO4 := Lib.hid hown; have HB4 := Lib.hid hbl
        have Hx4 := Lib.hid (Hx.out.keep (HB2.out.trans (hbl.mono HB2.out.size)))
        have hz4 : w2.heap.size ≤ wr.heap.size := hbl.size
        clear hown hbl p0 p1 hy
        by_cases hltJ : J < n
        · obtain ⟨b1, o1, rfl, hc1⟩ := Hx4.out.cells (by omega)
          have hx := hc1 J hltJ
          rw [nth_up] at hx
          obtain ⟨f, hf⟩ : ∃ f, f = nthN l J := ⟨_, rfl⟩
          have hf64 : f < 64 := by rw [hf]; exact Hl.out _ (nthN_mem2 (by rw [Hln.out]; exact hltJ))
          rw [← hf] at hx
          have Hnx : Hid (cntTo (isR T r) l (J + 1) = K + (if isR T r f then 1 else 0)) := Lib.hid (by rw [cntTo_succ (by rw [Hln.out]; exact hltJ), ← hf, ← hK.out])
          have hz6 := sz_le f
          have HS : Hid (∀ W, Calls Tryz.prog 136 #[.int .i64 f] W fun e w' => e = .returned (.int .i64 (sz f)) ∧ W = w') := Lib.hid fun W => SizeOf_any f W hf64
          have HisR : Hid (isR T r f = (sub r f && sz f + 1 == T)) := Lib.hid rfl
          obtain ⟨z, hz⟩ : ∃ z, z = sz f := ⟨_, rfl⟩
          rw [← hz] at HS hz6 HisR
          have hJ0 : (0 : Int) ≤ J := by omega
          have hJn : (J : Int) < n := by omega
          clear hc1 hf hz
          by_cases hzT : z + 1 = T
          · have hzb : ((z : Int) == (T : Int) - 2 + 1) = true := by simp; omega
            have hand := w_andNot r f hr64 hf64
            have hsd := sdiff_zero hr64 hf64
            obtain ⟨v, hv⟩ : ∃ v, v = sdiff r f := ⟨_, rfl⟩
            rw [← hv] at hand hsd
            clear hv
            cases hsb : sub r f
            · rw [hsb] at hsd
              have Hv : Hid (K = cntTo (isR T r) l (J + 1)) := Lib.hid (by rw [Hnx.out, HisR.out, hsb]; rfl)
              clear hsb hzT
              go_wp2_with (go_at_call 136; (with_reducible refine (HS.out _).mono ?_); rintro e w' ⟨rfl, rfl⟩)
              go_roundw
              case rel => exact ⟨J + 1, K, by omega, by go_num, Hv, by omega, HO4.out, HB4.out⟩
              case measure => simp [intOf]; omega
            · rw [hsb] at hsd
              have Hv : Hid (K + 1 = cntTo (isR T r) l (J + 1)) := Lib.hid (by rw [Hnx.out, HisR.out, hsb]; simp [hzT])
              have hcg := HO4.out.reads.cellAt I (by omega)
              rw [nth_up, Nat.zero_add, csV_at (by rw [HRl.out]; exact hlt), if_neg (by omega), if_pos rfl] at hcg
              have hfro : wr.frozen? ⟨g, I, none⟩ = false := by
                obtain ⟨g', hg', _, _, _, hf⟩ := Row.cells HO4.out (by omega)
                cases hg'; exact hf I
              have hwadd : IntKind.i64.wrap ((K : Int) + 1) = (K : Int) + 1 := by rw [IntKind.wrap_i64]; omega
              have HO5 : Hid (Own 3 (wr.setCell ⟨g, I, none⟩ (.int .i64 ((K : Int) + 1))) w2.heap.size (some ⟨g, 0, none⟩) nR nR (up (csV l R T I (K + 1)))) := Lib.hid (by
                have := HO4.out.set I (((K + 1 : Nat)) : Int)
                rw [up_setN, csV_set] at this
                exact this)
              have HB5 := Lib.hid (HB4.out.setCell (p := ⟨g, I, none⟩) (by simp; omega) (.int .i64 ((K : Int) + 1)))
              clear hsb hzT
              go_wp2_with (go_at_call 136; (with_reducible refine (HS.out _).mono ?_); rintro e w' ⟨rfl, rfl⟩)
              go_roundw
              case rel => exact ⟨J + 1, K + 1, by omega, by go_num, Hv, by omega, HO5.out, HB5.out⟩
              case measure => simp [intOf]; omega
          · have hzb : ((z : Int) == (T : Int) - 2 + 1) = false := by simp; omega
            have Hv : Hid (K = cntTo (isR T r) l (J + 1)) := Lib.hid (by rw [Hnx.out, HisR.out]; simp [hzT])
            clear hzT
            go_wp2_with (go_at_call 136; (with_reducible refine (HS.out _).mono ?_); rintro e w' ⟨rfl, rfl⟩)
            go_roundw
            case rel => exact ⟨J + 1, K, by omega, by go_num, Hv, by omega, HO4.out, HB4.out⟩
            case measure => simp [intOf]; omega
        · obtain rfl : J = n := by omega
          have hJJ : ¬ ((J : Int) < J) := by omega
          have HO5 : Hid (Own 3 wr w2.heap.size (some ⟨g, 0, none⟩) nR nR (up (csV l R T (I + 1) 0))) := Lib.hid (by
            have := HO4.out
            rw [hK.out, ← Hln.out, cntTo_all] at this
            rw [← Hnext.out]; exact this)
          go_wp2_with fail
          go_roundw
          case rel => exact ⟨I + 1, by omega, by go_num, HO5.out, HB4.out⟩
          case measure => simp [intOf]; omega
    · obtain rfl : I = nR := by omega
      have hII : ¬ ((I : Int) < I) := by omega
      have HOf : Hid (Own 3 wo w2.heap.size (some ⟨g, 0, none⟩) I I (up (rdg l T))) := Lib.hid (by have := HO.out; rw [← HRl.out, Hgoal.out, HRl.out] at this; exact this)
      go_wp2_with fail
      go_ret2
      exact ⟨aR, I, cR, _, I, I, rfl, HR2.out.keep HB.out, HOf.out.mono HB2.out.size, HB2.out.trans (HB.out.mono HB2.out.size)⟩
theorem iRC_g (p : Int) (a : Option Addr) (n c : Nat) (xs : List Int) (L C : List Nat) (w : World) (h : IntsAt w a n xs)
    (hR : ∀ W, IntsAt W a n xs → Calls Tryz.prog 147 #[.agg #[.int .i64 p, .slice a n c]] W (RetTwo W L C)) :
    Calls Tryz.prog 68 #[.agg #[.int .i64 p, .slice a n c]] w (RetInts w (up C)) := by
  obtain ⟨w0, hw0⟩ : ∃ w0, w0 = w.alloc (.cells #[.int .i64 p, .slice a n c] 32) := ⟨_, rfl⟩
  have HB0 : Hid (Below w.heap.size w w0) := Lib.hid (by rw [hw0]; exact (by repeat (first | exact Below.refl _ _ | assumption | refine Below.setCell ?_ (by first | omega | (simp; done) | (simp; omega)) _ | refine Below.alloc ?_ (by first | omega | (simp; done) | (simp; omega)) _ | apply Below.drew)))
  have Hx0 : Hid (IntsAt w0 a n xs) := Lib.hid (h.keep HB0.out)
  have HR := Lib.hid hR; have HW0 := Lib.hid hw0
  clear h hR hw0
  go_enter Tryz.func68, Tryz.ntmps68
  go_wp2_with fail
  rw [← HW0.out]
  refine (HR.out _ Hx0.out).mono ?_
  rintro e w1 ⟨a1, n1, c1, a2, n2, c2, rfl, own1, own2, hb1⟩
  have HB1 := Lib.hid (HB0.out.trans (hb1.mono HB0.out.size))
  have HO2 := Lib.hid (own2.mono HB0.out.size)
  clear hb1 own1 own2
  go_wp2_with fail
  go_ret
  exact ⟨a2, n2, c2, rfl, HO2.out, HB1.out⟩
theorem iClosed_stop (p : Int) (a : Option Addr) (n c : Nat) (xs : List Int) (P : Bool) (d : Int) (w : World) (h : IntsAt w a n xs)
    (hD : ∀ W, IntsAt W a n xs → Calls Tryz.prog 146 #[.agg #[.int .i64 p, .slice a n c]] W fun e w' => e = .returned (.int .i64 d) ∧ Below W.heap.size W w')
    (hP : ∀ W, IntsAt W a n xs → Calls Tryz.prog 145 #[.agg #[.int .i64 p, .slice a n c]] W fun e w' => e = .returned (.bool P) ∧ Below W.heap.size W w')
    (hno : P = false ∨ d < 0) :
    Calls Tryz.prog 72 #[.agg #[.int .i64 p, .slice a n c]] w fun e w' => e = .returned (.bool false) ∧ Below w.heap.size w w' := by
  obtain ⟨w0, hw0⟩ : ∃ w0, w0 = w.alloc (.cells #[.int .i64 p, .slice a n c] 32) := ⟨_, rfl⟩
  have HB0 : Hid (Below w.heap.size w w0) := Lib.hid (by rw [hw0]; exact (by repeat (first | exact Below.refl _ _ | assumption | refine Below.setCell ?_ (by first | omega | (simp; done) | (simp; omega)) _ | refine Below.alloc ?_ (by first | omega | (simp; done) | (simp; omega)) _ | apply Below.drew)))
  have X0 : Hid (BoxF w0 w.heap.size (.int .i64 p) (.slice a n c)) := Lib.hid (by rw [hw0]; exact BoxF.new _ _ _ _)
  have Hx0 : Hid (IntsAt w0 a n xs) := Lib.hid (h.keep HB0.out)
  have HP := Lib.hid hP; have HD := Lib.hid hD; have HW0 := Lib.hid hw0
  clear h hP hD hw0
  go_enter Tryz.func72, Tryz.ntmps72
  go_wp2_with fail
  rw [← HW0.out]
  refine (HP.out _ Hx0.out).mono ?_
  rintro e w1 ⟨rfl, hb1⟩
  have HB1 := Lib.hid (HB0.out.trans (hb1.mono HB0.out.size))
  have X1 := Lib.hid (X0.out.keep hb1 X0.out.lt)
  have Hx1 := Lib.hid (Hx0.out.keep hb1)
  clear hb1
  obtain ⟨p0, p1, _, _, _⟩ := X1.out
  cases P
  · go_wp2_with fail
    go_ret
    exact ⟨rfl, HB1.out⟩
  · have hd : d < 0 := hno.resolve_left (by simp)
    go_wp2_with fail
    refine (HD.out _ Hx1.out).mono ?_
    rintro e w2 ⟨rfl, hb2⟩
    have HB2 := Lib.hid (HB1.out.trans (hb2.mono HB1.out.size))
    clear hb2
    go_wp2_with fail
    go_ret
    exact ⟨rfl, HB2.out⟩
set_option maxHeartbeats 1000000 in
theorem iClosed_yes (p : Int) (a : Option Addr) (n c : Nat) (xs : List Int) (L : List Nat) (d : Int) (w : World) (h : IntsAt w a n xs)
    (hD : ∀ W, IntsAt W a n xs → Calls Tryz.prog 146 #[.agg #[.int .i64 p, .slice a n c]] W fun e w' => e = .returned (.int .i64 d) ∧ Below W.heap.size W w')
    (hP : ∀ W, IntsAt W a n xs → Calls Tryz.prog 145 #[.agg #[.int .i64 p, .slice a n c]] W fun e w' => e = .returned (.bool true) ∧ Below W.heap.size W w')
    (hR : ∀ W, IntsAt W a n xs → Calls Tryz.prog 68 #[.agg #[.int .i64 p, .slice a n c]] W (RetInts W (up L)))
    (hd : 0 ≤ d) (b : Bool) (hb : L.all (· == 2) = b) :
    Calls Tryz.prog 72 #[.agg #[.int .i64 p, .slice a n c]] w fun e w' => e = .returned (.bool b) ∧ Below w.heap.size w w' := by
  obtain ⟨w0, hw0⟩ : ∃ w0, w0 = w.alloc (.cells #[.int .i64 p, .slice a n c] 32) := ⟨_, rfl⟩
  have HB0 : Hid (Below w.heap.size w w0) := Lib.hid (by rw [hw0]; exact (by repeat (first | exact Below.refl _ _ | assumption | refine Below.setCell ?_ (by first | omega | (simp; done) | (simp; omega)) _ | refine Below.alloc ?_ (by first | omega | (simp; done) | (simp; omega)) _ | apply Below.drew)))
  have X0 : Hid (BoxF w0 w.heap.size (.int .i64 p) (.slice a n c)) := Lib.hid (by rw [hw0]; exact BoxF.new _ _ _ _)
  have Hx0 : Hid (IntsAt w0 a n xs) := Lib.hid (h.keep HB0.out)
  have HP := Lib.hid hP; have HD := Lib.hid hD; have HR := Lib.hid hR; have HW0 := Lib.hid hw0; have Hb := Lib.hid hb
  have hd0 : ¬ (d < 0) := by omega
  clear h hP hD hR hw0 hb
  go_enter Tryz.func72, Tryz.ntmps72
  go_wp2_with fail
  rw [← HW0.out]
  refine (HP.out _ Hx0.out).mono ?_
  rintro e w1 ⟨rfl, hb1⟩
  have HB1 := Lib.hid (HB0.out.trans (hb1.mono HB0.out.size))
  have X1 := Lib.hid (X0.out.keep hb1 X0.out.lt)
  have Hx1 := Lib.hid (Hx0.out.keep hb1)
  clear hb1
  obtain ⟨p0, p1, _, _, _⟩ := X1.out
  go_wp2_with fail
  refine (HD.out _ Hx1.out).mono ?_
  rintro e w2 ⟨rfl, hb2⟩
  have HB2 := Lib.hid (HB1.out.trans (hb2.mono HB1.out.size))
  have X2 := Lib.hid (X1.out.keep hb2 X1.out.lt)
  have Hx2 := Lib.hid (Hx1.out.keep hb2)
  clear hb2 p0 p1
  obtain ⟨p0, p1, _, _, _⟩ := X2.out
  go_wp2_with fail
  refine (HR.out _ Hx2.out).mono ?_
  rintro e w3 ⟨ad, m, dd, rfl, own, hb3⟩
  have HB3 := Lib.hid (HB2.out.trans (hb3.mono HB2.out.size))
  have HO := Lib.hid own.reads
  have hLm : L.length = m := by have := own.len; rwa [up_len] at this
  have HLm := Lib.hid hLm
  have hmm := HO.out.small
  clear hb3 own hLm
  go_wp2_with fail
  go_loop [4, 16] (fun _ k => ∃ I : Nat, I ≤ m ∧ k = .int .i64 I ∧ Hid (∀ j, j < I → nthN L j = 2)) (fun _ k => m - (intOf k).toNat)
  case atStart => exact ⟨0, Nat.zero_le _, rfl, Lib.hid fun j hj => absurd hj (Nat.not_lt_zero _)⟩
  case round =>
    obtain ⟨I, hI, rfl, hall⟩ := hrel
    by_cases hlt : I < m
    · obtain ⟨b1, o1, rfl, hc⟩ := HO.out.cells (by omega)
      have hck := hc I hlt
      rw [nth_up] at hck
      obtain ⟨x, hx⟩ : ∃ x, x = nthN L I := ⟨_, rfl⟩
      rw [← hx] at hck
      have Hx := Lib.hid hx; have Hlt := Lib.hid hlt
      have hI0 : (0 : Int) ≤ I := by omega
      have hIm : (I : Int) < m := by omega
      clear hc hx
      by_cases h2 : x = 2
      · have h2b : ((x : Int) != 2) = false := by simp; omega
        have Hall : Hid (∀ j, j < I + 1 → nthN L j = 2) := Lib.hid fun j hj => by
          rcases Nat.lt_or_ge j I with h | h
          · exact hall.out j h
          · obtain rfl : j = I := by omega
            rw [← Hx.out]; exact h2
        clear h2
        go_wp2_with fail
        go_round
        case rel => exact ⟨I + 1, Hlt.out, by go_num, Hall⟩
        case measure => have := Hlt.out; simp [intOf]; omega
      · have h2b : ((x : Int) != 2) = true := by simp; omega
        have hbf : b = false := by rw [← Hb.out, all2_no (j := I) (by rw [HLm.out]; exact hlt) (by rw [← Hx.out]; exact h2)]
        subst hbf
        clear h2
        go_wp2_with fail
        go_ret
        exact ⟨rfl, HB3.out⟩
    · obtain rfl : I = m := by omega
      have hII : ¬ ((I : Int) < I) := by omega
      have hbv : b = true := by rw [← Hb.out, all2_yes (fun j hj => hall.out j (by rw [HLm.out] at hj; exact hj))]
      subst hbv
      go_wp2_with fail
      go_ret
      exact ⟨rfl, HB3.out⟩
end Go.Proofs.YtihfhfihladlcaaGreatDoor

/- EdgeComplex, LinkOf and UsedPoints of the program. -/
namespace Go.Proofs.YtihfhfihladlcaaGreatDoor
set_option maxRecDepth 20000
open Go.RowKit
set_option linter.unusedSimpArgs false
set_option linter.unusedVariables false

theorem maxL_gen {L : List Nat} (hL : ∀ r ∈ L, r < 64) : maxL (isFace L) = maxL L.contains :=
  maxL_eq (fun s hs h => by
    obtain ⟨f, hf, hsf⟩ := isFace_iff.1 h
    exact ⟨f, hL f hf, by simpa using hf, hsf⟩) (fun s hs h => ⟨s, hs, isFace_iff.2 ⟨s, by simpa using h, by unfold sub; simp⟩, by unfold sub; simp⟩)
theorem isFace_snoc (L : List Nat) (r x : Nat) : isFace (L ++ [r]) x = (isFace L x || sub x r) := by unfold isFace; rw [List.any_append]; simp
theorem iEdge_stop (p : Int) (a : Option Addr) (n c : Nat) (xs : List Int) (P : Bool) (d : Int) (w : World) (h : IntsAt w a n xs)
    (hD : ∀ W, IntsAt W a n xs → Calls Tryz.prog 146 #[.agg #[.int .i64 p, .slice a n c]] W fun e w' => e = .returned (.int .i64 d) ∧ Below W.heap.size W w')
    (hP : ∀ W, IntsAt W a n xs → Calls Tryz.prog 145 #[.agg #[.int .i64 p, .slice a n c]] W fun e w' => e = .returned (.bool P) ∧ Below W.heap.size W w')
    (hno : P = false ∨ d < 0) :
    Calls Tryz.prog 66 #[.agg #[.int .i64 p, .slice a n c]] w (RetBox2 w 0 [] false) := by
  obtain ⟨w0, hw0⟩ : ∃ w0, w0 = (w.alloc (.cells #[.int .i64 p, .slice a n c] 32)).alloc (.cells #[.int .i64 0, .slice none 0 0] 32) := ⟨_, rfl⟩
  have HB0 : Hid (Below w.heap.size w w0) := Lib.hid (by rw [hw0]; exact (by repeat (first | exact Below.refl _ _ | assumption | refine Below.setCell ?_ (by first | omega | (simp; done) | (simp; omega)) _ | refine Below.alloc ?_ (by first | omega | (simp; done) | (simp; omega)) _ | apply Below.drew)))
  have hz0 : w0.heap.size = w.heap.size + 2 := by rw [hw0]; simp
  have X0 : Hid (BoxF w0 w.heap.size (.int .i64 p) (.slice a n c)) := Lib.hid (by rw [hw0]; exact (BoxF.new _ _ _ _).alloc _)
  have Y0 : Hid (BoxF w0 (w.heap.size + 1) (.int .i64 0) (.slice none 0 0)) := Lib.hid (by
    have := BoxF.new (w.alloc (.cells #[.int .i64 p, .slice a n c] 32)) (.int .i64 0) (.slice none 0 0) 32
    rw [show (w.alloc (.cells #[.int .i64 p, .slice a n c] 32)).heap.size = w.heap.size + 1 by simp] at this
    rw [hw0]; exact this)
  have Hx0 : Hid (IntsAt w0 a n xs) := Lib.hid (h.keep HB0.out)
  have HP := Lib.hid hP; have HD := Lib.hid hD; have HW0 := Lib.hid hw0
  clear h hP hD hw0
  go_enter Tryz.func66, Tryz.ntmps66
  go_wp2_with fail
  rw [← HW0.out]
  refine (HP.out _ Hx0.out).mono ?_
  rintro e w1 ⟨rfl, hb1⟩
  have HB1 := Lib.hid (HB0.out.trans (hb1.mono HB0.out.size))
  have X1 := Lib.hid (X0.out.keep hb1 X0.out.lt)
  have Y1 := Lib.hid (Y0.out.keep hb1 Y0.out.lt)
  have Hx1 := Lib.hid (Hx0.out.keep hb1)
  clear hb1
  obtain ⟨p0, p1, _, _, _⟩ := X1.out
  cases P
  · obtain ⟨r0, r1, f0, f1, _⟩ := Y1.out
    go_wp2_with fail
    refine bodyPost_ret (v := .tuple #[.agg #[.int .i64 0, .slice none 0 0], .bool false]) (by simp [results, Tryz.results66, go_sem, r0, r1]) rfl ⟨none, 0, 0, rfl, Own.nil _ _ _, ?_⟩
    first | exact (HB1.out.setCell (by simp) _).setCell (by simp) _ | exact HB1.out
  · have hd : d < 0 := hno.resolve_left (by simp)
    go_wp2_with fail
    refine (HD.out _ Hx1.out).mono ?_
    rintro e w2 ⟨rfl, hb2⟩
    have HB2 := Lib.hid (HB1.out.trans (hb2.mono HB1.out.size))
    have Y2 := Lib.hid (Y1.out.keep hb2 Y1.out.lt)
    clear hb2
    obtain ⟨r0, r1, f0, f1, _⟩ := Y2.out
    go_wp2_with fail
    refine bodyPost_ret (v := .tuple #[.agg #[.int .i64 0, .slice none 0 0], .bool false]) (by simp [results, Tryz.results66, go_sem, r0, r1]) rfl ⟨none, 0, 0, rfl, Own.nil _ _ _, ?_⟩
    first | exact (HB2.out.setCell (by simp) _).setCell (by simp) _ | exact HB2.out
set_option maxHeartbeats 2000000 in
theorem iEdge_yes (p : Int) (a : Option Addr) (n c : Nat) (l : List Nat) (T : Nat) (w : World) (h : IntsAt w a n (up l)) (h2 : 2 ≤ T)
    (hD : ∀ W, IntsAt W a n (up l) → Calls Tryz.prog 146 #[.agg #[.int .i64 p, .slice a n c]] W fun e w' => e = .returned (.int .i64 ((T : Int) - 2)) ∧ Below W.heap.size W w')
    (hP : ∀ W, IntsAt W a n (up l) → Calls Tryz.prog 145 #[.agg #[.int .i64 p, .slice a n c]] W fun e w' => e = .returned (.bool true) ∧ Below W.heap.size W w')
    (hR : ∀ W, IntsAt W a n (up l) → Calls Tryz.prog 147 #[.agg #[.int .i64 p, .slice a n c]] W (RetTwo W (rds l T) (rdg l T))) :
    Calls Tryz.prog 66 #[.agg #[.int .i64 p, .slice a n c]] w (RetBox2 w p (up (maxL (rd1 l T).contains)) true) := by
  obtain ⟨w0, hw0⟩ : ∃ w0, w0 = (w.alloc (.cells #[.int .i64 p, .slice a n c] 32)).alloc (.cells #[.int .i64 0, .slice none 0 0] 32) := ⟨_, rfl⟩
  have HB0 : Hid (Below w.heap.size w w0) := Lib.hid (by rw [hw0]; exact (by repeat (first | exact Below.refl _ _ | assumption | refine Below.setCell ?_ (by first | omega | (simp; done) | (simp; omega)) _ | refine Below.alloc ?_ (by first | omega | (simp; done) | (simp; omega)) _ | apply Below.drew)))
  have hz0 : w0.heap.size = w.heap.size + 2 := by rw [hw0]; simp
  have X0 : Hid (BoxF w0 w.heap.size (.int .i64 p) (.slice a n c)) := Lib.hid (by rw [hw0]; exact (BoxF.new _ _ _ _).alloc _)
  have Y0 : Hid (BoxF w0 (w.heap.size + 1) (.int .i64 0) (.slice none 0 0)) := Lib.hid (by
    have := BoxF.new (w.alloc (.cells #[.int .i64 p, .slice a n c] 32)) (.int .i64 0) (.slice none 0 0) 32
    rw [show (w.alloc (.cells #[.int .i64 p, .slice a n c] 32)).heap.size = w.heap.size + 1 by simp] at this
    rw [hw0]; exact this)
  have Hx0 : Hid (IntsAt w0 a n (up l)) := Lib.hid (h.keep HB0.out)
  obtain ⟨R, hRe⟩ : ∃ R, R = rds l T := ⟨_, rfl⟩
  have Hcn : Hid (∀ k, k < R.length → nthN (rdg l T) k = cof l T (nthN R k)) := Lib.hid fun k hk => by rw [hRe] at hk ⊢; exact rdg_at hk
  have Hcl : Hid ((rdg l T).length = R.length) := Lib.hid (by rw [hRe]; exact rdg_len l T)
  have Hr1 : Hid (rd1 l T = R.filter fun r => cof l T r == 1) := Lib.hid (by rw [hRe]; rfl)
  have HR64 : Hid (∀ r ∈ R, r < 64) := Lib.hid (by rw [hRe]; exact rds_lt l T)
  have HRn : Hid (R.length ≤ 64) := Lib.hid (by rw [hRe]; exact rds_len l T)
  have Hfin : Hid (maxL (fam (isFace (rd1 l T))).testBit = maxL (rd1 l T).contains) := Lib.hid (by
    rw [← maxL_gen (rd1_lt l T)]
    exact maxL_congr fun s hs => fam_at hs)
  rw [← hRe] at hR
  have HP := Lib.hid hP; have HD := Lib.hid hD; have HR := Lib.hid hR; have HW0 := Lib.hid hw0
  have hT0 : ¬ ((T : Int) - 2 < 0) := by omega
  clear h hP hD hw0 hR hRe
  go_enter Tryz.func66, Tryz.ntmps66
  go_wp2_with fail
  rw [← HW0.out]
  refine (HP.out _ Hx0.out).mono ?_
  rintro e w1 ⟨rfl, hb1⟩
  have HB1 := Lib.hid (HB0.out.trans (hb1.mono HB0.out.size))
  have X1 := Lib.hid (X0.out.keep hb1 X0.out.lt)
  have Y1 := Lib.hid (Y0.out.keep hb1 Y0.out.lt)
  have Hx1 := Lib.hid (Hx0.out.keep hb1)
  clear hb1
  obtain ⟨p0, p1, _, _, _⟩ := X1.out
  go_wp2_with fail
  refine (HD.out _ Hx1.out).mono ?_
  rintro e w2 ⟨rfl, hb2⟩
  have HB2 := Lib.hid (HB1.out.trans (hb2.mono HB1.out.size))
  have X2 := Lib.hid (X1.out.keep hb2 X1.out.lt)
  have Y2 := Lib.hid (Y1.out.keep hb2 Y1.out.lt)
  have Hx2 := Lib.hid (Hx1.out.keep hb2)
  clear hb2 p0 p1
  obtain ⟨p0, p1, _, _, _⟩ := X2.out
  go_wp2_with fail
  refine (HR.out _ Hx2.out).mono ?_
  rintro e w4 ⟨a3, n3, c3, a4, n4, c4, rfl, own3, own4, hb3⟩
  have HB4 := Lib.hid (HB2.out.trans (hb3.mono HB2.out.size))
  have X4 := Lib.hid (X2.out.keep hb3 X2.out.lt)
  have Y4 := Lib.hid (Y2.out.keep hb3 Y2.out.lt)
  have R4 := Lib.hid own3.reads
  have C4 := Lib.hid own4.reads
  have hRl : R.length = n3 := by have := own3.len; rwa [up_len] at this
  have HRl := Lib.hid hRl
  have hn3 : n3 ≤ 64 := by have := HRn.out; omega
  have hn4 : n4 = n3 := by have := own4.len; rw [up_len] at this; have := HRl.out; have := Hcl.out; omega
  subst hn4
  clear hb3 p0 p1 own3 own4 hRl
  obtain ⟨p0, p1, _, _, _⟩ := X4.out
  have hF0 : fam (isFace ([] : List Nat)) = 0 := by rw [← fam_zero]; rfl
  have HF0 := Lib.hid hF0
  clear hF0
  go_wp2_with fail
  go_loop [6, 7, 8, 25] (fun s _ _ k => ∃ I F : Nat, I ≤ n4 ∧ k = .int .i64 I ∧ s = .int .u64 F ∧ Fam F ∧ Hid (F = fam (isFace ((R.take I).filter fun r => cof l T r == 1)))) (fun _ _ _ k => n4 - (intOf k).toNat)
  case atStart => exact ⟨0, 0, Nat.zero_le _, rfl, rfl, Fam.zero, Lib.hid HF0.out.symm⟩
  case round =>
    obtain ⟨I, F, hI, rfl, rfl, hF, hFe⟩ := hrel
    by_cases hlt : I < n4
    · obtain ⟨b1, o1, rfl, hc1⟩ := R4.out.cells (by omega)
      obtain ⟨b3, o3, rfl, hc3⟩ := C4.out.cells (by omega)
      have hx := hc1 I hlt
      have hy := hc3 I hlt
      rw [nth_up] at hx hy
      rw [Hcn.out I (by rw [HRl.out]; exact hlt)] at hy
      have Htk : Hid ((R.take (I + 1)).filter (fun r => cof l T r == 1) = (R.take I).filter (fun r => cof l T r == 1) ++ (if cof l T (nthN R I) = 1 then [nthN R I] else [])) := Lib.hid (by
        have hlR : I < R.length := by rw [HRl.out]; exact hlt
        rw [List.take_succ_eq_append_getElem hlR, List.filter_append, ← nthN_at2 hlR]
        congr 1
        by_cases e : cof l T (nthN R I) = 1
        · rw [if_pos e]; simp [e]
        · rw [if_neg e]; simp [e])
      have hr64 : nthN R I < 64 := HR64.out _ (nthN_mem2 (by rw [HRl.out]; exact hlt))
      obtain ⟨r, hr⟩ : ∃ r, r = nthN R I := ⟨_, rfl⟩
      obtain ⟨k, hk⟩ : ∃ k, k = cof l T (nthN R I) := ⟨_, rfl⟩
      rw [← hk] at hy Htk
      rw [← hr] at hx Htk hr64
      have hI0 : (0 : Int) ≤ I := by omega
      have hIn : (I : Int) < n4 := by omega
      clear hc1 hc3 hr hk
      by_cases h1 : k = 1
      · have h1b : ((k : Int) == 1) = true := by simp; omega
        obtain ⟨G, hG⟩ : ∃ G, G = fam (sub · r) := ⟨_, rfl⟩
        have hGF : Fam G := by rw [hG]; exact fam_Fam _
        have HSf : Hid (∀ W, Calls Tryz.prog 148 #[.int .i64 r] W fun e w' => e = .returned (.int .u64 G) ∧ W = w') := Lib.hid fun W => by rw [hG]; exact subsetFamily_any r W hr64
        have Hst : Hid (F ||| G = fam (isFace ((R.take (I + 1)).filter (fun r => cof l T r == 1)))) := Lib.hid (by
          rw [Htk.out, if_pos h1, hFe.out, hG, fam_or]
          exact fam_congr fun s _ => (isFace_snoc _ _ _).symm)
        have Hlt := Lib.hid hlt
        clear h1 hG
        go_wp2_with (go_at_call 148; (with_reducible refine (HSf.out _).mono ?_); rintro e w' ⟨rfl, rfl⟩)
        go_round
        case rel => exact ⟨I + 1, F ||| G, Hlt.out, by go_num, by go_num, hF.or hGF, Hst⟩
        case measure => have := Hlt.out; simp [intOf]; omega
      · have h1b : ((k : Int) == 1) = false := by simp; omega
        have Hst : Hid (F = fam (isFace ((R.take (I + 1)).filter (fun r => cof l T r == 1)))) := Lib.hid (by rw [Htk.out, if_neg h1, List.append_nil]; exact hFe.out)
        have Hlt := Lib.hid hlt
        clear h1
        go_wp2_with fail
        go_round
        case rel => exact ⟨I + 1, F, Hlt.out, by go_num, rfl, hF, Hst⟩
        case measure => have := Hlt.out; simp [intOf]; omega
    · obtain rfl : I = n4 := by omega
      have hII : ¬ ((I : Int) < I) := by omega
      have HcF : Hid (∀ W, Calls Tryz.prog 120 #[.int .i64 p, .int .u64 F] W (RetBox W p (up (maxL (rd1 l T).contains)))) := Lib.hid fun W => by
        have := complexOf_any p F W hF
        have e : maxL F.testBit = maxL (rd1 l T).contains := by
          rw [← Hfin.out, hFe.out, List.take_of_length_le (by rw [HRl.out]; exact Nat.le_refl _), ← Hr1.out]
        rw [e] at this; exact this
      go_wp2_with fail
      refine (HcF.out _).mono ?_
      rintro e w6 ⟨ad6, n6, c6, rfl, hown6, hb6⟩
      have HB6 := Lib.hid (HB4.out.trans (hb6.mono HB4.out.size))
      have HO6 := Lib.hid hown6
      have hzz : w.heap.size + 2 ≤ w4.heap.size := by have := Y4.out.lt; omega
      obtain ⟨r0, r1, f0, f1, _⟩ := Y4.out.keep hb6 Y4.out.lt
      clear hb6 hown6
      go_wp2_with fail
      refine bodyPost_ret (v := .tuple #[.agg #[.int .i64 p, .slice ad6 n6 c6], .bool true]) (by simp [results, Tryz.results66, go_sem, r0, r1]) rfl ⟨ad6, n6, c6, rfl, ?_, ?_⟩
      · exact Row.mono ((Row.setBelow HO6.out _ (by omega)).setBelow _ (by omega)) (by omega)
      · exact (HB6.out.setCell (by first | omega | (simp; done) | (simp; omega)) _).setCell (by first | omega | (simp; done) | (simp; omega)) _
/-- the points that facets hold -/
def usedN (l : List Nat) : Nat := l.foldl (· ||| ·) 0
theorem usedN_take {l : List Nat} {k : Nat} (h : k < l.length) : usedN (l.take (k + 1)) = usedN (l.take k) ||| nthN l k := by
  unfold usedN
  rw [List.take_succ_eq_append_getElem h, List.foldl_append, nthN_at2 h]; rfl
theorem used_fold : ∀ (l : List Nat) (x : Nat), (∀ f ∈ l, f < 64) → x < 64 → l.foldl (· ||| ·) x < 64
  | [], x, _, hx => hx
  | f :: l, x, hl, hx => used_fold l (x ||| f) (fun g hg => hl g (by simp [hg])) (or_lt64 hx (hl f (by simp)))
theorem usedN_lt {l : List Nat} (hl : ∀ f ∈ l, f < 64) : usedN l < 64 := used_fold l 0 hl (by omega)
theorem used_bit (i : Nat) : ∀ (l : List Nat) (x : Nat), (l.foldl (· ||| ·) x).testBit i = (x.testBit i || l.any fun f => f.testBit i)
  | [], x => by simp
  | f :: l, x => by rw [List.foldl_cons, used_bit i l, Nat.testBit_or, List.any_cons, Bool.or_assoc]
theorem usedN_bit (l : List Nat) (i : Nat) : (usedN l).testBit i = l.any fun f => f.testBit i := by unfold usedN; rw [used_bit]; simp
set_option maxHeartbeats 1000000 in
theorem iUsed_yes (p : Int) (a : Option Addr) (n c : Nat) (l : List Nat) (w : World) (h : IntsAt w a n (up l)) (hl : ∀ t ∈ l, t < 64)
    (hI : ∀ W, IntsAt W a n (up l) → Calls Tryz.prog 86 #[.agg #[.int .i64 p, .slice a n c]] W fun e w' => e = .returned (.bool true) ∧ Below W.heap.size W w') :
    Calls Tryz.prog 154 #[.agg #[.int .i64 p, .slice a n c]] w fun e w' => e = .returned (.int .i64 (usedN l)) ∧ Below w.heap.size w w' := by
  obtain ⟨w0, hw0⟩ : ∃ w0, w0 = w.alloc (.cells #[.int .i64 p, .slice a n c] 32) := ⟨_, rfl⟩
  have HB0 : Hid (Below w.heap.size w w0) := Lib.hid (by rw [hw0]; exact (by repeat (first | exact Below.refl _ _ | assumption | refine Below.setCell ?_ (by first | omega | (simp; done) | (simp; omega)) _ | refine Below.alloc ?_ (by first | omega | (simp; done) | (simp; omega)) _ | apply Below.drew)))
  have X0 : Hid (BoxF w0 w.heap.size (.int .i64 p) (.slice a n c)) := Lib.hid (by rw [hw0]; exact BoxF.new _ _ _ _)
  have Hx0 : Hid (IntsAt w0 a n (up l)) := Lib.hid (h.keep HB0.out)
  have Hln : Hid (l.length = n) := Lib.hid (by have := h.len; rwa [up_len] at this)
  have hsm := h.small
  have HI := Lib.hid hI; have HW0 := Lib.hid hw0; have Hl := Lib.hid hl
  clear h hI hw0 hl
  go_enter Tryz.func154, Tryz.ntmps154
  go_wp2_with fail
  rw [← HW0.out]
  refine (HI.out _ Hx0.out).mono ?_
  rintro e w1 ⟨rfl, hb1⟩
  have HB1 := Lib.hid (HB0.out.trans (hb1.mono HB0.out.size))
  have X1 := Lib.hid (X0.out.keep hb1 X0.out.lt)
  have Hx1 := Lib.hid (Hx0.out.keep hb1)
  clear hb1
  obtain ⟨p0, p1, _, _, _⟩ := X1.out
  go_wp2_with fail
  go_loop [3, 5, 12] (fun s _ k => ∃ I U : Nat, I ≤ n ∧ k = .int .i64 I ∧ s = .int .i64 U ∧ U < 64 ∧ Hid (U = usedN (l.take I))) (fun _ _ k => n - (intOf k).toNat)
  case atStart => exact ⟨0, 0, Nat.zero_le _, rfl, rfl, by omega, Lib.hid rfl⟩
  case round =>
    obtain ⟨I, U, hI, rfl, rfl, hU, hUe⟩ := hrel
    by_cases hlt : I < n
    · obtain ⟨b1, o1, rfl, hc1⟩ := Hx1.out.cells (by omega)
      have hx := hc1 I hlt
      rw [nth_up] at hx
      have hf64 : nthN l I < 64 := Hl.out _ (nthN_mem2 (by rw [Hln.out]; exact hlt))
      have Hst : Hid (U ||| nthN l I = usedN (l.take (I + 1))) := Lib.hid (by rw [usedN_take (by rw [Hln.out]; exact hlt), hUe.out])
      obtain ⟨f, hf⟩ : ∃ f, f = nthN l I := ⟨_, rfl⟩
      rw [← hf] at hx hf64 Hst
      have hor := w_or U f hU hf64
      have Hlt := Lib.hid hlt
      have hI0 : (0 : Int) ≤ I := by omega
      have hIn : (I : Int) < n := by omega
      clear hc1 hf
      go_wp2_with fail
      go_round
      case rel => exact ⟨I + 1, U ||| f, Hlt.out, by go_num, by go_num, or_lt64 hU hf64, Hst⟩
      case measure => have := Hlt.out; simp [intOf]; omega
    · obtain rfl : I = n := by omega
      have hII : ¬ ((I : Int) < I) := by omega
      have HU : Hid (U = usedN l) := Lib.hid (by rw [hUe.out, ← Hln.out, List.take_length])
      go_wp2_with fail
      go_ret
      refine ⟨?_, HB1.out⟩
      rw [← HU.out]
      rfl
theorem link_max {l : List Nat} {s : Nat} (hl : ∀ f ∈ l, f < 64) (hs : s < 64) : maxL (lkF (faceSet l) s).testBit = maxL (linkL l s).contains := by
  refine maxL_eq (fun x hx h => ?_) (fun x hx h => ?_)
  · rw [lkFace hs hx] at h
    obtain ⟨y, hy, hxy⟩ := link_up hl hs h
    exact ⟨y, linkL_lt hl y hy, by simpa using hy, hxy⟩
  · exact ⟨x, hx, by rw [lkFace hs hx]; exact link_in hl hs (by simpa using h) (by unfold sub; simp), by unfold sub; simp⟩
set_option maxHeartbeats 1000000 in
theorem iLink_yes (p : Int) (a : Option Addr) (n c : Nat) (l : List Nat) (s : Nat) (w : World) (h : IntsAt w a n (up l)) (hl : ∀ t ∈ l, t < 64) (hs : s < 64) (hset : isSetB p s = true)
    (hI : ∀ W, IntsAt W a n (up l) → Calls Tryz.prog 86 #[.agg #[.int .i64 p, .slice a n c]] W fun e w' => e = .returned (.bool true) ∧ Below W.heap.size W w') :
    Calls Tryz.prog 155 #[.agg #[.int .i64 p, .slice a n c], .int .i64 s] w (RetBox2 w p (up (maxL (linkL l s).contains)) true) := by
  obtain ⟨w0, hw0⟩ : ∃ w0, w0 = (w.alloc (.cells #[.int .i64 p, .slice a n c] 32)).alloc (.cells #[.int .i64 0, .slice none 0 0] 32) := ⟨_, rfl⟩
  have HB0 : Hid (Below w.heap.size w w0) := Lib.hid (by rw [hw0]; exact (by repeat (first | exact Below.refl _ _ | assumption | refine Below.setCell ?_ (by first | omega | (simp; done) | (simp; omega)) _ | refine Below.alloc ?_ (by first | omega | (simp; done) | (simp; omega)) _ | apply Below.drew)))
  have hz0 : w0.heap.size = w.heap.size + 2 := by rw [hw0]; simp
  have X0 : Hid (BoxF w0 w.heap.size (.int .i64 p) (.slice a n c)) := Lib.hid (by rw [hw0]; exact (BoxF.new _ _ _ _).alloc _)
  have Y0 : Hid (BoxF w0 (w.heap.size + 1) (.int .i64 0) (.slice none 0 0)) := Lib.hid (by
    have := BoxF.new (w.alloc (.cells #[.int .i64 p, .slice a n c] 32)) (.int .i64 0) (.slice none 0 0) 32
    rw [show (w.alloc (.cells #[.int .i64 p, .slice a n c] 32)).heap.size = w.heap.size + 1 by simp] at this
    rw [hw0]; exact this)
  have Hx0 : Hid (IntsAt w0 a n (up l)) := Lib.hid (h.keep HB0.out)
  obtain ⟨F, hF⟩ : ∃ F, F = faceSet l := ⟨_, rfl⟩
  have HFF : Fam F := by rw [hF]; exact faceSet_Fam l
  have HFc : Hid (∀ W, IntsAt W a n (up l) → Calls Tryz.prog 134 #[.agg #[.int .i64 p, .slice a n c]] W fun e w' => e = .returned (.int .u64 F) ∧ Below W.heap.size W w') := Lib.hid fun W hW => by rw [hF]; exact facesIn_any p a n c l W hW hl
  obtain ⟨G, hG⟩ : ∃ G, G = lkF F s := ⟨_, rfl⟩
  have HLk : Hid (∀ W, Calls Tryz.prog 195 #[.int .u64 F, .int .i64 s] W fun e w' => e = .returned (.int .u64 G) ∧ Below W.heap.size W w') := Lib.hid fun W => by rw [hG]; exact linkIn_any F s W HFF hs
  have HCx : Hid (∀ W, Calls Tryz.prog 120 #[.int .i64 p, .int .u64 G] W (RetBox W p (up (maxL (linkL l s).contains)))) := Lib.hid fun W => by
    have := complexOf_any p G W (by rw [hG]; exact lkFam _ _)
    rw [hG, hF, link_max hl hs, ← hF, ← hG] at this; exact this
  have HS : Hid (∀ W, Calls Tryz.prog 93 #[.int .i64 p, .int .i64 s] W fun e w' => e = .returned (.bool true) ∧ W = w') := Lib.hid fun W => by rw [← hset]; exact IsSet_any p s W
  have HI := Lib.hid hI; have HW0 := Lib.hid hw0
  clear h hI hw0 hl hF hG hset
  go_enter Tryz.func155, Tryz.ntmps155
  go_wp2_with fail
  rw [← HW0.out]
  refine (HI.out _ Hx0.out).mono ?_
  rintro e w1 ⟨rfl, hb1⟩
  have HB1 := Lib.hid (HB0.out.trans (hb1.mono HB0.out.size))
  have X1 := Lib.hid (X0.out.keep hb1 X0.out.lt)
  have Y1 := Lib.hid (Y0.out.keep hb1 Y0.out.lt)
  have Hx1 := Lib.hid (Hx0.out.keep hb1)
  have hzz : w.heap.size + 2 ≤ w1.heap.size := by have := Y1.out.lt; omega
  clear hb1
  obtain ⟨p0, p1, _, _, _⟩ := X1.out
  have SX := Lib.hid (X1.out.keep (W' := w1.drew) (Below.refl _ _).drew X1.out.lt)
  have SY := Lib.hid (Y1.out.keep (W' := w1.drew) (Below.refl _ _).drew Y1.out.lt)
  have SI := Lib.hid (Hx1.out.keep (w' := w1.drew) (Below.refl _ _).drew)
  have SB := Lib.hid (HB1.out.drew)
  go_wp2_with (go_at_call 93; (with_reducible refine (HS.out _).mono ?_); rintro e w' ⟨rfl, rfl⟩)
  go_region_held3 (fun W => W.cell? ⟨w.heap.size, 0, none⟩ = some (.int .i64 p) ∧ W.cell? ⟨w.heap.size, 1, none⟩ = some (.slice a n c)) (first | exact ⟨p0, p1⟩ | exact ⟨SX.out.c0, SX.out.c1⟩ | go_keep) (first
    | (go_simp; go_at_call 134; (with_reducible refine (HFc.out _ SI.out).mono ?_); rintro e w6 ⟨rfl, hb6⟩; have SX := Lib.hid (SX.out.keep hb6 SX.out.lt); have SY := Lib.hid (SY.out.keep hb6 SY.out.lt); have SI := Lib.hid (SI.out.keep hb6); have SB := Lib.hid (SB.out.trans (hb6.mono SB.out.size)); clear hb6)
    | (go_simp; go_at_call 195; (with_reducible refine (HLk.out _).mono ?_); rintro e w6 ⟨rfl, hb6⟩; have SX := Lib.hid (SX.out.keep hb6 SX.out.lt); have SY := Lib.hid (SY.out.keep hb6 SY.out.lt); have SI := Lib.hid (SI.out.keep hb6); have SB := Lib.hid (SB.out.trans (hb6.mono SB.out.size)); clear hb6)
    | (go_simp; go_at_call 120; (with_reducible refine (HCx.out _).mono ?_); rintro e w6 ⟨ad6, n6, c6, rfl, hown6, hb6⟩; have SX := Lib.hid (SX.out.keep hb6 SX.out.lt); have HO6 := Lib.hid (Own.mono hown6 SY.out.lt); have SY := Lib.hid (SY.out.keep hb6 SY.out.lt); have SI := Lib.hid (SI.out.keep hb6); have SB := Lib.hid (SB.out.trans (hb6.mono SB.out.size)); obtain ⟨r0, r1, f0, f1, _⟩ := SY.out; clear hb6 hown6))
  all_goals (
    go_wp2_with fail
    refine bodyPost_ret (v := .tuple #[.agg #[.int .i64 p, .slice ad6 n6 c6], .bool true]) (by simp [results, Tryz.results155, go_sem, r0, r1]) rfl ⟨ad6, n6, c6, rfl, ?_, ?_⟩
    · exact Row.mono ((Row.setBelow HO6.out _ (by omega)).setBelow _ (by omega)) (by omega)
    · exact (SB.out.setCell (by first | omega | (simp; done) | (simp; omega)) _).setCell (by first | omega | (simp; done) | (simp; omega)) _)
end Go.Proofs.YtihfhfihladlcaaGreatDoor

/- Contracts of ridges, closedness, chains and edges for a valid complex, both sides, and for what is none. -/
namespace Go.Proofs.YtihfhfihladlcaaGreatDoor
set_option maxRecDepth 20000
open Go.RowKit
set_option linter.unusedSimpArgs false
set_option linter.unusedVariables false

def topL (l : List Nat) : Nat := topTo (isFace l) 64
def rdgV (l : List Nat) : List Nat := if 2 ≤ topL l then rdg l (topL l) else []
def clB (l : List Nat) : Bool := pureB l && decide (2 ≤ topL l) && (rdg l (topL l)).all (· == 2)
def chB (l : List Nat) : Bool := pureB l && decide (0 < l.length) && chainB l
theorem rdgV_yes {l : List Nat} (h : 2 ≤ topL l) : rdgV l = rdg l (topL l) := if_pos h
theorem rdgV_no {l : List Nat} (h : ¬ 2 ≤ topL l) : rdgV l = [] := if_neg h
theorem less_one : ∀ s, s < 64 → 0 < sz s → ∃ u, u < 64 ∧ sub u s = true ∧ sz u + 1 = sz s := by decide +kernel
theorem rds_ne {l : List Nat} (h : 2 ≤ topL l) : 0 < (rds l (topL l)).length := by
  rcases topTo_hit (p := isFace l) 64 with h0 | ⟨s, hs, hA, hz⟩
  · unfold topL at h; omega
  · have hz' : sz s + 1 = topL l := hz
    obtain ⟨u, hu, hus, huz⟩ := less_one s hs (by omega)
    exact List.length_pos_iff.2 (List.ne_nil_of_mem (mem_lvl2.2 ⟨hu, dn_isFace l s hs hA u hus, by omega⟩))
theorem top_zero {l : List Nat} (h : l = []) : topL l = 0 := by rw [h]; exact topTo_nil
section
variable {m : Nat} {l : List Nat}
theorem Cpx.at (hC : Cpx m l) {W : World} {a : Option Addr} {n : Nat} (h : IntsAt W a n (up l)) : l.length = n ∧ n ≤ 64 := by
  have h1 : l.length = n := by have := h.len; rwa [up_len] at this
  have := hC.len
  omega
theorem Cpx.top64 (hC : Cpx m l) : topL l ≤ 7 := topTo_le _ _
theorem sDimV (hC : Cpx m l) (a : Option Addr) (n c : Nat) (w : World) (h : IntsAt w a n (up l)) :
    Calls Tryz.prog 78 #[.agg #[.int .i64 m, .slice a n c]] w fun e w' => e = .returned (.int .i64 ((topL l : Int) - 2)) ∧ Below w.heap.size w w' := by
  obtain ⟨hl, _⟩ := hC.at h
  by_cases h0 : 0 < n
  · exact sDim_yes m a n c l w h hC.anti hC.lt64 (cpx_parts hC).1 h0
  · have e : l = [] := List.length_eq_zero_iff.1 (by omega)
    rw [top_zero e]
    exact sDim_no m a n c _ w h fun hd => by have := hd.2; rw [up_len] at this; omega
theorem sDimN {p : Int} {xs : List Int} (hno : ¬ Anti p xs) (a : Option Addr) (n c : Nat) (w : World) (h : IntsAt w a n xs) :
    Calls Tryz.prog 78 #[.agg #[.int .i64 p, .slice a n c]] w fun e w' => e = .returned (.int .i64 (-2)) ∧ Below w.heap.size w w' := sDim_no p a n c xs w h fun hd => hno hd.1
theorem iDimV (hC : Cpx m l) (a : Option Addr) (n c : Nat) (w : World) (h : IntsAt w a n (up l)) (hc : n ≤ c) :
    Calls Tryz.prog 146 #[.agg #[.int .i64 m, .slice a n c]] w fun e w' => e = .returned (.int .i64 ((topL l : Int) - 2)) ∧ Below w.heap.size w w' := iDim_yes m a n c l w h hc hC.anti hC.lt64
theorem iDimN {p : Int} {xs : List Int} (hno : ¬ Anti p xs) (a : Option Addr) (n c : Nat) (w : World) (h : IntsAt w a n xs) (hc : n ≤ c) :
    Calls Tryz.prog 146 #[.agg #[.int .i64 p, .slice a n c]] w fun e w' => e = .returned (.int .i64 (-2)) ∧ Below w.heap.size w w' := by
  obtain ⟨w0, hw0⟩ : ∃ w0, w0 = w.alloc (.cells #[.int .i64 p, .slice a n c] 32) := ⟨_, rfl⟩
  have HB0 : Hid (Below w.heap.size w w0) := Lib.hid (by rw [hw0]; exact (by repeat (first | exact Below.refl _ _ | assumption | refine Below.setCell ?_ (by first | omega | (simp; done) | (simp; omega)) _ | refine Below.alloc ?_ (by first | omega | (simp; done) | (simp; omega)) _ | apply Below.drew)))
  have Hx0 : Hid (IntsAt w0 a n xs) := Lib.hid (h.keep HB0.out)
  have HI : Hid (∀ W, IntsAt W a n xs → Calls Tryz.prog 86 #[.agg #[.int .i64 p, .slice a n c]] W fun e w' => e = .returned (.bool false) ∧ Below W.heap.size W w') := Lib.hid fun W hW => iIsComplex_any p a n c xs W hW hc false (by simp [hno])
  have HW0 := Lib.hid hw0
  clear h hw0
  go_enter Tryz.func146, Tryz.ntmps146
  go_wp2_with fail
  rw [← HW0.out]
  refine (HI.out _ Hx0.out).mono ?_
  rintro e w1 ⟨rfl, hb1⟩
  have HB1 := Lib.hid (HB0.out.trans (hb1.mono HB0.out.size))
  clear hb1
  go_wp2_with fail
  go_ret
  exact ⟨rfl, HB1.out⟩
theorem sRidgesV (hC : Cpx m l) (hT : 2 ≤ topL l) (a : Option Addr) (n c : Nat) (w : World) (h : IntsAt w a n (up l)) : Calls Tryz.prog 150 #[.agg #[.int .i64 m, .slice a n c]] w (RetInts w (up (rds l (topL l)))) :=
  sRidges_yes m a n c l _ w h hC.anti hC.lt64 (cpx_parts hC).1 rfl hT
theorem sRCV (hC : Cpx m l) (a : Option Addr) (n c : Nat) (w : World) (h : IntsAt w a n (up l)) : Calls Tryz.prog 69 #[.agg #[.int .i64 m, .slice a n c]] w (RetInts w (up (rdgV l))) := by
  by_cases hT : 2 ≤ topL l
  · rw [rdgV_yes hT]; exact sRC_yes m a n c l _ w h hC.anti hC.lt64 (cpx_parts hC).1 rfl hT
  · rw [rdgV_no hT]; exact sRC_stop m a n c _ _ w h (by omega) fun W hW => sDimV hC a n c W hW
theorem sRCN {p : Int} {xs : List Int} (hno : ¬ Anti p xs) (a : Option Addr) (n c : Nat) (w : World) (h : IntsAt w a n xs) : Calls Tryz.prog 69 #[.agg #[.int .i64 p, .slice a n c]] w (RetInts w []) :=
  sRC_stop p a n c xs (-2) w h (by omega) fun W hW => sDimN hno a n c W hW
theorem iRCV (hC : Cpx m l) (a : Option Addr) (n c : Nat) (w : World) (h : IntsAt w a n (up l)) (hc : n ≤ c) : Calls Tryz.prog 68 #[.agg #[.int .i64 m, .slice a n c]] w (RetInts w (up (rdgV l))) := by
  by_cases hT : 2 ≤ topL l
  · rw [rdgV_yes hT]; exact iRC_g m a n c _ _ _ w h fun W hW => iRidges_yes m a n c l _ W hW hc hC.anti hC.lt64 rfl hT
  · rw [rdgV_no hT]; exact iRC_g m a n c _ [] [] w h fun W hW => iRidges_stop m a n c _ _ W hW (by omega) fun W hW => iDimV hC a n c W hW hc
theorem iRCN {p : Int} {xs : List Int} (hno : ¬ Anti p xs) (a : Option Addr) (n c : Nat) (w : World) (h : IntsAt w a n xs) (hc : n ≤ c) : Calls Tryz.prog 68 #[.agg #[.int .i64 p, .slice a n c]] w (RetInts w []) :=
  iRC_g p a n c xs [] [] w h fun W hW => iRidges_stop p a n c xs (-2) W hW (by omega) fun W hW => iDimN hno a n c W hW hc
theorem sPureV (hC : Cpx m l) (a : Option Addr) (n c : Nat) (w : World) (h : IntsAt w a n (up l)) : Calls Tryz.prog 149 #[.agg #[.int .i64 m, .slice a n c]] w fun e w' => e = .returned (.bool (pureB l)) ∧ Below w.heap.size w w' := sPure_yes m a n c l w h hC.anti hC.lt64 _ rfl
theorem sClosedV (hC : Cpx m l) (a : Option Addr) (n c : Nat) (w : World) (h : IntsAt w a n (up l)) : Calls Tryz.prog 73 #[.agg #[.int .i64 m, .slice a n c]] w fun e w' => e = .returned (.bool (clB l)) ∧ Below w.heap.size w w' := by
  refine sClosed_g m a n c _ (rdgV l) (pureB l) w h (fun W hW => sRCV hC a n c W hW) (fun W hW => sPureV hC a n c W hW) _ ?_
  unfold clB
  by_cases hT : 2 ≤ topL l
  · rw [rdgV_yes hT, show decide (0 < (rdg l (topL l)).length) = true by rw [rdg_len]; simpa using rds_ne hT]
    simp [hT, Bool.and_comm]
  · rw [rdgV_no hT]; simp [hT]
theorem sClosedN {p : Int} {xs : List Int} (hno : ¬ Anti p xs) (a : Option Addr) (n c : Nat) (w : World) (h : IntsAt w a n xs) : Calls Tryz.prog 73 #[.agg #[.int .i64 p, .slice a n c]] w fun e w' => e = .returned (.bool false) ∧ Below w.heap.size w w' :=
  sClosed_g p a n c xs [] false w h (fun W hW => sRCN hno a n c W hW) (fun W hW => sPure_no p a n c xs W hW hno) _ (by simp)
theorem iPureV (hC : Cpx m l) (a : Option Addr) (n c : Nat) (w : World) (h : IntsAt w a n (up l)) (hc : n ≤ c) : Calls Tryz.prog 145 #[.agg #[.int .i64 m, .slice a n c]] w fun e w' => e = .returned (.bool (pureB l)) ∧ Below w.heap.size w w' := iPure_yes m a n c l w h hc hC.anti hC.lt64 _ rfl
theorem iClosedV (hC : Cpx m l) (a : Option Addr) (n c : Nat) (w : World) (h : IntsAt w a n (up l)) (hc : n ≤ c) : Calls Tryz.prog 72 #[.agg #[.int .i64 m, .slice a n c]] w fun e w' => e = .returned (.bool (clB l)) ∧ Below w.heap.size w w' := by
  by_cases hk : pureB l = true ∧ 2 ≤ topL l
  · refine iClosed_yes m a n c _ (rdgV l) _ w h (fun W hW => iDimV hC a n c W hW hc) (fun W hW => by rw [← hk.1]; exact iPureV hC a n c W hW hc) (fun W hW => iRCV hC a n c W hW hc) (by have := hk.2; omega) _ ?_
    unfold clB
    rw [rdgV_yes hk.2]; simp [hk.1, hk.2]
  · have e : clB l = false := by
      unfold clB
      by_cases h1 : pureB l = true
      · have h2 : ¬ 2 ≤ topL l := fun h2 => hk ⟨h1, h2⟩
        simp [h2]
      · simp [h1]
    rw [e]
    refine iClosed_stop m a n c _ (pureB l) _ w h (fun W hW => iDimV hC a n c W hW hc) (fun W hW => iPureV hC a n c W hW hc) ?_
    by_cases h1 : pureB l = true
    · have h2 : ¬ 2 ≤ topL l := fun h2 => hk ⟨h1, h2⟩
      exact .inr (by omega)
    · exact .inl (by simpa using h1)
theorem iClosedN {p : Int} {xs : List Int} (hno : ¬ Anti p xs) (a : Option Addr) (n c : Nat) (w : World) (h : IntsAt w a n xs) (hc : n ≤ c) : Calls Tryz.prog 72 #[.agg #[.int .i64 p, .slice a n c]] w fun e w' => e = .returned (.bool false) ∧ Below w.heap.size w w' :=
  iClosed_stop p a n c xs false (-2) w h (fun W hW => iDimN hno a n c W hW hc) (fun W hW => iPure_no p a n c xs W hW hc hno) (.inl rfl)
theorem sChainedV (hC : Cpx m l) (a : Option Addr) (n c : Nat) (w : World) (h : IntsAt w a n (up l)) : Calls Tryz.prog 71 #[.agg #[.int .i64 m, .slice a n c]] w fun e w' => e = .returned (.bool (chB l)) ∧ Below w.heap.size w w' := by
  obtain ⟨hl, hn⟩ := hC.at h
  by_cases hk : pureB l = true ∧ 0 < n
  · have e : chB l = chainB l := by unfold chB; simp [hk.1, hl, hk.2]
    rw [e]
    exact sChained_yes m a n c l w h hC.lt64 hk.2 hn fun W hW => by rw [← hk.1]; exact sPureV hC a n c W hW
  · have e : chB l = false := by
      unfold chB
      by_cases h1 : pureB l = true
      · have h2 : ¬ 0 < n := fun h2 => hk ⟨h1, h2⟩
        rw [hl]; simp [h2]
      · simp [h1]
    rw [e]
    refine sChained_stop m a n c _ w h (pureB l) (fun W hW => sPureV hC a n c W hW) ?_
    by_cases h1 : pureB l = true
    · have h2 : ¬ 0 < n := fun h2 => hk ⟨h1, h2⟩
      exact .inr (by omega)
    · exact .inl (by simpa using h1)
theorem sChainedN {p : Int} {xs : List Int} (hno : ¬ Anti p xs) (a : Option Addr) (n c : Nat) (w : World) (h : IntsAt w a n xs) : Calls Tryz.prog 71 #[.agg #[.int .i64 p, .slice a n c]] w fun e w' => e = .returned (.bool false) ∧ Below w.heap.size w w' :=
  sChained_stop p a n c xs w h false (fun W hW => sPure_no p a n c xs W hW hno) (.inl rfl)
theorem iChainedV (hC : Cpx m l) (a : Option Addr) (n c : Nat) (w : World) (h : IntsAt w a n (up l)) (hc : n ≤ c) : Calls Tryz.prog 70 #[.agg #[.int .i64 m, .slice a n c]] w fun e w' => e = .returned (.bool (chB l)) ∧ Below w.heap.size w w' := by
  obtain ⟨hl, hn⟩ := hC.at h
  by_cases hk : pureB l = true ∧ 0 < n
  · have e : chB l = chainB l := by unfold chB; simp [hk.1, hl, hk.2]
    rw [e]
    exact iChained_yes m a n c l w h hC.lt64 hk.2 hn hk.1 fun W hW => by rw [← hk.1]; exact iPureV hC a n c W hW hc
  · have e : chB l = false := by
      unfold chB
      by_cases h1 : pureB l = true
      · have h2 : ¬ 0 < n := fun h2 => hk ⟨h1, h2⟩
        rw [hl]; simp [h2]
      · simp [h1]
    rw [e]
    refine iChained_stop m a n c _ w h (pureB l) (fun W hW => iPureV hC a n c W hW hc) ?_
    by_cases h1 : pureB l = true
    · have h2 : ¬ 0 < n := fun h2 => hk ⟨h1, h2⟩
      exact .inr (by omega)
    · exact .inl (by simpa using h1)
theorem iChainedN {p : Int} {xs : List Int} (hno : ¬ Anti p xs) (a : Option Addr) (n c : Nat) (w : World) (h : IntsAt w a n xs) (hc : n ≤ c) : Calls Tryz.prog 70 #[.agg #[.int .i64 p, .slice a n c]] w fun e w' => e = .returned (.bool false) ∧ Below w.heap.size w w' :=
  iChained_stop p a n c xs w h false (fun W hW => iPure_no p a n c xs W hW hc hno) (.inl rfl)
end
/-- the edge complex: its points, its facets, whether there is one -/
def edP (m : Nat) (l : List Nat) : Int := if pureB l && decide (2 ≤ topL l) then m else 0
def edL (l : List Nat) : List Nat := if pureB l && decide (2 ≤ topL l) then maxL (rd1 l (topL l)).contains else []
def edB (l : List Nat) : Bool := pureB l && decide (2 ≤ topL l)
section
variable {m : Nat} {l : List Nat}
theorem sEdgeV (hC : Cpx m l) (a : Option Addr) (n c : Nat) (w : World) (h : IntsAt w a n (up l)) : Calls Tryz.prog 67 #[.agg #[.int .i64 m, .slice a n c]] w (RetBox2 w (edP m l) (up (edL l)) (edB l)) := by
  unfold edP edL edB
  by_cases hk : pureB l = true ∧ 2 ≤ topL l
  · have e : (pureB l && decide (2 ≤ topL l)) = true := by simp [hk.1, hk.2]
    rw [e]
    exact sEdge_yes m a n c l _ w h hk.2 (fun W hW => sDimV hC a n c W hW) (fun W hW => by rw [← hk.1]; exact sPureV hC a n c W hW) (fun W hW => sRidgesV hC hk.2 a n c W hW) (fun W hW => by have := sRCV hC a n c W hW; rwa [rdgV_yes hk.2] at this)
  · have e : (pureB l && decide (2 ≤ topL l)) = false := by simpa using hk
    rw [e]
    refine sEdge_stop m a n c _ (pureB l) _ w h (fun W hW => sDimV hC a n c W hW) (fun W hW => sPureV hC a n c W hW) ?_
    by_cases h1 : pureB l = true
    · have h2 : ¬ 2 ≤ topL l := fun h2 => hk ⟨h1, h2⟩
      exact .inr (by omega)
    · exact .inl (by simpa using h1)
theorem sEdgeN {p : Int} {xs : List Int} (hno : ¬ Anti p xs) (a : Option Addr) (n c : Nat) (w : World) (h : IntsAt w a n xs) : Calls Tryz.prog 67 #[.agg #[.int .i64 p, .slice a n c]] w (RetBox2 w 0 [] false) :=
  sEdge_stop p a n c xs false (-2) w h (fun W hW => sDimN hno a n c W hW) (fun W hW => sPure_no p a n c xs W hW hno) (.inl rfl)
theorem iEdgeV (hC : Cpx m l) (a : Option Addr) (n c : Nat) (w : World) (h : IntsAt w a n (up l)) (hc : n ≤ c) : Calls Tryz.prog 66 #[.agg #[.int .i64 m, .slice a n c]] w (RetBox2 w (edP m l) (up (edL l)) (edB l)) := by
  unfold edP edL edB
  by_cases hk : pureB l = true ∧ 2 ≤ topL l
  · have e : (pureB l && decide (2 ≤ topL l)) = true := by simp [hk.1, hk.2]
    rw [e]
    exact iEdge_yes m a n c l _ w h hk.2 (fun W hW => iDimV hC a n c W hW hc) (fun W hW => by rw [← hk.1]; exact iPureV hC a n c W hW hc) (fun W hW => iRidges_yes m a n c l _ W hW hc hC.anti hC.lt64 rfl hk.2)
  · have e : (pureB l && decide (2 ≤ topL l)) = false := by simpa using hk
    rw [e]
    refine iEdge_stop m a n c _ (pureB l) _ w h (fun W hW => iDimV hC a n c W hW hc) (fun W hW => iPureV hC a n c W hW hc) ?_
    by_cases h1 : pureB l = true
    · have h2 : ¬ 2 ≤ topL l := fun h2 => hk ⟨h1, h2⟩
      exact .inr (by omega)
    · exact .inl (by simpa using h1)
theorem iEdgeN {p : Int} {xs : List Int} (hno : ¬ Anti p xs) (a : Option Addr) (n c : Nat) (w : World) (h : IntsAt w a n xs) (hc : n ≤ c) : Calls Tryz.prog 66 #[.agg #[.int .i64 p, .slice a n c]] w (RetBox2 w 0 [] false) :=
  iEdge_stop p a n c xs false (-2) w h (fun W hW => iDimN hno a n c W hW hc) (fun W hW => iPure_no p a n c xs W hW hc hno) (.inl rfl)
end
end Go.Proofs.YtihfhfihladlcaaGreatDoor

/- The edge complex of a complex, plain: its facets, and that ridges of the edge lie in an even number of its facets. -/
namespace Go.Proofs.YtihfhfihladlcaaGreatDoor
set_option maxRecDepth 20000
open Go.RowKit
set_option linter.unusedSimpArgs false
set_option linter.unusedVariables false

theorem mid_two : ∀ r, r < 64 → ∀ f, f < 64 → (sub r f && sz f == sz r + 2) = true → ((List.range 64).filter fun R => sub r R && sub R f && sz R == sz r + 1).length = 2 := by decide +kernel
theorem same_sz : ∀ s, s < 64 → ∀ t, t < 64 → (sub s t && sz s == sz t) = true → s = t := by decide +kernel
theorem mid_sub : ∀ r R f : Nat, sub r R = true → sub R f = true → sub r f = true := fun r R f h1 h2 => by
  unfold sub at *
  simp only [beq_iff_eq] at *
  rw [← h1, Nat.and_assoc, h2]
section
variable {m : Nat} {l : List Nat}
theorem top_pure (hC : Cpx m l) (hp : pureB l = true) (h1 : 1 ≤ topL l) : ∀ f ∈ l, sz f + 1 = topL l := by
  have h64 := hC.lt64
  have hle : ∀ f ∈ l, sz f < topL l := fun f hf => topTo_ge ((srf_face h64).2 ⟨f, hf, by unfold sub; simp⟩) 64 (h64 f hf)
  rcases topTo_hit (p := isFace l) 64 with h0 | ⟨s, hs, hA, hz⟩
  · unfold topL at h1; omega
  · have hz' : sz s + 1 = topL l := hz
    obtain ⟨f, hf, hsf⟩ := (srf_face h64).1 hA
    have h1 := sub_szL s hs f (h64 f hf) hsf
    have h4 := hle f hf
    unfold pureB at hp
    rw [List.all_eq_true] at hp
    have e1 := hp f hf
    intro g hg
    have e2 := hp g hg
    simp at e1 e2
    omega
theorem rd1_mem {T t : Nat} : t ∈ rd1 l T ↔ t < 64 ∧ isFace l t = true ∧ sz t = T - 2 ∧ cof l T t = 1 := by
  unfold rd1 rds
  rw [List.mem_filter, mem_lvl2]
  simp only [beq_iff_eq, and_assoc]
theorem edL_mem (hp : pureB l = true) (hT : 2 ≤ topL l) {t : Nat} : t ∈ edL l ↔ t < 64 ∧ isFace l t = true ∧ sz t = topL l - 2 ∧ cof l (topL l) t = 1 := by
  have e : (pureB l && decide (2 ≤ topL l)) = true := by simp [hp, hT]
  unfold edL
  rw [e, if_pos rfl, mem_maxL]
  simp only [List.contains_iff_mem]
  constructor
  · rintro ⟨_, h, _⟩; exact rd1_mem.1 h
  · intro h
    refine ⟨h.1, rd1_mem.2 h, fun u hu hu1 hs => same_sz t h.1 u hu ?_⟩
    rw [hs, h.2.2.1, (rd1_mem.1 hu1).2.2.1]; simp
theorem edL_no (h : edB l = false) : edL l = [] := by
  unfold edB at h; unfold edL; rw [h]; rfl
theorem edB_yes (h : edB l = true) : pureB l = true ∧ 2 ≤ topL l := by
  unfold edB at h; simpa using h
theorem face_lt2 (hC : Cpx m l) {t : Nat} (h : isFace l t = true) : t < 2 ^ m := by
  obtain ⟨f, hf, hs⟩ := (srf_face hC.lt64).1 h
  have := hC.lt f hf
  unfold sub at hs
  have e : t &&& f = t := by simpa using hs
  have := Nat.and_le_right (n := t) (m := f)
  omega
theorem edL_cpx (hC : Cpx m l) (hb : edB l = true) : Cpx m (edL l) := by
  obtain ⟨hp, hT⟩ := edB_yes hb
  have e : (pureB l && decide (2 ≤ topL l)) = true := by simp [hp, hT]
  refine Cpx.of ?_
  unfold edL
  rw [e, if_pos rfl]
  refine anti_maxL hC.one hC.six fun s hs h => ?_
  have h' : s ∈ rd1 l (topL l) := by simpa using h
  exact face_lt2 hC (rd1_mem.1 h').2.1
theorem edP_yes (hb : edB l = true) : edP m l = m := by
  unfold edB at hb; unfold edP; rw [hb]; rfl
theorem closed_edge (h : clB l = true) : edB l = true ∧ edL l = [] := by
  unfold clB at h
  simp only [Bool.and_eq_true, decide_eq_true_eq] at h
  obtain ⟨⟨hp, hT⟩, ha⟩ := h
  refine ⟨by unfold edB; simp [hp, hT], List.eq_nil_iff_forall_not_mem.2 fun t ht => ?_⟩
  obtain ⟨h1, h2, h3, h4⟩ := (edL_mem hp hT).1 ht
  rw [List.all_eq_true] at ha
  have := ha (cof l (topL l) t) (List.mem_map.2 ⟨t, mem_lvl2.2 ⟨h1, h2, h3⟩, rfl⟩)
  rw [h4] at this
  simp at this
theorem cpx_nodup (hC : Cpx m l) : l.Nodup := (cpx_parts hC).1.imp fun h e => by rw [e] at h; omega
theorem cof_sm (hC : Cpx m l) (T r : Nat) : (cof l T r : Int) = sm (fun t => if l.contains t && isR T r t then 1 else 0) 64 := by
  unfold cof
  rw [filter_mem_len (cpx_nodup hC) hC.lt64, filter_sm]
theorem top_edge (hC : Cpx m l) (hp : pureB l = true) (hT : 2 ≤ topL l) (hne : edL l ≠ []) : topL (edL l) = topL l - 1 := by
  have hE : Cpx m (edL l) := edL_cpx hC (by unfold edB; simp [hp, hT])
  obtain ⟨e, he⟩ := List.exists_mem_of_ne_nil _ hne
  obtain ⟨e1, e2, e3, e4⟩ := (edL_mem hp hT).1 he
  have h1 : sz e < topL (edL l) := topTo_ge ((srf_face hE.lt64).2 ⟨e, he, by unfold sub; simp⟩) 64 e1
  rcases topTo_hit (p := isFace (edL l)) 64 with h0 | ⟨s, hs, hA, hz⟩
  · unfold topL at h1; omega
  · have hz' : sz s + 1 = topL (edL l) := hz
    obtain ⟨f, hf, hsf⟩ := (srf_face hE.lt64).1 hA
    obtain ⟨f1, f2, f3, f4⟩ := (edL_mem hp hT).1 hf
    have := sub_szL s hs f f1 hsf
    omega
theorem edge_even (hC : Cpx m l) (hp : pureB l = true) (hT : 3 ≤ topL l) (h2 : ∀ x ∈ rdgV l, x ≤ 2) (hne : edL l ≠ []) : ∀ x ∈ rdgV (edL l), x % 2 = 0 := by
  have hb : edB l = true := by unfold edB; simp [hp]; omega
  have hE : Cpx m (edL l) := edL_cpx hC hb
  have hTE := top_edge hC hp (by omega) hne
  have h64 := hC.lt64
  have htop := top_pure hC hp (by omega)
  rw [rdgV_yes (by omega), hTE]
  rw [rdgV_yes (by omega)] at h2
  intro x hx
  obtain ⟨r, hr, rfl⟩ := List.mem_map.1 hx
  obtain ⟨r1, r2, r3⟩ := mem_lvl2.1 hr
  obtain ⟨T, hTe⟩ : ∃ T, T = topL l := ⟨_, rfl⟩
  have hcof : ∀ R, R < 64 → isFace l R = true → sz R = T - 2 → cof l T R ≤ 2 := fun R a b c => by
    rw [hTe] at c ⊢
    exact h2 _ (List.mem_map.2 ⟨R, mem_lvl2.2 ⟨a, b, c⟩, rfl⟩)
  have hmem : ∀ t, t ∈ edL l ↔ t < 64 ∧ isFace l t = true ∧ sz t = T - 2 ∧ cof l T t = 1 := fun t => by rw [hTe]; exact edL_mem hp (by omega)
  rw [← hTe] at hT htop r3 hTE ⊢
  have hX := cof_sm hE (T - 1) r
  obtain ⟨N, hN⟩ : ∃ N : Nat → Bool, N = fun R => isFace l R && sz R == T - 2 && sub r R := ⟨_, rfl⟩
  have hX2 : (cof (edL l) (T - 1) r : Int) = sm (fun R => if N R && cof l T R == 1 then 1 else 0) 64 := by
    rw [hX]
    refine sm_congr 64 fun R hR => ?_
    have : ((edL l).contains R && isR (T - 1) r R) = (N R && cof l T R == 1) := by
      rw [Bool.eq_iff_iff, hN]
      unfold isR
      simp only [Bool.and_eq_true, beq_iff_eq, List.contains_iff_mem, hmem]
      constructor
      · rintro ⟨⟨a, b, c, d⟩, e, f⟩; exact ⟨⟨⟨b, c⟩, e⟩, d⟩
      · rintro ⟨⟨⟨b, c⟩, e⟩, d⟩; exact ⟨⟨hR, b, c, d⟩, e, by omega⟩
    rw [this]
  have hS : sm (fun R => if N R then (cof l T R : Int) else 0) 64 = sm (fun R => if N R && cof l T R == 1 then 1 else 0) 64 + 2 * sm (fun R => if N R && cof l T R == 2 then 1 else 0) 64 := by
    rw [← sm_mul, ← sm_add]
    refine sm_congr 64 fun R hR => ?_
    cases hNR : N R with
    | false => simp
    | true =>
      have hNR' := hNR
      rw [hN] at hNR'
      simp only [Bool.and_eq_true, beq_iff_eq] at hNR'
      have := hcof R hR hNR'.1.1 hNR'.1.2
      have h3 : cof l T R = 0 ∨ cof l T R = 1 ∨ cof l T R = 2 := by omega
      rcases h3 with h3 | h3 | h3 <;> rw [h3] <;> simp
  have hA : sm (fun R => if N R then (cof l T R : Int) else 0) 64 = 2 * sm (fun f => if l.contains f && sub r f then 1 else 0) 64 := by
    rw [sm_congr 64 (h := fun R => sm (fun f => if l.contains f && (sub r R && sub R f && sz R == sz r + 1) then 1 else 0) 64) (fun R hR => by
      cases hNR : N R with
      | false =>
        rw [sm_congr 64 (h := fun _ => 0) (fun f hf => ?_), sm_zero]; rfl
        rw [if_neg]
        intro hh
        simp only [Bool.and_eq_true, beq_iff_eq, List.contains_iff_mem] at hh
        obtain ⟨hfl, ⟨ha, hb'⟩, hc⟩ := hh
        rw [hN] at hNR
        simp only [Bool.and_eq_false_iff, beq_eq_false_iff_ne, ne_eq] at hNR
        rcases hNR with (h | h) | h
        · rw [(srf_face h64).2 ⟨f, hfl, hb'⟩] at h; cases h
        · omega
        · rw [ha] at h; cases h
      | true =>
        rw [if_pos rfl, cof_sm hC]
        refine sm_congr 64 fun f hf => ?_
        rw [hN] at hNR
        simp only [Bool.and_eq_true, beq_iff_eq] at hNR
        obtain ⟨⟨ha, hb'⟩, hc⟩ := hNR
        have : (l.contains f && isR T R f) = (l.contains f && (sub r R && sub R f && sz R == sz r + 1)) := by
          rw [Bool.eq_iff_iff]
          unfold isR
          simp only [Bool.and_eq_true, beq_iff_eq, List.contains_iff_mem]
          constructor
          · rintro ⟨x1, x2, x3⟩; exact ⟨x1, ⟨hc, x2⟩, by omega⟩
          · rintro ⟨x1, ⟨x2, x3⟩, x4⟩; exact ⟨x1, x3, htop f x1⟩
        rw [this])]
    rw [sm_swap (fun R f => if l.contains f && (sub r R && sub R f && sz R == sz r + 1) then 1 else 0) 64 64, ← sm_mul]
    refine sm_congr 64 fun f hf => ?_
    cases hfl : l.contains f with
    | false => simp [sm_zero]
    | true =>
      have hfm : f ∈ l := by simpa using hfl
      rw [sm_congr 64 (h := fun R => if (sub r R && sub R f && sz R == sz r + 1) then 1 else 0) (fun R _ => by rw [Bool.true_and]), ← filter_sm, Bool.true_and]
      cases hrf : sub r f with
      | true =>
        have := htop f hfm
        rw [mid_two r r1 f hf (by rw [hrf, Bool.true_and]; simp; omega)]; rfl
      | false =>
        have : (List.range 64).filter (fun R => sub r R && sub R f && sz R == sz r + 1) = [] := List.filter_eq_nil_iff.2 fun R _ hh => by
          simp only [Bool.and_eq_true, beq_iff_eq] at hh
          rw [mid_sub r R f hh.1.1 hh.1.2] at hrf
          cases hrf
        rw [this]; rfl
  rw [hA] at hS
  omega
end
end Go.Proofs.YtihfhfihladlcaaGreatDoor

/- IsClosed and EdgeComplex of the reference. -/
import Derived.Test.YtihfhfihladlcaaGreatDoorChained
import Derived.Test.YtihfhfihladlcaaGreatDoorHelp
import Derived.Test.YtihfhfihladlcaaGreatDoorIdeal
import Derived.Test.YtihfhfihladlcaaGreatDoorRidge
namespace Go.Proofs.YtihfhfihladlcaaGreatDoor
set_option maxRecDepth 20000
open Go.RowKit
set_option linter.unusedSimpArgs false
set_option linter.unusedVariables false

theorem all2_yes {L : List Nat} (h : ∀ j, j < L.length → nthN L j = 2) : L.all (· == 2) = true := by
  rw [List.all_eq_true]
  intro x hx
  obtain ⟨j, hj, rfl⟩ := List.getElem_of_mem hx
  rw [← nthN_at2 hj, h j hj]; rfl
theorem all2_no {L : List Nat} {j : Nat} (hj : j < L.length) (h : nthN L j ≠ 2) : L.all (· == 2) = false := by
  rw [List.all_eq_false]
  exact ⟨nthN L j, nthN_mem2 hj, by simpa using h⟩
/-- the ridges that lie in one facet -/
def rd1 (l : List Nat) (T : Nat) : List Nat := (rds l T).filter fun r => cof l T r == 1
theorem rd1_lt (l : List Nat) (T : Nat) : ∀ r ∈ rd1 l T, r < 64 := fun r hr => rds_lt l T r (List.mem_filter.1 hr).1
theorem rdg_len (l : List Nat) (T : Nat) : (rdg l T).length = (rds l T).length := by unfold rdg; rw [List.length_map]
theorem rdg_at {l : List Nat} {T k : Nat} (h : k < (rds l T).length) : nthN (rdg l T) k = cof l T (nthN (rds l T) k) := by
  rw [nthN_at2 (by rw [rdg_len]; exact h), nthN_at2 h]
  unfold rdg; rw [List.getElem_map]
set_option maxHeartbeats 1000000 in
theorem sClosed_g (p : Int) (a : Option Addr) (n c : Nat) (xs : List Int) (L : List Nat) (P : Bool) (w : World) (h : IntsAt w a n xs)
    (hR : ∀ W, IntsAt W a n xs → Calls Tryz.prog 69 #[.agg #[.int .i64 p, .slice a n c]] W (RetInts W (up L)))
    (hP : ∀ W, IntsAt W a n xs → Calls Tryz.prog 149 #[.agg #[.int .i64 p, .slice a n c]] W fun e w' => e = .returned (.bool P) ∧ Below W.heap.size W w')
    (b : Bool) (hb : (L.all (· == 2) && (P && decide (0 < L.length))) = b) :
    Calls Tryz.prog 73 #[.agg #[.int .i64 p, .slice a n c]] w fun e w' => e = .returned (.bool b) ∧ Below w.heap.size w w' := by
  obtain ⟨w0, hw0⟩ : ∃ w0, w0 = w.alloc (.cells #[.int .i64 p, .slice a n c] 32) := ⟨_, rfl⟩
  have HB0 : Hid (Below w.heap.size w w0) := Lib.hid (by rw [hw0]; exact (by repeat (first | exact Below.refl _ _ | assumption | refine Below.setCell ?_ (by first | omega | (simp; done) | (simp; omega)) _ | refine Below.alloc ?_ (by first | omega | (simp; done) | (simp; omega)) _ | apply Below.drew)))
  have X0 : Hid (BoxF w0 w.heap.size (.int .i64 p) (.slice a n c)) := Lib.hid (by rw [hw0]; exact BoxF.new _ _ _ _)
  have Hx0 : Hid (IntsAt w0 a n xs) := Lib.hid (h.keep HB0.out)
  have HP := Lib.hid hP; have HR := Lib.hid hR; have HW0 := Lib.hid hw0; have Hb := Lib.hid hb
  clear h hP hR hw0 hb
  go_enter Tryz.func73, Tryz.ntmps73
  go_wp2_with fail
  rw [← HW0.out]
  refine (HR.out _ Hx0.out).mono ?_
  rintro e w1 ⟨ad, m, d, rfl, own, hb1⟩
  have HB1 := Lib.hid (HB0.out.trans (hb1.mono HB0.out.size))
  have X1 := Lib.hid (X0.out.keep hb1 X0.out.lt)
  have Hx1 := Lib.hid (Hx0.out.keep hb1)
  have HO := Lib.hid own.reads
  have hLm : L.length = m := by have := own.len; rwa [up_len] at this
  have HLm := Lib.hid hLm
  have hmm := HO.out.small
  clear hb1 own hLm
  obtain ⟨p0, p1, _, _, _⟩ := X1.out
  go_wp2_with fail
  go_loop [4] (fun k => ∃ I : Nat, I ≤ m ∧ k = .int .i64 I ∧ Hid (∀ j, j < I → nthN L j = 2)) (fun k => m - (intOf k).toNat)
  case atStart => exact ⟨0, Nat.zero_le _, rfl, Lib.hid fun j hj => absurd hj (Nat.not_lt_zero _)⟩
  case round =>
    obtain ⟨I, hI, rfl, hall⟩ := hrel
    by_cases hlt : I < m
    · obtain ⟨b1, o1, rfl, hc⟩ := HO.out.cells (by omega)
      have hck := hc I hlt
      rw [nth_up] at hck
      obtain ⟨x, hx⟩ : ∃ x, x = nthN L I := ⟨_, rfl⟩
      rw [← hx] at hck
      have Hx := Lib.hid hx; have Hlt := Lib.hid hlt
      have hI0 : (0 : Int) ≤ I := by omega
      have hIm : (I : Int) < m := by omega
      clear hc hx
      by_cases h2 : x = 2
      · have h2b : ((x : Int) != 2) = false := by simp; omega
        have Hall : Hid (∀ j, j < I + 1 → nthN L j = 2) := Lib.hid fun j hj => by
          rcases Nat.lt_or_ge j I with h | h
          · exact hall.out j h
          · obtain rfl : j = I := by omega
            rw [← Hx.out]; exact h2
        clear h2
        go_wp2_with fail
        go_round
        case rel => exact ⟨I + 1, Hlt.out, by go_num, Hall⟩
        case measure => have := Hlt.out; simp [intOf]; omega
      · have h2b : ((x : Int) != 2) = true := by simp; omega
        have hbf : b = false := by rw [← Hb.out, all2_no (j := I) (by rw [HLm.out]; exact hlt) (by rw [← Hx.out]; exact h2)]; rfl
        subst hbf
        clear h2
        go_wp2_with fail
        go_ret
        exact ⟨rfl, HB1.out⟩
    · obtain rfl : I = m := by omega
      have hII : ¬ ((I : Int) < I) := by omega
      have hbv : b = (P && decide (0 < I)) := by
        rw [← Hb.out, all2_yes (fun j hj => hall.out j (by rw [HLm.out] at hj; exact hj)), HLm.out, Bool.true_and]
      go_wp2_with fail
      refine (HP.out _ Hx1.out).mono ?_
      rintro e w2 ⟨rfl, hb2⟩
      have HB2 := Lib.hid (HB1.out.trans (hb2.mono HB1.out.size))
      clear hb2
      cases P
      · have : b = false := by rw [hbv]; rfl
        subst this
        clear hbv
        go_wp2_with fail
        go_ret
        exact ⟨rfl, HB2.out⟩
      · rw [Bool.true_and] at hbv
        by_cases h0 : 0 < I
        · have : b = true := by rw [hbv]; simpa using h0
          subst this
          have h0i : (0 : Int) < I := by omega
          clear hbv
          go_wp2_with fail
          go_ret
          exact ⟨rfl, HB2.out⟩
        · obtain rfl : I = 0 := by omega
          have : b = false := by rw [hbv]; rfl
          subst this
          clear hbv
          go_wp2_with fail
          go_ret
          exact ⟨rfl, HB2.out⟩
theorem sEdge_stop (p : Int) (a : Option Addr) (n c : Nat) (xs : List Int) (P : Bool) (d : Int) (w : World) (h : IntsAt w a n xs)
    (hD : ∀ W, IntsAt W a n xs → Calls Tryz.prog 78 #[.agg #[.int .i64 p, .slice a n c]] W fun e w' => e = .returned (.int .i64 d) ∧ Below W.heap.size W w')
    (hP : ∀ W, IntsAt W a n xs → Calls Tryz.prog 149 #[.agg #[.int .i64 p, .slice a n c]] W fun e w' => e = .returned (.bool P) ∧ Below W.heap.size W w')
    (hno : P = false ∨ d < 0) :
    Calls Tryz.prog 67 #[.agg #[.int .i64 p, .slice a n c]] w (RetBox2 w 0 [] false) := by
  obtain ⟨w0, hw0⟩ : ∃ w0, w0 = (w.alloc (.cells #[.int .i64 p, .slice a n c] 32)).alloc (.cells #[.int .i64 0, .slice none 0 0] 32) := ⟨_, rfl⟩
  have HB0 : Hid (Below w.heap.size w w0) := Lib.hid (by rw [hw0]; exact (by repeat (first | exact Below.refl _ _ | assumption | refine Below.setCell ?_ (by first | omega | (simp; done) | (simp; omega)) _ | refine Below.alloc ?_ (by first | omega | (simp; done) | (simp; omega)) _ | apply Below.drew)))
  have hz0 : w0.heap.size = w.heap.size + 2 := by rw [hw0]; simp
  have X0 : Hid (BoxF w0 w.heap.size (.int .i64 p) (.slice a n c)) := Lib.hid (by rw [hw0]; exact (BoxF.new _ _ _ _).alloc _)
  have Y0 : Hid (BoxF w0 (w.heap.size + 1) (.int .i64 0) (.slice none 0 0)) := Lib.hid (by
    have := BoxF.new (w.alloc (.cells #[.int .i64 p, .slice a n c] 32)) (.int .i64 0) (.slice none 0 0) 32
    rw [show (w.alloc (.cells #[.int .i64 p, .slice a n c] 32)).heap.size = w.heap.size + 1 by simp] at this
    rw [hw0]; exact this)
  have Hx0 : Hid (IntsAt w0 a n xs) := Lib.hid (h.keep HB0.out)
  have HP := Lib.hid hP; have HD := Lib.hid hD; have HW0 := Lib.hid hw0
  clear h hP hD hw0
  go_enter Tryz.func67, Tryz.ntmps67
  go_wp2_with fail
  rw [← HW0.out]
  refine (HP.out _ Hx0.out).mono ?_
  rintro e w1 ⟨rfl, hb1⟩
  have HB1 := Lib.hid (HB0.out.trans (hb1.mono HB0.out.size))
  have X1 := Lib.hid (X0.out.keep hb1 X0.out.lt)
  have Y1 := Lib.hid (Y0.out.keep hb1 Y0.out.lt)
  have Hx1 := Lib.hid (Hx0.out.keep hb1)
  clear hb1
  obtain ⟨p0, p1, _, _, _⟩ := X1.out
  cases P
  · obtain ⟨r0, r1, f0, f1, _⟩ := Y1.out
    go_wp2_with fail
    refine bodyPost_ret (v := .tuple #[.agg #[.int .i64 0, .slice none 0 0], .bool false]) (by simp [results, Tryz.results67, go_sem, r0, r1]) rfl ⟨none, 0, 0, rfl, Own.nil _ _ _, ?_⟩
    first | exact (HB1.out.setCell (by simp) _).setCell (by simp) _ | exact HB1.out
  · have hd : d < 0 := hno.resolve_left (by simp)
    go_wp2_with fail
    refine (HD.out _ Hx1.out).mono ?_
    rintro e w2 ⟨rfl, hb2⟩
    have HB2 := Lib.hid (HB1.out.trans (hb2.mono HB1.out.size))
    have Y2 := Lib.hid (Y1.out.keep hb2 Y1.out.lt)
    clear hb2
    obtain ⟨r0, r1, f0, f1, _⟩ := Y2.out
    go_wp2_with fail
    refine bodyPost_ret (v := .tuple #[.agg #[.int .i64 0, .slice none 0 0], .bool false]) (by simp [results, Tryz.results67, go_sem, r0, r1]) rfl ⟨none, 0, 0, rfl, Own.nil _ _ _, ?_⟩
    first | exact (HB2.out.setCell (by simp) _).setCell (by simp) _ | exact HB2.out
set_option maxHeartbeats 2000000 in
theorem sEdge_yes (p : Int) (a : Option Addr) (n c : Nat) (l : List Nat) (T : Nat) (w : World) (h : IntsAt w a n (up l)) (h2 : 2 ≤ T)
    (hD : ∀ W, IntsAt W a n (up l) → Calls Tryz.prog 78 #[.agg #[.int .i64 p, .slice a n c]] W fun e w' => e = .returned (.int .i64 ((T : Int) - 2)) ∧ Below W.heap.size W w')
    (hP : ∀ W, IntsAt W a n (up l) → Calls Tryz.prog 149 #[.agg #[.int .i64 p, .slice a n c]] W fun e w' => e = .returned (.bool true) ∧ Below W.heap.size W w')
    (hR : ∀ W, IntsAt W a n (up l) → Calls Tryz.prog 150 #[.agg #[.int .i64 p, .slice a n c]] W (RetInts W (up (rds l T))))
    (hC : ∀ W, IntsAt W a n (up l) → Calls Tryz.prog 69 #[.agg #[.int .i64 p, .slice a n c]] W (RetInts W (up (rdg l T)))) :
    Calls Tryz.prog 67 #[.agg #[.int .i64 p, .slice a n c]] w (RetBox2 w p (up (maxL (rd1 l T).contains)) true) := by
  obtain ⟨w0, hw0⟩ : ∃ w0, w0 = (w.alloc (.cells #[.int .i64 p, .slice a n c] 32)).alloc (.cells #[.int .i64 0, .slice none 0 0] 32) := ⟨_, rfl⟩
  have HB0 : Hid (Below w.heap.size w w0) := Lib.hid (by rw [hw0]; exact (by repeat (first | exact Below.refl _ _ | assumption | refine Below.setCell ?_ (by first | omega | (simp; done) | (simp; omega)) _ | refine Below.alloc ?_ (by first | omega | (simp; done) | (simp; omega)) _ | apply Below.drew)))
  have hz0 : w0.heap.size = w.heap.size + 2 := by rw [hw0]; simp
  have X0 : Hid (BoxF w0 w.heap.size (.int .i64 p) (.slice a n c)) := Lib.hid (by rw [hw0]; exact (BoxF.new _ _ _ _).alloc _)
  have Y0 : Hid (BoxF w0 (w.heap.size + 1) (.int .i64 0) (.slice none 0 0)) := Lib.hid (by
    have := BoxF.new (w.alloc (.cells #[.int .i64 p, .slice a n c] 32)) (.int .i64 0) (.slice none 0 0) 32
    rw [show (w.alloc (.cells #[.int .i64 p, .slice a n c] 32)).heap.size = w.heap.size + 1 by simp] at this
    rw [hw0]; exact this)
  have Hx0 : Hid (IntsAt w0 a n (up l)) := Lib.hid (h.keep HB0.out)
  obtain ⟨R, hRe⟩ : ∃ R, R = rds l T := ⟨_, rfl⟩
  have Hcn : Hid (∀ k, k < R.length → nthN (rdg l T) k = cof l T (nthN R k)) := Lib.hid fun k hk => by rw [hRe] at hk ⊢; exact rdg_at hk
  have Hcl : Hid ((rdg l T).length = R.length) := Lib.hid (by rw [hRe]; exact rdg_len l T)
  have Hr1 : Hid (rd1 l T = R.filter fun r => cof l T r == 1) := Lib.hid (by rw [hRe]; rfl)
  have Hr64 : Hid (∀ r ∈ rd1 l T, r < 64) := Lib.hid (rd1_lt l T)
  have HRn : Hid (R.length ≤ 64) := Lib.hid (by rw [hRe]; exact rds_len l T)
  rw [← hRe] at hR
  have HP := Lib.hid hP; have HD := Lib.hid hD; have HR := Lib.hid hR; have HC := Lib.hid hC; have HW0 := Lib.hid hw0
  have hT0 : ¬ ((T : Int) - 2 < 0) := by omega
  clear h hP hD hw0 hR hC hRe
  go_enter Tryz.func67, Tryz.ntmps67
  go_wp2_with fail
  rw [← HW0.out]
  refine (HP.out _ Hx0.out).mono ?_
  rintro e w1 ⟨rfl, hb1⟩
  have HB1 := Lib.hid (HB0.out.trans (hb1.mono HB0.out.size))
  have X1 := Lib.hid (X0.out.keep hb1 X0.out.lt)
  have Y1 := Lib.hid (Y0.out.keep hb1 Y0.out.lt)
  have Hx1 := Lib.hid (Hx0.out.keep hb1)
  clear hb1
  obtain ⟨p0, p1, _, _, _⟩ := X1.out
  go_wp2_with fail
  refine (HD.out _ Hx1.out).mono ?_
  rintro e w2 ⟨rfl, hb2⟩
  have HB2 := Lib.hid (HB1.out.trans (hb2.mono HB1.out.size))
  have X2 := Lib.hid (X1.out.keep hb2 X1.out.lt)
  have Y2 := Lib.hid (Y1.out.keep hb2 Y1.out.lt)
  have Hx2 := Lib.hid (Hx1.out.keep hb2)
  clear hb2 p0 p1
  obtain ⟨p0, p1, _, _, _⟩ := X2.out
  go_wp2_with fail
  refine (HR.out _ Hx2.out).mono ?_
  rintro e w3 ⟨a3, n3, c3, rfl, own3, hb3⟩
  have HB3 := Lib.hid (HB2.out.trans (hb3.mono HB2.out.size))
  have X3 := Lib.hid (X2.out.keep hb3 X2.out.lt)
  have Y3 := Lib.hid (Y2.out.keep hb3 Y2.out.lt)
  have Hx3 := Lib.hid (Hx2.out.keep hb3)
  have R3 := Lib.hid own3.reads
  have hRl : R.length = n3 := by have := own3.len; rwa [up_len] at this
  have HRl := Lib.hid hRl
  have hn3 : n3 ≤ 64 := by have := HRn.out; omega
  clear hb3 p0 p1 own3 hRl
  obtain ⟨p0, p1, _, _, _⟩ := X3.out
  go_wp2_with fail
  refine (HC.out _ Hx3.out).mono ?_
  rintro e w4 ⟨a4, n4, c4, rfl, own4, hb4⟩
  have HB4 := Lib.hid (HB3.out.trans (hb4.mono HB3.out.size))
  have X4 := Lib.hid (X3.out.keep hb4 X3.out.lt)
  have Y4 := Lib.hid (Y3.out.keep hb4 Y3.out.lt)
  have R4 := Lib.hid (R3.out.keep hb4)
  have C4 := Lib.hid own4.reads
  have hn4 : n4 = n3 := by have := own4.len; rw [up_len] at this; have := HRl.out; have := Hcl.out; omega
  subst hn4
  clear hb4 p0 p1 own4
  have hzz : w.heap.size + 2 ≤ w4.heap.size := by have := Y4.out.lt; omega
  go_wp2_with fail
  go_loopw [6, 7] (fun s k wr => ∃ (I q c5 : Nat) (ad : Option Addr), I ≤ n4 ∧ k = .int .i64 I ∧ s = .slice ad q c5 ∧ q ≤ I ∧ Own 3 wr w4.heap.size ad q c5 (up ((R.take I).filter fun r => cof l T r == 1)) ∧ Below w4.heap.size w4 wr) (fun _ k _ => n4 - (intOf k).toNat)
  case atStart => exact ⟨0, 0, 0, _, Nat.zero_le _, rfl, rfl, Nat.le_refl _, Own.empty _ _ _ (Nat.le_refl _), (by repeat (first | exact Below.refl _ _ | assumption | refine Below.setCell ?_ (by first | omega | (simp; done) | (simp; omega)) _ | refine Below.alloc ?_ (by first | omega | (simp; done) | (simp; omega)) _ | apply Below.drew))⟩
  case round =>
    obtain ⟨I, q, c5, ad, hI, rfl, rfl, hq, hown, hbl⟩ := hrel
    have HO := Lib.hid hown; have HB := Lib.hid hbl
    have hzr : w4.heap.size ≤ wr.heap.size := hbl.size
    have R5 := Lib.hid (R4.out.keep hbl); have C5 := Lib.hid (C4.out.keep hbl)
    have X5 := Lib.hid (X4.out.keep hbl X4.out.lt); have Y5 := Lib.hid (Y4.out.keep hbl Y4.out.lt)
    clear hown hbl
    obtain ⟨p0, p1, _, _, _⟩ := X5.out
    by_cases hlt : I < n4
    · obtain ⟨b1, o1, rfl, hc1⟩ := R5.out.cells (by omega)
      obtain ⟨b3, o3, rfl, hc3⟩ := C5.out.cells (by omega)
      have hx := hc1 I hlt
      have hy := hc3 I hlt
      rw [nth_up] at hx hy
      rw [Hcn.out I (by rw [HRl.out]; exact hlt)] at hy
      have Htk : Hid ((R.take (I + 1)).filter (fun r => cof l T r == 1) = (R.take I).filter (fun r => cof l T r == 1) ++ (if cof l T (nthN R I) = 1 then [nthN R I] else [])) := Lib.hid (by
        have hlR : I < R.length := by rw [HRl.out]; exact hlt
        rw [List.take_succ_eq_append_getElem hlR, List.filter_append, ← nthN_at2 hlR]
        congr 1
        by_cases e : cof l T (nthN R I) = 1
        · rw [if_pos e]; simp [e]
        · rw [if_neg e]; simp [e])
      obtain ⟨r, hr⟩ : ∃ r, r = nthN R I := ⟨_, rfl⟩
      obtain ⟨k, hk⟩ : ∃ k, k = cof l T (nthN R I) := ⟨_, rfl⟩
      rw [← hk] at hy Htk
      rw [← hr] at hx Htk
      have hI0 : (0 : Int) ≤ I := by omega
      have hIn : (I : Int) < n4 := by omega
      have hb1n : b1 < wr.heap.size := World.block_lt_of_cell? _ _ hx
      clear hc1 hc3 hr hk
      by_cases h1 : k = 1
      · have h1b : ((k : Int) == 1) = true := by simp; omega
        have Hst : Hid (up ((R.take (I + 1)).filter (fun r => cof l T r == 1)) = up ((R.take I).filter (fun r => cof l T r == 1)) ++ [(r : Int)]) := Lib.hid (by rw [Htk.out, if_pos h1, up_append]; rfl)
        clear h1
        go_wp2_with (at_builtin; refine ap rfl _ _ rfl w4.heap.size _ _ _ _ _ rfl HO.out rfl (by omega) hzr ?_; intro ad6 d6 w6 hown6 hb6; have HO6 := Lib.hid hown6; have HB6 := Lib.hid (HB.out.trans hb6); clear hown6 hb6)
        go_roundw
        case rel => exact ⟨I + 1, q + 1, d6, ad6, by omega, by go_num, by go_num, by omega, by rw [Hst.out]; exact HO6.out, HB6.out⟩
        case measure => simp [intOf]; omega
      · have h1b : ((k : Int) == 1) = false := by simp; omega
        have Hst : Hid (up ((R.take (I + 1)).filter (fun r => cof l T r == 1)) = up ((R.take I).filter (fun r => cof l T r == 1))) := Lib.hid (by rw [Htk.out, if_neg h1, List.append_nil])
        clear h1
        go_wp2_with fail
        go_roundw
        case rel => exact ⟨I + 1, q, c5, ad, by omega, by go_num, rfl, by omega, by rw [Hst.out]; exact HO.out, HB.out⟩
        case measure => simp [intOf]; omega
    · obtain rfl : I = n4 := by omega
      have hII : ¬ ((I : Int) < I) := by omega
      have Hfin : Hid (IntsAt wr ad q (up (rd1 l T))) := Lib.hid (by have := HO.out.reads; rwa [List.take_of_length_le (by rw [HRl.out]; exact Nat.le_refl _), ← Hr1.out] at this)
      go_wp2_with fail
      refine (l3Make_any p ad q c5 (rd1 l T) wr Hfin.out Hr64.out).mono ?_
      rintro e w6 ⟨ad6, n6, c6, rfl, hown6, hb6⟩
      have HB6 := Lib.hid ((HB4.out.trans (HB.out.mono HB4.out.size)).trans (hb6.mono (HB4.out.trans (HB.out.mono HB4.out.size)).size))
      have HO6 := Lib.hid hown6
      obtain ⟨r0, r1, f0, f1, _⟩ := Y5.out.keep hb6 Y5.out.lt
      clear hb6 hown6
      go_wp2_with fail
      refine bodyPost_ret (v := .tuple #[.agg #[.int .i64 p, .slice ad6 n6 c6], .bool true]) (by simp [results, Tryz.results67, go_sem, r0, r1]) rfl ⟨ad6, n6, c6, rfl, ?_, ?_⟩
      · exact Row.mono ((Row.setBelow HO6.out _ (by omega)).setBelow _ (by omega)) (by omega)
      · exact (HB6.out.setCell (by first | omega | (simp; done) | (simp; omega)) _).setCell (by first | omega | (simp; done) | (simp; omega)) _
end Go.Proofs.YtihfhfihladlcaaGreatDoor

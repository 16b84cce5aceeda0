/- IsChained of both sides: the search over ridges. -/
import Derived.Deep.RegionHeld3
import Derived.BigQuiet
import Derived.Test.YtihfhfihladlcaaGreatDoorAnti
import Derived.Test.YtihfhfihladlcaaGreatDoorCore
import Derived.Test.YtihfhfihladlcaaGreatDoorFaces
import Derived.Test.YtihfhfihladlcaaGreatDoorSet
import Derived.Test.YtihfhfihladlcaaGreatDoorTopo3
namespace Go.Proofs.YtihfhfihladlcaaGreatDoor
set_option maxRecDepth 20000
open Go.RowKit
set_option linter.unusedSimpArgs false
set_option linter.unusedVariables false

theorem Own.single (T : Nat) (w : World) (B : Nat) (hB : B ≤ w.heap.size) (x : Int) : Own T (w.alloc (.cells #[.int .i64 x] T)) B (some ⟨w.heap.size, 0, none⟩) 1 1 [x] :=
  ⟨rfl, World.ownsRow_lit w #[.int .i64 x] 1 hB (by decide) (by simp)⟩
theorem bStep_yes {u f : Nat} {D : List Nat} (h1 : D.contains f = false) (h2 : adjU u f = true) : bStep u D f = D ++ [f] := by unfold bStep; rw [h1, h2]; rfl
theorem bStep_no {u f : Nat} {D : List Nat} (h : D.contains f = true ∨ adjU u f = false) : bStep u D f = D := by
  unfold bStep
  rcases h with h | h
  · rw [h]; rfl
  · rw [h, Bool.and_false]; rfl
theorem sChained_stop (p : Int) (a : Option Addr) (n c : Nat) (xs : List Int) (w : World) (h : IntsAt w a n xs) (P : Bool) (hP : ∀ W, IntsAt W a n xs → Calls Tryz.prog 149 #[.agg #[.int .i64 p, .slice a n c]] W fun e w' => e = .returned (.bool P) ∧ Below W.heap.size W w') (hno : P = false ∨ n = 0) :
    Calls Tryz.prog 71 #[.agg #[.int .i64 p, .slice a n c]] w fun e w' => e = .returned (.bool false) ∧ Below w.heap.size w w' := by
  obtain ⟨w0, hw0⟩ : ∃ w0, w0 = w.alloc (.cells #[.int .i64 p, .slice a n c] 32) := ⟨_, rfl⟩
  have HB0 : Hid (Below w.heap.size w w0) := Lib.hid (by rw [hw0]; exact (by repeat (first | exact Below.refl _ _ | assumption | refine Below.setCell ?_ (by first | omega | (simp; done) | (simp; omega)) _ | refine Below.alloc ?_ (by first | omega | (simp; done) | (simp; omega)) _ | apply Below.drew)))
  have X0 : Hid (BoxF w0 w.heap.size (.int .i64 p) (.slice a n c)) := Lib.hid (by rw [hw0]; exact BoxF.new _ _ _ _)
  have Hx0 : Hid (IntsAt w0 a n xs) := Lib.hid (h.keep HB0.out)
  have HP := Lib.hid hP; have HW0 := Lib.hid hw0
  clear h hP hw0
  go_enter Tryz.func71, Tryz.ntmps71
  go_wp2_with fail
  rw [← HW0.out]
  refine (HP.out _ Hx0.out).mono ?_
  rintro e w1 ⟨rfl, hb1⟩
  have HB1 := Lib.hid (HB0.out.trans (hb1.mono HB0.out.size))
  have X1 := Lib.hid (X0.out.keep hb1 X0.out.lt)
  clear hb1
  obtain ⟨p0, p1, _, _, _⟩ := X1.out
  cases P
  · go_wp2_with fail
    go_ret
    exact ⟨rfl, HB1.out⟩
  · have h0 : n = 0 := hno.resolve_left (by simp)
    subst h0
    go_wp2_with fail
    go_ret
    exact ⟨rfl, HB1.out⟩
set_option maxRecDepth 100000 in
set_option maxHeartbeats 2000000 in
theorem sChained_yes (p : Int) (a : Option Addr) (n c : Nat) (l : List Nat) (w : World) (h : IntsAt w a n (up l)) (hl : ∀ t ∈ l, t < 64) (h0 : 0 < n) (hn64 : n ≤ 64) (hP : ∀ W, IntsAt W a n (up l) → Calls Tryz.prog 149 #[.agg #[.int .i64 p, .slice a n c]] W fun e w' => e = .returned (.bool true) ∧ Below W.heap.size W w') :
    Calls Tryz.prog 71 #[.agg #[.int .i64 p, .slice a n c]] w fun e w' => e = .returned (.bool (chainB l)) ∧ Below w.heap.size w w' := by
  obtain ⟨w0, hw0⟩ : ∃ w0, w0 = w.alloc (.cells #[.int .i64 p, .slice a n c] 32) := ⟨_, rfl⟩
  have HB0 : Hid (Below w.heap.size w w0) := Lib.hid (by rw [hw0]; exact (by repeat (first | exact Below.refl _ _ | assumption | refine Below.setCell ?_ (by first | omega | (simp; done) | (simp; omega)) _ | refine Below.alloc ?_ (by first | omega | (simp; done) | (simp; omega)) _ | apply Below.drew)))
  have X0 : Hid (BoxF w0 w.heap.size (.int .i64 p) (.slice a n c)) := Lib.hid (by rw [hw0]; exact BoxF.new _ _ _ _)
  have Hx0 : Hid (IntsAt w0 a n (up l)) := Lib.hid (h.keep HB0.out)
  have Hln : Hid (l.length = n) := Lib.hid (by have := h.len; rwa [up_len] at this)
  have hne : l ≠ [] := by rintro rfl; have := Hln.out; simp at this; omega
  have HR0 : Hid (Rch l [nthN l 0] ∧ bfs l (n - 0) 0 [nthN l 0] = bfs l n 0 [nthN l 0]) := Lib.hid ⟨Rch.one hne, rfl⟩
  have Hch : Hid (chainB l = ((bfs l n 0 [nthN l 0]).length == n)) := Lib.hid (by rw [← Hln.out]; rfl)
  have hsm := h.small
  have HP := Lib.hid hP; have HW0 := Lib.hid hw0; have Hl := Lib.hid hl
  clear h hP hw0 hl hne
  rw [Hch.out]
  obtain ⟨Z, hZ⟩ : ∃ Z, Z = bfs l n 0 [nthN l 0] := ⟨_, rfl⟩
  rw [← hZ] at HR0 ⊢
  clear hZ Hch
  go_enter Tryz.func71, Tryz.ntmps71
  go_wp2_with fail
  rw [← HW0.out]
  refine (HP.out _ Hx0.out).mono ?_
  rintro e w1 ⟨rfl, hb1⟩
  have HB1 := Lib.hid (HB0.out.trans (hb1.mono HB0.out.size))
  have X1 := Lib.hid (X0.out.keep hb1 X0.out.lt)
  have Hx1 := Lib.hid (Hx0.out.keep hb1)
  clear hb1
  obtain ⟨p0, p1, _, _, _⟩ := X1.out
  obtain ⟨b1, o1, rfl, hc1⟩ := Hx1.out.cells h0
  have hx0 := hc1 0 h0
  rw [nth_up, Nat.add_zero] at hx0
  obtain ⟨f0, hf0⟩ : ∃ f0, f0 = nthN l 0 := ⟨_, rfl⟩
  rw [← hf0] at hx0 HR0
  have hn0 : ((n : Int) == 0) = false := by simp; omega
  have hn1 : (0 : Int) < n := by omega
  clear hc1 hf0
  go_wp2_with fail
  obtain ⟨w2, hw2⟩ : ∃ w2, w2 = w1.alloc (.cells #[.int .i64 f0] 3) := ⟨_, rfl⟩
  have HO2 : Hid (Own 3 w2 w1.heap.size (some ⟨w1.heap.size, 0, none⟩) 1 1 (up [f0])) := Lib.hid (by rw [hw2]; exact Own.single _ _ _ (Nat.le_refl _) _)
  have HB2 : Hid (Below w1.heap.size w1 w2) := Lib.hid (by rw [hw2]; exact (by repeat (first | exact Below.refl _ _ | assumption | refine Below.setCell ?_ (by first | omega | (simp; done) | (simp; omega)) _ | refine Below.alloc ?_ (by first | omega | (simp; done) | (simp; omega)) _ | apply Below.drew)))
  have HW2 := Lib.hid hw2
  rw [← HW2.out]
  clear hw2 p0 p1 hx0
  go_loopw [3, 4, 5] (fun d k _ wr => ∃ (K m c' : Nat) (D : List Nat) (ad : Option Addr), K ≤ m ∧ k = .int .i64 K ∧ d = .slice ad m c' ∧ Own 3 wr w1.heap.size ad m c' (up D) ∧ Below w1.heap.size w1 wr ∧ Hid (Rch l D ∧ bfs l (n - K) K D = Z)) (fun _ k _ _ => n - (intOf k).toNat)
  case atStart => exact ⟨0, 1, 1, [f0], _, by omega, rfl, rfl, HO2.out, HB2.out, HR0⟩
  case round =>
    obtain ⟨wo, rfl⟩ : ∃ x : World, x = wr := ⟨_, rfl⟩
    obtain ⟨K, m, c', D, ad, hK, rfl, rfl, hown, hbl, hrc⟩ := hrel
    have HO := Lib.hid hown; have HB := Lib.hid hbl
    have hDm : D.length = m := by have := hown.len; rwa [up_len] at this
    have hmn : m ≤ n := by have := hrc.out.1.len; have := Hln.out; omega
    have HDm := Lib.hid hDm
    clear hown hbl hDm
    by_cases hlt : K < m
    · obtain ⟨u, hu⟩ : ∃ u, u = nthN D K := ⟨_, rfl⟩
      have huD : u ∈ D := by rw [hu]; exact nthN_mem2 (by rw [HDm.out]; exact hlt)
      have hu64 : u < 64 := Hl.out _ (hrc.out.1.sub _ huD)
      have Hnext : Hid (bfs l (n - (K + 1)) (K + 1) (bRow l u D) = Z) := Lib.hid (by rw [hu, ← bfs_next (by rw [HDm.out]; exact hlt) (by omega)]; exact hrc.out.2)
      have HuK : Hid (nthN D K = u) := Lib.hid hu.symm
      have HRD := Lib.hid hrc.out.1
      have hKm : (K : Int) < m := by omega
      clear hu huD
      go_wp2_with fail
      go_loopw [3, 5] (fun d j wr => ∃ (J q c2 : Nat) (E : List Nat) (ad2 : Option Addr), J ≤ n ∧ j = .int .i64 J ∧ d = .slice ad2 q c2 ∧ Own 3 wr w1.heap.size ad2 q c2 (up E) ∧ Below w1.heap.size w1 wr ∧ Hid (E = bTo l u D J)) (fun _ j _ => n - (intOf j).toNat)
      case atStart => exact ⟨0, m, c', D, ad, Nat.zero_le _, rfl, rfl, HO.out, HB.out, Lib.hid rfl⟩
      case round =>
        obtain ⟨J, q, c2, E, ad2, hJ, rfl, rfl, hown, hbl, hE⟩ := hrel
        have HO2 := Lib.hid hown; have HB2 := Lib.hid hbl
        have hEq : E.length = q := by have := hown.len; rwa [up_len] at this
        have HEq := Lib.hid hEq
        have X4 := Lib.hid (X1.out.keep hbl X1.out.lt)
        have Hx4 := Lib.hid (Hx1.out.keep hbl)
        have HRE : Hid (Rch l E) := Lib.hid (by rw [hE.out]; exact bTo_rch HRD.out J)
        have hqn : q ≤ n := by have := HRE.out.len; have := Hln.out; have := HEq.out; omega
        have hKq : K < q := by
          have : m ≤ q := by
            obtain ⟨F, hF⟩ := bTo_pre l u D J
            have h1 := HEq.out; rw [hE.out, hF, List.length_append, HDm.out] at h1; omega
          omega
        have HuE : Hid (nthN E K = u) := Lib.hid (by rw [hE.out, bTo_nth (by rw [HDm.out]; exact hlt)]; exact HuK.out)
        clear hown hbl hEq
        obtain ⟨p0, p1, _, _, _⟩ := X4.out
        by_cases hltJ : J < n
        · obtain ⟨b1', o1', hb1', hc1⟩ := Hx4.out.cells (by omega)
          simp only [Option.some.injEq, Addr.mk.injEq, and_true] at hb1'
          obtain ⟨rfl, rfl⟩ := hb1'
          have hx := hc1 J hltJ
          obtain ⟨b3, o3, rfl, hc3⟩ := HO2.out.reads.cells (by omega)
          have hy := hc3 K hKq
          rw [nth_up] at hx hy
          rw [HuE.out] at hy
          obtain ⟨f, hf⟩ : ∃ f, f = nthN l J := ⟨_, rfl⟩
          have hfl : f ∈ l := by rw [hf]; exact nthN_mem2 (by rw [Hln.out]; exact hltJ)
          have hf64 : f < 64 := Hl.out _ hfl
          rw [← hf] at hx
          have Hstep : Hid (bTo l u D (J + 1) = bStep u E f) := Lib.hid (by rw [bTo_succ (by rw [Hln.out]; exact hltJ), ← hf, ← hE.out])
          obtain ⟨x, hxc⟩ : ∃ x, x = E.contains f := ⟨_, rfl⟩
          have HHas : Hid (∀ W, Below wr.heap.size wr W → Calls Tryz.prog 153 #[.slice (some ⟨b3, o3, none⟩) q c2, .int .i64 f] W fun e w' => e = .returned (.bool x) ∧ W = w') := Lib.hid fun W hW => by rw [hxc]; exact l2Has_any _ q c2 E f W (HO2.out.reads.keep hW)
          have hJ0 : (0 : Int) ≤ J := by omega
          have hJn : (J : Int) < n := by omega
          have hK0 : (0 : Int) ≤ K := by omega
          have hKq2 : (K : Int) < q := by omega
          have Hxc := Lib.hid hxc
          have hz0 : w1.heap.size ≤ wr.heap.size := HB2.out.size
          clear hc1 hc3 hf hxc hfl
          cases x
          · have hand := w_and u f hu64 hf64
            have hand64 : u &&& f < 64 := and_lt64 hu64
            have HS1 : Hid (∀ W, Calls Tryz.prog 138 #[.int .i64 ((u &&& f : Nat) : Int)] W fun e w' => e = .returned (.int .i64 (sz (u &&& f))) ∧ W = w') := Lib.hid fun W => l2Size_any _ W hand64
            have HS2 : Hid (∀ W, Calls Tryz.prog 138 #[.int .i64 u] W fun e w' => e = .returned (.int .i64 (sz u)) ∧ W = w') := Lib.hid fun W => l2Size_any u W hu64
            have hz1 := sz_le (u &&& f); have hz2 := sz_le u
            have Hadj : Hid (adjU u f = (sz (u &&& f) + 1 == sz u)) := Lib.hid rfl
            obtain ⟨y1, hy1⟩ : ∃ y1, y1 = sz (u &&& f) := ⟨_, rfl⟩
            obtain ⟨y2, hy2⟩ : ∃ y2, y2 = sz u := ⟨_, rfl⟩
            rw [← hy1] at HS1 hz1 Hadj
            rw [← hy2] at HS2 hz2 Hadj
            have hwy : wrap64 ((y2 : Int) - 1) = (y2 : Int) - 1 := by unfold wrap64; omega
            obtain ⟨v, hv⟩ : ∃ v, v = u &&& f := ⟨_, rfl⟩
            rw [← hv] at hand HS1
            clear hy1 hy2 hv hand64
            by_cases hadj : y1 + 1 = y2
            · have hye : ((y1 : Int) == (y2 : Int) - 1) = true := by simp; omega
              have Hst : Hid (bTo l u D (J + 1) = E ++ [f]) := Lib.hid (by rw [Hstep.out, bStep_yes Hxc.out.symm (by rw [Hadj.out]; simp [hadj])])
              clear hadj
              go_wp2_with fail
              go_quiet (first | (go_at_call 153; with_reducible exact ql (HHas.out _ (below_drewN (Below.refl _ _) _))) | (go_at_call 138; with_reducible exact ql (HS1.out _)) | (go_at_call 138; with_reducible exact ql (HS2.out _)))
              have hzq : ∀ N, w1.heap.size ≤ (wr.drewN N).heap.size := fun N => (below_drewN HB2.out N).size
              go_wp2_with (at_builtin; refine ap rfl _ _ rfl w1.heap.size _ _ _ _ _ rfl (HO2.out.keep (below_drewN (Below.refl _ _) _)) rfl (by omega) (hzq _) ?_; intro ad6 d6 w6 hown6 hb6; have HO6 := Lib.hid hown6; have HB6 := Lib.hid ((below_drewN HB2.out _).trans hb6); clear hown6 hb6)
              go_roundw
              case rel => exact ⟨J + 1, q + 1, d6, E ++ [f], ad6, by omega, by go_num, by go_num, by rw [up_append]; exact HO6.out, HB6.out, Lib.hid Hst.out.symm⟩
              case measure => simp [intOf]; omega
            · have hye : ((y1 : Int) == (y2 : Int) - 1) = false := by simp; omega
              have Hst : Hid (bTo l u D (J + 1) = E) := Lib.hid (by rw [Hstep.out, bStep_no (.inr (by rw [Hadj.out]; simp [hadj]))])
              clear hadj
              go_wp2_with fail
              go_quiet (first | (go_at_call 153; with_reducible exact ql (HHas.out _ (below_drewN (Below.refl _ _) _))) | (go_at_call 138; with_reducible exact ql (HS1.out _)) | (go_at_call 138; with_reducible exact ql (HS2.out _)))
              go_wp2_with fail
              go_roundw
              case rel => exact ⟨J + 1, q, c2, E, _, by omega, by go_num, rfl, HO2.out.keep (below_drewN (Below.refl _ _) _), below_drewN HB2.out _, Lib.hid Hst.out.symm⟩
              case measure => simp [intOf]; omega
          · have Hst : Hid (bTo l u D (J + 1) = E) := Lib.hid (by rw [Hstep.out, bStep_no (.inl Hxc.out.symm)])
            go_wp2_with fail
            go_quiet (first | (go_at_call 153; with_reducible exact ql (HHas.out _ (below_drewN (Below.refl _ _) _))))
            go_wp2_with fail
            go_roundw
            case rel => exact ⟨J + 1, q, c2, E, _, by omega, by go_num, rfl, HO2.out.keep (below_drewN (Below.refl _ _) _), below_drewN HB2.out _, Lib.hid Hst.out.symm⟩
            case measure => simp [intOf]; omega
        · obtain rfl : J = n := by omega
          have hJJ : ¬ ((J : Int) < J) := by omega
          have HEa : Hid (E = bRow l u D) := Lib.hid (by rw [hE.out, ← Hln.out, bTo_all])
          go_wp2_with fail
          go_roundw
          case rel => exact ⟨K + 1, q, c2, E, ad2, by omega, by go_num, rfl, HO2.out, HB2.out, Lib.hid ⟨HRE.out, by rw [HEa.out]; exact Hnext.out⟩⟩
          case measure => simp [intOf]; omega
    · obtain rfl : K = m := by omega
      have hKK : ¬ ((K : Int) < K) := by omega
      have HZ : Hid (Z.length = K) := Lib.hid (by rw [← hrc.out.2, bfs_stop (by rw [HDm.out]; omega)]; exact HDm.out)
      have X4 := Lib.hid (X1.out.keep HB.out X1.out.lt)
      obtain ⟨p0, p1, _, _, _⟩ := X4.out
      go_wp2_with fail
      go_ret
      refine ⟨?_, HB1.out.trans (HB.out.mono HB1.out.size)⟩
      have hZe : (Z.length == n) = ((K : Int) == (n : Int)) := by rw [HZ.out, Bool.eq_iff_iff]; simp; omega
      rw [hZe]
      rfl
theorem iChained_stop (p : Int) (a : Option Addr) (n c : Nat) (xs : List Int) (w : World) (h : IntsAt w a n xs) (P : Bool) (hP : ∀ W, IntsAt W a n xs → Calls Tryz.prog 145 #[.agg #[.int .i64 p, .slice a n c]] W fun e w' => e = .returned (.bool P) ∧ Below W.heap.size W w') (hno : P = false ∨ n = 0) :
    Calls Tryz.prog 70 #[.agg #[.int .i64 p, .slice a n c]] w fun e w' => e = .returned (.bool false) ∧ Below w.heap.size w w' := by
  obtain ⟨w0, hw0⟩ : ∃ w0, w0 = w.alloc (.cells #[.int .i64 p, .slice a n c] 32) := ⟨_, rfl⟩
  have HB0 : Hid (Below w.heap.size w w0) := Lib.hid (by rw [hw0]; exact (by repeat (first | exact Below.refl _ _ | assumption | refine Below.setCell ?_ (by first | omega | (simp; done) | (simp; omega)) _ | refine Below.alloc ?_ (by first | omega | (simp; done) | (simp; omega)) _ | apply Below.drew)))
  have X0 : Hid (BoxF w0 w.heap.size (.int .i64 p) (.slice a n c)) := Lib.hid (by rw [hw0]; exact BoxF.new _ _ _ _)
  have Hx0 : Hid (IntsAt w0 a n xs) := Lib.hid (h.keep HB0.out)
  have HP := Lib.hid hP; have HW0 := Lib.hid hw0
  clear h hP hw0
  go_enter Tryz.func70, Tryz.ntmps70
  go_wp2_with fail
  rw [← HW0.out]
  refine (HP.out _ Hx0.out).mono ?_
  rintro e w1 ⟨rfl, hb1⟩
  have HB1 := Lib.hid (HB0.out.trans (hb1.mono HB0.out.size))
  have X1 := Lib.hid (X0.out.keep hb1 X0.out.lt)
  clear hb1
  obtain ⟨p0, p1, _, _, _⟩ := X1.out
  cases P
  · go_wp2_with fail
    go_ret
    exact ⟨rfl, HB1.out⟩
  · have h0 : n = 0 := hno.resolve_left (by simp)
    subst h0
    go_wp2_with fail
    go_ret
    exact ⟨rfl, HB1.out⟩
set_option maxRecDepth 100000 in
set_option maxHeartbeats 2000000 in
theorem iChained_yes (p : Int) (a : Option Addr) (n c : Nat) (l : List Nat) (w : World) (h : IntsAt w a n (up l)) (hl : ∀ t ∈ l, t < 64) (h0 : 0 < n) (hn64 : n ≤ 64) (hpu : pureB l = true) (hP : ∀ W, IntsAt W a n (up l) → Calls Tryz.prog 145 #[.agg #[.int .i64 p, .slice a n c]] W fun e w' => e = .returned (.bool true) ∧ Below W.heap.size W w') :
    Calls Tryz.prog 70 #[.agg #[.int .i64 p, .slice a n c]] w fun e w' => e = .returned (.bool (chainB l)) ∧ Below w.heap.size w w' := by
  obtain ⟨w0, hw0⟩ : ∃ w0, w0 = w.alloc (.cells #[.int .i64 p, .slice a n c] 32) := ⟨_, rfl⟩
  have HB0 : Hid (Below w.heap.size w w0) := Lib.hid (by rw [hw0]; exact (by repeat (first | exact Below.refl _ _ | assumption | refine Below.setCell ?_ (by first | omega | (simp; done) | (simp; omega)) _ | refine Below.alloc ?_ (by first | omega | (simp; done) | (simp; omega)) _ | apply Below.drew)))
  have X0 : Hid (BoxF w0 w.heap.size (.int .i64 p) (.slice a n c)) := Lib.hid (by rw [hw0]; exact BoxF.new _ _ _ _)
  have Hx0 : Hid (IntsAt w0 a n (up l)) := Lib.hid (h.keep HB0.out)
  have Hln : Hid (l.length = n) := Lib.hid (by have := h.len; rwa [up_len] at this)
  have Hpu : Hid (∀ f ∈ l, ∀ g ∈ l, sz f = sz g) := Lib.hid fun f hf g hg => by
    unfold pureB at hpu
    rw [List.all_eq_true] at hpu
    have h1 := hpu f hf; have h2 := hpu g hg
    simp at h1 h2; omega
  have hne : l ≠ [] := by rintro rfl; have := Hln.out; simp at this; omega
  have HR0 : Hid (Rch l [nthN l 0] ∧ bfs l (n - 0) 0 [nthN l 0] = bfs l n 0 [nthN l 0]) := Lib.hid ⟨Rch.one hne, rfl⟩
  have Hch : Hid (chainB l = ((bfs l n 0 [nthN l 0]).length == n)) := Lib.hid (by rw [← Hln.out]; rfl)
  have hsm := h.small
  have HP := Lib.hid hP; have HW0 := Lib.hid hw0; have Hl := Lib.hid hl
  have hF0 : fam [nthN l 0].contains = 2 ^ (nthN l 0) := by
    have := fam_snoc [] (nthN l 0) (hl _ (nthN_mem2 (by rw [Hln.out]; exact h0)))
    rw [fam_nil, Nat.zero_or, List.nil_append] at this; exact this.symm
  have HF0 := Lib.hid hF0
  have hf64 : nthN l 0 < 64 := hl _ (nthN_mem2 (by rw [Hln.out]; exact h0))
  clear h hP hw0 hl hne hpu hF0
  rw [Hch.out]
  obtain ⟨Z, hZ⟩ : ∃ Z, Z = bfs l n 0 [nthN l 0] := ⟨_, rfl⟩
  rw [← hZ] at HR0 ⊢
  clear hZ Hch
  go_enter Tryz.func70, Tryz.ntmps70
  go_wp2_with fail
  rw [← HW0.out]
  refine (HP.out _ Hx0.out).mono ?_
  rintro e w1 ⟨rfl, hb1⟩
  have HB1 := Lib.hid (HB0.out.trans (hb1.mono HB0.out.size))
  have X1 := Lib.hid (X0.out.keep hb1 X0.out.lt)
  have Hx1 := Lib.hid (Hx0.out.keep hb1)
  clear hb1
  obtain ⟨p0, p1, _, _, _⟩ := X1.out
  obtain ⟨b1, o1, rfl, hc1⟩ := Hx1.out.cells h0
  have hx0 := hc1 0 h0
  rw [nth_up, Nat.add_zero] at hx0
  obtain ⟨f0, hf0⟩ : ∃ f0, f0 = nthN l 0 := ⟨_, rfl⟩
  rw [← hf0] at hx0 HR0 HF0 hf64
  have hb1l : b1 < w1.heap.size := World.block_lt_of_cell? w1 _ hx0
  have hb1n : ¬ b1 = w1.heap.size := by omega
  have hn0 : ((n : Int) == 0) = false := by simp; omega
  have hn1 : (0 : Int) < n := by omega
  clear hc1 hf0
  go_wp2_with fail
  obtain ⟨w2, hw2⟩ : ∃ w2, w2 = w1.alloc (.cells #[.int .i64 f0] 3) := ⟨_, rfl⟩
  have HO2 : Hid (Own 3 w2 w1.heap.size (some ⟨w1.heap.size, 0, none⟩) 1 1 (up [f0])) := Lib.hid (by rw [hw2]; exact Own.single _ _ _ (Nat.le_refl _) _)
  have HB2 : Hid (Below w1.heap.size w1 w2) := Lib.hid (by rw [hw2]; exact (by repeat (first | exact Below.refl _ _ | assumption | refine Below.setCell ?_ (by first | omega | (simp; done) | (simp; omega)) _ | refine Below.alloc ?_ (by first | omega | (simp; done) | (simp; omega)) _ | apply Below.drew)))
  have HW2 := Lib.hid hw2
  rw [← HW2.out]
  clear hw2 p0 p1 hx0
  go_loopw [3, 4, 5, 7, 34, 35, 36, 37] (fun d s k _ _ _ _ _ wr => ∃ (K m c' F : Nat) (D : List Nat) (ad : Option Addr), s = .int .u64 F ∧ Fam F ∧ Hid (F = fam D.contains) ∧ K ≤ m ∧ k = .int .i64 K ∧ d = .slice ad m c' ∧ Own 3 wr w1.heap.size ad m c' (up D) ∧ Below w1.heap.size w1 wr ∧ Hid (Rch l D ∧ bfs l (n - K) K D = Z)) (fun _ _ k _ _ _ _ _ _ => n - (intOf k).toNat)
  case atStart => exact ⟨0, 1, 1, 2 ^ f0, [f0], _, by norm_cast, Fam.bit hf64, Lib.hid HF0.out.symm, by omega, rfl, rfl, HO2.out, HB2.out, HR0⟩
  case round =>
    obtain ⟨wo, rfl⟩ : ∃ x : World, x = wr := ⟨_, rfl⟩
    obtain ⟨K, m, c', F, D, ad, rfl, hF, hFe, hK, rfl, rfl, hown, hbl, hrc⟩ := hrel
    have HO := Lib.hid hown; have HB := Lib.hid hbl
    have hDm : D.length = m := by have := hown.len; rwa [up_len] at this
    have hmn : m ≤ n := by have := hrc.out.1.len; have := Hln.out; omega
    have HDm := Lib.hid hDm
    clear hown hbl hDm
    by_cases hlt : K < m
    · obtain ⟨u, hu⟩ : ∃ u, u = nthN D K := ⟨_, rfl⟩
      have huD : u ∈ D := by rw [hu]; exact nthN_mem2 (by rw [HDm.out]; exact hlt)
      have hu64 : u < 64 := Hl.out _ (hrc.out.1.sub _ huD)
      have Hnext : Hid (bfs l (n - (K + 1)) (K + 1) (bRow l u D) = Z) := Lib.hid (by rw [hu, ← bfs_next (by rw [HDm.out]; exact hlt) (by omega)]; exact hrc.out.2)
      have HuK : Hid (nthN D K = u) := Lib.hid hu.symm
      have HRD := Lib.hid hrc.out.1
      have hul : u ∈ l := hrc.out.1.sub _ huD
      have hKm : (K : Int) < m := by omega
      clear hu huD
      obtain ⟨p0, p1, _, _, _⟩ := X1.out.keep HB.out X1.out.lt
      go_wp2_with fail
      go_loopw [3, 4, 7, 37] (fun d s _ j wr => ∃ (J q c2 F : Nat) (E : List Nat) (ad2 : Option Addr), s = .int .u64 F ∧ Fam F ∧ Hid (F = fam E.contains) ∧ J ≤ n ∧ j = .int .i64 J ∧ d = .slice ad2 q c2 ∧ Own 3 wr w1.heap.size ad2 q c2 (up E) ∧ Below w1.heap.size w1 wr ∧ Hid (E = bTo l u D J)) (fun _ _ _ j _ => n - (intOf j).toNat)
      case atStart => exact ⟨0, m, c', F, D, ad, rfl, hF, hFe, Nat.zero_le _, rfl, rfl, HO.out, HB.out, Lib.hid rfl⟩
      case round =>
        obtain ⟨J, q, c2, G, E, ad2, rfl, hG, hGe, hJ, rfl, rfl, hown, hbl, hE⟩ := hrel
        have HO2 := Lib.hid hown; have HB2 := Lib.hid hbl
        have hEq : E.length = q := by have := hown.len; rwa [up_len] at this
        have HEq := Lib.hid hEq
        have X4 := Lib.hid (X1.out.keep hbl X1.out.lt)
        have Hx4 := Lib.hid (Hx1.out.keep hbl)
        have HRE : Hid (Rch l E) := Lib.hid (by rw [hE.out]; exact bTo_rch HRD.out J)
        have hqn : q ≤ n := by have := HRE.out.len; have := Hln.out; have := HEq.out; omega
        have hKq : K < q := by
          have : m ≤ q := by
            obtain ⟨F, hF⟩ := bTo_pre l u D J
            have h1 := HEq.out; rw [hE.out, hF, List.length_append, HDm.out] at h1; omega
          omega
        have HuE : Hid (nthN E K = u) := Lib.hid (by rw [hE.out, bTo_nth (by rw [HDm.out]; exact hlt)]; exact HuK.out)
        clear hown hbl hEq
        obtain ⟨p0, p1, _, _, _⟩ := X4.out
        by_cases hltJ : J < n
        · obtain ⟨b1', o1', hb1', hc1⟩ := Hx4.out.cells (by omega)
          simp only [Option.some.injEq, Addr.mk.injEq, and_true] at hb1'
          obtain ⟨rfl, rfl⟩ := hb1'
          have hx := hc1 J hltJ
          obtain ⟨b3, o3, rfl, hc3⟩ := HO2.out.reads.cells (by omega)
          have hy := hc3 K hKq
          rw [nth_up] at hx hy
          rw [HuE.out] at hy
          obtain ⟨f, hf⟩ : ∃ f, f = nthN l J := ⟨_, rfl⟩
          have hfl : f ∈ l := by rw [hf]; exact nthN_mem2 (by rw [Hln.out]; exact hltJ)
          have hf64 : f < 64 := Hl.out _ hfl
          rw [← hf] at hx
          have Hstep : Hid (bTo l u D (J + 1) = bStep u E f) := Lib.hid (by rw [bTo_succ (by rw [Hln.out]; exact hltJ), ← hf, ← hE.out])
          obtain ⟨x, hxc⟩ : ∃ x, x = E.contains f := ⟨_, rfl⟩
          have HHas : Hid (∀ W, Calls Tryz.prog 152 #[.int .u64 G, .int .i64 f] W fun e w' => e = .returned (.bool x) ∧ W = w') := Lib.hid fun W => by
            rw [hxc]
            have := hasSet_any G f W hG hf64
            rw [show G.testBit f = E.contains f by rw [hGe.out]; exact fam_at hf64] at this
            exact this
          have hJ0 : (0 : Int) ≤ J := by omega
          have hJn : (J : Int) < n := by omega
          have hK0 : (0 : Int) ≤ K := by omega
          have hKq2 : (K : Int) < q := by omega
          have Hxc := Lib.hid hxc
          have hz0 : w1.heap.size ≤ wr.heap.size := HB2.out.size
          clear hc1 hc3 hf hxc
          cases x
          · have hand := w_andNot f u hf64 hu64
            have hand64 : sdiff f u < 64 := sdiff_lt hf64
            have HS1 : Hid (∀ W, Calls Tryz.prog 136 #[.int .i64 ((sdiff f u : Nat) : Int)] W fun e w' => e = .returned (.int .i64 (sz (sdiff f u))) ∧ W = w') := Lib.hid fun W => SizeOf_any _ W hand64
            have hz1 := sz_le (sdiff f u)
            have Hadj : Hid (adjU u f = (sz (sdiff f u) == 1)) := Lib.hid (adj_not0 u hu64 f hf64 (Hpu.out f hfl u hul)).symm
            obtain ⟨y1, hy1⟩ : ∃ y1, y1 = sz (sdiff f u) := ⟨_, rfl⟩
            rw [← hy1] at HS1 hz1 Hadj
            obtain ⟨v, hv⟩ : ∃ v, v = sdiff f u := ⟨_, rfl⟩
            rw [← hv] at hand HS1
            clear hy1 hv hand64
            by_cases hadj : y1 = 1
            · have hye : ((y1 : Int) == 1) = true := by simp; omega
              have Hst : Hid (bTo l u D (J + 1) = E ++ [f]) := Lib.hid (by rw [Hstep.out, bStep_yes Hxc.out.symm (by rw [Hadj.out]; simp [hadj])])
              have HGf : Hid (G ||| 2 ^ f = fam (E ++ [f]).contains) := Lib.hid (by rw [hGe.out]; exact fam_snoc _ _ hf64)
              clear hadj
              go_wp2_with (first | (go_at_call 152; (with_reducible refine (HHas.out _).mono ?_); rintro e w' ⟨rfl, rfl⟩) | (go_at_call 136; (with_reducible refine (HS1.out _).mono ?_); rintro e w' ⟨rfl, rfl⟩) | (at_builtin; refine ap rfl _ _ rfl w1.heap.size _ _ _ _ _ rfl HO2.out rfl (by omega) hz0 ?_; intro ad6 d6 w6 hown6 hb6; have HO6 := Lib.hid hown6; have HB6 := Lib.hid (HB2.out.trans hb6); clear hown6 hb6))
              go_roundw
              case rel => exact ⟨J + 1, q + 1, d6, G ||| 2 ^ f, E ++ [f], ad6, by go_num, hG.or (Fam.bit hf64), HGf, by omega, by go_num, by go_num, by rw [up_append]; exact HO6.out, HB6.out, Lib.hid Hst.out.symm⟩
              case measure => simp [intOf]; omega
            · have hye : ((y1 : Int) == 1) = false := by simp; omega
              have Hst : Hid (bTo l u D (J + 1) = E) := Lib.hid (by rw [Hstep.out, bStep_no (.inr (by rw [Hadj.out]; simp [hadj]))])
              clear hadj
              go_wp2_with (first | (go_at_call 152; (with_reducible refine (HHas.out _).mono ?_); rintro e w' ⟨rfl, rfl⟩) | (go_at_call 136; (with_reducible refine (HS1.out _).mono ?_); rintro e w' ⟨rfl, rfl⟩))
              go_roundw
              case rel => exact ⟨J + 1, q, c2, G, E, _, rfl, hG, hGe, by omega, by go_num, rfl, HO2.out, HB2.out, Lib.hid Hst.out.symm⟩
              case measure => simp [intOf]; omega
          · have Hst : Hid (bTo l u D (J + 1) = E) := Lib.hid (by rw [Hstep.out, bStep_no (.inl Hxc.out.symm)])
            go_wp2_with (first | (go_at_call 152; (with_reducible refine (HHas.out _).mono ?_); rintro e w' ⟨rfl, rfl⟩))
            go_roundw
            case rel => exact ⟨J + 1, q, c2, G, E, _, rfl, hG, hGe, by omega, by go_num, rfl, HO2.out, HB2.out, Lib.hid Hst.out.symm⟩
            case measure => simp [intOf]; omega
        · obtain rfl : J = n := by omega
          have hJJ : ¬ ((J : Int) < J) := by omega
          have HEa : Hid (E = bRow l u D) := Lib.hid (by rw [hE.out, ← Hln.out, bTo_all])
          go_wp2_with fail
          go_roundw
          case rel => exact ⟨K + 1, q, c2, G, E, ad2, rfl, hG, hGe, by omega, by go_num, rfl, HO2.out, HB2.out, Lib.hid ⟨HRE.out, by rw [HEa.out]; exact Hnext.out⟩⟩
          case measure => simp [intOf]; omega
    · obtain rfl : K = m := by omega
      have hKK : ¬ ((K : Int) < K) := by omega
      have HZ : Hid (Z.length = K) := Lib.hid (by rw [← hrc.out.2, bfs_stop (by rw [HDm.out]; omega)]; exact HDm.out)
      have X4 := Lib.hid (X1.out.keep HB.out X1.out.lt)
      obtain ⟨p0, p1, _, _, _⟩ := X4.out
      go_wp2_with fail
      go_ret
      refine ⟨?_, HB1.out.trans (HB.out.mono HB1.out.size)⟩
      have hZe : (Z.length == n) = ((K : Int) == (n : Int)) := by rw [HZ.out, Bool.eq_iff_iff]; simp; omega
      rw [hZe]
      rfl
end Go.Proofs.YtihfhfihladlcaaGreatDoor

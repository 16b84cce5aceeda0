/- Texts of this claim, one behind the other: what each says stands at its head. -/
import Derived.Deep.RegionWith
import Derived.Deep.RegionHeld3
import Derived.Deep.DeepCutAuto
import Derived.Test.YtihfhfihladlcaaGreatDoorFaces2
import Derived.Test.YtihfhfihladlcaaGreatDoorFrom
import Derived.Test.YtihfhfihladlcaaGreatDoorIdeal
/- Contracts of IsPure, the program's and the reference's. -/
namespace Go.Proofs.YtihfhfihladlcaaGreatDoor
set_option maxRecDepth 20000
open Go.RowKit
set_option linter.unusedSimpArgs false
set_option linter.unusedVariables false

/-- all sets have the first one's size -/
def pureB (l : List Nat) : Bool := l.all fun s => sz s == sz (nthN l 0)
theorem pure_no {l : List Nat} {k : Nat} (hk : k < l.length) (h : sz (nthN l k) ≠ sz (nthN l 0)) : pureB l = false := by
  unfold pureB
  rw [List.all_eq_false]
  exact ⟨nthN l k, nthN_mem hk, by simpa using h⟩
theorem pure_yes {l : List Nat} (h : ∀ j, j < l.length → sz (nthN l j) = sz (nthN l 0)) : pureB l = true := by
  unfold pureB
  rw [List.all_eq_true]
  intro s hs
  obtain ⟨j, hj, rfl⟩ := List.mem_iff_getElem.1 hs
  rw [← nthN_eq hj, h j hj]; simp

theorem iPure_no (p : Int) (a : Option Addr) (n c : Nat) (xs : List Int) (w : World) (h : IntsAt w a n xs) (hcap : n ≤ c) (hno : ¬ Anti p xs) :
    Calls Tryz.prog 145 #[.agg #[.int .i64 p, .slice a n c]] w fun e w' => e = .returned (.bool false) ∧ Below w.heap.size w w' := by
  have hx : IntsAt (w.alloc (.cells #[.int .i64 p, .slice a n c] 32)) a n xs := h.keep (by repeat (first | exact Below.refl _ _ | assumption | refine Below.setCell ?_ (by first | omega | (simp; done) | (simp; omega)) _ | refine Below.alloc ?_ (by first | omega | (simp; done) | (simp; omega)) _ | apply Below.drew))
  have Hx := Lib.hid hx; have Hcap := Lib.hid hcap; have Hno := Lib.hid hno
  clear hx h hcap hno
  go_enter Tryz.func145, Tryz.ntmps145
  go_wp2_with fail
  refine (iIsComplex_any p a n c xs _ Hx.out Hcap.out false (by simp [Hno.out])).mono ?_
  rintro e w1 ⟨rfl, hb⟩
  have HB : Hid (Below w.heap.size w w1) := Lib.hid (Below.trans (by repeat (first | exact Below.refl _ _ | assumption | refine Below.setCell ?_ (by first | omega | (simp; done) | (simp; omega)) _ | refine Below.alloc ?_ (by first | omega | (simp; done) | (simp; omega)) _ | apply Below.drew)) (hb.mono (by simp <;> omega)))
  clear hb
  go_wp2_with fail
  go_ret
  exact ⟨rfl, HB.out⟩
set_option maxRecDepth 100000 in
set_option maxHeartbeats 600000 in
theorem iPure_yes (p : Int) (a : Option Addr) (n c : Nat) (l : List Nat) (w : World) (h : IntsAt w a n (up l)) (hcap : n ≤ c) (hA : Anti p (up l)) (hl : ∀ t ∈ l, t < 64) (b : Bool) (hb : pureB l = b) :
    Calls Tryz.prog 145 #[.agg #[.int .i64 p, .slice a n c]] w fun e w' => e = .returned (.bool b) ∧ Below w.heap.size w w' := by
  have hx : IntsAt (w.alloc (.cells #[.int .i64 p, .slice a n c] 32)) a n (up l) := h.keep (by repeat (first | exact Below.refl _ _ | assumption | refine Below.setCell ?_ (by first | omega | (simp; done) | (simp; omega)) _ | refine Below.alloc ?_ (by first | omega | (simp; done) | (simp; omega)) _ | apply Below.drew))
  have Hx := Lib.hid hx; have Hcap := Lib.hid hcap; have HA := Lib.hid hA; have Hl := Lib.hid hl; have Hb := Lib.hid hb
  have XA := Lib.hid (BoxF.new w (.int .i64 p) (.slice a n c) 32)
  have hln : l.length = n := by have := h.len; rwa [up_len] at this
  have Hln := Lib.hid hln
  have hsm := h.small
  clear hx h hcap hA hl hb hln
  go_enter Tryz.func145, Tryz.ntmps145
  go_wp2_with fail
  refine (iIsComplex_any p a n c _ _ Hx.out Hcap.out true (by simp [HA.out])).mono ?_
  rintro e w1 ⟨rfl, hb⟩
  have HB : Hid (Below w.heap.size w w1) := Lib.hid (Below.trans (by repeat (first | exact Below.refl _ _ | assumption | refine Below.setCell ?_ (by first | omega | (simp; done) | (simp; omega)) _ | refine Below.alloc ?_ (by first | omega | (simp; done) | (simp; omega)) _ | apply Below.drew)) (hb.mono (by simp <;> omega)))
  have XA1 := Lib.hid (XA.out.keep hb (by simp))
  obtain ⟨p0, p1, _, _, _⟩ := XA1.out
  have Hx1 := Lib.hid (Hx.out.keep hb)
  have hz : w.heap.size + 1 ≤ w1.heap.size := by have := hb.size; simp at this; omega
  clear hb
  go_wp2_with fail
  clear p0 p1
  go_loopw [4, 11] (fun _ i wr => ∃ I : Nat, I ≤ n ∧ i = .int .i64 I ∧ Below w1.heap.size w1 wr ∧ Hid (∀ j, j < I → sz (nthN l j) = sz (nthN l 0))) (fun _ i _ => n - (intOf i).toNat)
  case atStart => exact ⟨0, Nat.zero_le _, rfl, Below.refl _ _, Lib.hid fun j hj => absurd hj (Nat.not_lt_zero _)⟩
  case round =>
    obtain ⟨I, hI, rfl, hbr, hok⟩ := hrel
    have HBr := Lib.hid hbr; have Hxr := Lib.hid (Hx1.out.keep hbr); have XAr := Lib.hid (XA1.out.keep hbr (by omega))
    clear hbr
    by_cases hlt : I < n
    · obtain ⟨p0, p1, _, _, _⟩ := XAr.out
      obtain ⟨b1, o1, rfl, hc⟩ := Hxr.out.cells (by omega)
      have hck := hc I hlt
      have hc0 := hc 0 (by omega)
      rw [nth_up] at hck hc0
      rw [Nat.add_zero] at hc0
      have ht64 := Hl.out _ (nthN_mem (xs := l) (k := I) (by rw [Hln.out]; exact hlt))
      have hu64 := Hl.out _ (nthN_mem (xs := l) (k := 0) (by rw [Hln.out]; omega))
      obtain ⟨t, ht⟩ : ∃ t, t = nthN l I := ⟨_, rfl⟩
      obtain ⟨u, hu⟩ : ∃ u, u = nthN l 0 := ⟨_, rfl⟩
      rw [← ht] at hck ht64
      rw [← hu] at hc0 hu64
      have Ht := Lib.hid ht; have Hu := Lib.hid hu
      have hn0 : (0 : Int) < n := by omega
      obtain ⟨x, hx⟩ : ∃ x, x = sz t := ⟨_, rfl⟩
      obtain ⟨y, hy⟩ : ∃ y, y = sz u := ⟨_, rfl⟩
      have Hx9 := Lib.hid hx; have Hy9 := Lib.hid hy
      have HCt : Hid (∀ W, Calls Tryz.prog 136 #[.int .i64 t] W fun e w' => e = .returned (.int .i64 x) ∧ W = w') := Lib.hid (fun W => by rw [hx]; exact SizeOf_any t W ht64)
      have HCu : Hid (∀ W, Calls Tryz.prog 136 #[.int .i64 u] W fun e w' => e = .returned (.int .i64 y) ∧ W = w') := Lib.hid (fun W => by rw [hy]; exact SizeOf_any u W hu64)
      clear hc ht hu hx hy
      by_cases he : x = y
      · have hne : ((x : Int) != (y : Int)) = false := by simp [he]
        have He := Lib.hid he
        clear he
        go_wp2_with fail
        go_quiet (first | (go_at_call 136; with_reducible exact ql (HCt.out _)) | (go_at_call 136; with_reducible exact ql (HCu.out _)))
        go_wp2_with fail
        go_roundw
        case rel =>
          refine ⟨I + 1, by omega, by go_num, below_drewN HBr.out _, Lib.hid fun j hj => ?_⟩
          rcases Nat.lt_or_ge j I with h | h
          · exact hok.out j h
          · obtain rfl : j = I := by omega
            rw [← Ht.out, ← Hu.out, ← Hx9.out, ← Hy9.out]; exact He.out
        case measure => simp [intOf]; omega
      · have hne : ((x : Int) != (y : Int)) = true := by simp; omega
        have hbf : b = false := by
          rw [← Hb.out]
          exact pure_no (k := I) (by rw [Hln.out]; exact hlt) (by rw [← Ht.out, ← Hu.out, ← Hx9.out, ← Hy9.out]; exact he)
        subst hbf
        clear he
        go_wp2_with fail
        go_quiet (first | (go_at_call 136; with_reducible exact ql (HCt.out _)) | (go_at_call 136; with_reducible exact ql (HCu.out _)))
        go_wp2_with fail
        go_ret
        exact ⟨rfl, below_drewN (HB.out.trans (HBr.out.mono HB.out.size)) _⟩
    · obtain rfl : I = n := by omega
      have hbt : b = true := by
        rw [← Hb.out]
        exact pure_yes fun j hj => hok.out j (by rw [← Hln.out]; exact hj)
      subst hbt
      go_wp2_with fail
      go_ret
      exact ⟨rfl, HB.out.trans (HBr.out.mono HB.out.size)⟩

/-- l2Size of any number comes back with a number -/
theorem l2Size_all (x : Int) (w : World) :
    Calls Tryz.prog 138 #[.int .i64 x] w fun e w' => (∃ v : Int, e = .returned (.int .i64 v)) ∧ w = w' := by
  go_enter Tryz.func138, Tryz.ntmps138
  go_wp2
  go_loop [0, 3] (fun t n => ∃ m k : Int, t = .int .i64 m ∧ n = .int .i64 k) (fun t _ => (intOf t).toNat)
  case atStart => exact ⟨x, 0, rfl, rfl⟩
  case round =>
    obtain ⟨m, k, rfl, rfl⟩ := hrel
    by_cases h0 : 0 < m
    · go_wp2
      go_round
      case rel => exact ⟨_, _, rfl, rfl⟩
      case measure => simp [intOf]; omega
    · go_wp2
      go_ret
      exact ⟨⟨_, rfl⟩, rfl⟩
set_option maxRecDepth 100000 in
set_option maxHeartbeats 600000 in
theorem sPure_no (p : Int) (a : Option Addr) (n c : Nat) (xs : List Int) (w : World) (h : IntsAt w a n xs) (hno : ¬ Anti p xs) :
    Calls Tryz.prog 149 #[.agg #[.int .i64 p, .slice a n c]] w fun e w' => e = .returned (.bool false) ∧ Below w.heap.size w w' := by
  have hx : IntsAt (w.alloc (.cells #[.int .i64 p, .slice a n c] 32)) a n xs := h.keep (by repeat (first | exact Below.refl _ _ | assumption | refine Below.setCell ?_ (by first | omega | (simp; done) | (simp; omega)) _ | refine Below.alloc ?_ (by first | omega | (simp; done) | (simp; omega)) _ | apply Below.drew))
  have Hx := Lib.hid hx; have Hno := Lib.hid hno
  have XA := Lib.hid (BoxF.new w (.int .i64 p) (.slice a n c) 32)
  have hsm := h.small
  clear hx h hno
  obtain ⟨w0, hw0⟩ : ∃ w0, w0 = w.alloc (.cells #[.int .i64 p, .slice a n c] 32) := ⟨_, rfl⟩
  have hB0 : Below w.heap.size w w0 := by rw [hw0]; exact (by repeat (first | exact Below.refl _ _ | assumption | refine Below.setCell ?_ (by first | omega | (simp; done) | (simp; omega)) _ | refine Below.alloc ?_ (by first | omega | (simp; done) | (simp; omega)) _ | apply Below.drew))
  have hz : w.heap.size + 1 ≤ w0.heap.size := by rw [hw0]; simp
  have HW0 := Lib.hid hw0; have HB0 := Lib.hid hB0
  rw [← hw0] at Hx XA
  clear hw0 hB0
  go_enter Tryz.func149, Tryz.ntmps149
  go_wp2_with fail
  rw [← HW0.out]
  go_loopw [3] (fun i wr => ∃ I : Nat, 1 ≤ I ∧ (I ≤ n ∨ I = 1) ∧ i = .int .i64 I ∧ Below w0.heap.size w0 wr) (fun i _ => n - (intOf i).toNat)
  case atStart => exact ⟨1, by omega, .inr rfl, rfl, Below.refl _ _⟩
  case round =>
    obtain ⟨wo, rfl⟩ : ∃ x : World, x = wr := ⟨_, rfl⟩
    obtain ⟨I, h1, hI, rfl, hbr⟩ := hrel
    have H1I := Lib.hid h1; have HII := Lib.hid hI
    clear h1 hI
    have HBr := Lib.hid hbr; have Hxr := Lib.hid (Hx.out.keep hbr); have XAr := Lib.hid (XA.out.keep hbr (by omega))
    clear hbr
    obtain ⟨p0, p1, _, _, _⟩ := XAr.out
    by_cases hlt : I < n
    · obtain ⟨b1, o1, rfl, hc⟩ := Hxr.out.cells (by omega)
      have hck := hc I hlt
      have hc0 := hc 0 (by omega)
      rw [Nat.add_zero] at hc0
      obtain ⟨t, ht⟩ : ∃ t, t = nth xs I := ⟨_, rfl⟩
      obtain ⟨u, hu⟩ : ∃ u, u = nth xs 0 := ⟨_, rfl⟩
      rw [← ht] at hck
      rw [← hu] at hc0
      have hn0 : (0 : Int) < n := by omega
      have hnN : 0 < n := by omega
      have hi0 : (0 : Int) ≤ I := by omega
      have hin : (I : Int) < n := by omega
      clear hc ht hu
      go_wp2_with fail
      go_cut [22] (fun v W => (∃ b, v = .bool b) ∧ Below w0.heap.size w0 W)
      case first =>
        go_region_held3 (fun W => W.cell? ⟨w.heap.size, 1, none⟩ = some (.slice (some ⟨b1, o1, none⟩) n c) ∧ W.cell? ⟨b1, o1 + I, none⟩ = some (.int .i64 t) ∧ W.cell? ⟨b1, o1, none⟩ = some (.int .i64 u)) (first | exact ⟨p1, hck, hc0⟩ | go_keep) (first | (go_simp; go_at_call 138; (with_reducible refine (l2Size_all _ _).mono ?_); rintro e w' ⟨⟨v, rfl⟩, rfl⟩))
        all_goals (go_wp2_with fail; go_meet; exact ⟨⟨_, rfl⟩, HBr.out.drew⟩)
      case rest =>
        obtain ⟨⟨b, rfl⟩, hbc⟩ := hcut
        have HBc := Lib.hid hbc
        clear hbc
        cases b
        · go_wp2_with fail
          go_roundw
          case rel => exact ⟨I + 1, by omega, by omega, by go_num, HBc.out⟩
          case measure => simp [intOf]; omega
        · go_wp2_with fail
          go_ret
          exact ⟨rfl, HB0.out.trans (HBc.out.mono HB0.out.size)⟩
    · have hii : ¬ ((I : Int) < n) := by omega
      go_wp2_with fail
      refine (sIsComplex_any p a n c xs _ Hxr.out false (by simp [Hno.out])).mono ?_
      rintro e w1 ⟨rfl, hb⟩
      have HB : Hid (Below w.heap.size w w1) := Lib.hid ((HB0.out.trans (HBr.out.mono HB0.out.size)).trans (hb.mono (HB0.out.trans (HBr.out.mono HB0.out.size)).size))
      clear hb
      go_wp2_with fail
      go_ret
      exact ⟨rfl, HB.out⟩
set_option maxRecDepth 100000 in
set_option maxHeartbeats 600000 in
theorem sPure_yes (p : Int) (a : Option Addr) (n c : Nat) (l : List Nat) (w : World) (h : IntsAt w a n (up l)) (hA : Anti p (up l)) (hl : ∀ t ∈ l, t < 64) (b : Bool) (hb : pureB l = b) :
    Calls Tryz.prog 149 #[.agg #[.int .i64 p, .slice a n c]] w fun e w' => e = .returned (.bool b) ∧ Below w.heap.size w w' := by
  have hx : IntsAt (w.alloc (.cells #[.int .i64 p, .slice a n c] 32)) a n (up l) := h.keep (by repeat (first | exact Below.refl _ _ | assumption | refine Below.setCell ?_ (by first | omega | (simp; done) | (simp; omega)) _ | refine Below.alloc ?_ (by first | omega | (simp; done) | (simp; omega)) _ | apply Below.drew))
  have Hx := Lib.hid hx; have HA := Lib.hid hA; have Hl := Lib.hid hl; have Hb := Lib.hid hb
  have XA := Lib.hid (BoxF.new w (.int .i64 p) (.slice a n c) 32)
  have hln : l.length = n := by have := h.len; rwa [up_len] at this
  have Hln := Lib.hid hln
  have hsm := h.small
  clear hx h hA hl hb hln
  obtain ⟨w0, hw0⟩ : ∃ w0, w0 = w.alloc (.cells #[.int .i64 p, .slice a n c] 32) := ⟨_, rfl⟩
  have hB0 : Below w.heap.size w w0 := by rw [hw0]; exact (by repeat (first | exact Below.refl _ _ | assumption | refine Below.setCell ?_ (by first | omega | (simp; done) | (simp; omega)) _ | refine Below.alloc ?_ (by first | omega | (simp; done) | (simp; omega)) _ | apply Below.drew))
  have hz : w.heap.size + 1 ≤ w0.heap.size := by rw [hw0]; simp
  have HW0 := Lib.hid hw0; have HB0 := Lib.hid hB0
  rw [← hw0] at Hx XA
  clear hw0 hB0
  go_enter Tryz.func149, Tryz.ntmps149
  go_wp2_with fail
  rw [← HW0.out]
  go_loopw [3] (fun i wr => ∃ I : Nat, 1 ≤ I ∧ (I ≤ n ∨ I = 1) ∧ i = .int .i64 I ∧ Below w0.heap.size w0 wr ∧ Hid (∀ j, j < I → sz (nthN l j) = sz (nthN l 0))) (fun i _ => n - (intOf i).toNat)
  case atStart => exact ⟨1, by omega, .inr rfl, rfl, Below.refl _ _, Lib.hid fun j hj => by (obtain rfl : j = 0 := by omega); rfl⟩
  case round =>
    obtain ⟨wo, rfl⟩ : ∃ x : World, x = wr := ⟨_, rfl⟩
    obtain ⟨I, h1, hI, rfl, hbr, hok⟩ := hrel
    have H1I := Lib.hid h1; have HII := Lib.hid hI
    clear h1 hI
    have HBr := Lib.hid hbr; have Hxr := Lib.hid (Hx.out.keep hbr); have XAr := Lib.hid (XA.out.keep hbr (by omega))
    clear hbr
    obtain ⟨p0, p1, _, _, _⟩ := XAr.out
    by_cases hlt : I < n
    · obtain ⟨b1, o1, rfl, hc⟩ := Hxr.out.cells (by omega)
      have hck := hc I hlt
      have hc0 := hc 0 (by omega)
      rw [nth_up] at hck hc0
      rw [Nat.add_zero] at hc0
      have ht64 := Hl.out _ (nthN_mem (xs := l) (k := I) (by rw [Hln.out]; exact hlt))
      have hu64 := Hl.out _ (nthN_mem (xs := l) (k := 0) (by rw [Hln.out]; omega))
      obtain ⟨t, ht⟩ : ∃ t, t = nthN l I := ⟨_, rfl⟩
      obtain ⟨u, hu⟩ : ∃ u, u = nthN l 0 := ⟨_, rfl⟩
      rw [← ht] at hck ht64
      rw [← hu] at hc0 hu64
      have Ht := Lib.hid ht; have Hu := Lib.hid hu
      have hn0 : (0 : Int) < n := by omega
      have hi0 : (0 : Int) ≤ I := by omega
      have hin : (I : Int) < n := by omega
      obtain ⟨x, hx⟩ : ∃ x, x = sz t := ⟨_, rfl⟩
      obtain ⟨y, hy⟩ : ∃ y, y = sz u := ⟨_, rfl⟩
      have Hx9 := Lib.hid hx; have Hy9 := Lib.hid hy
      have HCt : Hid (∀ W, Calls Tryz.prog 138 #[.int .i64 t] W fun e w' => e = .returned (.int .i64 x) ∧ W = w') := Lib.hid (fun W => by rw [hx]; exact l2Size_any t W ht64)
      have HCu : Hid (∀ W, Calls Tryz.prog 138 #[.int .i64 u] W fun e w' => e = .returned (.int .i64 y) ∧ W = w') := Lib.hid (fun W => by rw [hy]; exact l2Size_any u W hu64)
      clear hc ht hu hx hy
      by_cases he : x = y
      · have hne : ((x : Int) != (y : Int)) = false := by simp [he]
        have He := Lib.hid he
        clear he
        go_wp2_with fail
        go_quiet (first | (go_at_call 138; with_reducible exact ql (HCt.out _)) | (go_at_call 138; with_reducible exact ql (HCu.out _)))
        go_wp2_with fail
        go_roundw
        case rel =>
          refine ⟨I + 1, by omega, by omega, by go_num, below_drewN HBr.out _, Lib.hid fun j hj => ?_⟩
          rcases Nat.lt_or_ge j I with h | h
          · exact hok.out j h
          · obtain rfl : j = I := by omega
            rw [← Ht.out, ← Hu.out, ← Hx9.out, ← Hy9.out]; exact He.out
        case measure => simp [intOf]; omega
      · have hne : ((x : Int) != (y : Int)) = true := by simp; omega
        have hbf : b = false := by
          rw [← Hb.out]
          exact pure_no (k := I) (by rw [Hln.out]; exact hlt) (by rw [← Ht.out, ← Hu.out, ← Hx9.out, ← Hy9.out]; exact he)
        subst hbf
        clear he
        go_wp2_with fail
        go_quiet (first | (go_at_call 138; with_reducible exact ql (HCt.out _)) | (go_at_call 138; with_reducible exact ql (HCu.out _)))
        go_wp2_with fail
        go_ret
        exact ⟨rfl, below_drewN (HB0.out.trans (HBr.out.mono HB0.out.size)) _⟩
    · have hii : ¬ ((I : Int) < n) := by omega
      have hbt : b = true := by
        rw [← Hb.out]
        exact pure_yes fun j hj => hok.out j (by rw [Hln.out] at hj; have := HII.out; have := H1I.out; omega)
      subst hbt
      go_wp2_with fail
      refine (sIsComplex_any p a n c _ _ Hxr.out true (by simp [HA.out])).mono ?_
      rintro e w1 ⟨rfl, hb⟩
      have HB : Hid (Below w.heap.size w w1) := Lib.hid ((HB0.out.trans (HBr.out.mono HB0.out.size)).trans (hb.mono (HB0.out.trans (HBr.out.mono HB0.out.size)).size))
      clear hb
      go_wp2_with fail
      go_ret
      exact ⟨rfl, HB.out⟩
end Go.Proofs.YtihfhfihladlcaaGreatDoor

/- Contracts of the reference's l5Set, l5Link, SubsetsOf, l2Same and EqualComplex. -/
namespace Go.Proofs.YtihfhfihladlcaaGreatDoor
set_option maxRecDepth 20000
open Go.RowKit
set_option linter.unusedSimpArgs false
set_option linter.unusedVariables false


theorem sub_and {f s : Nat} (h : sub s f = true) : f &&& s = s := by
  unfold sub at h; rw [Nat.and_comm]; simpa using h
theorem sub_and_no {f s : Nat} (h : sub s f = false) : f &&& s ≠ s := fun e => by
  unfold sub at h
  rw [Nat.and_comm, e] at h; simp at h
theorem linkL_yes {l : List Nat} {s I : Nat} (hI : I < l.length) (h : sub s (nthN l I) = true) : linkL (l.take (I + 1)) s = linkL (l.take I) s ++ [sdiff (nthN l I) s] := by
  unfold linkL; rw [nthN_take l I hI, List.filter_append, List.map_append]; simp [h]
theorem linkL_no {l : List Nat} {s I : Nat} (hI : I < l.length) (h : sub s (nthN l I) = false) : linkL (l.take (I + 1)) s = linkL (l.take I) s := by
  unfold linkL; rw [nthN_take l I hI, List.filter_append, List.map_append]; simp [h]
theorem w_less : ∀ g : Nat, g < 64 → ∀ s : Nat, s < 64 → sub s g = true → IntKind.i64.wrap ((g : Int) - (s : Int)) = ((sdiff g s : Nat) : Int) := by decide +kernel
set_option maxRecDepth 100000 in
set_option maxHeartbeats 1000000 in
theorem sLink_any (p : Int) (a : Option Addr) (n c : Nat) (l : List Nat) (s : Nat) (w : World) (h : IntsAt w a n (up l)) (hn : n ≤ 64) (hs : s < 64) (hl : ∀ t ∈ l, t < 64) :
    Calls Tryz.prog 157 #[.agg #[.int .i64 p, .slice a n c], .int .i64 s] w (RetBox w p (up (maxL (linkL l s).contains))) := by
  have hx : IntsAt ((w.alloc (.cells #[.int .i64 p, .slice a n c] 32)).alloc (.cells #[.int .i64 0, .slice none 0 0] 32)) a n (up l) := h.keep (by repeat (first | exact Below.refl _ _ | assumption | refine Below.setCell ?_ (by first | omega | (simp; done) | (simp; omega)) _ | refine Below.alloc ?_ (by first | omega | (simp; done) | (simp; omega)) _ | apply Below.drew))
  have Hx := Lib.hid hx
  have xA := (BoxF.new w (.int .i64 p) (.slice a n c) 32).alloc (.cells #[.int .i64 0, .slice none 0 0] 32)
  have xR := BoxF.new (w.alloc (.cells #[.int .i64 p, .slice a n c] 32)) (.int .i64 0) (.slice none 0 0) 32
  have e2 : (w.alloc (.cells #[.int .i64 p, .slice a n c] 32)).heap.size = w.heap.size + 1 := by simp
  rw [e2] at xR
  have XR := Lib.hid xR; have XA := Lib.hid xA; have Hl := Lib.hid hl
  have hll := h.len
  rw [up_len] at hll
  have Hll := Lib.hid hll
  obtain ⟨w1, hw1⟩ : ∃ w1, w1 = (w.alloc (.cells #[.int .i64 p, .slice a n c] 32)).alloc (.cells #[.int .i64 0, .slice none 0 0] 32) := ⟨_, rfl⟩
  have HB : Hid (Below w.heap.size w w1) := Lib.hid (by rw [hw1]; exact (by repeat (first | exact Below.refl _ _ | assumption | refine Below.setCell ?_ (by first | omega | (simp; done) | (simp; omega)) _ | refine Below.alloc ?_ (by first | omega | (simp; done) | (simp; omega)) _ | apply Below.drew)))
  have hz : w1.heap.size = w.heap.size + 2 := by rw [hw1]; simp
  have HW1 := Lib.hid hw1
  rw [← hw1] at Hx XA XR
  clear hx h xR xA hl e2 hll hw1
  go_enter Tryz.func157, Tryz.ntmps157
  go_wp2_with fail
  rw [← HW1.out]
  go_loopw [5, 6] (fun f i wr => ∃ I : Nat, I ≤ n ∧ i = .int .i64 I ∧ Below w1.heap.size w1 wr ∧ ∃ ad K d, f = .slice ad K d ∧ K ≤ I ∧ Own 3 wr w1.heap.size ad K d (up (linkL (l.take I) s))) (fun _ i _ => n - (intOf i).toNat)
  case atStart => exact ⟨0, Nat.zero_le _, rfl, (by repeat (first | exact Below.refl _ _ | assumption | refine Below.setCell ?_ (by first | omega | (simp; done) | (simp; omega)) _ | refine Below.alloc ?_ (by first | omega | (simp; done) | (simp; omega)) _ | apply Below.drew)), some ⟨w.heap.size + 2, 0, none⟩, 0, 0, (by first | rfl | simp), by omega, by rw [← hz]; exact Own.empty _ _ _ (by first | exact Nat.le_refl _ | simp)⟩
  case round =>
    obtain ⟨I, hI, rfl, hb, ad, K, d, rfl, hK, hown⟩ := hrel
    have HBO := Lib.hid hb; have HO := Lib.hid hown
    have XA2 := Lib.hid (XA.out.keep hb (by omega))
    have XR2 := Lib.hid (XR.out.keep hb (by omega))
    have Hx2 := Lib.hid (Hx.out.keep hb)
    obtain ⟨p0, p1, _, _, _⟩ := XA2.out
    have hzr : w1.heap.size ≤ wr.heap.size := hb.size
    clear hb hown
    by_cases hlt : I < n
    · obtain ⟨b1, o1, rfl, hc1⟩ := Hx2.out.cells (by omega)
      have hci := hc1 I hlt
      rw [nth_up] at hci
      have ht := Hl.out _ (nthN_mem (xs := l) (k := I) (by rw [Hll.out]; omega))
      have hyes := linkL_yes (s := s) (l := l) (I := I) (by rw [Hll.out]; omega)
      have hno := linkL_no (s := s) (l := l) (I := I) (by rw [Hll.out]; omega)
      obtain ⟨f, hf⟩ : ∃ f, f = nthN l I := ⟨_, rfl⟩
      rw [← hf] at hci ht hyes hno
      have Hyes := Lib.hid hyes; have Hno := Lib.hid hno
      have hI0 : (0 : Int) ≤ I := by omega
      have hIn : (I : Int) < n := by omega
      clear hc1 hf hyes hno
      have hand := w_and f s ht hs
      cases hsub : sub s f
      · have hne : (((f &&& s : Nat) : Int) == (s : Int)) = false := by rw [castBeq]; simpa using sub_and_no hsub
        have Hsub := Lib.hid hsub; clear hsub
        go_wp2_with fail
        go_roundw
        case rel => exact ⟨I + 1, by omega, by go_num, HBO.out, ad, K, d, rfl, by omega, by rw [Hno.out Hsub.out]; exact HO.out⟩
        case measure => simp [intOf]; omega
      · have hne : (((f &&& s : Nat) : Int) == (s : Int)) = true := by rw [castBeq]; simpa using sub_and hsub
        have hless := w_less f ht s hs hsub
        have Hsub := Lib.hid hsub; clear hsub
        go_wp2_with (at_builtin; refine ap rfl _ _ rfl w1.heap.size _ _ _ _ _ rfl HO.out rfl (by omega) hzr ?_; intro ad' d' w' hown' hb'; have HO3 := Lib.hid hown'; have HB3 := Lib.hid hb'; clear hown' hb')
        go_roundw
        case rel => exact ⟨I + 1, by omega, by go_num, HBO.out.trans HB3.out, ad', K + 1, d', rfl, by omega, by rw [Hyes.out Hsub.out, up_append]; first | exact HO3.out | (have := HO3.out; rw [hless] at this; exact this)⟩
        case measure => simp [intOf]; omega
    · obtain rfl : I = n := by omega
      have hii : ¬ ((I : Int) < I) := by omega
      have HOf : Hid (Own 3 wr w1.heap.size ad K d (up (linkL l s))) := Lib.hid (by have := HO.out; rw [← Hll.out, List.take_length] at this; exact this)
      go_wp2_with fail
      refine (l3Make_any p ad K d _ _ HOf.out.reads (linkL_lt Hl.out)).mono ?_
      rintro e w5 ⟨ad5, d5, r5, rfl, hown, hb5⟩
      have XR5 := Lib.hid (XR2.out.keep hb5 (by omega))
      have HO5 := Lib.hid hown; have HB5 := Lib.hid (HBO.out.trans (hb5.mono hzr))
      have hz5 : wr.heap.size ≤ w5.heap.size := hb5.size
      obtain ⟨q0, q1, qf0, qf1, qlt⟩ := XR5.out
      clear hown hb5
      go_wp2_with fail
      refine bodyPost_ret (v := .agg #[.int .i64 p, .slice ad5 d5 r5]) (by simp [results, Tryz.results157, go_sem, q0, q1]) rfl ⟨ad5, d5, r5, rfl, ?_, ?_⟩
      · refine ((HO5.out.setBelow _ ?_).setBelow _ ?_).mono ?_ <;> omega
      · exact ((HB.out.trans (HB5.out.mono (by omega))).setCell (by simp) _).setCell (by simp) _


end Go.Proofs.YtihfhfihladlcaaGreatDoor

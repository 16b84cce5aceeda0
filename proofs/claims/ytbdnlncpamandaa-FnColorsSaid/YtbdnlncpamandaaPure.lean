/- Contracts of IsPure, the program's and the reference's. -/
import Derived.Deep.RegionWith
import Derived.Deep.RegionHeld3
import Derived.Deep.DeepCutAuto
import Derived.Test.YtbdnlncpamandaaFaces2
namespace Go.Proofs.Ytbdnlncpamandaa
set_option maxRecDepth 20000
open Go.RowKit
set_option linter.unusedSimpArgs false
set_option linter.unusedVariables false

/-- all sets have the first one's size -/
def pureB (l : List Nat) : Bool := l.all fun s => sz s == sz (nthN l 0)
theorem pure_no {l : List Nat} {k : Nat} (hk : k < l.length) (h : sz (nthN l k) ≠ sz (nthN l 0)) : pureB l = false := by
  unfold pureB
  rw [List.all_eq_false]
  exact ⟨nthN l k, nthN_mem hk, by simpa using h⟩
theorem pure_yes {l : List Nat} (h : ∀ j, j < l.length → sz (nthN l j) = sz (nthN l 0)) : pureB l = true := by
  unfold pureB
  rw [List.all_eq_true]
  intro s hs
  obtain ⟨j, hj, rfl⟩ := List.mem_iff_getElem.1 hs
  rw [← nthN_eq hj, h j hj]; simp

theorem iPure_no (p : Int) (a : Option Addr) (n c : Nat) (xs : List Int) (w : World) (h : IntsAt w a n xs) (hcap : n ≤ c) (hno : ¬ Anti p xs) :
    Calls Try.prog 107 #[.agg #[.int .i64 p, .slice a n c]] w fun e w' => e = .returned (.bool false) ∧ Below w.heap.size w w' := by
  have hx : IntsAt (w.alloc (.cells #[.int .i64 p, .slice a n c] 26)) a n xs := h.keep (by repeat (first | exact Below.refl _ _ | assumption | refine Below.setCell ?_ (by first | omega | (simp; done) | (simp; omega)) _ | refine Below.alloc ?_ (by first | omega | (simp; done) | (simp; omega)) _ | apply Below.drew))
  have Hx := Lib.hid hx; have Hcap := Lib.hid hcap; have Hno := Lib.hid hno
  clear hx h hcap hno
  go_enter Try.func107, Try.ntmps107
  go_wp2_with fail
  refine (iIsComplex_any p a n c xs _ Hx.out Hcap.out false (by simp [Hno.out])).mono ?_
  rintro e w1 ⟨rfl, hb⟩
  have HB : Hid (Below w.heap.size w w1) := Lib.hid (Below.trans (by repeat (first | exact Below.refl _ _ | assumption | refine Below.setCell ?_ (by first | omega | (simp; done) | (simp; omega)) _ | refine Below.alloc ?_ (by first | omega | (simp; done) | (simp; omega)) _ | apply Below.drew)) (hb.mono (by simp <;> omega)))
  clear hb
  go_wp2_with fail
  go_ret
  exact ⟨rfl, HB.out⟩
set_option maxRecDepth 100000 in
set_option maxHeartbeats 600000 in
theorem iPure_yes (p : Int) (a : Option Addr) (n c : Nat) (l : List Nat) (w : World) (h : IntsAt w a n (up l)) (hcap : n ≤ c) (hA : Anti p (up l)) (hl : ∀ t ∈ l, t < 64) (b : Bool) (hb : pureB l = b) :
    Calls Try.prog 107 #[.agg #[.int .i64 p, .slice a n c]] w fun e w' => e = .returned (.bool b) ∧ Below w.heap.size w w' := by
  have hx : IntsAt (w.alloc (.cells #[.int .i64 p, .slice a n c] 26)) a n (up l) := h.keep (by repeat (first | exact Below.refl _ _ | assumption | refine Below.setCell ?_ (by first | omega | (simp; done) | (simp; omega)) _ | refine Below.alloc ?_ (by first | omega | (simp; done) | (simp; omega)) _ | apply Below.drew))
  have Hx := Lib.hid hx; have Hcap := Lib.hid hcap; have HA := Lib.hid hA; have Hl := Lib.hid hl; have Hb := Lib.hid hb
  have XA := Lib.hid (BoxF.new w (.int .i64 p) (.slice a n c) 26)
  have hln : l.length = n := by have := h.len; rwa [up_len] at this
  have Hln := Lib.hid hln
  have hsm := h.small
  clear hx h hcap hA hl hb hln
  go_enter Try.func107, Try.ntmps107
  go_wp2_with fail
  refine (iIsComplex_any p a n c _ _ Hx.out Hcap.out true (by simp [HA.out])).mono ?_
  rintro e w1 ⟨rfl, hb⟩
  have HB : Hid (Below w.heap.size w w1) := Lib.hid (Below.trans (by repeat (first | exact Below.refl _ _ | assumption | refine Below.setCell ?_ (by first | omega | (simp; done) | (simp; omega)) _ | refine Below.alloc ?_ (by first | omega | (simp; done) | (simp; omega)) _ | apply Below.drew)) (hb.mono (by simp <;> omega)))
  have XA1 := Lib.hid (XA.out.keep hb (by simp))
  obtain ⟨p0, p1, _, _, _⟩ := XA1.out
  have Hx1 := Lib.hid (Hx.out.keep hb)
  have hz : w.heap.size + 1 ≤ w1.heap.size := by have := hb.size; simp at this; omega
  clear hb
  go_wp2_with fail
  clear p0 p1
  go_loopw [4, 11] (fun _ i wr => ∃ I : Nat, I ≤ n ∧ i = .int .i64 I ∧ Below w1.heap.size w1 wr ∧ Hid (∀ j, j < I → sz (nthN l j) = sz (nthN l 0))) (fun _ i _ => n - (intOf i).toNat)
  case atStart => exact ⟨0, Nat.zero_le _, rfl, Below.refl _ _, Lib.hid fun j hj => absurd hj (Nat.not_lt_zero _)⟩
  case round =>
    obtain ⟨I, hI, rfl, hbr, hok⟩ := hrel
    have HBr := Lib.hid hbr; have Hxr := Lib.hid (Hx1.out.keep hbr); have XAr := Lib.hid (XA1.out.keep hbr (by omega))
    clear hbr
    by_cases hlt : I < n
    · obtain ⟨p0, p1, _, _, _⟩ := XAr.out
      obtain ⟨b1, o1, rfl, hc⟩ := Hxr.out.cells (by omega)
      have hck := hc I hlt
      have hc0 := hc 0 (by omega)
      rw [nth_up] at hck hc0
      rw [Nat.add_zero] at hc0
      have ht64 := Hl.out _ (nthN_mem (xs := l) (k := I) (by rw [Hln.out]; exact hlt))
      have hu64 := Hl.out _ (nthN_mem (xs := l) (k := 0) (by rw [Hln.out]; omega))
      obtain ⟨t, ht⟩ : ∃ t, t = nthN l I := ⟨_, rfl⟩
      obtain ⟨u, hu⟩ : ∃ u, u = nthN l 0 := ⟨_, rfl⟩
      rw [← ht] at hck ht64
      rw [← hu] at hc0 hu64
      have Ht := Lib.hid ht; have Hu := Lib.hid hu
      have hn0 : (0 : Int) < n := by omega
      obtain ⟨x, hx⟩ : ∃ x, x = sz t := ⟨_, rfl⟩
      obtain ⟨y, hy⟩ : ∃ y, y = sz u := ⟨_, rfl⟩
      have Hx9 := Lib.hid hx; have Hy9 := Lib.hid hy
      have HCt : Hid (∀ W, Calls Try.prog 65 #[.int .i64 t] W fun e w' => e = .returned (.int .i64 x) ∧ W = w') := Lib.hid (fun W => by rw [hx]; exact SizeOf_any t W ht64)
      have HCu : Hid (∀ W, Calls Try.prog 65 #[.int .i64 u] W fun e w' => e = .returned (.int .i64 y) ∧ W = w') := Lib.hid (fun W => by rw [hy]; exact SizeOf_any u W hu64)
      clear hc ht hu hx hy
      by_cases he : x = y
      · have hne : ((x : Int) != (y : Int)) = false := by simp [he]
        have He := Lib.hid he
        clear he
        go_wp2_with fail
        go_quiet (first | (go_at_call 65; with_reducible exact ql (HCt.out _)) | (go_at_call 65; with_reducible exact ql (HCu.out _)))
        go_wp2_with fail
        go_roundw
        case rel =>
          refine ⟨I + 1, by omega, by go_num, below_drewN HBr.out _, Lib.hid fun j hj => ?_⟩
          rcases Nat.lt_or_ge j I with h | h
          · exact hok.out j h
          · obtain rfl : j = I := by omega
            rw [← Ht.out, ← Hu.out, ← Hx9.out, ← Hy9.out]; exact He.out
        case measure => simp [intOf]; omega
      · have hne : ((x : Int) != (y : Int)) = true := by simp; omega
        have hbf : b = false := by
          rw [← Hb.out]
          exact pure_no (k := I) (by rw [Hln.out]; exact hlt) (by rw [← Ht.out, ← Hu.out, ← Hx9.out, ← Hy9.out]; exact he)
        subst hbf
        clear he
        go_wp2_with fail
        go_quiet (first | (go_at_call 65; with_reducible exact ql (HCt.out _)) | (go_at_call 65; with_reducible exact ql (HCu.out _)))
        go_wp2_with fail
        go_ret
        exact ⟨rfl, below_drewN (HB.out.trans (HBr.out.mono HB.out.size)) _⟩
    · obtain rfl : I = n := by omega
      have hbt : b = true := by
        rw [← Hb.out]
        exact pure_yes fun j hj => hok.out j (by rw [← Hln.out]; exact hj)
      subst hbt
      go_wp2_with fail
      go_ret
      exact ⟨rfl, HB.out.trans (HBr.out.mono HB.out.size)⟩

/-- l2Size of any number comes back with a number -/
theorem l2Size_all (x : Int) (w : World) :
    Calls Try.prog 74 #[.int .i64 x] w fun e w' => (∃ v : Int, e = .returned (.int .i64 v)) ∧ w = w' := by
  go_enter Try.func74, Try.ntmps74
  go_wp2
  go_loop [0, 3] (fun t n => ∃ m k : Int, t = .int .i64 m ∧ n = .int .i64 k) (fun t _ => (intOf t).toNat)
  case atStart => exact ⟨x, 0, rfl, rfl⟩
  case round =>
    obtain ⟨m, k, rfl, rfl⟩ := hrel
    by_cases h0 : 0 < m
    · go_wp2
      go_round
      case rel => exact ⟨_, _, rfl, rfl⟩
      case measure => simp [intOf]; omega
    · go_wp2
      go_ret
      exact ⟨⟨_, rfl⟩, rfl⟩
set_option maxRecDepth 100000 in
set_option maxHeartbeats 600000 in
theorem sPure_no (p : Int) (a : Option Addr) (n c : Nat) (xs : List Int) (w : World) (h : IntsAt w a n xs) (hno : ¬ Anti p xs) :
    Calls Try.prog 46 #[.agg #[.int .i64 p, .slice a n c]] w fun e w' => e = .returned (.bool false) ∧ Below w.heap.size w w' := by
  have hx : IntsAt (w.alloc (.cells #[.int .i64 p, .slice a n c] 26)) a n xs := h.keep (by repeat (first | exact Below.refl _ _ | assumption | refine Below.setCell ?_ (by first | omega | (simp; done) | (simp; omega)) _ | refine Below.alloc ?_ (by first | omega | (simp; done) | (simp; omega)) _ | apply Below.drew))
  have Hx := Lib.hid hx; have Hno := Lib.hid hno
  have XA := Lib.hid (BoxF.new w (.int .i64 p) (.slice a n c) 26)
  have hsm := h.small
  clear hx h hno
  obtain ⟨w0, hw0⟩ : ∃ w0, w0 = w.alloc (.cells #[.int .i64 p, .slice a n c] 26) := ⟨_, rfl⟩
  have hB0 : Below w.heap.size w w0 := by rw [hw0]; exact (by repeat (first | exact Below.refl _ _ | assumption | refine Below.setCell ?_ (by first | omega | (simp; done) | (simp; omega)) _ | refine Below.alloc ?_ (by first | omega | (simp; done) | (simp; omega)) _ | apply Below.drew))
  have hz : w.heap.size + 1 ≤ w0.heap.size := by rw [hw0]; simp
  have HW0 := Lib.hid hw0; have HB0 := Lib.hid hB0
  rw [← hw0] at Hx XA
  clear hw0 hB0
  go_enter Try.func46, Try.ntmps46
  go_wp2_with fail
  rw [← HW0.out]
  go_loopw [3] (fun i wr => ∃ I : Nat, 1 ≤ I ∧ (I ≤ n ∨ I = 1) ∧ i = .int .i64 I ∧ Below w0.heap.size w0 wr) (fun i _ => n - (intOf i).toNat)
  case atStart => exact ⟨1, by omega, .inr rfl, rfl, Below.refl _ _⟩
  case round =>
    obtain ⟨wo, rfl⟩ : ∃ x : World, x = wr := ⟨_, rfl⟩
    obtain ⟨I, h1, hI, rfl, hbr⟩ := hrel
    have H1I := Lib.hid h1; have HII := Lib.hid hI
    clear h1 hI
    have HBr := Lib.hid hbr; have Hxr := Lib.hid (Hx.out.keep hbr); have XAr := Lib.hid (XA.out.keep hbr (by omega))
    clear hbr
    obtain ⟨p0, p1, _, _, _⟩ := XAr.out
    by_cases hlt : I < n
    · obtain ⟨b1, o1, rfl, hc⟩ := Hxr.out.cells (by omega)
      have hck := hc I hlt
      have hc0 := hc 0 (by omega)
      rw [Nat.add_zero] at hc0
      obtain ⟨t, ht⟩ : ∃ t, t = nth xs I := ⟨_, rfl⟩
      obtain ⟨u, hu⟩ : ∃ u, u = nth xs 0 := ⟨_, rfl⟩
      rw [← ht] at hck
      rw [← hu] at hc0
      have hn0 : (0 : Int) < n := by omega
      have hnN : 0 < n := by omega
      have hi0 : (0 : Int) ≤ I := by omega
      have hin : (I : Int) < n := by omega
      clear hc ht hu
      go_wp2_with fail
      go_cut [22] (fun v W => (∃ b, v = .bool b) ∧ Below w0.heap.size w0 W)
      case first =>
        go_region_held3 (fun W => W.cell? ⟨w.heap.size, 1, none⟩ = some (.slice (some ⟨b1, o1, none⟩) n c) ∧ W.cell? ⟨b1, o1 + I, none⟩ = some (.int .i64 t) ∧ W.cell? ⟨b1, o1, none⟩ = some (.int .i64 u)) (first | exact ⟨p1, hck, hc0⟩ | go_keep) (first | (go_simp; go_at_call 74; (with_reducible refine (l2Size_all _ _).mono ?_); rintro e w' ⟨⟨v, rfl⟩, rfl⟩))
        all_goals (go_wp2_with fail; go_meet; exact ⟨⟨_, rfl⟩, HBr.out.drew⟩)
      case rest =>
        obtain ⟨⟨b, rfl⟩, hbc⟩ := hcut
        have HBc := Lib.hid hbc
        clear hbc
        cases b
        · go_wp2_with fail
          go_roundw
          case rel => exact ⟨I + 1, by omega, by omega, by go_num, HBc.out⟩
          case measure => simp [intOf]; omega
        · go_wp2_with fail
          go_ret
          exact ⟨rfl, HB0.out.trans (HBc.out.mono HB0.out.size)⟩
    · have hii : ¬ ((I : Int) < n) := by omega
      go_wp2_with fail
      refine (sIsComplex_any p a n c xs _ Hxr.out false (by simp [Hno.out])).mono ?_
      rintro e w1 ⟨rfl, hb⟩
      have HB : Hid (Below w.heap.size w w1) := Lib.hid ((HB0.out.trans (HBr.out.mono HB0.out.size)).trans (hb.mono (HB0.out.trans (HBr.out.mono HB0.out.size)).size))
      clear hb
      go_wp2_with fail
      go_ret
      exact ⟨rfl, HB.out⟩
set_option maxRecDepth 100000 in
set_option maxHeartbeats 600000 in
theorem sPure_yes (p : Int) (a : Option Addr) (n c : Nat) (l : List Nat) (w : World) (h : IntsAt w a n (up l)) (hA : Anti p (up l)) (hl : ∀ t ∈ l, t < 64) (b : Bool) (hb : pureB l = b) :
    Calls Try.prog 46 #[.agg #[.int .i64 p, .slice a n c]] w fun e w' => e = .returned (.bool b) ∧ Below w.heap.size w w' := by
  have hx : IntsAt (w.alloc (.cells #[.int .i64 p, .slice a n c] 26)) a n (up l) := h.keep (by repeat (first | exact Below.refl _ _ | assumption | refine Below.setCell ?_ (by first | omega | (simp; done) | (simp; omega)) _ | refine Below.alloc ?_ (by first | omega | (simp; done) | (simp; omega)) _ | apply Below.drew))
  have Hx := Lib.hid hx; have HA := Lib.hid hA; have Hl := Lib.hid hl; have Hb := Lib.hid hb
  have XA := Lib.hid (BoxF.new w (.int .i64 p) (.slice a n c) 26)
  have hln : l.length = n := by have := h.len; rwa [up_len] at this
  have Hln := Lib.hid hln
  have hsm := h.small
  clear hx h hA hl hb hln
  obtain ⟨w0, hw0⟩ : ∃ w0, w0 = w.alloc (.cells #[.int .i64 p, .slice a n c] 26) := ⟨_, rfl⟩
  have hB0 : Below w.heap.size w w0 := by rw [hw0]; exact (by repeat (first | exact Below.refl _ _ | assumption | refine Below.setCell ?_ (by first | omega | (simp; done) | (simp; omega)) _ | refine Below.alloc ?_ (by first | omega | (simp; done) | (simp; omega)) _ | apply Below.drew))
  have hz : w.heap.size + 1 ≤ w0.heap.size := by rw [hw0]; simp
  have HW0 := Lib.hid hw0; have HB0 := Lib.hid hB0
  rw [← hw0] at Hx XA
  clear hw0 hB0
  go_enter Try.func46, Try.ntmps46
  go_wp2_with fail
  rw [← HW0.out]
  go_loopw [3] (fun i wr => ∃ I : Nat, 1 ≤ I ∧ (I ≤ n ∨ I = 1) ∧ i = .int .i64 I ∧ Below w0.heap.size w0 wr ∧ Hid (∀ j, j < I → sz (nthN l j) = sz (nthN l 0))) (fun i _ => n - (intOf i).toNat)
  case atStart => exact ⟨1, by omega, .inr rfl, rfl, Below.refl _ _, Lib.hid fun j hj => by (obtain rfl : j = 0 := by omega); rfl⟩
  case round =>
    obtain ⟨wo, rfl⟩ : ∃ x : World, x = wr := ⟨_, rfl⟩
    obtain ⟨I, h1, hI, rfl, hbr, hok⟩ := hrel
    have H1I := Lib.hid h1; have HII := Lib.hid hI
    clear h1 hI
    have HBr := Lib.hid hbr; have Hxr := Lib.hid (Hx.out.keep hbr); have XAr := Lib.hid (XA.out.keep hbr (by omega))
    clear hbr
    obtain ⟨p0, p1, _, _, _⟩ := XAr.out
    by_cases hlt : I < n
    · obtain ⟨b1, o1, rfl, hc⟩ := Hxr.out.cells (by omega)
      have hck := hc I hlt
      have hc0 := hc 0 (by omega)
      rw [nth_up] at hck hc0
      rw [Nat.add_zero] at hc0
      have ht64 := Hl.out _ (nthN_mem (xs := l) (k := I) (by rw [Hln.out]; exact hlt))
      have hu64 := Hl.out _ (nthN_mem (xs := l) (k := 0) (by rw [Hln.out]; omega))
      obtain ⟨t, ht⟩ : ∃ t, t = nthN l I := ⟨_, rfl⟩
      obtain ⟨u, hu⟩ : ∃ u, u = nthN l 0 := ⟨_, rfl⟩
      rw [← ht] at hck ht64
      rw [← hu] at hc0 hu64
      have Ht := Lib.hid ht; have Hu := Lib.hid hu
      have hn0 : (0 : Int) < n := by omega
      have hi0 : (0 : Int) ≤ I := by omega
      have hin : (I : Int) < n := by omega
      obtain ⟨x, hx⟩ : ∃ x, x = sz t := ⟨_, rfl⟩
      obtain ⟨y, hy⟩ : ∃ y, y = sz u := ⟨_, rfl⟩
      have Hx9 := Lib.hid hx; have Hy9 := Lib.hid hy
      have HCt : Hid (∀ W, Calls Try.prog 74 #[.int .i64 t] W fun e w' => e = .returned (.int .i64 x) ∧ W = w') := Lib.hid (fun W => by rw [hx]; exact l2Size_any t W ht64)
      have HCu : Hid (∀ W, Calls Try.prog 74 #[.int .i64 u] W fun e w' => e = .returned (.int .i64 y) ∧ W = w') := Lib.hid (fun W => by rw [hy]; exact l2Size_any u W hu64)
      clear hc ht hu hx hy
      by_cases he : x = y
      · have hne : ((x : Int) != (y : Int)) = false := by simp [he]
        have He := Lib.hid he
        clear he
        go_wp2_with fail
        go_quiet (first | (go_at_call 74; with_reducible exact ql (HCt.out _)) | (go_at_call 74; with_reducible exact ql (HCu.out _)))
        go_wp2_with fail
        go_roundw
        case rel =>
          refine ⟨I + 1, by omega, by omega, by go_num, below_drewN HBr.out _, Lib.hid fun j hj => ?_⟩
          rcases Nat.lt_or_ge j I with h | h
          · exact hok.out j h
          · obtain rfl : j = I := by omega
            rw [← Ht.out, ← Hu.out, ← Hx9.out, ← Hy9.out]; exact He.out
        case measure => simp [intOf]; omega
      · have hne : ((x : Int) != (y : Int)) = true := by simp; omega
        have hbf : b = false := by
          rw [← Hb.out]
          exact pure_no (k := I) (by rw [Hln.out]; exact hlt) (by rw [← Ht.out, ← Hu.out, ← Hx9.out, ← Hy9.out]; exact he)
        subst hbf
        clear he
        go_wp2_with fail
        go_quiet (first | (go_at_call 74; with_reducible exact ql (HCt.out _)) | (go_at_call 74; with_reducible exact ql (HCu.out _)))
        go_wp2_with fail
        go_ret
        exact ⟨rfl, below_drewN (HB0.out.trans (HBr.out.mono HB0.out.size)) _⟩
    · have hii : ¬ ((I : Int) < n) := by omega
      have hbt : b = true := by
        rw [← Hb.out]
        exact pure_yes fun j hj => hok.out j (by rw [Hln.out] at hj; have := HII.out; have := H1I.out; omega)
      subst hbt
      go_wp2_with fail
      refine (sIsComplex_any p a n c _ _ Hxr.out true (by simp [HA.out])).mono ?_
      rintro e w1 ⟨rfl, hb⟩
      have HB : Hid (Below w.heap.size w w1) := Lib.hid ((HB0.out.trans (HBr.out.mono HB0.out.size)).trans (hb.mono (HB0.out.trans (HBr.out.mono HB0.out.size)).size))
      clear hb
      go_wp2_with fail
      go_ret
      exact ⟨rfl, HB.out⟩
end Go.Proofs.Ytbdnlncpamandaa

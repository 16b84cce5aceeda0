/- Texts of this claim, one behind the other: what each says stands at its head. -/
import Derived.Test.YtihfhfihladlcaaGreatDoorClosed
import Derived.Test.YtihfhfihladlcaaGreatDoorFaces
/- IsSurface of both sides. -/
namespace Go.Proofs.YtihfhfihladlcaaGreatDoor
set_option maxRecDepth 20000
open Go.RowKit
set_option linter.unusedSimpArgs false
set_option linter.unusedVariables false

/-- the link of a point -/
def lnk (l : List Nat) (i : Nat) : List Nat := maxL (linkL l (2 ^ i)).contains
def lnkB (l : List Nat) (i : Nat) : Bool := chB (lnk l i) && clB (lnk l i)
def lnksB (m : Nat) (l : List Nat) : Bool := (List.range m).all fun i => !isFace l (2 ^ i) || lnkB l i
def srfB (m : Nat) (l : List Nat) : Bool := decide (topL l = 4) && (clB l && (chB l && lnksB m l))
theorem lnk_cpx {m : Nat} {l : List Nat} (hC : Cpx m l) (i : Nat) : Cpx m (lnk l i) := by
  refine Cpx.of (anti_maxL hC.one hC.six fun s hs h => ?_)
  obtain ⟨f, hf, _, rfl⟩ := mem_linkL.1 (show s ∈ linkL l (2 ^ i) by simpa using h)
  have := hC.lt f hf
  unfold sdiff
  exact Nat.lt_of_le_of_lt Nat.and_le_left this
theorem pow_cast (i : Nat) : ((2 ^ i : Nat) : Int) = (2 : Int) ^ i := by norm_cast
theorem shl_small {i : Nat} (h : i < 6) : IntKind.i64.wrap ((2 : Int) ^ i) = (2 : Int) ^ i := w_shl6 i (by omega)
/-- a family's points are those of the facets -/
theorem face_pt {l : List Nat} (hl : ∀ f ∈ l, f < 64) {i : Nat} (hi : i < 6) : isFace l (2 ^ i) = (usedN l).testBit i := by
  rw [usedN_bit]
  unfold isFace
  rw [Bool.eq_iff_iff, List.any_eq_true, List.any_eq_true]
  have key : ∀ f, f < 64 → (sub (2 ^ i) f = f.testBit i) := by
    intro f hf
    have : ∀ f, f < 64 → ∀ i, i < 6 → sub (2 ^ i) f = f.testBit i := by decide +kernel
    exact this f hf i hi
  exact ⟨fun ⟨f, hf, h⟩ => ⟨f, hf, by rw [← key f (hl f hf)]; exact h⟩, fun ⟨f, hf, h⟩ => ⟨f, hf, by rw [key f (hl f hf)]; exact h⟩⟩
theorem lnks_pts {m : Nat} {l : List Nat} (hC : Cpx m l) : lnksB m l = (pts (usedN l)).all (lnkB l) := by
  rw [Bool.eq_iff_iff]
  unfold lnksB
  rw [List.all_eq_true, List.all_eq_true]
  constructor
  · intro h i hi
    have hi' := mem_pts.1 hi
    have hm : i < m := by
      have hb := hi'.2
      rw [usedN_bit, List.any_eq_true] at hb
      obtain ⟨f, hf, hfi⟩ := hb
      rcases Nat.lt_or_ge i m with h | h
      · exact h
      · have := Nat.testBit_lt_two_pow (Nat.lt_of_lt_of_le (hC.lt f hf) (Nat.pow_le_pow_right (by omega) h))
        rw [this] at hfi; cases hfi
    have := h i (List.mem_range.2 hm)
    rw [face_pt hC.lt64 hi'.1, hi'.2] at this
    simpa using this
  · intro h i hi
    have hm := List.mem_range.1 hi
    have h6 : i < 6 := by have := hC.six; omega
    rw [face_pt hC.lt64 h6]
    cases hb : (usedN l).testBit i
    · simp
    · simp only [Bool.not_true, Bool.false_or]
      exact h i (mem_pts.2 ⟨h6, hb⟩)
theorem specSurf_stop (p : Int) (a : Option Addr) (n c : Nat) (xs : List Int) (d : Int) (q1 q2 : Bool) (w : World) (h : IntsAt w a n xs)
    (hD : ∀ W, IntsAt W a n xs → Calls Tryz.prog 78 #[.agg #[.int .i64 p, .slice a n c]] W fun e w' => e = .returned (.int .i64 d) ∧ Below W.heap.size W w')
    (h1 : ∀ W, IntsAt W a n xs → Calls Tryz.prog 73 #[.agg #[.int .i64 p, .slice a n c]] W fun e w' => e = .returned (.bool q1) ∧ Below W.heap.size W w')
    (h2 : ∀ W, IntsAt W a n xs → Calls Tryz.prog 71 #[.agg #[.int .i64 p, .slice a n c]] W fun e w' => e = .returned (.bool q2) ∧ Below W.heap.size W w')
    (hno : d ≠ 2 ∨ q1 = false ∨ q2 = false) :
    Calls Tryz.prog 75 #[.agg #[.int .i64 p, .slice a n c]] w fun e w' => e = .returned (.bool false) ∧ Below w.heap.size w w' := by
  obtain ⟨w0, hw0⟩ : ∃ w0, w0 = w.alloc (.cells #[.int .i64 p, .slice a n c] 32) := ⟨_, rfl⟩
  have HB0 : Hid (Below w.heap.size w w0) := Lib.hid (by rw [hw0]; exact (by repeat (first | exact Below.refl _ _ | assumption | refine Below.setCell ?_ (by first | omega | (simp; done) | (simp; omega)) _ | refine Below.alloc ?_ (by first | omega | (simp; done) | (simp; omega)) _ | apply Below.drew)))
  have X0 : Hid (BoxF w0 w.heap.size (.int .i64 p) (.slice a n c)) := Lib.hid (by rw [hw0]; exact BoxF.new _ _ _ _)
  have Hx0 : Hid (IntsAt w0 a n xs) := Lib.hid (h.keep HB0.out)
  have HD := Lib.hid hD; have H1 := Lib.hid h1; have H2 := Lib.hid h2; have HW0 := Lib.hid hw0
  clear h hD h1 h2 hw0
  go_enter Tryz.func75, Tryz.ntmps75
  go_wp2_with fail
  rw [← HW0.out]
  refine (HD.out _ Hx0.out).mono ?_
  rintro e w1 ⟨rfl, hb1⟩
  have HB1 := Lib.hid (HB0.out.trans (hb1.mono HB0.out.size))
  have X1 := Lib.hid (X0.out.keep hb1 X0.out.lt)
  have Hx1 := Lib.hid (Hx0.out.keep hb1)
  clear hb1
  obtain ⟨p0, p1, _, _, _⟩ := X1.out
  by_cases hd : d = 2
  · have hdb : (d != 2) = false := by simp [hd]
    replace hno := hno.resolve_left (fun hh => hh hd)
    clear hd
    go_wp2_with fail
    refine (H1.out _ Hx1.out).mono ?_
    rintro e w2 ⟨rfl, hb2⟩
    have HB2 := Lib.hid (HB1.out.trans (hb2.mono HB1.out.size))
    have X2 := Lib.hid (X1.out.keep hb2 X1.out.lt)
    have Hx2 := Lib.hid (Hx1.out.keep hb2)
    clear hb2 p0 p1
    obtain ⟨p0, p1, _, _, _⟩ := X2.out
    cases q1
    · clear hno
      go_wp2_with fail
      go_ret
      exact ⟨rfl, HB2.out⟩
    · have hq2 : q2 = false := hno.resolve_left (by simp)
      subst hq2
      clear hno
      go_wp2_with fail
      refine (H2.out _ Hx2.out).mono ?_
      rintro e w3 ⟨rfl, hb3⟩
      have HB3 := Lib.hid (HB2.out.trans (hb3.mono HB2.out.size))
      clear hb3
      go_wp2_with fail
      go_ret
      exact ⟨rfl, HB3.out⟩
  · have hdb : (d != 2) = true := by simp [hd]
    clear hd hno
    go_wp2_with fail
    go_ret
    exact ⟨rfl, HB1.out⟩
theorem implSurf_stop (p : Int) (a : Option Addr) (n c : Nat) (xs : List Int) (d : Int) (q1 q2 : Bool) (w : World) (h : IntsAt w a n xs)
    (hD : ∀ W, IntsAt W a n xs → Calls Tryz.prog 146 #[.agg #[.int .i64 p, .slice a n c]] W fun e w' => e = .returned (.int .i64 d) ∧ Below W.heap.size W w')
    (h1 : ∀ W, IntsAt W a n xs → Calls Tryz.prog 72 #[.agg #[.int .i64 p, .slice a n c]] W fun e w' => e = .returned (.bool q1) ∧ Below W.heap.size W w')
    (h2 : ∀ W, IntsAt W a n xs → Calls Tryz.prog 70 #[.agg #[.int .i64 p, .slice a n c]] W fun e w' => e = .returned (.bool q2) ∧ Below W.heap.size W w')
    (hno : d ≠ 2 ∨ q1 = false ∨ q2 = false) :
    Calls Tryz.prog 74 #[.agg #[.int .i64 p, .slice a n c]] w fun e w' => e = .returned (.bool false) ∧ Below w.heap.size w w' := by
  obtain ⟨w0, hw0⟩ : ∃ w0, w0 = w.alloc (.cells #[.int .i64 p, .slice a n c] 32) := ⟨_, rfl⟩
  have HB0 : Hid (Below w.heap.size w w0) := Lib.hid (by rw [hw0]; exact (by repeat (first | exact Below.refl _ _ | assumption | refine Below.setCell ?_ (by first | omega | (simp; done) | (simp; omega)) _ | refine Below.alloc ?_ (by first | omega | (simp; done) | (simp; omega)) _ | apply Below.drew)))
  have X0 : Hid (BoxF w0 w.heap.size (.int .i64 p) (.slice a n c)) := Lib.hid (by rw [hw0]; exact BoxF.new _ _ _ _)
  have Hx0 : Hid (IntsAt w0 a n xs) := Lib.hid (h.keep HB0.out)
  have HD := Lib.hid hD; have H1 := Lib.hid h1; have H2 := Lib.hid h2; have HW0 := Lib.hid hw0
  clear h hD h1 h2 hw0
  go_enter Tryz.func74, Tryz.ntmps74
  go_wp2_with fail
  rw [← HW0.out]
  refine (HD.out _ Hx0.out).mono ?_
  rintro e w1 ⟨rfl, hb1⟩
  have HB1 := Lib.hid (HB0.out.trans (hb1.mono HB0.out.size))
  have X1 := Lib.hid (X0.out.keep hb1 X0.out.lt)
  have Hx1 := Lib.hid (Hx0.out.keep hb1)
  clear hb1
  obtain ⟨p0, p1, _, _, _⟩ := X1.out
  by_cases hd : d = 2
  · have hdb : (d != 2) = false := by simp [hd]
    replace hno := hno.resolve_left (fun hh => hh hd)
    clear hd
    go_wp2_with fail
    refine (H1.out _ Hx1.out).mono ?_
    rintro e w2 ⟨rfl, hb2⟩
    have HB2 := Lib.hid (HB1.out.trans (hb2.mono HB1.out.size))
    have X2 := Lib.hid (X1.out.keep hb2 X1.out.lt)
    have Hx2 := Lib.hid (Hx1.out.keep hb2)
    clear hb2 p0 p1
    obtain ⟨p0, p1, _, _, _⟩ := X2.out
    cases q1
    · clear hno
      go_wp2_with fail
      go_ret
      exact ⟨rfl, HB2.out⟩
    · have hq2 : q2 = false := hno.resolve_left (by simp)
      subst hq2
      clear hno
      go_wp2_with fail
      refine (H2.out _ Hx2.out).mono ?_
      rintro e w3 ⟨rfl, hb3⟩
      have HB3 := Lib.hid (HB2.out.trans (hb3.mono HB2.out.size))
      clear hb3
      go_wp2_with fail
      go_ret
      exact ⟨rfl, HB3.out⟩
  · have hdb : (d != 2) = true := by simp [hd]
    clear hd hno
    go_wp2_with fail
    go_ret
    exact ⟨rfl, HB1.out⟩
set_option maxHeartbeats 2000000 in
theorem sSurf_yes {m : Nat} {l : List Nat} (hC : Cpx m l) (a : Option Addr) (n c : Nat) (w : World) (h : IntsAt w a n (up l)) (hT : topL l = 4) (h1 : clB l = true) (h2 : chB l = true) :
    Calls Tryz.prog 75 #[.agg #[.int .i64 m, .slice a n c]] w fun e w' => e = .returned (.bool (lnksB m l)) ∧ Below w.heap.size w w' := by
  obtain ⟨b, hb⟩ : ∃ b, b = lnksB m l := ⟨_, rfl⟩
  have Hb := Lib.hid hb
  rw [← hb]
  obtain ⟨w0, hw0⟩ : ∃ w0, w0 = w.alloc (.cells #[.int .i64 m, .slice a n c] 32) := ⟨_, rfl⟩
  have HB0 : Hid (Below w.heap.size w w0) := Lib.hid (by rw [hw0]; exact (by repeat (first | exact Below.refl _ _ | assumption | refine Below.setCell ?_ (by first | omega | (simp; done) | (simp; omega)) _ | refine Below.alloc ?_ (by first | omega | (simp; done) | (simp; omega)) _ | apply Below.drew)))
  have X0 : Hid (BoxF w0 w.heap.size (.int .i64 m) (.slice a n c)) := Lib.hid (by rw [hw0]; exact BoxF.new _ _ _ _)
  have Hx0 : Hid (IntsAt w0 a n (up l)) := Lib.hid (h.keep HB0.out)
  have hn64 := (hC.at h).2
  have hm6 := hC.six
  have HD : Hid (∀ W, IntsAt W a n (up l) → Calls Tryz.prog 78 #[.agg #[.int .i64 m, .slice a n c]] W fun e w' => e = .returned (.int .i64 2) ∧ Below W.heap.size W w') := Lib.hid fun W hW => by have := sDimV hC a n c W hW; rwa [hT] at this
  have H1 : Hid (∀ W, IntsAt W a n (up l) → Calls Tryz.prog 73 #[.agg #[.int .i64 m, .slice a n c]] W fun e w' => e = .returned (.bool true) ∧ Below W.heap.size W w') := Lib.hid fun W hW => by have := sClosedV hC a n c W hW; rwa [h1] at this
  have H2 : Hid (∀ W, IntsAt W a n (up l) → Calls Tryz.prog 71 #[.agg #[.int .i64 m, .slice a n c]] W fun e w' => e = .returned (.bool true) ∧ Below W.heap.size W w') := Lib.hid fun W hW => by have := sChainedV hC a n c W hW; rwa [h2] at this
  have HHas : Hid (∀ i, i < 6 → ∀ W, IntsAt W a n (up l) → Calls Tryz.prog 156 #[.agg #[.int .i64 m, .slice a n c], .int .i64 ((2 : Int) ^ i)] W fun e w' => e = .returned (.bool (isFace l (2 ^ i))) ∧ Below W.heap.size W w') := Lib.hid fun i hi W hW => by
    have := l3Has_any m (2 ^ i) a n c l W hW (bit_lt64 hi) hC.lt64 _ rfl
    rwa [pow_cast] at this
  have HLk : Hid (∀ i, i < 6 → ∀ W, IntsAt W a n (up l) → Calls Tryz.prog 157 #[.agg #[.int .i64 m, .slice a n c], .int .i64 ((2 : Int) ^ i)] W (RetBox W m (up (lnk l i)))) := Lib.hid fun i hi W hW => by
    have := sLink_any m a n c l (2 ^ i) W hW hn64 (bit_lt64 hi) hC.lt64
    rwa [pow_cast] at this
  have HCh : Hid (∀ i a n c W, IntsAt W a n (up (lnk l i)) → Calls Tryz.prog 71 #[.agg #[.int .i64 m, .slice a n c]] W fun e w' => e = .returned (.bool (chB (lnk l i))) ∧ Below W.heap.size W w') := Lib.hid fun i a n c W hW => sChainedV (lnk_cpx hC i) a n c W hW
  have HCl : Hid (∀ i a n c W, IntsAt W a n (up (lnk l i)) → Calls Tryz.prog 73 #[.agg #[.int .i64 m, .slice a n c]] W fun e w' => e = .returned (.bool (clB (lnk l i))) ∧ Below W.heap.size W w') := Lib.hid fun i a n c W hW => sClosedV (lnk_cpx hC i) a n c W hW
  have HW0 := Lib.hid hw0
  clear h hw0 hT h1 h2 hC hb
  go_enter Tryz.func75, Tryz.ntmps75
  go_wp2_with fail
  rw [← HW0.out]
  refine (HD.out _ Hx0.out).mono ?_
  rintro e w1 ⟨rfl, hb1⟩
  have HB1 := Lib.hid (HB0.out.trans (hb1.mono HB0.out.size))
  have X1 := Lib.hid (X0.out.keep hb1 X0.out.lt)
  have Hx1 := Lib.hid (Hx0.out.keep hb1)
  clear hb1
  obtain ⟨p0, p1, _, _, _⟩ := X1.out
  go_wp2_with fail
  refine (H1.out _ Hx1.out).mono ?_
  rintro e w2 ⟨rfl, hb2⟩
  have HB2 := Lib.hid (HB1.out.trans (hb2.mono HB1.out.size))
  have X2 := Lib.hid (X1.out.keep hb2 X1.out.lt)
  have Hx2 := Lib.hid (Hx1.out.keep hb2)
  clear hb2 p0 p1
  obtain ⟨p0, p1, _, _, _⟩ := X2.out
  go_wp2_with fail
  refine (H2.out _ Hx2.out).mono ?_
  rintro e w3 ⟨rfl, hb3⟩
  have HB3 := Lib.hid (HB2.out.trans (hb3.mono HB2.out.size))
  have X3 := Lib.hid (X2.out.keep hb3 X2.out.lt)
  have Hx3 := Lib.hid (Hx2.out.keep hb3)
  clear hb3 p0 p1
  go_wp2_with fail
  go_loopw [3, 4] (fun k _ wr => ∃ I : Nat, I ≤ m ∧ k = .int .i64 I ∧ Below w3.heap.size w3 wr ∧ Hid (∀ j, j < I → (!isFace l (2 ^ j) || lnkB l j) = true)) (fun k _ _ => m - (intOf k).toNat)
  case atStart => exact ⟨0, Nat.zero_le _, rfl, Below.refl _ _, Lib.hid fun j hj => absurd hj (Nat.not_lt_zero _)⟩
  case round =>
    obtain ⟨I, hI, rfl, hbl, hall⟩ := hrel
    have HB4 := Lib.hid (HB3.out.trans (hbl.mono HB3.out.size))
    have X4 := Lib.hid (X3.out.keep hbl X3.out.lt)
    have Hx4 := Lib.hid (Hx3.out.keep hbl)
    have HBr := Lib.hid hbl
    clear hbl
    obtain ⟨p0, p1, _, _, _⟩ := X4.out
    by_cases hlt : I < m
    · have hI6 : I < 6 := by omega
      have hsh := shl_small hI6
      have hIm : (I : Int) < m := by omega
      have hnext : (!isFace l (2 ^ I) || lnkB l I) = true → Hid (∀ j, j < I + 1 → (!isFace l (2 ^ j) || lnkB l j) = true) := fun hh => Lib.hid fun j hj => by
        rcases Nat.lt_or_ge j I with h | h
        · exact hall.out j h
        · obtain rfl : j = I := by omega
          exact hh
      have hfalse : (!isFace l (2 ^ I) || lnkB l I) = false → b = false := fun hh => by
        rw [Hb.out]; unfold lnksB
        rw [List.all_eq_false]
        exact ⟨I, List.mem_range.2 hlt, by rw [hh]; simp⟩
      have Hnext := Lib.hid hnext; have Hfalse := Lib.hid hfalse; have Hlt := Lib.hid hlt; have H6 := Lib.hid hI6
      clear hnext hfalse
      go_wp2_with fail
      refine (HHas.out I H6.out _ Hx4.out).mono ?_
      rintro e w5 ⟨rfl, hb5⟩
      have HB5 := Lib.hid (HBr.out.trans (hb5.mono HBr.out.size))
      have HBw5 := Lib.hid (HB4.out.trans (hb5.mono HB4.out.size))
      have X5 := Lib.hid (X4.out.keep hb5 X4.out.lt)
      have Hx5 := Lib.hid (Hx4.out.keep hb5)
      clear hb5 p0 p1
      obtain ⟨p0, p1, _, _, _⟩ := X5.out
      cases hf : isFace l (2 ^ I)
      · have Hn := Hnext.out (by rw [hf]; rfl)
        clear hf
        go_wp2_with fail
        go_roundw
        case rel => exact ⟨I + 1, Hlt.out, by go_num, HB5.out, Hn⟩
        case measure => have := Hlt.out; simp [intOf]; omega
      · have Hf := Lib.hid hf
        clear hf
        go_wp2_with fail
        refine (HLk.out I H6.out _ Hx5.out).mono ?_
        rintro e w6 ⟨a6, n6, c6, rfl, own6, hb6⟩
        have HB6 := Lib.hid (HB5.out.trans (hb6.mono HB5.out.size))
        have HBw6 := Lib.hid (HBw5.out.trans (hb6.mono HBw5.out.size))
        have HO6 := Lib.hid own6.reads
        clear hb6 own6 p0 p1
        obtain ⟨W7, hW7⟩ : ∃ W, W = w6.alloc (.cells #[.int .i64 m, .slice a6 n6 c6] 32) := ⟨_, rfl⟩
        obtain ⟨G, hG⟩ : ∃ G, G = w6.heap.size := ⟨_, rfl⟩
        have hb7 : Below w6.heap.size w6 W7 := by rw [hW7]; exact (by repeat (first | exact Below.refl _ _ | assumption | refine Below.setCell ?_ (by first | omega | (simp; done) | (simp; omega)) _ | refine Below.alloc ?_ (by first | omega | (simp; done) | (simp; omega)) _ | apply Below.drew))
        have X7 : Hid (BoxF W7 G (.int .i64 m) (.slice a6 n6 c6)) := Lib.hid (by rw [hW7, hG]; exact BoxF.new _ _ _ _)
        have HB7 := Lib.hid (HB6.out.trans (hb7.mono HB6.out.size))
        have HBw7 := Lib.hid (HBw6.out.trans (hb7.mono HBw6.out.size))
        have HO7 := Lib.hid (HO6.out.keep hb7)
        have HW7 := Lib.hid hW7; have HG := Lib.hid hG
        clear hb7 hW7 hG
        go_wp2_with fail
        rw [← HG.out, ← HW7.out]
        refine (HCh.out I a6 n6 c6 _ HO7.out).mono ?_
        rintro e w8 ⟨rfl, hb8⟩
        have HB8 := Lib.hid (HB7.out.trans (hb8.mono HB7.out.size))
        have HBw8 := Lib.hid (HBw7.out.trans (hb8.mono HBw7.out.size))
        have HO8 := Lib.hid (HO7.out.keep hb8)
        have X8 := Lib.hid (X7.out.keep hb8 X7.out.lt)
        clear hb8
        obtain ⟨r0, r1, _, _, _⟩ := X8.out
        cases hc1 : chB (lnk l I)
        · have hbf := Hfalse.out (by unfold lnkB; rw [Hf.out, hc1]; rfl)
          subst hbf
          clear hc1
          go_wp2_with fail
          go_ret
          exact ⟨rfl, HBw8.out⟩
        · have Hc1 := Lib.hid hc1
          clear hc1
          go_wp2_with fail
          refine (HCl.out I a6 n6 c6 _ HO8.out).mono ?_
          rintro e w9 ⟨rfl, hb9⟩
          have HB9 := Lib.hid (HB8.out.trans (hb9.mono HB8.out.size))
          have HBw9 := Lib.hid (HBw8.out.trans (hb9.mono HBw8.out.size))
          clear hb9
          cases hc2 : clB (lnk l I)
          · have hbf := Hfalse.out (by unfold lnkB; rw [Hf.out, Hc1.out, hc2]; rfl)
            subst hbf
            clear hc2
            go_wp2_with fail
            go_ret
            exact ⟨rfl, HBw9.out⟩
          · have Hn := Hnext.out (by unfold lnkB; rw [Hf.out, Hc1.out, hc2]; rfl)
            clear hc2
            go_wp2_with fail
            go_roundw
            case rel => exact ⟨I + 1, Hlt.out, by go_num, HB9.out, Hn⟩
            case measure => have := Hlt.out; simp [intOf]; omega
    · obtain rfl : I = m := by omega
      have hII : ¬ ((I : Int) < I) := by omega
      have hbt : b = true := by
        rw [Hb.out]; unfold lnksB
        rw [List.all_eq_true]
        exact fun j hj => hall.out j (List.mem_range.1 hj)
      subst hbt
      go_wp2_with fail
      go_ret
      exact ⟨rfl, HB4.out⟩
theorem sSurfV {m : Nat} {l : List Nat} (hC : Cpx m l) (a : Option Addr) (n c : Nat) (w : World) (h : IntsAt w a n (up l)) :
    Calls Tryz.prog 75 #[.agg #[.int .i64 m, .slice a n c]] w fun e w' => e = .returned (.bool (srfB m l)) ∧ Below w.heap.size w w' := by
  by_cases hk : topL l = 4 ∧ clB l = true ∧ chB l = true
  · have e : srfB m l = lnksB m l := by unfold srfB; simp [hk.1, hk.2.1, hk.2.2]
    rw [e]; exact sSurf_yes hC a n c w h hk.1 hk.2.1 hk.2.2
  · have e : srfB m l = false := by
      unfold srfB
      by_cases h1 : topL l = 4
      · by_cases h2 : clB l = true
        · have h3 : ¬ chB l = true := fun h3 => hk ⟨h1, h2, h3⟩
          simp [h3]
        · simp [h2]
      · simp [h1]
    rw [e]
    refine specSurf_stop m a n c _ _ (clB l) (chB l) w h (fun W hW => sDimV hC a n c W hW) (fun W hW => sClosedV hC a n c W hW) (fun W hW => sChainedV hC a n c W hW) ?_
    by_cases h1 : topL l = 4
    · by_cases h2 : clB l = true
      · have h3 : ¬ chB l = true := fun h3 => hk ⟨h1, h2, h3⟩
        exact .inr (.inr (by simpa using h3))
      · exact .inr (.inl (by simpa using h2))
    · exact .inl (by omega)
theorem sSurfN {p : Int} {xs : List Int} (hno : ¬ Anti p xs) (a : Option Addr) (n c : Nat) (w : World) (h : IntsAt w a n xs) : Calls Tryz.prog 75 #[.agg #[.int .i64 p, .slice a n c]] w fun e w' => e = .returned (.bool false) ∧ Below w.heap.size w w' :=
  specSurf_stop p a n c xs (-2) false false w h (fun W hW => sDimN hno a n c W hW) (fun W hW => sClosedN hno a n c W hW) (fun W hW => sChainedN hno a n c W hW) (.inl (by omega))
end Go.Proofs.YtihfhfihladlcaaGreatDoor

/- IsSurface of the program. -/
namespace Go.Proofs.YtihfhfihladlcaaGreatDoor
set_option maxRecDepth 20000
open Go.RowKit
set_option linter.unusedSimpArgs false
set_option linter.unusedVariables false

set_option maxHeartbeats 2000000 in
theorem iSurf_yes {m : Nat} {l : List Nat} (hC : Cpx m l) (a : Option Addr) (n c : Nat) (w : World) (h : IntsAt w a n (up l)) (hcap : n ≤ c) (hT : topL l = 4) (h1 : clB l = true) (h2 : chB l = true) :
    Calls Tryz.prog 74 #[.agg #[.int .i64 m, .slice a n c]] w fun e w' => e = .returned (.bool (lnksB m l)) ∧ Below w.heap.size w w' := by
  obtain ⟨b, hb⟩ : ∃ b, b = lnksB m l := ⟨_, rfl⟩
  rw [lnks_pts hC] at hb
  have Hb := Lib.hid hb
  rw [lnks_pts hC, ← hb]
  obtain ⟨w0, hw0⟩ : ∃ w0, w0 = w.alloc (.cells #[.int .i64 m, .slice a n c] 32) := ⟨_, rfl⟩
  have HB0 : Hid (Below w.heap.size w w0) := Lib.hid (by rw [hw0]; exact (by repeat (first | exact Below.refl _ _ | assumption | refine Below.setCell ?_ (by first | omega | (simp; done) | (simp; omega)) _ | refine Below.alloc ?_ (by first | omega | (simp; done) | (simp; omega)) _ | apply Below.drew)))
  have X0 : Hid (BoxF w0 w.heap.size (.int .i64 m) (.slice a n c)) := Lib.hid (by rw [hw0]; exact BoxF.new _ _ _ _)
  have Hx0 : Hid (IntsAt w0 a n (up l)) := Lib.hid (h.keep HB0.out)
  have hn64 := (hC.at h).2
  have hm6 := hC.six
  have HD : Hid (∀ W, IntsAt W a n (up l) → Calls Tryz.prog 146 #[.agg #[.int .i64 m, .slice a n c]] W fun e w' => e = .returned (.int .i64 2) ∧ Below W.heap.size W w') := Lib.hid fun W hW => by have := iDimV hC a n c W hW hcap; rwa [hT] at this
  have H1 : Hid (∀ W, IntsAt W a n (up l) → Calls Tryz.prog 72 #[.agg #[.int .i64 m, .slice a n c]] W fun e w' => e = .returned (.bool true) ∧ Below W.heap.size W w') := Lib.hid fun W hW => by have := iClosedV hC a n c W hW hcap; rwa [h1] at this
  have H2 : Hid (∀ W, IntsAt W a n (up l) → Calls Tryz.prog 70 #[.agg #[.int .i64 m, .slice a n c]] W fun e w' => e = .returned (.bool true) ∧ Below W.heap.size W w') := Lib.hid fun W hW => by have := iChainedV hC a n c W hW hcap; rwa [h2] at this
  have HI : Hid (∀ W, IntsAt W a n (up l) → Calls Tryz.prog 86 #[.agg #[.int .i64 m, .slice a n c]] W fun e w' => e = .returned (.bool true) ∧ Below W.heap.size W w') := Lib.hid fun W hW => iIsComplex_any m a n c _ W hW hcap true (by simp [hC.anti])
  have HUs : Hid (∀ W, IntsAt W a n (up l) → Calls Tryz.prog 154 #[.agg #[.int .i64 m, .slice a n c]] W fun e w' => e = .returned (.int .i64 (usedN l)) ∧ Below W.heap.size W w') := Lib.hid fun W hW => iUsed_yes m a n c l W hW hC.lt64 HI.out
  have HPt : Hid (∀ W, Calls Tryz.prog 117 #[.int .i64 (usedN l)] W (RetInts W (up (pts (usedN l))))) := Lib.hid fun W => PointsOf_any _ W (usedN_lt hC.lt64)
  have hused : ∀ i ∈ pts (usedN l), i < 6 ∧ 2 ^ i < 2 ^ m := fun i hi => by
    have hi' := mem_pts.1 hi
    have hb := hi'.2
    rw [usedN_bit, List.any_eq_true] at hb
    obtain ⟨f, hf, hfi⟩ := hb
    refine ⟨hi'.1, Nat.pow_lt_pow_right (by omega) ?_⟩
    rcases Nat.lt_or_ge i m with h | h
    · exact h
    · have := Nat.testBit_lt_two_pow (Nat.lt_of_lt_of_le (hC.lt f hf) (Nat.pow_le_pow_right (by omega) h))
      rw [this] at hfi; cases hfi
  have Hused := Lib.hid hused
  have HLk : Hid (∀ i, i ∈ pts (usedN l) → ∀ W, IntsAt W a n (up l) → Calls Tryz.prog 155 #[.agg #[.int .i64 m, .slice a n c], .int .i64 ((2 : Int) ^ i)] W (RetBox2 W m (up (lnk l i)) true)) := Lib.hid fun i hi W hW => by
    have := iLink_yes m a n c l (2 ^ i) W hW hC.lt64 (bit_lt64 (hused i hi).1) (by
      unfold isSetB
      rw [decide_eq_true_eq]
      refine ⟨by omega, by omega, Int.natCast_nonneg _, ?_⟩
      rw [Int.toNat_natCast]
      have := (hused i hi).2
      exact_mod_cast this) HI.out
    rwa [pow_cast] at this
  have HCh : Hid (∀ i a n c W, IntsAt W a n (up (lnk l i)) → n ≤ c → Calls Tryz.prog 70 #[.agg #[.int .i64 m, .slice a n c]] W fun e w' => e = .returned (.bool (chB (lnk l i))) ∧ Below W.heap.size W w') := Lib.hid fun i a n c W hW hcc => iChainedV (lnk_cpx hC i) a n c W hW hcc
  have HCl : Hid (∀ i a n c W, IntsAt W a n (up (lnk l i)) → n ≤ c → Calls Tryz.prog 72 #[.agg #[.int .i64 m, .slice a n c]] W fun e w' => e = .returned (.bool (clB (lnk l i))) ∧ Below W.heap.size W w') := Lib.hid fun i a n c W hW hcc => iClosedV (lnk_cpx hC i) a n c W hW hcc
  have HW0 := Lib.hid hw0
  clear h hw0 hT h1 h2 hC hb
  go_enter Tryz.func74, Tryz.ntmps74
  go_wp2_with fail
  rw [← HW0.out]
  refine (HD.out _ Hx0.out).mono ?_
  rintro e w1 ⟨rfl, hb1⟩
  have HB1 := Lib.hid (HB0.out.trans (hb1.mono HB0.out.size))
  have X1 := Lib.hid (X0.out.keep hb1 X0.out.lt)
  have Hx1 := Lib.hid (Hx0.out.keep hb1)
  clear hb1
  obtain ⟨p0, p1, _, _, _⟩ := X1.out
  go_wp2_with fail
  refine (H1.out _ Hx1.out).mono ?_
  rintro e w2 ⟨rfl, hb2⟩
  have HB2 := Lib.hid (HB1.out.trans (hb2.mono HB1.out.size))
  have X2 := Lib.hid (X1.out.keep hb2 X1.out.lt)
  have Hx2 := Lib.hid (Hx1.out.keep hb2)
  clear hb2 p0 p1
  obtain ⟨p0, p1, _, _, _⟩ := X2.out
  go_wp2_with fail
  refine (H2.out _ Hx2.out).mono ?_
  rintro e w3 ⟨rfl, hb3⟩
  have HB3 := Lib.hid (HB2.out.trans (hb3.mono HB2.out.size))
  have X3 := Lib.hid (X2.out.keep hb3 X2.out.lt)
  have Hx3 := Lib.hid (Hx2.out.keep hb3)
  clear hb3 p0 p1
  obtain ⟨p0, p1, _, _, _⟩ := X3.out
  obtain ⟨Q, hQ⟩ : ∃ Q, Q = pts (usedN l) := ⟨_, rfl⟩
  obtain ⟨u, hu⟩ : ∃ u, u = usedN l := ⟨_, rfl⟩
  have hQ6 : Q.length ≤ 6 := by
    rw [hQ]; unfold pts
    exact Nat.le_trans (List.length_filter_le _ _) (by simp)
  rw [← hQ] at HPt HLk Hused Hb
  rw [← hu] at HUs HPt
  have HQ6 := Lib.hid hQ6
  clear hQ hu hQ6 hused
  go_wp2_with fail
  refine (HUs.out _ Hx3.out).mono ?_
  rintro e w4 ⟨rfl, hb4⟩
  have HB4 := Lib.hid (HB3.out.trans (hb4.mono HB3.out.size))
  have X4 := Lib.hid (X3.out.keep hb4 X3.out.lt)
  have Hx4 := Lib.hid (Hx3.out.keep hb4)
  clear hb4
  go_wp2_with fail
  refine (HPt.out _).mono ?_
  rintro e w5 ⟨aQ, nQ, cQ, rfl, ownQ, hb5⟩
  have HB5 := Lib.hid (HB4.out.trans (hb5.mono HB4.out.size))
  have X5 := Lib.hid (X4.out.keep hb5 X4.out.lt)
  have Hx5 := Lib.hid (Hx4.out.keep hb5)
  have HOQ := Lib.hid ownQ.reads
  have HQl : Hid (Q.length = nQ) := Lib.hid (by have := ownQ.len; rwa [up_len] at this)
  have hnQ : nQ ≤ 6 := by have := HQl.out; have := HQ6.out; omega
  clear hb5 ownQ p0 p1
  go_wp2_with fail
  go_loopw [4, 6, 24] (fun _ _ k wr => ∃ I : Nat, I ≤ nQ ∧ k = .int .i64 I ∧ Below w5.heap.size w5 wr ∧ Hid (∀ j, j < I → lnkB l (nthN Q j) = true)) (fun _ _ k _ => nQ - (intOf k).toNat)
  case atStart => exact ⟨0, Nat.zero_le _, rfl, Below.refl _ _, Lib.hid fun j hj => absurd hj (Nat.not_lt_zero _)⟩
  case round =>
    obtain ⟨I, hI, rfl, hbl, hall⟩ := hrel
    have HBw := Lib.hid (HB5.out.trans (hbl.mono HB5.out.size))
    have X6 := Lib.hid (X5.out.keep hbl X5.out.lt)
    have Hx6 := Lib.hid (Hx5.out.keep hbl)
    have HOr := Lib.hid (HOQ.out.keep hbl)
    have HBr := Lib.hid hbl
    clear hbl
    obtain ⟨p0, p1, _, _, _⟩ := X6.out
    by_cases hlt : I < nQ
    · obtain ⟨b1, o1, rfl, hc1⟩ := HOr.out.cells (by omega)
      have hx := hc1 I hlt
      rw [nth_up] at hx
      have hmem : nthN Q I ∈ Q := nthN_mem2 (by rw [HQl.out]; exact hlt)
      have hnext : lnkB l (nthN Q I) = true → Hid (∀ j, j < I + 1 → lnkB l (nthN Q j) = true) := fun hh => Lib.hid fun j hj => by
        rcases Nat.lt_or_ge j I with h | h
        · exact hall.out j h
        · obtain rfl : j = I := by omega
          exact hh
      have hfalse : lnkB l (nthN Q I) = false → b = false := fun hh => by
        rw [Hb.out, List.all_eq_false]
        exact ⟨_, hmem, by rw [hh]; simp⟩
      obtain ⟨v, hv⟩ : ∃ v, v = nthN Q I := ⟨_, rfl⟩
      rw [← hv] at hx hmem hnext hfalse
      have hv6 : v < 6 := (Hused.out v hmem).1
      have hsh := shl_small hv6
      have Hmem := Lib.hid hmem
      have Hnext := Lib.hid hnext; have Hfalse := Lib.hid hfalse; have Hlt := Lib.hid hlt
      have hI0 : (0 : Int) ≤ I := by omega
      have hIn : (I : Int) < nQ := by omega
      clear hnext hfalse hc1 hv hmem
      go_wp2_with fail
      refine (HLk.out v Hmem.out _ Hx6.out).mono ?_
      rintro e w6 ⟨a6, n6, c6, rfl, own6, hb6⟩
      have HB6 := Lib.hid (HBr.out.trans (hb6.mono HBr.out.size))
      have HBw6 := Lib.hid (HBw.out.trans (hb6.mono HBw.out.size))
      have HO6 := Lib.hid own6.reads
      have hc6 : n6 ≤ c6 := own6.cap
      clear hb6 own6 p0 p1 hx
      obtain ⟨W7, hW7⟩ : ∃ W, W = w6.alloc (.cells #[.int .i64 m, .slice a6 n6 c6] 32) := ⟨_, rfl⟩
      obtain ⟨G, hG⟩ : ∃ G, G = w6.heap.size := ⟨_, rfl⟩
      have hb7 : Below w6.heap.size w6 W7 := by rw [hW7]; exact (by repeat (first | exact Below.refl _ _ | assumption | refine Below.setCell ?_ (by first | omega | (simp; done) | (simp; omega)) _ | refine Below.alloc ?_ (by first | omega | (simp; done) | (simp; omega)) _ | apply Below.drew))
      have X7 : Hid (BoxF W7 G (.int .i64 m) (.slice a6 n6 c6)) := Lib.hid (by rw [hW7, hG]; exact BoxF.new _ _ _ _)
      have HB7 := Lib.hid (HB6.out.trans (hb7.mono HB6.out.size))
      have HBw7 := Lib.hid (HBw6.out.trans (hb7.mono HBw6.out.size))
      have HO7 := Lib.hid (HO6.out.keep hb7)
      have HW7 := Lib.hid hW7; have HG := Lib.hid hG
      clear hb7 hW7 hG
      go_wp2_with fail
      rw [← HG.out, ← HW7.out]
      refine (HCh.out v a6 n6 c6 _ HO7.out hc6).mono ?_
      rintro e w8 ⟨rfl, hb8⟩
      have HB8 := Lib.hid (HB7.out.trans (hb8.mono HB7.out.size))
      have HBw8 := Lib.hid (HBw7.out.trans (hb8.mono HBw7.out.size))
      have HO8 := Lib.hid (HO7.out.keep hb8)
      have X8 := Lib.hid (X7.out.keep hb8 X7.out.lt)
      clear hb8
      obtain ⟨r0, r1, _, _, _⟩ := X8.out
      cases hc1 : chB (lnk l v)
      · have hbf := Hfalse.out (by unfold lnkB; rw [hc1]; rfl)
        subst hbf
        clear hc1
        go_wp2_with fail
        go_ret
        exact ⟨rfl, HBw8.out⟩
      · have Hc1 := Lib.hid hc1
        clear hc1
        go_wp2_with fail
        refine (HCl.out v a6 n6 c6 _ HO8.out hc6).mono ?_
        rintro e w9 ⟨rfl, hb9⟩
        have HB9 := Lib.hid (HB8.out.trans (hb9.mono HB8.out.size))
        have HBw9 := Lib.hid (HBw8.out.trans (hb9.mono HBw8.out.size))
        clear hb9
        cases hc2 : clB (lnk l v)
        · have hbf := Hfalse.out (by unfold lnkB; rw [Hc1.out, hc2]; rfl)
          subst hbf
          clear hc2
          go_wp2_with fail
          go_ret
          exact ⟨rfl, HBw9.out⟩
        · have Hn := Hnext.out (by unfold lnkB; rw [Hc1.out, hc2]; rfl)
          clear hc2
          go_wp2_with fail
          go_roundw
          case rel => exact ⟨I + 1, Hlt.out, by go_num, HB9.out, Hn⟩
          case measure => have := Hlt.out; simp [intOf]; omega
    · obtain rfl : I = nQ := by omega
      have hII : ¬ ((I : Int) < I) := by omega
      have hbt : b = true := by
        rw [Hb.out, List.all_eq_true]
        intro x hx
        obtain ⟨j, hj, rfl⟩ := List.getElem_of_mem hx
        rw [← nthN_at2 hj]
        exact hall.out j (by rw [← HQl.out]; exact hj)
      subst hbt
      go_wp2_with fail
      go_ret
      exact ⟨rfl, HBw.out⟩
theorem iSurfV {m : Nat} {l : List Nat} (hC : Cpx m l) (a : Option Addr) (n c : Nat) (w : World) (h : IntsAt w a n (up l)) (hcap : n ≤ c) :
    Calls Tryz.prog 74 #[.agg #[.int .i64 m, .slice a n c]] w fun e w' => e = .returned (.bool (srfB m l)) ∧ Below w.heap.size w w' := by
  by_cases hk : topL l = 4 ∧ clB l = true ∧ chB l = true
  · have e : srfB m l = lnksB m l := by unfold srfB; simp [hk.1, hk.2.1, hk.2.2]
    rw [e]; exact iSurf_yes hC a n c w h hcap hk.1 hk.2.1 hk.2.2
  · have e : srfB m l = false := by
      unfold srfB
      by_cases h1 : topL l = 4
      · by_cases h2 : clB l = true
        · have h3 : ¬ chB l = true := fun h3 => hk ⟨h1, h2, h3⟩
          simp [h3]
        · simp [h2]
      · simp [h1]
    rw [e]
    refine implSurf_stop m a n c _ _ (clB l) (chB l) w h (fun W hW => iDimV hC a n c W hW hcap) (fun W hW => iClosedV hC a n c W hW hcap) (fun W hW => iChainedV hC a n c W hW hcap) ?_
    by_cases h1 : topL l = 4
    · by_cases h2 : clB l = true
      · have h3 : ¬ chB l = true := fun h3 => hk ⟨h1, h2, h3⟩
        exact .inr (.inr (by simpa using h3))
      · exact .inr (.inl (by simpa using h2))
    · exact .inl (by omega)
theorem iSurfN {p : Int} {xs : List Int} (hno : ¬ Anti p xs) (a : Option Addr) (n c : Nat) (w : World) (h : IntsAt w a n xs) (hcap : n ≤ c) : Calls Tryz.prog 74 #[.agg #[.int .i64 p, .slice a n c]] w fun e w' => e = .returned (.bool false) ∧ Below w.heap.size w w' :=
  implSurf_stop p a n c xs (-2) false false w h (fun W hW => iDimN hno a n c W hW hcap) (fun W hW => iClosedN hno a n c W hW hcap) (fun W hW => iChainedN hno a n c W hW hcap) (.inl (by omega))
end Go.Proofs.YtihfhfihladlcaaGreatDoor

/- Texts of this claim, one behind the other: what each says stands at its head. -/
import Derived.Deep.RegionHeld3
import Derived.Test.YtihfhfihladlcaaGreatDoorBase
import Derived.Test.YtihfhfihladlcaaGreatDoorIdeal
import Derived.Test.YtihfhfihladlcaaGreatDoorPick
/- Contracts on ideals and complexes made of families of sets. -/
namespace Go.Proofs.YtihfhfihladlcaaGreatDoor
set_option maxRecDepth 20000
open Go.RowKit
set_option linter.unusedSimpArgs false
set_option linter.unusedVariables false

theorem complexOf_any (p : Int) (F : Nat) (w : World) (hF : Fam F) :
    Calls Tryz.prog 120 #[.int .i64 p, .int .u64 F] w (RetBox w p (up (maxL F.testBit))) := by
  go_enter Tryz.func120, Tryz.ntmps120
  go_wp2_with fail
  refine (maximalIn_any F _ hF).mono ?_
  rintro e w1 ⟨ad, m, d, rfl, hown, hb⟩
  obtain ⟨hc, hf⟩ := bcell hb
  have hz : w.heap.size + 1 ≤ w1.heap.size := by have := hb.size; simp at this; omega
  have hbl : Below w.heap.size w w1 := Below.trans (by repeat (first | exact Below.refl _ _ | assumption | refine Below.setCell ?_ (by first | omega | (simp; done) | (simp; omega)) _ | refine Below.alloc ?_ (by first | omega | (simp; done) | (simp; omega)) _ | apply Below.drew)) (hb.mono (by simp))
  have ho : Own 3 w1 (w.heap.size + 1) ad m d _ := hown.mono (by simp)
  go_wp2_with fail
  refine bodyPost_ret (v := .agg #[.int .i64 p, .slice ad m d]) (by simp [results, Tryz.results120, go_sem, hc, hz]) rfl ⟨ad, m, d, rfl, ?_, (by repeat (first | exact Below.refl _ _ | assumption | refine Below.setCell ?_ (by first | omega | (simp; done) | (simp; omega)) _ | refine Below.alloc ?_ (by first | omega | (simp; done) | (simp; omega)) _ | apply Below.drew))⟩
  exact ((ho.setBelow _ (by omega)).setBelow _ (by omega)).mono (by omega)
theorem idealOfSets_any (p : Int) (F : Nat) (w : World) (hF : Fam F) :
    Calls Tryz.prog 80 #[.int .i64 p, .int .u64 F] w (RetBox w p (up (minL F.testBit))) := by
  go_enter Tryz.func80, Tryz.ntmps80
  go_wp2_with fail
  refine (minimalIn_any F _ hF).mono ?_
  rintro e w1 ⟨ad, m, d, rfl, hown, hb⟩
  obtain ⟨hc, hf⟩ := bcell hb
  have hz : w.heap.size + 1 ≤ w1.heap.size := by have := hb.size; simp at this; omega
  have hbl : Below w.heap.size w w1 := Below.trans (by repeat (first | exact Below.refl _ _ | assumption | refine Below.setCell ?_ (by first | omega | (simp; done) | (simp; omega)) _ | refine Below.alloc ?_ (by first | omega | (simp; done) | (simp; omega)) _ | apply Below.drew)) (hb.mono (by simp))
  have ho : Own 3 w1 (w.heap.size + 1) ad m d _ := hown.mono (by simp)
  go_wp2_with fail
  refine bodyPost_ret (v := .agg #[.int .i64 p, .slice ad m d]) (by simp [results, Tryz.results80, go_sem, hc, hz]) rfl ⟨ad, m, d, rfl, ?_, (by repeat (first | exact Below.refl _ _ | assumption | refine Below.setCell ?_ (by first | omega | (simp; done) | (simp; omega)) _ | refine Below.alloc ?_ (by first | omega | (simp; done) | (simp; omega)) _ | apply Below.drew))⟩
  exact ((ho.setBelow _ (by omega)).setBelow _ (by omega)).mono (by omega)

/-- what lies in an ideal -/
def inN (l : List Nat) (N : Nat) : Nat := pickN (fun s => l.any (sub · s)) N
theorem inN_Fam (l : List Nat) (N : Nat) : Fam (inN l N) := by unfold inN pickN; exact fam_Fam _
theorem inN_bit {l : List Nat} {N s : Nat} (hs : s < 64) : (inN l N).testBit s = above l N s := by
  unfold inN pickN above; rw [fam_at hs]
theorem idealFn_any (p : Int) (g s : Nat) (a : Option Addr) (n c : Nat) (l : List Nat) (w : World) (hs : s < 64) (hb : BoxF w g (.int .i64 p) (.slice a n c)) (h : IntsAt w a n (up l)) (hl : ∀ t ∈ l, t < 64) :
    Calls Tryz.prog 164 #[.int .i64 s, .pointer (some ⟨g, 0, none⟩)] w fun e w' => e = .returned (.bool (l.any (sub · s))) ∧ w = w' := by
  obtain ⟨c0, c1, _, _, _⟩ := hb
  obtain ⟨b, hb⟩ : ∃ b, b = l.any (sub · s) := ⟨_, rfl⟩
  have Hb := Lib.hid hb.symm
  rw [← hb]
  have Hh := Lib.hid h; have Hl := Lib.hid hl
  clear hb h hl
  go_enter Tryz.func164, Tryz.ntmps164
  go_wp2_with (go_at_call 96; (with_reducible refine (iAvoids_any s a n c l _ Hh.out hs Hl.out b Hb.out).mono ?_); rintro e w' ⟨rfl, rfl⟩)
  go_ret
  exact ⟨ret_bool (by simp), rfl⟩
set_option maxRecDepth 100000 in
theorem idealIn_any (m : Nat) (a : Option Addr) (n c : Nat) (l : List Nat) (w : World) (h : IntsAt w a n (up l)) (hm : m ≤ 6) (hl : ∀ t ∈ l, t < 64) :
    Calls Tryz.prog 81 #[.agg #[.int .i64 m, .slice a n c]] w fun e w' => e = .returned (.int .u64 (inN l (2 ^ m))) ∧ Below w.heap.size w w' := by
  have hx : IntsAt (w.alloc (.cells #[.int .i64 m, .slice a n c] 26)) a n (up l) := h.keep (by repeat (first | exact Below.refl _ _ | assumption | refine Below.setCell ?_ (by first | omega | (simp; done) | (simp; omega)) _ | refine Below.alloc ?_ (by first | omega | (simp; done) | (simp; omega)) _ | apply Below.drew))
  have Hx := Lib.hid hx; have Hl := Lib.hid hl
  have Hbx := Lib.hid (BoxF.new w (.int .i64 m) (.slice a n c) 26)
  clear h hx hl
  go_enter Tryz.func81, Tryz.ntmps81
  go_wp2_with fail
  refine (pickSets_any 164 #[.pointer (some ⟨w.heap.size, 0, none⟩)] (fun s => l.any (sub · s)) m _ hm (fun _ _ => rfl) (fun s hs => idealFn_any m w.heap.size s a n c l _ hs Hbx.out Hx.out Hl.out)).mono ?_
  rintro e we ⟨rfl, rfl⟩
  go_wp2_with fail
  go_ret
  exact ⟨rfl, (by repeat (first | exact Below.refl _ _ | assumption | refine Below.setCell ?_ (by first | omega | (simp; done) | (simp; omega)) _ | refine Below.alloc ?_ (by first | omega | (simp; done) | (simp; omega)) _ | apply Below.drew))⟩
end Go.Proofs.YtihfhfihladlcaaGreatDoor

/- Contracts on two ideals: l29Two. -/
namespace Go.Proofs.YtihfhfihladlcaaGreatDoor
set_option maxRecDepth 20000
open Go.RowKit
set_option linter.unusedSimpArgs false
set_option linter.unusedVariables false

/-- two ideals on the same points -/
def TwoP (p : Int) (xs : List Int) (q : Int) (ys : List Int) : Prop := Anti p xs ∧ Anti q ys ∧ p = q
theorem two_ways {p : Int} {xs : List Int} {q : Int} {ys : List Int} {b : Bool} (hb : b = true ↔ TwoP p xs q ys) :
    (¬ Anti p xs ∧ b = false) ∨ (Anti p xs ∧ ¬ Anti q ys ∧ b = false) ∨ (Anti p xs ∧ Anti q ys ∧ (p == q) = b) := by
  by_cases h1 : Anti p xs
  · by_cases h2 : Anti q ys
    · refine .inr (.inr ⟨h1, h2, ?_⟩)
      rw [Bool.eq_iff_iff, hb, beq_iff_eq]
      exact ⟨fun h => ⟨h1, h2, h⟩, fun h => h.2.2⟩
    · refine .inr (.inl ⟨h1, h2, ?_⟩)
      cases b
      · rfl
      · exact absurd (hb.1 rfl).2.1 h2
  · refine .inl ⟨h1, ?_⟩
    cases b
    · rfl
    · exact absurd (hb.1 rfl).1 h1

set_option maxHeartbeats 1000000 in
theorem l29Two_any (p : Int) (a : Option Addr) (n c : Nat) (xs : List Int) (q : Int) (a' : Option Addr) (n' c' : Nat) (ys : List Int) (w : World) (h : IntsAt w a n xs) (h' : IntsAt w a' n' ys) (b : Bool) (hb : b = true ↔ TwoP p xs q ys) :
    Calls Tryz.prog 82 #[.agg #[.int .i64 p, .slice a n c], .agg #[.int .i64 q, .slice a' n' c']] w fun e w' => e = .returned (.bool b) ∧ Below w.heap.size w w' := by
  have hx : IntsAt ((w.alloc (.cells #[.int .i64 p, .slice a n c] 26)).alloc (.cells #[.int .i64 q, .slice a' n' c'] 26)) a n xs := h.keep (by repeat (first | exact Below.refl _ _ | assumption | refine Below.setCell ?_ (by first | omega | (simp; done) | (simp; omega)) _ | refine Below.alloc ?_ (by first | omega | (simp; done) | (simp; omega)) _ | apply Below.drew))
  have hy : IntsAt ((w.alloc (.cells #[.int .i64 p, .slice a n c] 26)).alloc (.cells #[.int .i64 q, .slice a' n' c'] 26)) a' n' ys := h'.keep (by repeat (first | exact Below.refl _ _ | assumption | refine Below.setCell ?_ (by first | omega | (simp; done) | (simp; omega)) _ | refine Below.alloc ?_ (by first | omega | (simp; done) | (simp; omega)) _ | apply Below.drew))
  have Hx := Lib.hid hx; have Hy := Lib.hid hy
  clear hx hy h h'
  rcases two_ways hb with ⟨h1, rfl⟩ | ⟨h1, h2, rfl⟩ | ⟨h1, h2, hpq⟩
  · have H1 := Lib.hid h1; clear h1 hb
    go_enter Tryz.func82, Tryz.ntmps82
    go_wp2_with fail
    refine (sIsIdeal_any p a n c xs _ Hx.out false (by simp [H1.out])).mono ?_
    rintro e w1 ⟨rfl, hb⟩
    have HB : Hid (Below w.heap.size w w1) := Lib.hid (Below.trans (by repeat (first | exact Below.refl _ _ | assumption | refine Below.setCell ?_ (by first | omega | (simp; done) | (simp; omega)) _ | refine Below.alloc ?_ (by first | omega | (simp; done) | (simp; omega)) _ | apply Below.drew)) (hb.mono (by simp <;> omega)))
    clear hb
    go_wp2_with fail
    go_ret
    exact ⟨rfl, HB.out⟩
  · have H1 := Lib.hid h1; have H2 := Lib.hid h2; clear h1 h2 hb
    go_enter Tryz.func82, Tryz.ntmps82
    go_wp2_with fail
    refine (sIsIdeal_any p a n c xs _ Hx.out true (by simp [H1.out])).mono ?_
    rintro e w1 ⟨rfl, hb⟩
    obtain ⟨hc, hf⟩ := bcell hb
    have hz : w.heap.size + 2 ≤ w1.heap.size := by have := hb.size; simp at this; omega
    have Hy1 := Lib.hid (Hy.out.keep hb)
    have HB : Hid (Below w.heap.size w w1) := Lib.hid (Below.trans (by repeat (first | exact Below.refl _ _ | assumption | refine Below.setCell ?_ (by first | omega | (simp; done) | (simp; omega)) _ | refine Below.alloc ?_ (by first | omega | (simp; done) | (simp; omega)) _ | apply Below.drew)) (hb.mono (by simp <;> omega)))
    clear hb
    go_wp2_with fail
    refine (sIsIdeal_any q a' n' c' ys _ Hy1.out false (by simp [H2.out])).mono ?_
    rintro e w2 ⟨rfl, hb⟩
    have HB2 : Hid (Below w.heap.size w w2) := Lib.hid (HB.out.trans (hb.mono HB.out.size))
    clear hb
    go_wp2_with fail
    go_ret
    exact ⟨rfl, HB2.out⟩
  · have H1 := Lib.hid h1; have H2 := Lib.hid h2; clear h1 h2 hb
    go_enter Tryz.func82, Tryz.ntmps82
    go_wp2_with fail
    refine (sIsIdeal_any p a n c xs _ Hx.out true (by simp [H1.out])).mono ?_
    rintro e w1 ⟨rfl, hb⟩
    have xA := ((BoxF.new w (.int .i64 p) (.slice a n c) 26).alloc (.cells #[.int .i64 q, .slice a' n' c'] 26)).keep hb (by simp; omega)
    have xB := (BoxF.new (w.alloc (.cells #[.int .i64 p, .slice a n c] 26)) (.int .i64 q) (.slice a' n' c') 26).keep hb (by simp)
    have eB : (w.alloc (.cells #[.int .i64 p, .slice a n c] 26)).heap.size = w.heap.size + 1 := by simp
    rw [eB] at xB
    have XA := Lib.hid xA; have XB := Lib.hid xB
    have hz : w.heap.size + 2 ≤ w1.heap.size := by have := hb.size; simp at this; omega
    have Hy1 := Lib.hid (Hy.out.keep hb)
    have HB : Hid (Below w.heap.size w w1) := Lib.hid (Below.trans (by repeat (first | exact Below.refl _ _ | assumption | refine Below.setCell ?_ (by first | omega | (simp; done) | (simp; omega)) _ | refine Below.alloc ?_ (by first | omega | (simp; done) | (simp; omega)) _ | apply Below.drew)) (hb.mono (by simp <;> omega)))
    obtain ⟨a0, a1, _, _, _⟩ := xA
    obtain ⟨b0, b1, _, _, _⟩ := xB
    clear hb eB
    go_wp2_with fail
    refine (sIsIdeal_any q a' n' c' ys _ Hy1.out true (by simp [H2.out])).mono ?_
    rintro e w2 ⟨rfl, hb⟩
    have HB2 : Hid (Below w.heap.size w w2) := Lib.hid (HB.out.trans (hb.mono HB.out.size))
    obtain ⟨p0, p1, _, _, _⟩ := XA.out.keep hb (by omega)
    obtain ⟨q0, q1, _, _, _⟩ := XB.out.keep hb (by omega)
    clear hb a0 a1 b0 b1
    cases b
    · go_wp2_with fail
      go_ret
      exact ⟨rfl, HB2.out⟩
    · go_wp2_with fail
      go_ret
      exact ⟨rfl, HB2.out⟩
end Go.Proofs.YtihfhfihladlcaaGreatDoor

/- Contracts of SumIdeals and MeetIdeals, the program's. -/
namespace Go.Proofs.YtihfhfihladlcaaGreatDoor
set_option maxRecDepth 20000
open Go.RowKit
set_option linter.unusedSimpArgs false
set_option linter.unusedVariables false

theorem two_no {p : Int} {xs : List Int} {q : Int} {ys : List Int} (h : ¬ TwoP p xs q ys) :
    ¬ Anti p xs ∨ (Anti p xs ∧ ¬ Anti q ys) ∨ (Anti p xs ∧ Anti q ys ∧ p ≠ q) := by
  by_cases h1 : Anti p xs
  · by_cases h2 : Anti q ys
    · exact .inr (.inr ⟨h1, h2, fun e => h ⟨h1, h2, e⟩⟩)
    · exact .inr (.inl ⟨h1, h2⟩)
  · exact .inl h1

set_option maxHeartbeats 1000000 in
theorem iSumIdeals_no (p : Int) (a : Option Addr) (n c : Nat) (xs : List Int) (q : Int) (a' : Option Addr) (n' c' : Nat) (ys : List Int) (w : World) (h : IntsAt w a n xs) (h' : IntsAt w a' n' ys) (hf : Fit a n c) (hf' : Fit a' n' c') (hno : ¬ TwoP p xs q ys) :
    Calls Tryz.prog 9 #[.agg #[.int .i64 p, .slice a n c], .agg #[.int .i64 q, .slice a' n' c']] w (RetBox2 w 0 [] false) := by
  have hx : IntsAt (((w.alloc (.cells #[.int .i64 p, .slice a n c] 26)).alloc (.cells #[.int .i64 q, .slice a' n' c'] 26)).alloc (.cells #[.int .i64 0, .slice none 0 0] 26)) a n xs := h.keep (by repeat (first | exact Below.refl _ _ | assumption | refine Below.setCell ?_ (by first | omega | (simp; done) | (simp; omega)) _ | refine Below.alloc ?_ (by first | omega | (simp; done) | (simp; omega)) _ | apply Below.drew))
  have hy : IntsAt (((w.alloc (.cells #[.int .i64 p, .slice a n c] 26)).alloc (.cells #[.int .i64 q, .slice a' n' c'] 26)).alloc (.cells #[.int .i64 0, .slice none 0 0] 26)) a' n' ys := h'.keep (by repeat (first | exact Below.refl _ _ | assumption | refine Below.setCell ?_ (by first | omega | (simp; done) | (simp; omega)) _ | refine Below.alloc ?_ (by first | omega | (simp; done) | (simp; omega)) _ | apply Below.drew))
  have Hx := Lib.hid hx; have Hy := Lib.hid hy
  have Hf := Lib.hid hf; have Hf' := Lib.hid hf'
  clear hx hy h h' hf hf'
  have e1 : (w.alloc (.cells #[.int .i64 p, .slice a n c] 26)).heap.size = w.heap.size + 1 := by simp
  have e2 : ((w.alloc (.cells #[.int .i64 p, .slice a n c] 26)).alloc (.cells #[.int .i64 q, .slice a' n' c'] 26)).heap.size = w.heap.size + 2 := by simp
  have xA := ((BoxF.new w (.int .i64 p) (.slice a n c) 26).alloc (.cells #[.int .i64 q, .slice a' n' c'] 26)).alloc (.cells #[.int .i64 0, .slice none 0 0] 26)
  have xB := (BoxF.new (w.alloc (.cells #[.int .i64 p, .slice a n c] 26)) (.int .i64 q) (.slice a' n' c') 26).alloc (.cells #[.int .i64 0, .slice none 0 0] 26)
  have xR := BoxF.new ((w.alloc (.cells #[.int .i64 p, .slice a n c] 26)).alloc (.cells #[.int .i64 q, .slice a' n' c'] 26)) (.int .i64 0) (.slice none 0 0) 26
  rw [e1] at xB
  rw [e2] at xR
  have XA := Lib.hid xA; have XB := Lib.hid xB; have XR := Lib.hid xR
  clear e1 e2 xA xB xR
  rcases two_no hno with h1 | ⟨h1, h2⟩ | ⟨h1, h2, hpq⟩
  · have H1 := Lib.hid h1; clear h1 hno
    go_enter Tryz.func9, Tryz.ntmps9
    go_wp2_with fail
    refine (iIsIdeal_any p a n c xs _ Hx.out Hf.out.cap false (by simp [H1.out])).mono ?_
    rintro e w1 ⟨rfl, hb⟩
    have HB : Hid (Below w.heap.size w w1) := Lib.hid (Below.trans (by repeat (first | exact Below.refl _ _ | assumption | refine Below.setCell ?_ (by first | omega | (simp; done) | (simp; omega)) _ | refine Below.alloc ?_ (by first | omega | (simp; done) | (simp; omega)) _ | apply Below.drew)) (hb.mono (by simp <;> omega)))
    obtain ⟨r0, r1, _, _, _⟩ := XR.out.keep hb (by simp)
    clear hb
    go_wp2_with fail
    refine bodyPost_ret (v := .tuple #[.agg #[.int .i64 0, .slice none 0 0], .bool false]) (by simp [results, Tryz.results9, go_sem, r0, r1]) rfl ⟨none, 0, 0, rfl, Own.nil _ _ _, ?_⟩
    exact (HB.out.setCell (by first | (simp; done) | (simp; omega)) _).setCell (by first | (simp; done) | (simp; omega)) _
  · have H1 := Lib.hid h1; have H2 := Lib.hid h2; clear h1 h2 hno
    obtain ⟨a0, a1, _, _, _⟩ := XA.out
    go_enter Tryz.func9, Tryz.ntmps9
    go_wp2_with fail
    refine (iIsIdeal_any p a n c xs _ Hx.out Hf.out.cap true (by simp [H1.out])).mono ?_
    rintro e w1 ⟨rfl, hb⟩
    have HB : Hid (Below w.heap.size w w1) := Lib.hid (Below.trans (by repeat (first | exact Below.refl _ _ | assumption | refine Below.setCell ?_ (by first | omega | (simp; done) | (simp; omega)) _ | refine Below.alloc ?_ (by first | omega | (simp; done) | (simp; omega)) _ | apply Below.drew)) (hb.mono (by simp <;> omega)))
    have XR1 := Lib.hid (XR.out.keep hb (by simp))
    have hz : w.heap.size + 3 ≤ w1.heap.size := by have := hb.size; simp at this; omega
    obtain ⟨b0, b1, _, _, _⟩ := XB.out.keep hb (by simp)
    have Hy1 := Lib.hid (Hy.out.keep hb)
    clear hb a0 a1
    go_wp2_with fail
    refine (iIsIdeal_any q a' n' c' ys _ Hy1.out Hf'.out.cap false (by simp [H2.out])).mono ?_
    rintro e w2 ⟨rfl, hb⟩
    have HB2 : Hid (Below w.heap.size w w2) := Lib.hid (HB.out.trans (hb.mono HB.out.size))
    obtain ⟨r0, r1, _, _, _⟩ := XR1.out.keep hb (by omega)
    clear hb b0 b1
    go_wp2_with fail
    refine bodyPost_ret (v := .tuple #[.agg #[.int .i64 0, .slice none 0 0], .bool false]) (by simp [results, Tryz.results9, go_sem, r0, r1]) rfl ⟨none, 0, 0, rfl, Own.nil _ _ _, ?_⟩
    exact (HB2.out.setCell (by first | (simp; done) | (simp; omega)) _).setCell (by first | (simp; done) | (simp; omega)) _
  · have H1 := Lib.hid h1; have H2 := Lib.hid h2; clear h1 h2 hno
    have hne : (p != q) = true := by simp [hpq]
    clear hpq
    go_enter Tryz.func9, Tryz.ntmps9
    go_wp2_with fail
    refine (iIsIdeal_any p a n c xs _ Hx.out Hf.out.cap true (by simp [H1.out])).mono ?_
    rintro e w1 ⟨rfl, hb⟩
    have HB : Hid (Below w.heap.size w w1) := Lib.hid (Below.trans (by repeat (first | exact Below.refl _ _ | assumption | refine Below.setCell ?_ (by first | omega | (simp; done) | (simp; omega)) _ | refine Below.alloc ?_ (by first | omega | (simp; done) | (simp; omega)) _ | apply Below.drew)) (hb.mono (by simp <;> omega)))
    have XR1 := Lib.hid (XR.out.keep hb (by simp))
    have XA1 := Lib.hid (XA.out.keep hb (by simp; omega))
    have XB1 := Lib.hid (XB.out.keep hb (by simp))
    have hz : w.heap.size + 3 ≤ w1.heap.size := by have := hb.size; simp at this; omega
    obtain ⟨b0, b1, _, _, _⟩ := XB1.out
    have Hy1 := Lib.hid (Hy.out.keep hb)
    clear hb
    go_wp2_with fail
    refine (iIsIdeal_any q a' n' c' ys _ Hy1.out Hf'.out.cap true (by simp [H2.out])).mono ?_
    rintro e w2 ⟨rfl, hb⟩
    have HB2 : Hid (Below w.heap.size w w2) := Lib.hid (HB.out.trans (hb.mono HB.out.size))
    obtain ⟨r0, r1, _, _, _⟩ := XR1.out.keep hb (by omega)
    obtain ⟨p0, p1, _, _, _⟩ := XA1.out.keep hb (by omega)
    obtain ⟨q0, q1, _, _, _⟩ := XB1.out.keep hb (by omega)
    clear hb b0 b1
    go_wp2_with fail
    refine bodyPost_ret (v := .tuple #[.agg #[.int .i64 0, .slice none 0 0], .bool false]) (by simp [results, Tryz.results9, go_sem, r0, r1]) rfl ⟨none, 0, 0, rfl, Own.nil _ _ _, ?_⟩
    exact (HB2.out.setCell (by first | (simp; done) | (simp; omega)) _).setCell (by first | (simp; done) | (simp; omega)) _
set_option maxHeartbeats 1000000 in
theorem iMeetIdeals_no (p : Int) (a : Option Addr) (n c : Nat) (xs : List Int) (q : Int) (a' : Option Addr) (n' c' : Nat) (ys : List Int) (w : World) (h : IntsAt w a n xs) (h' : IntsAt w a' n' ys) (hf : Fit a n c) (hf' : Fit a' n' c') (hno : ¬ TwoP p xs q ys) :
    Calls Tryz.prog 11 #[.agg #[.int .i64 p, .slice a n c], .agg #[.int .i64 q, .slice a' n' c']] w (RetBox2 w 0 [] false) := by
  have hx : IntsAt (((w.alloc (.cells #[.int .i64 p, .slice a n c] 26)).alloc (.cells #[.int .i64 q, .slice a' n' c'] 26)).alloc (.cells #[.int .i64 0, .slice none 0 0] 26)) a n xs := h.keep (by repeat (first | exact Below.refl _ _ | assumption | refine Below.setCell ?_ (by first | omega | (simp; done) | (simp; omega)) _ | refine Below.alloc ?_ (by first | omega | (simp; done) | (simp; omega)) _ | apply Below.drew))
  have hy : IntsAt (((w.alloc (.cells #[.int .i64 p, .slice a n c] 26)).alloc (.cells #[.int .i64 q, .slice a' n' c'] 26)).alloc (.cells #[.int .i64 0, .slice none 0 0] 26)) a' n' ys := h'.keep (by repeat (first | exact Below.refl _ _ | assumption | refine Below.setCell ?_ (by first | omega | (simp; done) | (simp; omega)) _ | refine Below.alloc ?_ (by first | omega | (simp; done) | (simp; omega)) _ | apply Below.drew))
  have Hx := Lib.hid hx; have Hy := Lib.hid hy
  have Hf := Lib.hid hf; have Hf' := Lib.hid hf'
  clear hx hy h h' hf hf'
  have e1 : (w.alloc (.cells #[.int .i64 p, .slice a n c] 26)).heap.size = w.heap.size + 1 := by simp
  have e2 : ((w.alloc (.cells #[.int .i64 p, .slice a n c] 26)).alloc (.cells #[.int .i64 q, .slice a' n' c'] 26)).heap.size = w.heap.size + 2 := by simp
  have xA := ((BoxF.new w (.int .i64 p) (.slice a n c) 26).alloc (.cells #[.int .i64 q, .slice a' n' c'] 26)).alloc (.cells #[.int .i64 0, .slice none 0 0] 26)
  have xB := (BoxF.new (w.alloc (.cells #[.int .i64 p, .slice a n c] 26)) (.int .i64 q) (.slice a' n' c') 26).alloc (.cells #[.int .i64 0, .slice none 0 0] 26)
  have xR := BoxF.new ((w.alloc (.cells #[.int .i64 p, .slice a n c] 26)).alloc (.cells #[.int .i64 q, .slice a' n' c'] 26)) (.int .i64 0) (.slice none 0 0) 26
  rw [e1] at xB
  rw [e2] at xR
  have XA := Lib.hid xA; have XB := Lib.hid xB; have XR := Lib.hid xR
  clear e1 e2 xA xB xR
  rcases two_no hno with h1 | ⟨h1, h2⟩ | ⟨h1, h2, hpq⟩
  · have H1 := Lib.hid h1; clear h1 hno
    go_enter Tryz.func11, Tryz.ntmps11
    go_wp2_with fail
    refine (iIsIdeal_any p a n c xs _ Hx.out Hf.out.cap false (by simp [H1.out])).mono ?_
    rintro e w1 ⟨rfl, hb⟩
    have HB : Hid (Below w.heap.size w w1) := Lib.hid (Below.trans (by repeat (first | exact Below.refl _ _ | assumption | refine Below.setCell ?_ (by first | omega | (simp; done) | (simp; omega)) _ | refine Below.alloc ?_ (by first | omega | (simp; done) | (simp; omega)) _ | apply Below.drew)) (hb.mono (by simp <;> omega)))
    obtain ⟨r0, r1, _, _, _⟩ := XR.out.keep hb (by simp)
    clear hb
    go_wp2_with fail
    refine bodyPost_ret (v := .tuple #[.agg #[.int .i64 0, .slice none 0 0], .bool false]) (by simp [results, Tryz.results11, go_sem, r0, r1]) rfl ⟨none, 0, 0, rfl, Own.nil _ _ _, ?_⟩
    exact (HB.out.setCell (by first | (simp; done) | (simp; omega)) _).setCell (by first | (simp; done) | (simp; omega)) _
  · have H1 := Lib.hid h1; have H2 := Lib.hid h2; clear h1 h2 hno
    obtain ⟨a0, a1, _, _, _⟩ := XA.out
    go_enter Tryz.func11, Tryz.ntmps11
    go_wp2_with fail
    refine (iIsIdeal_any p a n c xs _ Hx.out Hf.out.cap true (by simp [H1.out])).mono ?_
    rintro e w1 ⟨rfl, hb⟩
    have HB : Hid (Below w.heap.size w w1) := Lib.hid (Below.trans (by repeat (first | exact Below.refl _ _ | assumption | refine Below.setCell ?_ (by first | omega | (simp; done) | (simp; omega)) _ | refine Below.alloc ?_ (by first | omega | (simp; done) | (simp; omega)) _ | apply Below.drew)) (hb.mono (by simp <;> omega)))
    have XR1 := Lib.hid (XR.out.keep hb (by simp))
    have hz : w.heap.size + 3 ≤ w1.heap.size := by have := hb.size; simp at this; omega
    obtain ⟨b0, b1, _, _, _⟩ := XB.out.keep hb (by simp)
    have Hy1 := Lib.hid (Hy.out.keep hb)
    clear hb a0 a1
    go_wp2_with fail
    refine (iIsIdeal_any q a' n' c' ys _ Hy1.out Hf'.out.cap false (by simp [H2.out])).mono ?_
    rintro e w2 ⟨rfl, hb⟩
    have HB2 : Hid (Below w.heap.size w w2) := Lib.hid (HB.out.trans (hb.mono HB.out.size))
    obtain ⟨r0, r1, _, _, _⟩ := XR1.out.keep hb (by omega)
    clear hb b0 b1
    go_wp2_with fail
    refine bodyPost_ret (v := .tuple #[.agg #[.int .i64 0, .slice none 0 0], .bool false]) (by simp [results, Tryz.results11, go_sem, r0, r1]) rfl ⟨none, 0, 0, rfl, Own.nil _ _ _, ?_⟩
    exact (HB2.out.setCell (by first | (simp; done) | (simp; omega)) _).setCell (by first | (simp; done) | (simp; omega)) _
  · have H1 := Lib.hid h1; have H2 := Lib.hid h2; clear h1 h2 hno
    have hne : (p != q) = true := by simp [hpq]
    clear hpq
    go_enter Tryz.func11, Tryz.ntmps11
    go_wp2_with fail
    refine (iIsIdeal_any p a n c xs _ Hx.out Hf.out.cap true (by simp [H1.out])).mono ?_
    rintro e w1 ⟨rfl, hb⟩
    have HB : Hid (Below w.heap.size w w1) := Lib.hid (Below.trans (by repeat (first | exact Below.refl _ _ | assumption | refine Below.setCell ?_ (by first | omega | (simp; done) | (simp; omega)) _ | refine Below.alloc ?_ (by first | omega | (simp; done) | (simp; omega)) _ | apply Below.drew)) (hb.mono (by simp <;> omega)))
    have XR1 := Lib.hid (XR.out.keep hb (by simp))
    have XA1 := Lib.hid (XA.out.keep hb (by simp; omega))
    have XB1 := Lib.hid (XB.out.keep hb (by simp))
    have hz : w.heap.size + 3 ≤ w1.heap.size := by have := hb.size; simp at this; omega
    obtain ⟨b0, b1, _, _, _⟩ := XB1.out
    have Hy1 := Lib.hid (Hy.out.keep hb)
    clear hb
    go_wp2_with fail
    refine (iIsIdeal_any q a' n' c' ys _ Hy1.out Hf'.out.cap true (by simp [H2.out])).mono ?_
    rintro e w2 ⟨rfl, hb⟩
    have HB2 : Hid (Below w.heap.size w w2) := Lib.hid (HB.out.trans (hb.mono HB.out.size))
    obtain ⟨r0, r1, _, _, _⟩ := XR1.out.keep hb (by omega)
    obtain ⟨p0, p1, _, _, _⟩ := XA1.out.keep hb (by omega)
    obtain ⟨q0, q1, _, _, _⟩ := XB1.out.keep hb (by omega)
    clear hb b0 b1
    go_wp2_with fail
    refine bodyPost_ret (v := .tuple #[.agg #[.int .i64 0, .slice none 0 0], .bool false]) (by simp [results, Tryz.results11, go_sem, r0, r1]) rfl ⟨none, 0, 0, rfl, Own.nil _ _ _, ?_⟩
    exact (HB2.out.setCell (by first | (simp; done) | (simp; omega)) _).setCell (by first | (simp; done) | (simp; omega)) _

set_option maxHeartbeats 2000000 in
theorem iSumIdeals_yes (m : Nat) (a : Option Addr) (n c : Nat) (l : List Nat) (a' : Option Addr) (n' c' : Nat) (k : List Nat) (w : World) (h : IntsAt w a n (up l)) (h' : IntsAt w a' n' (up k)) (hf : Fit a n c) (hf' : Fit a' n' c') (hm : m ≤ 6) (h1 : Anti m (up l)) (h2 : Anti m (up k)) (hl : ∀ t ∈ l, t < 64) (hk : ∀ t ∈ k, t < 64) :
    Calls Tryz.prog 9 #[.agg #[.int .i64 m, .slice a n c], .agg #[.int .i64 m, .slice a' n' c']] w (RetBox2 w m (up (minL fun s => above l (2 ^ m) s || above k (2 ^ m) s)) true) := by
  have hx : IntsAt (((w.alloc (.cells #[.int .i64 m, .slice a n c] 26)).alloc (.cells #[.int .i64 m, .slice a' n' c'] 26)).alloc (.cells #[.int .i64 0, .slice none 0 0] 26)) a n (up l) := h.keep (by repeat (first | exact Below.refl _ _ | assumption | refine Below.setCell ?_ (by first | omega | (simp; done) | (simp; omega)) _ | refine Below.alloc ?_ (by first | omega | (simp; done) | (simp; omega)) _ | apply Below.drew))
  have hy : IntsAt (((w.alloc (.cells #[.int .i64 m, .slice a n c] 26)).alloc (.cells #[.int .i64 m, .slice a' n' c'] 26)).alloc (.cells #[.int .i64 0, .slice none 0 0] 26)) a' n' (up k) := h'.keep (by repeat (first | exact Below.refl _ _ | assumption | refine Below.setCell ?_ (by first | omega | (simp; done) | (simp; omega)) _ | refine Below.alloc ?_ (by first | omega | (simp; done) | (simp; omega)) _ | apply Below.drew))
  have Hx := Lib.hid hx; have Hy := Lib.hid hy
  have Hf := Lib.hid hf; have Hf' := Lib.hid hf'
  have H1 := Lib.hid h1; have H2 := Lib.hid h2
  have Hl := Lib.hid hl; have Hk := Lib.hid hk
  clear hx hy h h' hf hf' h1 h2 hl hk
  have e1 : (w.alloc (.cells #[.int .i64 m, .slice a n c] 26)).heap.size = w.heap.size + 1 := by simp
  have e2 : ((w.alloc (.cells #[.int .i64 m, .slice a n c] 26)).alloc (.cells #[.int .i64 m, .slice a' n' c'] 26)).heap.size = w.heap.size + 2 := by simp
  have xA := ((BoxF.new w (.int .i64 m) (.slice a n c) 26).alloc (.cells #[.int .i64 m, .slice a' n' c'] 26)).alloc (.cells #[.int .i64 0, .slice none 0 0] 26)
  have xB := (BoxF.new (w.alloc (.cells #[.int .i64 m, .slice a n c] 26)) (.int .i64 m) (.slice a' n' c') 26).alloc (.cells #[.int .i64 0, .slice none 0 0] 26)
  have xR := BoxF.new ((w.alloc (.cells #[.int .i64 m, .slice a n c] 26)).alloc (.cells #[.int .i64 m, .slice a' n' c'] 26)) (.int .i64 0) (.slice none 0 0) 26
  rw [e1] at xB
  rw [e2] at xR
  have XA := Lib.hid xA; have XB := Lib.hid xB; have XR := Lib.hid xR
  clear e1 e2 xA xB xR
  have hFl := inN_Fam l (2 ^ m); have hFk := inN_Fam k (2 ^ m)
  obtain ⟨F, hF⟩ : ∃ F, F = inN l (2 ^ m) := ⟨_, rfl⟩
  obtain ⟨G, hG⟩ : ∃ G, G = inN k (2 ^ m) := ⟨_, rfl⟩
  rw [← hF] at hFl; rw [← hG] at hFk
  have HF := Lib.hid hF; have HG := Lib.hid hG
  clear hF hG
  have hmm : ((m : Int) != (m : Int)) = false := by simp
  go_enter Tryz.func9, Tryz.ntmps9
  go_wp2_with fail
  refine (iIsIdeal_any m a n c _ _ Hx.out Hf.out.cap true (by simp [H1.out])).mono ?_
  rintro e w1 ⟨rfl, hb⟩
  have HB : Hid (Below w.heap.size w w1) := Lib.hid (Below.trans (by repeat (first | exact Below.refl _ _ | assumption | refine Below.setCell ?_ (by first | omega | (simp; done) | (simp; omega)) _ | refine Below.alloc ?_ (by first | omega | (simp; done) | (simp; omega)) _ | apply Below.drew)) (hb.mono (by simp <;> omega)))
  have XR1 := Lib.hid (XR.out.keep hb (by simp))
  have XA1 := Lib.hid (XA.out.keep hb (by simp; omega))
  have XB1 := Lib.hid (XB.out.keep hb (by simp))
  have hz : w.heap.size + 3 ≤ w1.heap.size := by have := hb.size; simp at this; omega
  obtain ⟨b0, b1, _, _, _⟩ := XB1.out
  have Hx1 := Lib.hid (Hx.out.keep hb)
  have Hy1 := Lib.hid (Hy.out.keep hb)
  clear hb
  go_wp2_with fail
  refine (iIsIdeal_any m a' n' c' _ _ Hy1.out Hf'.out.cap true (by simp [H2.out])).mono ?_
  rintro e w2 ⟨rfl, hb⟩
  have HB2 : Hid (Below w.heap.size w w2) := Lib.hid (HB.out.trans (hb.mono HB.out.size))
  have XR2 := Lib.hid (XR1.out.keep hb (by omega))
  have XA2 := Lib.hid (XA1.out.keep hb (by omega))
  have XB2 := Lib.hid (XB1.out.keep hb (by omega))
  have Hx2 := Lib.hid (Hx1.out.keep hb)
  have Hy2 := Lib.hid (Hy1.out.keep hb)
  have hz2 : w.heap.size + 3 ≤ w2.heap.size := by have := hb.size; omega
  obtain ⟨p0, p1, _, _, _⟩ := XA2.out
  obtain ⟨q0, q1, _, _, _⟩ := XB2.out
  clear hb b0 b1
  go_wp2_with fail
  have hcong := minL_congr (p := (F ||| G).testBit) (q := fun s => above l (2 ^ m) s || above k (2 ^ m) s) (fun s hs => by rw [Nat.testBit_or, HF.out, HG.out, inN_bit hs, inN_bit hs])
  have Hcong := Lib.hid hcong; clear hcong
  go_cut [5] (fun v W => v = .bool true ∧ Below (w.heap.size + 2) w2 W ∧ ∃ ad d r, BoxF W (w.heap.size + 2) (.int .i64 m) (.slice ad d r) ∧ Own 3 W w2.heap.size ad d r (up (minL fun s => above l (2 ^ m) s || above k (2 ^ m) s)))
  case first =>
    have Hx3 := Lib.hid (Hx2.out.keep (Below.drew (Below.refl _ _)))
    have Hy3 := Lib.hid (Hy2.out.keep (Below.drew (Below.refl _ _)))
    have hn1 : w.heap.size + 1 + 1 ≠ w.heap.size := by omega
    have hn2 : w.heap.size ≠ w.heap.size + 1 + 1 := by omega
    have hn3 : ¬ w.heap.size = w.heap.size + 1 + 1 := by omega
    go_region_held3 (fun W => W.cell? ⟨w.heap.size, 0, none⟩ = some (.int .i64 m) ∧ W.cell? ⟨w.heap.size, 1, none⟩ = some (.slice a n c) ∧ W.cell? ⟨w.heap.size + 1, 0, none⟩ = some (.int .i64 m) ∧ W.cell? ⟨w.heap.size + 1, 1, none⟩ = some (.slice a' n' c')) (first | exact ⟨p0, p1, q0, q1⟩ | exact ⟨s0, s1, u0, u1⟩ | exact ⟨t0, t1, v0, v1⟩ | exact ⟨y0, y1, z0, z1⟩ | go_keep) (first
      | (go_at_call 81; (with_reducible refine (idealIn_any m a n c l _ Hx3.out hm Hl.out).mono ?_); rw [← HF.out]; rintro e w3 ⟨rfl, hb3⟩; have XA3 := Lib.hid (XA2.out.drew.keep hb3 (by simp; omega)); have XB3 := Lib.hid (XB2.out.drew.keep hb3 (by simp; omega)); have XR3 := Lib.hid (XR2.out.drew.keep hb3 (by simp; omega)); have Hy4 := Lib.hid (Hy3.out.keep hb3); have HB3 := Lib.hid hb3; have hz3 : w2.heap.size ≤ w3.heap.size := (by have := hb3.size; simpa using this); obtain ⟨s0, s1, _, _, _⟩ := XA3.out; obtain ⟨u0, u1, _, _, _⟩ := XB3.out; clear hb3)
      | (go_at_call 81; (with_reducible refine (idealIn_any m a' n' c' k _ Hy4.out hm Hk.out).mono ?_); rw [← HG.out]; rintro e w4 ⟨rfl, hb4⟩; have XA4 := Lib.hid (XA3.out.keep hb4 (by omega)); have XR4 := Lib.hid (XR3.out.keep hb4 (by omega)); have HB4 := Lib.hid hb4; have hz4 : w3.heap.size ≤ w4.heap.size := hb4.size; have XB4 := Lib.hid (XB3.out.keep hb4 (by omega)); obtain ⟨t0, t1, _, _, _⟩ := XA4.out; obtain ⟨v0, v1, _, _, _⟩ := XB4.out; clear hb4)
      | (go_at_call 80; (with_reducible refine (idealOfSets_any m (F ||| G) _ (hFl.or hFk)).mono ?_); rintro e w5 ⟨ad, d, r, rfl, hown, hb5⟩; have XR5 := Lib.hid (XR4.out.keep hb5 (by omega)); have HO5 := Lib.hid hown; have HB5 := Lib.hid hb5; have XA5 := Lib.hid (XA4.out.keep hb5 (by omega)); have XB5 := Lib.hid (XB4.out.keep hb5 (by omega)); obtain ⟨y0, y1, _, _, _⟩ := XA5.out; obtain ⟨z0, z1, _, _, _⟩ := XB5.out; obtain ⟨r0, r1, _, _, _⟩ := XR5.out; clear hb5 hown))
    all_goals (go_wp2_with fail; go_meet)
    all_goals exact ⟨rfl, ((((((Below.refl _ w2).drew).trans (HB3.out.mono (by simp; omega))).trans (HB4.out.mono (by omega))).trans (HB5.out.mono (by omega))).setCell (by simp) _).setCell (by simp) _, ad, d, r, (XR5.out.set0 _).set1 _, Hcong.out ▸ ((HO5.out.mono (by omega)).setBelow _ (by first | omega | (simp; omega))).setBelow _ (by first | omega | (simp; omega))⟩
  case rest =>
    obtain ⟨rfl, hb, ad, d, r, xR5, hown⟩ := hcut
    obtain ⟨r0, r1, _, _, _⟩ := xR5
    go_wp2_with fail
    refine bodyPost_ret (v := .tuple #[.agg #[.int .i64 m, .slice ad d r], .bool true]) (by simp [results, Tryz.results9, go_sem, r0, r1]) rfl ⟨ad, d, r, rfl, hown.mono (by omega), ?_⟩
    exact HB2.out.trans (hb.mono (by omega))

set_option maxHeartbeats 2000000 in
theorem iMeetIdeals_yes (m : Nat) (a : Option Addr) (n c : Nat) (l : List Nat) (a' : Option Addr) (n' c' : Nat) (k : List Nat) (w : World) (h : IntsAt w a n (up l)) (h' : IntsAt w a' n' (up k)) (hf : Fit a n c) (hf' : Fit a' n' c') (hm : m ≤ 6) (h1 : Anti m (up l)) (h2 : Anti m (up k)) (hl : ∀ t ∈ l, t < 64) (hk : ∀ t ∈ k, t < 64) :
    Calls Tryz.prog 11 #[.agg #[.int .i64 m, .slice a n c], .agg #[.int .i64 m, .slice a' n' c']] w (RetBox2 w m (up (minL fun s => above l (2 ^ m) s && above k (2 ^ m) s)) true) := by
  have hx : IntsAt (((w.alloc (.cells #[.int .i64 m, .slice a n c] 26)).alloc (.cells #[.int .i64 m, .slice a' n' c'] 26)).alloc (.cells #[.int .i64 0, .slice none 0 0] 26)) a n (up l) := h.keep (by repeat (first | exact Below.refl _ _ | assumption | refine Below.setCell ?_ (by first | omega | (simp; done) | (simp; omega)) _ | refine Below.alloc ?_ (by first | omega | (simp; done) | (simp; omega)) _ | apply Below.drew))
  have hy : IntsAt (((w.alloc (.cells #[.int .i64 m, .slice a n c] 26)).alloc (.cells #[.int .i64 m, .slice a' n' c'] 26)).alloc (.cells #[.int .i64 0, .slice none 0 0] 26)) a' n' (up k) := h'.keep (by repeat (first | exact Below.refl _ _ | assumption | refine Below.setCell ?_ (by first | omega | (simp; done) | (simp; omega)) _ | refine Below.alloc ?_ (by first | omega | (simp; done) | (simp; omega)) _ | apply Below.drew))
  have Hx := Lib.hid hx; have Hy := Lib.hid hy
  have Hf := Lib.hid hf; have Hf' := Lib.hid hf'
  have H1 := Lib.hid h1; have H2 := Lib.hid h2
  have Hl := Lib.hid hl; have Hk := Lib.hid hk
  clear hx hy h h' hf hf' h1 h2 hl hk
  have e1 : (w.alloc (.cells #[.int .i64 m, .slice a n c] 26)).heap.size = w.heap.size + 1 := by simp
  have e2 : ((w.alloc (.cells #[.int .i64 m, .slice a n c] 26)).alloc (.cells #[.int .i64 m, .slice a' n' c'] 26)).heap.size = w.heap.size + 2 := by simp
  have xA := ((BoxF.new w (.int .i64 m) (.slice a n c) 26).alloc (.cells #[.int .i64 m, .slice a' n' c'] 26)).alloc (.cells #[.int .i64 0, .slice none 0 0] 26)
  have xB := (BoxF.new (w.alloc (.cells #[.int .i64 m, .slice a n c] 26)) (.int .i64 m) (.slice a' n' c') 26).alloc (.cells #[.int .i64 0, .slice none 0 0] 26)
  have xR := BoxF.new ((w.alloc (.cells #[.int .i64 m, .slice a n c] 26)).alloc (.cells #[.int .i64 m, .slice a' n' c'] 26)) (.int .i64 0) (.slice none 0 0) 26
  rw [e1] at xB
  rw [e2] at xR
  have XA := Lib.hid xA; have XB := Lib.hid xB; have XR := Lib.hid xR
  clear e1 e2 xA xB xR
  have hFl := inN_Fam l (2 ^ m); have hFk := inN_Fam k (2 ^ m)
  obtain ⟨F, hF⟩ : ∃ F, F = inN l (2 ^ m) := ⟨_, rfl⟩
  obtain ⟨G, hG⟩ : ∃ G, G = inN k (2 ^ m) := ⟨_, rfl⟩
  rw [← hF] at hFl; rw [← hG] at hFk
  have HF := Lib.hid hF; have HG := Lib.hid hG
  clear hF hG
  have hmm : ((m : Int) != (m : Int)) = false := by simp
  go_enter Tryz.func11, Tryz.ntmps11
  go_wp2_with fail
  refine (iIsIdeal_any m a n c _ _ Hx.out Hf.out.cap true (by simp [H1.out])).mono ?_
  rintro e w1 ⟨rfl, hb⟩
  have HB : Hid (Below w.heap.size w w1) := Lib.hid (Below.trans (by repeat (first | exact Below.refl _ _ | assumption | refine Below.setCell ?_ (by first | omega | (simp; done) | (simp; omega)) _ | refine Below.alloc ?_ (by first | omega | (simp; done) | (simp; omega)) _ | apply Below.drew)) (hb.mono (by simp <;> omega)))
  have XR1 := Lib.hid (XR.out.keep hb (by simp))
  have XA1 := Lib.hid (XA.out.keep hb (by simp; omega))
  have XB1 := Lib.hid (XB.out.keep hb (by simp))
  have hz : w.heap.size + 3 ≤ w1.heap.size := by have := hb.size; simp at this; omega
  obtain ⟨b0, b1, _, _, _⟩ := XB1.out
  have Hx1 := Lib.hid (Hx.out.keep hb)
  have Hy1 := Lib.hid (Hy.out.keep hb)
  clear hb
  go_wp2_with fail
  refine (iIsIdeal_any m a' n' c' _ _ Hy1.out Hf'.out.cap true (by simp [H2.out])).mono ?_
  rintro e w2 ⟨rfl, hb⟩
  have HB2 : Hid (Below w.heap.size w w2) := Lib.hid (HB.out.trans (hb.mono HB.out.size))
  have XR2 := Lib.hid (XR1.out.keep hb (by omega))
  have XA2 := Lib.hid (XA1.out.keep hb (by omega))
  have XB2 := Lib.hid (XB1.out.keep hb (by omega))
  have Hx2 := Lib.hid (Hx1.out.keep hb)
  have Hy2 := Lib.hid (Hy1.out.keep hb)
  have hz2 : w.heap.size + 3 ≤ w2.heap.size := by have := hb.size; omega
  obtain ⟨p0, p1, _, _, _⟩ := XA2.out
  obtain ⟨q0, q1, _, _, _⟩ := XB2.out
  clear hb b0 b1
  go_wp2_with fail
  have hcong := minL_congr (p := (F &&& G).testBit) (q := fun s => above l (2 ^ m) s && above k (2 ^ m) s) (fun s hs => by rw [Nat.testBit_and, HF.out, HG.out, inN_bit hs, inN_bit hs])
  have Hcong := Lib.hid hcong; clear hcong
  go_cut [5] (fun v W => v = .bool true ∧ Below (w.heap.size + 2) w2 W ∧ ∃ ad d r, BoxF W (w.heap.size + 2) (.int .i64 m) (.slice ad d r) ∧ Own 3 W w2.heap.size ad d r (up (minL fun s => above l (2 ^ m) s && above k (2 ^ m) s)))
  case first =>
    have Hx3 := Lib.hid (Hx2.out.keep (Below.drew (Below.refl _ _)))
    have Hy3 := Lib.hid (Hy2.out.keep (Below.drew (Below.refl _ _)))
    have hn1 : w.heap.size + 1 + 1 ≠ w.heap.size := by omega
    have hn2 : w.heap.size ≠ w.heap.size + 1 + 1 := by omega
    have hn3 : ¬ w.heap.size = w.heap.size + 1 + 1 := by omega
    go_region_held3 (fun W => W.cell? ⟨w.heap.size, 0, none⟩ = some (.int .i64 m) ∧ W.cell? ⟨w.heap.size, 1, none⟩ = some (.slice a n c) ∧ W.cell? ⟨w.heap.size + 1, 0, none⟩ = some (.int .i64 m) ∧ W.cell? ⟨w.heap.size + 1, 1, none⟩ = some (.slice a' n' c')) (first | exact ⟨p0, p1, q0, q1⟩ | exact ⟨s0, s1, u0, u1⟩ | exact ⟨t0, t1, v0, v1⟩ | exact ⟨y0, y1, z0, z1⟩ | go_keep) (first
      | (go_at_call 81; (with_reducible refine (idealIn_any m a n c l _ Hx3.out hm Hl.out).mono ?_); rw [← HF.out]; rintro e w3 ⟨rfl, hb3⟩; have XA3 := Lib.hid (XA2.out.drew.keep hb3 (by simp; omega)); have XB3 := Lib.hid (XB2.out.drew.keep hb3 (by simp; omega)); have XR3 := Lib.hid (XR2.out.drew.keep hb3 (by simp; omega)); have Hy4 := Lib.hid (Hy3.out.keep hb3); have HB3 := Lib.hid hb3; have hz3 : w2.heap.size ≤ w3.heap.size := (by have := hb3.size; simpa using this); obtain ⟨s0, s1, _, _, _⟩ := XA3.out; obtain ⟨u0, u1, _, _, _⟩ := XB3.out; clear hb3)
      | (go_at_call 81; (with_reducible refine (idealIn_any m a' n' c' k _ Hy4.out hm Hk.out).mono ?_); rw [← HG.out]; rintro e w4 ⟨rfl, hb4⟩; have XA4 := Lib.hid (XA3.out.keep hb4 (by omega)); have XR4 := Lib.hid (XR3.out.keep hb4 (by omega)); have HB4 := Lib.hid hb4; have hz4 : w3.heap.size ≤ w4.heap.size := hb4.size; have XB4 := Lib.hid (XB3.out.keep hb4 (by omega)); obtain ⟨t0, t1, _, _, _⟩ := XA4.out; obtain ⟨v0, v1, _, _, _⟩ := XB4.out; clear hb4)
      | (go_at_call 80; (with_reducible refine (idealOfSets_any m (F &&& G) _ (hFl.and)).mono ?_); rintro e w5 ⟨ad, d, r, rfl, hown, hb5⟩; have XR5 := Lib.hid (XR4.out.keep hb5 (by omega)); have HO5 := Lib.hid hown; have HB5 := Lib.hid hb5; have XA5 := Lib.hid (XA4.out.keep hb5 (by omega)); have XB5 := Lib.hid (XB4.out.keep hb5 (by omega)); obtain ⟨y0, y1, _, _, _⟩ := XA5.out; obtain ⟨z0, z1, _, _, _⟩ := XB5.out; obtain ⟨r0, r1, _, _, _⟩ := XR5.out; clear hb5 hown))
    all_goals (go_wp2_with fail; go_meet)
    all_goals exact ⟨rfl, ((((((Below.refl _ w2).drew).trans (HB3.out.mono (by simp; omega))).trans (HB4.out.mono (by omega))).trans (HB5.out.mono (by omega))).setCell (by simp) _).setCell (by simp) _, ad, d, r, (XR5.out.set0 _).set1 _, Hcong.out ▸ ((HO5.out.mono (by omega)).setBelow _ (by first | omega | (simp; omega))).setBelow _ (by first | omega | (simp; omega))⟩
  case rest =>
    obtain ⟨rfl, hb, ad, d, r, xR5, hown⟩ := hcut
    obtain ⟨r0, r1, _, _, _⟩ := xR5
    go_wp2_with fail
    refine bodyPost_ret (v := .tuple #[.agg #[.int .i64 m, .slice ad d r], .bool true]) (by simp [results, Tryz.results11, go_sem, r0, r1]) rfl ⟨ad, d, r, rfl, hown.mono (by omega), ?_⟩
    exact HB2.out.trans (hb.mono (by omega))
end Go.Proofs.YtihfhfihladlcaaGreatDoor

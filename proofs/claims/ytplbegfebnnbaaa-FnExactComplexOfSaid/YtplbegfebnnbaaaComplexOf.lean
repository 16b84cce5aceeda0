/- Contracts of FromMissing and ComplexOf, the program's and the reference's. -/
import Derived.Test.YtplbegfebnnbaaaIdeal3
namespace Go.Proofs.Ytplbegfebnnbaaa
open Go.RowKit
set_option linter.unusedSimpArgs false
set_option linter.unusedVariables false

theorem missFn_any (g t : Nat) (a : Option Addr) (n c : Nat) (l : List Nat) (w : World) (ht : t < 64) (hb : w.cell? ⟨g, 0, none⟩ = some (.slice a n c)) (h : IntsAt w a n (up l)) (hl : ∀ t ∈ l, t < 64) :
    Calls Try.prog 141 #[.int .i64 t, .pointer (some ⟨g, 0, none⟩)] w fun e w' => e = .returned (.bool (!l.any (sub · t))) ∧ w = w' := by
  obtain ⟨b, hb'⟩ : ∃ b, b = l.any (sub · t) := ⟨_, rfl⟩
  have Hb := Lib.hid hb'.symm
  rw [← hb']
  have Hh := Lib.hid h; have Hl := Lib.hid hl
  clear hb' h hl
  go_enter Try.func141, Try.ntmps141
  go_wp2_with (go_at_call 142; (with_reducible refine (iAvoids_any t a n c l _ Hh.out ht Hl.out b Hb.out).mono ?_); rintro e w' ⟨rfl, rfl⟩)
  go_ret
  exact ⟨rfl, rfl⟩
set_option maxRecDepth 100000 in
set_option maxHeartbeats 2000000 in
theorem iFromMissing_yes (m : Nat) (a : Option Addr) (n c : Nat) (l : List Nat) (w : World) (h : IntsAt w a n (up l)) (hm : m ≤ 6) (hok : SetsOk m (up l)) (hl : ∀ t ∈ l, t < 64) :
    Calls Try.prog 106 #[.int .i64 m, .slice a n c] w (RetBox2 w m (up (maxL (apart l (2 ^ m)))) true) := by
  have hx : IntsAt ((w.alloc (.cells #[.slice a n c] 22)).alloc (.cells #[.int .i64 0, .slice none 0 0] 27)) a n (up l) := h.keep (by repeat (first | exact Below.refl _ _ | assumption | refine Below.setCell ?_ (by first | omega | (simp; done) | (simp; omega)) _ | refine Below.alloc ?_ (by first | omega | (simp; done) | (simp; omega)) _ | apply Below.drew))
  have hcell : ((w.alloc (.cells #[.slice a n c] 22)).alloc (.cells #[.int .i64 0, .slice none 0 0] 27)).cell? ⟨w.heap.size, 0, none⟩ = some (.slice a n c) := by rw [World.cell?_alloc_lt _ _ _ (by simp)]; simp
  have xR := BoxF.new (w.alloc (.cells #[.slice a n c] 22)) (.int .i64 0) (.slice none 0 0) 27
  have e2 : (w.alloc (.cells #[.slice a n c] 22)).heap.size = w.heap.size + 1 := by simp
  rw [e2] at xR
  have Hx := Lib.hid hx; have Hok := Lib.hid hok; have Hl := Lib.hid hl; have Hcell := Lib.hid hcell; have XR := Lib.hid xR
  clear hx h hok hl hcell xR e2
  have hF := pickN_Fam (fun t => !l.any (sub · t)) (2 ^ m)
  have hcong := maxL_congr (p := (pickN (fun t => !l.any (sub · t)) (2 ^ m)).testBit) (q := apart l (2 ^ m)) (fun t ht => by rw [pickN_bit ht]; rfl)
  obtain ⟨F, hFe⟩ : ∃ F, F = pickN (fun t => !l.any (sub · t)) (2 ^ m) := ⟨_, rfl⟩
  rw [← hFe] at hF hcong
  have HFe := Lib.hid hFe; have Hcong := Lib.hid hcong
  clear hFe hcong
  go_enter Try.func106, Try.ntmps106
  go_wp2_with (go_at_call 140; (with_reducible refine (areSets_any m a n c _ _ Hx.out true (by simp [Hok.out])).mono ?_); rintro e w' ⟨rfl, rfl⟩)
  refine (pickSets_any 141 #[.pointer (some ⟨w.heap.size, 0, none⟩)] (fun t => !l.any (sub · t)) m _ hm (fun _ _ => rfl) (fun t ht => missFn_any w.heap.size t a n c l _ ht Hcell.out Hx.out Hl.out)).mono ?_
  rw [← HFe.out]
  rintro e we ⟨rfl, rfl⟩
  go_wp2_with fail
  refine (complexOf_any m F _ hF).mono ?_
  rintro e w5 ⟨ad, d, r, rfl, hown, hb5⟩
  have XR5 := Lib.hid (XR.out.keep hb5 (by simp))
  have hO := hown
  rw [Hcong.out] at hO
  have HO5 := Lib.hid hO; have HB5 := Lib.hid hb5
  have hz5 : w.heap.size + 2 ≤ w5.heap.size := by have := hb5.size; simp at this; omega
  obtain ⟨r0, r1, _, _, _⟩ := XR5.out
  clear hown hb5 hO
  go_wp2_with fail
  refine bodyPost_ret (v := .tuple #[.agg #[.int .i64 m, .slice ad d r], .bool true]) (by simp [results, Try.results106, go_sem, r0, r1]) rfl ⟨ad, d, r, rfl, ?_, ?_⟩
  · exact ((HO5.out.setBelow _ (by first | omega | (simp; omega) | simp)).setBelow _ (by first | omega | (simp; omega) | simp)).mono (by simp; omega)
  · have hB5 := HB5.out
    have : Below w.heap.size w w5 := Below.trans (by repeat (first | exact Below.refl _ _ | assumption | refine Below.setCell ?_ (by first | omega | (simp; done) | (simp; omega)) _ | refine Below.alloc ?_ (by first | omega | (simp; done) | (simp; omega)) _ | apply Below.drew)) (hB5.mono (by simp; omega))
    exact ((this.setCell (by first | (simp; done) | (simp; omega)) _).setCell (by first | (simp; done) | (simp; omega)) _)

theorem implComplexOf_no (p : Int) (a : Option Addr) (n c : Nat) (xs : List Int) (w : World) (h : IntsAt w a n xs) (hcap : n ≤ c) (hno : ¬ Anti p xs) :
    Calls Try.prog 56 #[.agg #[.int .i64 p, .slice a n c]] w (RetBox2 w 0 [] false) := by
  have hx : IntsAt ((w.alloc (.cells #[.int .i64 p, .slice a n c] 57)).alloc (.cells #[.int .i64 0, .slice none 0 0] 27)) a n xs := h.keep (by repeat (first | exact Below.refl _ _ | assumption | refine Below.setCell ?_ (by first | omega | (simp; done) | (simp; omega)) _ | refine Below.alloc ?_ (by first | omega | (simp; done) | (simp; omega)) _ | apply Below.drew))
  have Hx := Lib.hid hx; have Hno := Lib.hid hno; have Hcap := Lib.hid hcap
  have xR := BoxF.new (w.alloc (.cells #[.int .i64 p, .slice a n c] 57)) (.int .i64 0) (.slice none 0 0) 27
  have XR := Lib.hid xR
  clear hx h hno hcap xR
  go_enter Try.func56, Try.ntmps56
  go_wp2_with fail
  first
    | refine (iIsIdeal_any p a n c xs _ Hx.out Hcap.out false (by simp [Hno.out])).mono ?_
    | refine (sIsIdeal_any p a n c xs _ Hx.out false (by simp [Hno.out])).mono ?_
  rintro e w1 ⟨rfl, hb⟩
  have hbl : Below w.heap.size w w1 := Below.trans (by repeat (first | exact Below.refl _ _ | assumption | refine Below.setCell ?_ (by first | omega | (simp; done) | (simp; omega)) _ | refine Below.alloc ?_ (by first | omega | (simp; done) | (simp; omega)) _ | apply Below.drew)) (hb.mono (by simp <;> omega))
  obtain ⟨r0, r1, f0, f1, _⟩ := XR.out.keep hb (by simp)
  simp at r0 r1 f0 f1
  have hz : w.heap.size + 2 ≤ w1.heap.size := by have := hb.size; simp at this; omega
  clear hb
  go_wp2_with fail
  refine bodyPost_ret (v := .tuple #[.agg #[.int .i64 0, .slice none 0 0], .bool false]) (by simp [results, Try.results56, go_sem, r0, r1]) rfl ⟨none, 0, 0, rfl, Own.nil _ _ _, (by repeat (first | exact Below.refl _ _ | assumption | refine Below.setCell ?_ (by first | omega | (simp; done) | (simp; omega)) _ | refine Below.alloc ?_ (by first | omega | (simp; done) | (simp; omega)) _ | apply Below.drew))⟩
theorem specComplexOf_no (p : Int) (a : Option Addr) (n c : Nat) (xs : List Int) (w : World) (h : IntsAt w a n xs) (hcap : n ≤ c) (hno : ¬ Anti p xs) :
    Calls Try.prog 54 #[.agg #[.int .i64 p, .slice a n c]] w (RetBox2 w 0 [] false) := by
  have hx : IntsAt ((w.alloc (.cells #[.int .i64 p, .slice a n c] 57)).alloc (.cells #[.int .i64 0, .slice none 0 0] 27)) a n xs := h.keep (by repeat (first | exact Below.refl _ _ | assumption | refine Below.setCell ?_ (by first | omega | (simp; done) | (simp; omega)) _ | refine Below.alloc ?_ (by first | omega | (simp; done) | (simp; omega)) _ | apply Below.drew))
  have Hx := Lib.hid hx; have Hno := Lib.hid hno; have Hcap := Lib.hid hcap
  have xR := BoxF.new (w.alloc (.cells #[.int .i64 p, .slice a n c] 57)) (.int .i64 0) (.slice none 0 0) 27
  have XR := Lib.hid xR
  clear hx h hno hcap xR
  go_enter Try.func54, Try.ntmps54
  go_wp2_with fail
  first
    | refine (iIsIdeal_any p a n c xs _ Hx.out Hcap.out false (by simp [Hno.out])).mono ?_
    | refine (sIsIdeal_any p a n c xs _ Hx.out false (by simp [Hno.out])).mono ?_
  rintro e w1 ⟨rfl, hb⟩
  have hbl : Below w.heap.size w w1 := Below.trans (by repeat (first | exact Below.refl _ _ | assumption | refine Below.setCell ?_ (by first | omega | (simp; done) | (simp; omega)) _ | refine Below.alloc ?_ (by first | omega | (simp; done) | (simp; omega)) _ | apply Below.drew)) (hb.mono (by simp <;> omega))
  obtain ⟨r0, r1, f0, f1, _⟩ := XR.out.keep hb (by simp)
  simp at r0 r1 f0 f1
  have hz : w.heap.size + 2 ≤ w1.heap.size := by have := hb.size; simp at this; omega
  clear hb
  go_wp2_with fail
  refine bodyPost_ret (v := .tuple #[.agg #[.int .i64 0, .slice none 0 0], .bool false]) (by simp [results, Try.results54, go_sem, r0, r1]) rfl ⟨none, 0, 0, rfl, Own.nil _ _ _, (by repeat (first | exact Below.refl _ _ | assumption | refine Below.setCell ?_ (by first | omega | (simp; done) | (simp; omega)) _ | refine Below.alloc ?_ (by first | omega | (simp; done) | (simp; omega)) _ | apply Below.drew))⟩
set_option maxHeartbeats 1000000 in
theorem iComplexOf_yes (m : Nat) (a : Option Addr) (n c : Nat) (l : List Nat) (w : World) (h : IntsAt w a n (up l)) (hcap : n ≤ c) (hm : m ≤ 6) (hA : Anti m (up l)) (hok : SetsOk m (up l)) (hl : ∀ t ∈ l, t < 64) :
    Calls Try.prog 56 #[.agg #[.int .i64 m, .slice a n c]] w (RetBox2 w m (up (maxL (apart l (2 ^ m)))) true) := by
  have hx : IntsAt ((w.alloc (.cells #[.int .i64 m, .slice a n c] 57)).alloc (.cells #[.int .i64 0, .slice none 0 0] 27)) a n (up l) := h.keep (by repeat (first | exact Below.refl _ _ | assumption | refine Below.setCell ?_ (by first | omega | (simp; done) | (simp; omega)) _ | refine Below.alloc ?_ (by first | omega | (simp; done) | (simp; omega)) _ | apply Below.drew))
  have Hx := Lib.hid hx; have HA := Lib.hid hA; have Hcap := Lib.hid hcap; have Hl := Lib.hid hl; have Hok := Lib.hid hok
  have xA := (BoxF.new w (.int .i64 m) (.slice a n c) 57).alloc (.cells #[.int .i64 0, .slice none 0 0] 27)
  have xR := BoxF.new (w.alloc (.cells #[.int .i64 m, .slice a n c] 57)) (.int .i64 0) (.slice none 0 0) 27
  have e2 : (w.alloc (.cells #[.int .i64 m, .slice a n c] 57)).heap.size = w.heap.size + 1 := by simp
  rw [e2] at xR
  have XR := Lib.hid xR; have XA := Lib.hid xA
  clear hx h hA hcap hl hok xA xR e2
  go_enter Try.func56, Try.ntmps56
  go_wp2_with fail
  refine (iIsIdeal_any m a n c _ _ Hx.out Hcap.out true (by simp [HA.out])).mono ?_
  rintro e w1 ⟨rfl, hb⟩
  have HB : Hid (Below w.heap.size w w1) := Lib.hid (Below.trans (by repeat (first | exact Below.refl _ _ | assumption | refine Below.setCell ?_ (by first | omega | (simp; done) | (simp; omega)) _ | refine Below.alloc ?_ (by first | omega | (simp; done) | (simp; omega)) _ | apply Below.drew)) (hb.mono (by simp <;> omega)))
  have XR1 := Lib.hid (XR.out.keep hb (by simp))
  obtain ⟨p0, p1, _, _, _⟩ := XA.out.keep hb (by simp; omega)
  have hz : w.heap.size + 2 ≤ w1.heap.size := by have := hb.size; simp at this; omega
  have Hx1 := Lib.hid (Hx.out.keep hb)
  clear hb
  go_wp2_with fail
  refine (iFromMissing_yes m a n c l _ Hx1.out hm Hok.out Hl.out).mono ?_
  rintro e w5 ⟨ad, d, r, rfl, hown, hb5⟩
  have XR5 := Lib.hid (XR1.out.keep hb5 (by omega))
  have HO5 := Lib.hid hown; have HB5 := Lib.hid hb5
  obtain ⟨r0, r1, _, _, _⟩ := XR5.out
  clear hown hb5
  go_wp2_with fail
  refine bodyPost_ret (v := .tuple #[.agg #[.int .i64 m, .slice ad d r], .bool true]) (by simp [results, Try.results56, go_sem, r0, r1]) rfl ⟨ad, d, r, rfl, ?_, ?_⟩
  · exact ((HO5.out.setBelow _ (by first | omega | (simp; omega))).setBelow _ (by first | omega | (simp; omega))).mono (by omega)
  · have := HB.out.size
    exact (((HB.out.trans (HB5.out.mono (by omega))).setCell (by first | (simp; done) | (simp; omega)) _).setCell (by first | (simp; done) | (simp; omega)) _)
theorem sComplexOf_yes (m : Nat) (a : Option Addr) (n c : Nat) (l : List Nat) (w : World) (h : IntsAt w a n (up l)) (hm : m ≤ 6) (hA : Anti m (up l)) (hl : ∀ t ∈ l, t < 64) :
    Calls Try.prog 54 #[.agg #[.int .i64 m, .slice a n c]] w (RetBox2 w m (up (maxL (apart l (2 ^ m)))) true) := by
  have hx : IntsAt ((w.alloc (.cells #[.int .i64 m, .slice a n c] 57)).alloc (.cells #[.int .i64 0, .slice none 0 0] 27)) a n (up l) := h.keep (by repeat (first | exact Below.refl _ _ | assumption | refine Below.setCell ?_ (by first | omega | (simp; done) | (simp; omega)) _ | refine Below.alloc ?_ (by first | omega | (simp; done) | (simp; omega)) _ | apply Below.drew))
  have Hx := Lib.hid hx; have HA := Lib.hid hA; have Hl := Lib.hid hl
  have xA := (BoxF.new w (.int .i64 m) (.slice a n c) 57).alloc (.cells #[.int .i64 0, .slice none 0 0] 27)
  have xR := BoxF.new (w.alloc (.cells #[.int .i64 m, .slice a n c] 57)) (.int .i64 0) (.slice none 0 0) 27
  have e2 : (w.alloc (.cells #[.int .i64 m, .slice a n c] 57)).heap.size = w.heap.size + 1 := by simp
  rw [e2] at xR
  have XR := Lib.hid xR; have XA := Lib.hid xA
  clear hx h hA hl xA xR e2
  go_enter Try.func54, Try.ntmps54
  go_wp2_with fail
  refine (sIsIdeal_any m a n c _ _ Hx.out true (by simp [HA.out])).mono ?_
  rintro e w1 ⟨rfl, hb⟩
  have HB : Hid (Below w.heap.size w w1) := Lib.hid (Below.trans (by repeat (first | exact Below.refl _ _ | assumption | refine Below.setCell ?_ (by first | omega | (simp; done) | (simp; omega)) _ | refine Below.alloc ?_ (by first | omega | (simp; done) | (simp; omega)) _ | apply Below.drew)) (hb.mono (by simp <;> omega)))
  have XR1 := Lib.hid (XR.out.keep hb (by simp))
  obtain ⟨p0, p1, _, _, _⟩ := XA.out.keep hb (by simp; omega)
  have hz : w.heap.size + 2 ≤ w1.heap.size := by have := hb.size; simp at this; omega
  have Hx1 := Lib.hid (Hx.out.keep hb)
  clear hb
  go_wp2_with fail
  refine (l7From_any m a n c l _ Hx1.out hm Hl.out).mono ?_
  rintro e w5 ⟨ad, d, r, rfl, hown, hb5⟩
  have XR5 := Lib.hid (XR1.out.keep hb5 (by omega))
  have HO5 := Lib.hid hown; have HB5 := Lib.hid hb5
  obtain ⟨r0, r1, _, _, _⟩ := XR5.out
  clear hown hb5
  go_wp2_with fail
  refine bodyPost_ret (v := .tuple #[.agg #[.int .i64 m, .slice ad d r], .bool true]) (by simp [results, Try.results54, go_sem, r0, r1]) rfl ⟨ad, d, r, rfl, ?_, ?_⟩
  · exact ((HO5.out.setBelow _ (by first | omega | (simp; omega))).setBelow _ (by first | omega | (simp; omega))).mono (by omega)
  · have := HB.out.size
    exact (((HB.out.trans (HB5.out.mono (by omega))).setCell (by first | (simp; done) | (simp; omega)) _).setCell (by first | (simp; done) | (simp; omega)) _)
end Go.Proofs.Ytplbegfebnnbaaa

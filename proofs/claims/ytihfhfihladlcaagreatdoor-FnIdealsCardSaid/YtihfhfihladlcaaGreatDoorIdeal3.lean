/- Texts of this claim, one behind the other: what each says stands at its head. -/
import Derived.Lib.LazyBuf
import Derived.Test.YtihfhfihladlcaaGreatDoorCore
import Derived.Test.YtihfhfihladlcaaGreatDoorFrom
import Derived.Test.YtihfhfihladlcaaGreatDoorIdeal2
import Derived.Test.YtihfhfihladlcaaGreatDoorNeigh
/- Contracts of QuotientBy, PrimesOf, CoversOf and ApartComplex, the program's and the reference's. -/
namespace Go.Proofs.YtihfhfihladlcaaGreatDoor
set_option maxRecDepth 20000
open Go.RowKit
set_option linter.unusedSimpArgs false
set_option linter.unusedVariables false

theorem pickN_Fam (q : Nat → Bool) (N : Nat) : Fam (pickN q N) := by unfold pickN; exact fam_Fam _
theorem pickN_bit {q : Nat → Bool} {N s : Nat} (hs : s < 64) : (pickN q N).testBit s = (decide (s < N) && q s) := by unfold pickN; rw [fam_at hs]
theorem cell_mid (w : World) (o o' : Obj) (v : Value) (T : Nat) : (((w.alloc o).alloc (.cells #[v] T)).alloc o').cell? ⟨w.heap.size + 1, 0, none⟩ = some v := by
  have e : w.heap.size + 1 = (w.alloc o).heap.size := by simp
  rw [World.cell?_alloc_lt _ _ _ (by simp), e]
  rw [World.cell?_alloc_at _ _ _ _ rfl]; rfl
/-- an ideal and a set of its points -/
def QuoP (p : Int) (xs : List Int) (s : Int) : Prop := Anti p xs ∧ isSetB p s = true

theorem quoFn_any (p : Int) (g g2 t s : Nat) (a : Option Addr) (n c : Nat) (l : List Nat) (w : World) (hs : s < 64) (ht : t < 64) (hb : BoxF w g (.int .i64 p) (.slice a n c)) (hb2 : w.cell? ⟨g2, 0, none⟩ = some (.int .i64 s)) (h : IntsAt w a n (up l)) (hl : ∀ t ∈ l, t < 64) :
    Calls Tryz.prog 95 #[.int .i64 t, .pointer (some ⟨g2, 0, none⟩), .pointer (some ⟨g, 0, none⟩)] w fun e w' => e = .returned (.bool (l.any (sub · (t ||| s)))) ∧ w = w' := by
  obtain ⟨c0, c1, _, _, _⟩ := hb
  obtain ⟨b, hb⟩ : ∃ b, b = l.any (sub · (t ||| s)) := ⟨_, rfl⟩
  have Hb := Lib.hid hb.symm
  rw [← hb]
  have Hh := Lib.hid h; have Hl := Lib.hid hl
  have hor := w_or t s ht hs
  have hlt : t ||| s < 64 := or_lt64 ht hs
  clear hb h hl
  go_enter Tryz.func95, Tryz.ntmps95
  go_wp2_with (go_at_call 96; (with_reducible refine (iAvoids_any (t ||| s) a n c l _ Hh.out hlt Hl.out b Hb.out).mono ?_); rintro e w' ⟨rfl, rfl⟩)
  go_ret
  exact ⟨ret_bool (by simp), rfl⟩
theorem iQuotientBy_no (p : Int) (a : Option Addr) (n c : Nat) (xs : List Int) (s : Int) (w : World) (h : IntsAt w a n xs) (hcap : n ≤ c) (hno : ¬ QuoP p xs s) :
    Calls Tryz.prog 19 #[.agg #[.int .i64 p, .slice a n c], .int .i64 s] w (RetBox2 w 0 [] false) := by
  have hx : IntsAt (((w.alloc (.cells #[.int .i64 p, .slice a n c] 26)).alloc (.cells #[.int .i64 s] 3)).alloc (.cells #[.int .i64 0, .slice none 0 0] 26)) a n xs := h.keep (by repeat (first | exact Below.refl _ _ | assumption | refine Below.setCell ?_ (by first | omega | (simp; done) | (simp; omega)) _ | refine Below.alloc ?_ (by first | omega | (simp; done) | (simp; omega)) _ | apply Below.drew))
  have Hx := Lib.hid hx
  have xA := ((BoxF.new w (.int .i64 p) (.slice a n c) 26).alloc (.cells #[.int .i64 s] 3)).alloc (.cells #[.int .i64 0, .slice none 0 0] 26)
  have xR := BoxF.new ((w.alloc (.cells #[.int .i64 p, .slice a n c] 26)).alloc (.cells #[.int .i64 s] 3)) (.int .i64 0) (.slice none 0 0) 26
  have xS : (((w.alloc (.cells #[.int .i64 p, .slice a n c] 26)).alloc (.cells #[.int .i64 s] 3)).alloc (.cells #[.int .i64 0, .slice none 0 0] 26)).cell? ⟨w.heap.size + 1, 0, none⟩ = some (.int .i64 s) := cell_mid _ _ _ _ _
  have XR := Lib.hid xR; have XA := Lib.hid xA; have XS := Lib.hid xS
  have Hcap := Lib.hid hcap
  clear hx h xR xA xS hcap
  by_cases h1 : Anti p xs
  · have h2 : isSetB p s = false := by
      cases hs : isSetB p s
      · rfl
      · exact absurd ⟨h1, hs⟩ hno
    have H1 := Lib.hid h1; clear h1 hno
    go_enter Tryz.func19, Tryz.ntmps19
    go_wp2_with fail
    refine (iIsIdeal_any p a n c xs _ Hx.out Hcap.out true (by simp [H1.out])).mono ?_
    rintro e w1 ⟨rfl, hb⟩
    have hbl : Below w.heap.size w w1 := Below.trans (by repeat (first | exact Below.refl _ _ | assumption | refine Below.setCell ?_ (by first | omega | (simp; done) | (simp; omega)) _ | refine Below.alloc ?_ (by first | omega | (simp; done) | (simp; omega)) _ | apply Below.drew)) (hb.mono (by simp <;> omega))
    obtain ⟨r0, r1, f0, f1, _⟩ := XR.out.keep hb (by simp)
    simp at r0 r1 f0 f1
    obtain ⟨p0, p1, _, _, _⟩ := XA.out.keep hb (by simp; omega)
    have hs1 := (hb.cell (p := ⟨w.heap.size + 1, 0, none⟩) (by simp)).trans XS.out
    have hz : w.heap.size + 3 ≤ w1.heap.size := by have := hb.size; simp at this; omega
    clear hb
    go_wp2_with (go_at_call 93; (with_reducible refine (IsSet_is _ _ _ _ h2).mono ?_); rintro e w' ⟨rfl, rfl⟩)
    refine bodyPost_ret (v := .tuple #[.agg #[.int .i64 0, .slice none 0 0], .bool false]) (by simp [results, Tryz.results19, go_sem, r0, r1]) rfl ⟨none, 0, 0, rfl, Own.nil _ _ _, (by repeat (first | exact Below.refl _ _ | assumption | refine Below.setCell ?_ (by first | omega | (simp; done) | (simp; omega)) _ | refine Below.alloc ?_ (by first | omega | (simp; done) | (simp; omega)) _ | apply Below.drew))⟩
  · have H1 := Lib.hid h1; clear h1 hno
    go_enter Tryz.func19, Tryz.ntmps19
    go_wp2_with fail
    refine (iIsIdeal_any p a n c xs _ Hx.out Hcap.out false (by simp [H1.out])).mono ?_
    rintro e w1 ⟨rfl, hb⟩
    have hbl : Below w.heap.size w w1 := Below.trans (by repeat (first | exact Below.refl _ _ | assumption | refine Below.setCell ?_ (by first | omega | (simp; done) | (simp; omega)) _ | refine Below.alloc ?_ (by first | omega | (simp; done) | (simp; omega)) _ | apply Below.drew)) (hb.mono (by simp <;> omega))
    obtain ⟨r0, r1, f0, f1, _⟩ := XR.out.keep hb (by simp)
    simp at r0 r1 f0 f1
    have hz : w.heap.size + 3 ≤ w1.heap.size := by have := hb.size; simp at this; omega
    clear hb
    go_wp2_with fail
    refine bodyPost_ret (v := .tuple #[.agg #[.int .i64 0, .slice none 0 0], .bool false]) (by simp [results, Tryz.results19, go_sem, r0, r1]) rfl ⟨none, 0, 0, rfl, Own.nil _ _ _, (by repeat (first | exact Below.refl _ _ | assumption | refine Below.setCell ?_ (by first | omega | (simp; done) | (simp; omega)) _ | refine Below.alloc ?_ (by first | omega | (simp; done) | (simp; omega)) _ | apply Below.drew))⟩
set_option maxRecDepth 100000 in
set_option maxHeartbeats 2000000 in
theorem iQuotientBy_yes (m : Nat) (a : Option Addr) (n c : Nat) (l : List Nat) (s : Nat) (w : World) (h : IntsAt w a n (up l)) (hcap : n ≤ c) (hm : m ≤ 6) (hs : s < 64) (h1 : Anti m (up l)) (h2 : isSetB m s = true) (hl : ∀ t ∈ l, t < 64) :
    Calls Tryz.prog 19 #[.agg #[.int .i64 m, .slice a n c], .int .i64 s] w (RetBox2 w m (up (minL fun t => decide (t < 2 ^ m) && l.any (sub · (t ||| s)))) true) := by
  have hx : IntsAt (((w.alloc (.cells #[.int .i64 m, .slice a n c] 26)).alloc (.cells #[.int .i64 s] 3)).alloc (.cells #[.int .i64 0, .slice none 0 0] 26)) a n (up l) := h.keep (by repeat (first | exact Below.refl _ _ | assumption | refine Below.setCell ?_ (by first | omega | (simp; done) | (simp; omega)) _ | refine Below.alloc ?_ (by first | omega | (simp; done) | (simp; omega)) _ | apply Below.drew))
  have Hx := Lib.hid hx
  have xA := ((BoxF.new w (.int .i64 m) (.slice a n c) 26).alloc (.cells #[.int .i64 s] 3)).alloc (.cells #[.int .i64 0, .slice none 0 0] 26)
  have xR := BoxF.new ((w.alloc (.cells #[.int .i64 m, .slice a n c] 26)).alloc (.cells #[.int .i64 s] 3)) (.int .i64 0) (.slice none 0 0) 26
  have e2 : ((w.alloc (.cells #[.int .i64 m, .slice a n c] 26)).alloc (.cells #[.int .i64 s] 3)).heap.size = w.heap.size + 2 := by simp
  rw [e2] at xR
  have xS : (((w.alloc (.cells #[.int .i64 m, .slice a n c] 26)).alloc (.cells #[.int .i64 s] 3)).alloc (.cells #[.int .i64 0, .slice none 0 0] 26)).cell? ⟨w.heap.size + 1, 0, none⟩ = some (.int .i64 s) := cell_mid _ _ _ _ _
  have XR := Lib.hid xR; have XA := Lib.hid xA; have XS := Lib.hid xS
  have Hcap := Lib.hid hcap
  have H1 := Lib.hid h1; have Hl := Lib.hid hl
  clear hx h xR xA xS hcap h1 hl e2
  have hF := pickN_Fam (fun t => l.any (sub · (t ||| s))) (2 ^ m)
  have hcong := minL_congr (p := (pickN (fun t => l.any (sub · (t ||| s))) (2 ^ m)).testBit) (q := fun t => decide (t < 2 ^ m) && l.any (sub · (t ||| s))) (fun t ht => pickN_bit ht)
  obtain ⟨F, hFe⟩ : ∃ F, F = pickN (fun t => l.any (sub · (t ||| s))) (2 ^ m) := ⟨_, rfl⟩
  rw [← hFe] at hF hcong
  have HFe := Lib.hid hFe; have Hcong := Lib.hid hcong
  clear hFe hcong
  go_enter Tryz.func19, Tryz.ntmps19
  go_wp2_with fail
  refine (iIsIdeal_any m a n c _ _ Hx.out Hcap.out true (by simp [H1.out])).mono ?_
  rintro e w1 ⟨rfl, hb⟩
  have HB : Hid (Below w.heap.size w w1) := Lib.hid (Below.trans (by repeat (first | exact Below.refl _ _ | assumption | refine Below.setCell ?_ (by first | omega | (simp; done) | (simp; omega)) _ | refine Below.alloc ?_ (by first | omega | (simp; done) | (simp; omega)) _ | apply Below.drew)) (hb.mono (by simp <;> omega)))
  have XR1 := Lib.hid (XR.out.keep hb (by simp))
  have XA1 := Lib.hid (XA.out.keep hb (by simp; omega))
  obtain ⟨p0, p1, _, _, _⟩ := XA1.out
  have hs1 := (hb.cell (p := ⟨w.heap.size + 1, 0, none⟩) (by simp)).trans XS.out
  have hz : w.heap.size + 3 ≤ w1.heap.size := by have := hb.size; simp at this; omega
  have Hx1 := Lib.hid (Hx.out.keep hb)
  clear hb
  go_wp2_with (go_at_call 93; (with_reducible refine (IsSet_is _ _ _ _ h2).mono ?_); rintro e w' ⟨rfl, rfl⟩)
  have Hx2 := Lib.hid (Hx1.out.keep (Below.drew (Below.refl _ _)))
  have XA2 := Lib.hid (XA1.out.drew); have XR2 := Lib.hid (XR1.out.drew)
  have hs2 : w1.drew.cell? ⟨w.heap.size + 1, 0, none⟩ = some (.int .i64 s) := by simpa using hs1
  have Hs2 := Lib.hid hs2
  have hn1 : w.heap.size + 1 + 1 ≠ w.heap.size := by omega
  have hn2 : w.heap.size ≠ w.heap.size + 1 + 1 := by omega
  have hn3 : ¬ w.heap.size = w.heap.size + 1 + 1 := by omega
  clear hs2
  go_region_held3 (fun W => W.cell? ⟨w.heap.size, 0, none⟩ = some (.int .i64 m))
    (first | exact p0 | exact y0 | go_keep)
    (first
      | (go_simp; go_at_call 94; (refine (pickSets_any 95 #[.pointer (some ⟨w.heap.size + 1, 0, none⟩), .pointer (some ⟨w.heap.size, 0, none⟩)] (fun t => l.any (sub · (t ||| s))) m _ hm (fun _ _ => rfl) (fun t ht => quoFn_any m w.heap.size (w.heap.size + 1) t s a n c l _ hs ht XA2.out Hs2.out Hx2.out Hl.out)).mono ?_); rw [← HFe.out]; rintro e we ⟨rfl, rfl⟩)
      | (go_simp; go_at_call 80; (with_reducible refine (idealOfSets_any m F _ hF).mono ?_); rintro e w5 ⟨ad, d, r, rfl, hown, hb5⟩; have XR5 := Lib.hid (XR2.out.keep hb5 (by simp; omega)); have HO5 := Lib.hid hown; have HB5 := Lib.hid hb5; have XA5 := Lib.hid (XA2.out.keep hb5 (by simp; omega)); obtain ⟨y0, y1, _, _, _⟩ := XA5.out; obtain ⟨r0, r1, _, _, _⟩ := XR5.out; clear hb5 hown))
  all_goals (go_wp2_with fail)
  refine bodyPost_ret (v := .tuple #[.agg #[.int .i64 m, .slice ad d r], .bool true]) (by simp [results, Tryz.results19, go_sem, r0, r1]) rfl ⟨ad, d, r, rfl, ?_, ?_⟩
  · have hO := HO5.out
    rw [Hcong.out] at hO
    exact ((hO.setBelow _ (by first | omega | (simp; omega))).setBelow _ (by first | omega | (simp; omega))).mono (by first | omega | (simp; omega))
  · have hB5 := HB5.out
    have hd : Below w.heap.size w1 w1.drew := (Below.refl _ _).drew
    exact ((((HB.out.trans hd).trans (hB5.mono (by first | omega | (simp; omega)))).setCell (by first | (simp; done) | (simp; omega)) _).setCell (by first | (simp; done) | (simp; omega)) _)

theorem sQuotientBy_no (p : Int) (a : Option Addr) (n c : Nat) (xs : List Int) (s : Int) (w : World) (h : IntsAt w a n xs) (hno : ¬ QuoP p xs s) :
    Calls Tryz.prog 20 #[.agg #[.int .i64 p, .slice a n c], .int .i64 s] w (RetBox2 w 0 [] false) := by
  have hx : IntsAt ((w.alloc (.cells #[.int .i64 p, .slice a n c] 26)).alloc (.cells #[.int .i64 0, .slice none 0 0] 26)) a n xs := h.keep (by repeat (first | exact Below.refl _ _ | assumption | refine Below.setCell ?_ (by first | omega | (simp; done) | (simp; omega)) _ | refine Below.alloc ?_ (by first | omega | (simp; done) | (simp; omega)) _ | apply Below.drew))
  have Hx := Lib.hid hx
  have xA := (BoxF.new w (.int .i64 p) (.slice a n c) 26).alloc (.cells #[.int .i64 0, .slice none 0 0] 26)
  have xR := BoxF.new (w.alloc (.cells #[.int .i64 p, .slice a n c] 26)) (.int .i64 0) (.slice none 0 0) 26
  have XR := Lib.hid xR; have XA := Lib.hid xA
  clear hx h xR xA
  by_cases h1 : Anti p xs
  · have h2 : isSetB p s = false := by
      cases hs : isSetB p s
      · rfl
      · exact absurd ⟨h1, hs⟩ hno
    have H1 := Lib.hid h1; clear h1 hno
    go_enter Tryz.func20, Tryz.ntmps20
    go_wp2_with fail
    refine (sIsIdeal_any p a n c xs _ Hx.out true (by simp [H1.out])).mono ?_
    rintro e w1 ⟨rfl, hb⟩
    have hbl : Below w.heap.size w w1 := Below.trans (by repeat (first | exact Below.refl _ _ | assumption | refine Below.setCell ?_ (by first | omega | (simp; done) | (simp; omega)) _ | refine Below.alloc ?_ (by first | omega | (simp; done) | (simp; omega)) _ | apply Below.drew)) (hb.mono (by simp <;> omega))
    obtain ⟨r0, r1, f0, f1, _⟩ := XR.out.keep hb (by simp)
    simp at r0 r1 f0 f1
    obtain ⟨p0, p1, _, _, _⟩ := XA.out.keep hb (by simp; omega)
    have hz : w.heap.size + 2 ≤ w1.heap.size := by have := hb.size; simp at this; omega
    clear hb
    go_wp2_with (go_at_call 36; (with_reducible refine (sIsSet_is _ _ _ _ h2).mono ?_); rintro e w' ⟨rfl, rfl⟩)
    refine bodyPost_ret (v := .tuple #[.agg #[.int .i64 0, .slice none 0 0], .bool false]) (by simp [results, Tryz.results20, go_sem, r0, r1]) rfl ⟨none, 0, 0, rfl, Own.nil _ _ _, (by repeat (first | exact Below.refl _ _ | assumption | refine Below.setCell ?_ (by first | omega | (simp; done) | (simp; omega)) _ | refine Below.alloc ?_ (by first | omega | (simp; done) | (simp; omega)) _ | apply Below.drew))⟩
  · have H1 := Lib.hid h1; clear h1 hno
    go_enter Tryz.func20, Tryz.ntmps20
    go_wp2_with fail
    refine (sIsIdeal_any p a n c xs _ Hx.out false (by simp [H1.out])).mono ?_
    rintro e w1 ⟨rfl, hb⟩
    have hbl : Below w.heap.size w w1 := Below.trans (by repeat (first | exact Below.refl _ _ | assumption | refine Below.setCell ?_ (by first | omega | (simp; done) | (simp; omega)) _ | refine Below.alloc ?_ (by first | omega | (simp; done) | (simp; omega)) _ | apply Below.drew)) (hb.mono (by simp <;> omega))
    obtain ⟨r0, r1, f0, f1, _⟩ := XR.out.keep hb (by simp)
    simp at r0 r1 f0 f1
    have hz : w.heap.size + 2 ≤ w1.heap.size := by have := hb.size; simp at this; omega
    clear hb
    go_wp2_with fail
    refine bodyPost_ret (v := .tuple #[.agg #[.int .i64 0, .slice none 0 0], .bool false]) (by simp [results, Tryz.results20, go_sem, r0, r1]) rfl ⟨none, 0, 0, rfl, Own.nil _ _ _, (by repeat (first | exact Below.refl _ _ | assumption | refine Below.setCell ?_ (by first | omega | (simp; done) | (simp; omega)) _ | refine Below.alloc ?_ (by first | omega | (simp; done) | (simp; omega)) _ | apply Below.drew))⟩
theorem w_minus : ∀ g : Nat, g < 64 → ∀ s : Nat, s < 64 → IntKind.i64.wrap ((g : Int) - ((g &&& s : Nat) : Int)) = ((sdiff g s : Nat) : Int) := by decide +kernel
set_option maxRecDepth 100000 in
set_option maxHeartbeats 2000000 in
theorem sQuotientBy_yes (m : Nat) (a : Option Addr) (n c : Nat) (l : List Nat) (s : Nat) (w : World) (h : IntsAt w a n (up l)) (hm : m ≤ 6) (hn : n ≤ 64) (hs : s < 64) (h1 : Anti m (up l)) (h2 : isSetB m s = true) (hl : ∀ t ∈ l, t < 64) :
    Calls Tryz.prog 20 #[.agg #[.int .i64 m, .slice a n c], .int .i64 s] w (RetBox2 w m (up (minL (l.map fun g => sdiff g s).contains)) true) := by
  have hx : IntsAt ((w.alloc (.cells #[.int .i64 m, .slice a n c] 26)).alloc (.cells #[.int .i64 0, .slice none 0 0] 26)) a n (up l) := h.keep (by repeat (first | exact Below.refl _ _ | assumption | refine Below.setCell ?_ (by first | omega | (simp; done) | (simp; omega)) _ | refine Below.alloc ?_ (by first | omega | (simp; done) | (simp; omega)) _ | apply Below.drew))
  have Hx := Lib.hid hx
  have xA := (BoxF.new w (.int .i64 m) (.slice a n c) 26).alloc (.cells #[.int .i64 0, .slice none 0 0] 26)
  have xR := BoxF.new (w.alloc (.cells #[.int .i64 m, .slice a n c] 26)) (.int .i64 0) (.slice none 0 0) 26
  have e2 : (w.alloc (.cells #[.int .i64 m, .slice a n c] 26)).heap.size = w.heap.size + 1 := by simp
  rw [e2] at xR
  have XR := Lib.hid xR; have XA := Lib.hid xA
  have H1 := Lib.hid h1; have Hl := Lib.hid hl
  have hll := h.len
  rw [up_len] at hll
  have Hll := Lib.hid hll
  have hlk : ∀ x ∈ l.map (fun g => sdiff g s), x < 64 := fun x hx => by
    obtain ⟨g, hg, rfl⟩ := List.mem_map.1 hx
    exact sdiff_lt (hl g hg)
  have Hlk := Lib.hid hlk
  clear hx h xR xA h1 hl e2 hll hlk
  go_enter Tryz.func20, Tryz.ntmps20
  go_wp2_with fail
  refine (sIsIdeal_any m a n c _ _ Hx.out true (by simp [H1.out])).mono ?_
  rintro e w1 ⟨rfl, hb⟩
  have HB : Hid (Below w.heap.size w w1) := Lib.hid (Below.trans (by repeat (first | exact Below.refl _ _ | assumption | refine Below.setCell ?_ (by first | omega | (simp; done) | (simp; omega)) _ | refine Below.alloc ?_ (by first | omega | (simp; done) | (simp; omega)) _ | apply Below.drew)) (hb.mono (by simp <;> omega)))
  have XR1 := Lib.hid (XR.out.keep hb (by simp))
  have XA1 := Lib.hid (XA.out.keep hb (by simp; omega))
  obtain ⟨p0, p1, _, _, _⟩ := XA1.out
  have hz : w.heap.size + 2 ≤ w1.heap.size := by have := hb.size; simp at this; omega
  have Hx1 := Lib.hid (Hx.out.keep hb)
  clear hb
  go_wp2_with (go_at_call 36; (with_reducible refine (sIsSet_is _ _ _ _ h2).mono ?_); rintro e w' ⟨rfl, rfl⟩)
  clear p0 p1
  go_loopw [6, 7] (fun f i wr => ∃ I : Nat, I ≤ n ∧ i = .int .i64 I ∧ Below w1.heap.size w1 wr ∧ ∃ ad K d, f = .slice ad K d ∧ K ≤ I ∧ Own 3 wr w1.heap.size ad K d (up ((l.take I).map fun g => sdiff g s))) (fun _ i _ => n - (intOf i).toNat)
  case atStart => exact ⟨0, Nat.zero_le _, rfl, (by repeat (first | exact Below.refl _ _ | assumption | refine Below.setCell ?_ (by first | omega | (simp; done) | (simp; omega)) _ | refine Below.alloc ?_ (by first | omega | (simp; done) | (simp; omega)) _ | apply Below.drew)), _, 0, 0, rfl, by omega, Own.empty _ _ _ (by first | exact Nat.le_refl _ | simp)⟩
  case round =>
    obtain ⟨I, hI, rfl, hb, ad, K, d, rfl, hK, hown⟩ := hrel
    have HBO := Lib.hid hb; have HO := Lib.hid hown
    have XA2 := Lib.hid (XA1.out.keep hb (by omega))
    have XR2 := Lib.hid (XR1.out.keep hb (by omega))
    have Hx2 := Lib.hid (Hx1.out.keep hb)
    obtain ⟨p0, p1, _, _, _⟩ := XA2.out
    have hzr : w1.heap.size ≤ wr.heap.size := hb.size
    clear hb hown
    by_cases hlt : I < n
    · obtain ⟨b1, o1, rfl, hc1⟩ := Hx2.out.cells (by omega)
      have hci := hc1 I hlt
      rw [nth_up] at hci
      clear hc1
      have ht := Hl.out _ (nthN_mem (xs := l) (k := I) (by rw [Hll.out]; omega))
      have hand := w_and (nthN l I) s ht hs
      have hmin := w_minus (nthN l I) ht s hs
      have Hone := Lib.hid (IntsAt.one wr.drew ((sdiff (nthN l I) s : Nat) : Int) 3)
      have HOd := Lib.hid (HO.out.drew.alloc (.cells #[.int .i64 ((sdiff (nthN l I) s : Nat) : Int)] 3))
      have hbd : Below w1.heap.size wr (wr.drew.alloc (.cells #[.int .i64 ((sdiff (nthN l I) s : Nat) : Int)] 3)) := ((Below.refl _ wr).drew).alloc (by simpa using hzr) _
      have HBD := Lib.hid hbd
      clear hbd
      go_wp2_with fail
      go_region_held3 (fun W => W.cell? ⟨w.heap.size, 1, none⟩ = some (.slice (some ⟨b1, o1, none⟩) n c) ∧ W.cell? ⟨b1, o1 + I, none⟩ = some (.int .i64 (nthN l I)))
        (first | exact ⟨p1, hci⟩ | exact ⟨s1, hck⟩ | go_keep)
        (first
          | (refine step_ap rfl _ _ rfl w1.heap.size _ _ _ _ rfl HOd.out _ _ _ _ rfl Hone.out (Fit.one _) (by omega) (by simp; omega) ?_; intro ad2 d2 w2 hown2 hb2; have HO2 := Lib.hid hown2; have hBB := HBO.out.trans (HBD.out.trans hb2); have XA3 := Lib.hid (XA1.out.keep hBB (by omega)); have Hx3 := Lib.hid (Hx1.out.keep hBB); have HB2 := Lib.hid hBB; have hck := Hx3.out.cellAt I hlt; rw [nth_up] at hck; obtain ⟨s0, s1, _, _, _⟩ := XA3.out; clear hown2 hb2 hBB))
      go_wp2_with fail
      go_roundw
      case rel =>
        refine ⟨I + 1, by omega, by go_num, HB2.out, ad2, K + 1, d2, rfl, by omega, ?_⟩
        have := HO2.out
        rw [nthN_take l I (by rw [Hll.out]; omega), List.map_append, up_append]
        exact this
      case measure => simp [intOf]; omega
    · obtain rfl : I = n := by omega
      have hii : ¬ ((I : Int) < I) := by omega
      have HOf : Hid (Own 3 wr w1.heap.size ad K d (up (l.map fun g => sdiff g s))) := Lib.hid (by have := HO.out; rw [← Hll.out, List.take_length] at this; exact this)
      go_wp2_with fail
      refine (l29Make_any m ad K d _ _ HOf.out.reads Hlk.out).mono ?_
      rintro e w5 ⟨ad5, d5, r5, rfl, hown, hb5⟩
      have XR5 := Lib.hid (XR2.out.keep hb5 (by omega))
      have HO5 := Lib.hid hown; have HB5 := Lib.hid hb5
      obtain ⟨r0, r1, _, _, _⟩ := XR5.out
      clear hown hb5
      go_wp2_with fail
      refine bodyPost_ret (v := .tuple #[.agg #[.int .i64 m, .slice ad5 d5 r5], .bool true]) (by simp [results, Tryz.results20, go_sem, r0, r1]) rfl ⟨ad5, d5, r5, rfl, ?_, ?_⟩
      · have := HB.out.size
        exact ((HO5.out.setBelow _ (by first | omega | (simp; omega))).setBelow _ (by first | omega | (simp; omega))).mono (by omega)
      · have := HB.out.size
        exact ((((HB.out.trans (HBO.out.mono (by omega))).trans (HB5.out.mono (by omega))).setCell (by first | (simp; done) | (simp; omega)) _).setCell (by first | (simp; done) | (simp; omega)) _)

end Go.Proofs.YtihfhfihladlcaaGreatDoor

/- Contracts of slices.Clone, CoversOf and PrimesOf, the program's and the reference's. -/
namespace Go.Proofs.YtihfhfihladlcaaGreatDoor
set_option maxRecDepth 20000
open Go.RowKit
set_option linter.unusedSimpArgs false
set_option linter.unusedVariables false

set_option maxRecDepth 100000 in
theorem clone_any (a : Option Addr) (n c : Nat) (xs : List Int) (w : World) (h : IntsAt w a n xs) (hf : Fit a n c) (hn : n < 1000000000) :
    Calls Tryz.prog 102 #[.slice a n c] w (RetInts w xs) := by
  cases a with
  | none =>
    have hc := hf.nil rfl
    have hn0 : n = 0 := by have := hf.cap; omega
    subst hc; subst hn0
    have hxs : xs = [] := List.eq_nil_of_length_eq_zero h.len
    subst hxs
    clear h hf hn
    have hnil := run_eql_slice_nil (P := Tryz.prog) (t := 24) (e := 3) (a := none) (l := 0) (c := 0) (h := Tryz.underlying24)
    go_enter Tryz.func102, Tryz.ntmps102
    go_wp2_with fail
    go_ret
    exact ⟨none, 0, 0, rfl, Own.nil _ _ _, Below.refl _ _⟩
  | some g =>
    have Hx := Lib.hid h; have Hf := Lib.hid hf
    clear h hf
    have Hx1 := Lib.hid (Hx.out.keep (w' := w.alloc (.cells #[] 3)) (by repeat (first | exact Below.refl _ _ | assumption | refine Below.setCell ?_ (by first | omega | (simp; done) | (simp; omega)) _ | refine Below.alloc ?_ (by first | omega | (simp; done) | (simp; omega)) _ | apply Below.drew)))
    have hnil := run_eql_slice_nil (P := Tryz.prog) (t := 24) (e := 3) (a := some g) (l := n) (c := c) (h := Tryz.underlying24)
    go_enter Tryz.func102, Tryz.ntmps102
    go_wp2_with (at_builtin; refine list_ap rfl _ _ rfl w.heap.size _ _ _ _ rfl (Own.empty _ _ _ (Nat.le_refl _)) _ _ _ _ rfl Hx1.out Hf.out (by omega) (by simp) ?_; intro ad' c' w' hown' hb'; have HO := Lib.hid hown'; have HB := Lib.hid hb'; clear hown' hb')
    go_ret
    refine ⟨ad', 0 + n, c', by first | rfl | simp, ?_, ?_⟩
    · have := HO.out; simpa using this
    · exact ((Below.refl _ _).alloc (Nat.le_refl _) _).trans HB.out

theorem coverFn_any (g t : Nat) (a : Option Addr) (n c : Nat) (l : List Nat) (w : World) (ht : t < 64) (hb : w.cell? ⟨g, 0, none⟩ = some (.slice a n c)) (h : IntsAt w a n (up l)) (hl : ∀ t ∈ l, t < 64) :
    Calls Tryz.prog 173 #[.int .i64 t, .pointer (some ⟨g, 0, none⟩)] w fun e w' => e = .returned (.bool (l.all fun u => t &&& u != 0)) ∧ w = w' := by
  have hn := h.small
  have hlen : l.length = n := by rw [← h.len, up_len]
  have Hlen := Lib.hid hlen; clear hlen
  have Hh := Lib.hid h; have Hl := Lib.hid hl
  clear h hl
  obtain ⟨b, hb'⟩ : ∃ b, b = l.all fun u => t &&& u != 0 := ⟨_, rfl⟩
  have Hb := Lib.hid hb'
  rw [← hb']
  clear hb'
  go_enter Tryz.func173, Tryz.ntmps173
  go_wp2_with fail
  go_loop [5, 8] (fun _ i => ∃ k : Nat, k ≤ n ∧ i = .int .i64 k ∧ Hid (∀ j, j < k → (t &&& nthN l j != 0) = true)) (fun _ i => n - (intOf i).toNat)
  case atStart => exact ⟨0, Nat.zero_le _, rfl, Lib.hid fun j hj => absurd hj (Nat.not_lt_zero _)⟩
  case round =>
    obtain ⟨k, hk, rfl, hok⟩ := hrel
    by_cases hlt : k < n
    · obtain ⟨b1, o1, rfl, hc⟩ := Hh.out.cells (by omega)
      have hck := hc k hlt
      rw [nth_up] at hck
      have hu := Hl.out _ (nthN_mem (xs := l) (k := k) (by rw [Hlen.out]; exact hlt))
      obtain ⟨u, hue⟩ : ∃ u, u = nthN l k := ⟨_, rfl⟩
      rw [← hue] at hck hu
      have Hue := Lib.hid hue
      have hand := w_and t u ht hu
      clear hc hue
      cases hst : (((t &&& u : Nat) : Int) == 0)
      · go_wp2_with fail
        go_round
        case rel =>
          refine ⟨k + 1, by omega, by go_num, Lib.hid fun j hj => ?_⟩
          rcases Nat.lt_or_ge j k with h | h
          · exact hok.out j h
          · obtain rfl : j = k := by omega
            rw [← Hue.out]; rw [show (0 : Int) = ((0 : Nat) : Int) from rfl, castBeq] at hst; unfold bne; rw [hst]; rfl
        case measure => simp [intOf]; omega
      · have hbf : b = false := by
          rw [Hb.out, List.all_eq_false]
          refine ⟨u, by rw [Hue.out]; exact nthN_mem (by rw [Hlen.out]; exact hlt), ?_⟩
          rw [show (0 : Int) = ((0 : Nat) : Int) from rfl, castBeq] at hst
          unfold bne; rw [hst]; simp
        subst hbf
        go_wp2_with fail
        go_ret
        exact ⟨rfl, rfl⟩
    · obtain rfl : k = n := by omega
      have hbt : b = true := by
        rw [Hb.out, List.all_eq_true]
        intro u hu
        obtain ⟨j, hj, rfl⟩ := List.mem_iff_getElem.1 hu
        have := hok.out j (by rw [← Hlen.out]; exact hj)
        rwa [nthN_eq hj] at this
      subst hbt
      go_wp2_with fail
      go_ret
      exact ⟨rfl, rfl⟩
set_option maxRecDepth 100000 in
theorem iCovers_yes (m : Nat) (a : Option Addr) (n c : Nat) (l : List Nat) (w : World) (h : IntsAt w a n (up l)) (hm : m ≤ 6) (hok : SetsOk m (up l)) (hl : ∀ t ∈ l, t < 64) :
    Calls Tryz.prog 101 #[.int .i64 m, .slice a n c] w (RetInts w (up (minL (meets l (2 ^ m))))) := by
  have hx : IntsAt (w.alloc (.cells #[.slice a n c] 24)) a n (up l) := h.keep (by repeat (first | exact Below.refl _ _ | assumption | refine Below.setCell ?_ (by first | omega | (simp; done) | (simp; omega)) _ | refine Below.alloc ?_ (by first | omega | (simp; done) | (simp; omega)) _ | apply Below.drew))
  have hcell : (w.alloc (.cells #[.slice a n c] 24)).cell? ⟨w.heap.size, 0, none⟩ = some (.slice a n c) := by simp
  have Hx := Lib.hid hx; have Hok := Lib.hid hok; have Hl := Lib.hid hl; have Hcell := Lib.hid hcell
  clear hx h hok hl hcell
  have hF := pickN_Fam (fun t => l.all fun u => t &&& u != 0) (2 ^ m)
  have hcong := minL_congr (p := (pickN (fun t => l.all fun u => t &&& u != 0) (2 ^ m)).testBit) (q := meets l (2 ^ m)) (fun t ht => by rw [pickN_bit ht]; rfl)
  obtain ⟨F, hFe⟩ : ∃ F, F = pickN (fun t => l.all fun u => t &&& u != 0) (2 ^ m) := ⟨_, rfl⟩
  rw [← hFe] at hF hcong
  have HFe := Lib.hid hFe; have Hcong := Lib.hid hcong
  clear hFe hcong
  go_enter Tryz.func101, Tryz.ntmps101
  go_wp2_with (go_at_call 98; (with_reducible refine (areSets_any m a n c _ _ Hx.out true (by simp [Hok.out])).mono ?_); rintro e w' ⟨rfl, rfl⟩)
  refine (pickSets_any 173 #[.pointer (some ⟨w.heap.size, 0, none⟩)] (fun t => l.all fun u => t &&& u != 0) m _ hm (fun _ _ => rfl) (fun t ht => coverFn_any w.heap.size t a n c l _ ht Hcell.out Hx.out Hl.out)).mono ?_
  rw [← HFe.out]
  rintro e we ⟨rfl, rfl⟩
  go_wp2_with fail
  refine (minimalIn_any F _ hF).mono ?_
  rw [Hcong.out]
  rintro e w1 ⟨ad, k, d, rfl, hown, hb⟩
  have HO := Lib.hid (hown.mono (show w.heap.size ≤ _ by simp)); have HB := Lib.hid (show Below w.heap.size w w1 from Below.trans (by repeat (first | exact Below.refl _ _ | assumption | refine Below.setCell ?_ (by first | omega | (simp; done) | (simp; omega)) _ | refine Below.alloc ?_ (by first | omega | (simp; done) | (simp; omega)) _ | apply Below.drew)) (hb.mono (by simp)))
  clear hown hb
  go_wp2_with fail
  go_ret
  exact ⟨ad, k, d, rfl, HO.out, HB.out⟩

theorem iPrimes_no (p : Int) (a : Option Addr) (n c : Nat) (xs : List Int) (w : World) (h : IntsAt w a n xs) (hcap : n ≤ c) (hno : ¬ Anti p xs) :
    Calls Tryz.prog 27 #[.agg #[.int .i64 p, .slice a n c]] w (RetInts w []) := by
  have hx : IntsAt (w.alloc (.cells #[.int .i64 p, .slice a n c] 26)) a n xs := h.keep (by repeat (first | exact Below.refl _ _ | assumption | refine Below.setCell ?_ (by first | omega | (simp; done) | (simp; omega)) _ | refine Below.alloc ?_ (by first | omega | (simp; done) | (simp; omega)) _ | apply Below.drew))
  have Hx := Lib.hid hx; clear hx h
  have Hno := Lib.hid hno; clear hno
  have Hcap := Lib.hid hcap; clear hcap
  go_enter Tryz.func27, Tryz.ntmps27
  go_wp2_with fail
  refine (iIsIdeal_any p a n c xs _ Hx.out Hcap.out false (by simp [Hno.out])).mono ?_
  rintro e w1 ⟨rfl, hb⟩
  have HB : Hid (Below w.heap.size w w1) := Lib.hid (Below.trans (by repeat (first | exact Below.refl _ _ | assumption | refine Below.setCell ?_ (by first | omega | (simp; done) | (simp; omega)) _ | refine Below.alloc ?_ (by first | omega | (simp; done) | (simp; omega)) _ | apply Below.drew)) (hb.mono (by simp <;> omega)))
  clear hb
  go_wp2_with fail
  go_ret
  exact ⟨none, 0, 0, rfl, Own.nil _ _ _, HB.out⟩
set_option maxRecDepth 100000 in
set_option maxHeartbeats 2000000 in
theorem iPrimes_yes (m : Nat) (a : Option Addr) (n c : Nat) (l : List Nat) (w : World) (h : IntsAt w a n (up l)) (hf : Fit a n c) (hm : m ≤ 6) (hn : n ≤ 64) (hA : Anti m (up l)) (hok : SetsOk m (up l)) (hl : ∀ t ∈ l, t < 64) :
    Calls Tryz.prog 27 #[.agg #[.int .i64 m, .slice a n c]] w (RetInts w (up (minL (meets l (2 ^ m))))) := by
  have hx : IntsAt (w.alloc (.cells #[.int .i64 m, .slice a n c] 26)) a n (up l) := h.keep (by repeat (first | exact Below.refl _ _ | assumption | refine Below.setCell ?_ (by first | omega | (simp; done) | (simp; omega)) _ | refine Below.alloc ?_ (by first | omega | (simp; done) | (simp; omega)) _ | apply Below.drew))
  have Hx := Lib.hid hx; have HA := Lib.hid hA; have Hf := Lib.hid hf; have Hl := Lib.hid hl; have Hok := Lib.hid hok
  have xA := BoxF.new w (.int .i64 m) (.slice a n c) 26
  have XA := Lib.hid xA
  clear hx h hA hf hl xA hok
  go_enter Tryz.func27, Tryz.ntmps27
  go_wp2_with fail
  refine (iIsIdeal_any m a n c _ _ Hx.out Hf.out.cap true (by simp [HA.out])).mono ?_
  rintro e w1 ⟨rfl, hb⟩
  have HB : Hid (Below w.heap.size w w1) := Lib.hid (Below.trans (by repeat (first | exact Below.refl _ _ | assumption | refine Below.setCell ?_ (by first | omega | (simp; done) | (simp; omega)) _ | refine Below.alloc ?_ (by first | omega | (simp; done) | (simp; omega)) _ | apply Below.drew)) (hb.mono (by simp <;> omega)))
  have XA1 := Lib.hid (XA.out.keep hb (by simp))
  obtain ⟨p0, p1, _, _, _⟩ := XA1.out
  have hz : w.heap.size + 1 ≤ w1.heap.size := by have := hb.size; simp at this; omega
  have Hx1 := Lib.hid (Hx.out.keep hb)
  clear hb
  go_wp2_with fail
  have Hx2 := Lib.hid (Hx1.out.keep (Below.drew (Below.refl _ _)))
  have XA2 := Lib.hid (XA1.out.drew)
  go_region_held3 (fun W => W.cell? ⟨w.heap.size, 0, none⟩ = some (.int .i64 m) ∧ W.cell? ⟨w.heap.size, 1, none⟩ = some (.slice a n c))
    (first | exact ⟨p0, p1⟩ | exact ⟨y0, y1⟩ | exact ⟨z0, z1⟩ | go_keep)
    (first
      | (go_simp; go_at_call 102; (with_reducible refine (clone_any a n c _ _ Hx2.out Hf.out (by omega)).mono ?_); rintro e w4 ⟨ad4, n4, c4, rfl, hown4, hb4⟩; have HO4 := Lib.hid hown4; have HB4 := Lib.hid hb4; have hl4 := hown4.len; rw [up_len] at hl4; have XA4 := Lib.hid (XA2.out.keep hb4 (by simp; omega)); obtain ⟨y0, y1, _, _, _⟩ := XA4.out; clear hown4 hb4)
      | (go_simp; go_at_call 101; (with_reducible refine (iCovers_yes m ad4 n4 c4 l _ HO4.out.reads hm Hok.out Hl.out).mono ?_); rintro e w5 ⟨ad, d, r, rfl, hown, hb5⟩; have HO5 := Lib.hid hown; have HB5 := Lib.hid hb5; have XA5 := Lib.hid (XA4.out.keep hb5 (by have := HB4.out.size; simp at this; omega)); obtain ⟨z0, z1, _, _, _⟩ := XA5.out; clear hb5 hown))
  all_goals (go_wp2_with fail)
  go_ret
  have hz4 : w1.heap.size ≤ w4.heap.size := by have := HB4.out.size; simpa using this
  refine ⟨ad, d, r, rfl, HO5.out.mono (by omega), ?_⟩
  have hd : Below w.heap.size w1 w1.drew := (Below.refl _ _).drew
  exact ((HB.out.trans hd).trans (HB4.out.mono (by first | omega | (simp; omega)))).trans (HB5.out.mono (by omega))

theorem sPrimes_no (p : Int) (a : Option Addr) (n c : Nat) (xs : List Int) (w : World) (h : IntsAt w a n xs) (hno : ¬ Anti p xs) :
    Calls Tryz.prog 28 #[.agg #[.int .i64 p, .slice a n c]] w (RetInts w []) := by
  have hx : IntsAt (w.alloc (.cells #[.int .i64 p, .slice a n c] 26)) a n xs := h.keep (by repeat (first | exact Below.refl _ _ | assumption | refine Below.setCell ?_ (by first | omega | (simp; done) | (simp; omega)) _ | refine Below.alloc ?_ (by first | omega | (simp; done) | (simp; omega)) _ | apply Below.drew))
  have Hx := Lib.hid hx; clear hx h
  have Hno := Lib.hid hno; clear hno
  go_enter Tryz.func28, Tryz.ntmps28
  go_wp2_with fail
  refine (sIsIdeal_any p a n c xs _ Hx.out false (by simp [Hno.out])).mono ?_
  rintro e w1 ⟨rfl, hb⟩
  have HB : Hid (Below w.heap.size w w1) := Lib.hid (Below.trans (by repeat (first | exact Below.refl _ _ | assumption | refine Below.setCell ?_ (by first | omega | (simp; done) | (simp; omega)) _ | refine Below.alloc ?_ (by first | omega | (simp; done) | (simp; omega)) _ | apply Below.drew)) (hb.mono (by simp <;> omega)))
  clear hb
  go_wp2_with fail
  go_ret
  exact ⟨_, 0, 0, rfl, Own.empty _ _ _ HB.out.size, HB.out.alloc HB.out.size _⟩
theorem sPrimes_yes (m : Nat) (a : Option Addr) (n c : Nat) (l : List Nat) (w : World) (h : IntsAt w a n (up l)) (hm : m ≤ 6) (hA : Anti m (up l)) (hl : ∀ t ∈ l, t < 64) :
    Calls Tryz.prog 28 #[.agg #[.int .i64 m, .slice a n c]] w (RetInts w (up (minL (meets l (2 ^ m))))) := by
  have hx : IntsAt (w.alloc (.cells #[.int .i64 m, .slice a n c] 26)) a n (up l) := h.keep (by repeat (first | exact Below.refl _ _ | assumption | refine Below.setCell ?_ (by first | omega | (simp; done) | (simp; omega)) _ | refine Below.alloc ?_ (by first | omega | (simp; done) | (simp; omega)) _ | apply Below.drew))
  have Hx := Lib.hid hx; have HA := Lib.hid hA; have Hl := Lib.hid hl
  have xA := BoxF.new w (.int .i64 m) (.slice a n c) 26
  have XA := Lib.hid xA
  clear hx h hA hl xA
  go_enter Tryz.func28, Tryz.ntmps28
  go_wp2_with fail
  refine (sIsIdeal_any m a n c _ _ Hx.out true (by simp [HA.out])).mono ?_
  rintro e w1 ⟨rfl, hb⟩
  have HB : Hid (Below w.heap.size w w1) := Lib.hid (Below.trans (by repeat (first | exact Below.refl _ _ | assumption | refine Below.setCell ?_ (by first | omega | (simp; done) | (simp; omega)) _ | refine Below.alloc ?_ (by first | omega | (simp; done) | (simp; omega)) _ | apply Below.drew)) (hb.mono (by simp <;> omega)))
  obtain ⟨p0, p1, _, _, _⟩ := XA.out.keep hb (by simp)
  have hz : w.heap.size + 1 ≤ w1.heap.size := by have := hb.size; simp at this; omega
  have Hx1 := Lib.hid (Hx.out.keep hb)
  clear hb
  go_wp2_with fail
  refine (l8Covers_any m a n c l _ Hx1.out hm Hl.out).mono ?_
  rintro e w2 ⟨ad, k, d, rfl, hown, hb⟩
  have HO := Lib.hid (hown.mono (show w.heap.size ≤ _ by omega)); have HB2 := Lib.hid (HB.out.trans (hb.mono (by omega)))
  clear hown hb
  go_wp2_with fail
  go_ret
  exact ⟨ad, k, d, rfl, HO.out, HB2.out⟩
end Go.Proofs.YtihfhfihladlcaaGreatDoor

/- Contracts of FromMissing and ComplexOf, the program's and the reference's. -/
namespace Go.Proofs.YtihfhfihladlcaaGreatDoor
set_option maxRecDepth 20000
open Go.RowKit
set_option linter.unusedSimpArgs false
set_option linter.unusedVariables false

theorem missFn_any (g t : Nat) (a : Option Addr) (n c : Nat) (l : List Nat) (w : World) (ht : t < 64) (hb : w.cell? ⟨g, 0, none⟩ = some (.slice a n c)) (h : IntsAt w a n (up l)) (hl : ∀ t ∈ l, t < 64) :
    Calls Tryz.prog 170 #[.int .i64 t, .pointer (some ⟨g, 0, none⟩)] w fun e w' => e = .returned (.bool (!l.any (sub · t))) ∧ w = w' := by
  obtain ⟨b, hb'⟩ : ∃ b, b = l.any (sub · t) := ⟨_, rfl⟩
  have Hb := Lib.hid hb'.symm
  rw [← hb']
  have Hh := Lib.hid h; have Hl := Lib.hid hl
  clear hb' h hl
  go_enter Tryz.func170, Tryz.ntmps170
  go_wp2_with (go_at_call 96; (with_reducible refine (iAvoids_any t a n c l _ Hh.out ht Hl.out b Hb.out).mono ?_); rintro e w' ⟨rfl, rfl⟩)
  go_ret
  exact ⟨rfl, rfl⟩
set_option maxRecDepth 100000 in
set_option maxHeartbeats 2000000 in
theorem iFromMissing_yes (m : Nat) (a : Option Addr) (n c : Nat) (l : List Nat) (w : World) (h : IntsAt w a n (up l)) (hm : m ≤ 6) (hok : SetsOk m (up l)) (hl : ∀ t ∈ l, t < 64) :
    Calls Tryz.prog 90 #[.int .i64 m, .slice a n c] w (RetBox2 w m (up (maxL (apart l (2 ^ m)))) true) := by
  have hx : IntsAt ((w.alloc (.cells #[.slice a n c] 24)).alloc (.cells #[.int .i64 0, .slice none 0 0] 32)) a n (up l) := h.keep (by repeat (first | exact Below.refl _ _ | assumption | refine Below.setCell ?_ (by first | omega | (simp; done) | (simp; omega)) _ | refine Below.alloc ?_ (by first | omega | (simp; done) | (simp; omega)) _ | apply Below.drew))
  have hcell : ((w.alloc (.cells #[.slice a n c] 24)).alloc (.cells #[.int .i64 0, .slice none 0 0] 32)).cell? ⟨w.heap.size, 0, none⟩ = some (.slice a n c) := by rw [World.cell?_alloc_lt _ _ _ (by simp)]; simp
  have xR := BoxF.new (w.alloc (.cells #[.slice a n c] 24)) (.int .i64 0) (.slice none 0 0) 32
  have e2 : (w.alloc (.cells #[.slice a n c] 24)).heap.size = w.heap.size + 1 := by simp
  rw [e2] at xR
  have Hx := Lib.hid hx; have Hok := Lib.hid hok; have Hl := Lib.hid hl; have Hcell := Lib.hid hcell; have XR := Lib.hid xR
  clear hx h hok hl hcell xR e2
  have hF := pickN_Fam (fun t => !l.any (sub · t)) (2 ^ m)
  have hcong := maxL_congr (p := (pickN (fun t => !l.any (sub · t)) (2 ^ m)).testBit) (q := apart l (2 ^ m)) (fun t ht => by rw [pickN_bit ht]; rfl)
  obtain ⟨F, hFe⟩ : ∃ F, F = pickN (fun t => !l.any (sub · t)) (2 ^ m) := ⟨_, rfl⟩
  rw [← hFe] at hF hcong
  have HFe := Lib.hid hFe; have Hcong := Lib.hid hcong
  clear hFe hcong
  go_enter Tryz.func90, Tryz.ntmps90
  go_wp2_with (go_at_call 98; (with_reducible refine (areSets_any m a n c _ _ Hx.out true (by simp [Hok.out])).mono ?_); rintro e w' ⟨rfl, rfl⟩)
  refine (pickSets_any 170 #[.pointer (some ⟨w.heap.size, 0, none⟩)] (fun t => !l.any (sub · t)) m _ hm (fun _ _ => rfl) (fun t ht => missFn_any w.heap.size t a n c l _ ht Hcell.out Hx.out Hl.out)).mono ?_
  rw [← HFe.out]
  rintro e we ⟨rfl, rfl⟩
  go_wp2_with fail
  refine (complexOf_any m F _ hF).mono ?_
  rintro e w5 ⟨ad, d, r, rfl, hown, hb5⟩
  have XR5 := Lib.hid (XR.out.keep hb5 (by simp))
  have hO := hown
  rw [Hcong.out] at hO
  have HO5 := Lib.hid hO; have HB5 := Lib.hid hb5
  have hz5 : w.heap.size + 2 ≤ w5.heap.size := by have := hb5.size; simp at this; omega
  obtain ⟨r0, r1, _, _, _⟩ := XR5.out
  clear hown hb5 hO
  go_wp2_with fail
  refine bodyPost_ret (v := .tuple #[.agg #[.int .i64 m, .slice ad d r], .bool true]) (by simp [results, Tryz.results90, go_sem, r0, r1]) rfl ⟨ad, d, r, rfl, ?_, ?_⟩
  · exact ((HO5.out.setBelow _ (by first | omega | (simp; omega) | simp)).setBelow _ (by first | omega | (simp; omega) | simp)).mono (by simp; omega)
  · have hB5 := HB5.out
    have : Below w.heap.size w w5 := Below.trans (by repeat (first | exact Below.refl _ _ | assumption | refine Below.setCell ?_ (by first | omega | (simp; done) | (simp; omega)) _ | refine Below.alloc ?_ (by first | omega | (simp; done) | (simp; omega)) _ | apply Below.drew)) (hB5.mono (by simp; omega))
    exact ((this.setCell (by first | (simp; done) | (simp; omega)) _).setCell (by first | (simp; done) | (simp; omega)) _)

theorem implComplexOf_no (p : Int) (a : Option Addr) (n c : Nat) (xs : List Int) (w : World) (h : IntsAt w a n xs) (hcap : n ≤ c) (hno : ¬ Anti p xs) :
    Calls Tryz.prog 16 #[.agg #[.int .i64 p, .slice a n c]] w (RetBox2 w 0 [] false) := by
  have hx : IntsAt ((w.alloc (.cells #[.int .i64 p, .slice a n c] 26)).alloc (.cells #[.int .i64 0, .slice none 0 0] 32)) a n xs := h.keep (by repeat (first | exact Below.refl _ _ | assumption | refine Below.setCell ?_ (by first | omega | (simp; done) | (simp; omega)) _ | refine Below.alloc ?_ (by first | omega | (simp; done) | (simp; omega)) _ | apply Below.drew))
  have Hx := Lib.hid hx; have Hno := Lib.hid hno; have Hcap := Lib.hid hcap
  have xR := BoxF.new (w.alloc (.cells #[.int .i64 p, .slice a n c] 26)) (.int .i64 0) (.slice none 0 0) 32
  have XR := Lib.hid xR
  clear hx h hno hcap xR
  go_enter Tryz.func16, Tryz.ntmps16
  go_wp2_with fail
  first
    | refine (iIsIdeal_any p a n c xs _ Hx.out Hcap.out false (by simp [Hno.out])).mono ?_
    | refine (sIsIdeal_any p a n c xs _ Hx.out false (by simp [Hno.out])).mono ?_
  rintro e w1 ⟨rfl, hb⟩
  have hbl : Below w.heap.size w w1 := Below.trans (by repeat (first | exact Below.refl _ _ | assumption | refine Below.setCell ?_ (by first | omega | (simp; done) | (simp; omega)) _ | refine Below.alloc ?_ (by first | omega | (simp; done) | (simp; omega)) _ | apply Below.drew)) (hb.mono (by simp <;> omega))
  obtain ⟨r0, r1, f0, f1, _⟩ := XR.out.keep hb (by simp)
  simp at r0 r1 f0 f1
  have hz : w.heap.size + 2 ≤ w1.heap.size := by have := hb.size; simp at this; omega
  clear hb
  go_wp2_with fail
  refine bodyPost_ret (v := .tuple #[.agg #[.int .i64 0, .slice none 0 0], .bool false]) (by simp [results, Tryz.results16, go_sem, r0, r1]) rfl ⟨none, 0, 0, rfl, Own.nil _ _ _, (by repeat (first | exact Below.refl _ _ | assumption | refine Below.setCell ?_ (by first | omega | (simp; done) | (simp; omega)) _ | refine Below.alloc ?_ (by first | omega | (simp; done) | (simp; omega)) _ | apply Below.drew))⟩
theorem specComplexOf_no (p : Int) (a : Option Addr) (n c : Nat) (xs : List Int) (w : World) (h : IntsAt w a n xs) (hcap : n ≤ c) (hno : ¬ Anti p xs) :
    Calls Tryz.prog 17 #[.agg #[.int .i64 p, .slice a n c]] w (RetBox2 w 0 [] false) := by
  have hx : IntsAt ((w.alloc (.cells #[.int .i64 p, .slice a n c] 26)).alloc (.cells #[.int .i64 0, .slice none 0 0] 32)) a n xs := h.keep (by repeat (first | exact Below.refl _ _ | assumption | refine Below.setCell ?_ (by first | omega | (simp; done) | (simp; omega)) _ | refine Below.alloc ?_ (by first | omega | (simp; done) | (simp; omega)) _ | apply Below.drew))
  have Hx := Lib.hid hx; have Hno := Lib.hid hno; have Hcap := Lib.hid hcap
  have xR := BoxF.new (w.alloc (.cells #[.int .i64 p, .slice a n c] 26)) (.int .i64 0) (.slice none 0 0) 32
  have XR := Lib.hid xR
  clear hx h hno hcap xR
  go_enter Tryz.func17, Tryz.ntmps17
  go_wp2_with fail
  first
    | refine (iIsIdeal_any p a n c xs _ Hx.out Hcap.out false (by simp [Hno.out])).mono ?_
    | refine (sIsIdeal_any p a n c xs _ Hx.out false (by simp [Hno.out])).mono ?_
  rintro e w1 ⟨rfl, hb⟩
  have hbl : Below w.heap.size w w1 := Below.trans (by repeat (first | exact Below.refl _ _ | assumption | refine Below.setCell ?_ (by first | omega | (simp; done) | (simp; omega)) _ | refine Below.alloc ?_ (by first | omega | (simp; done) | (simp; omega)) _ | apply Below.drew)) (hb.mono (by simp <;> omega))
  obtain ⟨r0, r1, f0, f1, _⟩ := XR.out.keep hb (by simp)
  simp at r0 r1 f0 f1
  have hz : w.heap.size + 2 ≤ w1.heap.size := by have := hb.size; simp at this; omega
  clear hb
  go_wp2_with fail
  refine bodyPost_ret (v := .tuple #[.agg #[.int .i64 0, .slice none 0 0], .bool false]) (by simp [results, Tryz.results17, go_sem, r0, r1]) rfl ⟨none, 0, 0, rfl, Own.nil _ _ _, (by repeat (first | exact Below.refl _ _ | assumption | refine Below.setCell ?_ (by first | omega | (simp; done) | (simp; omega)) _ | refine Below.alloc ?_ (by first | omega | (simp; done) | (simp; omega)) _ | apply Below.drew))⟩
set_option maxHeartbeats 1000000 in
theorem iComplexOf_yes (m : Nat) (a : Option Addr) (n c : Nat) (l : List Nat) (w : World) (h : IntsAt w a n (up l)) (hcap : n ≤ c) (hm : m ≤ 6) (hA : Anti m (up l)) (hok : SetsOk m (up l)) (hl : ∀ t ∈ l, t < 64) :
    Calls Tryz.prog 16 #[.agg #[.int .i64 m, .slice a n c]] w (RetBox2 w m (up (maxL (apart l (2 ^ m)))) true) := by
  have hx : IntsAt ((w.alloc (.cells #[.int .i64 m, .slice a n c] 26)).alloc (.cells #[.int .i64 0, .slice none 0 0] 32)) a n (up l) := h.keep (by repeat (first | exact Below.refl _ _ | assumption | refine Below.setCell ?_ (by first | omega | (simp; done) | (simp; omega)) _ | refine Below.alloc ?_ (by first | omega | (simp; done) | (simp; omega)) _ | apply Below.drew))
  have Hx := Lib.hid hx; have HA := Lib.hid hA; have Hcap := Lib.hid hcap; have Hl := Lib.hid hl; have Hok := Lib.hid hok
  have xA := (BoxF.new w (.int .i64 m) (.slice a n c) 26).alloc (.cells #[.int .i64 0, .slice none 0 0] 32)
  have xR := BoxF.new (w.alloc (.cells #[.int .i64 m, .slice a n c] 26)) (.int .i64 0) (.slice none 0 0) 32
  have e2 : (w.alloc (.cells #[.int .i64 m, .slice a n c] 26)).heap.size = w.heap.size + 1 := by simp
  rw [e2] at xR
  have XR := Lib.hid xR; have XA := Lib.hid xA
  clear hx h hA hcap hl hok xA xR e2
  go_enter Tryz.func16, Tryz.ntmps16
  go_wp2_with fail
  refine (iIsIdeal_any m a n c _ _ Hx.out Hcap.out true (by simp [HA.out])).mono ?_
  rintro e w1 ⟨rfl, hb⟩
  have HB : Hid (Below w.heap.size w w1) := Lib.hid (Below.trans (by repeat (first | exact Below.refl _ _ | assumption | refine Below.setCell ?_ (by first | omega | (simp; done) | (simp; omega)) _ | refine Below.alloc ?_ (by first | omega | (simp; done) | (simp; omega)) _ | apply Below.drew)) (hb.mono (by simp <;> omega)))
  have XR1 := Lib.hid (XR.out.keep hb (by simp))
  obtain ⟨p0, p1, _, _, _⟩ := XA.out.keep hb (by simp; omega)
  have hz : w.heap.size + 2 ≤ w1.heap.size := by have := hb.size; simp at this; omega
  have Hx1 := Lib.hid (Hx.out.keep hb)
  clear hb
  go_wp2_with fail
  refine (iFromMissing_yes m a n c l _ Hx1.out hm Hok.out Hl.out).mono ?_
  rintro e w5 ⟨ad, d, r, rfl, hown, hb5⟩
  have XR5 := Lib.hid (XR1.out.keep hb5 (by omega))
  have HO5 := Lib.hid hown; have HB5 := Lib.hid hb5
  obtain ⟨r0, r1, _, _, _⟩ := XR5.out
  clear hown hb5
  go_wp2_with fail
  refine bodyPost_ret (v := .tuple #[.agg #[.int .i64 m, .slice ad d r], .bool true]) (by simp [results, Tryz.results16, go_sem, r0, r1]) rfl ⟨ad, d, r, rfl, ?_, ?_⟩
  · exact ((HO5.out.setBelow _ (by first | omega | (simp; omega))).setBelow _ (by first | omega | (simp; omega))).mono (by omega)
  · have := HB.out.size
    exact (((HB.out.trans (HB5.out.mono (by omega))).setCell (by first | (simp; done) | (simp; omega)) _).setCell (by first | (simp; done) | (simp; omega)) _)
theorem sComplexOf_yes (m : Nat) (a : Option Addr) (n c : Nat) (l : List Nat) (w : World) (h : IntsAt w a n (up l)) (hm : m ≤ 6) (hA : Anti m (up l)) (hl : ∀ t ∈ l, t < 64) :
    Calls Tryz.prog 17 #[.agg #[.int .i64 m, .slice a n c]] w (RetBox2 w m (up (maxL (apart l (2 ^ m)))) true) := by
  have hx : IntsAt ((w.alloc (.cells #[.int .i64 m, .slice a n c] 26)).alloc (.cells #[.int .i64 0, .slice none 0 0] 32)) a n (up l) := h.keep (by repeat (first | exact Below.refl _ _ | assumption | refine Below.setCell ?_ (by first | omega | (simp; done) | (simp; omega)) _ | refine Below.alloc ?_ (by first | omega | (simp; done) | (simp; omega)) _ | apply Below.drew))
  have Hx := Lib.hid hx; have HA := Lib.hid hA; have Hl := Lib.hid hl
  have xA := (BoxF.new w (.int .i64 m) (.slice a n c) 26).alloc (.cells #[.int .i64 0, .slice none 0 0] 32)
  have xR := BoxF.new (w.alloc (.cells #[.int .i64 m, .slice a n c] 26)) (.int .i64 0) (.slice none 0 0) 32
  have e2 : (w.alloc (.cells #[.int .i64 m, .slice a n c] 26)).heap.size = w.heap.size + 1 := by simp
  rw [e2] at xR
  have XR := Lib.hid xR; have XA := Lib.hid xA
  clear hx h hA hl xA xR e2
  go_enter Tryz.func17, Tryz.ntmps17
  go_wp2_with fail
  refine (sIsIdeal_any m a n c _ _ Hx.out true (by simp [HA.out])).mono ?_
  rintro e w1 ⟨rfl, hb⟩
  have HB : Hid (Below w.heap.size w w1) := Lib.hid (Below.trans (by repeat (first | exact Below.refl _ _ | assumption | refine Below.setCell ?_ (by first | omega | (simp; done) | (simp; omega)) _ | refine Below.alloc ?_ (by first | omega | (simp; done) | (simp; omega)) _ | apply Below.drew)) (hb.mono (by simp <;> omega)))
  have XR1 := Lib.hid (XR.out.keep hb (by simp))
  obtain ⟨p0, p1, _, _, _⟩ := XA.out.keep hb (by simp; omega)
  have hz : w.heap.size + 2 ≤ w1.heap.size := by have := hb.size; simp at this; omega
  have Hx1 := Lib.hid (Hx.out.keep hb)
  clear hb
  go_wp2_with fail
  refine (l7From_any m a n c l _ Hx1.out hm Hl.out).mono ?_
  rintro e w5 ⟨ad, d, r, rfl, hown, hb5⟩
  have XR5 := Lib.hid (XR1.out.keep hb5 (by omega))
  have HO5 := Lib.hid hown; have HB5 := Lib.hid hb5
  obtain ⟨r0, r1, _, _, _⟩ := XR5.out
  clear hown hb5
  go_wp2_with fail
  refine bodyPost_ret (v := .tuple #[.agg #[.int .i64 m, .slice ad d r], .bool true]) (by simp [results, Tryz.results17, go_sem, r0, r1]) rfl ⟨ad, d, r, rfl, ?_, ?_⟩
  · exact ((HO5.out.setBelow _ (by first | omega | (simp; omega))).setBelow _ (by first | omega | (simp; omega))).mono (by omega)
  · have := HB.out.size
    exact (((HB.out.trans (HB5.out.mono (by omega))).setCell (by first | (simp; done) | (simp; omega)) _).setCell (by first | (simp; done) | (simp; omega)) _)
end Go.Proofs.YtihfhfihladlcaaGreatDoor

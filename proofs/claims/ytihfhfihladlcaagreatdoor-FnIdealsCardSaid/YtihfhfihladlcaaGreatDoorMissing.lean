/- Contracts of MissingSets and IdealOf, the program's and the reference's. -/
import Derived.Test.YtihfhfihladlcaaGreatDoorFaces2
import Derived.Test.YtihfhfihladlcaaGreatDoorIdeal3
namespace Go.Proofs.YtihfhfihladlcaaGreatDoor
set_option maxRecDepth 20000
open Go.RowKit
set_option linter.unusedSimpArgs false
set_option linter.unusedVariables false

/-- the sets below N that are no faces -/
def missB (l : List Nat) (N s : Nat) : Bool := decide (s < N) && !isFace l s

theorem missInFn_any (F b s : Nat) (w : World) (hF : Fam F) (hs : s < 64) (hc : w.cell? ⟨b, 0, none⟩ = some (.int .u64 F)) :
    Calls Tryz.prog 200 #[.int .i64 s, .pointer (some ⟨b, 0, none⟩)] w fun e w' => e = .returned (.bool (!F.testBit s)) ∧ w = w' := by
  obtain ⟨d, hd⟩ : ∃ d, d = F.testBit s := ⟨_, rfl⟩
  rw [← hd]
  have Hd := Lib.hid hd; clear hd
  go_enter Tryz.func200, Tryz.ntmps200
  go_wp2_with (go_at_call 152; refine (hasSet_any F s _ hF hs).mono ?_; rw [← Hd.out]; rintro e we ⟨rfl, rfl⟩)
  go_ret
  exact ⟨rfl, rfl⟩
set_option maxRecDepth 100000 in
theorem missingIn_any (m : Nat) (l : List Nat) (F : Nat) (w : World) (hm : m ≤ 6) (hF : Fam F) (hFl : F = faceSet l) :
    Calls Tryz.prog 168 #[.int .i64 m, .int .u64 F] w (RetInts w (up (minL (missB l (2 ^ m))))) := by
  have hcell : (w.alloc (.cells #[.int .u64 F] 77)).cell? ⟨w.heap.size, 0, none⟩ = some (.int .u64 F) := by simp
  have Hcell := Lib.hid hcell; clear hcell
  have hG := pickN_Fam (fun s => !F.testBit s) (2 ^ m)
  have hcong := minL_congr (p := (pickN (fun s => !F.testBit s) (2 ^ m)).testBit) (q := missB l (2 ^ m)) (fun t ht => by rw [pickN_bit ht, hFl, faceSet_bit ht]; rfl)
  obtain ⟨G, hGe⟩ : ∃ G, G = pickN (fun s => !F.testBit s) (2 ^ m) := ⟨_, rfl⟩
  rw [← hGe] at hG hcong
  have HGe := Lib.hid hGe; have Hcong := Lib.hid hcong
  clear hGe hcong hFl
  go_enter Tryz.func168, Tryz.ntmps168
  go_wp2_with fail
  refine (pickSets_any 200 #[.pointer (some ⟨w.heap.size, 0, none⟩)] (fun s => !F.testBit s) m _ hm (fun _ _ => rfl) (fun t ht => missInFn_any F w.heap.size t _ hF ht Hcell.out)).mono ?_
  rw [← HGe.out]
  rintro e we ⟨rfl, rfl⟩
  go_wp2_with fail
  refine (minimalIn_any G _ hG).mono ?_
  rw [Hcong.out]
  rintro e w1 ⟨ad, k, d, rfl, hown, hb⟩
  have HO := Lib.hid (hown.mono (show w.heap.size ≤ _ by simp)); have HB := Lib.hid (show Below w.heap.size w w1 from Below.trans (by repeat (first | exact Below.refl _ _ | assumption | refine Below.setCell ?_ (by first | omega | (simp; done) | (simp; omega)) _ | refine Below.alloc ?_ (by first | omega | (simp; done) | (simp; omega)) _ | apply Below.drew)) (hb.mono (by simp)))
  clear hown hb
  go_wp2_with fail
  go_ret
  exact ⟨ad, k, d, rfl, HO.out, HB.out⟩

set_option maxRecDepth 100000 in
set_option maxHeartbeats 1000000 in
theorem iMissing_yes (m : Nat) (a : Option Addr) (n c : Nat) (l : List Nat) (w : World) (h : IntsAt w a n (up l)) (hcap : n ≤ c) (hm : m ≤ 6) (hA : Anti m (up l)) (hl : ∀ t ∈ l, t < 64) :
    Calls Tryz.prog 87 #[.agg #[.int .i64 m, .slice a n c]] w (RetInts w (up (minL (missB l (2 ^ m))))) := by
  have hx : IntsAt (w.alloc (.cells #[.int .i64 m, .slice a n c] 32)) a n (up l) := h.keep (by repeat (first | exact Below.refl _ _ | assumption | refine Below.setCell ?_ (by first | omega | (simp; done) | (simp; omega)) _ | refine Below.alloc ?_ (by first | omega | (simp; done) | (simp; omega)) _ | apply Below.drew))
  have Hx := Lib.hid hx; have HA := Lib.hid hA; have Hcap := Lib.hid hcap; have Hl := Lib.hid hl
  have XA := Lib.hid (BoxF.new w (.int .i64 m) (.slice a n c) 32)
  clear hx h hA hcap hl
  have hF := faceSet_Fam l
  obtain ⟨F, hFe⟩ : ∃ F, F = faceSet l := ⟨_, rfl⟩
  rw [← hFe] at hF
  have HFe := Lib.hid hFe; clear hFe
  go_enter Tryz.func87, Tryz.ntmps87
  go_wp2_with fail
  refine (iIsComplex_any m a n c _ _ Hx.out Hcap.out true (by simp [HA.out])).mono ?_
  rintro e w1 ⟨rfl, hb⟩
  have HB : Hid (Below w.heap.size w w1) := Lib.hid (Below.trans (by repeat (first | exact Below.refl _ _ | assumption | refine Below.setCell ?_ (by first | omega | (simp; done) | (simp; omega)) _ | refine Below.alloc ?_ (by first | omega | (simp; done) | (simp; omega)) _ | apply Below.drew)) (hb.mono (by simp <;> omega)))
  have XA1 := Lib.hid (XA.out.keep hb (by simp))
  obtain ⟨p0, p1, _, _, _⟩ := XA1.out
  have hz : w.heap.size + 1 ≤ w1.heap.size := by have := hb.size; simp at this; omega
  have Hx1 := Lib.hid (Hx.out.keep hb)
  clear hb
  go_wp2_with fail
  have Hx2 := Lib.hid (Hx1.out.keep (Below.drew (Below.refl _ _)))
  have XA2 := Lib.hid (XA1.out.drew)
  go_region_held3 (fun W => W.cell? ⟨w.heap.size, 0, none⟩ = some (.int .i64 m) ∧ W.cell? ⟨w.heap.size, 1, none⟩ = some (.slice a n c))
    (first | exact ⟨p0, p1⟩ | exact ⟨y0, y1⟩ | exact ⟨z0, z1⟩ | go_keep)
    (first
      | (go_simp; go_at_call 134; (with_reducible refine (facesIn_any m a n c l _ Hx2.out Hl.out).mono ?_); rw [← HFe.out]; rintro e w4 ⟨rfl, hb4⟩; have HB4 := Lib.hid hb4; have XA4 := Lib.hid (XA2.out.keep hb4 (by simp; omega)); obtain ⟨y0, y1, _, _, _⟩ := XA4.out; clear hb4)
      | (go_simp; go_at_call 168; (with_reducible refine (missingIn_any m l F _ hm hF HFe.out).mono ?_); rintro e w5 ⟨ad, d, r, rfl, hown, hb5⟩; have HO5 := Lib.hid hown; have HB5 := Lib.hid hb5; have XA5 := Lib.hid (XA4.out.keep hb5 (by have := HB4.out.size; simp at this; omega)); obtain ⟨z0, z1, _, _, _⟩ := XA5.out; clear hb5 hown))
  all_goals (go_wp2_with fail)
  go_ret
  have hz4 : w1.heap.size ≤ w4.heap.size := by have := HB4.out.size; simpa using this
  refine ⟨ad, d, r, rfl, HO5.out.mono (by omega), ?_⟩
  have hd : Below w.heap.size w1 w1.drew := (Below.refl _ _).drew
  exact ((HB.out.trans hd).trans (HB4.out.mono (by first | omega | (simp; omega)))).trans (HB5.out.mono (by omega))

theorem isSet_dec {m s : Nat} (h1 : 1 ≤ m) (hm : m ≤ 6) (hs : s < 64) : isSetB m s = decide (s < 2 ^ m) := by
  rw [Bool.eq_iff_iff, isSet_iff, decide_eq_true_eq]
  constructor
  · rintro ⟨_, t, ht, h⟩
    have : s = t := by omega
    rw [this]; exact h
  · intro h
    exact ⟨hm, s, rfl, h⟩
set_option maxHeartbeats 1000000 in
theorem sMissing_yes (m : Nat) (a : Option Addr) (n c : Nat) (l : List Nat) (w : World) (h : IntsAt w a n (up l)) (h1 : 1 ≤ m) (hm : m ≤ 6) (hA : Anti m (up l)) (hl : ∀ t ∈ l, t < 64) :
    Calls Tryz.prog 89 #[.agg #[.int .i64 m, .slice a n c]] w (RetInts w (up (minL (missB l (2 ^ m))))) := by
  have hx : IntsAt (w.alloc (.cells #[.int .i64 m, .slice a n c] 32)) a n (up l) := h.keep (by repeat (first | exact Below.refl _ _ | assumption | refine Below.setCell ?_ (by first | omega | (simp; done) | (simp; omega)) _ | refine Below.alloc ?_ (by first | omega | (simp; done) | (simp; omega)) _ | apply Below.drew))
  have Hx := Lib.hid hx; clear hx h
  have HA := Lib.hid hA; clear hA
  have Hl := Lib.hid hl; clear hl
  obtain ⟨q, hq⟩ : ∃ q : Nat → Bool, q = missB l (2 ^ m) := ⟨_, rfl⟩
  rw [← hq]
  have Hq := Lib.hid (show ∀ s, q s = (decide (s < 2 ^ m) && !isFace l s) from fun s => by rw [hq]; rfl); clear hq
  go_enter Tryz.func89, Tryz.ntmps89
  go_wp2_with fail
  go_loopw [3, 4] (fun f i wr => ∃ I : Nat, I ≤ 64 ∧ i = .int .i64 I ∧ Below (w.heap.size + 1) (w.alloc (.cells #[.int .i64 m, .slice a n c] 32)) wr ∧ ∃ ad k d, f = .slice ad k d ∧ k ≤ I ∧ Own 3 wr (w.heap.size + 1) ad k d (up (lst q I))) (fun _ i _ => 64 - (intOf i).toNat)
  case atStart => exact ⟨0, by omega, rfl, (by repeat (first | exact Below.refl _ _ | assumption | refine Below.setCell ?_ (by first | omega | (simp; done) | (simp; omega)) _ | refine Below.alloc ?_ (by first | omega | (simp; done) | (simp; omega)) _ | apply Below.drew)), _, 0, 0, rfl, by omega, by have := Own.empty 3 (w.alloc (.cells #[.int .i64 m, .slice a n c] 32)) (w.heap.size + 1) (by simp); simp only [World.size_alloc] at this; exact this⟩
  case round =>
    obtain ⟨I, hI, rfl, hb, ad, k, d, rfl, hk, hown⟩ := hrel
    obtain ⟨hc0, hc1⟩ := box2 hb
    have hz : w.heap.size + 1 ≤ wr.heap.size := by have := hb.size; simpa using this
    have HB := Lib.hid hb; have HO := Lib.hid hown
    have Hx1 := Lib.hid (Hx.out.keep (by simpa using hb))
    clear hb hown
    by_cases hlt : I < 64
    · go_wp2_with fail
      refine (sIsComplex_any m a n c _ _ Hx1.out true (by simp [HA.out])).mono ?_
      rintro e w1 ⟨rfl, hb⟩
      have HO1 := Lib.hid (HO.out.keep hb)
      have HB1 := Lib.hid (HB.out.trans (hb.mono hz))
      have hz1 : w.heap.size + 1 ≤ w1.heap.size := by have := hb.size; omega
      have Hx2 := Lib.hid (Hx1.out.keep hb)
      obtain ⟨hd0, hd1⟩ := box2 HB1.out
      clear hb hc0 hc1
      have hset := isSet_dec h1 hm hlt
      have hqI := Hq.out I
      by_cases hIN : I < 2 ^ m
      · have hset2 : isSetB m I = true := by rw [hset]; simp [hIN]
        obtain ⟨b, hbe⟩ : ∃ b, isFace l I = b := ⟨_, rfl⟩
        have hqb : q I = !b := by rw [hqI, hbe]; simp [hIN]
        have Hbe := Lib.hid hbe; have Hqb := Lib.hid hqb
        clear hbe hqI hqb hset
        go_wp2_with (go_at_call 36; (with_reducible refine (sIsSet_is _ _ _ _ hset2).mono ?_); rintro e w' ⟨rfl, rfl⟩)
        refine (l3Has_any m I a n c l _ Hx2.out hlt Hl.out b Hbe.out).mono ?_
        rintro e w2 ⟨rfl, hb⟩
        have HO2 := Lib.hid (HO1.out.keep hb)
        have HB2 := Lib.hid (HB1.out.trans (hb.mono hz1))
        have hz2 : w.heap.size + 1 ≤ w2.heap.size := by have := hb.size; omega
        clear hb
        cases b
        · go_wp2_with (at_builtin; refine ap rfl _ _ rfl (w.heap.size + 1) _ _ _ _ _ rfl HO2.out rfl (by omega) hz2 ?_; intro ad' d' w' hown' hb'; have HO3 := Lib.hid hown'; have HB3 := Lib.hid hb'; clear hown' hb')
          go_roundw
          case rel => exact ⟨I + 1, by omega, by go_num, HB2.out.trans HB3.out, ad', k + 1, d', rfl, by omega, by rw [lst_yes Hqb.out, up_append]; exact HO3.out⟩
          case measure => simp [intOf]; omega
        · go_wp2_with fail
          go_roundw
          case rel => exact ⟨I + 1, by omega, by go_num, HB2.out, ad, k, d, rfl, by omega, by rw [lst_no Hqb.out]; exact HO2.out⟩
          case measure => simp [intOf]; omega
      · have hset2 : isSetB m I = false := by rw [hset]; simp [hIN]
        have Hqb := Lib.hid (show q I = false by rw [hqI]; simp [hIN])
        clear hqI hset
        go_wp2_with (go_at_call 36; (with_reducible refine (sIsSet_is _ _ _ _ hset2).mono ?_); rintro e w' ⟨rfl, rfl⟩)
        go_roundw
        case rel => exact ⟨I + 1, by omega, by go_num, HB1.out, ad, k, d, rfl, by omega, by rw [lst_no Hqb.out]; exact HO1.out⟩
        case measure => simp [intOf]; omega
    · obtain rfl : I = 64 := by omega
      go_wp2_with fail
      refine (l2Extreme_any ad k d (lst q 64) false _ HO.out.reads (fun s hs => (mem_lst.1 hs).1)).mono ?_
      rintro e w2 ⟨ad2, m2, d2, rfl, hown, hb⟩
      have HB2 := Lib.hid (HB.out.trans (hb.mono hz)); have HO2 := Lib.hid (hown.mono (show w.heap.size ≤ _ by omega))
      clear hb hown
      go_wp2_with fail
      go_ret
      refine ⟨ad2, m2, d2, rfl, ?_, box_below HB2.out⟩
      have e : minL q = minL (lst q 64).contains := minL_congr fun s hs => by rw [lst_has]; simp [hs]
      rw [e]; exact HO2.out
theorem iIdealOf_no (p : Int) (a : Option Addr) (n c : Nat) (xs : List Int) (w : World) (h : IntsAt w a n xs) (hcap : n ≤ c) (hno : ¬ Anti p xs) :
    Calls Tryz.prog 14 #[.agg #[.int .i64 p, .slice a n c]] w (RetBox2 w 0 [] false) := by
  have hx : IntsAt ((w.alloc (.cells #[.int .i64 p, .slice a n c] 32)).alloc (.cells #[.int .i64 0, .slice none 0 0] 26)) a n xs := h.keep (by repeat (first | exact Below.refl _ _ | assumption | refine Below.setCell ?_ (by first | omega | (simp; done) | (simp; omega)) _ | refine Below.alloc ?_ (by first | omega | (simp; done) | (simp; omega)) _ | apply Below.drew))
  have Hx := Lib.hid hx; have Hno := Lib.hid hno; have Hcap := Lib.hid hcap
  have xR := BoxF.new (w.alloc (.cells #[.int .i64 p, .slice a n c] 32)) (.int .i64 0) (.slice none 0 0) 26
  have XR := Lib.hid xR
  clear hx h hno hcap xR
  go_enter Tryz.func14, Tryz.ntmps14
  go_wp2_with fail
  refine (iIsComplex_any p a n c xs _ Hx.out Hcap.out false (by simp [Hno.out])).mono ?_
  rintro e w1 ⟨rfl, hb⟩
  have hbl : Below w.heap.size w w1 := Below.trans (by repeat (first | exact Below.refl _ _ | assumption | refine Below.setCell ?_ (by first | omega | (simp; done) | (simp; omega)) _ | refine Below.alloc ?_ (by first | omega | (simp; done) | (simp; omega)) _ | apply Below.drew)) (hb.mono (by simp <;> omega))
  obtain ⟨r0, r1, f0, f1, _⟩ := XR.out.keep hb (by simp)
  simp at r0 r1 f0 f1
  have hz : w.heap.size + 2 ≤ w1.heap.size := by have := hb.size; simp at this; omega
  clear hb
  go_wp2_with fail
  refine bodyPost_ret (v := .tuple #[.agg #[.int .i64 0, .slice none 0 0], .bool false]) (by simp [results, Tryz.results14, go_sem, r0, r1]) rfl ⟨none, 0, 0, rfl, Own.nil _ _ _, (by repeat (first | exact Below.refl _ _ | assumption | refine Below.setCell ?_ (by first | omega | (simp; done) | (simp; omega)) _ | refine Below.alloc ?_ (by first | omega | (simp; done) | (simp; omega)) _ | apply Below.drew))⟩
set_option maxRecDepth 100000 in
set_option maxHeartbeats 2000000 in
theorem iIdealOf_yes (p : Nat) (a : Option Addr) (n c : Nat) (l : List Nat) (w : World) (h : IntsAt w a n (up l)) (hcap : n ≤ c) (h1 : 1 ≤ p) (hm : p ≤ 6) (hA : Anti p (up l)) (hl : ∀ t ∈ l, t < 64) :
    Calls Tryz.prog 14 #[.agg #[.int .i64 p, .slice a n c]] w (RetBox2 w p (up (minL (missB l (2 ^ p)))) true) := by
  have hx : IntsAt ((w.alloc (.cells #[.int .i64 p, .slice a n c] 32)).alloc (.cells #[.int .i64 0, .slice none 0 0] 26)) a n (up l) := h.keep (by repeat (first | exact Below.refl _ _ | assumption | refine Below.setCell ?_ (by first | omega | (simp; done) | (simp; omega)) _ | refine Below.alloc ?_ (by first | omega | (simp; done) | (simp; omega)) _ | apply Below.drew))
  have Hx := Lib.hid hx; have HA := Lib.hid hA; have Hcap := Lib.hid hcap; have Hl := Lib.hid hl
  have xA := (BoxF.new w (.int .i64 p) (.slice a n c) 32).alloc (.cells #[.int .i64 0, .slice none 0 0] 26)
  have xR := BoxF.new (w.alloc (.cells #[.int .i64 p, .slice a n c] 32)) (.int .i64 0) (.slice none 0 0) 26
  have e2 : (w.alloc (.cells #[.int .i64 p, .slice a n c] 32)).heap.size = w.heap.size + 1 := by simp
  rw [e2] at xR
  have XR := Lib.hid xR; have XA := Lib.hid xA
  clear hx h hA hcap hl xA xR e2
  go_enter Tryz.func14, Tryz.ntmps14
  go_wp2_with fail
  refine (iIsComplex_any p a n c _ _ Hx.out Hcap.out true (by simp [HA.out])).mono ?_
  rintro e w1 ⟨rfl, hb⟩
  have HB : Hid (Below w.heap.size w w1) := Lib.hid (Below.trans (by repeat (first | exact Below.refl _ _ | assumption | refine Below.setCell ?_ (by first | omega | (simp; done) | (simp; omega)) _ | refine Below.alloc ?_ (by first | omega | (simp; done) | (simp; omega)) _ | apply Below.drew)) (hb.mono (by simp <;> omega)))
  have XR1 := Lib.hid (XR.out.keep hb (by simp))
  have XA1 := Lib.hid (XA.out.keep hb (by simp; omega))
  obtain ⟨p0, p1, _, _, _⟩ := XA1.out
  have hz : w.heap.size + 2 ≤ w1.heap.size := by have := hb.size; simp at this; omega
  have Hx1 := Lib.hid (Hx.out.keep hb)
  clear hb
  go_wp2_with fail
  have Hx2 := Lib.hid (Hx1.out.keep (Below.drew (Below.refl _ _)))
  have XA2 := Lib.hid (XA1.out.drew); have XR2 := Lib.hid (XR1.out.drew)
  have hn1 : w.heap.size + 1 ≠ w.heap.size := by omega
  have hn2 : w.heap.size ≠ w.heap.size + 1 := by omega
  have hn3 : ¬ w.heap.size = w.heap.size + 1 := by omega
  go_region_held3 (fun W => W.cell? ⟨w.heap.size, 0, none⟩ = some (.int .i64 p) ∧ W.cell? ⟨w.heap.size, 1, none⟩ = some (.slice a n c))
    (first | exact ⟨p0, p1⟩ | exact ⟨y0, y1⟩ | go_keep)
    (first
      | (go_simp; go_at_call 87; (with_reducible refine (iMissing_yes p a n c l _ Hx2.out Hcap.out hm HA.out Hl.out).mono ?_); rintro e w5 ⟨ad, d, r, rfl, hown, hb5⟩; have XR5 := Lib.hid (XR2.out.keep hb5 (by simp; omega)); have HO5 := Lib.hid hown; have HB5 := Lib.hid hb5; have XA5 := Lib.hid (XA2.out.keep hb5 (by simp; omega)); obtain ⟨y0, y1, _, _, _⟩ := XA5.out; obtain ⟨r0, r1, _, _, _⟩ := XR5.out; clear hb5 hown))
  all_goals (go_wp2_with fail)
  refine bodyPost_ret (v := .tuple #[.agg #[.int .i64 p, .slice ad d r], .bool true]) (by simp [results, Tryz.results14, go_sem, r0, r1]) rfl ⟨ad, d, r, rfl, ?_, ?_⟩
  · exact ((HO5.out.setBelow _ (by first | omega | (simp; omega))).setBelow _ (by first | omega | (simp; omega))).mono (by first | omega | (simp; omega))
  · have hB5 := HB5.out
    have hd : Below w.heap.size w1 w1.drew := (Below.refl _ _).drew
    exact ((((HB.out.trans hd).trans (hB5.mono (by first | omega | (simp; omega)))).setCell (by first | (simp; done) | (simp; omega)) _).setCell (by first | (simp; done) | (simp; omega)) _)

theorem sIdealOf_no (p : Int) (a : Option Addr) (n c : Nat) (xs : List Int) (w : World) (h : IntsAt w a n xs) (hcap : n ≤ c) (hno : ¬ Anti p xs) :
    Calls Tryz.prog 15 #[.agg #[.int .i64 p, .slice a n c]] w (RetBox2 w 0 [] false) := by
  have hx : IntsAt ((w.alloc (.cells #[.int .i64 p, .slice a n c] 32)).alloc (.cells #[.int .i64 0, .slice none 0 0] 26)) a n xs := h.keep (by repeat (first | exact Below.refl _ _ | assumption | refine Below.setCell ?_ (by first | omega | (simp; done) | (simp; omega)) _ | refine Below.alloc ?_ (by first | omega | (simp; done) | (simp; omega)) _ | apply Below.drew))
  have Hx := Lib.hid hx; have Hno := Lib.hid hno; have Hcap := Lib.hid hcap
  have xR := BoxF.new (w.alloc (.cells #[.int .i64 p, .slice a n c] 32)) (.int .i64 0) (.slice none 0 0) 26
  have XR := Lib.hid xR
  clear hx h hno hcap xR
  go_enter Tryz.func15, Tryz.ntmps15
  go_wp2_with fail
  refine (sIsComplex_any p a n c xs _ Hx.out false (by simp [Hno.out])).mono ?_
  rintro e w1 ⟨rfl, hb⟩
  have hbl : Below w.heap.size w w1 := Below.trans (by repeat (first | exact Below.refl _ _ | assumption | refine Below.setCell ?_ (by first | omega | (simp; done) | (simp; omega)) _ | refine Below.alloc ?_ (by first | omega | (simp; done) | (simp; omega)) _ | apply Below.drew)) (hb.mono (by simp <;> omega))
  obtain ⟨r0, r1, f0, f1, _⟩ := XR.out.keep hb (by simp)
  simp at r0 r1 f0 f1
  have hz : w.heap.size + 2 ≤ w1.heap.size := by have := hb.size; simp at this; omega
  clear hb
  go_wp2_with fail
  refine bodyPost_ret (v := .tuple #[.agg #[.int .i64 0, .slice none 0 0], .bool false]) (by simp [results, Tryz.results15, go_sem, r0, r1]) rfl ⟨none, 0, 0, rfl, Own.nil _ _ _, (by repeat (first | exact Below.refl _ _ | assumption | refine Below.setCell ?_ (by first | omega | (simp; done) | (simp; omega)) _ | refine Below.alloc ?_ (by first | omega | (simp; done) | (simp; omega)) _ | apply Below.drew))⟩
set_option maxRecDepth 100000 in
set_option maxHeartbeats 2000000 in
theorem sIdealOf_yes (p : Nat) (a : Option Addr) (n c : Nat) (l : List Nat) (w : World) (h : IntsAt w a n (up l)) (hcap : n ≤ c) (h1 : 1 ≤ p) (hm : p ≤ 6) (hA : Anti p (up l)) (hl : ∀ t ∈ l, t < 64) :
    Calls Tryz.prog 15 #[.agg #[.int .i64 p, .slice a n c]] w (RetBox2 w p (up (minL (missB l (2 ^ p)))) true) := by
  have hx : IntsAt ((w.alloc (.cells #[.int .i64 p, .slice a n c] 32)).alloc (.cells #[.int .i64 0, .slice none 0 0] 26)) a n (up l) := h.keep (by repeat (first | exact Below.refl _ _ | assumption | refine Below.setCell ?_ (by first | omega | (simp; done) | (simp; omega)) _ | refine Below.alloc ?_ (by first | omega | (simp; done) | (simp; omega)) _ | apply Below.drew))
  have Hx := Lib.hid hx; have HA := Lib.hid hA; have Hcap := Lib.hid hcap; have Hl := Lib.hid hl
  have xA := (BoxF.new w (.int .i64 p) (.slice a n c) 32).alloc (.cells #[.int .i64 0, .slice none 0 0] 26)
  have xR := BoxF.new (w.alloc (.cells #[.int .i64 p, .slice a n c] 32)) (.int .i64 0) (.slice none 0 0) 26
  have e2 : (w.alloc (.cells #[.int .i64 p, .slice a n c] 32)).heap.size = w.heap.size + 1 := by simp
  rw [e2] at xR
  have XR := Lib.hid xR; have XA := Lib.hid xA
  clear hx h hA hcap hl xA xR e2
  go_enter Tryz.func15, Tryz.ntmps15
  go_wp2_with fail
  refine (sIsComplex_any p a n c _ _ Hx.out true (by simp [HA.out])).mono ?_
  rintro e w1 ⟨rfl, hb⟩
  have HB : Hid (Below w.heap.size w w1) := Lib.hid (Below.trans (by repeat (first | exact Below.refl _ _ | assumption | refine Below.setCell ?_ (by first | omega | (simp; done) | (simp; omega)) _ | refine Below.alloc ?_ (by first | omega | (simp; done) | (simp; omega)) _ | apply Below.drew)) (hb.mono (by simp <;> omega)))
  have XR1 := Lib.hid (XR.out.keep hb (by simp))
  have XA1 := Lib.hid (XA.out.keep hb (by simp; omega))
  obtain ⟨p0, p1, _, _, _⟩ := XA1.out
  have hz : w.heap.size + 2 ≤ w1.heap.size := by have := hb.size; simp at this; omega
  have Hx1 := Lib.hid (Hx.out.keep hb)
  clear hb
  go_wp2_with fail
  have Hx2 := Lib.hid (Hx1.out.keep (Below.drew (Below.refl _ _)))
  have XA2 := Lib.hid (XA1.out.drew); have XR2 := Lib.hid (XR1.out.drew)
  have hn1 : w.heap.size + 1 ≠ w.heap.size := by omega
  have hn2 : w.heap.size ≠ w.heap.size + 1 := by omega
  have hn3 : ¬ w.heap.size = w.heap.size + 1 := by omega
  go_region_held3 (fun W => W.cell? ⟨w.heap.size, 0, none⟩ = some (.int .i64 p) ∧ W.cell? ⟨w.heap.size, 1, none⟩ = some (.slice a n c))
    (first | exact ⟨p0, p1⟩ | exact ⟨y0, y1⟩ | go_keep)
    (first
      | (go_simp; go_at_call 89; (with_reducible refine (sMissing_yes p a n c l _ Hx2.out h1 hm HA.out Hl.out).mono ?_); rintro e w5 ⟨ad, d, r, rfl, hown, hb5⟩; have XR5 := Lib.hid (XR2.out.keep hb5 (by simp; omega)); have HO5 := Lib.hid hown; have HB5 := Lib.hid hb5; have XA5 := Lib.hid (XA2.out.keep hb5 (by simp; omega)); obtain ⟨y0, y1, _, _, _⟩ := XA5.out; obtain ⟨r0, r1, _, _, _⟩ := XR5.out; clear hb5 hown))
  all_goals (go_wp2_with fail)
  refine bodyPost_ret (v := .tuple #[.agg #[.int .i64 p, .slice ad d r], .bool true]) (by simp [results, Tryz.results15, go_sem, r0, r1]) rfl ⟨ad, d, r, rfl, ?_, ?_⟩
  · exact ((HO5.out.setBelow _ (by first | omega | (simp; omega))).setBelow _ (by first | omega | (simp; omega))).mono (by first | omega | (simp; omega))
  · have hB5 := HB5.out
    have hd : Below w.heap.size w1 w1.drew := (Below.refl _ _).drew
    exact ((((HB.out.trans hd).trans (hB5.mono (by first | omega | (simp; omega)))).setCell (by first | (simp; done) | (simp; omega)) _).setCell (by first | (simp; done) | (simp; omega)) _)
end Go.Proofs.YtihfhfihladlcaaGreatDoor

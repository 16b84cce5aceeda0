/- Texts of this claim, one behind the other: what each says stands at its head. -/
import Derived.Deep.RegionWith
import Derived.Deep.RegionHeld3
import Derived.Deep.DeepCutAuto
import Derived.Test.YtbdnlncpamandaaAnti2
import Derived.Test.YtbdnlncpamandaaCore
/- Contracts of facesIn, l3Has, FacesOf. -/
namespace Go.Proofs.Ytbdnlncpamandaa
set_option maxRecDepth 20000
open Go.RowKit
set_option linter.unusedSimpArgs false
set_option linter.unusedVariables false

/-- the family of the faces -/
def faceSet (l : List Nat) : Nat := fam (isFace l)
theorem faceSet_Fam (l : List Nat) : Fam (faceSet l) := fam_Fam _
theorem faceSet_bit {l : List Nat} {s : Nat} (hs : s < 64) : (faceSet l).testBit s = isFace l s := fam_at hs

theorem facesIn_any (p : Int) (a : Option Addr) (n c : Nat) (l : List Nat) (w : World) (h : IntsAt w a n (up l)) (hl : ∀ t ∈ l, t < 64) :
    Calls Try.prog 88 #[.agg #[.int .i64 p, .slice a n c]] w fun e w' => e = .returned (.int .u64 (faceSet l)) ∧ Below w.heap.size w w' := by
  have hn := h.small
  have hlen : l.length = n := by rw [← h.len, up_len]
  have Hlen := Lib.hid hlen; clear hlen
  have Hl := Lib.hid hl; clear hl
  have hx : IntsAt (w.alloc (.cells #[.int .i64 p, .slice a n c] 26)) a n (up l) := h.keep (by repeat (first | exact Below.refl _ _ | assumption | refine Below.setCell ?_ (by first | omega | (simp; done) | (simp; omega)) _ | refine Below.alloc ?_ (by first | omega | (simp; done) | (simp; omega)) _ | apply Below.drew))
  have Hx := Lib.hid hx; clear hx h
  go_enter Try.func88, Try.ntmps88
  go_wp2_with fail
  go_loop [3, 5, 9] (fun F _ i => ∃ k G : Nat, k ≤ n ∧ i = .int .i64 k ∧ F = .int .u64 G ∧ G = fam (isFace (l.take k))) (fun _ _ i => n - (intOf i).toNat)
  case atStart => exact ⟨0, 0, Nat.zero_le _, rfl, rfl, by rw [← fam_zero]; rfl⟩
  case round =>
    obtain ⟨k, G, hk, rfl, rfl, hG⟩ := hrel
    by_cases hlt : k < n
    · obtain ⟨b1, o1, rfl, hc⟩ := Hx.out.cells (by omega)
      have hck := hc k hlt
      rw [nth_up] at hck
      have ht := Hl.out _ (nthN_mem (xs := l) (k := k) (by rw [Hlen.out]; exact hlt))
      have htk : l.take (k + 1) = l.take k ++ [nthN l k] := nthN_take l k (by rw [Hlen.out]; exact hlt)
      obtain ⟨t, hte⟩ : ∃ t, t = nthN l k := ⟨_, rfl⟩
      rw [← hte] at hck ht htk
      have hFG : Fam G := by rw [hG]; exact fam_Fam _
      have hor := w_or64 G (fam (sub · t)) hFG (fam_Fam _)
      have hnew : G ||| fam (sub · t) = fam (isFace (l.take (k + 1))) := by
        rw [hG, fam_or]
        refine fam_congr fun s _ => ?_
        unfold isFace
        rw [htk, List.any_append]; simp
      obtain ⟨S, hS⟩ : ∃ S, S = fam (sub · t) := ⟨_, rfl⟩
      rw [← hS] at hor hnew
      have HS := Lib.hid hS; have Hnew := Lib.hid hnew
      clear hc hte htk hG hS hnew
      go_wp2_with (go_at_call 115; refine (subsetFamily_any t _ ht).mono ?_; rw [← HS.out]; rintro e we ⟨rfl, rfl⟩)
      go_round
      case rel => exact ⟨k + 1, G ||| S, by omega, by go_num, rfl, Hnew.out⟩
      case measure => simp [intOf]; omega
    · obtain rfl : k = n := by omega
      have hGe : G = faceSet l := by rw [hG, ← Hlen.out, List.take_length]; rfl
      have HG := Lib.hid hGe
      clear hG hGe
      go_wp2_with fail
      go_ret
      exact ⟨by rw [HG.out]; rfl, (by repeat (first | exact Below.refl _ _ | assumption | refine Below.setCell ?_ (by first | omega | (simp; done) | (simp; omega)) _ | refine Below.alloc ?_ (by first | omega | (simp; done) | (simp; omega)) _ | apply Below.drew))⟩

theorem l3Has_any (p : Int) (s : Nat) (a : Option Addr) (n c : Nat) (l : List Nat) (w : World) (h : IntsAt w a n (up l)) (hs : s < 64) (hl : ∀ t ∈ l, t < 64) (b : Bool) (hb : isFace l s = b) :
    Calls Try.prog 81 #[.agg #[.int .i64 p, .slice a n c], .int .i64 s] w fun e w' => e = .returned (.bool b) ∧ Below w.heap.size w w' := by
  have hn := h.small
  have hlen : l.length = n := by rw [← h.len, up_len]
  have Hlen := Lib.hid hlen; clear hlen
  have Hl := Lib.hid hl; clear hl
  have Hb := Lib.hid hb; clear hb
  have hx : IntsAt (w.alloc (.cells #[.int .i64 p, .slice a n c] 26)) a n (up l) := h.keep (by repeat (first | exact Below.refl _ _ | assumption | refine Below.setCell ?_ (by first | omega | (simp; done) | (simp; omega)) _ | refine Below.alloc ?_ (by first | omega | (simp; done) | (simp; omega)) _ | apply Below.drew))
  have Hx := Lib.hid hx; clear hx h
  go_enter Try.func81, Try.ntmps81
  go_wp2_with fail
  go_loop [5] (fun i => ∃ k : Nat, k ≤ n ∧ i = .int .i64 k ∧ Hid (∀ j, j < k → sub s (nthN l j) = false)) (fun i => n - (intOf i).toNat)
  case atStart => exact ⟨0, Nat.zero_le _, rfl, Lib.hid fun j hj => absurd hj (Nat.not_lt_zero _)⟩
  case round =>
    obtain ⟨k, hk, rfl, hok⟩ := hrel
    by_cases hlt : k < n
    · obtain ⟨b1, o1, rfl, hc⟩ := Hx.out.cells (by omega)
      have hck := hc k hlt
      rw [nth_up] at hck
      have ht := Hl.out _ (nthN_mem (xs := l) (k := k) (by rw [Hlen.out]; exact hlt))
      obtain ⟨t, hte⟩ : ∃ t, t = nthN l k := ⟨_, rfl⟩
      rw [← hte] at hck ht
      have Hte := Lib.hid hte
      have hand := w_and t s ht hs
      have hst : (((t &&& s : Nat) : Int) == (s : Int)) = sub s t := by rw [castBeq]; unfold sub; rw [Nat.and_comm]
      clear hc hte
      cases hsb : sub s t
      · rw [hsb] at hst
        have Hsb := Lib.hid hsb; clear hsb
        go_wp2_with fail
        go_round
        case rel =>
          refine ⟨k + 1, by omega, by go_num, Lib.hid fun j hj => ?_⟩
          rcases Nat.lt_or_ge j k with h | h
          · exact hok.out j h
          · obtain rfl : j = k := by omega
            rw [← Hte.out]; exact Hsb.out
        case measure => simp [intOf]; omega
      · rw [hsb] at hst
        have hbt : b = true := by
          rw [← Hb.out]; exact any_yes (j := k) (by rw [Hlen.out]; exact hlt) (by rw [← Hte.out]; exact hsb)
        clear hsb
        subst hbt
        go_wp2_with fail
        go_ret
        exact ⟨rfl, (by repeat (first | exact Below.refl _ _ | assumption | refine Below.setCell ?_ (by first | omega | (simp; done) | (simp; omega)) _ | refine Below.alloc ?_ (by first | omega | (simp; done) | (simp; omega)) _ | apply Below.drew))⟩
    · obtain rfl : k = n := by omega
      have hkk : ¬ ((k : Int) < k) := by omega
      have hbt : b = false := by rw [← Hb.out]; exact any_no fun j hj => hok.out j (by rw [← Hlen.out]; exact hj)
      subst hbt
      go_wp2_with fail
      go_ret
      exact ⟨rfl, (by repeat (first | exact Below.refl _ _ | assumption | refine Below.setCell ?_ (by first | omega | (simp; done) | (simp; omega)) _ | refine Below.alloc ?_ (by first | omega | (simp; done) | (simp; omega)) _ | apply Below.drew))⟩

theorem sFacesOf_no (p : Int) (a : Option Addr) (n c : Nat) (xs : List Int) (w : World) (h : IntsAt w a n xs) (hno : ¬ Anti p xs) :
    Calls Try.prog 44 #[.agg #[.int .i64 p, .slice a n c]] w (RetInts w []) := by
  have Hx := Lib.hid h; clear h
  have Hno := Lib.hid hno; clear hno
  go_enter Try.func44, Try.ntmps44
  go_wp2_with fail
  go_loopw [3, 4] (fun f i wr => i = .int .i64 0 ∧ Below (w.heap.size + 1) (w.alloc (.cells #[.int .i64 p, .slice a n c] 26)) wr ∧ ∃ ad d, f = .slice ad 0 d ∧ Own 3 wr (w.heap.size + 1) ad 0 d (up [])) (fun _ _ _ => 0)
  case atStart => exact ⟨rfl, (by repeat (first | exact Below.refl _ _ | assumption | refine Below.setCell ?_ (by first | omega | (simp; done) | (simp; omega)) _ | refine Below.alloc ?_ (by first | omega | (simp; done) | (simp; omega)) _ | apply Below.drew)), _, 0, rfl, by have := Own.empty 3 (w.alloc (.cells #[.int .i64 p, .slice a n c] 26)) (w.heap.size + 1) (by simp); simp only [World.size_alloc] at this; exact this⟩
  case round =>
    obtain ⟨rfl, hb, ad, d, rfl, hown⟩ := hrel
    obtain ⟨hc0, hc1⟩ := box2 hb
    have hz : w.heap.size + 1 ≤ wr.heap.size := by have := hb.size; simpa using this
    have HB := Lib.hid hb; have HO := Lib.hid hown
    clear hb hown
    go_wp2_with fail
    refine (sIsComplex_any p a n c xs _ (Hx.out.box HB.out) false (by simp [Hno.out])).mono ?_
    rintro e w1 ⟨rfl, hb⟩
    have HO1 := Lib.hid (HO.out.keep hb)
    have HB1 := Lib.hid (HB.out.trans (hb.mono hz))
    have hz1 : w.heap.size + 1 ≤ w1.heap.size := by have := hb.size; omega
    clear hb
    go_wp2_with fail
    refine (l2Order_any ad 0 d [] _ HO1.out.reads (by simp)).mono ?_
    rintro e w2 ⟨ad2, m2, d2, rfl, hown, hb⟩
    have HB2 := Lib.hid (HB1.out.trans (hb.mono hz1)); have HO2 := Lib.hid (hown.mono (show w.heap.size ≤ _ by omega))
    clear hb hown
    go_wp2_with fail
    go_ret
    refine ⟨ad2, m2, d2, rfl, ?_, box_below HB2.out⟩
    have e : up (ord (List.contains [])) = [] := by
      have : ord (List.contains ([] : List Nat)) = [] := by rw [ord_filter]; simp
      rw [this]; rfl
    rw [← e]; exact HO2.out
set_option maxHeartbeats 1000000 in
theorem sFacesOf_yes (p : Int) (a : Option Addr) (n c : Nat) (l : List Nat) (w : World) (h : IntsAt w a n (up l)) (hA : Anti p (up l)) (hl : ∀ t ∈ l, t < 64) :
    Calls Try.prog 44 #[.agg #[.int .i64 p, .slice a n c]] w (RetInts w (up (ord (isFace l)))) := by
  have hx : IntsAt (w.alloc (.cells #[.int .i64 p, .slice a n c] 26)) a n (up l) := h.keep (by repeat (first | exact Below.refl _ _ | assumption | refine Below.setCell ?_ (by first | omega | (simp; done) | (simp; omega)) _ | refine Below.alloc ?_ (by first | omega | (simp; done) | (simp; omega)) _ | apply Below.drew))
  have Hx := Lib.hid hx; clear hx h
  have HA := Lib.hid hA; clear hA
  have Hl := Lib.hid hl; clear hl
  go_enter Try.func44, Try.ntmps44
  go_wp2_with fail
  go_loopw [3, 4] (fun f i wr => ∃ I : Nat, I ≤ 64 ∧ i = .int .i64 I ∧ Below (w.heap.size + 1) (w.alloc (.cells #[.int .i64 p, .slice a n c] 26)) wr ∧ ∃ ad k d, f = .slice ad k d ∧ k ≤ I ∧ Own 3 wr (w.heap.size + 1) ad k d (up (lst (isFace l) I))) (fun _ i _ => 64 - (intOf i).toNat)
  case atStart => exact ⟨0, by omega, rfl, (by repeat (first | exact Below.refl _ _ | assumption | refine Below.setCell ?_ (by first | omega | (simp; done) | (simp; omega)) _ | refine Below.alloc ?_ (by first | omega | (simp; done) | (simp; omega)) _ | apply Below.drew)), _, 0, 0, rfl, by omega, by have := Own.empty 3 (w.alloc (.cells #[.int .i64 p, .slice a n c] 26)) (w.heap.size + 1) (by simp); simp only [World.size_alloc] at this; exact this⟩
  case round =>
    obtain ⟨I, hI, rfl, hb, ad, k, d, rfl, hk, hown⟩ := hrel
    obtain ⟨hc0, hc1⟩ := box2 hb
    have hz : w.heap.size + 1 ≤ wr.heap.size := by have := hb.size; simpa using this
    have HB := Lib.hid hb; have HO := Lib.hid hown
    have Hx1 := Lib.hid (Hx.out.keep (by simpa using hb))
    clear hb hown
    by_cases hlt : I < 64
    · go_wp2_with fail
      refine (sIsComplex_any p a n c _ _ Hx1.out true (by simp [HA.out])).mono ?_
      rintro e w1 ⟨rfl, hb⟩
      have HO1 := Lib.hid (HO.out.keep hb)
      have HB1 := Lib.hid (HB.out.trans (hb.mono hz))
      have hz1 : w.heap.size + 1 ≤ w1.heap.size := by have := hb.size; omega
      have Hx2 := Lib.hid (Hx1.out.keep hb)
      obtain ⟨hd0, hd1⟩ := box2 HB1.out
      clear hb hc0 hc1
      obtain ⟨b, hbe⟩ : ∃ b, isFace l I = b := ⟨_, rfl⟩
      have Hbe := Lib.hid hbe; clear hbe
      go_wp2_with fail
      refine (l3Has_any p I a n c l _ Hx2.out hlt Hl.out b Hbe.out).mono ?_
      rintro e w2 ⟨rfl, hb⟩
      have HO2 := Lib.hid (HO1.out.keep hb)
      have HB2 := Lib.hid (HB1.out.trans (hb.mono hz1))
      have hz2 : w.heap.size + 1 ≤ w2.heap.size := by have := hb.size; omega
      clear hb
      cases b
      · go_wp2_with fail
        go_roundw
        case rel => exact ⟨I + 1, by omega, by go_num, HB2.out, ad, k, d, rfl, by omega, by rw [lst_no Hbe.out]; exact HO2.out⟩
        case measure => simp [intOf]; omega
      · go_wp2_with (at_builtin; refine ap rfl _ _ rfl (w.heap.size + 1) _ _ _ _ _ rfl HO2.out rfl (by omega) hz2 ?_; intro ad' d' w' hown' hb'; have HO3 := Lib.hid hown'; have HB3 := Lib.hid hb'; clear hown' hb')
        go_roundw
        case rel => exact ⟨I + 1, by omega, by go_num, HB2.out.trans HB3.out, ad', k + 1, d', rfl, by omega, by rw [lst_yes Hbe.out, up_append]; exact HO3.out⟩
        case measure => simp [intOf]; omega
    · obtain rfl : I = 64 := by omega
      go_wp2_with fail
      refine (l2Order_any ad k d (lst (isFace l) 64) _ HO.out.reads (fun s hs => (mem_lst.1 hs).1)).mono ?_
      rintro e w2 ⟨ad2, m2, d2, rfl, hown, hb⟩
      have HB2 := Lib.hid (HB.out.trans (hb.mono hz)); have HO2 := Lib.hid (hown.mono (show w.heap.size ≤ _ by omega))
      clear hb hown
      go_wp2_with fail
      go_ret
      refine ⟨ad2, m2, d2, rfl, ?_, box_below HB2.out⟩
      have e : ord (isFace l) = ord (lst (isFace l) 64).contains := ord_congr fun s hs => by rw [lst_has]; simp [hs]
      rw [e]; exact HO2.out

theorem iFacesOf_no (p : Int) (a : Option Addr) (n c : Nat) (xs : List Int) (w : World) (h : IntsAt w a n xs) (hcap : n ≤ c) (hno : ¬ Anti p xs) :
    Calls Try.prog 62 #[.agg #[.int .i64 p, .slice a n c]] w (RetInts w []) := by
  have hx : IntsAt (w.alloc (.cells #[.int .i64 p, .slice a n c] 26)) a n xs := h.keep (by repeat (first | exact Below.refl _ _ | assumption | refine Below.setCell ?_ (by first | omega | (simp; done) | (simp; omega)) _ | refine Below.alloc ?_ (by first | omega | (simp; done) | (simp; omega)) _ | apply Below.drew))
  have Hx := Lib.hid hx; clear hx h
  have Hno := Lib.hid hno; clear hno
  have Hcap := Lib.hid hcap; clear hcap
  go_enter Try.func62, Try.ntmps62
  go_wp2_with fail
  refine (iIsComplex_any p a n c xs _ Hx.out Hcap.out false (by simp [Hno.out])).mono ?_
  rintro e w1 ⟨rfl, hb⟩
  have HB : Hid (Below w.heap.size w w1) := Lib.hid (Below.trans (by repeat (first | exact Below.refl _ _ | assumption | refine Below.setCell ?_ (by first | omega | (simp; done) | (simp; omega)) _ | refine Below.alloc ?_ (by first | omega | (simp; done) | (simp; omega)) _ | apply Below.drew)) (hb.mono (by simp <;> omega)))
  clear hb
  go_wp2_with fail
  go_ret
  exact ⟨none, 0, 0, rfl, Own.nil _ _ _, HB.out⟩
theorem iFacesOf_yes (p : Int) (a : Option Addr) (n c : Nat) (l : List Nat) (w : World) (h : IntsAt w a n (up l)) (hcap : n ≤ c) (hA : Anti p (up l)) (hl : ∀ t ∈ l, t < 64) :
    Calls Try.prog 62 #[.agg #[.int .i64 p, .slice a n c]] w (RetInts w (up (ord (isFace l)))) := by
  have hx : IntsAt (w.alloc (.cells #[.int .i64 p, .slice a n c] 26)) a n (up l) := h.keep (by repeat (first | exact Below.refl _ _ | assumption | refine Below.setCell ?_ (by first | omega | (simp; done) | (simp; omega)) _ | refine Below.alloc ?_ (by first | omega | (simp; done) | (simp; omega)) _ | apply Below.drew))
  have Hx := Lib.hid hx; clear hx h
  have HA := Lib.hid hA; clear hA
  have Hl := Lib.hid hl; clear hl
  have Hcap := Lib.hid hcap; clear hcap
  go_enter Try.func62, Try.ntmps62
  go_wp2_with fail
  refine (iIsComplex_any p a n c _ _ Hx.out Hcap.out true (by simp [HA.out])).mono ?_
  rintro e w1 ⟨rfl, hb⟩
  obtain ⟨hc, hf⟩ := bcell hb
  have hz : w.heap.size + 1 ≤ w1.heap.size := by have := hb.size; simp at this; omega
  have Hx1 := Lib.hid (Hx.out.keep hb)
  have HB : Hid (Below w.heap.size w w1) := Lib.hid (Below.trans (by repeat (first | exact Below.refl _ _ | assumption | refine Below.setCell ?_ (by first | omega | (simp; done) | (simp; omega)) _ | refine Below.alloc ?_ (by first | omega | (simp; done) | (simp; omega)) _ | apply Below.drew)) (hb.mono (by simp <;> omega)))
  clear hb
  have hF := faceSet_Fam l
  have hord : ord (faceSet l).testBit = ord (isFace l) := ord_fam _
  obtain ⟨F, hFe⟩ : ∃ F, F = faceSet l := ⟨_, rfl⟩
  rw [← hFe] at hF hord
  have HFe := Lib.hid hFe; have Hord := Lib.hid hord
  clear hFe hord
  go_wp2_with fail
  refine (facesIn_any p a n c l _ Hx1.out Hl.out).mono ?_
  rw [← HFe.out]
  rintro e w2 ⟨rfl, hb⟩
  have HB2 := Lib.hid (HB.out.trans (hb.mono HB.out.size))
  clear hb
  go_wp2_with fail
  refine (setsIn_any F _ hF).mono ?_
  rw [Hord.out]
  rintro e w3 ⟨ad, m, d, rfl, hown, hb⟩
  have HB3 := Lib.hid (HB2.out.trans (hb.mono HB2.out.size)); have HO := Lib.hid (hown.mono HB2.out.size)
  clear hb hown
  go_wp2_with fail
  go_ret
  exact ⟨ad, m, d, rfl, HO.out, HB3.out⟩
end Go.Proofs.Ytbdnlncpamandaa

/- Contracts of IsPure, the program's and the reference's. -/
namespace Go.Proofs.Ytbdnlncpamandaa
set_option maxRecDepth 20000
open Go.RowKit
set_option linter.unusedSimpArgs false
set_option linter.unusedVariables false

/-- all sets have the first one's size -/
def pureB (l : List Nat) : Bool := l.all fun s => sz s == sz (nthN l 0)
theorem pure_no {l : List Nat} {k : Nat} (hk : k < l.length) (h : sz (nthN l k) ≠ sz (nthN l 0)) : pureB l = false := by
  unfold pureB
  rw [List.all_eq_false]
  exact ⟨nthN l k, nthN_mem hk, by simpa using h⟩
theorem pure_yes {l : List Nat} (h : ∀ j, j < l.length → sz (nthN l j) = sz (nthN l 0)) : pureB l = true := by
  unfold pureB
  rw [List.all_eq_true]
  intro s hs
  obtain ⟨j, hj, rfl⟩ := List.mem_iff_getElem.1 hs
  rw [← nthN_eq hj, h j hj]; simp

theorem iPure_no (p : Int) (a : Option Addr) (n c : Nat) (xs : List Int) (w : World) (h : IntsAt w a n xs) (hcap : n ≤ c) (hno : ¬ Anti p xs) :
    Calls Try.prog 107 #[.agg #[.int .i64 p, .slice a n c]] w fun e w' => e = .returned (.bool false) ∧ Below w.heap.size w w' := by
  have hx : IntsAt (w.alloc (.cells #[.int .i64 p, .slice a n c] 26)) a n xs := h.keep (by repeat (first | exact Below.refl _ _ | assumption | refine Below.setCell ?_ (by first | omega | (simp; done) | (simp; omega)) _ | refine Below.alloc ?_ (by first | omega | (simp; done) | (simp; omega)) _ | apply Below.drew))
  have Hx := Lib.hid hx; have Hcap := Lib.hid hcap; have Hno := Lib.hid hno
  clear hx h hcap hno
  go_enter Try.func107, Try.ntmps107
  go_wp2_with fail
  refine (iIsComplex_any p a n c xs _ Hx.out Hcap.out false (by simp [Hno.out])).mono ?_
  rintro e w1 ⟨rfl, hb⟩
  have HB : Hid (Below w.heap.size w w1) := Lib.hid (Below.trans (by repeat (first | exact Below.refl _ _ | assumption | refine Below.setCell ?_ (by first | omega | (simp; done) | (simp; omega)) _ | refine Below.alloc ?_ (by first | omega | (simp; done) | (simp; omega)) _ | apply Below.drew)) (hb.mono (by simp <;> omega)))
  clear hb
  go_wp2_with fail
  go_ret
  exact ⟨rfl, HB.out⟩
set_option maxRecDepth 100000 in
set_option maxHeartbeats 600000 in
theorem iPure_yes (p : Int) (a : Option Addr) (n c : Nat) (l : List Nat) (w : World) (h : IntsAt w a n (up l)) (hcap : n ≤ c) (hA : Anti p (up l)) (hl : ∀ t ∈ l, t < 64) (b : Bool) (hb : pureB l = b) :
    Calls Try.prog 107 #[.agg #[.int .i64 p, .slice a n c]] w fun e w' => e = .returned (.bool b) ∧ Below w.heap.size w w' := by
  have hx : IntsAt (w.alloc (.cells #[.int .i64 p, .slice a n c] 26)) a n (up l) := h.keep (by repeat (first | exact Below.refl _ _ | assumption | refine Below.setCell ?_ (by first | omega | (simp; done) | (simp; omega)) _ | refine Below.alloc ?_ (by first | omega | (simp; done) | (simp; omega)) _ | apply Below.drew))
  have Hx := Lib.hid hx; have Hcap := Lib.hid hcap; have HA := Lib.hid hA; have Hl := Lib.hid hl; have Hb := Lib.hid hb
  have XA := Lib.hid (BoxF.new w (.int .i64 p) (.slice a n c) 26)
  have hln : l.length = n := by have := h.len; rwa [up_len] at this
  have Hln := Lib.hid hln
  have hsm := h.small
  clear hx h hcap hA hl hb hln
  go_enter Try.func107, Try.ntmps107
  go_wp2_with fail
  refine (iIsComplex_any p a n c _ _ Hx.out Hcap.out true (by simp [HA.out])).mono ?_
  rintro e w1 ⟨rfl, hb⟩
  have HB : Hid (Below w.heap.size w w1) := Lib.hid (Below.trans (by repeat (first | exact Below.refl _ _ | assumption | refine Below.setCell ?_ (by first | omega | (simp; done) | (simp; omega)) _ | refine Below.alloc ?_ (by first | omega | (simp; done) | (simp; omega)) _ | apply Below.drew)) (hb.mono (by simp <;> omega)))
  have XA1 := Lib.hid (XA.out.keep hb (by simp))
  obtain ⟨p0, p1, _, _, _⟩ := XA1.out
  have Hx1 := Lib.hid (Hx.out.keep hb)
  have hz : w.heap.size + 1 ≤ w1.heap.size := by have := hb.size; simp at this; omega
  clear hb
  go_wp2_with fail
  clear p0 p1
  go_loopw [4, 11] (fun _ i wr => ∃ I : Nat, I ≤ n ∧ i = .int .i64 I ∧ Below w1.heap.size w1 wr ∧ Hid (∀ j, j < I → sz (nthN l j) = sz (nthN l 0))) (fun _ i _ => n - (intOf i).toNat)
  case atStart => exact ⟨0, Nat.zero_le _, rfl, Below.refl _ _, Lib.hid fun j hj => absurd hj (Nat.not_lt_zero _)⟩
  case round =>
    obtain ⟨I, hI, rfl, hbr, hok⟩ := hrel
    have HBr := Lib.hid hbr; have Hxr := Lib.hid (Hx1.out.keep hbr); have XAr := Lib.hid (XA1.out.keep hbr (by omega))
    clear hbr
    by_cases hlt : I < n
    · obtain ⟨p0, p1, _, _, _⟩ := XAr.out
      obtain ⟨b1, o1, rfl, hc⟩ := Hxr.out.cells (by omega)
      have hck := hc I hlt
      have hc0 := hc 0 (by omega)
      rw [nth_up] at hck hc0
      rw [Nat.add_zero] at hc0
      have ht64 := Hl.out _ (nthN_mem (xs := l) (k := I) (by rw [Hln.out]; exact hlt))
      have hu64 := Hl.out _ (nthN_mem (xs := l) (k := 0) (by rw [Hln.out]; omega))
      obtain ⟨t, ht⟩ : ∃ t, t = nthN l I := ⟨_, rfl⟩
      obtain ⟨u, hu⟩ : ∃ u, u = nthN l 0 := ⟨_, rfl⟩
      rw [← ht] at hck ht64
      rw [← hu] at hc0 hu64
      have Ht := Lib.hid ht; have Hu := Lib.hid hu
      have hn0 : (0 : Int) < n := by omega
      obtain ⟨x, hx⟩ : ∃ x, x = sz t := ⟨_, rfl⟩
      obtain ⟨y, hy⟩ : ∃ y, y = sz u := ⟨_, rfl⟩
      have Hx9 := Lib.hid hx; have Hy9 := Lib.hid hy
      have HCt : Hid (∀ W, Calls Try.prog 65 #[.int .i64 t] W fun e w' => e = .returned (.int .i64 x) ∧ W = w') := Lib.hid (fun W => by rw [hx]; exact SizeOf_any t W ht64)
      have HCu : Hid (∀ W, Calls Try.prog 65 #[.int .i64 u] W fun e w' => e = .returned (.int .i64 y) ∧ W = w') := Lib.hid (fun W => by rw [hy]; exact SizeOf_any u W hu64)
      clear hc ht hu hx hy
      by_cases he : x = y
      · have hne : ((x : Int) != (y : Int)) = false := by simp [he]
        have He := Lib.hid he
        clear he
        go_wp2_with fail
        go_quiet (first | (go_at_call 65; with_reducible exact ql (HCt.out _)) | (go_at_call 65; with_reducible exact ql (HCu.out _)))
        go_wp2_with fail
        go_roundw
        case rel =>
          refine ⟨I + 1, by omega, by go_num, below_drewN HBr.out _, Lib.hid fun j hj => ?_⟩
          rcases Nat.lt_or_ge j I with h | h
          · exact hok.out j h
          · obtain rfl : j = I := by omega
            rw [← Ht.out, ← Hu.out, ← Hx9.out, ← Hy9.out]; exact He.out
        case measure => simp [intOf]; omega
      · have hne : ((x : Int) != (y : Int)) = true := by simp; omega
        have hbf : b = false := by
          rw [← Hb.out]
          exact pure_no (k := I) (by rw [Hln.out]; exact hlt) (by rw [← Ht.out, ← Hu.out, ← Hx9.out, ← Hy9.out]; exact he)
        subst hbf
        clear he
        go_wp2_with fail
        go_quiet (first | (go_at_call 65; with_reducible exact ql (HCt.out _)) | (go_at_call 65; with_reducible exact ql (HCu.out _)))
        go_wp2_with fail
        go_ret
        exact ⟨rfl, below_drewN (HB.out.trans (HBr.out.mono HB.out.size)) _⟩
    · obtain rfl : I = n := by omega
      have hbt : b = true := by
        rw [← Hb.out]
        exact pure_yes fun j hj => hok.out j (by rw [← Hln.out]; exact hj)
      subst hbt
      go_wp2_with fail
      go_ret
      exact ⟨rfl, HB.out.trans (HBr.out.mono HB.out.size)⟩

/-- l2Size of any number comes back with a number -/
theorem l2Size_all (x : Int) (w : World) :
    Calls Try.prog 74 #[.int .i64 x] w fun e w' => (∃ v : Int, e = .returned (.int .i64 v)) ∧ w = w' := by
  go_enter Try.func74, Try.ntmps74
  go_wp2
  go_loop [0, 3] (fun t n => ∃ m k : Int, t = .int .i64 m ∧ n = .int .i64 k) (fun t _ => (intOf t).toNat)
  case atStart => exact ⟨x, 0, rfl, rfl⟩
  case round =>
    obtain ⟨m, k, rfl, rfl⟩ := hrel
    by_cases h0 : 0 < m
    · go_wp2
      go_round
      case rel => exact ⟨_, _, rfl, rfl⟩
      case measure => simp [intOf]; omega
    · go_wp2
      go_ret
      exact ⟨⟨_, rfl⟩, rfl⟩
set_option maxRecDepth 100000 in
set_option maxHeartbeats 600000 in
theorem sPure_no (p : Int) (a : Option Addr) (n c : Nat) (xs : List Int) (w : World) (h : IntsAt w a n xs) (hno : ¬ Anti p xs) :
    Calls Try.prog 46 #[.agg #[.int .i64 p, .slice a n c]] w fun e w' => e = .returned (.bool false) ∧ Below w.heap.size w w' := by
  have hx : IntsAt (w.alloc (.cells #[.int .i64 p, .slice a n c] 26)) a n xs := h.keep (by repeat (first | exact Below.refl _ _ | assumption | refine Below.setCell ?_ (by first | omega | (simp; done) | (simp; omega)) _ | refine Below.alloc ?_ (by first | omega | (simp; done) | (simp; omega)) _ | apply Below.drew))
  have Hx := Lib.hid hx; have Hno := Lib.hid hno
  have XA := Lib.hid (BoxF.new w (.int .i64 p) (.slice a n c) 26)
  have hsm := h.small
  clear hx h hno
  obtain ⟨w0, hw0⟩ : ∃ w0, w0 = w.alloc (.cells #[.int .i64 p, .slice a n c] 26) := ⟨_, rfl⟩
  have hB0 : Below w.heap.size w w0 := by rw [hw0]; exact (by repeat (first | exact Below.refl _ _ | assumption | refine Below.setCell ?_ (by first | omega | (simp; done) | (simp; omega)) _ | refine Below.alloc ?_ (by first | omega | (simp; done) | (simp; omega)) _ | apply Below.drew))
  have hz : w.heap.size + 1 ≤ w0.heap.size := by rw [hw0]; simp
  have HW0 := Lib.hid hw0; have HB0 := Lib.hid hB0
  rw [← hw0] at Hx XA
  clear hw0 hB0
  go_enter Try.func46, Try.ntmps46
  go_wp2_with fail
  rw [← HW0.out]
  go_loopw [3] (fun i wr => ∃ I : Nat, 1 ≤ I ∧ (I ≤ n ∨ I = 1) ∧ i = .int .i64 I ∧ Below w0.heap.size w0 wr) (fun i _ => n - (intOf i).toNat)
  case atStart => exact ⟨1, by omega, .inr rfl, rfl, Below.refl _ _⟩
  case round =>
    obtain ⟨wo, rfl⟩ : ∃ x : World, x = wr := ⟨_, rfl⟩
    obtain ⟨I, h1, hI, rfl, hbr⟩ := hrel
    have H1I := Lib.hid h1; have HII := Lib.hid hI
    clear h1 hI
    have HBr := Lib.hid hbr; have Hxr := Lib.hid (Hx.out.keep hbr); have XAr := Lib.hid (XA.out.keep hbr (by omega))
    clear hbr
    obtain ⟨p0, p1, _, _, _⟩ := XAr.out
    by_cases hlt : I < n
    · obtain ⟨b1, o1, rfl, hc⟩ := Hxr.out.cells (by omega)
      have hck := hc I hlt
      have hc0 := hc 0 (by omega)
      rw [Nat.add_zero] at hc0
      obtain ⟨t, ht⟩ : ∃ t, t = nth xs I := ⟨_, rfl⟩
      obtain ⟨u, hu⟩ : ∃ u, u = nth xs 0 := ⟨_, rfl⟩
      rw [← ht] at hck
      rw [← hu] at hc0
      have hn0 : (0 : Int) < n := by omega
      have hnN : 0 < n := by omega
      have hi0 : (0 : Int) ≤ I := by omega
      have hin : (I : Int) < n := by omega
      clear hc ht hu
      go_wp2_with fail
      go_cut [22] (fun v W => (∃ b, v = .bool b) ∧ Below w0.heap.size w0 W)
      case first =>
        go_region_held3 (fun W => W.cell? ⟨w.heap.size, 1, none⟩ = some (.slice (some ⟨b1, o1, none⟩) n c) ∧ W.cell? ⟨b1, o1 + I, none⟩ = some (.int .i64 t) ∧ W.cell? ⟨b1, o1, none⟩ = some (.int .i64 u)) (first | exact ⟨p1, hck, hc0⟩ | go_keep) (first | (go_simp; go_at_call 74; (with_reducible refine (l2Size_all _ _).mono ?_); rintro e w' ⟨⟨v, rfl⟩, rfl⟩))
        all_goals (go_wp2_with fail; go_meet; exact ⟨⟨_, rfl⟩, HBr.out.drew⟩)
      case rest =>
        obtain ⟨⟨b, rfl⟩, hbc⟩ := hcut
        have HBc := Lib.hid hbc
        clear hbc
        cases b
        · go_wp2_with fail
          go_roundw
          case rel => exact ⟨I + 1, by omega, by omega, by go_num, HBc.out⟩
          case measure => simp [intOf]; omega
        · go_wp2_with fail
          go_ret
          exact ⟨rfl, HB0.out.trans (HBc.out.mono HB0.out.size)⟩
    · have hii : ¬ ((I : Int) < n) := by omega
      go_wp2_with fail
      refine (sIsComplex_any p a n c xs _ Hxr.out false (by simp [Hno.out])).mono ?_
      rintro e w1 ⟨rfl, hb⟩
      have HB : Hid (Below w.heap.size w w1) := Lib.hid ((HB0.out.trans (HBr.out.mono HB0.out.size)).trans (hb.mono (HB0.out.trans (HBr.out.mono HB0.out.size)).size))
      clear hb
      go_wp2_with fail
      go_ret
      exact ⟨rfl, HB.out⟩
set_option maxRecDepth 100000 in
set_option maxHeartbeats 600000 in
theorem sPure_yes (p : Int) (a : Option Addr) (n c : Nat) (l : List Nat) (w : World) (h : IntsAt w a n (up l)) (hA : Anti p (up l)) (hl : ∀ t ∈ l, t < 64) (b : Bool) (hb : pureB l = b) :
    Calls Try.prog 46 #[.agg #[.int .i64 p, .slice a n c]] w fun e w' => e = .returned (.bool b) ∧ Below w.heap.size w w' := by
  have hx : IntsAt (w.alloc (.cells #[.int .i64 p, .slice a n c] 26)) a n (up l) := h.keep (by repeat (first | exact Below.refl _ _ | assumption | refine Below.setCell ?_ (by first | omega | (simp; done) | (simp; omega)) _ | refine Below.alloc ?_ (by first | omega | (simp; done) | (simp; omega)) _ | apply Below.drew))
  have Hx := Lib.hid hx; have HA := Lib.hid hA; have Hl := Lib.hid hl; have Hb := Lib.hid hb
  have XA := Lib.hid (BoxF.new w (.int .i64 p) (.slice a n c) 26)
  have hln : l.length = n := by have := h.len; rwa [up_len] at this
  have Hln := Lib.hid hln
  have hsm := h.small
  clear hx h hA hl hb hln
  obtain ⟨w0, hw0⟩ : ∃ w0, w0 = w.alloc (.cells #[.int .i64 p, .slice a n c] 26) := ⟨_, rfl⟩
  have hB0 : Below w.heap.size w w0 := by rw [hw0]; exact (by repeat (first | exact Below.refl _ _ | assumption | refine Below.setCell ?_ (by first | omega | (simp; done) | (simp; omega)) _ | refine Below.alloc ?_ (by first | omega | (simp; done) | (simp; omega)) _ | apply Below.drew))
  have hz : w.heap.size + 1 ≤ w0.heap.size := by rw [hw0]; simp
  have HW0 := Lib.hid hw0; have HB0 := Lib.hid hB0
  rw [← hw0] at Hx XA
  clear hw0 hB0
  go_enter Try.func46, Try.ntmps46
  go_wp2_with fail
  rw [← HW0.out]
  go_loopw [3] (fun i wr => ∃ I : Nat, 1 ≤ I ∧ (I ≤ n ∨ I = 1) ∧ i = .int .i64 I ∧ Below w0.heap.size w0 wr ∧ Hid (∀ j, j < I → sz (nthN l j) = sz (nthN l 0))) (fun i _ => n - (intOf i).toNat)
  case atStart => exact ⟨1, by omega, .inr rfl, rfl, Below.refl _ _, Lib.hid fun j hj => by (obtain rfl : j = 0 := by omega); rfl⟩
  case round =>
    obtain ⟨wo, rfl⟩ : ∃ x : World, x = wr := ⟨_, rfl⟩
    obtain ⟨I, h1, hI, rfl, hbr, hok⟩ := hrel
    have H1I := Lib.hid h1; have HII := Lib.hid hI
    clear h1 hI
    have HBr := Lib.hid hbr; have Hxr := Lib.hid (Hx.out.keep hbr); have XAr := Lib.hid (XA.out.keep hbr (by omega))
    clear hbr
    obtain ⟨p0, p1, _, _, _⟩ := XAr.out
    by_cases hlt : I < n
    · obtain ⟨b1, o1, rfl, hc⟩ := Hxr.out.cells (by omega)
      have hck := hc I hlt
      have hc0 := hc 0 (by omega)
      rw [nth_up] at hck hc0
      rw [Nat.add_zero] at hc0
      have ht64 := Hl.out _ (nthN_mem (xs := l) (k := I) (by rw [Hln.out]; exact hlt))
      have hu64 := Hl.out _ (nthN_mem (xs := l) (k := 0) (by rw [Hln.out]; omega))
      obtain ⟨t, ht⟩ : ∃ t, t = nthN l I := ⟨_, rfl⟩
      obtain ⟨u, hu⟩ : ∃ u, u = nthN l 0 := ⟨_, rfl⟩
      rw [← ht] at hck ht64
      rw [← hu] at hc0 hu64
      have Ht := Lib.hid ht; have Hu := Lib.hid hu
      have hn0 : (0 : Int) < n := by omega
      have hi0 : (0 : Int) ≤ I := by omega
      have hin : (I : Int) < n := by omega
      obtain ⟨x, hx⟩ : ∃ x, x = sz t := ⟨_, rfl⟩
      obtain ⟨y, hy⟩ : ∃ y, y = sz u := ⟨_, rfl⟩
      have Hx9 := Lib.hid hx; have Hy9 := Lib.hid hy
      have HCt : Hid (∀ W, Calls Try.prog 74 #[.int .i64 t] W fun e w' => e = .returned (.int .i64 x) ∧ W = w') := Lib.hid (fun W => by rw [hx]; exact l2Size_any t W ht64)
      have HCu : Hid (∀ W, Calls Try.prog 74 #[.int .i64 u] W fun e w' => e = .returned (.int .i64 y) ∧ W = w') := Lib.hid (fun W => by rw [hy]; exact l2Size_any u W hu64)
      clear hc ht hu hx hy
      by_cases he : x = y
      · have hne : ((x : Int) != (y : Int)) = false := by simp [he]
        have He := Lib.hid he
        clear he
        go_wp2_with fail
        go_quiet (first | (go_at_call 74; with_reducible exact ql (HCt.out _)) | (go_at_call 74; with_reducible exact ql (HCu.out _)))
        go_wp2_with fail
        go_roundw
        case rel =>
          refine ⟨I + 1, by omega, by omega, by go_num, below_drewN HBr.out _, Lib.hid fun j hj => ?_⟩
          rcases Nat.lt_or_ge j I with h | h
          · exact hok.out j h
          · obtain rfl : j = I := by omega
            rw [← Ht.out, ← Hu.out, ← Hx9.out, ← Hy9.out]; exact He.out
        case measure => simp [intOf]; omega
      · have hne : ((x : Int) != (y : Int)) = true := by simp; omega
        have hbf : b = false := by
          rw [← Hb.out]
          exact pure_no (k := I) (by rw [Hln.out]; exact hlt) (by rw [← Ht.out, ← Hu.out, ← Hx9.out, ← Hy9.out]; exact he)
        subst hbf
        clear he
        go_wp2_with fail
        go_quiet (first | (go_at_call 74; with_reducible exact ql (HCt.out _)) | (go_at_call 74; with_reducible exact ql (HCu.out _)))
        go_wp2_with fail
        go_ret
        exact ⟨rfl, below_drewN (HB0.out.trans (HBr.out.mono HB0.out.size)) _⟩
    · have hii : ¬ ((I : Int) < n) := by omega
      have hbt : b = true := by
        rw [← Hb.out]
        exact pure_yes fun j hj => hok.out j (by rw [Hln.out] at hj; have := HII.out; have := H1I.out; omega)
      subst hbt
      go_wp2_with fail
      refine (sIsComplex_any p a n c _ _ Hxr.out true (by simp [HA.out])).mono ?_
      rintro e w1 ⟨rfl, hb⟩
      have HB : Hid (Below w.heap.size w w1) := Lib.hid ((HB0.out.trans (HBr.out.mono HB0.out.size)).trans (hb.mono (HB0.out.trans (HBr.out.mono HB0.out.size)).size))
      clear hb
      go_wp2_with fail
      go_ret
      exact ⟨rfl, HB.out⟩
end Go.Proofs.Ytbdnlncpamandaa

/- Texts of this claim, one behind the other: what each says stands at its head. -/
import Derived.Deep.RegionHeld3
import Derived.Deep.RegionWith
import Derived.Deep.DeepCutAuto
import Derived.Test.YtihfhfihladlcaaGreatDoorCore
import Derived.Test.YtihfhfihladlcaaGreatDoorFrom
/- Contracts of facesIn, l3Has, FacesOf. -/
namespace Go.Proofs.YtihfhfihladlcaaGreatDoor
set_option maxRecDepth 20000
open Go.RowKit
set_option linter.unusedSimpArgs false
set_option linter.unusedVariables false

/-- the family of the faces -/
def faceSet (l : List Nat) : Nat := fam (isFace l)
theorem faceSet_Fam (l : List Nat) : Fam (faceSet l) := fam_Fam _
theorem faceSet_bit {l : List Nat} {s : Nat} (hs : s < 64) : (faceSet l).testBit s = isFace l s := fam_at hs

theorem facesIn_any (p : Int) (a : Option Addr) (n c : Nat) (l : List Nat) (w : World) (h : IntsAt w a n (up l)) (hl : ∀ t ∈ l, t < 64) :
    Calls Tryz.prog 134 #[.agg #[.int .i64 p, .slice a n c]] w fun e w' => e = .returned (.int .u64 (faceSet l)) ∧ Below w.heap.size w w' := by
  have hn := h.small
  have hlen : l.length = n := by rw [← h.len, up_len]
  have Hlen := Lib.hid hlen; clear hlen
  have Hl := Lib.hid hl; clear hl
  have hx : IntsAt (w.alloc (.cells #[.int .i64 p, .slice a n c] 32)) a n (up l) := h.keep (by repeat (first | exact Below.refl _ _ | assumption | refine Below.setCell ?_ (by first | omega | (simp; done) | (simp; omega)) _ | refine Below.alloc ?_ (by first | omega | (simp; done) | (simp; omega)) _ | apply Below.drew))
  have Hx := Lib.hid hx; clear hx h
  go_enter Tryz.func134, Tryz.ntmps134
  go_wp2_with fail
  go_loop [3, 5, 9] (fun F _ i => ∃ k G : Nat, k ≤ n ∧ i = .int .i64 k ∧ F = .int .u64 G ∧ G = fam (isFace (l.take k))) (fun _ _ i => n - (intOf i).toNat)
  case atStart => exact ⟨0, 0, Nat.zero_le _, rfl, rfl, by rw [← fam_zero]; rfl⟩
  case round =>
    obtain ⟨k, G, hk, rfl, rfl, hG⟩ := hrel
    by_cases hlt : k < n
    · obtain ⟨b1, o1, rfl, hc⟩ := Hx.out.cells (by omega)
      have hck := hc k hlt
      rw [nth_up] at hck
      have ht := Hl.out _ (nthN_mem (xs := l) (k := k) (by rw [Hlen.out]; exact hlt))
      have htk : l.take (k + 1) = l.take k ++ [nthN l k] := nthN_take l k (by rw [Hlen.out]; exact hlt)
      obtain ⟨t, hte⟩ : ∃ t, t = nthN l k := ⟨_, rfl⟩
      rw [← hte] at hck ht htk
      have hFG : Fam G := by rw [hG]; exact fam_Fam _
      have hor := w_or64 G (fam (sub · t)) hFG (fam_Fam _)
      have hnew : G ||| fam (sub · t) = fam (isFace (l.take (k + 1))) := by
        rw [hG, fam_or]
        refine fam_congr fun s _ => ?_
        unfold isFace
        rw [htk, List.any_append]; simp
      obtain ⟨S, hS⟩ : ∃ S, S = fam (sub · t) := ⟨_, rfl⟩
      rw [← hS] at hor hnew
      have HS := Lib.hid hS; have Hnew := Lib.hid hnew
      clear hc hte htk hG hS hnew
      go_wp2_with (go_at_call 148; refine (subsetFamily_any t _ ht).mono ?_; rw [← HS.out]; rintro e we ⟨rfl, rfl⟩)
      go_round
      case rel => exact ⟨k + 1, G ||| S, by omega, by go_num, rfl, Hnew.out⟩
      case measure => simp [intOf]; omega
    · obtain rfl : k = n := by omega
      have hGe : G = faceSet l := by rw [hG, ← Hlen.out, List.take_length]; rfl
      have HG := Lib.hid hGe
      clear hG hGe
      go_wp2_with fail
      go_ret
      exact ⟨by rw [HG.out]; rfl, (by repeat (first | exact Below.refl _ _ | assumption | refine Below.setCell ?_ (by first | omega | (simp; done) | (simp; omega)) _ | refine Below.alloc ?_ (by first | omega | (simp; done) | (simp; omega)) _ | apply Below.drew))⟩

theorem l3Has_any (p : Int) (s : Nat) (a : Option Addr) (n c : Nat) (l : List Nat) (w : World) (h : IntsAt w a n (up l)) (hs : s < 64) (hl : ∀ t ∈ l, t < 64) (b : Bool) (hb : isFace l s = b) :
    Calls Tryz.prog 156 #[.agg #[.int .i64 p, .slice a n c], .int .i64 s] w fun e w' => e = .returned (.bool b) ∧ Below w.heap.size w w' := by
  have hn := h.small
  have hlen : l.length = n := by rw [← h.len, up_len]
  have Hlen := Lib.hid hlen; clear hlen
  have Hl := Lib.hid hl; clear hl
  have Hb := Lib.hid hb; clear hb
  have hx : IntsAt (w.alloc (.cells #[.int .i64 p, .slice a n c] 32)) a n (up l) := h.keep (by repeat (first | exact Below.refl _ _ | assumption | refine Below.setCell ?_ (by first | omega | (simp; done) | (simp; omega)) _ | refine Below.alloc ?_ (by first | omega | (simp; done) | (simp; omega)) _ | apply Below.drew))
  have Hx := Lib.hid hx; clear hx h
  go_enter Tryz.func156, Tryz.ntmps156
  go_wp2_with fail
  go_loop [5] (fun i => ∃ k : Nat, k ≤ n ∧ i = .int .i64 k ∧ Hid (∀ j, j < k → sub s (nthN l j) = false)) (fun i => n - (intOf i).toNat)
  case atStart => exact ⟨0, Nat.zero_le _, rfl, Lib.hid fun j hj => absurd hj (Nat.not_lt_zero _)⟩
  case round =>
    obtain ⟨k, hk, rfl, hok⟩ := hrel
    by_cases hlt : k < n
    · obtain ⟨b1, o1, rfl, hc⟩ := Hx.out.cells (by omega)
      have hck := hc k hlt
      rw [nth_up] at hck
      have ht := Hl.out _ (nthN_mem (xs := l) (k := k) (by rw [Hlen.out]; exact hlt))
      obtain ⟨t, hte⟩ : ∃ t, t = nthN l k := ⟨_, rfl⟩
      rw [← hte] at hck ht
      have Hte := Lib.hid hte
      have hand := w_and t s ht hs
      have hst : (((t &&& s : Nat) : Int) == (s : Int)) = sub s t := by rw [castBeq]; unfold sub; rw [Nat.and_comm]
      clear hc hte
      cases hsb : sub s t
      · rw [hsb] at hst
        have Hsb := Lib.hid hsb; clear hsb
        go_wp2_with fail
        go_round
        case rel =>
          refine ⟨k + 1, by omega, by go_num, Lib.hid fun j hj => ?_⟩
          rcases Nat.lt_or_ge j k with h | h
          · exact hok.out j h
          · obtain rfl : j = k := by omega
            rw [← Hte.out]; exact Hsb.out
        case measure => simp [intOf]; omega
      · rw [hsb] at hst
        have hbt : b = true := by
          rw [← Hb.out]; exact any_yes (j := k) (by rw [Hlen.out]; exact hlt) (by rw [← Hte.out]; exact hsb)
        clear hsb
        subst hbt
        go_wp2_with fail
        go_ret
        exact ⟨rfl, (by repeat (first | exact Below.refl _ _ | assumption | refine Below.setCell ?_ (by first | omega | (simp; done) | (simp; omega)) _ | refine Below.alloc ?_ (by first | omega | (simp; done) | (simp; omega)) _ | apply Below.drew))⟩
    · obtain rfl : k = n := by omega
      have hkk : ¬ ((k : Int) < k) := by omega
      have hbt : b = false := by rw [← Hb.out]; exact any_no fun j hj => hok.out j (by rw [← Hlen.out]; exact hj)
      subst hbt
      go_wp2_with fail
      go_ret
      exact ⟨rfl, (by repeat (first | exact Below.refl _ _ | assumption | refine Below.setCell ?_ (by first | omega | (simp; done) | (simp; omega)) _ | refine Below.alloc ?_ (by first | omega | (simp; done) | (simp; omega)) _ | apply Below.drew))⟩

theorem sFacesOf_no (p : Int) (a : Option Addr) (n c : Nat) (xs : List Int) (w : World) (h : IntsAt w a n xs) (hno : ¬ Anti p xs) :
    Calls Tryz.prog 135 #[.agg #[.int .i64 p, .slice a n c]] w (RetInts w []) := by
  have Hx := Lib.hid h; clear h
  have Hno := Lib.hid hno; clear hno
  go_enter Tryz.func135, Tryz.ntmps135
  go_wp2_with fail
  go_loopw [3, 4] (fun f i wr => i = .int .i64 0 ∧ Below (w.heap.size + 1) (w.alloc (.cells #[.int .i64 p, .slice a n c] 32)) wr ∧ ∃ ad d, f = .slice ad 0 d ∧ Own 3 wr (w.heap.size + 1) ad 0 d (up [])) (fun _ _ _ => 0)
  case atStart => exact ⟨rfl, (by repeat (first | exact Below.refl _ _ | assumption | refine Below.setCell ?_ (by first | omega | (simp; done) | (simp; omega)) _ | refine Below.alloc ?_ (by first | omega | (simp; done) | (simp; omega)) _ | apply Below.drew)), _, 0, rfl, by have := Own.empty 3 (w.alloc (.cells #[.int .i64 p, .slice a n c] 32)) (w.heap.size + 1) (by simp); simp only [World.size_alloc] at this; exact this⟩
  case round =>
    obtain ⟨rfl, hb, ad, d, rfl, hown⟩ := hrel
    obtain ⟨hc0, hc1⟩ := box2 hb
    have hz : w.heap.size + 1 ≤ wr.heap.size := by have := hb.size; simpa using this
    have HB := Lib.hid hb; have HO := Lib.hid hown
    clear hb hown
    go_wp2_with fail
    refine (sIsComplex_any p a n c xs _ (Hx.out.box HB.out) false (by simp [Hno.out])).mono ?_
    rintro e w1 ⟨rfl, hb⟩
    have HO1 := Lib.hid (HO.out.keep hb)
    have HB1 := Lib.hid (HB.out.trans (hb.mono hz))
    have hz1 : w.heap.size + 1 ≤ w1.heap.size := by have := hb.size; omega
    clear hb
    go_wp2_with fail
    refine (l2Order_any ad 0 d [] _ HO1.out.reads (by simp)).mono ?_
    rintro e w2 ⟨ad2, m2, d2, rfl, hown, hb⟩
    have HB2 := Lib.hid (HB1.out.trans (hb.mono hz1)); have HO2 := Lib.hid (hown.mono (show w.heap.size ≤ _ by omega))
    clear hb hown
    go_wp2_with fail
    go_ret
    refine ⟨ad2, m2, d2, rfl, ?_, box_below HB2.out⟩
    have e : up (ord (List.contains [])) = [] := by
      have : ord (List.contains ([] : List Nat)) = [] := by rw [ord_filter]; simp
      rw [this]; rfl
    rw [← e]; exact HO2.out
set_option maxHeartbeats 1000000 in
theorem sFacesOf_yes (p : Int) (a : Option Addr) (n c : Nat) (l : List Nat) (w : World) (h : IntsAt w a n (up l)) (hA : Anti p (up l)) (hl : ∀ t ∈ l, t < 64) :
    Calls Tryz.prog 135 #[.agg #[.int .i64 p, .slice a n c]] w (RetInts w (up (ord (isFace l)))) := by
  have hx : IntsAt (w.alloc (.cells #[.int .i64 p, .slice a n c] 32)) a n (up l) := h.keep (by repeat (first | exact Below.refl _ _ | assumption | refine Below.setCell ?_ (by first | omega | (simp; done) | (simp; omega)) _ | refine Below.alloc ?_ (by first | omega | (simp; done) | (simp; omega)) _ | apply Below.drew))
  have Hx := Lib.hid hx; clear hx h
  have HA := Lib.hid hA; clear hA
  have Hl := Lib.hid hl; clear hl
  go_enter Tryz.func135, Tryz.ntmps135
  go_wp2_with fail
  go_loopw [3, 4] (fun f i wr => ∃ I : Nat, I ≤ 64 ∧ i = .int .i64 I ∧ Below (w.heap.size + 1) (w.alloc (.cells #[.int .i64 p, .slice a n c] 32)) wr ∧ ∃ ad k d, f = .slice ad k d ∧ k ≤ I ∧ Own 3 wr (w.heap.size + 1) ad k d (up (lst (isFace l) I))) (fun _ i _ => 64 - (intOf i).toNat)
  case atStart => exact ⟨0, by omega, rfl, (by repeat (first | exact Below.refl _ _ | assumption | refine Below.setCell ?_ (by first | omega | (simp; done) | (simp; omega)) _ | refine Below.alloc ?_ (by first | omega | (simp; done) | (simp; omega)) _ | apply Below.drew)), _, 0, 0, rfl, by omega, by have := Own.empty 3 (w.alloc (.cells #[.int .i64 p, .slice a n c] 32)) (w.heap.size + 1) (by simp); simp only [World.size_alloc] at this; exact this⟩
  case round =>
    obtain ⟨I, hI, rfl, hb, ad, k, d, rfl, hk, hown⟩ := hrel
    obtain ⟨hc0, hc1⟩ := box2 hb
    have hz : w.heap.size + 1 ≤ wr.heap.size := by have := hb.size; simpa using this
    have HB := Lib.hid hb; have HO := Lib.hid hown
    have Hx1 := Lib.hid (Hx.out.keep (by simpa using hb))
    clear hb hown
    by_cases hlt : I < 64
    · go_wp2_with fail
      refine (sIsComplex_any p a n c _ _ Hx1.out true (by simp [HA.out])).mono ?_
      rintro e w1 ⟨rfl, hb⟩
      have HO1 := Lib.hid (HO.out.keep hb)
      have HB1 := Lib.hid (HB.out.trans (hb.mono hz))
      have hz1 : w.heap.size + 1 ≤ w1.heap.size := by have := hb.size; omega
      have Hx2 := Lib.hid (Hx1.out.keep hb)
      obtain ⟨hd0, hd1⟩ := box2 HB1.out
      clear hb hc0 hc1
      obtain ⟨b, hbe⟩ : ∃ b, isFace l I = b := ⟨_, rfl⟩
      have Hbe := Lib.hid hbe; clear hbe
      go_wp2_with fail
      refine (l3Has_any p I a n c l _ Hx2.out hlt Hl.out b Hbe.out).mono ?_
      rintro e w2 ⟨rfl, hb⟩
      have HO2 := Lib.hid (HO1.out.keep hb)
      have HB2 := Lib.hid (HB1.out.trans (hb.mono hz1))
      have hz2 : w.heap.size + 1 ≤ w2.heap.size := by have := hb.size; omega
      clear hb
      cases b
      · go_wp2_with fail
        go_roundw
        case rel => exact ⟨I + 1, by omega, by go_num, HB2.out, ad, k, d, rfl, by omega, by rw [lst_no Hbe.out]; exact HO2.out⟩
        case measure => simp [intOf]; omega
      · go_wp2_with (at_builtin; refine ap rfl _ _ rfl (w.heap.size + 1) _ _ _ _ _ rfl HO2.out rfl (by omega) hz2 ?_; intro ad' d' w' hown' hb'; have HO3 := Lib.hid hown'; have HB3 := Lib.hid hb'; clear hown' hb')
        go_roundw
        case rel => exact ⟨I + 1, by omega, by go_num, HB2.out.trans HB3.out, ad', k + 1, d', rfl, by omega, by rw [lst_yes Hbe.out, up_append]; exact HO3.out⟩
        case measure => simp [intOf]; omega
    · obtain rfl : I = 64 := by omega
      go_wp2_with fail
      refine (l2Order_any ad k d (lst (isFace l) 64) _ HO.out.reads (fun s hs => (mem_lst.1 hs).1)).mono ?_
      rintro e w2 ⟨ad2, m2, d2, rfl, hown, hb⟩
      have HB2 := Lib.hid (HB.out.trans (hb.mono hz)); have HO2 := Lib.hid (hown.mono (show w.heap.size ≤ _ by omega))
      clear hb hown
      go_wp2_with fail
      go_ret
      refine ⟨ad2, m2, d2, rfl, ?_, box_below HB2.out⟩
      have e : ord (isFace l) = ord (lst (isFace l) 64).contains := ord_congr fun s hs => by rw [lst_has]; simp [hs]
      rw [e]; exact HO2.out

end Go.Proofs.YtihfhfihladlcaaGreatDoor

/- Contracts of topSize, bySize, FacesOfSize. -/
namespace Go.Proofs.YtihfhfihladlcaaGreatDoor
set_option maxRecDepth 20000
open Go.RowKit
set_option linter.unusedSimpArgs false
set_option linter.unusedVariables false

/-- the number of points of the largest set with p below k, and one more; 0 for none -/
def topTo (p : Nat → Bool) (k : Nat) : Nat := (List.range k).foldl (fun m s => if p s && decide (m ≤ sz s) then sz s + 1 else m) 0
theorem topTo_succ (p : Nat → Bool) (k : Nat) : topTo p (k + 1) = if p k && decide (topTo p k ≤ sz k) then sz k + 1 else topTo p k := by
  unfold topTo; rw [List.range_succ, List.foldl_append]; rfl
theorem topTo_le (p : Nat → Bool) (k : Nat) : topTo p k ≤ 7 := by
  induction k with
  | zero => unfold topTo; simp
  | succ k ih =>
    rw [topTo_succ]
    split
    · have := sz_le k; omega
    · exact ih
theorem topTo_ge {p : Nat → Bool} {s : Nat} (hs : p s = true) : ∀ k, s < k → sz s < topTo p k := by
  intro k
  induction k with
  | zero => intro h; omega
  | succ k ih =>
    intro h
    rw [topTo_succ]
    by_cases hsk : s = k
    · subst hsk
      rw [hs]
      split <;> simp_all
    · have := ih (by omega)
      split
      · simp_all; omega
      · exact this
/-- the sets of k points with p, below S -/
def lvlTo (p : Nat → Bool) (S k : Nat) : List Nat := (List.range S).filter fun s => p s && sz s == k
theorem lvl_no {p : Nat → Bool} {S : Nat} (h : p S = false) (k : Nat) : lvlTo p (S + 1) k = lvlTo p S k := by
  unfold lvlTo; rw [List.range_succ, List.filter_append]; simp [h]
theorem lvl_yes {p : Nat → Bool} {S : Nat} (h : p S = true) (k : Nat) : lvlTo p (S + 1) k = if k = sz S then lvlTo p S k ++ [S] else lvlTo p S k := by
  unfold lvlTo; rw [List.range_succ, List.filter_append]
  by_cases hk : k = sz S
  · simp [h, hk]
  · have : (sz S == k) = false := by simp; exact fun e => hk e.symm
    simp [h, hk, this]
theorem lvl_len (p : Nat → Bool) (S k : Nat) : (lvlTo p S k).length ≤ S := by
  unfold lvlTo; exact Nat.le_trans (List.length_filter_le _ _) (by simp)
theorem lvl_high {p : Nat → Bool} {k : Nat} (h : topTo p 64 ≤ k) : lvlTo p 64 k = [] := by
  unfold lvlTo
  rw [List.filter_eq_nil_iff]
  intro s hs
  have hs64 := List.mem_range.1 hs
  cases hp : p s
  · simp
  · have := topTo_ge hp 64 hs64
    simp; omega
theorem lvl_congr {p q : Nat → Bool} (h : ∀ s, s < 64 → p s = q s) (k : Nat) : lvlTo p 64 k = lvlTo q 64 k :=
  List.filter_congr fun s hs => by rw [h s (List.mem_range.1 hs)]
theorem mem_lvl {p : Nat → Bool} {k s : Nat} : s ∈ lvlTo p 64 k ↔ s < 64 ∧ p s = true ∧ sz s = k := by
  unfold lvlTo; simp
theorem ord_lvl (p : Nat → Bool) (k : Nat) : (ord p).filter (fun s => sz s == k) = lvlTo p 64 k := by
  unfold ord lvlTo
  rw [List.filter_flatMap]
  have e : ∀ j, ((List.range 64).filter fun t => p t && sz t == j).filter (fun s => sz s == k) = if j = k then (List.range 64).filter (fun t => p t && sz t == k) else [] := by
    intro j
    rw [List.filter_filter]
    by_cases hj : j = k
    · subst hj
      simp only [if_true]
      exact List.filter_congr fun t _ => by cases p t <;> simp
    · rw [if_neg hj, List.filter_eq_nil_iff]
      intro t _
      simp; omega
  rw [show (fun j => ((List.range 64).filter fun t => p t && sz t == j).filter (fun s => sz s == k)) = fun j => if j = k then (List.range 64).filter (fun t => p t && sz t == k) else [] from funext e]
  by_cases hk : k < 7
  · match k, hk with
    | 0, _ | 1, _ | 2, _ | 3, _ | 4, _ | 5, _ | 6, _ => simp [List.range_succ]
  · have h0 : (List.range 64).filter (fun t => p t && sz t == k) = [] := by
      rw [List.filter_eq_nil_iff]
      intro t _
      have := sz_le t
      simp; omega
    rw [h0]; simp

theorem topSize_any (F : Nat) (w : World) (hF : Fam F) :
    Calls Tryz.prog 193 #[.int .u64 F] w fun e w' => e = .returned (.int .i64 ((topTo F.testBit 64 : Int) - 1)) ∧ w = w' := by
  go_enter Tryz.func193, Tryz.ntmps193
  go_wp2_with fail
  go_loop [3, 4] (fun m i => ∃ (I : Nat) (M : Int), I ≤ 64 ∧ i = .int .i64 I ∧ m = .int .i64 M ∧ M = (topTo F.testBit I : Int) - 1) (fun _ i => 64 - (intOf i).toNat)
  case atStart => exact ⟨0, -1, by omega, rfl, rfl, by unfold topTo; simp⟩
  case round =>
    obtain ⟨I, M, hI, rfl, rfl, hM⟩ := hrel
    have Hs := Lib.hid (topTo_succ F.testBit I)
    have HM := Lib.hid hM; clear hM
    by_cases hlt : I < 64
    · cases hb : F.testBit I
      · have HI : Hid (topTo F.testBit (I + 1) = topTo F.testBit I) := Lib.hid (by rw [Hs.out, hb]; rfl)
        go_wp2_with (go_at_call 152; (with_reducible refine (hasSet_any F I _ hF hlt).mono ?_); rintro e w' ⟨rfl, rfl⟩)
        go_round
        case rel => exact ⟨I + 1, M, by omega, by go_num, rfl, by rw [HI.out]; exact HM.out⟩
        case measure => simp [intOf]; omega
      · by_cases hgt : M < (sz I : Int)
        · have HI : Hid (topTo F.testBit (I + 1) = sz I + 1) := Lib.hid (by
            have := HM.out
            rw [Hs.out, hb, if_pos]
            simp; omega)
          go_wp2_with (first | (go_at_call 152; (with_reducible refine (hasSet_any F I _ hF hlt).mono ?_); rintro e w' ⟨rfl, rfl⟩) | (go_at_call 136; (with_reducible refine (SizeOf_any I _ hlt).mono ?_); rintro e w' ⟨rfl, rfl⟩))
          go_round
          case rel => exact ⟨I + 1, sz I, by omega, by go_num, rfl, by rw [HI.out]; omega⟩
          case measure => simp [intOf]; omega
        · have HI : Hid (topTo F.testBit (I + 1) = topTo F.testBit I) := Lib.hid (by
            have := HM.out
            rw [Hs.out, hb, if_neg]
            simp; omega)
          go_wp2_with (first | (go_at_call 152; (with_reducible refine (hasSet_any F I _ hF hlt).mono ?_); rintro e w' ⟨rfl, rfl⟩) | (go_at_call 136; (with_reducible refine (SizeOf_any I _ hlt).mono ?_); rintro e w' ⟨rfl, rfl⟩))
          go_round
          case rel => exact ⟨I + 1, M, by omega, by go_num, rfl, by rw [HI.out]; exact HM.out⟩
          case measure => simp [intOf]; omega
    · obtain rfl : I = 64 := by omega
      go_wp2_with fail
      go_ret
      exact ⟨ret_int HM.out, rfl⟩

theorem Grid.congr {w : World} {B g n : Nat} {f f' : Nat → Sl} {L L' : Nat → List Int} (h : Grid w B g n f L) (hf : ∀ i, i < n → f i = f' i) (hL : ∀ i, i < n → L i = L' i) : Grid w B g n f' L' := by
  have e : (List.range n).map (fun i => (f i).val) = (List.range n).map fun i => (f' i).val := List.map_congr_left fun i hi => by rw [hf i (List.mem_range.1 hi)]
  refine ⟨by rw [← e]; exact h.row, fun i hi => by rw [← hf i hi, ← hL i hi]; exact h.own i hi, fun i hi => by rw [← hf i hi]; exact h.far i hi, fun i j hi hj => by rw [← hf i hi, ← hf j hj]; exact h.apart i j hi hj⟩
theorem Grid.grown {w w' : World} {B g n : Nat} {f : Nat → Sl} {L : Nat → List Int} (h : Grid w B g n f L) {k : Nat} (hk : k < n) (hg : w.grownBy w' (f k).val.ownBlock) :
    w'.cell? ⟨g, k, none⟩ = some (f k).val ∧ w'.frozen? ⟨g, k, none⟩ = false := by
  have e : w'.heap[g]? = w.heap[g]? := hg.block g h.glt.2 fun e => by
    obtain ⟨b, hb, hbg⟩ := ownBlock_some e.symm
    exact h.far k hk b hb hbg
  exact ⟨(World.cell?_of_block (a := ⟨g, k, none⟩) e).trans (h.cell hk), (World.frozen?_of_block (a := ⟨g, k, none⟩) e).trans (h.frozen hk)⟩

/-- the lists by size -/
def RetLvl (w : World) (F : Nat) (e : Ending) (w' : World) : Prop :=
  ∃ g f, e = .returned (.slice (some ⟨g, 0, none⟩) (topTo F.testBit 64) (topTo F.testBit 64)) ∧ Grid w' w.heap.size g (topTo F.testBit 64) f (fun k => up (lvlTo F.testBit 64 k)) ∧ Below w.heap.size w w'

set_option maxRecDepth 100000 in
set_option maxHeartbeats 2000000 in
theorem bySize_any (F : Nat) (w : World) (hF : Fam F) : Calls Tryz.prog 205 #[.int .u64 F] w (RetLvl w F) := by
  obtain ⟨n, hn⟩ : ∃ n, n = topTo F.testBit 64 := ⟨_, rfl⟩
  have hn7 : n ≤ 7 := by rw [hn]; exact topTo_le _ _
  have hge : ∀ s, s < 64 → F.testBit s = true → sz s < n := fun s hs h => by rw [hn]; exact topTo_ge h 64 hs
  have hsub : (n : Int) - 1 + 1 = n := by omega
  have Hge := Lib.hid hge
  have Hn := Lib.hid hn
  clear hge hn
  obtain ⟨B, hB⟩ : ∃ B, B = w.heap.size := ⟨_, rfl⟩
  have HB := Lib.hid hB; clear hB
  go_enter Tryz.func205, Tryz.ntmps205
  go_wp2_with (first
    | (go_at_call 193; refine (topSize_any F _ hF).mono ?_; rw [← Hn.out]; rintro e we ⟨rfl, rfl⟩)
    | (at_make; refine mk_grid rfl _ _ rfl _ rfl rfl n (by first | omega | simp) (by omega) ?_; intro g w1 hgrid hb1; have HG1 := Lib.hid hgrid; have HB1 := Lib.hid hb1; clear hgrid hb1))
  go_loopw [4, 5] (fun i _ wr => ∃ I : Nat, I ≤ 64 ∧ i = .int .i64 I ∧ Below B w wr ∧ ∃ f, (∀ k, k < n → (f k).2.1 ≤ I) ∧ Grid wr B g n f (fun k => up (lvlTo F.testBit I k))) (fun i _ _ => 64 - (intOf i).toNat)
  case atStart => exact ⟨0, by omega, rfl, by rw [HB.out]; exact HB1.out, _, fun k hk => Nat.le_refl _, by rw [HB.out]; exact HG1.out⟩
  case round =>
    obtain ⟨I, hI, rfl, hb, f, hf, hgrid⟩ := hrel
    have hz : B ≤ wr.heap.size := by have := HB.out; have := hb.size; omega
    have HG := Lib.hid hgrid; have HBr := Lib.hid hb
    have Hf := Lib.hid hf
    clear hgrid hb hf
    by_cases hlt : I < 64
    · cases hbI : F.testBit I
      · have HI := Lib.hid (lvl_no hbI)
        go_wp2_with (go_at_call 152; (with_reducible refine (hasSet_any F I _ hF hlt).mono ?_); rintro e w' ⟨rfl, rfl⟩)
        go_roundw
        case rel => exact ⟨I + 1, by omega, by go_num, HBr.out, f, fun k hk => by have := Hf.out k hk; omega, HG.out.congr (fun _ _ => rfl) fun k _ => by rw [HI.out k]⟩
        case measure => simp [intOf]; omega
      · have HI := Lib.hid (lvl_yes hbI)
        have hk := Hge.out I hlt hbI
        obtain ⟨k, hke⟩ : ∃ k, k = sz I := ⟨_, rfl⟩
        rw [← hke] at hk
        have Hke := Lib.hid hke; clear hke
        have hk0 : (0 : Int) ≤ k := by omega
        have hkn : (k : Int) < n := by omega
        have hcell := HG.out.cell hk
        have hfro := HG.out.frozen hk
        obtain ⟨⟨ad, m, d⟩, hfk⟩ : ∃ x : Sl, x = f k := ⟨_, rfl⟩
        have hm := Hf.out k hk
        have hown := HG.out.own k hk
        rw [← hfk] at hcell hm hown
        simp only [Sl.val] at hcell hm hown
        have HO := Lib.hid hown
        have Hfk := Lib.hid hfk
        clear hown hfk
        go_wp2_with (first
          | (go_at_call 152; (with_reducible refine (hasSet_any F I _ hF hlt).mono ?_); rintro e w' ⟨rfl, rfl⟩)
          | (go_at_call 136; refine (SizeOf_any I _ hlt).mono ?_; rw [← Hke.out]; rintro e we ⟨rfl, rfl⟩)
          | (at_builtin; refine ap_at rfl _ _ rfl B _ _ _ _ _ rfl HO.out rfl (by omega) hz ?_; intro ad' d' w' hown' hb' hg' hnew'; have HO' := Lib.hid hown'; have HB' := Lib.hid hb'; have hgw := HG.out.grown hk (by rw [← Hfk.out]; exact hg'); rw [← Hfk.out] at hgw; obtain ⟨gc, gf⟩ := hgw; simp only [Sl.val] at gc; have HG' := Lib.hid hg'; have HN' := Lib.hid hnew'; clear hown' hb' hg' hnew'))
        go_roundw
        case rel =>
          have hst := HG.out.step hk (x := (ad', m + 1, d')) (xs := _) HO'.out (by rw [← Hfk.out]; exact HG'.out) (by rw [← Hfk.out]; exact HN'.out)
          refine ⟨I + 1, by omega, by go_num, (HBr.out.trans HB'.out).setCell HG.out.glt.1 _, _, fun i hi => ?_, hst.congr (fun _ _ => rfl) fun i hi => ?_⟩
          · have := Hf.out i hi
            by_cases hik : i = k
            · simp only [hik, if_true]; omega
            · simp only [if_neg hik]; omega
          · rw [HI.out i]
            by_cases hik : i = k
            · rw [if_pos hik, if_pos (by rw [hik]; exact Hke.out), up_append, hik]; rfl
            · rw [if_neg hik, if_neg (by rw [← Hke.out]; exact hik)]
        case measure => simp [intOf]; omega
    · obtain rfl : I = 64 := by omega
      go_wp2_with fail
      go_ret
      rw [Hn.out] at HG
      exact ⟨g, f, by rw [Hn.out]; rfl, by rw [← HB.out]; exact HG.out, by rw [← HB.out]; exact HBr.out⟩
end Go.Proofs.YtihfhfihladlcaaGreatDoor

/- Contracts of FacesOfSize and GraphOf, the program's and the reference's. -/
namespace Go.Proofs.YtihfhfihladlcaaGreatDoor
set_option maxRecDepth 20000
open Go.RowKit
set_option linter.unusedSimpArgs false
set_option linter.unusedVariables false

/-- the faces of so many points; none for a number below 0 -/
def ofSize (l : List Nat) (k : Int) : List Nat := if k < 0 then [] else lvlTo (isFace l) 64 k.toNat
theorem ofSize_len (l : List Nat) (k : Int) : (ofSize l k).length ≤ 64 := by
  unfold ofSize; split
  · simp
  · exact lvl_len _ _ _
theorem ofSize_filter (l : List Nat) (k : Int) : (ord (isFace l)).filter (fun s => ((sz s : Int) == k)) = ofSize l k := by
  unfold ofSize
  split
  · rw [List.filter_eq_nil_iff]
    intro s _
    simp; omega
  · rw [← ord_lvl]
    exact List.filter_congr fun s _ => by
      rw [Bool.eq_iff_iff]; simp; omega

theorem iOfSize_no (p : Int) (a : Option Addr) (n c : Nat) (xs : List Int) (k : Int) (w : World) (h : IntsAt w a n xs) (hcap : n ≤ c) (hno : ¬ Anti p xs) :
    Calls Tryz.prog 194 #[.agg #[.int .i64 p, .slice a n c], .int .i64 k] w (RetInts w []) := by
  have hx : IntsAt (w.alloc (.cells #[.int .i64 p, .slice a n c] 32)) a n xs := h.keep (by repeat (first | exact Below.refl _ _ | assumption | refine Below.setCell ?_ (by first | omega | (simp; done) | (simp; omega)) _ | refine Below.alloc ?_ (by first | omega | (simp; done) | (simp; omega)) _ | apply Below.drew))
  have Hx := Lib.hid hx; clear hx h
  have Hno := Lib.hid hno; clear hno
  have Hcap := Lib.hid hcap; clear hcap
  go_enter Tryz.func194, Tryz.ntmps194
  go_wp2_with fail
  refine (iIsComplex_any p a n c xs _ Hx.out Hcap.out false (by simp [Hno.out])).mono ?_
  rintro e w1 ⟨rfl, hb⟩
  have HB : Hid (Below w.heap.size w w1) := Lib.hid (Below.trans (by repeat (first | exact Below.refl _ _ | assumption | refine Below.setCell ?_ (by first | omega | (simp; done) | (simp; omega)) _ | refine Below.alloc ?_ (by first | omega | (simp; done) | (simp; omega)) _ | apply Below.drew)) (hb.mono (by simp <;> omega)))
  clear hb
  go_wp2_with fail
  go_ret
  exact ⟨none, 0, 0, rfl, Own.nil _ _ _, HB.out⟩
set_option maxHeartbeats 1000000 in
theorem iOfSize_yes (p : Int) (a : Option Addr) (n c : Nat) (l : List Nat) (k : Int) (w : World) (h : IntsAt w a n (up l)) (hcap : n ≤ c) (hA : Anti p (up l)) (hl : ∀ t ∈ l, t < 64) :
    Calls Tryz.prog 194 #[.agg #[.int .i64 p, .slice a n c], .int .i64 k] w (RetInts w (up (ofSize l k))) := by
  have hx : IntsAt (w.alloc (.cells #[.int .i64 p, .slice a n c] 32)) a n (up l) := h.keep (by repeat (first | exact Below.refl _ _ | assumption | refine Below.setCell ?_ (by first | omega | (simp; done) | (simp; omega)) _ | refine Below.alloc ?_ (by first | omega | (simp; done) | (simp; omega)) _ | apply Below.drew))
  have Hx := Lib.hid hx; clear hx h
  have HA := Lib.hid hA; clear hA
  have Hl := Lib.hid hl; clear hl
  have Hcap := Lib.hid hcap; clear hcap
  go_enter Tryz.func194, Tryz.ntmps194
  go_wp2_with fail
  refine (iIsComplex_any p a n c _ _ Hx.out Hcap.out true (by simp [HA.out])).mono ?_
  rintro e w1 ⟨rfl, hb⟩
  obtain ⟨hc, hf⟩ := bcell hb
  have hz : w.heap.size + 1 ≤ w1.heap.size := by have := hb.size; simp at this; omega
  have Hx1 := Lib.hid (Hx.out.keep hb)
  have HB : Hid (Below w.heap.size w w1) := Lib.hid (Below.trans (by repeat (first | exact Below.refl _ _ | assumption | refine Below.setCell ?_ (by first | omega | (simp; done) | (simp; omega)) _ | refine Below.alloc ?_ (by first | omega | (simp; done) | (simp; omega)) _ | apply Below.drew)) (hb.mono (by simp <;> omega)))
  clear hb
  have hF := faceSet_Fam l
  have hlv : ∀ j, lvlTo (faceSet l).testBit 64 j = lvlTo (isFace l) 64 j := fun j => lvl_congr (fun s hs => faceSet_bit hs) j
  obtain ⟨F, hFe⟩ : ∃ F, F = faceSet l := ⟨_, rfl⟩
  rw [← hFe] at hF hlv
  have HFe := Lib.hid hFe; have Hlv := Lib.hid hlv
  clear hFe hlv
  go_wp2_with fail
  refine (facesIn_any p a n c l _ Hx1.out Hl.out).mono ?_
  rw [← HFe.out]
  rintro e w2 ⟨rfl, hb⟩
  have HB2 := Lib.hid (HB.out.trans (hb.mono HB.out.size))
  clear hb
  go_wp2_with fail
  refine (bySize_any F _ hF).mono ?_
  rintro e w3 ⟨g, f, rfl, hgrid, hb⟩
  have HB3 := Lib.hid (HB2.out.trans (hb.mono HB2.out.size)); have HG := Lib.hid hgrid
  clear hb hgrid
  obtain ⟨N, hN⟩ : ∃ N, N = topTo F.testBit 64 := ⟨_, rfl⟩
  rw [← hN] at HG ⊢
  have HN := Lib.hid hN; clear hN
  by_cases h0 : k < 0
  · go_wp2_with fail
    go_ret
    exact ⟨none, 0, 0, rfl, by unfold ofSize; rw [if_pos h0]; exact Own.nil _ _ _, HB3.out⟩
  · obtain ⟨j, rfl⟩ := Int.eq_ofNat_of_zero_le (show 0 ≤ k by omega)
    have hof : ofSize l (j : Int) = lvlTo F.testBit 64 j := by
      unfold ofSize; rw [if_neg h0, Hlv.out]; rfl
    have Hof := Lib.hid hof; clear hof
    by_cases hj : j < N
    · have hjN : ¬ (N : Int) ≤ j := by omega
      have hj0 : (0 : Int) ≤ j := by omega
      have hjl : (j : Int) < N := by omega
      have hcell := HG.out.cell hj
      have hown := HG.out.own j hj
      obtain ⟨⟨ad, m, d⟩, hfk⟩ : ∃ x : Sl, x = f j := ⟨_, rfl⟩
      rw [← hfk] at hcell hown
      simp only [Sl.val] at hcell hown
      have HO := Lib.hid (hown.mono HB2.out.size)
      clear hfk hown
      go_wp2_with fail
      go_ret
      exact ⟨ad, m, d, rfl, by rw [Hof.out]; exact HO.out, HB3.out⟩
    · have hjN : (N : Int) ≤ j := by omega
      go_wp2_with fail
      go_ret
      refine ⟨none, 0, 0, rfl, ?_, HB3.out⟩
      rw [Hof.out, lvl_high (by have := HN.out; omega)]; exact Own.nil _ _ _

theorem sOfSize_no (p : Int) (a : Option Addr) (n c : Nat) (xs : List Int) (k : Int) (w : World) (h : IntsAt w a n xs) (hno : ¬ Anti p xs) :
    Calls Tryz.prog 189 #[.agg #[.int .i64 p, .slice a n c], .int .i64 k] w (RetInts w []) := by
  have hx : IntsAt ((w.alloc (.cells #[.int .i64 p, .slice a n c] 32)).alloc (.cells #[] 3)) a n xs := h.keep (by repeat (first | exact Below.refl _ _ | assumption | refine Below.setCell ?_ (by first | omega | (simp; done) | (simp; omega)) _ | refine Below.alloc ?_ (by first | omega | (simp; done) | (simp; omega)) _ | apply Below.drew))
  have Hx := Lib.hid hx; clear hx h
  have Hno := Lib.hid hno; clear hno
  go_enter Tryz.func189, Tryz.ntmps189
  go_wp2_with fail
  refine (sFacesOf_no p a n c xs _ Hx.out Hno.out).mono ?_
  rintro e w1 ⟨ad, m, d, rfl, hown, hb⟩
  have hm : m = 0 := by have := hown.len; simpa using this.symm
  subst hm
  have HO0 : Hid (Own 3 w1 w.heap.size (some ⟨w.heap.size + 1, 0, none⟩) 0 0 []) := Lib.hid (by
    have := (Own.empty 3 (w.alloc (.cells #[.int .i64 p, .slice a n c] 32)) w.heap.size (by simp)).keep hb
    simp only [World.size_alloc] at this; exact this)
  have HB : Hid (Below w.heap.size w w1) := Lib.hid (Below.trans (by repeat (first | exact Below.refl _ _ | assumption | refine Below.setCell ?_ (by first | omega | (simp; done) | (simp; omega)) _ | refine Below.alloc ?_ (by first | omega | (simp; done) | (simp; omega)) _ | apply Below.drew)) (hb.mono (by simp <;> omega)))
  clear hb hown
  go_wp2_with fail
  go_loop [5, 7] (fun f i => f = .slice (some ⟨w.heap.size + 1, 0, none⟩) 0 0 ∧ i = .int .i64 0) (fun _ _ => 0)
  case atStart => exact ⟨rfl, rfl⟩
  case round =>
    obtain ⟨rfl, rfl⟩ := hrel
    go_wp2_with fail
    go_ret
    exact ⟨_, 0, 0, rfl, HO0.out, HB.out⟩
set_option maxHeartbeats 1000000 in
theorem sOfSize_yes (p : Int) (a : Option Addr) (n c : Nat) (l : List Nat) (k : Int) (w : World) (h : IntsAt w a n (up l)) (hA : Anti p (up l)) (hl : ∀ t ∈ l, t < 64) :
    Calls Tryz.prog 189 #[.agg #[.int .i64 p, .slice a n c], .int .i64 k] w (RetInts w (up (ofSize l k))) := by
  have hx : IntsAt ((w.alloc (.cells #[.int .i64 p, .slice a n c] 32)).alloc (.cells #[] 3)) a n (up l) := h.keep (by repeat (first | exact Below.refl _ _ | assumption | refine Below.setCell ?_ (by first | omega | (simp; done) | (simp; omega)) _ | refine Below.alloc ?_ (by first | omega | (simp; done) | (simp; omega)) _ | apply Below.drew))
  have Hx := Lib.hid hx; clear hx h
  have HA := Lib.hid hA; clear hA
  have Hl := Lib.hid hl; clear hl
  rw [← ofSize_filter]
  obtain ⟨D, hD⟩ : ∃ D, D = ord (isFace l) := ⟨_, rfl⟩
  rw [← hD]
  have hD64 : ∀ s ∈ D, s < 64 := by rw [hD]; exact ord_lt
  have hDl : D.length ≤ 64 := by rw [hD]; exact ord_len _
  have HD64 := Lib.hid hD64; have HD := Lib.hid hD
  clear hD hD64
  obtain ⟨q, hq⟩ : ∃ q : Nat → Bool, q = fun s => ((sz s : Int) == k) := ⟨_, rfl⟩
  rw [← hq]
  have Hq := Lib.hid (show ∀ s, ((sz s : Int) == k) = q s from fun s => by rw [hq]); clear hq
  go_enter Tryz.func189, Tryz.ntmps189
  go_wp2_with fail
  refine (sFacesOf_yes p a n c l _ Hx.out HA.out Hl.out).mono ?_
  rw [← HD.out]
  rintro e w1 ⟨ad, m, d, rfl, hown, hb⟩
  have HO0 : Hid (Own 3 w1 w.heap.size (some ⟨w.heap.size + 1, 0, none⟩) 0 0 []) := Lib.hid (by
    have := (Own.empty 3 (w.alloc (.cells #[.int .i64 p, .slice a n c] 32)) w.heap.size (by simp)).keep hb
    simp only [World.size_alloc] at this; exact this)
  have HB : Hid (Below w.heap.size w w1) := Lib.hid (Below.trans (by repeat (first | exact Below.refl _ _ | assumption | refine Below.setCell ?_ (by first | omega | (simp; done) | (simp; omega)) _ | refine Below.alloc ?_ (by first | omega | (simp; done) | (simp; omega)) _ | apply Below.drew)) (hb.mono (by simp <;> omega)))
  have HR := Lib.hid (hown.mono (show w.heap.size ≤ _ by simp; omega))
  have hDm : D.length = m := by have := HR.out.len; rwa [up_len] at this
  have HDm := Lib.hid hDm
  have hlo := hown.lt
  have Hlo : Hid (∀ k, (Value.slice ad m d).ownBlock = some k → w.heap.size + 2 ≤ k ∧ k < w1.heap.size) := Lib.hid (fun k hk => by have := hlo k hk; simp at this; omega)
  have hm64 : m ≤ 64 := by omega
  clear hb hown hDl hlo hDm
  have hz1 : w.heap.size ≤ w1.heap.size := HB.out.size
  go_wp2_with fail
  go_loopw [5, 7] (fun f i wr => ∃ I : Nat, I ≤ m ∧ i = .int .i64 I ∧ Below w.heap.size w wr ∧ w1.heap.size ≤ wr.heap.size ∧ ∃ ad2 k2 d2, f = .slice ad2 k2 d2 ∧ k2 ≤ I ∧ Own 3 wr w.heap.size ad2 k2 d2 (up ((D.take I).filter q)) ∧ Own 3 wr w.heap.size ad m d (up D) ∧ (∀ b, ad2 = some b → b.block = w.heap.size + 1 ∨ w1.heap.size ≤ b.block)) (fun _ i _ => m - (intOf i).toNat)
  case atStart => exact ⟨0, by omega, rfl, HB.out, Nat.le_refl _, _, 0, 0, rfl, by omega, HO0.out, HR.out, fun b hb => .inl (by cases hb; rfl)⟩
  case round =>
    obtain ⟨I, hI, rfl, hb, hzr, ad2, k2, d2, rfl, hk2, hown, hR, hloc⟩ := hrel
    have HBr := Lib.hid hb; have HO := Lib.hid hown; have HRr := Lib.hid hR; have Hloc := Lib.hid hloc
    clear hb hown hR hloc
    by_cases hlt : I < m
    · obtain ⟨b1, o1, rfl, hc⟩ := HRr.out.reads.cells (by omega)
      have hck := hc I hlt
      rw [nth_up] at hck
      have ht := HD64.out _ (nthN_mem (xs := D) (k := I) (by rw [HDm.out]; exact hlt))
      have htk : D.take (I + 1) = D.take I ++ [nthN D I] := nthN_take D I (by rw [HDm.out]; exact hlt)
      obtain ⟨t, hte⟩ : ∃ t, t = nthN D I := ⟨_, rfl⟩
      rw [← hte] at hck ht htk
      have hqt := Hq.out t
      have Htk := Lib.hid htk
      clear hc hte htk
      cases hqb : q t
      · rw [hqb] at hqt
        have Hqb := Lib.hid hqb; clear hqb
        go_wp2_with (go_at_call 138; (with_reducible refine (l2Size_any t _ ht).mono ?_); rintro e w' ⟨rfl, rfl⟩)
        go_roundw
        case rel => exact ⟨I + 1, by omega, by go_num, HBr.out, hzr, ad2, k2, d2, rfl, by omega, by rw [Htk.out, List.filter_append]; simp [Hqb.out]; exact HO.out, HRr.out, Hloc.out⟩
        case measure => simp [intOf]; omega
      · rw [hqb] at hqt
        have Hqb := Lib.hid hqb; clear hqb
        go_wp2_with (first
          | (go_at_call 138; (with_reducible refine (l2Size_any t _ ht).mono ?_); rintro e w' ⟨rfl, rfl⟩)
          | (at_builtin; refine ap_at rfl _ _ rfl w.heap.size _ _ _ _ _ rfl HO.out rfl (by omega) (by omega) ?_; intro ad' d' w' hown' hb' hg' hnew'; have HO' := Lib.hid hown'; have HB' := Lib.hid hb'; have HG' := Lib.hid hg'; have HN' := Lib.hid hnew'; clear hown' hb' hg' hnew'))
        go_roundw
        case rel =>
          refine ⟨I + 1, by omega, by go_num, HBr.out.trans HB'.out, Nat.le_trans hzr HB'.out.size, ad', k2 + 1, d', rfl, by omega, ?_, ?_, fun b hb => ?_⟩
          · rw [Htk.out, List.filter_append, up_append]
            simp [Hqb.out]
            exact HO'.out
          · refine HRr.out.grownNe HG'.out fun q1 h1 q2 h2 e => ?_
            obtain ⟨b, hb, hbq⟩ := ownBlock_some h1
            have h3 := Hlo.out q2 h2
            rcases Hloc.out b hb with h4 | h4 <;> omega
          · rcases HN'.out b hb with ⟨c, hc, hbc⟩ | h
            · rw [hbc]; exact Hloc.out c hc
            · exact .inr (by omega)
        case measure => simp [intOf]; omega
    · obtain rfl : I = m := by omega
      have hii : ¬ ((I : Int) < I) := by omega
      have HOf : Hid (Own 3 wr w.heap.size ad2 k2 d2 (up (D.filter q))) := Lib.hid (by have := HO.out; rw [← HDm.out, List.take_length] at this; exact this)
      go_wp2_with fail
      go_ret
      exact ⟨ad2, k2, d2, rfl, HOf.out, HBr.out⟩
end Go.Proofs.YtihfhfihladlcaaGreatDoor

/- Contracts of GraphOf, the program's and the reference's. -/
namespace Go.Proofs.YtihfhfihladlcaaGreatDoor
set_option maxRecDepth 20000
open Go.RowKit
set_option linter.unusedSimpArgs false
set_option linter.unusedVariables false


end Go.Proofs.YtihfhfihladlcaaGreatDoor

/- Contracts of FaceCounts, the program's and the reference's. -/
namespace Go.Proofs.YtihfhfihladlcaaGreatDoor
set_option maxRecDepth 20000
open Go.RowKit
set_option linter.unusedSimpArgs false
set_option linter.unusedVariables false

/-- how many sets with p have so many points -/
def cntOf (p : Nat → Bool) : List Nat := (List.range (topTo p 64)).map fun k => (lvlTo p 64 k).length
/-- the numbers of a list's sets by size, below T -/
def ct (L : List Nat) (T : Nat) : List Nat := (List.range T).map fun k => (L.filter fun s => sz s == k).length
theorem ct_len (L : List Nat) (T : Nat) : (ct L T).length = T := by simp [ct]
theorem ct_succ {L : List Nat} {T : Nat} (h : ∀ s ∈ L, sz s < T) : ct L (T + 1) = ct L T ++ [0] := by
  unfold ct
  rw [List.range_succ, List.map_append]
  have : L.filter (fun s => sz s == T) = [] := by
    rw [List.filter_eq_nil_iff]
    intro s hs
    have := h s hs
    simp; omega
  simp [this]
theorem ct_at {L : List Nat} {T k : Nat} (hk : k < T) : nthN (ct L T) k = (L.filter fun s => sz s == k).length := by
  rw [nthN_eq (by rw [ct_len]; exact hk)]
  simp [ct]
theorem ct_add {L : List Nat} {T u : Nat} (hu : sz u < T) : (ct L T).set (sz u) (nthN (ct L T) (sz u) + 1) = ct (L ++ [u]) T := by
  apply List.ext_getElem (by simp [ct])
  intro i h1 h2
  rw [List.getElem_set]
  by_cases hi : sz u = i
  · subst hi
    rw [if_pos rfl, ct_at hu]
    simp [ct, List.filter_append]
  · rw [if_neg hi]
    have : (sz u == i) = false := by simp; exact hi
    simp [ct, List.filter_append, this]
theorem ct_end {p : Nat → Bool} {T : Nat} (h1 : ∀ s ∈ ord p, sz s < T) (h2 : T = 0 ∨ ∃ s ∈ ord p, sz s + 1 = T) : ct (ord p) T = cntOf p := by
  have hT : T = topTo p 64 := by
    have hge : ∀ s, s < 64 → p s = true → sz s < T := fun s hs hp => h1 s (mem_ord.2 ⟨hs, hp⟩)
    have a : topTo p 64 ≤ T := by
      have key : ∀ k, k ≤ 64 → topTo p k ≤ T := by
        intro k
        induction k with
        | zero => intro _; unfold topTo; simp
        | succ k ih =>
          intro hk
          rw [topTo_succ]
          split
          · rename_i h
            rw [Bool.and_eq_true] at h
            have := hge k (by omega) h.1
            omega
          · exact ih (by omega)
      exact key 64 (Nat.le_refl _)
    have b : T ≤ topTo p 64 := by
      rcases h2 with h | ⟨s, hs, h⟩
      · omega
      · obtain ⟨h64, hp⟩ := mem_ord.1 hs
        have := topTo_ge hp 64 h64
        omega
    omega
  subst hT
  unfold ct cntOf
  exact List.map_congr_left fun k _ => by rw [ord_lvl]
theorem cnt_len (p : Nat → Bool) : (cntOf p).length ≤ 7 := by unfold cntOf; have := topTo_le p 64; simpa using this
theorem cnt_le (p : Nat → Bool) : ∀ x ∈ cntOf p, x ≤ 64 := fun x hx => by
  unfold cntOf at hx
  obtain ⟨k, _, rfl⟩ := List.mem_map.1 hx
  exact lvl_len _ _ _

theorem countBySize_any (F : Nat) (w : World) (hF : Fam F) : Calls Tryz.prog 178 #[.int .u64 F] w (RetInts w (up (cntOf F.testBit))) := by
  go_enter Tryz.func178, Tryz.ntmps178
  go_wp2_with fail
  refine (bySize_any F _ hF).mono ?_
  rintro e w1 ⟨g, f, rfl, hgrid, hb⟩
  have HG := Lib.hid hgrid; have HB := Lib.hid hb
  have hT7 := topTo_le F.testBit 64
  obtain ⟨T, hT⟩ : ∃ T, T = topTo F.testBit 64 := ⟨_, rfl⟩
  have hcnt : cntOf F.testBit = (List.range T).map fun k => (lvlTo F.testBit 64 k).length := by rw [hT]; rfl
  rw [← hT] at HG hT7 ⊢
  have Hcnt := Lib.hid hcnt
  have hz1 : w.heap.size ≤ w1.heap.size := hb.size
  clear hgrid hb hT hcnt
  go_wp2_with fail
  go_loopw [3, 5, 9] (fun o _ i wr => ∃ I : Nat, I ≤ T ∧ i = .int .i64 I ∧ Below w1.heap.size w1 wr ∧ ∃ ad k d, o = .slice ad k d ∧ k ≤ I ∧ Own 3 wr w1.heap.size ad k d (up ((List.range I).map fun k => (lvlTo F.testBit 64 k).length))) (fun _ _ i _ => T - (intOf i).toNat)
  case atStart => exact ⟨0, Nat.zero_le _, rfl, Below.refl _ _, none, 0, 0, rfl, Nat.le_refl _, Own.nil _ _ _⟩
  case round =>
    obtain ⟨I, hI, rfl, hbr, ad, k, d, rfl, hk, hown⟩ := hrel
    have HBr := Lib.hid hbr; have HO := Lib.hid hown
    have HGr := Lib.hid (HG.out.keep hbr)
    have hzr : w1.heap.size ≤ wr.heap.size := hbr.size
    clear hbr hown
    by_cases hlt : I < T
    · have hcell := HGr.out.cell hlt
      have hl := (HGr.out.own I hlt).len
      obtain ⟨⟨a2, m2, d2⟩, hfk⟩ : ∃ x : Sl, x = f I := ⟨_, rfl⟩
      rw [← hfk] at hcell hl
      simp only [Sl.val] at hcell hl
      rw [up_len] at hl
      have Hl := Lib.hid hl
      clear hfk hl
      have hI0 : (0 : Int) ≤ I := by omega
      have hIT : (I : Int) < T := by omega
      go_wp2_with (at_builtin; refine ap rfl _ _ rfl w1.heap.size _ _ _ _ _ rfl HO.out rfl (by omega) hzr ?_; intro ad' d' w' hown' hb'; have HO3 := Lib.hid hown'; have HB3 := Lib.hid hb'; clear hown' hb')
      go_roundw
      case rel => exact ⟨I + 1, by omega, by go_num, HBr.out.trans HB3.out, ad', k + 1, d', rfl, by omega, by rw [List.range_succ, List.map_append, up_append]; simp only [List.map_cons, List.map_nil]; rw [Hl.out]; exact HO3.out⟩
      case measure => simp [intOf]; omega
    · obtain rfl : I = T := by omega
      go_wp2_with fail
      go_ret
      exact ⟨ad, k, d, rfl, by rw [Hcnt.out]; exact HO.out.mono hz1, HB.out.trans (HBr.out.mono hz1)⟩

end Go.Proofs.YtihfhfihladlcaaGreatDoor

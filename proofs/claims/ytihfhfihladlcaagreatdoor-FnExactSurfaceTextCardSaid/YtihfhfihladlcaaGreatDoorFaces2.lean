/- Texts of this claim, one behind the other: what each says stands at its head. -/
import Derived.Test.YtihfhfihladlcaaGreatDoorCore
import Derived.Test.YtihfhfihladlcaaGreatDoorFrom
import Derived.Test.YtihfhfihladlcaaGreatDoorHelp
/- Contracts of facesIn, l3Has, FacesOf. -/
namespace Go.Proofs.YtihfhfihladlcaaGreatDoor
set_option maxRecDepth 20000
open Go.RowKit
set_option linter.unusedSimpArgs false
set_option linter.unusedVariables false

/-- the family of the faces -/
def faceSet (l : List Nat) : Nat := fam (isFace l)
theorem faceSet_Fam (l : List Nat) : Fam (faceSet l) := fam_Fam _
theorem faceSet_bit {l : List Nat} {s : Nat} (hs : s < 64) : (faceSet l).testBit s = isFace l s := fam_at hs

theorem facesIn_any (p : Int) (a : Option Addr) (n c : Nat) (l : List Nat) (w : World) (h : IntsAt w a n (up l)) (hl : ∀ t ∈ l, t < 64) :
    Calls Tryz.prog 134 #[.agg #[.int .i64 p, .slice a n c]] w fun e w' => e = .returned (.int .u64 (faceSet l)) ∧ Below w.heap.size w w' := by
  have hn := h.small
  have hlen : l.length = n := by rw [← h.len, up_len]
  have Hlen := Lib.hid hlen; clear hlen
  have Hl := Lib.hid hl; clear hl
  have hx : IntsAt (w.alloc (.cells #[.int .i64 p, .slice a n c] 32)) a n (up l) := h.keep (by repeat (first | exact Below.refl _ _ | assumption | refine Below.setCell ?_ (by first | omega | (simp; done) | (simp; omega)) _ | refine Below.alloc ?_ (by first | omega | (simp; done) | (simp; omega)) _ | apply Below.drew))
  have Hx := Lib.hid hx; clear hx h
  go_enter Tryz.func134, Tryz.ntmps134
  go_wp2_with fail
  go_loop [3, 5, 9] (fun F _ i => ∃ k G : Nat, k ≤ n ∧ i = .int .i64 k ∧ F = .int .u64 G ∧ G = fam (isFace (l.take k))) (fun _ _ i => n - (intOf i).toNat)
  case atStart => exact ⟨0, 0, Nat.zero_le _, rfl, rfl, by rw [← fam_zero]; rfl⟩
  case round =>
    obtain ⟨k, G, hk, rfl, rfl, hG⟩ := hrel
    by_cases hlt : k < n
    · obtain ⟨b1, o1, rfl, hc⟩ := Hx.out.cells (by omega)
      have hck := hc k hlt
      rw [nth_up] at hck
      have ht := Hl.out _ (nthN_mem (xs := l) (k := k) (by rw [Hlen.out]; exact hlt))
      have htk : l.take (k + 1) = l.take k ++ [nthN l k] := nthN_take l k (by rw [Hlen.out]; exact hlt)
      obtain ⟨t, hte⟩ : ∃ t, t = nthN l k := ⟨_, rfl⟩
      rw [← hte] at hck ht htk
      have hFG : Fam G := by rw [hG]; exact fam_Fam _
      have hor := w_or64 G (fam (sub · t)) hFG (fam_Fam _)
      have hnew : G ||| fam (sub · t) = fam (isFace (l.take (k + 1))) := by
        rw [hG, fam_or]
        refine fam_congr fun s _ => ?_
        unfold isFace
        rw [htk, List.any_append]; simp
      obtain ⟨S, hS⟩ : ∃ S, S = fam (sub · t) := ⟨_, rfl⟩
      rw [← hS] at hor hnew
      have HS := Lib.hid hS; have Hnew := Lib.hid hnew
      clear hc hte htk hG hS hnew
      go_wp2_with (go_at_call 148; refine (subsetFamily_any t _ ht).mono ?_; rw [← HS.out]; rintro e we ⟨rfl, rfl⟩)
      go_round
      case rel => exact ⟨k + 1, G ||| S, by omega, by go_num, rfl, Hnew.out⟩
      case measure => simp [intOf]; omega
    · obtain rfl : k = n := by omega
      have hGe : G = faceSet l := by rw [hG, ← Hlen.out, List.take_length]; rfl
      have HG := Lib.hid hGe
      clear hG hGe
      go_wp2_with fail
      go_ret
      exact ⟨by rw [HG.out]; rfl, (by repeat (first | exact Below.refl _ _ | assumption | refine Below.setCell ?_ (by first | omega | (simp; done) | (simp; omega)) _ | refine Below.alloc ?_ (by first | omega | (simp; done) | (simp; omega)) _ | apply Below.drew))⟩

theorem l3Has_any (p : Int) (s : Nat) (a : Option Addr) (n c : Nat) (l : List Nat) (w : World) (h : IntsAt w a n (up l)) (hs : s < 64) (hl : ∀ t ∈ l, t < 64) (b : Bool) (hb : isFace l s = b) :
    Calls Tryz.prog 156 #[.agg #[.int .i64 p, .slice a n c], .int .i64 s] w fun e w' => e = .returned (.bool b) ∧ Below w.heap.size w w' := by
  have hn := h.small
  have hlen : l.length = n := by rw [← h.len, up_len]
  have Hlen := Lib.hid hlen; clear hlen
  have Hl := Lib.hid hl; clear hl
  have Hb := Lib.hid hb; clear hb
  have hx : IntsAt (w.alloc (.cells #[.int .i64 p, .slice a n c] 32)) a n (up l) := h.keep (by repeat (first | exact Below.refl _ _ | assumption | refine Below.setCell ?_ (by first | omega | (simp; done) | (simp; omega)) _ | refine Below.alloc ?_ (by first | omega | (simp; done) | (simp; omega)) _ | apply Below.drew))
  have Hx := Lib.hid hx; clear hx h
  go_enter Tryz.func156, Tryz.ntmps156
  go_wp2_with fail
  go_loop [5] (fun i => ∃ k : Nat, k ≤ n ∧ i = .int .i64 k ∧ Hid (∀ j, j < k → sub s (nthN l j) = false)) (fun i => n - (intOf i).toNat)
  case atStart => exact ⟨0, Nat.zero_le _, rfl, Lib.hid fun j hj => absurd hj (Nat.not_lt_zero _)⟩
  case round =>
    obtain ⟨k, hk, rfl, hok⟩ := hrel
    by_cases hlt : k < n
    · obtain ⟨b1, o1, rfl, hc⟩ := Hx.out.cells (by omega)
      have hck := hc k hlt
      rw [nth_up] at hck
      have ht := Hl.out _ (nthN_mem (xs := l) (k := k) (by rw [Hlen.out]; exact hlt))
      obtain ⟨t, hte⟩ : ∃ t, t = nthN l k := ⟨_, rfl⟩
      rw [← hte] at hck ht
      have Hte := Lib.hid hte
      have hand := w_and t s ht hs
      have hst : (((t &&& s : Nat) : Int) == (s : Int)) = sub s t := by rw [castBeq]; unfold sub; rw [Nat.and_comm]
      clear hc hte
      cases hsb : sub s t
      · rw [hsb] at hst
        have Hsb := Lib.hid hsb; clear hsb
        go_wp2_with fail
        go_round
        case rel =>
          refine ⟨k + 1, by omega, by go_num, Lib.hid fun j hj => ?_⟩
          rcases Nat.lt_or_ge j k with h | h
          · exact hok.out j h
          · obtain rfl : j = k := by omega
            rw [← Hte.out]; exact Hsb.out
        case measure => simp [intOf]; omega
      · rw [hsb] at hst
        have hbt : b = true := by
          rw [← Hb.out]; exact any_yes (j := k) (by rw [Hlen.out]; exact hlt) (by rw [← Hte.out]; exact hsb)
        clear hsb
        subst hbt
        go_wp2_with fail
        go_ret
        exact ⟨rfl, (by repeat (first | exact Below.refl _ _ | assumption | refine Below.setCell ?_ (by first | omega | (simp; done) | (simp; omega)) _ | refine Below.alloc ?_ (by first | omega | (simp; done) | (simp; omega)) _ | apply Below.drew))⟩
    · obtain rfl : k = n := by omega
      have hkk : ¬ ((k : Int) < k) := by omega
      have hbt : b = false := by rw [← Hb.out]; exact any_no fun j hj => hok.out j (by rw [← Hlen.out]; exact hj)
      subst hbt
      go_wp2_with fail
      go_ret
      exact ⟨rfl, (by repeat (first | exact Below.refl _ _ | assumption | refine Below.setCell ?_ (by first | omega | (simp; done) | (simp; omega)) _ | refine Below.alloc ?_ (by first | omega | (simp; done) | (simp; omega)) _ | apply Below.drew))⟩

theorem sFacesOf_no (p : Int) (a : Option Addr) (n c : Nat) (xs : List Int) (w : World) (h : IntsAt w a n xs) (hno : ¬ Anti p xs) :
    Calls Tryz.prog 135 #[.agg #[.int .i64 p, .slice a n c]] w (RetInts w []) := by
  have Hx := Lib.hid h; clear h
  have Hno := Lib.hid hno; clear hno
  go_enter Tryz.func135, Tryz.ntmps135
  go_wp2_with fail
  go_loopw [3, 4] (fun f i wr => i = .int .i64 0 ∧ Below (w.heap.size + 1) (w.alloc (.cells #[.int .i64 p, .slice a n c] 32)) wr ∧ ∃ ad d, f = .slice ad 0 d ∧ Own 3 wr (w.heap.size + 1) ad 0 d (up [])) (fun _ _ _ => 0)
  case atStart => exact ⟨rfl, (by repeat (first | exact Below.refl _ _ | assumption | refine Below.setCell ?_ (by first | omega | (simp; done) | (simp; omega)) _ | refine Below.alloc ?_ (by first | omega | (simp; done) | (simp; omega)) _ | apply Below.drew)), _, 0, rfl, by have := Own.empty 3 (w.alloc (.cells #[.int .i64 p, .slice a n c] 32)) (w.heap.size + 1) (by simp); simp only [World.size_alloc] at this; exact this⟩
  case round =>
    obtain ⟨rfl, hb, ad, d, rfl, hown⟩ := hrel
    obtain ⟨hc0, hc1⟩ := box2 hb
    have hz : w.heap.size + 1 ≤ wr.heap.size := by have := hb.size; simpa using this
    have HB := Lib.hid hb; have HO := Lib.hid hown
    clear hb hown
    go_wp2_with fail
    refine (sIsComplex_any p a n c xs _ (Hx.out.box HB.out) false (by simp [Hno.out])).mono ?_
    rintro e w1 ⟨rfl, hb⟩
    have HO1 := Lib.hid (HO.out.keep hb)
    have HB1 := Lib.hid (HB.out.trans (hb.mono hz))
    have hz1 : w.heap.size + 1 ≤ w1.heap.size := by have := hb.size; omega
    clear hb
    go_wp2_with fail
    refine (l2Order_any ad 0 d [] _ HO1.out.reads (by simp)).mono ?_
    rintro e w2 ⟨ad2, m2, d2, rfl, hown, hb⟩
    have HB2 := Lib.hid (HB1.out.trans (hb.mono hz1)); have HO2 := Lib.hid (hown.mono (show w.heap.size ≤ _ by omega))
    clear hb hown
    go_wp2_with fail
    go_ret
    refine ⟨ad2, m2, d2, rfl, ?_, box_below HB2.out⟩
    have e : up (ord (List.contains [])) = [] := by
      have : ord (List.contains ([] : List Nat)) = [] := by rw [ord_filter]; simp
      rw [this]; rfl
    rw [← e]; exact HO2.out
set_option maxHeartbeats 1000000 in
theorem sFacesOf_yes (p : Int) (a : Option Addr) (n c : Nat) (l : List Nat) (w : World) (h : IntsAt w a n (up l)) (hA : Anti p (up l)) (hl : ∀ t ∈ l, t < 64) :
    Calls Tryz.prog 135 #[.agg #[.int .i64 p, .slice a n c]] w (RetInts w (up (ord (isFace l)))) := by
  have hx : IntsAt (w.alloc (.cells #[.int .i64 p, .slice a n c] 32)) a n (up l) := h.keep (by repeat (first | exact Below.refl _ _ | assumption | refine Below.setCell ?_ (by first | omega | (simp; done) | (simp; omega)) _ | refine Below.alloc ?_ (by first | omega | (simp; done) | (simp; omega)) _ | apply Below.drew))
  have Hx := Lib.hid hx; clear hx h
  have HA := Lib.hid hA; clear hA
  have Hl := Lib.hid hl; clear hl
  go_enter Tryz.func135, Tryz.ntmps135
  go_wp2_with fail
  go_loopw [3, 4] (fun f i wr => ∃ I : Nat, I ≤ 64 ∧ i = .int .i64 I ∧ Below (w.heap.size + 1) (w.alloc (.cells #[.int .i64 p, .slice a n c] 32)) wr ∧ ∃ ad k d, f = .slice ad k d ∧ k ≤ I ∧ Own 3 wr (w.heap.size + 1) ad k d (up (lst (isFace l) I))) (fun _ i _ => 64 - (intOf i).toNat)
  case atStart => exact ⟨0, by omega, rfl, (by repeat (first | exact Below.refl _ _ | assumption | refine Below.setCell ?_ (by first | omega | (simp; done) | (simp; omega)) _ | refine Below.alloc ?_ (by first | omega | (simp; done) | (simp; omega)) _ | apply Below.drew)), _, 0, 0, rfl, by omega, by have := Own.empty 3 (w.alloc (.cells #[.int .i64 p, .slice a n c] 32)) (w.heap.size + 1) (by simp); simp only [World.size_alloc] at this; exact this⟩
  case round =>
    obtain ⟨I, hI, rfl, hb, ad, k, d, rfl, hk, hown⟩ := hrel
    obtain ⟨hc0, hc1⟩ := box2 hb
    have hz : w.heap.size + 1 ≤ wr.heap.size := by have := hb.size; simpa using this
    have HB := Lib.hid hb; have HO := Lib.hid hown
    have Hx1 := Lib.hid (Hx.out.keep (by simpa using hb))
    clear hb hown
    by_cases hlt : I < 64
    · go_wp2_with fail
      refine (sIsComplex_any p a n c _ _ Hx1.out true (by simp [HA.out])).mono ?_
      rintro e w1 ⟨rfl, hb⟩
      have HO1 := Lib.hid (HO.out.keep hb)
      have HB1 := Lib.hid (HB.out.trans (hb.mono hz))
      have hz1 : w.heap.size + 1 ≤ w1.heap.size := by have := hb.size; omega
      have Hx2 := Lib.hid (Hx1.out.keep hb)
      obtain ⟨hd0, hd1⟩ := box2 HB1.out
      clear hb hc0 hc1
      obtain ⟨b, hbe⟩ : ∃ b, isFace l I = b := ⟨_, rfl⟩
      have Hbe := Lib.hid hbe; clear hbe
      go_wp2_with fail
      refine (l3Has_any p I a n c l _ Hx2.out hlt Hl.out b Hbe.out).mono ?_
      rintro e w2 ⟨rfl, hb⟩
      have HO2 := Lib.hid (HO1.out.keep hb)
      have HB2 := Lib.hid (HB1.out.trans (hb.mono hz1))
      have hz2 : w.heap.size + 1 ≤ w2.heap.size := by have := hb.size; omega
      clear hb
      cases b
      · go_wp2_with fail
        go_roundw
        case rel => exact ⟨I + 1, by omega, by go_num, HB2.out, ad, k, d, rfl, by omega, by rw [lst_no Hbe.out]; exact HO2.out⟩
        case measure => simp [intOf]; omega
      · go_wp2_with (at_builtin; refine ap rfl _ _ rfl (w.heap.size + 1) _ _ _ _ _ rfl HO2.out rfl (by omega) hz2 ?_; intro ad' d' w' hown' hb'; have HO3 := Lib.hid hown'; have HB3 := Lib.hid hb'; clear hown' hb')
        go_roundw
        case rel => exact ⟨I + 1, by omega, by go_num, HB2.out.trans HB3.out, ad', k + 1, d', rfl, by omega, by rw [lst_yes Hbe.out, up_append]; exact HO3.out⟩
        case measure => simp [intOf]; omega
    · obtain rfl : I = 64 := by omega
      go_wp2_with fail
      refine (l2Order_any ad k d (lst (isFace l) 64) _ HO.out.reads (fun s hs => (mem_lst.1 hs).1)).mono ?_
      rintro e w2 ⟨ad2, m2, d2, rfl, hown, hb⟩
      have HB2 := Lib.hid (HB.out.trans (hb.mono hz)); have HO2 := Lib.hid (hown.mono (show w.heap.size ≤ _ by omega))
      clear hb hown
      go_wp2_with fail
      go_ret
      refine ⟨ad2, m2, d2, rfl, ?_, box_below HB2.out⟩
      have e : ord (isFace l) = ord (lst (isFace l) 64).contains := ord_congr fun s hs => by rw [lst_has]; simp [hs]
      rw [e]; exact HO2.out

end Go.Proofs.YtihfhfihladlcaaGreatDoor

/- Plain laws of LeftMonomials: the lists of exponents, their support, and a choice out of a list of lists. -/
namespace Go.Proofs.YtihfhfihladlcaaGreatDoor
set_option maxRecDepth 20000
open Go.RowKit
set_option linter.unusedSimpArgs false
set_option linter.unusedVariables false

/-- all lists that go on from h with r + 1 exponents of sum d -/
def monoL : Nat → List Int → Nat → List (List Int)
  | 0, h, d => [h ++ [(d : Int)]]
  | r + 1, h, d => (List.range (d + 1)).flatMap fun i => monoL r (h ++ [((d - i : Nat) : Int)]) i
/-- .. with the first k choices for the next exponent -/
def monoTo (r : Nat) (h : List Int) (d k : Nat) : List (List Int) := (List.range k).flatMap fun i => monoL r (h ++ [((d - i : Nat) : Int)]) i
theorem monoTo_succ (r : Nat) (h : List Int) (d k : Nat) : monoTo r h d (k + 1) = monoTo r h d k ++ monoL r (h ++ [((d - k : Nat) : Int)]) k := by
  unfold monoTo; rw [List.range_succ, List.flatMap_append]; simp
theorem monoTo_all (r : Nat) (h : List Int) (d : Nat) : monoTo r h d (d + 1) = monoL (r + 1) h d := rfl
theorem monoTo_up (r : Nat) (h : List Int) (d : Nat) : ∀ k j, k ≤ j → (monoTo r h d k).length ≤ (monoTo r h d j).length := by
  intro k j hkj
  induction hkj with
  | refl => exact Nat.le_refl _
  | @step m _ ih =>
    show _ ≤ (monoTo r h d (m + 1)).length
    rw [monoTo_succ, List.length_append]; omega
theorem monoL_each {r : Nat} : ∀ {h : List Int} {d : Nat}, (∀ i, 0 ≤ nth h i ∧ nth h i ≤ 5) → d ≤ 5 → ∀ e ∈ monoL r h d, e.length = h.length + r + 1 ∧ ∀ i, 0 ≤ nth e i ∧ nth e i ≤ 5 := by
  have snoc : ∀ {h : List Int} {x : Int}, (∀ i, 0 ≤ nth h i ∧ nth h i ≤ 5) → 0 ≤ x → x ≤ 5 → ∀ i, 0 ≤ nth (h ++ [x]) i ∧ nth (h ++ [x]) i ≤ 5 := by
    intro h x hh h0 h5 i
    by_cases hi : i < h.length
    · have e : nth (h ++ [x]) i = nth h i := by rw [nth_eq (by simp; omega), nth_eq hi, List.getElem_append_left hi]
      rw [e]; exact hh i
    · by_cases hi2 : i = h.length
      · subst hi2
        have e : nth (h ++ [x]) h.length = x := by rw [nth_eq (by simp)]; simp
        rw [e]; omega
      · have e : nth (h ++ [x]) i = 0 := by
          unfold nth
          rw [List.getD_eq_getElem?_getD, List.getElem?_eq_none (by simp; omega)]; rfl
        rw [e]; omega
  induction r with
  | zero =>
    intro h d hh hd e he
    unfold monoL at he
    rw [List.mem_singleton] at he
    subst he
    exact ⟨by simp, snoc hh (by omega) (by omega)⟩
  | succ r ih =>
    intro h d hh hd e he
    unfold monoL at he
    obtain ⟨i, hi, he⟩ := List.mem_flatMap.1 he
    have hi := List.mem_range.1 hi
    obtain ⟨h1, h2⟩ := ih (snoc hh (by omega) (by omega)) (by omega) e he
    exact ⟨by rw [h1]; simp; omega, h2⟩
theorem monoL_len : ∀ r, r ≤ 5 → ∀ d, d ≤ 5 → ∀ h : List Int, (monoL r h d).length ≤ 6 ^ r := by
  intro r
  induction r with
  | zero => intro _ d _ h; simp [monoL]
  | succ r ih =>
    intro hr d hd h
    unfold monoL
    have key : ∀ k, k ≤ d + 1 → ((List.range k).flatMap fun i => monoL r (h ++ [((d - i : Nat) : Int)]) i).length ≤ k * 6 ^ r := by
      intro k
      induction k with
      | zero => intro _; simp
      | succ k ihk =>
        intro hk
        rw [List.range_succ, List.flatMap_append, List.length_append, Nat.succ_mul]
        have h1 := ihk (by omega)
        have h2 := ih (by omega) k (by omega) (h ++ [((d - k : Nat) : Int)])
        simp only [List.flatMap_cons, List.flatMap_nil, List.append_nil]
        omega
    have h1 := key (d + 1) (Nat.le_refl _)
    have h2 : (d + 1) * 6 ^ r ≤ 6 * 6 ^ r := Nat.mul_le_mul_right _ (by omega)
    rw [Nat.pow_succ, Nat.mul_comm]
    omega

/-- the points with an exponent above 0, below k -/
def suppTo (e : List Int) : Nat → Nat
  | 0 => 0
  | k + 1 => if 0 < nth e k then suppTo e k ||| 2 ^ k else suppTo e k
theorem suppTo_yes {e : List Int} {k : Nat} (h : 0 < nth e k) : suppTo e (k + 1) = suppTo e k ||| 2 ^ k := by simp [suppTo, h]
theorem suppTo_no {e : List Int} {k : Nat} (h : ¬ 0 < nth e k) : suppTo e (k + 1) = suppTo e k := by simp [suppTo, h]
theorem suppTo_lt (e : List Int) : ∀ k, suppTo e k < 2 ^ k := by
  intro k
  induction k with
  | zero => simp [suppTo]
  | succ k ih =>
    have h2 : 2 ^ (k + 1) = 2 * 2 ^ k := by rw [Nat.pow_succ]; omega
    by_cases h : 0 < nth e k
    · rw [suppTo_yes h]
      exact Nat.or_lt_two_pow (Nat.lt_of_lt_of_le ih (by omega)) (by omega)
    · rw [suppTo_no h]; omega
def suppOf (e : List Int) : Nat := suppTo e e.length

/-! ### A choice out of a list of lists -/
def pickI (P : List Int → Bool) (L : List (List Int)) (k : Nat) : List Nat := (List.range k).filter fun i => P (nthL L i)
theorem pickI_yes {P : List Int → Bool} {L : List (List Int)} {k : Nat} (h : P (nthL L k) = true) : pickI P L (k + 1) = pickI P L k ++ [k] := by
  unfold pickI; rw [List.range_succ, List.filter_append]; simp [h]
theorem pickI_no {P : List Int → Bool} {L : List (List Int)} {k : Nat} (h : P (nthL L k) = false) : pickI P L (k + 1) = pickI P L k := by
  unfold pickI; rw [List.range_succ, List.filter_append]; simp [h]
theorem pickI_lt {P : List Int → Bool} {L : List (List Int)} {k : Nat} : ∀ i ∈ pickI P L k, i < k := fun i hi => List.mem_range.1 (List.mem_filter.1 hi).1
theorem pickI_len (P : List Int → Bool) (L : List (List Int)) (k : Nat) : (pickI P L k).length ≤ k := by unfold pickI; exact Nat.le_trans (List.length_filter_le _ _) (by simp)
theorem pickI_nodup (P : List Int → Bool) (L : List (List Int)) (k : Nat) : (pickI P L k).Nodup := by unfold pickI; exact List.Pairwise.filter _ List.nodup_range
/-- the lists chosen out of all -/
def pickL (P : List Int → Bool) (L : List (List Int)) : List (List Int) := (pickI P L L.length).map (nthL L)
theorem pickL_mem {P : List Int → Bool} {L : List (List Int)} : ∀ e ∈ pickL P L, e ∈ L := fun e he => by
  obtain ⟨i, hi, rfl⟩ := List.mem_map.1 he
  have := pickI_lt i hi
  rw [nthL_at this]; exact List.getElem_mem this
theorem pickL_congr {P Q : List Int → Bool} {L : List (List Int)} (h : ∀ e ∈ L, P e = Q e) : pickL P L = pickL Q L := by
  unfold pickL pickI
  congr 1
  exact List.filter_congr fun i hi => h _ (by rw [nthL_at (List.mem_range.1 hi)]; exact List.getElem_mem _)
/-- rows chosen out of a list of lists, handed out in an outer row of its own -/
theorem O2.choose {w : World} {B U U' : Nat} {a a' : Option Addr} {n c n' c' : Nat} {f : Nat → Sl} {L : List (List Int)} (h : O2 w B U a n c f L) (I : List Nat) (hI : ∀ i ∈ I, i < n) (hnd : I.Nodup)
    (hrow : Row 24 w B a' n' c' (I.map fun i => (f i).val)) (hfar : ∀ i, i < n → ∀ b d, (f i).1 = some b → a' = some d → b.block ≠ d.block) (hU : U ≤ U') (ha : ∀ d, a' = some d → d.block < U') :
    Own2 w B U' a' n' c' (I.map (nthL L)) := by
  have hl : I.length = n' := by have := hrow.len; simpa using this
  have hat : ∀ j, j < n' → nthN I j ∈ I := fun j hj => nthN_mem (by omega)
  refine ⟨fun j => f (nthN I j), by simpa using hl, ?_, fun j hj => ?_, fun j hj b d hb hd => hfar _ (hI _ (hat j hj)) b d hb hd, fun i j hi hj hij b d hb hd => ?_, ha, fun j hj b hb => Nat.lt_of_lt_of_le (h.his _ (hI _ (hat j hj)) b hb) hU⟩
  · have e : (List.range n').map (fun j => (f (nthN I j)).val) = I.map fun i => (f i).val := by
      apply List.ext_getElem (by simp [hl])
      intro j h1 h2
      have hj : j < I.length := by simpa using h2
      simp [nthN_eq hj]
    rw [e]; exact hrow
  · have e : nthL (I.map (nthL L)) j = nthL L (nthN I j) := by
      rw [nthL_at (by simpa [hl] using hj), List.getElem_map, ← nthN_eq (by omega)]
    rw [e]; exact h.own _ (hI _ (hat j hj))
  · refine h.apart _ _ (hI _ (hat i hi)) (hI _ (hat j hj)) (fun e => hij ?_) b d hb hd
    rw [nthN_eq (by omega), nthN_eq (by omega)] at e
    exact (List.getElem_inj hnd).1 e
end Go.Proofs.YtihfhfihladlcaaGreatDoor

/- The append of an owned list to a list of lists, in a plain region and in one that draws its order; the reference's l12Fill. -/
namespace Go.Proofs.YtihfhfihladlcaaGreatDoor
set_option maxRecDepth 20000
open Go.RowKit
set_option linter.unusedSimpArgs false
set_option linter.unusedVariables false

theorem Own2.up' {w : World} {B U U' : Nat} {a : Option Addr} {n c : Nat} {L : List (List Int)} (h : Own2 w B U a n c L) (hU : U ≤ U') : Own2 w B U' a n c L := by
  obtain ⟨f, h⟩ := h
  exact ⟨f, h.up hU⟩
theorem run_ap_l {W : World} (B ty : Nat) (ad : Option Addr) (n c : Nat) (vs : List Value) (hown : Row 24 W B ad n c vs) (g : Addr) (y : Value) (hcell : W.cell? g = some y) (hy : y.oneCell' = true)
    (hn : n < 1099511627776) (hB : B ≤ W.heap.size) :
    ∃ ad' c' w', (Builtin.append_ #[113, 113] ty #[.slice ad n c, .slice (some g) 1 1]).run Tryz.prog W = .ok (.slice ad' (n + 1 : Nat) c') w' ∧ Row 24 w' B ad' (n + 1) c' (vs ++ [y]) ∧ W.grownBy w' (Value.slice ad n c).ownBlock ∧
      (∀ b, ad' = some b → (∃ d, ad = some d ∧ b.block = d.block) ∨ W.heap.size ≤ b.block) := by
  obtain ⟨i0, hi, hz0, hz1, hz2⟩ := info_parts infoInts
  obtain ⟨v', w', hr, h2, h3, h4, h5⟩ := run_append_own_at (P := Tryz.prog) W B 113 ty 24 i0 (.slice none 0 0) 1 24 Tryz.underlying113 hi hz0 hz1 hz2 rfl (by decide) (.slice ad n c) n _ hown.row g 1 1 [y] (by simp)
    (fun j u hj => by
      match j, hj with
      | 0, hj => simp at hj; subst hj; simpa [Addr.add] using hcell) (fun u hu => by simp at hu; subst hu; exact hy) (by unfold maxLen; omega) (by omega) hB
  have hv : ∃ ad' c', v' = .slice ad' (n + 1) c' := by
    rcases h2.2 with ⟨_, h0⟩ | ⟨g, cap, cur, hv, _⟩
    · omega
    · exact ⟨_, _, hv⟩
  obtain ⟨ad', c', rfl⟩ := hv
  refine ⟨ad', c', w', hr, ⟨by simp [hown.len], h2⟩, h3, fun b hb => ?_⟩
  subst hb
  rcases h5 with h5 | h5
  · obtain ⟨d, hd, hdb⟩ := ownBlock_some h5.symm
    exact .inl ⟨d, hd, hdb.symm⟩
  · right
    have : b.block = W.heap.size := by simpa [Value.ownBlock] using h5
    omega
/-- what an append of an owned row leaves of a list of lists -/
theorem O2.snoc {w0 W w' : World} {B : Nat} {ad ad' : Option Addr} {n c c' : Nat} {f : Nat → Sl} {L : List (List Int)} (h : O2 w0 B w0.heap.size ad n c f L) (hB : B ≤ w0.heap.size) (x : Sl) (xs : List Int)
    (hsz : w0.heap.size ≤ W.heap.size) (hW : ∀ k, k < w0.heap.size → W.heap[k]? = w0.heap[k]?) (hx : Own 3 W B x.1 x.2.1 x.2.2 xs) (hnew : ∀ b, x.1 = some b → w0.heap.size ≤ b.block)
    (hrow : Row 24 w' B ad' (n + 1) c' (((List.range n).map fun i => (f i).val) ++ [x.val])) (hg : W.grownBy w' (Value.slice ad n c).ownBlock) (hloc : ∀ b, ad' = some b → (∃ d, ad = some d ∧ b.block = d.block) ∨ W.heap.size ≤ b.block) :
    Own2 w' B w'.heap.size ad' (n + 1) c' (L ++ [xs]) := by
  have hll := h.len
  have hout : ∀ k, (Value.slice ad n c).ownBlock = some k → k < w0.heap.size := fun k hk => (h.row.lt k hk).2
  have hxl : ∀ b, x.1 = some b → b.block < W.heap.size := fun b hb => (hx.lt b.block (by rw [hb]; rfl)).2
  have hold : ∀ i, i < n → Own 3 w' B (f i).1 (f i).2.1 (f i).2.2 (nthL L i) := fun i hi => by
    have h1 : Own 3 W B (f i).1 (f i).2.1 (f i).2.2 (nthL L i) := Row.other (h.own i hi) fun g hag hl => hW g hl
    refine h1.grownNe hg fun k hk k2 hk2 e => ?_
    obtain ⟨b, hb1, hb2⟩ := ownBlock_some hk2
    obtain ⟨d, hd1, hd2⟩ := ownBlock_some hk
    exact h.far i hi b d hb1 hd1 (by omega)
  have hxn : Own 3 w' B x.1 x.2.1 x.2.2 xs := hx.grownNe hg fun k hk k2 hk2 e => by
    obtain ⟨b, hb1, hb2⟩ := ownBlock_some hk2
    have h1 := hnew b hb1
    have h2 := hout k hk
    omega
  have hin : ∀ i, i < n → ∀ b, (f i).1 = some b → b.block < w0.heap.size := fun i hi b hb => h.his i hi b hb
  have hfn : ∀ i, i < n → (if i < n then f i else x) = f i := fun i hi => if_pos hi
  have hfl : (if n < n then f n else x) = x := if_neg (Nat.lt_irrefl _)
  have hsz' : W.heap.size ≤ w'.heap.size := hg.size
  refine ⟨fun i => if i < n then f i else x, ?_⟩
  refine ⟨by rw [List.length_append, h.len]; rfl, ?_, ?_, ?_, ?_, ?_, ?_⟩
  · have e : (List.range (n + 1)).map (fun i => (if i < n then f i else x).val) = (List.range n).map (fun i => (f i).val) ++ [x.val] := by
      rw [List.range_succ, List.map_append]
      congr 1
      · exact List.map_congr_left fun i hi => by rw [hfn i (List.mem_range.1 hi)]
      · simp only [List.map_cons, List.map_nil]; rw [hfl]
    rw [e]; exact hrow
  · intro i hi
    by_cases hi2 : i < n
    · simp only [hfn i hi2]
      rw [nthL_left (by omega)]; exact hold i hi2
    · obtain rfl : i = n := by omega
      simp only [hfl]
      have : nthL (L ++ [xs]) i = xs := by rw [← hll]; exact nthL_last L _
      rw [this]; exact hxn
  · intro i hi b d hb' hd'
    by_cases hi2 : i < n
    · simp only [hfn i hi2] at hb'
      have h1 := hin i hi2 b hb'
      rcases hloc d hd' with ⟨d0, hd0, hdb⟩ | hge
      · rw [hdb]; exact h.far i hi2 b d0 hb' hd0
      · omega
    · obtain rfl : i = n := by omega
      simp only [hfl] at hb'
      have h1 := hnew b hb'
      have h2 := hxl b hb'
      rcases hloc d hd' with ⟨d0, hd0, hdb⟩ | hge
      · have := h.hi d0 hd0
        omega
      · omega
  · intro i j hi hj hij b d hb' hd'
    by_cases hi2 : i < n
    · simp only [hfn i hi2] at hb'
      have h1 := hin i hi2 b hb'
      by_cases hj2 : j < n
      · simp only [hfn j hj2] at hd'
        exact h.apart i j hi2 hj2 hij b d hb' hd'
      · obtain rfl : j = n := by omega
        simp only [hfl] at hd'
        have := hnew d hd'
        omega
    · obtain rfl : i = n := by omega
      simp only [hfl] at hb'
      have h3 := hnew b hb'
      have hj2 : j < i := by omega
      simp only [hfn j hj2] at hd'
      have h1 := hin j hj2 d hd'
      omega
  · intro d hd
    exact (hrow.lt d.block (by rw [hd]; rfl)).2
  · intro i hi b hb'
    by_cases hi2 : i < n
    · simp only [hfn i hi2] at hb'
      have h1 := hin i hi2 b hb'
      omega
    · obtain rfl : i = n := by omega
      simp only [hfl] at hb'
      have := hxl b hb'
      omega
/-- the append of a row, laid in a block of its own ahead, to a list of lists -/
theorem list_apl {ops : Array Oper} {rest : List Oper} {o : Oper} {a : Act} {Q : Exit → Act → World → Prop} {W : World} (hgd : o.guard = none) (s x : Operand)
    (ho : o.op = .call { callee := .builtin .append, args := #[s, x], argTypes := #[113, 113] })
    (B : Nat) (ad : Option Addr) (n c : Nat) (vs : List Value) (y : Value) (hs : a.eval s = .slice ad n c) (hown : Row 24 W B ad n c vs) (hy : y.oneCell' = true)
    (hx : a.eval x = .slice (some ⟨W.heap.size, 0, none⟩) 1 1) (hn : n < 1099511627776) (hB : B ≤ W.heap.size)
    (h : ∀ ad' c' w', Row 24 w' B ad' (n + 1) c' (vs ++ [y]) → (W.alloc (.cells #[y] 24)).grownBy w' (Value.slice ad n c).ownBlock → (∀ b, ad' = some b → (∃ d, ad = some d ∧ b.block = d.block) ∨ (W.alloc (.cells #[y] 24)).heap.size ≤ b.block) → wpList Tryz.prog ops Q rest (a.put o.dst (.slice ad' (n + 1 : Nat) c')) w') :
    wpList Tryz.prog ops Q (o :: rest) a (W.alloc (.cells #[y] 24)) := by
  refine wpList_plain hgd fun K hK => ?_
  obtain ⟨ad', c', w', hrun, h1, h2, h3⟩ := run_ap_l (W := W.alloc (.cells #[y] 24)) B o.type ad n c vs (hown.alloc _) ⟨W.heap.size, 0, none⟩ y (by rw [World.cell?_alloc_at _ _ _ _ rfl]; rfl) hy hn (by simp; omega)
  unfold Oper.wp execOp
  simp only [ho, resolve, invoke, builtin, Sem.run_bind, Sem.run_pure, Result.andThen_ok, List.map_toArray, List.map_cons, List.map_nil, hs, hx, hrun]
  exact hK _ _ (h _ _ _ h1 h2 h3)
theorem grown_trans {a b c : World} {r : Option Nat} (h : a.grownBy b r) (k : b.grownBy c r) : a.grownBy c r :=
  ⟨k.os.trans h.os, k.tape.trans h.tape, k.output.trans h.output, Nat.le_trans h.size k.size, fun i hi hne => (k.block i (Nat.lt_of_lt_of_le hi h.size) hne).trans (h.block i hi hne)⟩
/-- first a row of old, then one that is the old one or new -/
theorem grown_then {a b c : World} {r q : Option Nat} (h : a.grownBy b r) (k : b.grownBy c q) (hq : ∀ j, q = some j → some j = r ∨ a.heap.size ≤ j) : a.grownBy c r :=
  ⟨k.os.trans h.os, k.tape.trans h.tape, k.output.trans h.output, Nat.le_trans h.size k.size, fun i hi hne => (k.block i (Nat.lt_of_lt_of_le hi h.size) (fun e => by
    rcases hq i e.symm with h1 | h1
    · exact hne h1
    · omega)).trans (h.block i hi hne)⟩
theorem grown_of {a b : World} {r : Option Nat} (h : Below a.heap.size a b) : a.grownBy b r := ⟨h.os, h.tape, h.output, h.size, fun i hi _ => h.block i hi⟩

end Go.Proofs.YtihfhfihladlcaaGreatDoor

/- Contracts of facesIn, l3Has, FacesOf. -/
import Derived.Test.YtikehbbggdmcfaaFaces
import Derived.Test.YtikehbbggdmcfaaHelpS
namespace Go.Proofs.Ytikehbbggdmcfaa
open Go.RowKit
set_option linter.unusedSimpArgs false
set_option linter.unusedVariables false

/-- the family of the faces -/
def faceSet (l : List Nat) : Nat := fam (isFace l)
theorem faceSet_Fam (l : List Nat) : Fam (faceSet l) := fam_Fam _
theorem faceSet_bit {l : List Nat} {s : Nat} (hs : s < 64) : (faceSet l).testBit s = isFace l s := fam_at hs

theorem facesIn_any (p : Int) (a : Option Addr) (n c : Nat) (l : List Nat) (w : World) (h : IntsAt w a n (up l)) (hl : ∀ t ∈ l, t < 64) :
    Calls Try.prog 27 #[.agg #[.int .i64 p, .slice a n c]] w fun e w' => e = .returned (.int .u64 (faceSet l)) ∧ Below w.heap.size w w' := by
  have hn := h.small
  have hlen : l.length = n := by rw [← h.len, up_len]
  have Hlen := Lib.hid hlen; clear hlen
  have Hl := Lib.hid hl; clear hl
  have hx : IntsAt (w.alloc (.cells #[.int .i64 p, .slice a n c] 28)) a n (up l) := h.keep (by repeat (first | exact Below.refl _ _ | assumption | refine Below.setCell ?_ (by first | omega | (simp; done) | (simp; omega)) _ | refine Below.alloc ?_ (by first | omega | (simp; done) | (simp; omega)) _ | apply Below.drew))
  have Hx := Lib.hid hx; clear hx h
  go_enter Try.func27, Try.ntmps27
  go_wp2_with fail
  go_loop [3, 5, 9] (fun F _ i => ∃ k G : Nat, k ≤ n ∧ i = .int .i64 k ∧ F = .int .u64 G ∧ G = fam (isFace (l.take k))) (fun _ _ i => n - (intOf i).toNat)
  case atStart => exact ⟨0, 0, Nat.zero_le _, rfl, rfl, by rw [← fam_zero]; rfl⟩
  case round =>
    obtain ⟨k, G, hk, rfl, rfl, hG⟩ := hrel
    by_cases hlt : k < n
    · obtain ⟨b1, o1, rfl, hc⟩ := Hx.out.cells (by omega)
      have hck := hc k hlt
      rw [nth_up] at hck
      have ht := Hl.out _ (nthN_mem (xs := l) (k := k) (by rw [Hlen.out]; exact hlt))
      have htk : l.take (k + 1) = l.take k ++ [nthN l k] := nthN_take l k (by rw [Hlen.out]; exact hlt)
      obtain ⟨t, hte⟩ : ∃ t, t = nthN l k := ⟨_, rfl⟩
      rw [← hte] at hck ht htk
      have hFG : Fam G := by rw [hG]; exact fam_Fam _
      have hor := w_or64 G (fam (sub · t)) hFG (fam_Fam _)
      have hnew : G ||| fam (sub · t) = fam (isFace (l.take (k + 1))) := by
        rw [hG, fam_or]
        refine fam_congr fun s _ => ?_
        unfold isFace
        rw [htk, List.any_append]; simp
      obtain ⟨S, hS⟩ : ∃ S, S = fam (sub · t) := ⟨_, rfl⟩
      rw [← hS] at hor hnew
      have HS := Lib.hid hS; have Hnew := Lib.hid hnew
      clear hc hte htk hG hS hnew
      go_wp2_with (go_at_call 47; refine (subsetFamily_any t _ ht).mono ?_; rw [← HS.out]; rintro e we ⟨rfl, rfl⟩)
      go_round
      case rel => exact ⟨k + 1, G ||| S, by omega, by go_num, rfl, Hnew.out⟩
      case measure => simp [intOf]; omega
    · obtain rfl : k = n := by omega
      have hGe : G = faceSet l := by rw [hG, ← Hlen.out, List.take_length]; rfl
      have HG := Lib.hid hGe
      clear hG hGe
      go_wp2_with fail
      go_ret
      exact ⟨by rw [HG.out]; rfl, (by repeat (first | exact Below.refl _ _ | assumption | refine Below.setCell ?_ (by first | omega | (simp; done) | (simp; omega)) _ | refine Below.alloc ?_ (by first | omega | (simp; done) | (simp; omega)) _ | apply Below.drew))⟩

theorem l3Has_any (p : Int) (s : Nat) (a : Option Addr) (n c : Nat) (l : List Nat) (w : World) (h : IntsAt w a n (up l)) (hs : s < 64) (hl : ∀ t ∈ l, t < 64) (b : Bool) (hb : isFace l s = b) :
    Calls Try.prog 23 #[.agg #[.int .i64 p, .slice a n c], .int .i64 s] w fun e w' => e = .returned (.bool b) ∧ Below w.heap.size w w' := by
  have hn := h.small
  have hlen : l.length = n := by rw [← h.len, up_len]
  have Hlen := Lib.hid hlen; clear hlen
  have Hl := Lib.hid hl; clear hl
  have Hb := Lib.hid hb; clear hb
  have hx : IntsAt (w.alloc (.cells #[.int .i64 p, .slice a n c] 28)) a n (up l) := h.keep (by repeat (first | exact Below.refl _ _ | assumption | refine Below.setCell ?_ (by first | omega | (simp; done) | (simp; omega)) _ | refine Below.alloc ?_ (by first | omega | (simp; done) | (simp; omega)) _ | apply Below.drew))
  have Hx := Lib.hid hx; clear hx h
  go_enter Try.func23, Try.ntmps23
  go_wp2_with fail
  go_loop [5] (fun i => ∃ k : Nat, k ≤ n ∧ i = .int .i64 k ∧ Hid (∀ j, j < k → sub s (nthN l j) = false)) (fun i => n - (intOf i).toNat)
  case atStart => exact ⟨0, Nat.zero_le _, rfl, Lib.hid fun j hj => absurd hj (Nat.not_lt_zero _)⟩
  case round =>
    obtain ⟨k, hk, rfl, hok⟩ := hrel
    by_cases hlt : k < n
    · obtain ⟨b1, o1, rfl, hc⟩ := Hx.out.cells (by omega)
      have hck := hc k hlt
      rw [nth_up] at hck
      have ht := Hl.out _ (nthN_mem (xs := l) (k := k) (by rw [Hlen.out]; exact hlt))
      obtain ⟨t, hte⟩ : ∃ t, t = nthN l k := ⟨_, rfl⟩
      rw [← hte] at hck ht
      have Hte := Lib.hid hte
      have hand := w_and t s ht hs
      have hst : (((t &&& s : Nat) : Int) == (s : Int)) = sub s t := by rw [castBeq]; unfold sub; rw [Nat.and_comm]
      clear hc hte
      cases hsb : sub s t
      · rw [hsb] at hst
        have Hsb := Lib.hid hsb; clear hsb
        go_wp2_with fail
        go_round
        case rel =>
          refine ⟨k + 1, by omega, by go_num, Lib.hid fun j hj => ?_⟩
          rcases Nat.lt_or_ge j k with h | h
          · exact hok.out j h
          · obtain rfl : j = k := by omega
            rw [← Hte.out]; exact Hsb.out
        case measure => simp [intOf]; omega
      · rw [hsb] at hst
        have hbt : b = true := by
          rw [← Hb.out]; exact any_yes (j := k) (by rw [Hlen.out]; exact hlt) (by rw [← Hte.out]; exact hsb)
        clear hsb
        subst hbt
        go_wp2_with fail
        go_ret
        exact ⟨rfl, (by repeat (first | exact Below.refl _ _ | assumption | refine Below.setCell ?_ (by first | omega | (simp; done) | (simp; omega)) _ | refine Below.alloc ?_ (by first | omega | (simp; done) | (simp; omega)) _ | apply Below.drew))⟩
    · obtain rfl : k = n := by omega
      have hkk : ¬ ((k : Int) < k) := by omega
      have hbt : b = false := by rw [← Hb.out]; exact any_no fun j hj => hok.out j (by rw [← Hlen.out]; exact hj)
      subst hbt
      go_wp2_with fail
      go_ret
      exact ⟨rfl, (by repeat (first | exact Below.refl _ _ | assumption | refine Below.setCell ?_ (by first | omega | (simp; done) | (simp; omega)) _ | refine Below.alloc ?_ (by first | omega | (simp; done) | (simp; omega)) _ | apply Below.drew))⟩


end Go.Proofs.Ytikehbbggdmcfaa

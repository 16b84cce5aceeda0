/- Contracts of the reference's l7From and l8Covers: the sets that contain none of others; the sets that meet all of others. -/
import Derived.Test.YtplbegfebnnbaaaMake
import Derived.Test.YtplbegfebnnbaaaMath3
namespace Go.Proofs.Ytplbegfebnnbaaa
open Go.RowKit
set_option linter.unusedSimpArgs false
set_option linter.unusedVariables false

/-- the sets below N with q -/
def lst (q : Nat → Bool) (N : Nat) : List Nat := (List.range N).filter q
theorem lst_no {q : Nat → Bool} {I : Nat} (h : q I = false) : lst q (I + 1) = lst q I := by unfold lst; rw [List.range_succ, List.filter_append]; simp [h]
theorem lst_yes {q : Nat → Bool} {I : Nat} (h : q I = true) : lst q (I + 1) = lst q I ++ [I] := by unfold lst; rw [List.range_succ, List.filter_append]; simp [h]
theorem lst_len (q : Nat → Bool) (N : Nat) : (lst q N).length ≤ N := by unfold lst; exact Nat.le_trans (List.length_filter_le _ _) (by simp)
theorem mem_lst {q : Nat → Bool} {N s : Nat} : s ∈ lst q N ↔ s < N ∧ q s = true := by unfold lst; simp
theorem lst_has (q : Nat → Bool) (N s : Nat) : (lst q N).contains s = (decide (s < N) && q s) := by
  rw [Bool.eq_iff_iff, List.contains_iff_mem, mem_lst]; simp
theorem take_any {l : List Nat} {f : Nat → Bool} {J : Nat} (h : J < l.length) : (l.take (J + 1)).any f = ((l.take J).any f || f (nthN l J)) := by
  rw [nthN_take l J h, List.any_append]; simp
theorem take_all {l : List Nat} {f : Nat → Bool} {J : Nat} (h : J < l.length) : (l.take (J + 1)).all f = ((l.take J).all f && f (nthN l J)) := by
  rw [nthN_take l J h, List.all_append]; simp
theorem w_nsub (t s : Nat) : (((t &&& s : Nat) : Int) != (t : Int)) = !sub t s := by
  unfold bne sub; rw [castBeq]
/-- the sets below N that contain none of l -/
def apart (l : List Nat) (N s : Nat) : Bool := decide (s < N) && !l.any (sub · s)
/-- the sets below N that meet all of l -/
def meets (l : List Nat) (N s : Nat) : Bool := decide (s < N) && l.all fun g => s &&& g != 0

set_option maxHeartbeats 1000000 in
theorem l7From_any (m : Nat) (a : Option Addr) (n c : Nat) (l : List Nat) (w : World) (h : IntsAt w a n (up l)) (hm : m ≤ 6) (hl : ∀ t ∈ l, t < 64) :
    Calls Try.prog 66 #[.int .i64 m, .slice a n c] w (RetBox w m (up (maxL (apart l (2 ^ m))))) := by
  have hm8 : m < 8 := by omega
  have hn := h.small
  have hlen : l.length = n := by rw [← h.len, up_len]
  have Hlen := Lib.hid hlen; clear hlen
  have Hl := Lib.hid hl; clear hl
  have hx : IntsAt (w.alloc (.cells #[.int .i64 0, .slice none 0 0] 27)) a n (up l) := h.keep (by repeat (first | exact Below.refl _ _ | assumption | refine Below.setCell ?_ (by first | omega | (simp; done) | (simp; omega)) _ | refine Below.alloc ?_ (by first | omega | (simp; done) | (simp; omega)) _ | apply Below.drew))
  have Hx := Lib.hid hx; clear hx h
  obtain ⟨N, hN⟩ : ∃ N, N = 2 ^ m := ⟨_, rfl⟩
  have hN64 : N ≤ 64 := by rw [hN]; exact pow_le64 hm
  have hNe : (2 : Int) ^ m = (N : Int) := by rw [hN]; norm_cast
  rw [← hN]
  have HN := Lib.hid hN; clear hN
  obtain ⟨q, hq⟩ : ∃ q : Nat → Bool, q = fun s => !l.any (sub · s) := ⟨_, rfl⟩
  have hL : maxL (apart l N) = maxL (lst q N).contains := maxL_congr fun s _ => by rw [lst_has, hq]; rfl
  rw [hL]
  have Hq := Lib.hid (show ∀ s, q s = !l.any (sub · s) from fun s => by rw [hq]); clear hq hL
  go_enter Try.func66, Try.ntmps66
  go_wp2_with fail
  go_loopw [5, 6] (fun s i wr => ∃ I : Nat, I ≤ N ∧ i = .int .i64 I ∧ Below (w.heap.size + 1) (w.alloc (.cells #[.int .i64 0, .slice none 0 0] 27)) wr ∧ ∃ ad k d, s = .slice ad k d ∧ k ≤ I ∧ Own 3 wr (w.heap.size + 1) ad k d (up (lst q I))) (fun _ i _ => N - (intOf i).toNat)
  case atStart => exact ⟨0, Nat.zero_le _, rfl, (by repeat (first | exact Below.refl _ _ | assumption | refine Below.setCell ?_ (by first | omega | (simp; done) | (simp; omega)) _ | refine Below.alloc ?_ (by first | omega | (simp; done) | (simp; omega)) _ | apply Below.drew)), _, 0, 0, rfl, Nat.le_refl _, by have := Own.empty 3 (w.alloc (.cells #[.int .i64 0, .slice none 0 0] 27)) (w.heap.size + 1) (by simp); simp only [World.size_alloc] at this; exact this⟩
  case round =>
    obtain ⟨wo, rfl⟩ : ∃ x : World, x = wr := ⟨_, rfl⟩
    obtain ⟨I, hI, rfl, hb, ad, k, d, rfl, hk, hown⟩ := hrel
    have hzr : w.heap.size + 1 ≤ wo.heap.size := by have := hb.size; simpa using this
    have HB := Lib.hid hb; have HO := Lib.hid hown
    have Hx2 := Lib.hid (Hx.out.keep (by simpa using hb))
    clear hb hown
    by_cases hlt : I < N
    · have hlt' : (I : Int) < 2 ^ m := by rw [hNe]; omega
      have hI64 : I < 64 := by omega
      go_wp2_with fail
      go_loopw [7, 8] (fun f j wi => ∃ J : Nat, J ≤ n ∧ j = .int .i64 J ∧ f = .bool (!(l.take J).any (sub · I)) ∧ Below wo.heap.size wo wi) (fun _ j _ => n - (intOf j).toNat)
      case atStart => exact ⟨0, Nat.zero_le _, rfl, by simp, Below.refl _ _⟩
      case round =>
        obtain ⟨J, hJ, rfl, rfl, hbi⟩ := hrel
        by_cases hjt : J < n
        · have Hx3 := Lib.hid (Hx2.out.keep hbi)
          obtain ⟨b1, o1, rfl, hc⟩ := Hx3.out.cells (by omega)
          have hck := hc J hjt
          rw [nth_up] at hck
          have hk0 : (0 : Int) ≤ J := by omega
          have hkn : (J : Int) < n := by omega
          have ht := Hl.out _ (nthN_mem (xs := l) (k := J) (by rw [Hlen.out]; exact hjt))
          have hnew := take_any (l := l) (f := (sub · I)) (J := J) (by rw [Hlen.out]; exact hjt)
          have hst := w_nsub (nthN l J) I
          obtain ⟨t, hte⟩ : ∃ t, t = nthN l J := ⟨_, rfl⟩
          rw [← hte] at hck ht hnew hst
          obtain ⟨sb, hsb⟩ : ∃ sb, sb = !sub t I := ⟨_, rfl⟩
          replace hnew : (!(l.take (J + 1)).any (sub · I)) = (!(l.take J).any (sub · I) && !sub t I) := by rw [hnew, Bool.not_or]
          rw [← hsb] at hnew hst
          obtain ⟨ob, hob⟩ : ∃ ob, ob = !(l.take J).any (sub · I) := ⟨_, rfl⟩
          rw [← hob] at hnew
          rw [← hob]
          have Hnew := Lib.hid hnew
          have HBI := Lib.hid hbi
          clear hc hte hsb hob hnew hbi
          cases ob
          · go_wp2_with fail
            go_quiet (fail)
            go_wp2_with fail
            go_roundw
            case rel => exact ⟨J + 1, by omega, by go_num, by rw [Hnew.out]; rfl, below_drewN HBI.out _⟩
            case measure => simp [intOf]; omega
          · cases sb
            · go_wp2_with fail
              go_quiet (fail)
              go_wp2_with fail
              go_roundw
              case rel => exact ⟨J + 1, by omega, by go_num, by rw [Hnew.out]; rfl, below_drewN HBI.out _⟩
              case measure => simp [intOf]; omega
            · go_wp2_with fail
              go_quiet (fail)
              go_wp2_with fail
              go_roundw
              case rel => exact ⟨J + 1, by omega, by go_num, by rw [Hnew.out]; rfl, below_drewN HBI.out _⟩
              case measure => simp [intOf]; omega
        · obtain rfl : J = n := by omega
          have hjj : ¬ ((J : Int) < J) := by omega
          have HO2 := Lib.hid (HO.out.keep hbi)
          have HB2 := Lib.hid (HB.out.trans (hbi.mono hzr))
          have hzi : w.heap.size + 1 ≤ wr.heap.size := by have := hbi.size; omega
          rw [← Hlen.out, List.take_length, ← Hq.out I, Hlen.out]
          clear hbi
          cases hqI : q I
          · have HqI := Lib.hid hqI; clear hqI
            go_wp2_with fail
            go_roundw
            case rel => exact ⟨I + 1, by omega, by go_num, HB2.out, ad, k, d, rfl, by omega, by rw [lst_no HqI.out]; exact HO2.out⟩
            case measure => simp [intOf]; omega
          · have HqI := Lib.hid hqI; clear hqI
            go_wp2_with (at_builtin; refine ap rfl _ _ rfl (w.heap.size + 1) _ _ _ _ _ rfl HO2.out rfl (by omega) hzi ?_; intro ad' d' w' hown' hb'; have HO3 := Lib.hid hown'; have HB3 := Lib.hid hb'; clear hown' hb')
            go_roundw
            case rel => exact ⟨I + 1, by omega, by go_num, HB2.out.trans HB3.out, ad', k + 1, d', rfl, by omega, by rw [lst_yes HqI.out, up_append]; exact HO3.out⟩
            case measure => simp [intOf]; omega
    · obtain rfl : I = N := by omega
      have hii : ¬ ((I : Int) < 2 ^ m) := by rw [hNe]; omega
      have hl64 : ∀ s ∈ lst q I, s < 64 := fun s hs => by have := (mem_lst.1 hs).1; omega
      have Hl64 := Lib.hid hl64; clear hl64
      go_wp2_with fail
      refine (l3Make_any m ad k d (lst q I) _ HO.out.reads Hl64.out).mono ?_
      rintro e w1 ⟨ad1, m1, d1, rfl, hown, hb⟩
      have hbl := HB.out.trans (hb.mono hzr)
      obtain ⟨hc, hf⟩ := bcell hbl
      have hz : w.heap.size + 1 ≤ w1.heap.size := by have := hb.size; omega
      have hbw : Below w.heap.size w w1 := box_below hbl
      have ho : Own 3 w1 (w.heap.size + 1) ad1 m1 d1 _ := hown.mono hzr
      clear hb hown
      go_wp2_with fail
      refine bodyPost_ret (v := .agg #[.int .i64 m, .slice ad1 m1 d1]) (by simp [results, Try.results66, go_sem, hc, hz]) rfl ⟨ad1, m1, d1, rfl, ?_, (by repeat (first | exact Below.refl _ _ | assumption | refine Below.setCell ?_ (by first | omega | (simp; done) | (simp; omega)) _ | refine Below.alloc ?_ (by first | omega | (simp; done) | (simp; omega)) _ | apply Below.drew))⟩
      exact ((ho.setBelow _ (by omega)).setBelow _ (by omega)).mono (by omega)

end Go.Proofs.Ytplbegfebnnbaaa

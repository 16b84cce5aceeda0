/- Texts of this claim, one behind the other: what each says stands at its head. -/
import Derived.Test.YtihfhfihladlcaaGreatDoorAnti
import Derived.Test.YtihfhfihladlcaaGreatDoorBase
import Derived.Test.YtihfhfihladlcaaGreatDoorCore
import Derived.Test.YtihfhfihladlcaaGreatDoorIdeal
/- Contracts of the reference's l7From and l8Covers: the sets that contain none of others; the sets that meet all of others. -/
namespace Go.Proofs.YtihfhfihladlcaaGreatDoor
set_option maxRecDepth 20000
open Go.RowKit
set_option linter.unusedSimpArgs false
set_option linter.unusedVariables false

/-- the sets below N with q -/
def lst (q : Nat → Bool) (N : Nat) : List Nat := (List.range N).filter q
theorem lst_no {q : Nat → Bool} {I : Nat} (h : q I = false) : lst q (I + 1) = lst q I := by unfold lst; rw [List.range_succ, List.filter_append]; simp [h]
theorem lst_yes {q : Nat → Bool} {I : Nat} (h : q I = true) : lst q (I + 1) = lst q I ++ [I] := by unfold lst; rw [List.range_succ, List.filter_append]; simp [h]
theorem lst_len (q : Nat → Bool) (N : Nat) : (lst q N).length ≤ N := by unfold lst; exact Nat.le_trans (List.length_filter_le _ _) (by simp)
theorem mem_lst {q : Nat → Bool} {N s : Nat} : s ∈ lst q N ↔ s < N ∧ q s = true := by unfold lst; simp
theorem lst_has (q : Nat → Bool) (N s : Nat) : (lst q N).contains s = (decide (s < N) && q s) := by
  rw [Bool.eq_iff_iff, List.contains_iff_mem, mem_lst]; simp
theorem take_any {l : List Nat} {f : Nat → Bool} {J : Nat} (h : J < l.length) : (l.take (J + 1)).any f = ((l.take J).any f || f (nthN l J)) := by
  rw [nthN_take l J h, List.any_append]; simp
theorem take_all {l : List Nat} {f : Nat → Bool} {J : Nat} (h : J < l.length) : (l.take (J + 1)).all f = ((l.take J).all f && f (nthN l J)) := by
  rw [nthN_take l J h, List.all_append]; simp
theorem w_nsub (t s : Nat) : (((t &&& s : Nat) : Int) != (t : Int)) = !sub t s := by
  unfold bne sub; rw [castBeq]
/-- the sets below N that contain none of l -/
def apart (l : List Nat) (N s : Nat) : Bool := decide (s < N) && !l.any (sub · s)
/-- the sets below N that meet all of l -/
def meets (l : List Nat) (N s : Nat) : Bool := decide (s < N) && l.all fun g => s &&& g != 0

set_option maxHeartbeats 1000000 in
theorem l7From_any (m : Nat) (a : Option Addr) (n c : Nat) (l : List Nat) (w : World) (h : IntsAt w a n (up l)) (hm : m ≤ 6) (hl : ∀ t ∈ l, t < 64) :
    Calls Tryz.prog 91 #[.int .i64 m, .slice a n c] w (RetBox w m (up (maxL (apart l (2 ^ m))))) := by
  have hm8 : m < 8 := by omega
  have hn := h.small
  have hlen : l.length = n := by rw [← h.len, up_len]
  have Hlen := Lib.hid hlen; clear hlen
  have Hl := Lib.hid hl; clear hl
  have hx : IntsAt (w.alloc (.cells #[.int .i64 0, .slice none 0 0] 32)) a n (up l) := h.keep (by repeat (first | exact Below.refl _ _ | assumption | refine Below.setCell ?_ (by first | omega | (simp; done) | (simp; omega)) _ | refine Below.alloc ?_ (by first | omega | (simp; done) | (simp; omega)) _ | apply Below.drew))
  have Hx := Lib.hid hx; clear hx h
  obtain ⟨N, hN⟩ : ∃ N, N = 2 ^ m := ⟨_, rfl⟩
  have hN64 : N ≤ 64 := by rw [hN]; exact pow_le64 hm
  have hNe : (2 : Int) ^ m = (N : Int) := by rw [hN]; norm_cast
  rw [← hN]
  have HN := Lib.hid hN; clear hN
  obtain ⟨q, hq⟩ : ∃ q : Nat → Bool, q = fun s => !l.any (sub · s) := ⟨_, rfl⟩
  have hL : maxL (apart l N) = maxL (lst q N).contains := maxL_congr fun s _ => by rw [lst_has, hq]; rfl
  rw [hL]
  have Hq := Lib.hid (show ∀ s, q s = !l.any (sub · s) from fun s => by rw [hq]); clear hq hL
  go_enter Tryz.func91, Tryz.ntmps91
  go_wp2_with fail
  go_loopw [5, 6] (fun s i wr => ∃ I : Nat, I ≤ N ∧ i = .int .i64 I ∧ Below (w.heap.size + 1) (w.alloc (.cells #[.int .i64 0, .slice none 0 0] 32)) wr ∧ ∃ ad k d, s = .slice ad k d ∧ k ≤ I ∧ Own 3 wr (w.heap.size + 1) ad k d (up (lst q I))) (fun _ i _ => N - (intOf i).toNat)
  case atStart => exact ⟨0, Nat.zero_le _, rfl, (by repeat (first | exact Below.refl _ _ | assumption | refine Below.setCell ?_ (by first | omega | (simp; done) | (simp; omega)) _ | refine Below.alloc ?_ (by first | omega | (simp; done) | (simp; omega)) _ | apply Below.drew)), _, 0, 0, rfl, Nat.le_refl _, by have := Own.empty 3 (w.alloc (.cells #[.int .i64 0, .slice none 0 0] 32)) (w.heap.size + 1) (by simp); simp only [World.size_alloc] at this; exact this⟩
  case round =>
    obtain ⟨wo, rfl⟩ : ∃ x : World, x = wr := ⟨_, rfl⟩
    obtain ⟨I, hI, rfl, hb, ad, k, d, rfl, hk, hown⟩ := hrel
    have hzr : w.heap.size + 1 ≤ wo.heap.size := by have := hb.size; simpa using this
    have HB := Lib.hid hb; have HO := Lib.hid hown
    have Hx2 := Lib.hid (Hx.out.keep (by simpa using hb))
    clear hb hown
    by_cases hlt : I < N
    · have hlt' : (I : Int) < 2 ^ m := by rw [hNe]; omega
      have hI64 : I < 64 := by omega
      go_wp2_with fail
      go_loopw [7, 8] (fun f j wi => ∃ J : Nat, J ≤ n ∧ j = .int .i64 J ∧ f = .bool (!(l.take J).any (sub · I)) ∧ Below wo.heap.size wo wi) (fun _ j _ => n - (intOf j).toNat)
      case atStart => exact ⟨0, Nat.zero_le _, rfl, by simp, Below.refl _ _⟩
      case round =>
        obtain ⟨J, hJ, rfl, rfl, hbi⟩ := hrel
        by_cases hjt : J < n
        · have Hx3 := Lib.hid (Hx2.out.keep hbi)
          obtain ⟨b1, o1, rfl, hc⟩ := Hx3.out.cells (by omega)
          have hck := hc J hjt
          rw [nth_up] at hck
          have hk0 : (0 : Int) ≤ J := by omega
          have hkn : (J : Int) < n := by omega
          have ht := Hl.out _ (nthN_mem (xs := l) (k := J) (by rw [Hlen.out]; exact hjt))
          have hnew := take_any (l := l) (f := (sub · I)) (J := J) (by rw [Hlen.out]; exact hjt)
          have hst := w_nsub (nthN l J) I
          obtain ⟨t, hte⟩ : ∃ t, t = nthN l J := ⟨_, rfl⟩
          rw [← hte] at hck ht hnew hst
          obtain ⟨sb, hsb⟩ : ∃ sb, sb = !sub t I := ⟨_, rfl⟩
          replace hnew : (!(l.take (J + 1)).any (sub · I)) = (!(l.take J).any (sub · I) && !sub t I) := by rw [hnew, Bool.not_or]
          rw [← hsb] at hnew hst
          obtain ⟨ob, hob⟩ : ∃ ob, ob = !(l.take J).any (sub · I) := ⟨_, rfl⟩
          rw [← hob] at hnew
          rw [← hob]
          have Hnew := Lib.hid hnew
          have HBI := Lib.hid hbi
          clear hc hte hsb hob hnew hbi
          cases ob
          · go_wp2_with fail
            go_quiet (fail)
            go_wp2_with fail
            go_roundw
            case rel => exact ⟨J + 1, by omega, by go_num, by rw [Hnew.out]; rfl, below_drewN HBI.out _⟩
            case measure => simp [intOf]; omega
          · cases sb
            · go_wp2_with fail
              go_quiet (fail)
              go_wp2_with fail
              go_roundw
              case rel => exact ⟨J + 1, by omega, by go_num, by rw [Hnew.out]; rfl, below_drewN HBI.out _⟩
              case measure => simp [intOf]; omega
            · go_wp2_with fail
              go_quiet (fail)
              go_wp2_with fail
              go_roundw
              case rel => exact ⟨J + 1, by omega, by go_num, by rw [Hnew.out]; rfl, below_drewN HBI.out _⟩
              case measure => simp [intOf]; omega
        · obtain rfl : J = n := by omega
          have hjj : ¬ ((J : Int) < J) := by omega
          have HO2 := Lib.hid (HO.out.keep hbi)
          have HB2 := Lib.hid (HB.out.trans (hbi.mono hzr))
          have hzi : w.heap.size + 1 ≤ wr.heap.size := by have := hbi.size; omega
          rw [← Hlen.out, List.take_length, ← Hq.out I, Hlen.out]
          clear hbi
          cases hqI : q I
          · have HqI := Lib.hid hqI; clear hqI
            go_wp2_with fail
            go_roundw
            case rel => exact ⟨I + 1, by omega, by go_num, HB2.out, ad, k, d, rfl, by omega, by rw [lst_no HqI.out]; exact HO2.out⟩
            case measure => simp [intOf]; omega
          · have HqI := Lib.hid hqI; clear hqI
            go_wp2_with (at_builtin; refine ap rfl _ _ rfl (w.heap.size + 1) _ _ _ _ _ rfl HO2.out rfl (by omega) hzi ?_; intro ad' d' w' hown' hb'; have HO3 := Lib.hid hown'; have HB3 := Lib.hid hb'; clear hown' hb')
            go_roundw
            case rel => exact ⟨I + 1, by omega, by go_num, HB2.out.trans HB3.out, ad', k + 1, d', rfl, by omega, by rw [lst_yes HqI.out, up_append]; exact HO3.out⟩
            case measure => simp [intOf]; omega
    · obtain rfl : I = N := by omega
      have hii : ¬ ((I : Int) < 2 ^ m) := by rw [hNe]; omega
      have hl64 : ∀ s ∈ lst q I, s < 64 := fun s hs => by have := (mem_lst.1 hs).1; omega
      have Hl64 := Lib.hid hl64; clear hl64
      go_wp2_with fail
      refine (l3Make_any m ad k d (lst q I) _ HO.out.reads Hl64.out).mono ?_
      rintro e w1 ⟨ad1, m1, d1, rfl, hown, hb⟩
      have hbl := HB.out.trans (hb.mono hzr)
      obtain ⟨hc, hf⟩ := bcell hbl
      have hz : w.heap.size + 1 ≤ w1.heap.size := by have := hb.size; omega
      have hbw : Below w.heap.size w w1 := box_below hbl
      have ho : Own 3 w1 (w.heap.size + 1) ad1 m1 d1 _ := hown.mono hzr
      clear hb hown
      go_wp2_with fail
      refine bodyPost_ret (v := .agg #[.int .i64 m, .slice ad1 m1 d1]) (by simp [results, Tryz.results91, go_sem, hc, hz]) rfl ⟨ad1, m1, d1, rfl, ?_, (by repeat (first | exact Below.refl _ _ | assumption | refine Below.setCell ?_ (by first | omega | (simp; done) | (simp; omega)) _ | refine Below.alloc ?_ (by first | omega | (simp; done) | (simp; omega)) _ | apply Below.drew))⟩
      exact ((ho.setBelow _ (by omega)).setBelow _ (by omega)).mono (by omega)

set_option maxHeartbeats 1000000 in
theorem l8Covers_any (m : Nat) (a : Option Addr) (n c : Nat) (l : List Nat) (w : World) (h : IntsAt w a n (up l)) (hm : m ≤ 6) (hl : ∀ t ∈ l, t < 64) :
    Calls Tryz.prog 103 #[.int .i64 m, .slice a n c] w (RetInts w (up (minL (meets l (2 ^ m))))) := by
  have hm8 : m < 8 := by omega
  have hn := h.small
  have hlen : l.length = n := by rw [← h.len, up_len]
  have Hlen := Lib.hid hlen; clear hlen
  have Hl := Lib.hid hl; clear hl
  have Hx := Lib.hid h; clear h
  obtain ⟨N, hN⟩ : ∃ N, N = 2 ^ m := ⟨_, rfl⟩
  have hN64 : N ≤ 64 := by rw [hN]; exact pow_le64 hm
  have hNe : (2 : Int) ^ m = (N : Int) := by rw [hN]; norm_cast
  rw [← hN]
  have HN := Lib.hid hN; clear hN
  obtain ⟨q, hq⟩ : ∃ q : Nat → Bool, q = fun s => l.all fun g => s &&& g != 0 := ⟨_, rfl⟩
  have hL : minL (meets l N) = minL (lst q N).contains := minL_congr fun s _ => by rw [lst_has, hq]; rfl
  rw [hL]
  have Hq := Lib.hid (show ∀ s, q s = l.all fun g => s &&& g != 0 from fun s => by rw [hq]); clear hq hL
  go_enter Tryz.func103, Tryz.ntmps103
  go_wp2_with fail
  go_loopw [5, 6] (fun s i wr => ∃ I : Nat, I ≤ N ∧ i = .int .i64 I ∧ Below w.heap.size w wr ∧ ∃ ad k d, s = .slice ad k d ∧ k ≤ I ∧ Own 3 wr w.heap.size ad k d (up (lst q I))) (fun _ i _ => N - (intOf i).toNat)
  case atStart => exact ⟨0, Nat.zero_le _, rfl, (by repeat (first | exact Below.refl _ _ | assumption | refine Below.setCell ?_ (by first | omega | (simp; done) | (simp; omega)) _ | refine Below.alloc ?_ (by first | omega | (simp; done) | (simp; omega)) _ | apply Below.drew)), _, 0, 0, rfl, Nat.le_refl _, Own.empty _ _ _ (by first | exact Nat.le_refl _ | simp)⟩
  case round =>
    obtain ⟨I, hI, rfl, hb, ad, k, d, rfl, hk, hown⟩ := hrel
    have hzr : w.heap.size ≤ wr.heap.size := hb.size
    have HB := Lib.hid hb; have HO := Lib.hid hown
    have Hx2 := Lib.hid (Hx.out.keep hb)
    clear hb hown
    by_cases hlt : I < N
    · have hlt' : (I : Int) < 2 ^ m := by rw [hNe]; omega
      have hI64 : I < 64 := by omega
      go_wp2_with fail
      go_loop [7, 8] (fun f j => ∃ J : Nat, J ≤ n ∧ j = .int .i64 J ∧ f = .bool ((l.take J).all fun g => I &&& g != 0)) (fun _ j => n - (intOf j).toNat)
      case atStart => exact ⟨0, Nat.zero_le _, rfl, by simp⟩
      case round =>
        obtain ⟨J, hJ, rfl, rfl⟩ := hrel
        by_cases hjt : J < n
        · obtain ⟨b1, o1, rfl, hc⟩ := Hx2.out.cells (by omega)
          have hck := hc J hjt
          rw [nth_up] at hck
          have hk0 : (0 : Int) ≤ J := by omega
          have hkn : (J : Int) < n := by omega
          have ht := Hl.out _ (nthN_mem (xs := l) (k := J) (by rw [Hlen.out]; exact hjt))
          have hnew := take_all (l := l) (f := fun g => I &&& g != 0) (J := J) (by rw [Hlen.out]; exact hjt)
          obtain ⟨t, hte⟩ : ∃ t, t = nthN l J := ⟨_, rfl⟩
          rw [← hte] at hck ht hnew
          have hst : (((I &&& t : Nat) : Int) != 0) = (I &&& t != 0) := by unfold bne; rw [show (0 : Int) = ((0 : Nat) : Int) from rfl, castBeq]
          obtain ⟨sb, hsb⟩ : ∃ sb, sb = (I &&& t != 0) := ⟨_, rfl⟩
          try simp only [] at hnew
          rw [← hsb] at hnew hst
          obtain ⟨ob, hob⟩ : ∃ ob, ob = (l.take J).all fun g => I &&& g != 0 := ⟨_, rfl⟩
          rw [← hob] at hnew
          rw [← hob]
          have Hnew := Lib.hid hnew
          clear hc hte hsb hob hnew
          cases ob
          · go_wp2_with fail
            go_round
            case rel => exact ⟨J + 1, by omega, by go_num, by rw [Hnew.out]; rfl⟩
            case measure => simp [intOf]; omega
          · cases sb
            · go_wp2_with fail
              go_round
              case rel => exact ⟨J + 1, by omega, by go_num, by rw [Hnew.out]; rfl⟩
              case measure => simp [intOf]; omega
            · go_wp2_with fail
              go_round
              case rel => exact ⟨J + 1, by omega, by go_num, by rw [Hnew.out]; rfl⟩
              case measure => simp [intOf]; omega
        · obtain rfl : J = n := by omega
          have hjj : ¬ ((J : Int) < J) := by omega
          rw [← Hlen.out, List.take_length, ← Hq.out I, Hlen.out]
          cases hqI : q I
          · have HqI := Lib.hid hqI; clear hqI
            go_wp2_with fail
            go_roundw
            case rel => exact ⟨I + 1, by omega, by go_num, HB.out, ad, k, d, rfl, by omega, by rw [lst_no HqI.out]; exact HO.out⟩
            case measure => simp [intOf]; omega
          · have HqI := Lib.hid hqI; clear hqI
            go_wp2_with (at_builtin; refine ap rfl _ _ rfl w.heap.size _ _ _ _ _ rfl HO.out rfl (by omega) hzr ?_; intro ad' d' w' hown' hb'; have HO3 := Lib.hid hown'; have HB3 := Lib.hid hb'; clear hown' hb')
            go_roundw
            case rel => exact ⟨I + 1, by omega, by go_num, HB.out.trans HB3.out, ad', k + 1, d', rfl, by omega, by rw [lst_yes HqI.out, up_append]; exact HO3.out⟩
            case measure => simp [intOf]; omega
    · obtain rfl : I = N := by omega
      have hii : ¬ ((I : Int) < 2 ^ m) := by rw [hNe]; omega
      have hl64 : ∀ s ∈ lst q I, s < 64 := fun s hs => by have := (mem_lst.1 hs).1; omega
      have Hl64 := Lib.hid hl64; clear hl64
      go_wp2_with fail
      refine (l2Extreme_any ad k d (lst q I) false _ HO.out.reads Hl64.out).mono ?_
      rintro e w1 ⟨ad1, m1, d1, rfl, hown, hb⟩
      have HB5 := Lib.hid hb; have HO5 := Lib.hid hown
      clear hb hown
      go_wp2_with fail
      go_ret
      exact ⟨ad1, m1, d1, rfl, HO5.out.mono hzr, HB.out.trans (HB5.out.mono hzr)⟩
end Go.Proofs.YtihfhfihladlcaaGreatDoor

/- Contracts of what lists the faces of a complex: subsetFamily, facesIn, l3Has, FacesOf, topSize, bySize, FacesOfSize. -/
namespace Go.Proofs.YtihfhfihladlcaaGreatDoor
set_option maxRecDepth 20000
open Go.RowKit
set_option linter.unusedSimpArgs false
set_option linter.unusedVariables false

/-- the next subset below u -/
def nextOk (t u : Nat) : Bool := !(sub u t) || u == 0 || (sub ((u - 1) &&& t) t && decide ((u - 1) &&& t < u) && (List.range 64).all fun s => !(sub s t) || decide (u ≤ s) || decide (s ≤ (u - 1) &&& t))
theorem nextOk_all : ((List.range 64).all fun t => (List.range 64).all fun u => nextOk t u) = true := by decide +kernel
theorem next_sub (t : Nat) (ht : t < 64) (u : Nat) (hu : u < 64) (hut : sub u t = true) (h0 : 0 < u) : sub ((u - 1) &&& t) t = true ∧ (u - 1) &&& t < u ∧ ∀ s : Nat, s < 64 → sub s t = true → s < u → s ≤ (u - 1) &&& t := by
  have h := List.all_eq_true.1 (List.all_eq_true.1 nextOk_all t (List.mem_range.2 ht)) u (List.mem_range.2 hu)
  unfold nextOk at h
  have hu0 : (u == 0) = false := by simp; omega
  rw [hut, hu0] at h
  simp only [Bool.not_true, Bool.false_or, Bool.and_eq_true, decide_eq_true_eq, List.all_eq_true, List.mem_range, Bool.or_eq_true, Bool.not_eq_true'] at h
  refine ⟨h.1.1, h.1.2, fun s hs h1 h2 => ?_⟩
  rcases h.2 s hs with (h3 | h3) | h3
  · rw [h1] at h3; cases h3
  · omega
  · exact h3
theorem sub_step {t u s : Nat} (ht : t < 64) (hu : u < 64) (hut : sub u t = true) (h0 : 0 < u) (hs : s < 64) :
    ((sub s t && decide (u < s)) || s == u) = (sub s t && decide ((u - 1) &&& t < s)) := by
  obtain ⟨_, h2, h3⟩ := next_sub t ht u hu hut h0
  have h4 := h3 s hs
  rw [Bool.eq_iff_iff]
  simp only [Bool.or_eq_true, Bool.and_eq_true, decide_eq_true_eq, beq_iff_eq]
  constructor
  · rintro (⟨h, h'⟩ | rfl)
    · exact ⟨h, by omega⟩
    · exact ⟨hut, h2⟩
  · rintro ⟨h, h'⟩
    by_cases hsu : s < u
    · have := h4 h hsu; omega
    · by_cases e : s = u
      · exact .inr e
      · exact .inl ⟨h, by omega⟩
theorem sub_lastStep {t s : Nat} : ((sub s t && decide (0 < s)) || s == 0) = sub s t := by
  rw [Bool.eq_iff_iff]
  simp only [Bool.or_eq_true, Bool.and_eq_true, decide_eq_true_eq, beq_iff_eq]
  constructor
  · rintro (h | rfl)
    · exact h.1
    · unfold sub; simp
  · intro h
    by_cases e : s = 0
    · exact .inr e
    · exact .inl ⟨h, by omega⟩

/-- the faces of the complex with these facets -/
def isFace (l : List Nat) (s : Nat) : Bool := l.any fun t => sub s t

theorem subsetFamily_any (t : Nat) (w : World) (ht : t < 64) :
    Calls Tryz.prog 148 #[.int .i64 t] w fun e w' => e = .returned (.int .u64 (fam (sub · t))) ∧ w = w' := by
  go_enter Tryz.func148, Tryz.ntmps148
  go_wp2_with fail
  go_loop [3, 4] (fun F u => ∃ (x G : Nat), u = .int .i64 x ∧ F = .int .u64 G ∧ x < 64 ∧ sub x t = true ∧ G = fam fun s => sub s t && decide (x < s)) (fun _ u => (intOf u).toNat)
  case atStart =>
    refine ⟨t, 0, rfl, rfl, ht, sub_refl t, ?_⟩
    rw [← fam_zero]
    refine fam_congr fun s hs => ?_
    cases h : sub s t
    · rfl
    · have := sub_le h
      have h' : ¬ t < s := by omega
      simp [h']
  case round =>
    obtain ⟨x, G, rfl, rfl, hx, hxt, hG⟩ := hrel
    have hFG : Fam G := by rw [hG]; exact fam_Fam _
    have hor := w_or64bit G x hFG hx
    have hshl := w_shl64 x hx
    have HG := Lib.hid hG; clear hG
    have Hxt := Lib.hid hxt; clear hxt
    by_cases h0 : 0 < x
    · obtain ⟨y, hy⟩ : ∃ y, y = x - 1 := ⟨_, rfl⟩
      have hym : (x : Int) - 1 = (y : Int) := by omega
      have hand := w_and y t (by omega) ht
      have hnext := next_sub t ht x hx Hxt.out h0
      rw [← hy] at hnext
      have hne : ((x : Int) == 0) = false := by simp; omega
      have hx1 : (1 : Int) ≤ x := by omega
      have HY := Lib.hid hy; clear hy
      have HN := Lib.hid hnext; clear hnext
      go_wp2_with fail
      go_round
      case rel =>
        refine ⟨y &&& t, G ||| 2 ^ x, rfl, by first | rfl | (congr 1; push_cast; rfl), and_lt64 (by omega), HN.out.1, ?_⟩
        rw [HG.out, fam_or_bit _ hx]
        refine fam_congr fun s hs => ?_
        rw [HY.out]
        exact sub_step ht hx Hxt.out h0 hs
      case measure => have := HN.out.2.1; simp [intOf]; omega
    · obtain rfl : x = 0 := by omega
      go_wp2_with fail
      go_ret
      refine ⟨?_, rfl⟩
      have e : G ||| 2 ^ 0 = fam (sub · t) := by
        rw [HG.out, fam_or_bit _ hx]
        exact fam_congr fun s hs => sub_lastStep
      rw [← e]
      have hor' : bits .or .u64 (G : Int) 1 = ((G ||| 1 : Nat) : Int) := by simpa using hor
      simp [hor']
end Go.Proofs.YtihfhfihladlcaaGreatDoor

/- Plain laws of the flips and of the subdivision: what the program's families and the reference's lists have in common. -/
namespace Go.Proofs.YtihfhfihladlcaaGreatDoor
set_option maxRecDepth 20000
open Go.RowKit
set_option linter.unusedSimpArgs false
set_option linter.unusedVariables false

theorem isFace_iff {l : List Nat} {s : Nat} : isFace l s = true ↔ ∃ f ∈ l, sub s f = true := by unfold isFace; exact List.any_eq_true
theorem disj_bit {a b : Nat} (h : a &&& b = 0) (i : Nat) (ha : a.testBit i = true) : b.testBit i = false := by
  cases hb : b.testBit i with
  | false => rfl
  | true =>
    have : (a &&& b).testBit i = true := by rw [Nat.testBit_and, ha, hb]; rfl
    rw [h] at this; simp at this
theorem disj_of {a b : Nat} (h : ∀ i, a.testBit i = true → b.testBit i = false) : a &&& b = 0 := by
  apply Nat.eq_of_testBit_eq
  intro i
  rw [Nat.testBit_and]
  cases ha : a.testBit i with
  | false => simp
  | true => rw [h i ha]; simp
theorem sub_lt {a b N : Nat} (h : sub a b = true) (hb : b < N) : a < N := Nat.lt_of_le_of_lt (sub_le h) hb

/-- the faces of the link of s -/
def linkB (l : List Nat) (s x : Nat) : Bool := x &&& s == 0 && isFace l (x ||| s)
/-- the proper subsets of t -/
def propB (t x : Nat) : Bool := sub x t && x != t
/-- the facets around s without s -/
def linkL (l : List Nat) (s : Nat) : List Nat := (l.filter fun f => sub s f).map fun f => sdiff f s
def propL (t : Nat) : List Nat := (ord fun x => sub x t).filter fun x => x != t
theorem mem_linkL {l : List Nat} {s x : Nat} : x ∈ linkL l s ↔ ∃ f ∈ l, sub s f = true ∧ sdiff f s = x := by
  unfold linkL; simp [List.mem_map, List.mem_filter, and_assoc]
theorem mem_propL {t x : Nat} (ht : t < 64) : x ∈ propL t ↔ propB t x = true := by
  unfold propL propB
  rw [List.mem_filter, mem_ord, Bool.and_eq_true]
  exact ⟨fun ⟨⟨_, h⟩, h2⟩ => ⟨h, h2⟩, fun ⟨h, h2⟩ => ⟨⟨sub_lt h ht, h⟩, h2⟩⟩
theorem linkL_lt {l : List Nat} {s : Nat} (hl : ∀ f ∈ l, f < 64) : ∀ x ∈ linkL l s, x < 64 := fun x hx => by
  obtain ⟨f, hf, _, rfl⟩ := mem_linkL.1 hx
  exact sdiff_lt (hl f hf)
theorem propL_lt {t : Nat} : ∀ x ∈ propL t, x < 64 := fun x hx => ord_lt x (List.mem_filter.1 hx).1
/-- a face of the link lies in a facet of s without s -/
theorem link_up {l : List Nat} {s x : Nat} (hl : ∀ f ∈ l, f < 64) (hs : s < 64) (h : linkB l s x = true) : ∃ y, y ∈ linkL l s ∧ sub x y = true := by
  unfold linkB at h
  rw [Bool.and_eq_true, beq_iff_eq, isFace_iff] at h
  obtain ⟨h0, f, hf, hsub⟩ := h
  refine ⟨sdiff f s, mem_linkL.2 ⟨f, hf, sub_trans (sub_or_right x s) hsub, rfl⟩, ?_⟩
  rw [sub_iff]
  intro i hi
  rw [sdiff_testBit (hl f hf) hs, sub_iff.1 (sub_trans (sub_or_left x s) hsub) i hi, disj_bit h0 i hi]; rfl
theorem link_in {l : List Nat} {s x y : Nat} (hl : ∀ f ∈ l, f < 64) (hs : s < 64) (hy : y ∈ linkL l s) (h : sub x y = true) : linkB l s x = true := by
  obtain ⟨f, hf, hsf, rfl⟩ := mem_linkL.1 hy
  unfold linkB
  rw [Bool.and_eq_true, beq_iff_eq, isFace_iff]
  have hb : ∀ i, x.testBit i = true → f.testBit i = true ∧ s.testBit i = false := fun i hi => by
    have := sub_iff.1 h i hi
    rw [sdiff_testBit (hl f hf) hs] at this
    simpa using this
  exact ⟨disj_of fun i hi => (hb i hi).2, f, hf, or_sub (sub_iff.2 fun i hi => (hb i hi).1) hsf⟩
theorem prop_in {t x y : Nat} (hy : propB t y = true) (h : sub x y = true) : propB t x = true := by
  unfold propB at *
  rw [Bool.and_eq_true, bne_iff_ne] at *
  refine ⟨sub_trans h hy.1, fun e => hy.2 ?_⟩
  subst e
  exact sub_antisymm hy.1 h
theorem flip_same {l : List Nat} {s t : Nat} (hl : ∀ f ∈ l, f < 64) (hs : s < 64) (ht : t < 64) :
    maxL (linkL l s).contains = maxL (propL t).contains ↔ ∀ x, x < 64 → linkB l s x = propB t x := by
  constructor
  · intro h x hx
    rw [Bool.eq_iff_iff]
    constructor
    · intro hp
      obtain ⟨y, hy, hxy⟩ := link_up hl hs hp
      obtain ⟨z, hz, hyz⟩ := max_above (p := (linkL l s).contains) y (linkL_lt hl y hy) (by simpa using hy)
      rw [h] at hz
      have := (mem_maxL.1 hz).2.1
      rw [List.contains_iff_mem, mem_propL ht] at this
      exact prop_in this (sub_trans hxy hyz)
    · intro hq
      have hm := (mem_propL ht).2 hq
      obtain ⟨z, hz, hyz⟩ := max_above (p := (propL t).contains) x hx (by simpa using hm)
      rw [← h] at hz
      have := (mem_maxL.1 hz).2.1
      rw [List.contains_iff_mem] at this
      exact link_in hl hs this hyz
  · intro h
    refine maxL_eq (fun x hx hm => ?_) (fun x hx hm => ?_)
    · rw [List.contains_iff_mem] at hm
      have := link_in hl hs hm (sub_refl x)
      rw [h x hx] at this
      exact ⟨x, hx, by rw [List.contains_iff_mem, mem_propL ht]; exact this, sub_refl x⟩
    · rw [List.contains_iff_mem, mem_propL ht] at hm
      rw [← h x hx] at hm
      obtain ⟨y, hy, hxy⟩ := link_up hl hs hm
      exact ⟨y, linkL_lt hl y hy, by rw [List.contains_iff_mem]; exact hy, hxy⟩

/-- the flip may be made, but for purity and the sets being sets of the complex -/
def flipB (l : List Nat) (s t : Nat) : Bool := s != 0 && t != 0 && s &&& t == 0 && isFace l s && !isFace l t && (List.range 64).all fun x => linkB l s x == propB t x
theorem flipB_same {l : List Nat} {s t : Nat} : ((List.range 64).all fun x => linkB l s x == propB t x) = true ↔ ∀ x, x < 64 → linkB l s x = propB t x := by
  rw [List.all_eq_true]
  exact ⟨fun h x hx => eq_of_beq (h x (List.mem_range.2 hx)), fun h x hx => by rw [h x (List.mem_range.1 hx)]; exact beq_self_eq_true _⟩

/-- the faces after a flip, as the program makes them -/
def flipFam (l : List Nat) (m s t x : Nat) : Bool := (isFace l x && !sub s x) || (decide (x < 2 ^ m) && (sub x (s ||| t) && !sub s x))
/-- .. and the reference's sets -/
def flipL (l : List Nat) (s t : Nat) : List Nat := (ord (isFace l)).filter (fun f => !sub s f) ++ (propL s).map (· ||| t)
theorem flip_max {l : List Nat} {m s t : Nat} (hm : m ≤ 6) (hl : ∀ f ∈ l, f < 64) (hs : s < 2 ^ m) (ht : t < 2 ^ m) (hd : s &&& t = 0) : maxL (flipFam l m s t) = maxL (flipL l s t).contains := by
  have hs64 : s < 64 := Nat.lt_of_lt_of_le hs (pow_le64 hm)
  have ht64 : t < 64 := Nat.lt_of_lt_of_le ht (pow_le64 hm)
  refine maxL_eq (fun x hx hp => ?_) (fun x hx hp => ?_)
  · unfold flipFam at hp
    rw [Bool.or_eq_true, Bool.and_eq_true, Bool.and_eq_true, Bool.and_eq_true, decide_eq_true_eq] at hp
    rcases hp with ⟨h1, h2⟩ | ⟨h1, h2, h3⟩
    · refine ⟨x, hx, ?_, sub_refl x⟩
      rw [List.contains_iff_mem]; unfold flipL
      rw [List.mem_append, List.mem_filter, mem_ord]
      exact Or.inl ⟨⟨hx, h1⟩, h2⟩
    · refine ⟨(x &&& s) ||| t, or_lt64 (Nat.lt_of_le_of_lt Nat.and_le_right hs64) ht64, ?_, ?_⟩
      · rw [List.contains_iff_mem]; unfold flipL
        rw [List.mem_append, List.mem_map]
        refine Or.inr ⟨x &&& s, (mem_propL hs64).2 ?_, rfl⟩
        unfold propB
        rw [Bool.and_eq_true, bne_iff_ne]
        refine ⟨sub_iff.2 fun i hi => by rw [Nat.testBit_and] at hi; simp at hi; exact hi.2, fun e => ?_⟩
        have : sub s x = true := sub_iff.2 fun i hi => by rw [← e, Nat.testBit_and] at hi; simp at hi; exact hi.1
        rw [this] at h3; simp at h3
      · rw [sub_iff]
        intro i hi
        have := sub_iff.1 h2 i hi
        rw [Nat.testBit_or] at this
        rw [Nat.testBit_or, Nat.testBit_and, hi]
        simpa using this
  · rw [List.contains_iff_mem] at hp
    unfold flipL at hp
    rw [List.mem_append, List.mem_filter, mem_ord, List.mem_map] at hp
    refine ⟨x, hx, ?_, sub_refl x⟩
    unfold flipFam
    rw [Bool.or_eq_true, Bool.and_eq_true, Bool.and_eq_true, Bool.and_eq_true, decide_eq_true_eq]
    rcases hp with ⟨⟨_, h1⟩, h2⟩ | ⟨a, ha, rfl⟩
    · exact Or.inl ⟨h1, h2⟩
    · have hp := (mem_propL hs64).1 ha
      unfold propB at hp
      rw [Bool.and_eq_true, bne_iff_ne] at hp
      refine Or.inr ⟨or_lt_pow (sub_lt hp.1 hs) ht, ?_, ?_⟩
      · exact or_sub (sub_trans hp.1 (sub_or_left s t)) (sub_or_right s t)
      · rw [Bool.not_eq_true']
        cases h : sub s (a ||| t) with
        | false => rfl
        | true =>
          exfalso
          apply hp.2
          refine sub_antisymm hp.1 (sub_iff.2 fun i hi => ?_)
          have := sub_iff.1 h i hi
          rw [Nat.testBit_or, disj_bit hd i hi] at this
          simpa using this

/-! ### The subdivision -/
/-- the reference's sets for one facet: itself, or with the points of s below k one by one taken away -/
def starL (s v f k : Nat) : List Nat := (List.range k).flatMap fun i => if s.testBit i then [sdiff f (2 ^ i), sdiff f (2 ^ i) ||| v] else []
def divL (s v f : Nat) : List Nat := if sub s f then starL s v f 6 else [f]
def divAll (l : List Nat) (s v : Nat) : List Nat := l.flatMap (divL s v)
/-- the program's family -/
def divFam (l : List Nat) (s v x : Nat) : Bool := (isFace l x && !sub s x) || ((ord (linkB l s)).any fun b => (ord fun a => sub a s).any fun a => a != s && x == v ||| a ||| b)
theorem mem_starL {s v f k x : Nat} : x ∈ starL s v f k ↔ ∃ i, i < k ∧ s.testBit i = true ∧ (x = sdiff f (2 ^ i) ∨ x = sdiff f (2 ^ i) ||| v) := by
  unfold starL
  simp only [List.mem_flatMap, List.mem_range]
  constructor
  · rintro ⟨i, hi, h⟩
    split at h
    · rename_i hb
      exact ⟨i, hi, hb, by simpa using h⟩
    · cases h
  · rintro ⟨i, hi, hb, h⟩
    exact ⟨i, hi, by rw [if_pos hb]; simpa using h⟩
theorem bit_low {s i : Nat} (hs : s < 64) (h : s.testBit i = true) : i < 6 := by
  apply Classical.byContradiction
  intro hn
  have : s < 2 ^ i := Nat.lt_of_lt_of_le hs (Nat.pow_le_pow_right (n := 2) (by omega) (show 6 ≤ i by omega))
  rw [Nat.testBit_lt_two_pow this] at h; cases h
theorem sdiff_bit {f i j : Nat} (hf : f < 64) (hi : i < 6) : (sdiff f (2 ^ i)).testBit j = (f.testBit j && decide (i ≠ j)) := by
  rw [sdiff_testBit hf (bit_lt64 hi), Nat.testBit_two_pow]; simp
theorem not_sub {a b : Nat} (h : sub a b = false) : ∃ i, a.testBit i = true ∧ b.testBit i = false := by
  apply Classical.byContradiction
  intro hn
  have : sub a b = true := sub_iff.2 fun i hi => by
    cases hb : b.testBit i with
    | true => rfl
    | false => exact absurd ⟨i, hi, hb⟩ hn
  rw [this] at h; cases h
theorem div_max {l : List Nat} {m s : Nat} (hm : m ≤ 5) (hl : ∀ f ∈ l, f < 2 ^ m) (hs : s < 2 ^ m) : maxL (divFam l s (2 ^ m)) = maxL (divAll l s (2 ^ m)).contains := by
  have hm64 : 2 ^ m ≤ 64 := pow_le64 (by omega)
  have hv64 : 2 ^ m < 64 := Nat.lt_of_le_of_lt (Nat.pow_le_pow_right (n := 2) (by omega) hm) (by omega)
  have hs64 : s < 64 := by omega
  have hl64 : ∀ f ∈ l, f < 64 := fun f hf => by have := hl f hf; omega
  have hin : ∀ f ∈ l, ∀ x, x ∈ divL s (2 ^ m) f → (divAll l s (2 ^ m)).contains x = true := fun f hf x hx => by
    rw [List.contains_iff_mem]; exact List.mem_flatMap.2 ⟨f, hf, hx⟩
  refine maxL_eq (fun x hx hp => ?_) (fun x hx hp => ?_)
  · unfold divFam at hp
    rw [Bool.or_eq_true] at hp
    rcases hp with h | h
    · rw [Bool.and_eq_true, isFace_iff, Bool.not_eq_true'] at h
      obtain ⟨⟨f, hf, hxf⟩, hns⟩ := h
      by_cases hsf : sub s f = true
      · obtain ⟨i, hi, hxi⟩ := not_sub hns
        have hi6 := bit_low hs64 hi
        refine ⟨sdiff f (2 ^ i), sdiff_lt (hl64 f hf), hin f hf _ ?_, ?_⟩
        · unfold divL; rw [if_pos hsf]; exact mem_starL.2 ⟨i, hi6, hi, Or.inl rfl⟩
        · rw [sub_iff]
          intro j hj
          rw [sdiff_bit (hl64 f hf) hi6, sub_iff.1 hxf j hj]
          have : i ≠ j := fun e => by subst e; rw [hxi] at hj; cases hj
          simp [this]
      · exact ⟨f, hl64 f hf, hin f hf f (by unfold divL; rw [if_neg hsf]; simp), hxf⟩
    · obtain ⟨b, hb, h⟩ := List.any_eq_true.1 h
      obtain ⟨a, ha, h⟩ := List.any_eq_true.1 h
      rw [Bool.and_eq_true, bne_iff_ne, beq_iff_eq] at h
      obtain ⟨hne, rfl⟩ := h
      have hb := (mem_ord.1 hb).2
      have ha := (mem_ord.1 ha).2
      unfold linkB at hb
      rw [Bool.and_eq_true, beq_iff_eq, isFace_iff] at hb
      obtain ⟨h0, f, hf, hbf⟩ := hb
      have hns : sub s a = false := by
        cases h : sub s a with
        | false => rfl
        | true => exact absurd (sub_antisymm ha h) hne
      obtain ⟨i, hi, hai⟩ := not_sub hns
      have hi6 := bit_low hs64 hi
      have hsf : sub s f = true := sub_trans (sub_or_right b s) hbf
      refine ⟨sdiff f (2 ^ i) ||| 2 ^ m, or_lt64 (sdiff_lt (hl64 f hf)) hv64, hin f hf _ ?_, ?_⟩
      · unfold divL; rw [if_pos hsf]; exact mem_starL.2 ⟨i, hi6, hi, Or.inr rfl⟩
      · refine or_sub (or_sub (sub_or_right _ _) (sub_trans ?_ (sub_or_left _ _))) (sub_trans ?_ (sub_or_left _ _))
        · rw [sub_iff]
          intro j hj
          rw [sdiff_bit (hl64 f hf) hi6, sub_iff.1 hsf j (sub_iff.1 ha j hj)]
          have : i ≠ j := fun e => by subst e; rw [hai] at hj; cases hj
          simp [this]
        · rw [sub_iff]
          intro j hj
          rw [sdiff_bit (hl64 f hf) hi6, sub_iff.1 hbf j (by rw [Nat.testBit_or, hj]; rfl)]
          have : i ≠ j := fun e => by
            subst e
            have := disj_bit h0 i hj
            rw [hi] at this; cases this
          simp [this]
  · refine ⟨x, hx, ?_, sub_refl x⟩
    rw [List.contains_iff_mem] at hp
    obtain ⟨f, hf, hxf⟩ := List.mem_flatMap.1 hp
    unfold divFam
    rw [Bool.or_eq_true]
    unfold divL at hxf
    by_cases hsf : sub s f = true
    · rw [if_pos hsf] at hxf
      obtain ⟨i, hi6, hi, hx'⟩ := mem_starL.1 hxf
      rcases hx' with rfl | rfl
      · left
        rw [Bool.and_eq_true, isFace_iff, Bool.not_eq_true']
        refine ⟨⟨f, hf, sub_iff.2 fun j hj => ?_⟩, ?_⟩
        · rw [sdiff_bit (hl64 f hf) hi6] at hj; simp at hj; exact hj.1
        · cases h : sub s (sdiff f (2 ^ i)) with
          | false => rfl
          | true =>
            have := sub_iff.1 h i hi
            rw [sdiff_bit (hl64 f hf) hi6] at this
            simp at this
      · right
        refine List.any_eq_true.2 ⟨sdiff f s, mem_ord.2 ⟨sdiff_lt (hl64 f hf), link_in hl64 hs64 (mem_linkL.2 ⟨f, hf, hsf, rfl⟩) (sub_refl _)⟩, List.any_eq_true.2 ⟨sdiff s (2 ^ i), mem_ord.2 ⟨sdiff_lt hs64, ?_⟩, ?_⟩⟩
        · rw [sub_iff]; intro j hj; rw [sdiff_bit hs64 hi6] at hj; simp at hj; exact hj.1
        · rw [Bool.and_eq_true, bne_iff_ne, beq_iff_eq]
          refine ⟨fun e => ?_, ?_⟩
          · have := sdiff_bit (j := i) hs64 hi6
            rw [e, hi] at this; simp at this
          · apply Nat.eq_of_testBit_eq
            intro j
            rw [Nat.testBit_or, Nat.testBit_or, Nat.testBit_or, sdiff_bit (hl64 f hf) hi6, sdiff_bit hs64 hi6, sdiff_testBit (hl64 f hf) hs64]
            have h1 := sub_iff.1 hsf j
            cases hfj : f.testBit j <;> cases hsj : s.testBit j <;> by_cases hij : i = j <;> simp_all
    · rw [if_neg hsf, List.mem_singleton] at hxf
      subst hxf
      left
      rw [Bool.and_eq_true, isFace_iff, Bool.not_eq_true']
      exact ⟨⟨x, hf, sub_refl x⟩, by simpa using hsf⟩
end Go.Proofs.YtihfhfihladlcaaGreatDoor

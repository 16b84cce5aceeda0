/- Contracts of TopNumbers, the program's and the reference's. The program returns the front of its row of h numbers: a row of which only the front is handed out. -/
import Derived.Test.YtpoolkmcbeghjaaCore
import Derived.Test.YtpoolkmcbeghjaaHNum2
import Derived.Test.YtpoolkmcbeghjaaHelp
namespace Go.Proofs.Ytpoolkmcbeghjaa
set_option maxRecDepth 20000
open Go.RowKit
set_option linter.unusedSimpArgs false
set_option linter.unusedVariables false

/-- the front of a row of the call's own -/
def OwnP (T : Nat) (w : World) (B : Nat) (a : Option Addr) (n c : Nat) (xs : List Int) : Prop := ∃ N C ys, Own T w B a N C ys ∧ n ≤ N ∧ xs = ys.take n
theorem ownBlock_len (a : Option Addr) (n c n' c' : Nat) : (Value.slice a n c).ownBlock = (Value.slice a n' c').ownBlock := by cases a <;> rfl
theorem IntsAt.take {w : World} {a : Option Addr} {N n : Nat} {ys : List Int} (h : IntsAt w a N ys) (hn : n ≤ N) : IntsAt w a n (ys.take n) := by
  have hl := h.len
  refine ⟨by rw [List.length_take]; omega, by have := h.small; omega, fun h0 => ?_⟩
  obtain ⟨b, off, ha, hc⟩ := h.cells (by omega)
  refine ⟨b, off, ha, fun i hi => ?_⟩
  rw [hc i (by omega), nth_eq (by omega), nth_eq (by rw [List.length_take]; omega), List.getElem_take]
section
variable {T : Nat} {w w' : World} {B : Nat} {a : Option Addr} {n c : Nat} {xs : List Int}
theorem OwnP.lt (h : OwnP T w B a n c xs) : ∀ k, (Value.slice a n c).ownBlock = some k → B ≤ k ∧ k < w.heap.size := by
  obtain ⟨N, C, ys, ho, _, _⟩ := h
  intro k hk
  rw [ownBlock_len a n c N C] at hk
  exact ho.lt k hk
theorem OwnP.reads (h : OwnP T w B a n c xs) : IntsAt w a n xs := by
  obtain ⟨N, C, ys, ho, hn, rfl⟩ := h
  exact ho.reads.take hn
theorem OwnP.len (h : OwnP T w B a n c xs) : xs.length = n := h.reads.len
theorem OwnP.keep (h : OwnP T w B a n c xs) (hb : Below w.heap.size w w') : OwnP T w' B a n c xs := by
  obtain ⟨N, C, ys, ho, hn, he⟩ := h
  exact ⟨N, C, ys, ho.keep hb, hn, he⟩
theorem OwnP.mono {B' : Nat} (h : OwnP T w B a n c xs) (hB : B' ≤ B) : OwnP T w B' a n c xs := by
  obtain ⟨N, C, ys, ho, hn, he⟩ := h
  exact ⟨N, C, ys, ho.mono hB, hn, he⟩
theorem OwnP.grownNe {row : Option Nat} (h : OwnP T w B a n c xs) (hg : w.grownBy w' row) (hne : ∀ k, row = some k → ∀ k2, (Value.slice a n c).ownBlock = some k2 → k2 ≠ k) : OwnP T w' B a n c xs := by
  obtain ⟨N, C, ys, ho, hn, he⟩ := h
  exact ⟨N, C, ys, ho.grownNe hg (fun k hk k2 hk2 => hne k hk k2 (by rw [ownBlock_len a n c N C]; exact hk2)), hn, he⟩
end
def RetIntsP (w : World) (xs : List Int) (e : Ending) (w' : World) : Prop :=
  ∃ ad n c, e = .returned (.slice ad n c) ∧ OwnP 3 w' w.heap.size ad n c xs ∧ Below w.heap.size w w'

/-- the front marked up to k -/
def front (ys : List Int) (s k : Nat) : List Int := marks s k ++ ys.drop k
theorem frontZero (ys : List Int) (s : Nat) : front ys s 0 = ys := by simp [front, marks]
theorem frontSucc {ys : List Int} {s k : Nat} (hk : k < ys.length) : (front ys s k).set k ((s + k : Nat) : Int) = front ys s (k + 1) := by
  unfold front
  have hm : marks s (k + 1) = marks s k ++ [((s + k : Nat) : Int)] := by unfold marks; rw [List.range_succ, List.map_append]; rfl
  rw [hm, List.drop_eq_getElem_cons hk, List.set_append_right _ _ (by rw [marks_len]; omega), marks_len, Nat.sub_self, List.set_cons_zero, List.append_assoc]
  rfl
theorem frontTake {ys : List Int} {s n : Nat} : (front ys s n).take n = marks s n := by
  unfold front
  have : n = (marks s n).length := by rw [marks_len]
  conv => lhs; arg 1; rw [this]
  rw [List.take_left']
  rw [marks_len]
set_option maxHeartbeats 400000 in
theorem markIntP_any (B : Nat) (a : Option Addr) (n c s : Nat) (xs : List Int) (w : World) (h : OwnP 3 w B a n c xs) (hs : s ≤ 1099511627776) (hm : n ≤ 1099511627776) :
    Calls Try.prog 57 #[.slice a n c, .int .i64 s] w fun e w' => e = .returned (.int .i64 ((s + n : Nat) : Int)) ∧ OwnP 3 w' B a n c (marks s n) ∧ w.grownBy w' (Value.slice a n c).ownBlock := by
  obtain ⟨N, C, ys, ho, hn, rfl⟩ := h
  have hyl := ho.len
  have Hyl := Lib.hid hyl
  have Hh := Lib.hid ho
  have Hn := Lib.hid hn
  clear ho hn hyl
  go_enter Try.func57, Try.ntmps57
  go_wp2
  go_loopw [1, 5] (fun q i wr => ∃ k : Nat, k ≤ n ∧ i = .int .i64 k ∧ q = .int .i64 ((s + k : Nat) : Int) ∧ w.grownBy wr (Value.slice a n c).ownBlock ∧ Own 3 wr B a N C (front ys s k)) (fun _ i _ => n - (intOf i).toNat)
  case atStart => exact ⟨0, Nat.zero_le _, rfl, rfl, World.grownBy.refl _ _, by rw [frontZero]; exact Hh.out⟩
  case round =>
    obtain ⟨k, hk, rfl, rfl, hg, hr⟩ := hrel
    by_cases hlt : k < n
    · have hN := Hn.out
      obtain ⟨g, rfl, hB, hgl, hcell, hfr⟩ := Row.cells hr (by omega)
      have hc1 := hcell k (by omega)
      have hf1 := hfr k
      obtain ⟨old, hold⟩ : ∃ old, wr.cell? ⟨g, k, none⟩ = some old := by
        rw [hc1, List.getElem?_eq_getElem (by rw [Row.len hr]; omega)]; exact ⟨_, rfl⟩
      clear hcell hfr hc1 hN
      go_wp2
      go_roundw
      case rel =>
        refine ⟨k + 1, by omega, by go_num, by go_num, ?_, ?_⟩
        · exact ⟨hg.os, hg.tape, hg.output, by simpa using hg.size, fun j hj hne => (Below.heap_setCell _ _ _ _ (fun e => hne (by rw [e]; rfl))).trans (hg.block j hj hne)⟩
        · rw [← frontSucc (by rw [Hyl.out]; have := Hn.out; omega)]
          have := hr.set k ((s + k : Nat) : Int)
          simpa using this
      case measure => simp [intOf]; omega
    · obtain rfl : k = n := by omega
      go_wp2
      go_ret
      exact ⟨rfl, ⟨N, C, _, hr, Hn.out, frontTake.symm⟩, hg⟩

/-- without the zeros at the end, but one number at least -/
def topN (h : List Int) : Nat → Nat
  | 0 => 0
  | 1 => 1
  | n + 2 => if nth h (n + 1) = 0 then topN h (n + 1) else n + 2
theorem topN_le (h : List Int) : ∀ n, topN h n ≤ n := by
  intro n
  induction n with
  | zero => exact Nat.le_refl _
  | succ n ih =>
    cases n with
    | zero => exact Nat.le_refl _
    | succ n => unfold topN; split <;> omega
theorem topN_cut {h : List Int} {n q : Nat} (hn : 1 < n) (hq : q + 1 = n) (h0 : nth h q = 0) : topN h n = topN h q := by
  obtain ⟨m, rfl⟩ : ∃ m, n = m + 2 := ⟨n - 2, by omega⟩
  obtain rfl : q = m + 1 := by omega
  conv => lhs; unfold topN
  rw [if_pos h0]
theorem topN_stay {h : List Int} {n q : Nat} (hn : 1 < n) (hq : q + 1 = n) (h0 : nth h q ≠ 0) : topN h n = n := by
  obtain ⟨m, rfl⟩ : ∃ m, n = m + 2 := ⟨n - 2, by omega⟩
  obtain rfl : q = m + 1 := by omega
  conv => lhs; unfold topN
  rw [if_neg h0]
theorem topN_low {h : List Int} {n : Nat} (hn : n ≤ 1) : topN h n = n := by
  have : n = 0 ∨ n = 1 := by omega
  rcases this with rfl | rfl <;> rfl
/-- what TopNumbers returns -/
def topOf (h : List Int) : List Int := h.take (topN h h.length)
set_option maxHeartbeats 1000000 in
theorem iTop_any (p : Int) (a : Option Addr) (n c : Nat) (xs : List Int) (f : List Nat) (w : World) (h : IntsAt w a n xs) (hcap : n ≤ c) (hC : Cnts p xs f) :
    Calls Try.prog 16 #[.agg #[.int .i64 p, .slice a n c]] w (RetIntsP w (topOf (hOf f))) := by
  have hx : IntsAt (w.alloc (.cells #[.int .i64 p, .slice a n c] 33)) a n xs := h.keep (by repeat (first | exact Below.refl _ _ | assumption | refine Below.setCell ?_ (by first | omega | (simp; done) | (simp; omega)) _ | refine Below.alloc ?_ (by first | omega | (simp; done) | (simp; omega)) _ | apply Below.drew))
  have Hx := Lib.hid hx; have Hcap := Lib.hid hcap; have HC := Lib.hid hC
  have h7 : (hOf f).length ≤ 7 := by rw [hOf_len]; exact hC.len
  obtain ⟨hs, hhs⟩ : ∃ hs, hs = hOf f := ⟨_, rfl⟩
  have Hhs := Lib.hid hhs
  rw [← hhs] at h7 ⊢
  have H7 := Lib.hid h7
  clear hx h hcap hC hhs h7
  go_enter Try.func16, Try.ntmps16
  go_wp2_with fail
  refine (iH_any p a n c xs f _ Hx.out Hcap.out HC.out).mono ?_
  rw [← Hhs.out]
  rintro e w1 ⟨ad, k, d, rfl, hown, hb⟩
  have HB : Hid (Below w.heap.size w w1) := Lib.hid (Below.trans (by repeat (first | exact Below.refl _ _ | assumption | refine Below.setCell ?_ (by first | omega | (simp; done) | (simp; omega)) _ | refine Below.alloc ?_ (by first | omega | (simp; done) | (simp; omega)) _ | apply Below.drew)) (hb.mono (by simp <;> omega)))
  have HO : Hid (Own 3 w1 w.heap.size ad k d hs) := Lib.hid (hown.mono (by simp))
  have hkl := hown.len
  have hkd := hown.cap
  have Hkl := Lib.hid hkl
  have hk7 : k ≤ 7 := by have := H7.out; omega
  clear hb hown hkl
  go_wp2_with fail
  go_loop [4] (fun v => ∃ N : Nat, N ≤ k ∧ v = .int .i64 N ∧ Hid (topN hs N = topN hs k)) (fun v => (intOf v).toNat)
  case atStart => exact ⟨k, Nat.le_refl _, rfl, Lib.hid rfl⟩
  case round =>
    obtain ⟨N, hN, rfl, htop⟩ := hrel
    by_cases h1 : 1 < N
    · obtain ⟨b1, o1, rfl, hc⟩ := HO.out.reads.cells (by omega)
      obtain ⟨q, hq⟩ : ∃ q, q = N - 1 := ⟨_, rfl⟩
      have hqi : (N : Int) - 1 = (q : Int) := by omega
      have hck := hc q (by omega)
      obtain ⟨x, hxe⟩ : ∃ x, x = nth hs q := ⟨_, rfl⟩
      rw [← hxe] at hck
      have Hxe := Lib.hid hxe; have Hq : Hid (q + 1 = N) := Lib.hid (by omega)
      have H1 := Lib.hid h1
      have h1i : (1 : Int) < N := by omega
      have hq0 : (0 : Int) ≤ q := by omega
      have hqk : (q : Int) < k := by omega
      have hqN : q < N := by omega
      clear hc hq hxe
      by_cases hz : x = 0
      · have hzb : (x == 0) = true := by simp [hz]
        have Hz := Lib.hid hz; clear hz
        go_wp2_with fail
        go_round
        case rel => exact ⟨q, by omega, by go_num, Lib.hid (by rw [← topN_cut H1.out Hq.out (by rw [← Hxe.out]; exact Hz.out)]; exact htop.out)⟩
        case measure => simp [intOf]; omega
      · have hzb : (x == 0) = false := by simp [hz]
        have HN : Hid (topN hs k = N) := Lib.hid (by rw [← htop.out]; exact topN_stay H1.out Hq.out (by rw [← Hxe.out]; exact hz))
        clear hz
        have hNd : (N : Int) ≤ d := by omega
        have hN0 : (0 : Int) ≤ N := by omega
        go_wp2_with fail
        go_ret
        exact ⟨_, N, N, rfl, ⟨k, d, hs, HO.out, hN, by unfold topOf; rw [Hkl.out, HN.out]⟩, HB.out⟩
    · have HN : Hid (topN hs k = N) := Lib.hid (by rw [← htop.out]; exact topN_low (by omega))
      have h1i : ¬ ((1 : Int) < N) := by omega
      have hNd : (N : Int) ≤ d := by omega
      have hN0 : (0 : Int) ≤ N := by omega
      go_wp2_with fail
      go_ret
      exact ⟨_, N, N, rfl, ⟨k, d, hs, HO.out, hN, by unfold topOf; rw [Hkl.out, HN.out]⟩, HB.out⟩
set_option maxHeartbeats 1000000 in
theorem sTop_any (p : Int) (a : Option Addr) (n c : Nat) (xs : List Int) (f : List Nat) (w : World) (h : IntsAt w a n xs) (hC : Cnts p xs f) :
    Calls Try.prog 23 #[.agg #[.int .i64 p, .slice a n c]] w (RetInts w (topOf (hOf f))) := by
  have hx : IntsAt (w.alloc (.cells #[.int .i64 p, .slice a n c] 33)) a n xs := h.keep (by repeat (first | exact Below.refl _ _ | assumption | refine Below.setCell ?_ (by first | omega | (simp; done) | (simp; omega)) _ | refine Below.alloc ?_ (by first | omega | (simp; done) | (simp; omega)) _ | apply Below.drew))
  have Hx := Lib.hid hx; have HC := Lib.hid hC
  have h7 : (hOf f).length ≤ 7 := by rw [hOf_len]; exact hC.len
  obtain ⟨hs, hhs⟩ : ∃ hs, hs = hOf f := ⟨_, rfl⟩
  have Hhs := Lib.hid hhs
  rw [← hhs] at h7 ⊢
  have H7 := Lib.hid h7
  clear hx h hC hhs h7
  go_enter Try.func23, Try.ntmps23
  go_wp2_with fail
  refine (sH_any p a n c xs f _ Hx.out HC.out).mono ?_
  rw [← Hhs.out]
  rintro e w1 ⟨ad, k, d, rfl, hown, hb⟩
  have HB : Hid (Below w.heap.size w w1) := Lib.hid (Below.trans (by repeat (first | exact Below.refl _ _ | assumption | refine Below.setCell ?_ (by first | omega | (simp; done) | (simp; omega)) _ | refine Below.alloc ?_ (by first | omega | (simp; done) | (simp; omega)) _ | apply Below.drew)) (hb.mono (by simp <;> omega)))
  have HO : Hid (Own 3 w1 w.heap.size ad k d hs) := Lib.hid (hown.mono (by simp))
  have hkl := hown.len
  have hkd := hown.cap
  have Hkl := Lib.hid hkl
  have hk7 : k ≤ 7 := by have := H7.out; omega
  clear hb hown hkl
  go_wp2_with fail
  go_loop [3] (fun v => ∃ N : Nat, N ≤ k ∧ v = .slice ad N d ∧ Hid (topN hs N = topN hs k)) (fun v => match v with | .slice _ n _ => n | _ => 0)
  case atStart => exact ⟨k, Nat.le_refl _, rfl, Lib.hid rfl⟩
  case round =>
    obtain ⟨N, hN, rfl, htop⟩ := hrel
    by_cases h1 : 1 < N
    · obtain ⟨b1, hb1, _, _, _, _⟩ := Row.cells HO.out (by omega)
      subst hb1
      have hc := HO.out.reads.cellAt
      obtain ⟨q, hq⟩ : ∃ q, q = N - 1 := ⟨_, rfl⟩
      have hqi : (N : Int) - 1 = (q : Int) := by omega
      have hck := hc q (by omega)
      rw [Nat.zero_add] at hck
      obtain ⟨x, hxe⟩ : ∃ x, x = nth hs q := ⟨_, rfl⟩
      rw [← hxe] at hck
      have Hxe := Lib.hid hxe; have Hq : Hid (q + 1 = N) := Lib.hid (by omega)
      have H1 := Lib.hid h1
      have h1i : (1 : Int) < N := by omega
      have hq0 : (0 : Int) ≤ q := by omega
      have hqN : (q : Int) < N := by omega
      have hqd : (q : Int) ≤ d := by omega
      clear hc hq hxe
      by_cases hz : x = 0
      · have hzb : (x == 0) = true := by simp [hz]
        have Hz := Lib.hid hz; clear hz
        go_wp2_with fail
        go_round
        case rel => exact ⟨q, by omega, by first | rfl | go_num | simp, Lib.hid (by rw [← topN_cut H1.out Hq.out (by rw [← Hxe.out]; exact Hz.out)]; exact htop.out)⟩
        case measure => simp <;> omega
      · have hzb : (x == 0) = false := by simp [hz]
        have HN : Hid (topN hs k = N) := Lib.hid (by rw [← htop.out]; exact topN_stay H1.out Hq.out (by rw [← Hxe.out]; exact hz))
        clear hz
        have HE := Lib.hid (Own.empty 3 w1 w1.heap.size (Nat.le_refl _))
        have HI : Hid (IntsAt (w1.alloc (.cells #[] 3)) (some ⟨b1, 0, none⟩) N (hs.take N)) := Lib.hid ((HO.out.reads.take hN).keep (by repeat (first | exact Below.refl _ _ | assumption | refine Below.setCell ?_ (by first | omega | (simp; done) | (simp; omega)) _ | refine Below.alloc ?_ (by first | omega | (simp; done) | (simp; omega)) _ | apply Below.drew)))
        have HF : Hid (Fit (some ⟨b1, 0, none⟩) N d) := Lib.hid ⟨by omega, fun h => by cases h⟩
        go_wp2_with (at_builtin; refine list_ap rfl _ _ rfl w1.heap.size _ _ _ _ rfl HE.out _ _ _ _ rfl HI.out HF.out (by omega) (by simp) ?_; intro ad' d' w' hown' hb'; have HO3 := Lib.hid hown'; have HB3 := Lib.hid hb'; clear hown' hb')
        go_ret
        exact ⟨ad', _, d', rfl, by unfold topOf; rw [Hkl.out, HN.out]; have := HO3.out.mono HB.out.size; simpa using this, (HB.out.alloc HB.out.size _).trans (HB3.out.mono HB.out.size)⟩
    · have HN : Hid (topN hs k = N) := Lib.hid (by rw [← htop.out]; exact topN_low (by omega))
      have h1i : ¬ ((1 : Int) < N) := by omega
      have HE := Lib.hid (Own.empty 3 w1 w1.heap.size (Nat.le_refl _))
      have HI : Hid (IntsAt (w1.alloc (.cells #[] 3)) ad N (hs.take N)) := Lib.hid ((HO.out.reads.take hN).keep (by repeat (first | exact Below.refl _ _ | assumption | refine Below.setCell ?_ (by first | omega | (simp; done) | (simp; omega)) _ | refine Below.alloc ?_ (by first | omega | (simp; done) | (simp; omega)) _ | apply Below.drew)))
      have HF : Hid (Fit ad N d) := Lib.hid ⟨by omega, HO.out.fit.nil⟩
      go_wp2_with (at_builtin; refine list_ap rfl _ _ rfl w1.heap.size _ _ _ _ rfl HE.out _ _ _ _ rfl HI.out HF.out (by omega) (by simp) ?_; intro ad' d' w' hown' hb'; have HO3 := Lib.hid hown'; have HB3 := Lib.hid hb'; clear hown' hb')
      go_ret
      exact ⟨ad', _, d', rfl, by unfold topOf; rw [Hkl.out, HN.out]; have := HO3.out.mono HB.out.size; simpa using this, (HB.out.alloc HB.out.size _).trans (HB3.out.mono HB.out.size)⟩
end Go.Proofs.Ytpoolkmcbeghjaa

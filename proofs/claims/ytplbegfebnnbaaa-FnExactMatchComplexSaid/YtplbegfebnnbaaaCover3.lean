/- Contracts of CliqueComplex and MatchComplex, the program's and the reference's. -/
import Derived.Test.YtplbegfebnnbaaaIdeal3
import Derived.Test.YtplbegfebnnbaaaPickG
import Derived.Test.YtplbegfebnnbaaaChord2
namespace Go.Proofs.Ytplbegfebnnbaaa
open Go.RowKit
set_option linter.unusedSimpArgs false
set_option linter.unusedVariables false

/-! ### Cliques -/
theorem othL_eq (l : List Nat) (N : Nat) : othL l N = (List.range N).filter (othB l) := rfl
theorem clique_apart {l : List Nat} {m s : Nat} (hm : m ≤ 6) (hs : s < 64) (hl : ∀ t ∈ l, t < 64) (h2 : ∀ t ∈ l, sz t = 2) : (decide (s < 2 ^ m) && pairB (nbs l) s) = apart (othL l (2 ^ m)) (2 ^ m) s := by
  unfold apart
  by_cases h : s < 2 ^ m
  · have h1 : pairB (nbs l) s = true ↔ Joined l s := pairB_iff hs fun i hi _ j hj => nbs_pr hi hj hl h2
    have h3 := joined_iff (l := l) hm h
    rw [othL_eq]
    simp only [h, decide_true, Bool.true_and]
    rw [Bool.eq_iff_iff, h1, h3]
    simp
  · simp [h]

theorem cliqueFn_any (g t m : Nat) (a : Option Addr) (n c : Nat) (l : List Nat) (w : World) (hm : m ≤ 6) (ht : t < 2 ^ m) (hb : w.cell? ⟨g, 0, none⟩ = some (.slice a n c)) (h : IntsAt w a n (up (nbRow l m))) (hl : ∀ t ∈ l, t < 64) :
    Calls Try.prog 114 #[.int .i64 t, .pointer (some ⟨g, 0, none⟩)] w fun e w' => e = .returned (.bool (pairB (nbs l) t)) ∧ Below w.heap.size w w' := by
  have hn : n = m := by have := h.len; rw [up_len] at this; unfold nbRow at this; simpa using this.symm
  have ht64 : t < 64 := Nat.lt_of_lt_of_le ht (pow_le64 hm)
  have hrow : ∀ u ∈ nbRow l m, u < 64 := fun u hu => by
    unfold nbRow at hu
    obtain ⟨j, _, rfl⟩ := List.mem_map.1 hu
    rw [nbTo_all]; exact nbs_lt hl j
  obtain ⟨b, hb'⟩ : ∃ b, pairB (nthN (nbRow l m)) t = b := ⟨_, rfl⟩
  have hb2 : pairB (nbs l) t = b := by rw [← pairB_row ht]; exact hb'
  rw [hb2]
  have Hh := Lib.hid h; have Hrow := Lib.hid hrow; have Hb := Lib.hid hb'
  have hbit : ∀ i, i < 6 → t.testBit i = true → i < n := fun i _ h => by rw [hn]; exact bit_lt ht h
  have Hbit := Lib.hid hbit
  clear h hrow hb' hb2 hl hn hbit ht
  go_enter Try.func114, Try.ntmps114
  go_wp2_with fail
  refine (isPairwise_any t a n c _ _ Hh.out ht64 Hbit.out Hrow.out b Hb.out).mono ?_
  rintro e w1 ⟨rfl, hb⟩
  have HB := Lib.hid hb; clear hb
  go_wp2_with fail
  go_ret
  exact ⟨rfl, HB.out⟩
theorem iClique_no (p : Int) (a : Option Addr) (n c : Nat) (xs : List Int) (w : World) (h : IntsAt w a n xs) (hP : ¬ GraphP p xs) :
    Calls Try.prog 60 #[.agg #[.int .i64 p, .slice a n c]] w (RetBox2 w 0 [] false) := by
  have Hh := Lib.hid h; clear h
  have HP := Lib.hid hP; clear hP
  go_enter Try.func60, Try.ntmps60
  go_wp2_with fail
  refine (iIsGraph_any p a n c xs _ (Hh.out.keep (by repeat (first | exact Below.refl _ _ | assumption | refine Below.setCell ?_ (by first | omega | (simp; done) | (simp; omega)) _ | refine Below.alloc ?_ (by first | omega | (simp; done) | (simp; omega)) _ | apply Below.drew))) false (by simp [HP.out])).mono ?_
  rintro e w1 ⟨rfl, hb⟩
  obtain ⟨hc, hf⟩ := bcell hb
  have hz : w.heap.size + 2 ≤ w1.heap.size := by have := hb.size; simp at this; omega
  have hbl : Below w.heap.size w w1 := Below.trans (by repeat (first | exact Below.refl _ _ | assumption | refine Below.setCell ?_ (by first | omega | (simp; done) | (simp; omega)) _ | refine Below.alloc ?_ (by first | omega | (simp; done) | (simp; omega)) _ | apply Below.drew)) (hb.mono (by simp; omega))
  go_wp2_with fail
  refine bodyPost_ret (v := .tuple #[.agg #[.int .i64 0, .slice none 0 0], .bool false]) (by simp [results, Try.results60, go_sem, hc, hz]) rfl ⟨none, 0, 0, rfl, Own.nil _ _ _, (by repeat (first | exact Below.refl _ _ | assumption | refine Below.setCell ?_ (by first | omega | (simp; done) | (simp; omega)) _ | refine Below.alloc ?_ (by first | omega | (simp; done) | (simp; omega)) _ | apply Below.drew))⟩
set_option maxRecDepth 100000 in
set_option maxHeartbeats 2000000 in
theorem iClique_yes (m : Nat) (a : Option Addr) (n c : Nat) (l : List Nat) (w : World) (h : IntsAt w a n (up l)) (hP : GraphP m (up l)) (hl : ∀ t ∈ l, t < 64) (h2 : ∀ t ∈ l, sz t = 2) :
    Calls Try.prog 60 #[.agg #[.int .i64 m, .slice a n c]] w (RetBox2 w m (up (maxL (apart (othL l (2 ^ m)) (2 ^ m)))) true) := by
  have hm6 : m ≤ 6 := by have := hP.2.1; omega
  have HP := Lib.hid hP; clear hP
  have hx : IntsAt ((w.alloc (.cells #[.int .i64 m, .slice a n c] 30)).alloc (.cells #[.int .i64 0, .slice none 0 0] 27)) a n (up l) := h.keep (by repeat (first | exact Below.refl _ _ | assumption | refine Below.setCell ?_ (by first | omega | (simp; done) | (simp; omega)) _ | refine Below.alloc ?_ (by first | omega | (simp; done) | (simp; omega)) _ | apply Below.drew))
  have Hx := Lib.hid hx; clear hx h
  have hF := pickN_Fam (pairB (nbs l)) (2 ^ m)
  have hcong := maxL_congr (p := (pickN (pairB (nbs l)) (2 ^ m)).testBit) (q := apart (othL l (2 ^ m)) (2 ^ m)) (fun t ht => by rw [pickN_bit ht]; exact clique_apart hm6 ht hl h2)
  have Hl := Lib.hid hl; clear hl h2
  obtain ⟨F, hFe⟩ : ∃ F, F = pickN (pairB (nbs l)) (2 ^ m) := ⟨_, rfl⟩
  rw [← hFe] at hF hcong
  have HFe := Lib.hid hFe; have Hcong := Lib.hid hcong
  clear hFe hcong
  have xA := (BoxF.new w (.int .i64 m) (.slice a n c) 30).alloc (.cells #[.int .i64 0, .slice none 0 0] 27)
  have xR := BoxF.new (w.alloc (.cells #[.int .i64 m, .slice a n c] 30)) (.int .i64 0) (.slice none 0 0) 27
  have e2 : (w.alloc (.cells #[.int .i64 m, .slice a n c] 30)).heap.size = w.heap.size + 1 := by simp
  rw [e2] at xR
  have XR := Lib.hid xR; have XA := Lib.hid xA
  clear xA xR e2
  go_enter Try.func60, Try.ntmps60
  go_wp2_with fail
  refine (iIsGraph_any m a n c _ _ Hx.out true (by simp [HP.out])).mono ?_
  rintro e w1 ⟨rfl, hb⟩
  have HB : Hid (Below w.heap.size w w1) := Lib.hid (Below.trans (by repeat (first | exact Below.refl _ _ | assumption | refine Below.setCell ?_ (by first | omega | (simp; done) | (simp; omega)) _ | refine Below.alloc ?_ (by first | omega | (simp; done) | (simp; omega)) _ | apply Below.drew)) (hb.mono (by simp <;> omega)))
  have XR1 := Lib.hid (XR.out.keep hb (by simp))
  have XA1 := Lib.hid (XA.out.keep hb (by simp; omega))
  obtain ⟨p0, p1, _, _, _⟩ := XA1.out
  have hz : w.heap.size + 2 ≤ w1.heap.size := by have := hb.size; simp at this; omega
  have Hx1 := Lib.hid (Hx.out.keep hb)
  clear hb
  go_wp2_with fail
  refine (neighborsIn_any m a n c l _ Hx1.out hm6 Hl.out).mono ?_
  rintro e w2 ⟨ad, k, d, rfl, hown, hb⟩
  have HN : Hid (IntsAt w2 ad k (up (nbRow l m))) := Lib.hid hown.reads
  have XA2 := Lib.hid (XA1.out.keep hb (by omega)); have XR2 := Lib.hid (XR1.out.keep hb (by omega))
  have HB2 := Lib.hid (HB.out.trans (hb.mono HB.out.size))
  have hz2 : w.heap.size + 2 ≤ w2.heap.size := by have := hb.size; omega
  clear hb hown p0 p1
  have XA3 := Lib.hid (XA2.out.alloc (.cells #[.slice ad k d] 22)); have XR3 := Lib.hid (XR2.out.alloc (.cells #[.slice ad k d] 22))
  have HN3 := Lib.hid (HN.out.keep (w' := w2.alloc (.cells #[.slice ad k d] 22)) (by repeat (first | exact Below.refl _ _ | assumption | refine Below.setCell ?_ (by first | omega | (simp; done) | (simp; omega)) _ | refine Below.alloc ?_ (by first | omega | (simp; done) | (simp; omega)) _ | apply Below.drew)))
  have hcell : (w2.alloc (.cells #[.slice ad k d] 22)).cell? ⟨w2.heap.size, 0, none⟩ = some (.slice ad k d) := by simp
  have Hcell := Lib.hid hcell
  clear hcell
  obtain ⟨p0, p1, _, _, _⟩ := XA2.out
  go_wp2_with fail
  refine (pickSets_grow 114 #[.pointer (some ⟨w2.heap.size, 0, none⟩)] (pairB (nbs l)) m _ hm6 (fun _ _ => rfl) (fun t ht W hW => cliqueFn_any w2.heap.size t m ad k d l W hm6 ht ((hW.cell (by simp)).trans Hcell.out) (HN3.out.keep hW) Hl.out)).mono ?_
  rw [← HFe.out]
  rintro e w3 ⟨rfl, hb⟩
  have HB3 := Lib.hid (((HB2.out.alloc HB2.out.size (.cells #[.slice ad k d] 22)).trans (hb.mono (by simp; omega))))
  have XA4 := Lib.hid (XA3.out.keep hb (by simp; omega)); have XR4 := Lib.hid (XR3.out.keep hb (by simp; omega))
  have hz3 : w.heap.size + 2 ≤ w3.heap.size := by have := hb.size; simp at this; omega
  clear hb p0 p1
  obtain ⟨p0, p1, _, _, _⟩ := XA4.out
  go_wp2_with fail
  refine (complexOf_any m F _ hF).mono ?_
  rw [Hcong.out]
  rintro e w5 ⟨ad5, d5, r5, rfl, hown, hb5⟩
  have XR5 := Lib.hid (XR4.out.keep hb5 (by omega))
  have HO5 := Lib.hid hown; have HB5 := Lib.hid hb5
  obtain ⟨r0, r1, _, _, _⟩ := XR5.out
  clear hown hb5
  go_wp2_with fail
  refine bodyPost_ret (v := .tuple #[.agg #[.int .i64 m, .slice ad5 d5 r5], .bool true]) (by simp [results, Try.results60, go_sem, r0, r1]) rfl ⟨ad5, d5, r5, rfl, ?_, ?_⟩
  · exact ((HO5.out.setBelow _ (by first | omega | (simp; omega))).setBelow _ (by first | omega | (simp; omega))).mono (by omega)
  · have := HB3.out.size
    exact (((HB3.out.trans (HB5.out.mono (by omega))).setCell (by first | (simp; done) | (simp; omega)) _).setCell (by first | (simp; done) | (simp; omega)) _)

theorem sClique_no (p : Int) (a : Option Addr) (n c : Nat) (xs : List Int) (w : World) (h : IntsAt w a n xs) (hP : ¬ GraphP p xs) :
    Calls Try.prog 59 #[.agg #[.int .i64 p, .slice a n c]] w (RetBox2 w 0 [] false) := by
  have Hh := Lib.hid h; clear h
  have HP := Lib.hid hP; clear hP
  have xR := BoxF.new (w.alloc (.cells #[.int .i64 p, .slice a n c] 30)) (.int .i64 0) (.slice none 0 0) 27
  have XR := Lib.hid xR; clear xR
  go_enter Try.func59, Try.ntmps59
  go_wp2_with fail
  refine (sOther_no p a n c xs _ (Hh.out.keep (by repeat (first | exact Below.refl _ _ | assumption | refine Below.setCell ?_ (by first | omega | (simp; done) | (simp; omega)) _ | refine Below.alloc ?_ (by first | omega | (simp; done) | (simp; omega)) _ | apply Below.drew))) HP.out).mono ?_
  rintro e w1 ⟨ad, m, d, rfl, hown, hb⟩
  clear hown
  have xR := (XR.out.keep hb (by simp)).alloc (.cells #[.int .i64 0, .slice ad m d] 30)
  have hbl : Below w.heap.size w w1 := Below.trans (by repeat (first | exact Below.refl _ _ | assumption | refine Below.setCell ?_ (by first | omega | (simp; done) | (simp; omega)) _ | refine Below.alloc ?_ (by first | omega | (simp; done) | (simp; omega)) _ | apply Below.drew)) (hb.mono (by simp; omega))
  have hz : w.heap.size + 2 ≤ w1.heap.size := by have := hb.size; simp at this; omega
  obtain ⟨r0, r1, f0, f1, _⟩ := xR
  simp at r0 r1 f0 f1
  clear hb
  go_wp2_with fail
  refine bodyPost_ret (v := .tuple #[.agg #[.int .i64 0, .slice none 0 0], .bool false]) (by simp [results, Try.results59, go_sem, r0, r1]) rfl ⟨none, 0, 0, rfl, Own.nil _ _ _, (by repeat (first | exact Below.refl _ _ | assumption | refine Below.setCell ?_ (by first | omega | (simp; done) | (simp; omega)) _ | refine Below.alloc ?_ (by first | omega | (simp; done) | (simp; omega)) _ | apply Below.drew))⟩
set_option maxRecDepth 100000 in
set_option maxHeartbeats 1000000 in
theorem sClique_yes (m : Nat) (a : Option Addr) (n c : Nat) (l : List Nat) (w : World) (h : IntsAt w a n (up l)) (hP : GraphP m (up l)) :
    Calls Try.prog 59 #[.agg #[.int .i64 m, .slice a n c]] w (RetBox2 w m (up (maxL (apart (othL l (2 ^ m)) (2 ^ m)))) true) := by
  have hm6 : m ≤ 6 := by have := hP.2.1; omega
  have Hh := Lib.hid h; clear h
  have HP := Lib.hid hP; clear hP
  have xR := BoxF.new (w.alloc (.cells #[.int .i64 m, .slice a n c] 30)) (.int .i64 0) (.slice none 0 0) 27
  have e2 : (w.alloc (.cells #[.int .i64 m, .slice a n c] 30)).heap.size = w.heap.size + 1 := by simp
  rw [e2] at xR
  have XR := Lib.hid xR; clear xR e2
  obtain ⟨O, hO⟩ : ∃ O, O = othL l (2 ^ m) := ⟨_, rfl⟩
  rw [← hO]
  have hO64 : ∀ t ∈ O, t < 64 := fun t ht => by
    rw [hO] at ht
    have := List.mem_range.1 (List.mem_filter.1 ht).1
    have := pow_le64 hm6
    omega
  have HO64 := Lib.hid hO64; have HOe := Lib.hid hO
  clear hO hO64
  go_enter Try.func59, Try.ntmps59
  go_wp2_with fail
  refine (sOther_yes m a n c l _ (Hh.out.keep (by repeat (first | exact Below.refl _ _ | assumption | refine Below.setCell ?_ (by first | omega | (simp; done) | (simp; omega)) _ | refine Below.alloc ?_ (by first | omega | (simp; done) | (simp; omega)) _ | apply Below.drew))) HP.out).mono ?_
  rw [← HOe.out]
  rintro e w1 ⟨ad, k, d, rfl, hown, hb⟩
  have xR := (XR.out.keep hb (by simp)).alloc (.cells #[.int .i64 m, .slice ad k d] 30)
  have XR1 := Lib.hid xR
  have HO1 := Lib.hid (hown.reads.keep (w' := w1.alloc (.cells #[.int .i64 m, .slice ad k d] 30)) (by repeat (first | exact Below.refl _ _ | assumption | refine Below.setCell ?_ (by first | omega | (simp; done) | (simp; omega)) _ | refine Below.alloc ?_ (by first | omega | (simp; done) | (simp; omega)) _ | apply Below.drew)))
  have hbl : Below w.heap.size w w1 := Below.trans (by repeat (first | exact Below.refl _ _ | assumption | refine Below.setCell ?_ (by first | omega | (simp; done) | (simp; omega)) _ | refine Below.alloc ?_ (by first | omega | (simp; done) | (simp; omega)) _ | apply Below.drew)) (hb.mono (by simp; omega))
  have HB1 := Lib.hid (hbl.alloc hbl.size (.cells #[.int .i64 m, .slice ad k d] 30))
  have hz : w.heap.size + 2 ≤ w1.heap.size := by have := hb.size; simp at this; omega
  clear hb hown hbl xR
  go_wp2_with fail
  refine (l7From_any m ad k d O _ HO1.out hm6 HO64.out).mono ?_
  rintro e w5 ⟨ad5, d5, r5, rfl, hown, hb5⟩
  have XR5 := Lib.hid (XR1.out.keep hb5 (by simp; omega))
  have HO5 := Lib.hid (hown.mono (show w.heap.size + 2 ≤ _ by simp; omega)); have HB5 := Lib.hid (HB1.out.trans (hb5.mono HB1.out.size))
  obtain ⟨r0, r1, _, _, _⟩ := XR5.out
  clear hown hb5
  go_wp2_with fail
  refine bodyPost_ret (v := .tuple #[.agg #[.int .i64 m, .slice ad5 d5 r5], .bool true]) (by simp [results, Try.results59, go_sem, r0, r1]) rfl ⟨ad5, d5, r5, rfl, ?_, ?_⟩
  · exact ((HO5.out.setBelow _ (by first | omega | (simp; omega))).setBelow _ (by first | omega | (simp; omega))).mono (by omega)
  · exact ((HB5.out.setCell (by first | (simp; done) | (simp; omega)) _).setCell (by first | (simp; done) | (simp; omega)) _)
end Go.Proofs.Ytplbegfebnnbaaa

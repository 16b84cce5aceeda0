/- Contracts of MatchComplex, the program's and the reference's. -/
import Derived.Test.YtplbegfebnnbaaaCover3
import Derived.Test.YtplbegfebnnbaaaStep
namespace Go.Proofs.Ytplbegfebnnbaaa
open Go.RowKit
set_option linter.unusedSimpArgs false
set_option linter.unusedVariables false

/-- no two edges of the set share a point -/
def MatchP (l : List Nat) (s : Nat) : Prop := (pts s).Pairwise fun i j => nthN l i &&& nthN l j = 0
/-- the pairs of edges that share a point, the larger one below I -/
def clash (l : List Nat) (I : Nat) : List Nat := (List.range I).flatMap fun i => ((List.range i).filter fun k => nthN l i &&& nthN l k != 0).map fun k => pr i k
/-- .. and those of I with the edges below K -/
def clashTo (l : List Nat) (I K : Nat) : List Nat := clash l I ++ ((List.range K).filter fun k => nthN l I &&& nthN l k != 0).map fun k => pr I k
theorem clashTo_zero (l : List Nat) (I : Nat) : clashTo l I 0 = clash l I := by unfold clashTo; simp
theorem clashTo_next (l : List Nat) (I : Nat) : clashTo l I I = clash l (I + 1) := by unfold clashTo clash; rw [List.range_succ, List.flatMap_append]; simp
theorem clashTo_yes {l : List Nat} {I K : Nat} (h : (nthN l I &&& nthN l K != 0) = true) : clashTo l I (K + 1) = clashTo l I K ++ [pr I K] := by
  unfold clashTo; rw [List.range_succ, List.filter_append, List.map_append, List.append_assoc]; simp [h]
theorem clashTo_no {l : List Nat} {I K : Nat} (h : (nthN l I &&& nthN l K != 0) = false) : clashTo l I (K + 1) = clashTo l I K := by
  unfold clashTo; rw [List.range_succ, List.filter_append, List.map_append]; simp [h]
theorem mem_clash {l : List Nat} {I x : Nat} : x ∈ clash l I ↔ ∃ i, i < I ∧ ∃ k, k < i ∧ nthN l i &&& nthN l k ≠ 0 ∧ x = pr i k := by
  unfold clash
  simp only [List.mem_flatMap, List.mem_range, List.mem_map, List.mem_filter, bne_iff_ne, ne_eq]
  constructor
  · rintro ⟨i, hi, k, ⟨hk, h⟩, rfl⟩; exact ⟨i, hi, k, hk, h, rfl⟩
  · rintro ⟨i, hi, k, hk, h, rfl⟩; exact ⟨i, hi, k, ⟨hk, h⟩, rfl⟩
theorem pts_sorted (s : Nat) : (pts s).Pairwise (· < ·) := by
  unfold pts ptsTo; exact List.Pairwise.filter _ List.pairwise_lt_range
theorem pairwise_all {R : Nat → Nat → Prop} (hsym : ∀ a b, R a b → R b a) : ∀ {l : List Nat}, l.Pairwise R → ∀ a ∈ l, ∀ b ∈ l, a ≠ b → R a b := by
  intro l
  induction l with
  | nil => intro _ a ha; cases ha
  | cons x l ih =>
    intro h a ha b hb hab
    rw [List.pairwise_cons] at h
    rcases List.mem_cons.1 ha with rfl | ha'
    · rcases List.mem_cons.1 hb with rfl | hb'
      · exact absurd rfl hab
      · exact h.1 b hb'
    · rcases List.mem_cons.1 hb with rfl | hb'
      · exact hsym _ _ (h.1 a ha')
      · exact ih h.2 a ha' b hb' hab
theorem match_clash {l : List Nat} {n s : Nat} (hn : n ≤ 6) (hs : s < 2 ^ n) : MatchP l s ↔ (clash l n).any (sub · s) = false := by
  rw [List.any_eq_false]
  constructor
  · intro h x hx hsub
    obtain ⟨i, hi, k, hk, hne, rfl⟩ := mem_clash.1 hx
    rw [pr_sub] at hsub
    exact hne (pairwise_all (R := fun i j => nthN l i &&& nthN l j = 0) (fun a b h => by rw [Nat.and_comm]; exact h) h i (mem_pts.2 ⟨by omega, hsub.1⟩) k (mem_pts.2 ⟨by omega, hsub.2⟩) (by omega))
  · intro h
    unfold MatchP
    refine List.Pairwise.imp_of_mem ?_ (pts_sorted s)
    intro i j hi hj hij
    have hin := bit_lt hs (mem_pts.1 hj).2
    by_cases e : nthN l i &&& nthN l j = 0
    · exact e
    · exact absurd (pr_sub.2 ⟨(mem_pts.1 hj).2, (mem_pts.1 hi).2⟩) (by
        have := h (pr j i) (mem_clash.2 ⟨j, hin, i, hij, by rw [Nat.and_comm]; exact e, rfl⟩)
        simpa using this)
theorem clash_lt {l : List Nat} {n : Nat} (hn : n ≤ 6) : ∀ t ∈ clash l n, t < 64 := fun t ht => by
  obtain ⟨i, hi, k, hk, _, rfl⟩ := mem_clash.1 ht
  exact pr_lt (by omega) (by omega)
/-- the points so far are apart from the next one -/
theorem or_zero {x a b : Nat} : x &&& (a ||| b) = 0 ↔ x &&& a = 0 ∧ x &&& b = 0 := by
  rw [Nat.and_or_distrib_left, Nat.or_eq_zero_iff]
theorem match_step {l P : List Nat} {k U : Nat} (hk : k < P.length) (hp : (P.take k).Pairwise fun i j => nthN l i &&& nthN l j = 0) (hU : ∀ x, x &&& U = 0 ↔ ∀ i ∈ P.take k, x &&& nthN l i = 0) (h : nthN l (nthN P k) &&& U = 0) :
    (P.take (k + 1)).Pairwise fun i j => nthN l i &&& nthN l j = 0 := by
  rw [nthN_take P k hk, List.pairwise_append]
  refine ⟨hp, List.pairwise_singleton _ _, fun a ha b hb => ?_⟩
  rw [List.mem_singleton] at hb
  subst hb
  rw [Nat.and_comm]
  exact (hU _).1 h a ha
theorem match_used {l P : List Nat} {k U : Nat} (hk : k < P.length) (hU : ∀ x, x &&& U = 0 ↔ ∀ i ∈ P.take k, x &&& nthN l i = 0) :
    ∀ x, x &&& (U ||| nthN l (nthN P k)) = 0 ↔ ∀ i ∈ P.take (k + 1), x &&& nthN l i = 0 := fun x => by
  rw [or_zero, hU x, nthN_take P k hk]
  constructor
  · rintro ⟨h1, h2⟩ i hi
    rcases List.mem_append.1 hi with h | h
    · exact h1 i h
    · rw [List.mem_singleton.1 h]; exact h2
  · intro h
    exact ⟨fun i hi => h i (List.mem_append_left _ hi), h _ (List.mem_append_right _ (by simp))⟩
theorem match_stop {l P : List Nat} {k U : Nat} (hk : k < P.length) (hU : ∀ x, x &&& U = 0 ↔ ∀ i ∈ P.take k, x &&& nthN l i = 0) (h : nthN l (nthN P k) &&& U ≠ 0) :
    ¬ P.Pairwise fun i j => nthN l i &&& nthN l j = 0 := fun hp => by
  apply h
  rw [hU]
  intro i hi
  have e : P = P.take k ++ P.drop k := (List.take_append_drop k P).symm
  rw [e, List.pairwise_append] at hp
  rw [Nat.and_comm]
  refine hp.2.2 i hi _ ?_
  rw [List.mem_iff_getElem]
  exact ⟨0, by simp; omega, by simp [nthN_eq hk]⟩

theorem matchFn_any (p : Int) (g s : Nat) (a : Option Addr) (n c : Nat) (l : List Nat) (w : World) (hn6 : n ≤ 6) (hs : s < 2 ^ n) (hb : BoxF w g (.int .i64 p) (.slice a n c)) (h : IntsAt w a n (up l)) (hl : ∀ t ∈ l, t < 64) (b : Bool) (hbb : b = true ↔ MatchP l s) :
    Calls Try.prog 70 #[.int .i64 s, .pointer (some ⟨g, 0, none⟩)] w fun e w' => e = .returned (.bool b) ∧ Below w.heap.size w w' := by
  have hs64 : s < 64 := Nat.lt_of_lt_of_le hs (pow_le64 hn6)
  have hlen : l.length = n := by rw [← h.len, up_len]
  have Hlen := Lib.hid hlen; have Hs := Lib.hid hs
  have Hx := Lib.hid h; have Hl := Lib.hid hl; have XG := Lib.hid hb; have Hb := Lib.hid hbb
  obtain ⟨c0, c1, _, _, hgl⟩ := hb
  clear hlen hs h hl hbb
  go_enter Try.func70, Try.ntmps70
  go_wp2_with fail
  refine (PointsOf_any s _ hs64).mono ?_
  rintro e w1 ⟨ad, m, d, rfl, hown, hb⟩
  have HB := Lib.hid hb
  have Hx1 := Lib.hid (Hx.out.keep hb)
  have XG1 := Lib.hid (XG.out.keep hb hgl)
  obtain ⟨P, hP⟩ : ∃ P, P = pts s := ⟨_, rfl⟩
  rw [← hP] at hown
  have HP := Lib.hid hP
  have HO := Lib.hid hown
  have hPl : P.length = m := by have := hown.len; rwa [up_len] at this
  have hm6 : m ≤ 6 := by rw [← hPl, hP]; exact ptsTo_len _ _
  have HPl := Lib.hid hPl
  clear hb hown hP hPl c0 c1
  obtain ⟨c0, c1, _, _, _⟩ := XG1.out
  go_wp2_with fail
  go_loop [4, 6, 10] (fun u _ i => ∃ k U : Nat, k ≤ m ∧ i = .int .i64 k ∧ u = .int .i64 U ∧ U < 64 ∧ Hid ((P.take k).Pairwise fun i j => nthN l i &&& nthN l j = 0) ∧ Hid (∀ x, x &&& U = 0 ↔ ∀ i ∈ P.take k, x &&& nthN l i = 0)) (fun _ _ i => m - (intOf i).toNat)
  case atStart => exact ⟨0, 0, Nat.zero_le _, rfl, rfl, by omega, Lib.hid (by simp), Lib.hid fun x => by simp⟩
  case round =>
    obtain ⟨k, U, hk, rfl, rfl, hU64, hp, hU⟩ := hrel
    by_cases hlt : k < m
    · obtain ⟨b1, o1, rfl, hc⟩ := HO.out.reads.cells (by omega)
      have hck := hc k hlt
      rw [nth_up] at hck
      have hkP : k < P.length := by rw [HPl.out]; exact hlt
      have hmem : nthN P k ∈ P := nthN_mem hkP
      rw [HP.out] at hmem
      obtain ⟨hi6, hib⟩ := mem_pts.1 hmem
      rw [← HP.out] at hi6 hib
      have hst := fun h => match_step hkP hp.out hU.out h
      have hus := match_used hkP hU.out
      have hsp := fun h => match_stop hkP hU.out h
      obtain ⟨i, hie⟩ : ∃ i, i = nthN P k := ⟨_, rfl⟩
      rw [← hie] at hck hi6 hib
      simp only [← hie] at hst hus hsp
      have hin := bit_lt Hs.out hib
      obtain ⟨b2, o2, rfl, hc2⟩ := Hx1.out.cells (by omega)
      have hci := hc2 i hin
      rw [nth_up] at hci
      have hv := Hl.out _ (nthN_mem (xs := l) (k := i) (by rw [Hlen.out]; exact hin))
      obtain ⟨v, hve⟩ : ∃ v, v = nthN l i := ⟨_, rfl⟩
      rw [← hve] at hci hv
      simp only [← hve] at hst hus hsp
      have hand := w_and v U hv hU64
      have hor := w_or U v hU64 hv
      have hov : U ||| v < 64 := or_lt64 hU64 hv
      have Hst := Lib.hid hst; have Hus := Lib.hid hus; have Hsp := Lib.hid hsp
      have hk0 : (0 : Int) ≤ i := by omega
      have hkn : (i : Int) < n := by omega
      clear hc hc2 hie hve hmem hib hst hus hsp
      cases hz : (((v &&& U : Nat) : Int) != 0)
      · have hz0 : v &&& U = 0 := by simpa using hz
        have Hz0 := Lib.hid hz0; clear hz0
        go_wp2_with fail
        go_round
        case rel => exact ⟨k + 1, U ||| v, by omega, by go_num, rfl, hov, Lib.hid (Hst.out Hz0.out), Hus⟩
        case measure => simp [intOf]; omega
      · have hbf : b = false := by
          have hz0 : v &&& U ≠ 0 := by simpa using hz
          have hno := Hsp.out hz0
          cases b
          · rfl
          · have := Hb.out.1 rfl
            unfold MatchP at this
            rw [← HP.out] at this
            exact absurd this hno
        subst hbf
        go_wp2_with fail
        go_ret
        exact ⟨rfl, HB.out⟩
    · obtain rfl : k = m := by omega
      have hbt : b = true := Hb.out.2 (by
        have := hp.out
        rw [← HPl.out, List.take_length] at this
        unfold MatchP
        rw [← HP.out]; exact this)
      subst hbt
      go_wp2_with fail
      go_ret
      exact ⟨rfl, HB.out⟩

/-- a graph of one to six edges -/
def MatP (p : Int) (xs : List Int) : Prop := GraphP p xs ∧ 1 ≤ xs.length ∧ xs.length ≤ 6
theorem iMatch_no (p : Int) (a : Option Addr) (n c : Nat) (xs : List Int) (w : World) (h : IntsAt w a n xs) (hno : ¬ MatP p xs) :
    Calls Try.prog 18 #[.agg #[.int .i64 p, .slice a n c]] w (RetBox2 w 0 [] false) := by
  have hlen := h.len
  have hsm := h.small
  have Hh := Lib.hid h; clear h
  by_cases hP : GraphP p xs
  · have hn : n = 0 ∨ 6 < n := by
      rcases Nat.eq_zero_or_pos n with h | h
      · exact .inl h
      · refine .inr ?_
        rcases Nat.lt_or_ge 6 n with h' | h'
        · exact h'
        · exact absurd ⟨hP, by omega, by omega⟩ hno
    have HP := Lib.hid hP; clear hP hno hlen
    rcases hn with rfl | hn
    · go_enter Try.func18, Try.ntmps18
      go_wp2_with fail
      refine (iIsGraph_any p a 0 c xs _ (Hh.out.keep (by repeat (first | exact Below.refl _ _ | assumption | refine Below.setCell ?_ (by first | omega | (simp; done) | (simp; omega)) _ | refine Below.alloc ?_ (by first | omega | (simp; done) | (simp; omega)) _ | apply Below.drew))) true (by simp [HP.out])).mono ?_
      rintro e w1 ⟨rfl, hb⟩
      obtain ⟨hc, hf⟩ := bcell hb
      have hz : w.heap.size + 2 ≤ w1.heap.size := by have := hb.size; simp at this; omega
      have hbl : Below w.heap.size w w1 := Below.trans (by repeat (first | exact Below.refl _ _ | assumption | refine Below.setCell ?_ (by first | omega | (simp; done) | (simp; omega)) _ | refine Below.alloc ?_ (by first | omega | (simp; done) | (simp; omega)) _ | apply Below.drew)) (hb.mono (by simp; omega))
      go_wp2_with fail
      refine bodyPost_ret (v := .tuple #[.agg #[.int .i64 0, .slice none 0 0], .bool false]) (by simp [results, Try.results18, go_sem, hc, hz]) rfl ⟨none, 0, 0, rfl, Own.nil _ _ _, (by repeat (first | exact Below.refl _ _ | assumption | refine Below.setCell ?_ (by first | omega | (simp; done) | (simp; omega)) _ | refine Below.alloc ?_ (by first | omega | (simp; done) | (simp; omega)) _ | apply Below.drew))⟩
    · have hn6 : (6 : Int) < n := by omega
      have hn0 : ((n : Int) == 0) = false := by simp; omega
      go_enter Try.func18, Try.ntmps18
      go_wp2_with fail
      refine (iIsGraph_any p a n c xs _ (Hh.out.keep (by repeat (first | exact Below.refl _ _ | assumption | refine Below.setCell ?_ (by first | omega | (simp; done) | (simp; omega)) _ | refine Below.alloc ?_ (by first | omega | (simp; done) | (simp; omega)) _ | apply Below.drew))) true (by simp [HP.out])).mono ?_
      rintro e w1 ⟨rfl, hb⟩
      obtain ⟨hc, hf⟩ := bcell hb
      have hz : w.heap.size + 2 ≤ w1.heap.size := by have := hb.size; simp at this; omega
      have hbl : Below w.heap.size w w1 := Below.trans (by repeat (first | exact Below.refl _ _ | assumption | refine Below.setCell ?_ (by first | omega | (simp; done) | (simp; omega)) _ | refine Below.alloc ?_ (by first | omega | (simp; done) | (simp; omega)) _ | apply Below.drew)) (hb.mono (by simp; omega))
      go_wp2_with fail
      refine bodyPost_ret (v := .tuple #[.agg #[.int .i64 0, .slice none 0 0], .bool false]) (by simp [results, Try.results18, go_sem, hc, hz]) rfl ⟨none, 0, 0, rfl, Own.nil _ _ _, (by repeat (first | exact Below.refl _ _ | assumption | refine Below.setCell ?_ (by first | omega | (simp; done) | (simp; omega)) _ | refine Below.alloc ?_ (by first | omega | (simp; done) | (simp; omega)) _ | apply Below.drew))⟩
  · have HP := Lib.hid hP; clear hP hno hlen
    go_enter Try.func18, Try.ntmps18
    go_wp2_with fail
    refine (iIsGraph_any p a n c xs _ (Hh.out.keep (by repeat (first | exact Below.refl _ _ | assumption | refine Below.setCell ?_ (by first | omega | (simp; done) | (simp; omega)) _ | refine Below.alloc ?_ (by first | omega | (simp; done) | (simp; omega)) _ | apply Below.drew))) false (by simp [HP.out])).mono ?_
    rintro e w1 ⟨rfl, hb⟩
    obtain ⟨hc, hf⟩ := bcell hb
    have hz : w.heap.size + 2 ≤ w1.heap.size := by have := hb.size; simp at this; omega
    have hbl : Below w.heap.size w w1 := Below.trans (by repeat (first | exact Below.refl _ _ | assumption | refine Below.setCell ?_ (by first | omega | (simp; done) | (simp; omega)) _ | refine Below.alloc ?_ (by first | omega | (simp; done) | (simp; omega)) _ | apply Below.drew)) (hb.mono (by simp; omega))
    go_wp2_with fail
    refine bodyPost_ret (v := .tuple #[.agg #[.int .i64 0, .slice none 0 0], .bool false]) (by simp [results, Try.results18, go_sem, hc, hz]) rfl ⟨none, 0, 0, rfl, Own.nil _ _ _, (by repeat (first | exact Below.refl _ _ | assumption | refine Below.setCell ?_ (by first | omega | (simp; done) | (simp; omega)) _ | refine Below.alloc ?_ (by first | omega | (simp; done) | (simp; omega)) _ | apply Below.drew))⟩
set_option maxRecDepth 100000 in
set_option maxHeartbeats 2000000 in
theorem iMatch_yes (p : Int) (a : Option Addr) (n c : Nat) (l : List Nat) (w : World) (h : IntsAt w a n (up l)) (hP : GraphP p (up l)) (h1 : 1 ≤ n) (h6 : n ≤ 6) (hl : ∀ t ∈ l, t < 64) :
    Calls Try.prog 18 #[.agg #[.int .i64 p, .slice a n c]] w (RetBox2 w n (up (maxL (apart (clash l n) (2 ^ n)))) true) := by
  have HP := Lib.hid hP; clear hP
  have hx : IntsAt ((w.alloc (.cells #[.int .i64 p, .slice a n c] 30)).alloc (.cells #[.int .i64 0, .slice none 0 0] 27)) a n (up l) := h.keep (by repeat (first | exact Below.refl _ _ | assumption | refine Below.setCell ?_ (by first | omega | (simp; done) | (simp; omega)) _ | refine Below.alloc ?_ (by first | omega | (simp; done) | (simp; omega)) _ | apply Below.drew))
  have Hx := Lib.hid hx; clear hx h
  have hn6 : ¬ (6 : Int) < n := by omega
  have hn0 : ((n : Int) == 0) = false := by simp; omega
  obtain ⟨q, hq⟩ : ∃ q : Nat → Bool, ∀ s, s < 2 ^ n → (q s = true ↔ MatchP l s) := ⟨fun s => !(clash l n).any (sub · s), fun s hs => by rw [match_clash h6 hs]; simp⟩
  have hF := pickN_Fam q (2 ^ n)
  have hcong := maxL_congr (p := (pickN q (2 ^ n)).testBit) (q := apart (clash l n) (2 ^ n)) (fun t ht => by
    rw [pickN_bit ht]
    unfold apart
    by_cases h : t < 2 ^ n
    · simp only [h, decide_true, Bool.true_and]
      rw [Bool.eq_iff_iff, hq t h, match_clash h6 h]; simp
    · simp [h])
  have Hl := Lib.hid hl; clear hl
  have Hq := Lib.hid hq; clear hq
  obtain ⟨F, hFe⟩ : ∃ F, F = pickN q (2 ^ n) := ⟨_, rfl⟩
  rw [← hFe] at hF hcong
  have HFe := Lib.hid hFe; have Hcong := Lib.hid hcong
  clear hFe hcong
  have xA := (BoxF.new w (.int .i64 p) (.slice a n c) 30).alloc (.cells #[.int .i64 0, .slice none 0 0] 27)
  have xR := BoxF.new (w.alloc (.cells #[.int .i64 p, .slice a n c] 30)) (.int .i64 0) (.slice none 0 0) 27
  have e2 : (w.alloc (.cells #[.int .i64 p, .slice a n c] 30)).heap.size = w.heap.size + 1 := by simp
  rw [e2] at xR
  have XR := Lib.hid xR; have XA := Lib.hid xA
  clear xA xR e2
  go_enter Try.func18, Try.ntmps18
  go_wp2_with fail
  refine (iIsGraph_any p a n c _ _ Hx.out true (by simp [HP.out])).mono ?_
  rintro e w1 ⟨rfl, hb⟩
  have HB : Hid (Below w.heap.size w w1) := Lib.hid (Below.trans (by repeat (first | exact Below.refl _ _ | assumption | refine Below.setCell ?_ (by first | omega | (simp; done) | (simp; omega)) _ | refine Below.alloc ?_ (by first | omega | (simp; done) | (simp; omega)) _ | apply Below.drew)) (hb.mono (by simp <;> omega)))
  have XR1 := Lib.hid (XR.out.keep hb (by simp))
  have XA1 := Lib.hid (XA.out.keep hb (by simp; omega))
  have hz : w.heap.size + 2 ≤ w1.heap.size := by have := hb.size; simp at this; omega
  have Hx1 := Lib.hid (Hx.out.keep hb)
  clear hb
  go_wp2_with fail
  refine (pickSets_grow 70 #[.pointer (some ⟨w.heap.size, 0, none⟩)] q n _ h6 (fun _ _ => rfl) (fun t ht W hW => matchFn_any p w.heap.size t a n c l W h6 ht (XA1.out.keep hW (by omega)) (Hx1.out.keep hW) Hl.out _ (Hq.out t ht))).mono ?_
  rw [← HFe.out]
  rintro e w3 ⟨rfl, hb⟩
  have HB3 := Lib.hid (HB.out.trans (hb.mono HB.out.size))
  have XR4 := Lib.hid (XR1.out.keep hb (by omega))
  have hz3 : w.heap.size + 2 ≤ w3.heap.size := by have := hb.size; omega
  clear hb
  go_wp2_with fail
  refine (complexOf_any n F _ hF).mono ?_
  rw [Hcong.out]
  rintro e w5 ⟨ad5, d5, r5, rfl, hown, hb5⟩
  have XR5 := Lib.hid (XR4.out.keep hb5 (by omega))
  have HO5 := Lib.hid hown; have HB5 := Lib.hid hb5
  obtain ⟨r0, r1, _, _, _⟩ := XR5.out
  clear hown hb5
  go_wp2_with fail
  refine bodyPost_ret (v := .tuple #[.agg #[.int .i64 n, .slice ad5 d5 r5], .bool true]) (by simp [results, Try.results18, go_sem, r0, r1]) rfl ⟨ad5, d5, r5, rfl, ?_, ?_⟩
  · exact ((HO5.out.setBelow _ (by first | omega | (simp; omega))).setBelow _ (by first | omega | (simp; omega))).mono (by omega)
  · have := HB3.out.size
    exact (((HB3.out.trans (HB5.out.mono (by omega))).setCell (by first | (simp; done) | (simp; omega)) _).setCell (by first | (simp; done) | (simp; omega)) _)

theorem sMatch_no (p : Int) (a : Option Addr) (n c : Nat) (xs : List Int) (w : World) (h : IntsAt w a n xs) (hno : ¬ MatP p xs) :
    Calls Try.prog 16 #[.agg #[.int .i64 p, .slice a n c]] w (RetBox2 w 0 [] false) := by
  have hlen := h.len
  have hsm := h.small
  have xA := (BoxF.new w (.int .i64 p) (.slice a n c) 30).alloc (.cells #[.int .i64 0, .slice none 0 0] 27)
  have XA := Lib.hid xA; clear xA
  have Hh := Lib.hid h; clear h
  by_cases hP : GraphP p xs
  · have hn : ¬ (1 ≤ (n : Int) ∧ (n : Int) ≤ 6) := fun h => hno ⟨hP, by omega, by omega⟩
    have HP := Lib.hid hP; clear hP hno hlen
    have Hn := Lib.hid hn; clear hn
    go_enter Try.func16, Try.ntmps16
    go_wp2_with fail
    refine (sIsGraph_any p a n c xs _ (Hh.out.keep (by repeat (first | exact Below.refl _ _ | assumption | refine Below.setCell ?_ (by first | omega | (simp; done) | (simp; omega)) _ | refine Below.alloc ?_ (by first | omega | (simp; done) | (simp; omega)) _ | apply Below.drew))) true (by simp [HP.out])).mono ?_
    rintro e w1 ⟨rfl, hb⟩
    obtain ⟨hc, hf⟩ := bcell hb
    obtain ⟨p0, p1, _, _, _⟩ := XA.out.keep hb (by simp; omega)
    have hz : w.heap.size + 2 ≤ w1.heap.size := by have := hb.size; simp at this; omega
    have hbl : Below w.heap.size w w1 := Below.trans (by repeat (first | exact Below.refl _ _ | assumption | refine Below.setCell ?_ (by first | omega | (simp; done) | (simp; omega)) _ | refine Below.alloc ?_ (by first | omega | (simp; done) | (simp; omega)) _ | apply Below.drew)) (hb.mono (by simp; omega))
    go_wp2_with (go_at_call 65; (with_reducible refine (l1In_no n 1 6 _ Hn.out).mono ?_); rintro e w' ⟨rfl, rfl⟩)
    refine bodyPost_ret (v := .tuple #[.agg #[.int .i64 0, .slice none 0 0], .bool false]) (by simp [results, Try.results16, go_sem, hc, hz]) rfl ⟨none, 0, 0, rfl, Own.nil _ _ _, (by repeat (first | exact Below.refl _ _ | assumption | refine Below.setCell ?_ (by first | omega | (simp; done) | (simp; omega)) _ | refine Below.alloc ?_ (by first | omega | (simp; done) | (simp; omega)) _ | apply Below.drew))⟩
  · have HP := Lib.hid hP; clear hP hno hlen
    go_enter Try.func16, Try.ntmps16
    go_wp2_with fail
    refine (sIsGraph_any p a n c xs _ (Hh.out.keep (by repeat (first | exact Below.refl _ _ | assumption | refine Below.setCell ?_ (by first | omega | (simp; done) | (simp; omega)) _ | refine Below.alloc ?_ (by first | omega | (simp; done) | (simp; omega)) _ | apply Below.drew))) false (by simp [HP.out])).mono ?_
    rintro e w1 ⟨rfl, hb⟩
    obtain ⟨hc, hf⟩ := bcell hb
    have hz : w.heap.size + 2 ≤ w1.heap.size := by have := hb.size; simp at this; omega
    have hbl : Below w.heap.size w w1 := Below.trans (by repeat (first | exact Below.refl _ _ | assumption | refine Below.setCell ?_ (by first | omega | (simp; done) | (simp; omega)) _ | refine Below.alloc ?_ (by first | omega | (simp; done) | (simp; omega)) _ | apply Below.drew)) (hb.mono (by simp; omega))
    go_wp2_with fail
    refine bodyPost_ret (v := .tuple #[.agg #[.int .i64 0, .slice none 0 0], .bool false]) (by simp [results, Try.results16, go_sem, hc, hz]) rfl ⟨none, 0, 0, rfl, Own.nil _ _ _, (by repeat (first | exact Below.refl _ _ | assumption | refine Below.setCell ?_ (by first | omega | (simp; done) | (simp; omega)) _ | refine Below.alloc ?_ (by first | omega | (simp; done) | (simp; omega)) _ | apply Below.drew))⟩
set_option maxRecDepth 100000 in
set_option maxHeartbeats 2000000 in
theorem sMatch_yes (p : Int) (a : Option Addr) (n c : Nat) (l : List Nat) (w : World) (h : IntsAt w a n (up l)) (hP : GraphP p (up l)) (h1 : 1 ≤ n) (h6 : n ≤ 6) (hl : ∀ t ∈ l, t < 64) :
    Calls Try.prog 16 #[.agg #[.int .i64 p, .slice a n c]] w (RetBox2 w n (up (maxL (apart (clash l n) (2 ^ n)))) true) := by
  have HP := Lib.hid hP; clear hP
  have hlen : l.length = n := by rw [← h.len, up_len]
  have Hlen := Lib.hid hlen; clear hlen
  have hx : IntsAt ((w.alloc (.cells #[.int .i64 p, .slice a n c] 30)).alloc (.cells #[.int .i64 0, .slice none 0 0] 27)) a n (up l) := h.keep (by repeat (first | exact Below.refl _ _ | assumption | refine Below.setCell ?_ (by first | omega | (simp; done) | (simp; omega)) _ | refine Below.alloc ?_ (by first | omega | (simp; done) | (simp; omega)) _ | apply Below.drew))
  have Hx := Lib.hid hx; clear hx h
  have Hl := Lib.hid hl; clear hl
  have hn1 : (1 : Int) ≤ n := by omega
  have hn6 : (n : Int) ≤ 6 := by omega
  have xA := (BoxF.new w (.int .i64 p) (.slice a n c) 30).alloc (.cells #[.int .i64 0, .slice none 0 0] 27)
  have xR := BoxF.new (w.alloc (.cells #[.int .i64 p, .slice a n c] 30)) (.int .i64 0) (.slice none 0 0) 27
  have e2 : (w.alloc (.cells #[.int .i64 p, .slice a n c] 30)).heap.size = w.heap.size + 1 := by simp
  rw [e2] at xR
  have XR := Lib.hid xR; have XA := Lib.hid xA
  clear xA xR e2
  go_enter Try.func16, Try.ntmps16
  go_wp2_with fail
  refine (sIsGraph_any p a n c _ _ Hx.out true (by simp [HP.out])).mono ?_
  rintro e w1 ⟨rfl, hb⟩
  have HB : Hid (Below w.heap.size w w1) := Lib.hid (Below.trans (by repeat (first | exact Below.refl _ _ | assumption | refine Below.setCell ?_ (by first | omega | (simp; done) | (simp; omega)) _ | refine Below.alloc ?_ (by first | omega | (simp; done) | (simp; omega)) _ | apply Below.drew)) (hb.mono (by simp <;> omega)))
  have XR1 := Lib.hid (XR.out.keep hb (by simp))
  have XA1 := Lib.hid (XA.out.keep hb (by simp; omega))
  obtain ⟨p0, p1, _, _, _⟩ := XA1.out
  have hz : w.heap.size + 2 ≤ w1.heap.size := by have := hb.size; simp at this; omega
  have Hx1 := Lib.hid (Hx.out.keep hb)
  clear hb
  go_wp2_with (go_at_call 65; (with_reducible refine (l1In_yes n 1 6 _ hn1 hn6).mono ?_); rintro e w' ⟨rfl, rfl⟩)
  clear p0 p1
  go_loopw [4, 5] (fun s i wr => ∃ I : Nat, I ≤ n ∧ i = .int .i64 I ∧ Below w1.heap.size w1 wr ∧ ∃ ad K d, s = .slice ad K d ∧ K ≤ 6 * I ∧ Own 3 wr w1.heap.size ad K d (up (clash l I))) (fun _ i _ => n - (intOf i).toNat)
  case atStart => exact ⟨0, Nat.zero_le _, rfl, (by repeat (first | exact Below.refl _ _ | assumption | refine Below.setCell ?_ (by first | omega | (simp; done) | (simp; omega)) _ | refine Below.alloc ?_ (by first | omega | (simp; done) | (simp; omega)) _ | apply Below.drew)), _, 0, 0, rfl, by omega, Own.empty _ _ _ (by first | exact Nat.le_refl _ | simp)⟩
  case round =>
    obtain ⟨I, hI, rfl, hb, ad, K, d, rfl, hK, hown⟩ := hrel
    have HBO := Lib.hid hb; have HO := Lib.hid hown
    have XA2 := Lib.hid (XA1.out.keep hb (by omega))
    have XR2 := Lib.hid (XR1.out.keep hb (by omega))
    obtain ⟨p0, p1, _, _, _⟩ := XA2.out
    have hzr : w1.heap.size ≤ wr.heap.size := hb.size
    clear hb hown
    by_cases hlt : I < n
    · go_wp2_with fail
      go_loopw [4, 6] (fun s j wr => ∃ J : Nat, J ≤ I ∧ j = .int .i64 J ∧ Below w1.heap.size w1 wr ∧ ∃ ad K d, s = .slice ad K d ∧ K ≤ 6 * I + J ∧ Own 3 wr w1.heap.size ad K d (up (clashTo l I J))) (fun _ j _ => I - (intOf j).toNat)
      case atStart => exact ⟨0, Nat.zero_le _, rfl, HBO.out, ad, K, d, rfl, by omega, by rw [clashTo_zero]; exact HO.out⟩
      case round =>
        clear XA2 XR2 p0 p1 HBO HO hzr hK
        obtain ⟨J, hJ, rfl, hb, ad, K, d, rfl, hK, hown⟩ := hrel
        have HBO := Lib.hid hb; have HO := Lib.hid hown
        have XA2 := Lib.hid (XA1.out.keep hb (by omega))
        obtain ⟨p0, p1, _, _, _⟩ := XA2.out
        have Hx2 := Lib.hid (Hx1.out.keep hb)
        have hzr : w1.heap.size ≤ wr.heap.size := hb.size
        clear hb hown
        by_cases hjt : J < I
        · obtain ⟨b1, o1, rfl, hc1⟩ := Hx2.out.cells (by omega)
          have hci := hc1 I hlt
          have hcj := hc1 J (by omega)
          rw [nth_up] at hci hcj
          clear hc1
          have hu := Hl.out _ (nthN_mem (xs := l) (k := I) (by rw [Hlen.out]; omega))
          have hv := Hl.out _ (nthN_mem (xs := l) (k := J) (by rw [Hlen.out]; omega))
          have hI6 : I < 6 := by omega
          have hJ6 : J < 6 := by omega
          have hsI := w_shl6 I (by omega)
          have hsJ := w_shl6 J (by omega)
          have hadd : ((2 : Int) ^ I + 2 ^ J) = ((pr I J : Nat) : Int) := by rw [← pr_add hI6 hJ6 (by omega)]; norm_cast
          have hand := w_and (nthN l I) (nthN l J) hu hv
          have hyes := fun h => clashTo_yes (l := l) (I := I) (K := J) h
          have hnop := fun h => clashTo_no (l := l) (I := I) (K := J) h
          have hpr := pr_lt hI6 hJ6
          obtain ⟨z, hz'⟩ : ∃ z, z = nthN l I &&& nthN l J := ⟨_, rfl⟩
          rw [← hz'] at hand
          simp only [← hz'] at hyes hnop
          obtain ⟨e, he⟩ : ∃ e, e = pr I J := ⟨_, rfl⟩
          rw [← he] at hadd hpr
          simp only [← he] at hyes
          have Hyes := Lib.hid hyes; have Hnop := Lib.hid hnop
          clear hz' he hyes hnop
          cases hst : ((z : Int) != 0)
          · have Hq : Hid ((z != 0) = false) := Lib.hid (by simpa using hst)
            go_wp2_with fail
            go_quiet (fail)
            go_wp2_with fail
            go_roundw
            case rel => exact ⟨J + 1, by omega, by go_num, below_drewN HBO.out _, ad, K, d, rfl, by omega, by rw [Hnop.out Hq.out]; exact HO.out.keep (below_drewN (Below.refl _ _) _)⟩
            case measure => simp [intOf]; omega
          · have Hq : Hid ((z != 0) = true) := Lib.hid (by simpa using hst)
            go_wp2_with fail
            go_quiet (fail)
            have HOq := Lib.hid (HO.out.keep (below_drewN (Below.refl wr.heap.size wr) nq))
            have hzq : w1.heap.size ≤ (wr.drewN nq).heap.size := (below_drewN HBO.out nq).size
            go_wp2_with (at_builtin; refine ap rfl _ _ rfl w1.heap.size _ _ _ _ _ rfl HOq.out rfl (by omega) hzq ?_; intro ad' d' w' hown' hb'; have HO3 := Lib.hid hown'; have HB3 := Lib.hid hb'; clear hown' hb')
            go_roundw
            case rel => exact ⟨J + 1, by omega, by go_num, (below_drewN HBO.out _).trans HB3.out, ad', K + 1, d', rfl, by omega, by rw [Hyes.out Hq.out, up_append]; exact HO3.out⟩
            case measure => simp [intOf]; omega
        · obtain rfl : J = I := by omega
          have hjj : ¬ ((J : Int) < J) := by omega
          go_wp2_with fail
          go_roundw
          case rel => exact ⟨J + 1, by omega, by go_num, HBO.out, ad, K, d, rfl, by omega, by rw [← clashTo_next]; exact HO.out⟩
          case measure => simp [intOf]; omega
    · obtain rfl : I = n := by omega
      have hii : ¬ ((I : Int) < I) := by omega
      have Hcl := Lib.hid (clash_lt (l := l) h6)
      go_wp2_with fail
      refine (l7From_any I ad K d (clash l I) _ HO.out.reads h6 Hcl.out).mono ?_
      rintro e w5 ⟨ad5, d5, r5, rfl, hown, hb5⟩
      have XR5 := Lib.hid (XR2.out.keep hb5 (by omega))
      have HO5 := Lib.hid hown; have HB5 := Lib.hid hb5
      obtain ⟨r0, r1, _, _, _⟩ := XR5.out
      clear hown hb5
      go_wp2_with fail
      refine bodyPost_ret (v := .tuple #[.agg #[.int .i64 I, .slice ad5 d5 r5], .bool true]) (by simp [results, Try.results16, go_sem, r0, r1]) rfl ⟨ad5, d5, r5, rfl, ?_, ?_⟩
      · have := HB.out.size
        exact ((HO5.out.setBelow _ (by first | omega | (simp; omega))).setBelow _ (by first | omega | (simp; omega))).mono (by omega)
      · have := HB.out.size
        exact ((((HB.out.trans (HBO.out.mono (by omega))).trans (HB5.out.mono (by omega))).setCell (by first | (simp; done) | (simp; omega)) _).setCell (by first | (simp; done) | (simp; omega)) _)
end Go.Proofs.Ytplbegfebnnbaaa

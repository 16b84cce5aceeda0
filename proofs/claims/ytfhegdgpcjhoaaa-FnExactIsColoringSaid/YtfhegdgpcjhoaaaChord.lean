/- Contracts of isPairwise, l27Joined and IsChordal, the program's and the reference's. -/
import Derived.Test.YtfhegdgpcjhoaaaNeigh
import Derived.Test.YtfhegdgpcjhoaaaFrom
import Derived.Test.YtfhegdgpcjhoaaaMath4
import Derived.Test.YtfhegdgpcjhoaaaOther
import Derived.Deep.RegionHeld3
import Derived.Deep.DeepCutAuto
namespace Go.Proofs.Ytfhegdgpcjhoaaa
open Go.RowKit
set_option linter.unusedSimpArgs false
set_option linter.unusedVariables false

theorem find_at {l : List Nat} {p : Nat → Bool} {J : Nat} (hJ : J < l.length) (h0 : ∀ j, j < J → p (nthN l j) = false) (h1 : p (nthN l J) = true) : l.find? p = some (nthN l J) := by
  rw [List.find?_eq_some_iff_getElem]
  refine ⟨h1, J, hJ, nthN_eq hJ |>.symm, fun j hj => ?_⟩
  have := h0 j hj
  rw [nthN_eq (by omega)] at this
  simp [this]
theorem find_none {l : List Nat} {p : Nat → Bool} (h0 : ∀ j, j < l.length → p (nthN l j) = false) : l.find? p = none := by
  rw [List.find?_eq_none]
  intro x hx
  obtain ⟨j, hj, rfl⟩ := List.mem_iff_getElem.1 hx
  have := h0 j hj
  rw [nthN_eq hj] at this
  simp [this]

/-- the points may be taken away, one by one -/
def chordW (good : Nat → Nat → Bool) : Nat → Nat → Bool
  | 0, _ => true
  | f + 1, left => if left = 0 then true else ((pts left).find? (good left)).elim false fun i => chordW good f (sdiff left (2 ^ i))
theorem sdiff_less : ∀ x : Nat, x < 64 → ∀ i : Nat, i < 6 → x.testBit i = true → sdiff x (2 ^ i) < x := by decide +kernel
theorem find_pts (good : Nat → Bool) (left : Nat) : (pts left).find? good = (List.range 6).find? fun i => left.testBit i && good i := by
  unfold pts ptsTo
  rw [List.find?_filter]
  congr 1
  funext i
  cases left.testBit i <;> cases good i <;> rfl
/-- the same for the points below m -/
theorem find_range {good : Nat → Bool} {left m : Nat} (hm : m ≤ 6) (hl : left < 2 ^ m) : ((List.range m).find? fun i => left.testBit i && good i) = (pts left).find? good := by
  rw [find_pts]
  have e : List.range 6 = List.range m ++ (List.range (6 - m)).map (m + ·) := by
    rw [← List.range_add]; congr 1; omega
  rw [e, List.find?_append]
  have : ((List.range (6 - m)).map (m + ·)).find? (fun i => left.testBit i && good i) = none := by
    rw [List.find?_eq_none]
    intro x hx
    obtain ⟨i, _, rfl⟩ := List.mem_map.1 hx
    have : left.testBit (m + i) = false := Nat.testBit_lt_two_pow (Nat.lt_of_lt_of_le hl (Nat.pow_le_pow_right (by omega) (by omega)))
    simp [this]
  rw [this]; simp
theorem scan_succ (p : Nat → Bool) (I : Nat) (h : (List.range I).find? p = none) : (List.range (I + 1)).find? p = if p I then some I else none := by
  rw [List.range_succ, List.find?_append, h]
  simp [List.find?_cons]
  cases p I <;> rfl

theorem isPairwise_any (s : Nat) (a : Option Addr) (n c : Nat) (nl : List Nat) (w : World) (h : IntsAt w a n (up nl)) (hs : s < 64) (hn : ∀ i, i < 6 → s.testBit i = true → i < n) (hl : ∀ t ∈ nl, t < 64) (b : Bool) (hb : pairB (nthN nl) s = b) :
    Calls Try.prog 68 #[.int .i64 s, .slice a n c] w fun e w' => e = .returned (.bool b) ∧ Below w.heap.size w w' := by
  have hsm := h.small
  have hlen : nl.length = n := by rw [← h.len, up_len]
  have Hlen := Lib.hid hlen; clear hlen
  have Hx := Lib.hid h; have Hn := Lib.hid hn; have Hl := Lib.hid hl; have Hb := Lib.hid hb
  clear h hn hl hb
  go_enter Try.func68, Try.ntmps68
  go_wp2_with fail
  refine (PointsOf_any s _ hs).mono ?_
  rintro e w1 ⟨ad, m, d, rfl, hown, hb⟩
  have HB := Lib.hid hb
  have Hx1 := Lib.hid (Hx.out.keep hb)
  obtain ⟨P, hP⟩ : ∃ P, P = pts s := ⟨_, rfl⟩
  rw [← hP] at hown
  have HP := Lib.hid hP
  have HO := Lib.hid hown
  have hPl : P.length = m := by have := hown.len; rwa [up_len] at this
  have hm6 : m ≤ 6 := by rw [← hPl, hP]; exact ptsTo_len _ _
  have HPl := Lib.hid hPl
  clear hb hown hP hPl
  go_wp2_with fail
  go_loop [6, 10] (fun _ i => ∃ k : Nat, k ≤ m ∧ i = .int .i64 k ∧ Hid (∀ j, j < k → sub s (nthN nl (nthN P j) ||| 2 ^ nthN P j) = true)) (fun _ i => m - (intOf i).toNat)
  case atStart => exact ⟨0, Nat.zero_le _, rfl, Lib.hid fun j hj => absurd hj (Nat.not_lt_zero _)⟩
  case round =>
    obtain ⟨k, hk, rfl, hok⟩ := hrel
    by_cases hlt : k < m
    · obtain ⟨b1, o1, rfl, hc⟩ := HO.out.reads.cells (by omega)
      have hck := hc k hlt
      rw [nth_up] at hck
      have hmem : nthN P k ∈ P := nthN_mem (by rw [HPl.out]; exact hlt)
      rw [HP.out] at hmem
      obtain ⟨hi6, hib⟩ := mem_pts.1 hmem
      rw [← HP.out] at hi6 hib
      obtain ⟨i, hie⟩ : ∃ i, i = nthN P k := ⟨_, rfl⟩
      rw [← hie] at hck hi6 hib
      have Hie := Lib.hid hie
      have hin := Hn.out i hi6 hib
      obtain ⟨b2, o2, rfl, hc2⟩ := Hx1.out.cells (by omega)
      have hci := hc2 i hin
      rw [nth_up] at hci
      have hu := Hl.out _ (nthN_mem (xs := nl) (k := i) (by rw [Hlen.out]; exact hin))
      obtain ⟨u, hue⟩ : ∃ u, u = nthN nl i := ⟨_, rfl⟩
      rw [← hue] at hci hu
      have Hue := Lib.hid hue
      have hor := w_or6bit u i hu hi6
      have hshl := w_shl6 i (by omega)
      have hub : u ||| 2 ^ i < 64 := or_lt64 hu (bit_lt64 hi6)
      have hand := w_andNot s (u ||| 2 ^ i) hs hub
      have hz := sdiff_zero hs hub
      clear hc hc2 hie hue hmem hib
      have hk0 : (0 : Int) ≤ i := by omega
      have hkn : (i : Int) < n := by omega
      cases hst : (((sdiff s (u ||| 2 ^ i) : Nat) : Int) == 0)
      · have hst' : (((sdiff s (u ||| 2 ^ i) : Nat) : Int) != 0) = true := by unfold bne; rw [hst]; rfl
        have hbf : b = false := by
          rw [← Hb.out]
          unfold pairB
          rw [List.all_eq_false]
          refine ⟨i, by rw [← HP.out, Hie.out]; exact nthN_mem (by rw [HPl.out]; exact hlt), ?_⟩
          rw [← Hue.out, ← hz, hst]; simp
        subst hbf
        go_wp2_with fail
        go_ret
        exact ⟨rfl, HB.out⟩
      · have hst' : (((sdiff s (u ||| 2 ^ i) : Nat) : Int) != 0) = false := by unfold bne; rw [hst]; rfl
        have Hst := Lib.hid hst
        go_wp2_with fail
        go_round
        case rel =>
          refine ⟨k + 1, by omega, by go_num, Lib.hid fun j hj => ?_⟩
          rcases Nat.lt_or_ge j k with h | h
          · exact hok.out j h
          · obtain rfl : j = k := by omega
            rw [← Hie.out, ← Hue.out, ← hz]; exact Hst.out
        case measure => simp [intOf]; omega
    · obtain rfl : k = m := by omega
      have hbt : b = true := by
        rw [← Hb.out]
        unfold pairB
        rw [List.all_eq_true]
        intro x hx
        rw [← HP.out] at hx
        obtain ⟨j, hj, rfl⟩ := List.mem_iff_getElem.1 hx
        have := hok.out j (by rw [← HPl.out]; exact hj)
        rwa [nthN_eq hj] at this
      subst hbt
      go_wp2_with fail
      go_ret
      exact ⟨rfl, HB.out⟩

/-- two points of s that are no edge -/
def badPair (l : List Nat) (s i j : Nat) : Bool := sub (pr i j) s && !l.contains (pr i j)
theorem joined_all {l : List Nat} {m s : Nat} (hm : m ≤ 6) (hs : s < 2 ^ m) (h : ∀ i, i < m → ∀ j, j < i → badPair l s i j = false) : Joined l s := by
  intro i hi j hj hij hsi hsj
  have lt : ∀ k, s.testBit k = true → k < m := fun k hk => by
    rcases Nat.lt_or_ge k m with h | h
    · exact h
    · rw [Nat.testBit_lt_two_pow (Nat.lt_of_lt_of_le hs (Nat.pow_le_pow_right (by omega) h))] at hk; cases hk
  have key : ∀ i j, i < m → j < i → s.testBit i = true → s.testBit j = true → pr i j ∈ l := fun i j h1 h2 h3 h4 => by
    have := h i h1 j h2
    unfold badPair at this
    rw [pr_sub.2 ⟨h3, h4⟩] at this
    simpa using this
  rcases Nat.lt_or_gt_of_ne hij with h' | h'
  · rw [pr_comm]; exact key j i (lt j hsj) h' hsj hsi
  · exact key i j (lt i hsi) h' hsi hsj
theorem joined_not {l : List Nat} {s i j : Nat} (hi : i < 6) (hj : j < 6) (hij : i ≠ j) (h : badPair l s i j = true) : ¬ Joined l s := fun hJ => by
  unfold badPair at h
  rw [Bool.and_eq_true, pr_sub] at h
  have := hJ i hi j hj hij h.1.1 h.1.2
  simp [this] at h
set_option maxHeartbeats 1000000 in
theorem l27Joined_any (m : Nat) (a : Option Addr) (n c : Nat) (l : List Nat) (s : Nat) (w : World) (h : IntsAt w a n (up l)) (hm : m ≤ 6) (hs : s < 2 ^ m) (b : Bool) (hb : b = true ↔ Joined l s) :
    Calls Try.prog 63 #[.agg #[.int .i64 m, .slice a n c], .int .i64 s] w fun e w' => e = .returned (.bool b) ∧ Below w.heap.size w w' := by
  have hs64 : s < 64 := Nat.lt_of_lt_of_le hs (pow_le64 hm)
  have hx : IntsAt (w.alloc (.cells #[.int .i64 m, .slice a n c] 27)) a n (up l) := h.keep (by repeat (first | exact Below.refl _ _ | assumption | refine Below.setCell ?_ (by first | omega | (simp; done) | (simp; omega)) _ | refine Below.alloc ?_ (by first | omega | (simp; done) | (simp; omega)) _ | apply Below.drew))
  have Hx := Lib.hid hx; have Hb := Lib.hid hb; have Hs := Lib.hid hs
  clear hx h hb hs
  go_enter Try.func63, Try.ntmps63
  go_wp2_with fail
  go_loop [5] (fun i => ∃ I : Nat, I ≤ m ∧ i = .int .i64 I ∧ Hid (∀ i, i < I → ∀ j, j < i → badPair l s i j = false)) (fun i => m - (intOf i).toNat)
  case atStart => exact ⟨0, Nat.zero_le _, rfl, Lib.hid fun j hj => absurd hj (Nat.not_lt_zero _)⟩
  case round =>
    obtain ⟨I, hI, rfl, hok⟩ := hrel
    by_cases hlt : I < m
    · go_wp2_with fail
      go_loop [6] (fun j => ∃ J : Nat, J ≤ I ∧ j = .int .i64 J ∧ Hid (∀ j, j < J → badPair l s I j = false)) (fun j => I - (intOf j).toNat)
      case atStart => exact ⟨0, Nat.zero_le _, rfl, Lib.hid fun j hj => absurd hj (Nat.not_lt_zero _)⟩
      case round =>
        obtain ⟨J, hJ, rfl, hok2⟩ := hrel
        by_cases hjt : J < I
        · have hI6 : I < 6 := by omega
          have hJ6 : J < 6 := by omega
          have hsI := w_shl6 I (by omega)
          have hsJ := w_shl6 J (by omega)
          have hp64 := pr_lt hI6 hJ6
          have hadd : ((2 : Int) ^ I + 2 ^ J) = ((pr I J : Nat) : Int) := by rw [← pr_add hI6 hJ6 (by omega)]; norm_cast
          obtain ⟨e, hee⟩ : ∃ e, e = pr I J := ⟨_, rfl⟩
          rw [← hee] at hadd hp64
          have hand := w_and s e hs64 hp64
          have hbad : badPair l s I J = (sub e s && !l.contains e) := by rw [hee]; rfl
          have hst : (((s &&& e : Nat) : Int) == (e : Int)) = sub e s := by rw [castBeq]; unfold sub; rw [Nat.and_comm]
          clear hee
          have Hbad := Lib.hid hbad; clear hbad
          cases hsb : sub e s
          · rw [hsb] at hst
            have Hq : Hid (badPair l s I J = false) := Lib.hid (by rw [Hbad.out, hsb]; rfl)
            clear hsb
            go_wp2_with fail
            go_round
            case rel =>
              refine ⟨J + 1, by omega, by go_num, Lib.hid fun j hj => ?_⟩
              rcases Nat.lt_or_ge j J with h | h
              · exact hok2.out j h
              · obtain rfl : j = J := by omega
                exact Hq.out
            case measure => simp [intOf]; omega
          · rw [hsb] at hst
            cases hcon : l.contains e
            · have hbf : b = false := by
                have : badPair l s I J = true := by rw [Hbad.out, hsb, hcon]; rfl
                have hno := joined_not hI6 hJ6 (by omega) this
                cases b
                · rfl
                · exact absurd (Hb.out.1 rfl) hno
              subst hbf
              have Hcon := Lib.hid hcon; clear hcon hsb
              go_wp2_with (go_at_call 107; refine (l2Has_any a n c l e _ Hx.out).mono ?_; rw [Hcon.out]; rintro e we ⟨rfl, rfl⟩)
              go_ret
              exact ⟨rfl, (by repeat (first | exact Below.refl _ _ | assumption | refine Below.setCell ?_ (by first | omega | (simp; done) | (simp; omega)) _ | refine Below.alloc ?_ (by first | omega | (simp; done) | (simp; omega)) _ | apply Below.drew))⟩
            · have Hq : Hid (badPair l s I J = false) := Lib.hid (by rw [Hbad.out, hsb, hcon]; rfl)
              have Hcon := Lib.hid hcon; clear hcon hsb
              go_wp2_with (go_at_call 107; refine (l2Has_any a n c l e _ Hx.out).mono ?_; rw [Hcon.out]; rintro e we ⟨rfl, rfl⟩)
              go_round
              case rel =>
                refine ⟨J + 1, by omega, by go_num, Lib.hid fun j hj => ?_⟩
                rcases Nat.lt_or_ge j J with h | h
                · exact hok2.out j h
                · obtain rfl : j = J := by omega
                  exact Hq.out
              case measure => simp [intOf]; omega
        · obtain rfl : J = I := by omega
          have hjj : ¬ ((J : Int) < J) := by omega
          go_wp2_with fail
          go_round
          case rel =>
            refine ⟨J + 1, by omega, by go_num, Lib.hid fun i hi j hj => ?_⟩
            rcases Nat.lt_or_ge i J with h | h
            · exact hok.out i h j hj
            · obtain rfl : i = J := by omega
              exact hok2.out j hj
          case measure => simp [intOf]; omega
    · obtain rfl : I = m := by omega
      have hii : ¬ ((I : Int) < I) := by omega
      have hbt : b = true := Hb.out.2 (joined_all hm Hs.out hok.out)
      subst hbt
      go_wp2_with fail
      go_ret
      exact ⟨rfl, (by repeat (first | exact Below.refl _ _ | assumption | refine Below.setCell ?_ (by first | omega | (simp; done) | (simp; omega)) _ | refine Below.alloc ?_ (by first | omega | (simp; done) | (simp; omega)) _ | apply Below.drew))⟩
end Go.Proofs.Ytfhegdgpcjhoaaa

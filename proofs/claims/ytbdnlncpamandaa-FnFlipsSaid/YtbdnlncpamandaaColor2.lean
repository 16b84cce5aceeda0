/- Texts of this claim, one behind the other: what each says stands at its head. -/
import Derived.Test.YtbdnlncpamandaaColor
import Derived.Test.YtbdnlncpamandaaFaces4
/- The program's colorFrom. -/
namespace Go.Proofs.Ytbdnlncpamandaa
set_option maxRecDepth 20000
open Go.RowKit
set_option linter.unusedSimpArgs false
set_option linter.unusedVariables false

theorem take_set_succ {cs : List Nat} {i x : Nat} (hi : i < cs.length) : (cs.set i x).take (i + 1) = cs.take i ++ [x] := by
  apply List.ext_getElem
  · simp; omega
  · intro j h1 h2
    rw [List.getElem_take, List.getElem_set]
    by_cases hij : i = j
    · subst hij
      rw [if_pos rfl, List.getElem_append_right (by simp; omega)]
      simp
    · have hj : j < i := by simp at h1; omega
      rw [if_neg hij, List.getElem_append_left (by simp; omega), List.getElem_take]
set_option maxRecDepth 100000 in
set_option maxHeartbeats 8000000 in
theorem colorFrom_any (m : Nat) (E : List Nat) (adj : Nat → Nat → Bool) (na : Option Addr) (nc : Nat) (g cc : Nat) (k : Nat) (hm : m ≤ 6) (hk : k ≤ 6) (hE : ∀ t ∈ E, t < 64) (hadj : ∀ i j, i < m → j < i → (nbs E i).testBit j = adj i j) (hne : ∀ b, na = some b → b.block ≠ g) : ∀ (r i : Nat) (cs : List Nat) (w : World) (B : Nat),
    IntsAt w na m (up (nbRow E m)) → Own 3 w B (some ⟨g, 0, none⟩) m cc (up cs) → i + r = m →
    Calls Try.prog 70 #[.slice na m nc, .slice (some ⟨g, 0, none⟩) m cc, .int .i64 i, .int .i64 k] w fun e w' =>
      e = .returned (.bool (cfind adj k r (cs.take i)).isSome) ∧ Below B w w' ∧ IntsAt w' na m (up (nbRow E m)) ∧ ∃ cs', Own 3 w' B (some ⟨g, 0, none⟩) m cc (up cs') ∧ cs'.take i = cs.take i ∧ ∀ L, cfind adj k r (cs.take i) = some L → cs' = L := by
  have HE := Lib.hid hE; have Hadj := Lib.hid hadj; have Hne := Lib.hid hne
  clear hE hadj hne
  intro r
  induction r with
  | zero =>
    intro i cs w B hx hown hr
    obtain rfl : i = m := by omega
    have hlen : cs.length = i := by have := hown.len; rwa [up_len] at this
    have htk : cs.take i = cs := by rw [← hlen, List.take_length]
    have Hx := Lib.hid hx; have HO := Lib.hid hown; have Htk := Lib.hid htk
    have hii : ((i : Int) == (i : Int)) = true := by simp
    clear hx hown hlen htk
    go_enter Try.func70, Try.ntmps70
    go_wp2_with fail
    go_ret
    refine ⟨rfl, Below.refl _ _, Hx.out, cs, HO.out, rfl, fun L hL => ?_⟩
    unfold cfind at hL
    injection hL with hL
    rw [← hL, Htk.out]
  | succ r ih =>
    intro i cs w B hx hown hr
    have hlen : cs.length = m := by have := hown.len; rwa [up_len] at this
    have him : i < m := by omega
    have hi6 : i < 6 := by omega
    have hii : ((i : Int) == (m : Int)) = false := by simp; omega
    have Hih := Lib.hid ih; clear ih
    have Hr := Lib.hid hr
    have HO := Lib.hid hown; have Hx := Lib.hid hx
    obtain ⟨h, hh⟩ : ∃ h, h = cs.take i := ⟨_, rfl⟩
    have hhl : h.length = i := by rw [hh]; simp; omega
    rw [← hh]
    have Hh := Lib.hid hh; have Hhl := Lib.hid hhl
    obtain ⟨res, hres⟩ : ∃ res, res = cfind adj k (r + 1) h := ⟨_, rfl⟩
    rw [← hres]
    have Hres := Lib.hid hres
    clear hx hown hlen hr hres hh hhl
    go_enter Try.func70, Try.ntmps70
    go_wp2_with fail
    go_loopw [9, 10, 11] (fun xv _ _ wr => ∃ X : Nat, X ≤ k ∧ xv = .int .i64 X ∧ Below B w wr ∧ ∃ cs', IntsAt wr na m (up (nbRow E m)) ∧ Own 3 wr B (some ⟨g, 0, none⟩) m cc (up cs') ∧ Hid (cs'.take i = h) ∧ Hid (∀ x, x < X → (if freeFor adj h x then cfind adj k r (h ++ [x]) else none) = none)) (fun xv _ _ _ => k - (intOf xv).toNat)
    case atStart => exact ⟨0, Nat.zero_le _, rfl, Below.refl _ _, cs, Hx.out, HO.out, Lib.hid Hh.out.symm, Lib.hid fun x hx => absurd hx (Nat.not_lt_zero _)⟩
    case round =>
      obtain ⟨X, hX, rfl, hb, cs', hx', hO', htk, hnone⟩ := hrel
      have HB := Lib.hid hb; have HOr := Lib.hid hO'; have Hxr := Lib.hid hx'
      have hlen : cs'.length = m := by have := hO'.len; rwa [up_len] at this
      have Hlen := Lib.hid hlen
      clear hb hO' hx' hlen
      obtain ⟨b1, o1, rfl, hcn⟩ := Hxr.out.cells (by omega)
      have hnear := hcn i him
      rw [nth_up, nbRow_at him] at hnear
      have hnb64 := nbs_lt HE.out i
      have hcol := HOr.out.reads.cellAt
      obtain ⟨u, hu⟩ : ∃ u, u = nbs E i := ⟨_, rfl⟩
      rw [← hu] at hnear hnb64
      have Hu := Lib.hid hu
      have hfro : ∀ j, wr.frozen? ⟨g, j, none⟩ = false := by
        obtain ⟨g', hg', _, _, _, hf⟩ := Row.cells HOr.out (by omega)
        cases hg'; exact hf
      have Hfro := Lib.hid hfro; have Hcol := Lib.hid hcol
      clear hcn hu hcol hfro
      by_cases hXk : X < k
      · have hX6 : X < 6 := by omega
        go_wp2_with fail
        go_loop [10, 11] (fun f j => ∃ J : Nat, J ≤ i ∧ j = .int .i64 J ∧ f = .bool ((List.range J).all fun j => !(adj i j && nthN h j == X))) (fun _ j => i - (intOf j).toNat)
        case atStart => exact ⟨0, Nat.zero_le _, rfl, rfl⟩
        case round =>
          obtain ⟨J, hJ, rfl, rfl⟩ := hrel
          by_cases hJt : J < i
          · have hck := Hcol.out J (by omega)
            rw [nth_up, Nat.zero_add] at hck
            have hv : nthN cs' J = nthN h J := by
              rw [← htk.out]; unfold nthN
              rw [List.getD_eq_getElem?_getD, List.getD_eq_getElem?_getD, List.getElem?_take, if_pos hJt]
            rw [hv] at hck
            have hall : ((List.range (J + 1)).all fun j => !(adj i j && nthN h j == X)) = (((List.range J).all fun j => !(adj i j && nthN h j == X)) && !(adj i J && nthN h J == X)) := by
              rw [List.range_succ, List.all_append]; simp
            obtain ⟨v, hv'⟩ : ∃ v, v = nthN h J := ⟨_, rfl⟩
            rw [← hv'] at hck hall
            obtain ⟨fb, hfb⟩ : ∃ fb, fb = ((List.range J).all fun j => !(adj i j && nthN h j == X)) := ⟨_, rfl⟩
            rw [← hfb] at hall ⊢
            have hbitE := Hadj.out i J him hJt
            rw [← Hu.out] at hbitE
            rw [← hbitE] at hall
            have Hall := Lib.hid hall
            have hJ0 : (0 : Int) ≤ J := by omega
            have hJm : (J : Int) < m := by omega
            have him' : (i : Int) < m := by omega
            have hbeq : (((v : Nat) : Int) == (X : Int)) = (v == X) := castBeq _ _
            clear hv hv' hfb hall hbitE
            cases hbit : u.testBit J
            · have Hbit := Lib.hid hbit
              go_wp2_with fail
              go_round
              case rel => exact ⟨J + 1, by omega, by go_num, by rw [Hall.out, Hbit.out]; simp⟩
              case measure => simp [intOf]; omega
            · have Hbit := Lib.hid hbit
              cases hvx : v == X
              · rw [hvx] at hbeq
                have Hvx := Lib.hid hvx
                clear hvx
                go_wp2_with fail
                go_round
                case rel => exact ⟨J + 1, by omega, by go_num, by rw [Hall.out, Hvx.out]; simp⟩
                case measure => simp [intOf]; omega
              · rw [hvx] at hbeq
                have Hvx := Lib.hid hvx
                clear hvx
                go_wp2_with fail
                go_round
                case rel => exact ⟨J + 1, by omega, by go_num, by rw [Hall.out, Hvx.out, Hbit.out]; simp⟩
                case measure => simp [intOf]; omega
          · obtain rfl : J = i := by omega
            have hJJ : ¬ ((J : Int) < J) := by omega
            have hfr : ((List.range J).all fun j => !(adj J j && nthN h j == X)) = freeFor adj h X := by unfold freeFor; rw [Hhl.out]
            rw [hfr]
            clear hfr
            obtain ⟨fr, hfr⟩ : ∃ fr, freeFor adj h X = fr := ⟨_, rfl⟩
            rw [hfr]
            have Hfr := Lib.hid hfr; clear hfr
            cases fr
            · have Hn : Hid ((if freeFor adj h X then cfind adj k r (h ++ [X]) else none) = none) := Lib.hid (by rw [Hfr.out]; rfl)
              go_wp2_with fail
              go_roundw
              case rel =>
                refine ⟨X + 1, by omega, by go_num, HB.out, cs', Hxr.out, HOr.out, htk, Lib.hid fun x hx => ?_⟩
                rcases Nat.lt_or_ge x X with h' | h'
                · exact hnone.out x h'
                · obtain rfl : x = X := by omega
                  exact Hn.out
              case measure => simp [intOf]; omega
            · have htk2 : (cs'.set J X).take (J + 1) = h ++ [X] := by rw [take_set_succ (by rw [Hlen.out]; exact him), htk.out]
              obtain ⟨r2, hr2⟩ : ∃ r2, r2 = cfind adj k r (h ++ [X]) := ⟨_, rfl⟩
              have Hn : Hid ((if freeFor adj h X then cfind adj k r (h ++ [X]) else none) = r2) := Lib.hid (by rw [Hfr.out, hr2]; rfl)
              have Hr2 := Lib.hid hr2; clear hr2
              have hck := Hcol.out J (by omega)
              rw [Nat.zero_add] at hck
              have hfz := Hfro.out J
              have HO2 : Hid (Own 3 (wr.setCell ⟨g, J, none⟩ (.int .i64 X)) B (some ⟨g, 0, none⟩) m cc (up (cs'.set J X))) := Lib.hid (by
                have := HOr.out.set J (X : Int)
                rw [show (up cs').set J (X : Int) = up (cs'.set J X) by unfold up; rw [List.map_set]] at this
                exact this)
              have hgB : B ≤ g := (HOr.out.lt g rfl).1
              have HB2 := Lib.hid (HB.out.setCell hgB (.int .i64 X) (p := ⟨g, J, none⟩))
              have HB2' := Lib.hid ((Below.refl B wr).setCell hgB (.int .i64 X) (p := ⟨g, J, none⟩))
              have Hx2 : Hid (IntsAt (wr.setCell ⟨g, J, none⟩ (.int .i64 X)) (some ⟨b1, o1, none⟩) m (up (nbRow E m))) := Lib.hid (by
                refine ⟨Hxr.out.len, Hxr.out.small, fun hn => ⟨b1, o1, rfl, fun q hq => ?_⟩⟩
                have hbg : b1 ≠ g := Hne.out _ rfl
                rw [World.cell?_setCell_other _ _ _ _ (by first | (simp; done) | (simp; exact fun e => absurd e hbg) | simp [hbg])]
                exact Hxr.out.cellAt q hq)
              have hcall := Hih.out (J + 1) (cs'.set J X) _ B Hx2.out HO2.out (by have := Hr.out; omega)
              rw [htk2, ← Hr2.out] at hcall
              have Hcall := Lib.hid hcall
              have hJ0 : (0 : Int) ≤ J := by omega
              have hJm : (J : Int) < m := by omega
              clear hcall
              cases r2 with
              | none =>
                go_wp2_with (go_at_call 70; refine Hcall.out.mono ?_; rintro e w5 ⟨rfl, hb5, hx5, cs5, hO5, htk5, hL5⟩; have HB5 := Lib.hid (HB2'.out.trans hb5); have HB6 := Lib.hid (HB.out.trans HB5.out); have Hx5 := Lib.hid hx5; have HO5 := Lib.hid hO5; have Htk5 := Lib.hid htk5; clear hb5 hx5 hO5 htk5 hL5)
                go_roundw
                case rel =>
                  refine ⟨X + 1, by omega, by go_num, HB6.out, cs5, Hx5.out, HO5.out, Lib.hid ?_, Lib.hid fun x hx => ?_⟩
                  · have h1 : (cs5.take (J + 1)).take J = ((h ++ [X]) : List Nat).take J := by rw [Htk5.out]
                    rw [List.take_take, List.take_left' Hhl.out, Nat.min_eq_left (by omega)] at h1
                    exact h1
                  · rcases Nat.lt_or_ge x X with h' | h'
                    · exact hnone.out x h'
                    · obtain rfl : x = X := by omega
                      exact Hn.out
                case measure => simp [intOf]; omega
              | some L0 =>
                have hR : res = some L0 := by
                  rw [Hres.out]; unfold cfind
                  exact fs_at hnone.out hXk Hn.out
                subst hR
                go_wp2_with (go_at_call 70; refine Hcall.out.mono ?_; rintro e w5 ⟨rfl, hb5, hx5, cs5, hO5, htk5, hL5⟩; have HB5 := Lib.hid (HB2'.out.trans hb5); have HB6 := Lib.hid (HB.out.trans HB5.out); have Hx5 := Lib.hid hx5; have HO5 := Lib.hid hO5; have Htk5 := Lib.hid htk5; have HL5 := Lib.hid hL5; clear hb5 hx5 hO5 htk5 hL5)
                go_ret
                refine ⟨rfl, HB6.out, Hx5.out, cs5, HO5.out, ?_, fun L hL => ?_⟩
                · have h1 : (cs5.take (J + 1)).take J = ((h ++ [X]) : List Nat).take J := by rw [Htk5.out]
                  rw [List.take_take, List.take_left' Hhl.out, Nat.min_eq_left (by omega)] at h1
                  exact h1
                · injection hL with hL
                  rw [← hL]; exact HL5.out L0 rfl
      · obtain rfl : X = k := by omega
        have hXX : ¬ ((X : Int) < X) := by omega
        have hR : res = none := by
          rw [Hres.out]; unfold cfind
          exact fs_none hnone.out
        subst hR
        go_wp2_with fail
        go_ret
        first
          | exact ⟨rfl, HB.out, Hxr.out, cs', HOr.out, htk.out, fun L hL => by cases hL⟩
          | exact ⟨rfl, HB.out, Hxr.out, cs', HOr.out, htk.out⟩
end Go.Proofs.Ytbdnlncpamandaa

/- Contracts of FirstColoring and LeastColors, the program's and the reference's. -/
namespace Go.Proofs.Ytbdnlncpamandaa
set_option maxRecDepth 20000
open Go.RowKit
set_option linter.unusedSimpArgs false
set_option linter.unusedVariables false

def adjB (l : List Nat) (i j : Nat) : Bool := isFace l (pr i j)
theorem adj_nbs {l : List Nat} {m i j : Nat} (hm : m ≤ 6) (hi : i < m) (hj : j < i) : (nbs (ofSize l 2) i).testBit j = adjB l i j := by
  have hE : ∀ t ∈ ofSize l 2, t < 64 ∧ isFace l t = true ∧ sz t = 2 := fun t ht => by
    unfold ofSize at ht
    rw [if_neg (by omega)] at ht
    exact mem_lvl.1 ht
  have h := nbs_pr (l := ofSize l 2) (i := i) (j := j) (by omega) (by omega) (fun t ht => (hE t ht).1) (fun t ht => (hE t ht).2.2)
  rw [Bool.eq_iff_iff, h]
  unfold adjB
  constructor
  · intro h; exact (hE _ h.2).2.1
  · intro h'
    refine ⟨by omega, ?_⟩
    unfold ofSize
    rw [if_neg (by omega)]
    exact mem_lvl.2 ⟨pr_lt (by omega) (by omega), h', pr_sz i (by omega) j (by omega) (by omega)⟩
theorem ofSize_lt {l : List Nat} : ∀ t ∈ ofSize l 2, t < 64 := fun t ht => by
  unfold ofSize at ht
  rw [if_neg (by omega)] at ht
  exact (mem_lvl.1 ht).1
/-- what FirstColoring hands back -/
def RetL2 (w : World) (ys : List Int) (b : Bool) (e : Ending) (w' : World) : Prop :=
  ∃ ad n c, e = .returned (.tuple #[.slice ad n c, .bool b]) ∧ Own 3 w' w.heap.size ad n c ys ∧ Below w.heap.size w w'
def FirP (p : Int) (xs : List Int) (k : Int) : Prop := Anti p xs ∧ 1 ≤ k ∧ k ≤ 6

theorem sFirst_no (p : Int) (a : Option Addr) (n c : Nat) (xs : List Int) (k : Int) (w : World) (h : IntsAt w a n xs) (hno : ¬ FirP p xs k) :
    Calls Try.prog 12 #[.agg #[.int .i64 p, .slice a n c], .int .i64 k] w (RetL2 w [] false) := by
  have hx : IntsAt (w.alloc (.cells #[.int .i64 p, .slice a n c] 26)) a n xs := h.keep (by repeat (first | exact Below.refl _ _ | assumption | refine Below.setCell ?_ (by first | omega | (simp; done) | (simp; omega)) _ | refine Below.alloc ?_ (by first | omega | (simp; done) | (simp; omega)) _ | apply Below.drew))
  have Hx := Lib.hid hx; clear hx h
  by_cases hA : Anti p xs
  · have hk : ¬ (1 ≤ k ∧ k ≤ 6) := fun h => hno ⟨hA, h.1, h.2⟩
    have HA := Lib.hid hA; have Hk := Lib.hid hk; clear hA hk hno
    go_enter Try.func12, Try.ntmps12
    go_wp2_with fail
    refine (sIsComplex_any p a n c xs _ Hx.out true (by simp [HA.out])).mono ?_
    rintro e w1 ⟨rfl, hb⟩
    have HB : Hid (Below w.heap.size w w1) := Lib.hid (Below.trans (by repeat (first | exact Below.refl _ _ | assumption | refine Below.setCell ?_ (by first | omega | (simp; done) | (simp; omega)) _ | refine Below.alloc ?_ (by first | omega | (simp; done) | (simp; omega)) _ | apply Below.drew)) (hb.mono (by simp <;> omega)))
    clear hb
    go_wp2_with (go_at_call 72; (with_reducible refine (l1In_no k 1 6 _ Hk.out).mono ?_); rintro e w' ⟨rfl, rfl⟩)
    refine bodyPost_ret (v := .tuple #[.slice (some ⟨w1.heap.size, 0, none⟩) 0 0, .bool false]) (by simp [results, Try.results12, go_sem]) rfl ⟨_, 0, 0, rfl, Own.empty _ _ _ HB.out.size, HB.out.alloc HB.out.size _⟩
  · have HA := Lib.hid hA; clear hA hno
    go_enter Try.func12, Try.ntmps12
    go_wp2_with fail
    refine (sIsComplex_any p a n c xs _ Hx.out false (by simp [HA.out])).mono ?_
    rintro e w1 ⟨rfl, hb⟩
    have HB : Hid (Below w.heap.size w w1) := Lib.hid (Below.trans (by repeat (first | exact Below.refl _ _ | assumption | refine Below.setCell ?_ (by first | omega | (simp; done) | (simp; omega)) _ | refine Below.alloc ?_ (by first | omega | (simp; done) | (simp; omega)) _ | apply Below.drew)) (hb.mono (by simp <;> omega)))
    clear hb
    go_wp2_with fail
    refine bodyPost_ret (v := .tuple #[.slice (some ⟨w1.heap.size, 0, none⟩) 0 0, .bool false]) (by simp [results, Try.results12, go_sem]) rfl ⟨_, 0, 0, rfl, Own.empty _ _ _ HB.out.size, HB.out.alloc HB.out.size _⟩
theorem sFirst_yes (m : Nat) (a : Option Addr) (n c : Nat) (l : List Nat) (k : Nat) (w : World) (h : IntsAt w a n (up l)) (hm : m ≤ 6) (h1 : 1 ≤ k) (h6 : k ≤ 6) (hA : Anti m (up l)) (hl : ∀ t ∈ l, t < 64) :
    Calls Try.prog 12 #[.agg #[.int .i64 m, .slice a n c], .int .i64 k] w (RetL2 w (up ((cfind (adjB l) k m []).getD [])) (cfind (adjB l) k m []).isSome) := by
  have hx : IntsAt (w.alloc (.cells #[.int .i64 m, .slice a n c] 26)) a n (up l) := h.keep (by repeat (first | exact Below.refl _ _ | assumption | refine Below.setCell ?_ (by first | omega | (simp; done) | (simp; omega)) _ | refine Below.alloc ?_ (by first | omega | (simp; done) | (simp; omega)) _ | apply Below.drew))
  have Hx := Lib.hid hx; have HA := Lib.hid hA; have Hl := Lib.hid hl
  have XA := Lib.hid (BoxF.new w (.int .i64 m) (.slice a n c) 26)
  clear hx h hA hl
  obtain ⟨res, hres⟩ : ∃ res, res = cfind (adjB l) k m [] := ⟨_, rfl⟩
  rw [← hres]
  have Hres := Lib.hid hres; clear hres
  have hk1 : (1 : Int) ≤ k := by omega
  have hk6 : (k : Int) ≤ 6 := by omega
  go_enter Try.func12, Try.ntmps12
  go_wp2_with fail
  refine (sIsComplex_any m a n c _ _ Hx.out true (by simp [HA.out])).mono ?_
  rintro e w1 ⟨rfl, hb⟩
  have HB : Hid (Below w.heap.size w w1) := Lib.hid (Below.trans (by repeat (first | exact Below.refl _ _ | assumption | refine Below.setCell ?_ (by first | omega | (simp; done) | (simp; omega)) _ | refine Below.alloc ?_ (by first | omega | (simp; done) | (simp; omega)) _ | apply Below.drew)) (hb.mono (by simp <;> omega)))
  have Hx1 := Lib.hid (Hx.out.keep hb)
  obtain ⟨p0, p1, _, _, _⟩ := XA.out.keep hb (by simp)
  have hz : w.heap.size + 1 ≤ w1.heap.size := by have := hb.size; simp at this; omega
  clear hb
  have Hx2 := Lib.hid (Hx1.out.keep (w' := w1.alloc (.cells #[] 3)) (by repeat (first | exact Below.refl _ _ | assumption | refine Below.setCell ?_ (by first | omega | (simp; done) | (simp; omega)) _ | refine Below.alloc ?_ (by first | omega | (simp; done) | (simp; omega)) _ | apply Below.drew)))
  have HO := Lib.hid (Own.empty 3 w1 w1.heap.size (Nat.le_refl _))
  go_wp2_with (first | (go_at_call 72; (with_reducible refine (l1In_yes k 1 6 _ hk1 hk6).mono ?_); rintro e w' ⟨rfl, rfl⟩) | (go_at_call 73; refine (l28Find_any m a n c l k hm h6 Hl.out m [] _ 0 0 w1.heap.size _ Hx2.out HO.out (by simp) (by simp)).mono ?_; rw [show (fun i j => isFace l (pr i j)) = adjB l from rfl, ← Hres.out]; rintro e w2 ⟨ad, n2, c2, rfl, hown, hb⟩; have HO2 := Lib.hid hown; have HB2 := Lib.hid ((HB.out.alloc HB.out.size (.cells #[] 3)).trans (hb.mono (by simp; omega))); clear hown hb))
  refine bodyPost_ret (v := .tuple #[.slice ad n2 c2, .bool res.isSome]) (by simp [results, Try.results12, go_sem]) rfl ⟨ad, n2, c2, rfl, HO2.out.mono (by omega), HB2.out⟩

set_option maxRecDepth 100000 in
set_option maxHeartbeats 1000000 in
theorem iFirst_no (p : Int) (a : Option Addr) (n c : Nat) (xs : List Int) (k : Int) (w : World) (h : IntsAt w a n xs) (hcap : n ≤ c) (hno : ¬ FirP p xs k) :
    Calls Try.prog 11 #[.agg #[.int .i64 p, .slice a n c], .int .i64 k] w (RetL2 w [] false) := by
  have hx : IntsAt (w.alloc (.cells #[.int .i64 p, .slice a n c] 26)) a n xs := h.keep (by repeat (first | exact Below.refl _ _ | assumption | refine Below.setCell ?_ (by first | omega | (simp; done) | (simp; omega)) _ | refine Below.alloc ?_ (by first | omega | (simp; done) | (simp; omega)) _ | apply Below.drew))
  have Hx := Lib.hid hx; have Hcap := Lib.hid hcap; clear hx h hcap
  by_cases hA : Anti p xs
  · obtain ⟨l, rfl, hl2, _⟩ := hA.nat
    have hk : k < 1 ∨ 6 < k := by
      by_cases h1 : k < 1
      · exact .inl h1
      · refine .inr ?_
        by_cases h2 : 6 < k
        · exact h2
        · exact absurd ⟨hA, by omega, by omega⟩ hno
    have HA := Lib.hid hA; have Hl := Lib.hid (fun t ht => (hl2 t ht).2 : ∀ t ∈ l, t < 64)
    clear hA hno hl2
    rcases hk with hk | hk
    · go_enter Try.func11, Try.ntmps11
      go_wp2_with fail
      refine (iGraphOf_yes p a n c l _ Hx.out Hcap.out HA.out Hl.out).mono ?_
      rintro e w1 ⟨ad, d, r, rfl, hown, hb⟩
      have HB : Hid (Below w.heap.size w w1) := Lib.hid (Below.trans (by repeat (first | exact Below.refl _ _ | assumption | refine Below.setCell ?_ (by first | omega | (simp; done) | (simp; omega)) _ | refine Below.alloc ?_ (by first | omega | (simp; done) | (simp; omega)) _ | apply Below.drew)) (hb.mono (by simp <;> omega)))
      clear hb hown
      go_wp2_with fail
      refine bodyPost_ret (v := .tuple #[.slice none 0 0, .bool false]) (by simp [results, Try.results11, go_sem]) rfl ⟨none, 0, 0, rfl, Own.nil _ _ _, HB.out.alloc HB.out.size _⟩
    · have hk1 : ¬ k < 1 := by omega
      go_enter Try.func11, Try.ntmps11
      go_wp2_with fail
      refine (iGraphOf_yes p a n c l _ Hx.out Hcap.out HA.out Hl.out).mono ?_
      rintro e w1 ⟨ad, d, r, rfl, hown, hb⟩
      have HB : Hid (Below w.heap.size w w1) := Lib.hid (Below.trans (by repeat (first | exact Below.refl _ _ | assumption | refine Below.setCell ?_ (by first | omega | (simp; done) | (simp; omega)) _ | refine Below.alloc ?_ (by first | omega | (simp; done) | (simp; omega)) _ | apply Below.drew)) (hb.mono (by simp <;> omega)))
      clear hb hown
      go_wp2_with fail
      refine bodyPost_ret (v := .tuple #[.slice none 0 0, .bool false]) (by simp [results, Try.results11, go_sem]) rfl ⟨none, 0, 0, rfl, Own.nil _ _ _, HB.out.alloc HB.out.size _⟩
  · have HA := Lib.hid hA; clear hA hno
    go_enter Try.func11, Try.ntmps11
    go_wp2_with fail
    refine (iGraphOf_no p a n c xs _ Hx.out Hcap.out HA.out).mono ?_
    rintro e w1 ⟨ad, d, r, rfl, hown, hb⟩
    have HB : Hid (Below w.heap.size w w1) := Lib.hid (Below.trans (by repeat (first | exact Below.refl _ _ | assumption | refine Below.setCell ?_ (by first | omega | (simp; done) | (simp; omega)) _ | refine Below.alloc ?_ (by first | omega | (simp; done) | (simp; omega)) _ | apply Below.drew)) (hb.mono (by simp <;> omega)))
    clear hb hown
    go_wp2_with fail
    refine bodyPost_ret (v := .tuple #[.slice none 0 0, .bool false]) (by simp [results, Try.results11, go_sem]) rfl ⟨none, 0, 0, rfl, Own.nil _ _ _, HB.out.alloc HB.out.size _⟩
set_option maxRecDepth 100000 in
set_option maxHeartbeats 2000000 in
theorem iFirst_yes (m : Nat) (a : Option Addr) (n c : Nat) (l : List Nat) (k : Nat) (w : World) (h : IntsAt w a n (up l)) (hcap : n ≤ c) (hm1 : 1 ≤ m) (hm : m ≤ 6) (h1 : 1 ≤ k) (h6 : k ≤ 6) (hA : Anti m (up l)) (hl : ∀ t ∈ l, t < 64) :
    Calls Try.prog 11 #[.agg #[.int .i64 m, .slice a n c], .int .i64 k] w (RetL2 w (up ((cfind (adjB l) k m []).getD [])) (cfind (adjB l) k m []).isSome) := by
  have hx : IntsAt (w.alloc (.cells #[.int .i64 m, .slice a n c] 26)) a n (up l) := h.keep (by repeat (first | exact Below.refl _ _ | assumption | refine Below.setCell ?_ (by first | omega | (simp; done) | (simp; omega)) _ | refine Below.alloc ?_ (by first | omega | (simp; done) | (simp; omega)) _ | apply Below.drew))
  have Hx := Lib.hid hx; have HA := Lib.hid hA; have Hl := Lib.hid hl; have Hcap := Lib.hid hcap
  clear hx h hA hl hcap
  obtain ⟨res, hres⟩ : ∃ res, res = cfind (adjB l) k m [] := ⟨_, rfl⟩
  rw [← hres]
  have Hres := Lib.hid hres; clear hres
  have hk1 : ¬ (k : Int) < 1 := by omega
  have hk6 : ¬ (6 : Int) < k := by omega
  have hE := ofSize_lt (l := l)
  obtain ⟨E, hEe⟩ : ∃ E, E = ofSize l 2 := ⟨_, rfl⟩
  have hadj : ∀ i j, i < m → j < i → (nbs E i).testBit j = adjB l i j := fun i j hi hj => by rw [hEe]; exact adj_nbs hm hi hj
  rw [← hEe] at hE
  have HE := Lib.hid hE; have HEe := Lib.hid hEe; have Hadj := Lib.hid hadj
  clear hE hEe hadj
  go_enter Try.func11, Try.ntmps11
  go_wp2_with fail
  refine (iGraphOf_yes m a n c l _ Hx.out Hcap.out HA.out Hl.out).mono ?_
  rw [← HEe.out]
  rintro e w1 ⟨ad, d, r, rfl, hown, hb⟩
  have HB : Hid (Below w.heap.size w w1) := Lib.hid (Below.trans (by repeat (first | exact Below.refl _ _ | assumption | refine Below.setCell ?_ (by first | omega | (simp; done) | (simp; omega)) _ | refine Below.alloc ?_ (by first | omega | (simp; done) | (simp; omega)) _ | apply Below.drew)) (hb.mono (by simp <;> omega)))
  have XG := Lib.hid (BoxF.new w1 (.int .i64 m) (.slice ad d r) 71)
  have HOE := Lib.hid (hown.reads.keep (w' := w1.alloc (.cells #[.int .i64 m, .slice ad d r] 71)) (by repeat (first | exact Below.refl _ _ | assumption | refine Below.setCell ?_ (by first | omega | (simp; done) | (simp; omega)) _ | refine Below.alloc ?_ (by first | omega | (simp; done) | (simp; omega)) _ | apply Below.drew)))
  have HB1 := Lib.hid (HB.out.alloc HB.out.size (.cells #[.int .i64 m, .slice ad d r] 71))
  have hz1 : w.heap.size ≤ w1.heap.size := HB.out.size
  clear hb hown
  go_wp2_with (at_make; refine mk_ints rfl _ _ rfl _ rfl rfl m rfl (by omega) ?_; intro g w2 hown2 hb2; have HOc := Lib.hid hown2; have HB2 := Lib.hid (HB1.out.trans (hb2.mono HB1.out.size)); have XG2 := Lib.hid (XG.out.keep hb2 (by simp)); have HOE2 := Lib.hid (HOE.out.keep hb2); obtain ⟨g0, g1, _, _, _⟩ := XG2.out; clear hown2 hb2)
  refine (neighborsIn_any m ad d r E _ HOE2.out hm HE.out).mono ?_
  rintro e w3 ⟨na, nn, nc, rfl, hown3, hb3⟩
  have HN : Hid (IntsAt w3 na nn (up (nbRow E m))) := Lib.hid hown3.reads
  have hnn : nn = m := by have := HN.out.len; rw [up_len] at this; unfold nbRow at this; simpa using this.symm
  subst hnn
  have hgl := (HOc.out.lt g rfl).2
  have hne : ∀ b, na = some b → b.block ≠ g := fun b hb => by
    have := (hown3.lt b.block (by rw [hb]; rfl)).1
    omega
  have Hne := Lib.hid hne
  have hrep : List.replicate nn (0 : Int) = up (List.replicate nn 0) := by unfold up; simp
  have HOc3 : Hid (Own 3 w3 (w1.heap.size + 1) (some ⟨g, 0, none⟩) nn nn (up (List.replicate nn 0))) := Lib.hid (by
    have := (HOc.out.keep hb3).mono (show w1.heap.size + 1 ≤ _ by simp)
    rw [hrep] at this; exact this)
  have HB3 := Lib.hid (HB2.out.trans (hb3.mono HB2.out.size))
  clear hown3 hb3 hne hrep hgl
  have hcall := colorFrom_any nn E (adjB l) na nc g nn k hm h6 HE.out Hadj.out Hne.out nn 0 (List.replicate nn 0) w3 (w1.heap.size + 1) HN.out HOc3.out (by omega)
  rw [List.take_zero, ← Hres.out] at hcall
  have Hcall := Lib.hid hcall
  clear hcall
  cases res with
  | none =>
    go_wp2_with (go_at_call 70; refine Hcall.out.mono ?_; rintro e w5 ⟨rfl, hb5, hx5, cs5, hO5, htk5, hL5⟩; have HB5 := Lib.hid (HB3.out.trans (hb5.mono (by omega))); clear hb5 hx5 hO5 htk5 hL5)
    refine bodyPost_ret (v := .tuple #[.slice none 0 0, .bool false]) (by simp [results, Try.results11, go_sem]) rfl ⟨none, 0, 0, rfl, Own.nil _ _ _, HB5.out⟩
  | some L =>
    go_wp2_with (go_at_call 70; refine Hcall.out.mono ?_; rintro e w5 ⟨rfl, hb5, hx5, cs5, hO5, htk5, hL5⟩; have HB5 := Lib.hid (HB3.out.trans (hb5.mono (by omega))); have hL := hL5 L rfl; subst hL; have HO5 := Lib.hid hO5; clear hb5 hx5 hO5 htk5 hL5)
    refine bodyPost_ret (v := .tuple #[.slice (some ⟨g, 0, none⟩) nn nn, .bool true]) (by simp [results, Try.results11, go_sem]) rfl ⟨_, nn, nn, rfl, HO5.out.mono (by omega), HB5.out⟩
end Go.Proofs.Ytbdnlncpamandaa

/- The program's colorFrom. -/
import Derived.Test.YtbdnlncpamandaaColor
namespace Go.Proofs.Ytbdnlncpamandaa
set_option maxRecDepth 20000
open Go.RowKit
set_option linter.unusedSimpArgs false
set_option linter.unusedVariables false

theorem take_set_succ {cs : List Nat} {i x : Nat} (hi : i < cs.length) : (cs.set i x).take (i + 1) = cs.take i ++ [x] := by
  apply List.ext_getElem
  · simp; omega
  · intro j h1 h2
    rw [List.getElem_take, List.getElem_set]
    by_cases hij : i = j
    · subst hij
      rw [if_pos rfl, List.getElem_append_right (by simp; omega)]
      simp
    · have hj : j < i := by simp at h1; omega
      rw [if_neg hij, List.getElem_append_left (by simp; omega), List.getElem_take]
set_option maxRecDepth 100000 in
set_option maxHeartbeats 8000000 in
theorem colorFrom_any (m : Nat) (E : List Nat) (adj : Nat → Nat → Bool) (na : Option Addr) (nc : Nat) (g cc : Nat) (k : Nat) (hm : m ≤ 6) (hk : k ≤ 6) (hE : ∀ t ∈ E, t < 64) (hadj : ∀ i j, i < m → j < i → (nbs E i).testBit j = adj i j) (hne : ∀ b, na = some b → b.block ≠ g) : ∀ (r i : Nat) (cs : List Nat) (w : World) (B : Nat),
    IntsAt w na m (up (nbRow E m)) → Own 3 w B (some ⟨g, 0, none⟩) m cc (up cs) → i + r = m →
    Calls Try.prog 70 #[.slice na m nc, .slice (some ⟨g, 0, none⟩) m cc, .int .i64 i, .int .i64 k] w fun e w' =>
      e = .returned (.bool (cfind adj k r (cs.take i)).isSome) ∧ Below B w w' ∧ IntsAt w' na m (up (nbRow E m)) ∧ ∃ cs', Own 3 w' B (some ⟨g, 0, none⟩) m cc (up cs') ∧ cs'.take i = cs.take i ∧ ∀ L, cfind adj k r (cs.take i) = some L → cs' = L := by
  have HE := Lib.hid hE; have Hadj := Lib.hid hadj; have Hne := Lib.hid hne
  clear hE hadj hne
  intro r
  induction r with
  | zero =>
    intro i cs w B hx hown hr
    obtain rfl : i = m := by omega
    have hlen : cs.length = i := by have := hown.len; rwa [up_len] at this
    have htk : cs.take i = cs := by rw [← hlen, List.take_length]
    have Hx := Lib.hid hx; have HO := Lib.hid hown; have Htk := Lib.hid htk
    have hii : ((i : Int) == (i : Int)) = true := by simp
    clear hx hown hlen htk
    go_enter Try.func70, Try.ntmps70
    go_wp2_with fail
    go_ret
    refine ⟨rfl, Below.refl _ _, Hx.out, cs, HO.out, rfl, fun L hL => ?_⟩
    unfold cfind at hL
    injection hL with hL
    rw [← hL, Htk.out]
  | succ r ih =>
    intro i cs w B hx hown hr
    have hlen : cs.length = m := by have := hown.len; rwa [up_len] at this
    have him : i < m := by omega
    have hi6 : i < 6 := by omega
    have hii : ((i : Int) == (m : Int)) = false := by simp; omega
    have Hih := Lib.hid ih; clear ih
    have Hr := Lib.hid hr
    have HO := Lib.hid hown; have Hx := Lib.hid hx
    obtain ⟨h, hh⟩ : ∃ h, h = cs.take i := ⟨_, rfl⟩
    have hhl : h.length = i := by rw [hh]; simp; omega
    rw [← hh]
    have Hh := Lib.hid hh; have Hhl := Lib.hid hhl
    obtain ⟨res, hres⟩ : ∃ res, res = cfind adj k (r + 1) h := ⟨_, rfl⟩
    rw [← hres]
    have Hres := Lib.hid hres
    clear hx hown hlen hr hres hh hhl
    go_enter Try.func70, Try.ntmps70
    go_wp2_with fail
    go_loopw [9, 10, 11] (fun xv _ _ wr => ∃ X : Nat, X ≤ k ∧ xv = .int .i64 X ∧ Below B w wr ∧ ∃ cs', IntsAt wr na m (up (nbRow E m)) ∧ Own 3 wr B (some ⟨g, 0, none⟩) m cc (up cs') ∧ Hid (cs'.take i = h) ∧ Hid (∀ x, x < X → (if freeFor adj h x then cfind adj k r (h ++ [x]) else none) = none)) (fun xv _ _ _ => k - (intOf xv).toNat)
    case atStart => exact ⟨0, Nat.zero_le _, rfl, Below.refl _ _, cs, Hx.out, HO.out, Lib.hid Hh.out.symm, Lib.hid fun x hx => absurd hx (Nat.not_lt_zero _)⟩
    case round =>
      obtain ⟨X, hX, rfl, hb, cs', hx', hO', htk, hnone⟩ := hrel
      have HB := Lib.hid hb; have HOr := Lib.hid hO'; have Hxr := Lib.hid hx'
      have hlen : cs'.length = m := by have := hO'.len; rwa [up_len] at this
      have Hlen := Lib.hid hlen
      clear hb hO' hx' hlen
      obtain ⟨b1, o1, rfl, hcn⟩ := Hxr.out.cells (by omega)
      have hnear := hcn i him
      rw [nth_up, nbRow_at him] at hnear
      have hnb64 := nbs_lt HE.out i
      have hcol := HOr.out.reads.cellAt
      obtain ⟨u, hu⟩ : ∃ u, u = nbs E i := ⟨_, rfl⟩
      rw [← hu] at hnear hnb64
      have Hu := Lib.hid hu
      have hfro : ∀ j, wr.frozen? ⟨g, j, none⟩ = false := by
        obtain ⟨g', hg', _, _, _, hf⟩ := Row.cells HOr.out (by omega)
        cases hg'; exact hf
      have Hfro := Lib.hid hfro; have Hcol := Lib.hid hcol
      clear hcn hu hcol hfro
      by_cases hXk : X < k
      · have hX6 : X < 6 := by omega
        go_wp2_with fail
        go_loop [10, 11] (fun f j => ∃ J : Nat, J ≤ i ∧ j = .int .i64 J ∧ f = .bool ((List.range J).all fun j => !(adj i j && nthN h j == X))) (fun _ j => i - (intOf j).toNat)
        case atStart => exact ⟨0, Nat.zero_le _, rfl, rfl⟩
        case round =>
          obtain ⟨J, hJ, rfl, rfl⟩ := hrel
          by_cases hJt : J < i
          · have hck := Hcol.out J (by omega)
            rw [nth_up, Nat.zero_add] at hck
            have hv : nthN cs' J = nthN h J := by
              rw [← htk.out]; unfold nthN
              rw [List.getD_eq_getElem?_getD, List.getD_eq_getElem?_getD, List.getElem?_take, if_pos hJt]
            rw [hv] at hck
            have hall : ((List.range (J + 1)).all fun j => !(adj i j && nthN h j == X)) = (((List.range J).all fun j => !(adj i j && nthN h j == X)) && !(adj i J && nthN h J == X)) := by
              rw [List.range_succ, List.all_append]; simp
            obtain ⟨v, hv'⟩ : ∃ v, v = nthN h J := ⟨_, rfl⟩
            rw [← hv'] at hck hall
            obtain ⟨fb, hfb⟩ : ∃ fb, fb = ((List.range J).all fun j => !(adj i j && nthN h j == X)) := ⟨_, rfl⟩
            rw [← hfb] at hall ⊢
            have hbitE := Hadj.out i J him hJt
            rw [← Hu.out] at hbitE
            rw [← hbitE] at hall
            have Hall := Lib.hid hall
            have hJ0 : (0 : Int) ≤ J := by omega
            have hJm : (J : Int) < m := by omega
            have him' : (i : Int) < m := by omega
            have hbeq : (((v : Nat) : Int) == (X : Int)) = (v == X) := castBeq _ _
            clear hv hv' hfb hall hbitE
            cases hbit : u.testBit J
            · have Hbit := Lib.hid hbit
              go_wp2_with fail
              go_round
              case rel => exact ⟨J + 1, by omega, by go_num, by rw [Hall.out, Hbit.out]; simp⟩
              case measure => simp [intOf]; omega
            · have Hbit := Lib.hid hbit
              cases hvx : v == X
              · rw [hvx] at hbeq
                have Hvx := Lib.hid hvx
                clear hvx
                go_wp2_with fail
                go_round
                case rel => exact ⟨J + 1, by omega, by go_num, by rw [Hall.out, Hvx.out]; simp⟩
                case measure => simp [intOf]; omega
              · rw [hvx] at hbeq
                have Hvx := Lib.hid hvx
                clear hvx
                go_wp2_with fail
                go_round
                case rel => exact ⟨J + 1, by omega, by go_num, by rw [Hall.out, Hvx.out, Hbit.out]; simp⟩
                case measure => simp [intOf]; omega
          · obtain rfl : J = i := by omega
            have hJJ : ¬ ((J : Int) < J) := by omega
            have hfr : ((List.range J).all fun j => !(adj J j && nthN h j == X)) = freeFor adj h X := by unfold freeFor; rw [Hhl.out]
            rw [hfr]
            clear hfr
            obtain ⟨fr, hfr⟩ : ∃ fr, freeFor adj h X = fr := ⟨_, rfl⟩
            rw [hfr]
            have Hfr := Lib.hid hfr; clear hfr
            cases fr
            · have Hn : Hid ((if freeFor adj h X then cfind adj k r (h ++ [X]) else none) = none) := Lib.hid (by rw [Hfr.out]; rfl)
              go_wp2_with fail
              go_roundw
              case rel =>
                refine ⟨X + 1, by omega, by go_num, HB.out, cs', Hxr.out, HOr.out, htk, Lib.hid fun x hx => ?_⟩
                rcases Nat.lt_or_ge x X with h' | h'
                · exact hnone.out x h'
                · obtain rfl : x = X := by omega
                  exact Hn.out
              case measure => simp [intOf]; omega
            · have htk2 : (cs'.set J X).take (J + 1) = h ++ [X] := by rw [take_set_succ (by rw [Hlen.out]; exact him), htk.out]
              obtain ⟨r2, hr2⟩ : ∃ r2, r2 = cfind adj k r (h ++ [X]) := ⟨_, rfl⟩
              have Hn : Hid ((if freeFor adj h X then cfind adj k r (h ++ [X]) else none) = r2) := Lib.hid (by rw [Hfr.out, hr2]; rfl)
              have Hr2 := Lib.hid hr2; clear hr2
              have hck := Hcol.out J (by omega)
              rw [Nat.zero_add] at hck
              have hfz := Hfro.out J
              have HO2 : Hid (Own 3 (wr.setCell ⟨g, J, none⟩ (.int .i64 X)) B (some ⟨g, 0, none⟩) m cc (up (cs'.set J X))) := Lib.hid (by
                have := HOr.out.set J (X : Int)
                rw [show (up cs').set J (X : Int) = up (cs'.set J X) by unfold up; rw [List.map_set]] at this
                exact this)
              have hgB : B ≤ g := (HOr.out.lt g rfl).1
              have HB2 := Lib.hid (HB.out.setCell hgB (.int .i64 X) (p := ⟨g, J, none⟩))
              have HB2' := Lib.hid ((Below.refl B wr).setCell hgB (.int .i64 X) (p := ⟨g, J, none⟩))
              have Hx2 : Hid (IntsAt (wr.setCell ⟨g, J, none⟩ (.int .i64 X)) (some ⟨b1, o1, none⟩) m (up (nbRow E m))) := Lib.hid (by
                refine ⟨Hxr.out.len, Hxr.out.small, fun hn => ⟨b1, o1, rfl, fun q hq => ?_⟩⟩
                have hbg : b1 ≠ g := Hne.out _ rfl
                rw [World.cell?_setCell_other _ _ _ _ (by first | (simp; done) | (simp; exact fun e => absurd e hbg) | simp [hbg])]
                exact Hxr.out.cellAt q hq)
              have hcall := Hih.out (J + 1) (cs'.set J X) _ B Hx2.out HO2.out (by have := Hr.out; omega)
              rw [htk2, ← Hr2.out] at hcall
              have Hcall := Lib.hid hcall
              have hJ0 : (0 : Int) ≤ J := by omega
              have hJm : (J : Int) < m := by omega
              clear hcall
              cases r2 with
              | none =>
                go_wp2_with (go_at_call 70; refine Hcall.out.mono ?_; rintro e w5 ⟨rfl, hb5, hx5, cs5, hO5, htk5, hL5⟩; have HB5 := Lib.hid (HB2'.out.trans hb5); have HB6 := Lib.hid (HB.out.trans HB5.out); have Hx5 := Lib.hid hx5; have HO5 := Lib.hid hO5; have Htk5 := Lib.hid htk5; clear hb5 hx5 hO5 htk5 hL5)
                go_roundw
                case rel =>
                  refine ⟨X + 1, by omega, by go_num, HB6.out, cs5, Hx5.out, HO5.out, Lib.hid ?_, Lib.hid fun x hx => ?_⟩
                  · have h1 : (cs5.take (J + 1)).take J = ((h ++ [X]) : List Nat).take J := by rw [Htk5.out]
                    rw [List.take_take, List.take_left' Hhl.out, Nat.min_eq_left (by omega)] at h1
                    exact h1
                  · rcases Nat.lt_or_ge x X with h' | h'
                    · exact hnone.out x h'
                    · obtain rfl : x = X := by omega
                      exact Hn.out
                case measure => simp [intOf]; omega
              | some L0 =>
                have hR : res = some L0 := by
                  rw [Hres.out]; unfold cfind
                  exact fs_at hnone.out hXk Hn.out
                subst hR
                go_wp2_with (go_at_call 70; refine Hcall.out.mono ?_; rintro e w5 ⟨rfl, hb5, hx5, cs5, hO5, htk5, hL5⟩; have HB5 := Lib.hid (HB2'.out.trans hb5); have HB6 := Lib.hid (HB.out.trans HB5.out); have Hx5 := Lib.hid hx5; have HO5 := Lib.hid hO5; have Htk5 := Lib.hid htk5; have HL5 := Lib.hid hL5; clear hb5 hx5 hO5 htk5 hL5)
                go_ret
                refine ⟨rfl, HB6.out, Hx5.out, cs5, HO5.out, ?_, fun L hL => ?_⟩
                · have h1 : (cs5.take (J + 1)).take J = ((h ++ [X]) : List Nat).take J := by rw [Htk5.out]
                  rw [List.take_take, List.take_left' Hhl.out, Nat.min_eq_left (by omega)] at h1
                  exact h1
                · injection hL with hL
                  rw [← hL]; exact HL5.out L0 rfl
      · obtain rfl : X = k := by omega
        have hXX : ¬ ((X : Int) < X) := by omega
        have hR : res = none := by
          rw [Hres.out]; unfold cfind
          exact fs_none hnone.out
        subst hR
        go_wp2_with fail
        go_ret
        first
          | exact ⟨rfl, HB.out, Hxr.out, cs', HOr.out, htk.out, fun L hL => by cases hL⟩
          | exact ⟨rfl, HB.out, Hxr.out, cs', HOr.out, htk.out⟩
end Go.Proofs.Ytbdnlncpamandaa

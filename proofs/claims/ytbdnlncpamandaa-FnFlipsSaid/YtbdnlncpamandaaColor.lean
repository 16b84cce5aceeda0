/- The search for a coloring: the program's colorFrom and the reference's l28Find. -/
import Derived.Deep.DeepCutAuto
import Derived.Test.YtbdnlncpamandaaChord
import Derived.Test.YtbdnlncpamandaaCore
import Derived.Test.YtbdnlncpamandaaFaces4
namespace Go.Proofs.Ytbdnlncpamandaa
set_option maxRecDepth 20000
open Go.RowKit
set_option linter.unusedSimpArgs false
set_option linter.unusedVariables false

/-- the colour x is free for the point behind h -/
def freeFor (adj : Nat → Nat → Bool) (h : List Nat) (x : Nat) : Bool := (List.range h.length).all fun j => !(adj h.length j && nthN h j == x)
/-- the first coloring that begins with h -/
def cfind (adj : Nat → Nat → Bool) (k : Nat) : Nat → List Nat → Option (List Nat)
  | 0, h => some h
  | r + 1, h => (List.range k).findSome? fun x => if freeFor adj h x then cfind adj k r (h ++ [x]) else none
theorem fs_at {α : Type} {f : Nat → Option α} {k X : Nat} {y : α} (h0 : ∀ x, x < X → f x = none) (hX : X < k) (h1 : f X = some y) : (List.range k).findSome? f = some y := by
  have e : List.range k = List.range X ++ (List.range (k - X)).map (X + ·) := by rw [← List.range_add]; congr 1; omega
  rw [e, List.findSome?_append]
  have h2 : (List.range X).findSome? f = none := by
    rw [List.findSome?_eq_none_iff]
    intro x hx; exact h0 x (List.mem_range.1 hx)
  rw [h2]
  obtain ⟨d, hd⟩ : ∃ d, k - X = d + 1 := ⟨k - X - 1, by omega⟩
  rw [hd, List.range_succ_eq_map]
  simp [h1]
theorem fs_none {α : Type} {f : Nat → Option α} {k : Nat} (h0 : ∀ x, x < k → f x = none) : (List.range k).findSome? f = none := by
  rw [List.findSome?_eq_none_iff]
  intro x hx; exact h0 x (List.mem_range.1 hx)
theorem cfind_len {adj : Nat → Nat → Bool} {k : Nat} : ∀ {r : Nat} {h L : List Nat}, cfind adj k r h = some L → L.length = h.length + r := by
  intro r
  induction r with
  | zero => intro h L e; unfold cfind at e; injection e with e; subst e; simp
  | succ r ih =>
    intro h L e
    unfold cfind at e
    obtain ⟨x, _, hx⟩ := List.exists_of_findSome?_eq_some e
    split at hx
    · have := ih hx; simp at this; omega
    · cases hx
/-- What a search hands back: the list and whether there is one. -/
def RetFind (w : World) (B : Nat) (res : Option (List Nat)) (e : Ending) (w' : World) : Prop :=
  ∃ ad n c, e = .returned (.tuple #[.slice ad n c, .bool res.isSome]) ∧ Own 3 w' B ad n c (up (res.getD [])) ∧ Below w.heap.size w w'

set_option maxRecDepth 100000 in
set_option maxHeartbeats 8000000 in
theorem l28Find_any (m : Nat) (a : Option Addr) (n c : Nat) (l : List Nat) (k : Nat) (hm : m ≤ 6) (hk : k ≤ 6) (hl : ∀ t ∈ l, t < 64) : ∀ (r : Nat) (h : List Nat) (ad : Option Addr) (hn hc : Nat) (B : Nat) (w : World),
    IntsAt w a n (up l) → Own 3 w B ad hn hc (up h) → B ≤ w.heap.size → h.length + r = m →
    Calls Try.prog 73 #[.agg #[.int .i64 m, .slice a n c], .int .i64 k, .slice ad hn hc] w (RetFind w B (cfind (fun i j => isFace l (pr i j)) k r h)) := by
  have Hl := Lib.hid hl; clear hl
  intro r
  induction r with
  | zero =>
    intro h ad hn hc B w hx hown hB hr
    have hlen : hn = m := by have := hown.len; rw [up_len] at this; omega
    subst hlen
    have HO := Lib.hid (hown.alloc (.cells #[.int .i64 hn, .slice a n c] 26))
    clear hx hown
    go_enter Try.func73, Try.ntmps73
    go_wp2_with fail
    refine bodyPost_ret (v := .tuple #[.slice ad hn hc, .bool true]) (by simp [results, Try.results73, go_sem]) rfl ⟨ad, hn, hc, rfl, HO.out, (by repeat (first | exact Below.refl _ _ | assumption | refine Below.setCell ?_ (by first | omega | (simp; done) | (simp; omega)) _ | refine Below.alloc ?_ (by first | omega | (simp; done) | (simp; omega)) _ | apply Below.drew))⟩
  | succ r ih =>
    intro h ad hn hc B w hx hown hB hr
    have hlen : h.length = hn := by have := hown.len; rwa [up_len] at this
    have hnm : ¬ (hn : Int) = m := by omega
    have hnm2 : ((hn : Int) == (m : Int)) = false := by simp; omega
    have hn6 : hn < 6 := by omega
    have Hih := Lib.hid ih; clear ih
    have Hlen := Lib.hid hlen; have Hr := Lib.hid hr
    have HO := Lib.hid (hown.alloc (.cells #[.int .i64 m, .slice a n c] 26))
    have Hx := Lib.hid (hx.keep (w' := w.alloc (.cells #[.int .i64 m, .slice a n c] 26)) (by repeat (first | exact Below.refl _ _ | assumption | refine Below.setCell ?_ (by first | omega | (simp; done) | (simp; omega)) _ | refine Below.alloc ?_ (by first | omega | (simp; done) | (simp; omega)) _ | apply Below.drew)))
    have XA := Lib.hid (BoxF.new w (.int .i64 m) (.slice a n c) 26)
    obtain ⟨res, hres⟩ : ∃ res, res = cfind (fun i j => isFace l (pr i j)) k (r + 1) h := ⟨_, rfl⟩
    rw [← hres]
    have Hres := Lib.hid hres
    clear hx hown hlen hr hres
    go_enter Try.func73, Try.ntmps73
    go_wp2_with fail
    go_loopw [9, 10, 11, 12, 13] (fun xv _ _ _ _ wr => ∃ X : Nat, X ≤ k ∧ xv = .int .i64 X ∧ Below (w.heap.size + 1) (w.alloc (.cells #[.int .i64 m, .slice a n c] 26)) wr ∧ Own 3 wr B ad hn hc (up h) ∧ Hid (∀ x, x < X → (if freeFor (fun i j => isFace l (pr i j)) h x then cfind (fun i j => isFace l (pr i j)) k r (h ++ [x]) else none) = none)) (fun xv _ _ _ _ _ => k - (intOf xv).toNat)
    case atStart => exact ⟨0, Nat.zero_le _, rfl, Below.refl _ _, HO.out, Lib.hid fun x hx => absurd hx (Nat.not_lt_zero _)⟩
    case round =>
      obtain ⟨X, hX, rfl, hb, hO, hnone⟩ := hrel
      have hz : w.heap.size + 1 ≤ wr.heap.size := by have := hb.size; simpa using this
      obtain ⟨wo, rfl⟩ : ∃ x : World, x = wr := ⟨_, rfl⟩
      have HB := Lib.hid hb; have HOr := Lib.hid hO
      have Hx1 := Lib.hid (Hx.out.keep (by simpa using hb))
      have XA1 := Lib.hid (XA.out.keep hb (by omega))
      clear hb hO
      by_cases hXk : X < k
      · have hX6 : X < 6 := by omega
        go_wp2_with fail
        go_loopw [10, 11] (fun f j wi => ∃ J : Nat, J ≤ hn ∧ j = .int .i64 J ∧ f = .bool ((List.range J).all fun j => !(isFace l (pr hn j) && nthN h j == X)) ∧ Below wo.heap.size wo wi) (fun _ j _ => hn - (intOf j).toNat)
        case atStart => exact ⟨0, Nat.zero_le _, rfl, rfl, Below.refl _ _⟩
        case round =>
          obtain ⟨J, hJ, rfl, rfl, hbi⟩ := hrel
          have HOi := Lib.hid (HOr.out.keep hbi)
          have Hxi := Lib.hid (Hx1.out.keep hbi)
          have XAi := Lib.hid (XA1.out.keep hbi (by omega))
          have HBi := Lib.hid hbi
          clear hbi
          obtain ⟨c0, c1, _, _, _⟩ := XAi.out
          by_cases hJt : J < hn
          · obtain ⟨b1, o1, rfl, hcs⟩ := HOi.out.reads.cells (by omega)
            have hck := hcs J hJt
            rw [nth_up] at hck
            have hall : ((List.range (J + 1)).all fun j => !(isFace l (pr hn j) && nthN h j == X)) = (((List.range J).all fun j => !(isFace l (pr hn j) && nthN h j == X)) && !(isFace l (pr hn J) && nthN h J == X)) := by
              rw [List.range_succ, List.all_append]; simp
            obtain ⟨v, hv⟩ : ∃ v, v = nthN h J := ⟨_, rfl⟩
            rw [← hv] at hck hall
            obtain ⟨fb, hfb⟩ : ∃ fb, fb = ((List.range J).all fun j => !(isFace l (pr hn j) && nthN h j == X)) := ⟨_, rfl⟩
            rw [← hfb] at hall ⊢
            obtain ⟨ib, hib⟩ : ∃ ib, isFace l (pr hn J) = ib := ⟨_, rfl⟩
            rw [hib] at hall
            have Hall := Lib.hid hall; have Hib := Lib.hid hib
            have hsI := w_shl6 hn (by omega)
            have hsJ := w_shl6 J (by omega)
            have hJ6 : J < 6 := by omega
            have hpr := pr_lt hn6 hJ6
            have hadd : ((2 : Int) ^ hn + 2 ^ J) = ((pr hn J : Nat) : Int) := by rw [← pr_add hn6 hJ6 (by omega)]; norm_cast
            obtain ⟨e, he⟩ : ∃ e, e = pr hn J := ⟨_, rfl⟩
            rw [← he] at hadd hpr Hib
            have hbeq : (((v : Nat) : Int) == (X : Int)) = (v == X) := castBeq _ _
            clear hcs hv hfb hib hall he
            cases fb
            · go_wp2_with fail
              go_roundw
              case rel => exact ⟨J + 1, by omega, by go_num, by rw [Hall.out]; rfl, HBi.out⟩
              case measure => simp [intOf]; omega
            · cases hvx : v == X
              · have hne : (((v : Nat) : Int) != (X : Int)) = true := by unfold bne; rw [hbeq, hvx]; rfl
                have Hvx := Lib.hid hvx
                clear hbeq hvx
                go_wp2_with fail
                go_roundw
                case rel => exact ⟨J + 1, by omega, by go_num, by rw [Hall.out, Hvx.out]; simp, HBi.out⟩
                case measure => simp [intOf]; omega
              · have hne : (((v : Nat) : Int) != (X : Int)) = false := by unfold bne; rw [hbeq, hvx]; rfl
                have Hvx := Lib.hid hvx
                clear hbeq hvx
                go_wp2_with fail
                refine (l3Has_any m e a n c l _ Hxi.out hpr Hl.out ib Hib.out).mono ?_
                rintro e4 w4 ⟨rfl, hb4⟩
                have HB4 := Lib.hid (HBi.out.trans (hb4.mono HBi.out.size))
                clear hb4
                go_wp2_with fail
                go_roundw
                case rel => exact ⟨J + 1, by omega, by go_num, by rw [Hall.out, Hvx.out]; cases ib <;> rfl, HB4.out⟩
                case measure => simp [intOf]; omega
          · obtain rfl : J = hn := by omega
            have hJJ : ¬ ((J : Int) < J) := by omega
            have hfr : ((List.range J).all fun j => !(isFace l (pr J j) && nthN h j == X)) = freeFor (fun i j => isFace l (pr i j)) h X := by unfold freeFor; rw [Hlen.out]
            rw [hfr]
            clear hfr
            obtain ⟨fr, hfr⟩ : ∃ fr, freeFor (fun i j => isFace l (pr i j)) h X = fr := ⟨_, rfl⟩
            rw [hfr]
            have Hfr := Lib.hid hfr; clear hfr
            have HBx := Lib.hid (HB.out.trans (HBi.out.mono hz))
            have hzi : w.heap.size + 1 ≤ wr.heap.size := by have := HBi.out.size; omega
            cases fr
            · have Hn : Hid ((if freeFor (fun i j => isFace l (pr i j)) h X then cfind (fun i j => isFace l (pr i j)) k r (h ++ [X]) else none) = none) := Lib.hid (by rw [Hfr.out]; rfl)
              go_wp2_with fail
              go_roundw
              case rel =>
                refine ⟨X + 1, by omega, by go_num, HBx.out, HOi.out, Lib.hid fun x hx => ?_⟩
                rcases Nat.lt_or_ge x X with h' | h'
                · exact hnone.out x h'
                · obtain rfl : x = X := by omega
                  exact Hn.out
              case measure => simp [intOf]; omega
            · obtain ⟨r2, hr2⟩ : ∃ r2, r2 = cfind (fun i j => isFace l (pr i j)) k r (h ++ [X]) := ⟨_, rfl⟩
              have Hn : Hid ((if freeFor (fun i j => isFace l (pr i j)) h X then cfind (fun i j => isFace l (pr i j)) k r (h ++ [X]) else none) = r2) := Lib.hid (by rw [Hfr.out, hr2]; rfl)
              have Hr2 := Lib.hid hr2; clear hr2
              go_wp2_with fail
              have hBr : B ≤ wr.heap.size := by omega
              have oA : Own 3 (wr.drew.alloc (.cells #[] 3)) wr.heap.size (some ⟨wr.heap.size, 0, none⟩) 0 0 [] := Own.empty 3 wr.drew wr.heap.size (Nat.le_refl _)
              have oC : Own 3 ((wr.drew.alloc (.cells #[.int .i64 X] 3)).alloc (.cells #[] 3)) wr.heap.size (some ⟨wr.heap.size + 1, 0, none⟩) 0 0 [] := by
                have := Own.empty 3 (wr.drew.alloc (.cells #[.int .i64 X] 3)) wr.heap.size (by simp)
                simp only [World.size_alloc] at this; exact this
              have yB : IntsAt ((wr.drew.alloc (.cells #[] 3)).alloc (.cells #[.int .i64 X] 3)) (some ⟨wr.heap.size + 1, 0, none⟩) 1 [(X : Int)] := by
                have := IntsAt.one (wr.drew.alloc (.cells #[] 3)) X 3
                simp only [World.size_alloc] at this; exact this
              have bA : Below wr.heap.size wr (wr.drew.alloc (.cells #[] 3)) := ((Below.refl _ wr).drew).alloc (Nat.le_refl _) _
              have bB : Below wr.heap.size wr ((wr.drew.alloc (.cells #[] 3)).alloc (.cells #[.int .i64 X] 3)) := bA.alloc (by simp) _
              have bC : Below wr.heap.size wr ((wr.drew.alloc (.cells #[.int .i64 X] 3)).alloc (.cells #[] 3)) := (((Below.refl _ wr).drew).alloc (Nat.le_refl _) _).alloc (by simp) _
              have yC : IntsAt ((wr.drew.alloc (.cells #[.int .i64 X] 3)).alloc (.cells #[] 3)) (some ⟨wr.heap.size, 0, none⟩) 1 [(X : Int)] := (IntsAt.one wr.drew X 3).keep (by repeat (first | exact Below.refl _ _ | assumption | refine Below.setCell ?_ (by first | omega | (simp; done) | (simp; omega)) _ | refine Below.alloc ?_ (by first | omega | (simp; done) | (simp; omega)) _ | apply Below.drew))
              have OA := Lib.hid oA; have OB := Lib.hid (oA.alloc (.cells #[.int .i64 X] 3)); have OC := Lib.hid oC
              have YB := Lib.hid yB; have YC := Lib.hid yC
              have BA := Lib.hid bA; have BB := Lib.hid bB; have BC := Lib.hid bC
              have HA := Lib.hid (HOi.out.keep bA).reads; have HBh := Lib.hid (HOi.out.keep bB).reads; have HC := Lib.hid (HOi.out.keep bC).reads
              have Hf := Lib.hid HOi.out.fit
              clear oA oC yB bA bB bC yC
              go_cut [12, 13] (fun u v W => ∃ ad5 n5 c5, u = .slice ad5 n5 c5 ∧ v = .bool r2.isSome ∧ Own 3 W wr.heap.size ad5 n5 c5 (up (r2.getD [])) ∧ Below wr.heap.size wr W)
              case first =>
                go_region_held3 (fun W => W.cell? ⟨w.heap.size, 0, none⟩ = some (.int .i64 m) ∧ W.cell? ⟨w.heap.size, 1, none⟩ = some (.slice a n c))
                  (first | exact ⟨c0, c1⟩ | exact ⟨d0, d1⟩ | exact ⟨y0, y1⟩ | exact ⟨z0, z1⟩ | go_keep)
                  (first
                    | (refine step_ap rfl _ _ rfl wr.heap.size _ _ _ _ rfl OA.out _ _ _ _ rfl HA.out Hf.out (by omega) BA.out.size ?_; intro ad2 d2 w2 hown2 hb2; have HO2 := Lib.hid hown2; have HB2 := Lib.hid (BA.out.trans hb2); have XA2 := Lib.hid (XAi.out.keep HB2.out (by omega)); obtain ⟨d0, d1, _, _, _⟩ := XA2.out; have HO2b : Hid (Own 3 (w2.alloc (.cells #[.int .i64 X] 3)) wr.heap.size ad2 J d2 (up h)) := Lib.hid (by have := hown2.alloc (.cells #[.int .i64 X] 3); simp only [Nat.zero_add, List.nil_append] at this; exact this); have HY2 := Lib.hid (IntsAt.one w2 X 3); have HB2b := Lib.hid (HB2.out.alloc HB2.out.size (.cells #[.int .i64 X] 3)); clear hown2 hb2)
                    | (refine step_ap_g rfl _ _ rfl wr.heap.size _ _ _ _ rfl OB.out _ _ _ _ rfl HBh.out Hf.out (by omega) BB.out.size ?_; intro ad2 d2 w2 hown2 hb2 hg2; have HO2 := Lib.hid hown2; have HB2 := Lib.hid (BB.out.trans hb2); have XA2 := Lib.hid (XAi.out.keep HB2.out (by omega)); obtain ⟨d0, d1, _, _, _⟩ := XA2.out; have HY2 := Lib.hid (YB.out.grown hg2 (fun b hb e => by cases hb; simp [Value.ownBlock] at e)); clear hown2 hb2 hg2)
                    | (refine step_ap_g rfl _ _ rfl wr.heap.size _ _ _ _ rfl OC.out _ _ _ _ rfl HC.out Hf.out (by omega) BC.out.size ?_; intro ad2 d2 w2 hown2 hb2 hg2; have HO2 := Lib.hid hown2; have HB2 := Lib.hid (BC.out.trans hb2); have XA2 := Lib.hid (XAi.out.keep HB2.out (by omega)); obtain ⟨d0, d1, _, _, _⟩ := XA2.out; have HY2 := Lib.hid (YC.out.grown hg2 (fun b hb e => by cases hb; simp [Value.ownBlock] at e)); clear hown2 hb2 hg2)
                    | (refine step_ap rfl _ _ rfl wr.heap.size _ _ _ _ rfl HO2b.out _ _ _ _ rfl HY2.out (Fit.one _) (by omega) HB2b.out.size ?_; intro ad3 d3 w3 hown3 hb3; have HO3 := Lib.hid hown3; have HB3 := Lib.hid (HB2b.out.trans hb3); have XA3 := Lib.hid (XAi.out.keep HB3.out (by omega)); obtain ⟨y0, y1, _, _, _⟩ := XA3.out; clear hown3 hb3)
                    | (refine step_ap rfl _ _ rfl wr.heap.size _ _ _ _ rfl HO2.out _ _ _ _ rfl HY2.out (Fit.one _) (by omega) HB2.out.size ?_; intro ad3 d3 w3 hown3 hb3; have HO3 := Lib.hid hown3; have HB3 := Lib.hid (HB2.out.trans hb3); have XA3 := Lib.hid (XAi.out.keep HB3.out (by omega)); obtain ⟨y0, y1, _, _, _⟩ := XA3.out; clear hown3 hb3)
                    | (go_simp; go_at_call 73; refine (Hih.out (h ++ [X]) ad3 _ d3 wr.heap.size w3 (Hxi.out.keep HB3.out) (by have := HO3.out; (try simp only [Nat.zero_add, List.nil_append] at this); rw [up_append]; exact this) HB3.out.size (by have := Hr.out; simp; omega)).mono ?_; rw [← Hr2.out]; rintro e5 w5 ⟨ad5, n5, c5, rfl, hown5, hb5⟩; have HO5 := Lib.hid hown5; have HB5 := Lib.hid (HB3.out.trans (hb5.mono HB3.out.size)); have XA5 := Lib.hid (XAi.out.keep HB5.out (by omega)); obtain ⟨z0, z1, _, _, _⟩ := XA5.out; clear hown5 hb5))
                all_goals (go_wp2_with fail; go_meet)
                all_goals exact ⟨ad5, n5, c5, rfl, rfl, HO5.out, HB5.out⟩
              case rest =>
                obtain ⟨ad5, n5, c5, rfl, rfl, hown5, hb5⟩ := hcut
                have HO5 := Lib.hid hown5; have HB5 := Lib.hid hb5
                have HBw := Lib.hid (HBx.out.trans (hb5.mono hzi))
                have HOh := Lib.hid (HOi.out.keep hb5)
                clear hown5 hb5
                cases r2 with
                | none =>
                  go_wp2_with fail
                  go_roundw
                  case rel =>
                    refine ⟨X + 1, by omega, by go_num, HBw.out, HOh.out, Lib.hid fun x hx => ?_⟩
                    rcases Nat.lt_or_ge x X with h' | h'
                    · exact hnone.out x h'
                    · obtain rfl : x = X := by omega
                      exact Hn.out
                  case measure => simp [intOf]; omega
                | some L =>
                  have hR : res = some L := by
                    rw [Hres.out]; unfold cfind
                    exact fs_at hnone.out hXk Hn.out
                  subst hR
                  go_wp2_with fail
                  refine bodyPost_ret (v := .tuple #[.slice ad5 n5 c5, .bool true]) (by simp [results, Try.results73, go_sem]) rfl ⟨ad5, n5, c5, rfl, HO5.out.mono (by omega), box_below HBw.out⟩
      · obtain rfl : X = k := by omega
        have hXX : ¬ ((X : Int) < X) := by omega
        have hR : res = none := by
          rw [Hres.out]; unfold cfind
          exact fs_none hnone.out
        subst hR
        have HBb := Lib.hid (box_below HB.out)
        have hBo : B ≤ wo.heap.size := by omega
        go_wp2_with fail
        refine bodyPost_ret (v := .tuple #[.slice (some ⟨wo.heap.size, 0, none⟩) 0 0, .bool false]) (by simp [results, Try.results73, go_sem]) rfl ⟨_, 0, 0, rfl, Own.empty _ _ _ hBo, HBb.out.alloc HBb.out.size _⟩
end Go.Proofs.Ytbdnlncpamandaa

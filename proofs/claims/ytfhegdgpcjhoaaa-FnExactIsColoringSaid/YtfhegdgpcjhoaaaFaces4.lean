/- Contracts of FacesOfSize and GraphOf, the program's and the reference's. -/
import Derived.Test.YtfhegdgpcjhoaaaFaces3
namespace Go.Proofs.Ytfhegdgpcjhoaaa
open Go.RowKit
set_option linter.unusedSimpArgs false
set_option linter.unusedVariables false

/-- the faces of so many points; none for a number below 0 -/
def ofSize (l : List Nat) (k : Int) : List Nat := if k < 0 then [] else lvlTo (isFace l) 64 k.toNat
theorem ofSize_len (l : List Nat) (k : Int) : (ofSize l k).length ≤ 64 := by
  unfold ofSize; split
  · simp
  · exact lvl_len _ _ _
theorem ofSize_filter (l : List Nat) (k : Int) : (ord (isFace l)).filter (fun s => ((sz s : Int) == k)) = ofSize l k := by
  unfold ofSize
  split
  · rw [List.filter_eq_nil_iff]
    intro s _
    simp; omega
  · rw [← ord_lvl]
    exact List.filter_congr fun s _ => by
      rw [Bool.eq_iff_iff]; simp; omega

theorem iOfSize_no (p : Int) (a : Option Addr) (n c : Nat) (xs : List Int) (k : Int) (w : World) (h : IntsAt w a n xs) (hcap : n ≤ c) (hno : ¬ Anti p xs) :
    Calls Try.prog 82 #[.agg #[.int .i64 p, .slice a n c], .int .i64 k] w (RetInts w []) := by
  have hx : IntsAt (w.alloc (.cells #[.int .i64 p, .slice a n c] 42)) a n xs := h.keep (by repeat (first | exact Below.refl _ _ | assumption | refine Below.setCell ?_ (by first | omega | (simp; done) | (simp; omega)) _ | refine Below.alloc ?_ (by first | omega | (simp; done) | (simp; omega)) _ | apply Below.drew))
  have Hx := Lib.hid hx; clear hx h
  have Hno := Lib.hid hno; clear hno
  have Hcap := Lib.hid hcap; clear hcap
  go_enter Try.func82, Try.ntmps82
  go_wp2_with fail
  refine (iIsComplex_any p a n c xs _ Hx.out Hcap.out false (by simp [Hno.out])).mono ?_
  rintro e w1 ⟨rfl, hb⟩
  have HB : Hid (Below w.heap.size w w1) := Lib.hid (Below.trans (by repeat (first | exact Below.refl _ _ | assumption | refine Below.setCell ?_ (by first | omega | (simp; done) | (simp; omega)) _ | refine Below.alloc ?_ (by first | omega | (simp; done) | (simp; omega)) _ | apply Below.drew)) (hb.mono (by simp <;> omega)))
  clear hb
  go_wp2_with fail
  go_ret
  exact ⟨none, 0, 0, rfl, Own.nil _ _ _, HB.out⟩
set_option maxHeartbeats 1000000 in
theorem iOfSize_yes (p : Int) (a : Option Addr) (n c : Nat) (l : List Nat) (k : Int) (w : World) (h : IntsAt w a n (up l)) (hcap : n ≤ c) (hA : Anti p (up l)) (hl : ∀ t ∈ l, t < 64) :
    Calls Try.prog 82 #[.agg #[.int .i64 p, .slice a n c], .int .i64 k] w (RetInts w (up (ofSize l k))) := by
  have hx : IntsAt (w.alloc (.cells #[.int .i64 p, .slice a n c] 42)) a n (up l) := h.keep (by repeat (first | exact Below.refl _ _ | assumption | refine Below.setCell ?_ (by first | omega | (simp; done) | (simp; omega)) _ | refine Below.alloc ?_ (by first | omega | (simp; done) | (simp; omega)) _ | apply Below.drew))
  have Hx := Lib.hid hx; clear hx h
  have HA := Lib.hid hA; clear hA
  have Hl := Lib.hid hl; clear hl
  have Hcap := Lib.hid hcap; clear hcap
  go_enter Try.func82, Try.ntmps82
  go_wp2_with fail
  refine (iIsComplex_any p a n c _ _ Hx.out Hcap.out true (by simp [HA.out])).mono ?_
  rintro e w1 ⟨rfl, hb⟩
  obtain ⟨hc, hf⟩ := bcell hb
  have hz : w.heap.size + 1 ≤ w1.heap.size := by have := hb.size; simp at this; omega
  have Hx1 := Lib.hid (Hx.out.keep hb)
  have HB : Hid (Below w.heap.size w w1) := Lib.hid (Below.trans (by repeat (first | exact Below.refl _ _ | assumption | refine Below.setCell ?_ (by first | omega | (simp; done) | (simp; omega)) _ | refine Below.alloc ?_ (by first | omega | (simp; done) | (simp; omega)) _ | apply Below.drew)) (hb.mono (by simp <;> omega)))
  clear hb
  have hF := faceSet_Fam l
  have hlv : ∀ j, lvlTo (faceSet l).testBit 64 j = lvlTo (isFace l) 64 j := fun j => lvl_congr (fun s hs => faceSet_bit hs) j
  obtain ⟨F, hFe⟩ : ∃ F, F = faceSet l := ⟨_, rfl⟩
  rw [← hFe] at hF hlv
  have HFe := Lib.hid hFe; have Hlv := Lib.hid hlv
  clear hFe hlv
  go_wp2_with fail
  refine (facesIn_any p a n c l _ Hx1.out Hl.out).mono ?_
  rw [← HFe.out]
  rintro e w2 ⟨rfl, hb⟩
  have HB2 := Lib.hid (HB.out.trans (hb.mono HB.out.size))
  clear hb
  go_wp2_with fail
  refine (bySize_any F _ hF).mono ?_
  rintro e w3 ⟨g, f, rfl, hgrid, hb⟩
  have HB3 := Lib.hid (HB2.out.trans (hb.mono HB2.out.size)); have HG := Lib.hid hgrid
  clear hb hgrid
  obtain ⟨N, hN⟩ : ∃ N, N = topTo F.testBit 64 := ⟨_, rfl⟩
  rw [← hN] at HG ⊢
  have HN := Lib.hid hN; clear hN
  by_cases h0 : k < 0
  · go_wp2_with fail
    go_ret
    exact ⟨none, 0, 0, rfl, by unfold ofSize; rw [if_pos h0]; exact Own.nil _ _ _, HB3.out⟩
  · obtain ⟨j, rfl⟩ := Int.eq_ofNat_of_zero_le (show 0 ≤ k by omega)
    have hof : ofSize l (j : Int) = lvlTo F.testBit 64 j := by
      unfold ofSize; rw [if_neg h0, Hlv.out]; rfl
    have Hof := Lib.hid hof; clear hof
    by_cases hj : j < N
    · have hjN : ¬ (N : Int) ≤ j := by omega
      have hj0 : (0 : Int) ≤ j := by omega
      have hjl : (j : Int) < N := by omega
      have hcell := HG.out.cell hj
      have hown := HG.out.own j hj
      obtain ⟨⟨ad, m, d⟩, hfk⟩ : ∃ x : Sl, x = f j := ⟨_, rfl⟩
      rw [← hfk] at hcell hown
      simp only [Sl.val] at hcell hown
      have HO := Lib.hid (hown.mono HB2.out.size)
      clear hfk hown
      go_wp2_with fail
      go_ret
      exact ⟨ad, m, d, rfl, by rw [Hof.out]; exact HO.out, HB3.out⟩
    · have hjN : (N : Int) ≤ j := by omega
      go_wp2_with fail
      go_ret
      refine ⟨none, 0, 0, rfl, ?_, HB3.out⟩
      rw [Hof.out, lvl_high (by have := HN.out; omega)]; exact Own.nil _ _ _

theorem sOfSize_no (p : Int) (a : Option Addr) (n c : Nat) (xs : List Int) (k : Int) (w : World) (h : IntsAt w a n xs) (hno : ¬ Anti p xs) :
    Calls Try.prog 100 #[.agg #[.int .i64 p, .slice a n c], .int .i64 k] w (RetInts w []) := by
  have hx : IntsAt ((w.alloc (.cells #[.int .i64 p, .slice a n c] 42)).alloc (.cells #[] 3)) a n xs := h.keep (by repeat (first | exact Below.refl _ _ | assumption | refine Below.setCell ?_ (by first | omega | (simp; done) | (simp; omega)) _ | refine Below.alloc ?_ (by first | omega | (simp; done) | (simp; omega)) _ | apply Below.drew))
  have Hx := Lib.hid hx; clear hx h
  have Hno := Lib.hid hno; clear hno
  go_enter Try.func100, Try.ntmps100
  go_wp2_with fail
  refine (sFacesOf_no p a n c xs _ Hx.out Hno.out).mono ?_
  rintro e w1 ⟨ad, m, d, rfl, hown, hb⟩
  have hm : m = 0 := by have := hown.len; simpa using this.symm
  subst hm
  have HO0 : Hid (Own 3 w1 w.heap.size (some ⟨w.heap.size + 1, 0, none⟩) 0 0 []) := Lib.hid (by
    have := (Own.empty 3 (w.alloc (.cells #[.int .i64 p, .slice a n c] 42)) w.heap.size (by simp)).keep hb
    simp only [World.size_alloc] at this; exact this)
  have HB : Hid (Below w.heap.size w w1) := Lib.hid (Below.trans (by repeat (first | exact Below.refl _ _ | assumption | refine Below.setCell ?_ (by first | omega | (simp; done) | (simp; omega)) _ | refine Below.alloc ?_ (by first | omega | (simp; done) | (simp; omega)) _ | apply Below.drew)) (hb.mono (by simp <;> omega)))
  clear hb hown
  go_wp2_with fail
  go_loop [5, 7] (fun f i => f = .slice (some ⟨w.heap.size + 1, 0, none⟩) 0 0 ∧ i = .int .i64 0) (fun _ _ => 0)
  case atStart => exact ⟨rfl, rfl⟩
  case round =>
    obtain ⟨rfl, rfl⟩ := hrel
    go_wp2_with fail
    go_ret
    exact ⟨_, 0, 0, rfl, HO0.out, HB.out⟩
set_option maxHeartbeats 1000000 in
theorem sOfSize_yes (p : Int) (a : Option Addr) (n c : Nat) (l : List Nat) (k : Int) (w : World) (h : IntsAt w a n (up l)) (hA : Anti p (up l)) (hl : ∀ t ∈ l, t < 64) :
    Calls Try.prog 100 #[.agg #[.int .i64 p, .slice a n c], .int .i64 k] w (RetInts w (up (ofSize l k))) := by
  have hx : IntsAt ((w.alloc (.cells #[.int .i64 p, .slice a n c] 42)).alloc (.cells #[] 3)) a n (up l) := h.keep (by repeat (first | exact Below.refl _ _ | assumption | refine Below.setCell ?_ (by first | omega | (simp; done) | (simp; omega)) _ | refine Below.alloc ?_ (by first | omega | (simp; done) | (simp; omega)) _ | apply Below.drew))
  have Hx := Lib.hid hx; clear hx h
  have HA := Lib.hid hA; clear hA
  have Hl := Lib.hid hl; clear hl
  rw [← ofSize_filter]
  obtain ⟨D, hD⟩ : ∃ D, D = ord (isFace l) := ⟨_, rfl⟩
  rw [← hD]
  have hD64 : ∀ s ∈ D, s < 64 := by rw [hD]; exact ord_lt
  have hDl : D.length ≤ 64 := by rw [hD]; exact ord_len _
  have HD64 := Lib.hid hD64; have HD := Lib.hid hD
  clear hD hD64
  obtain ⟨q, hq⟩ : ∃ q : Nat → Bool, q = fun s => ((sz s : Int) == k) := ⟨_, rfl⟩
  rw [← hq]
  have Hq := Lib.hid (show ∀ s, ((sz s : Int) == k) = q s from fun s => by rw [hq]); clear hq
  go_enter Try.func100, Try.ntmps100
  go_wp2_with fail
  refine (sFacesOf_yes p a n c l _ Hx.out HA.out Hl.out).mono ?_
  rw [← HD.out]
  rintro e w1 ⟨ad, m, d, rfl, hown, hb⟩
  have HO0 : Hid (Own 3 w1 w.heap.size (some ⟨w.heap.size + 1, 0, none⟩) 0 0 []) := Lib.hid (by
    have := (Own.empty 3 (w.alloc (.cells #[.int .i64 p, .slice a n c] 42)) w.heap.size (by simp)).keep hb
    simp only [World.size_alloc] at this; exact this)
  have HB : Hid (Below w.heap.size w w1) := Lib.hid (Below.trans (by repeat (first | exact Below.refl _ _ | assumption | refine Below.setCell ?_ (by first | omega | (simp; done) | (simp; omega)) _ | refine Below.alloc ?_ (by first | omega | (simp; done) | (simp; omega)) _ | apply Below.drew)) (hb.mono (by simp <;> omega)))
  have HR := Lib.hid (hown.mono (show w.heap.size ≤ _ by simp; omega))
  have hDm : D.length = m := by have := HR.out.len; rwa [up_len] at this
  have HDm := Lib.hid hDm
  have hlo := hown.lt
  have Hlo : Hid (∀ k, (Value.slice ad m d).ownBlock = some k → w.heap.size + 2 ≤ k ∧ k < w1.heap.size) := Lib.hid (fun k hk => by have := hlo k hk; simp at this; omega)
  have hm64 : m ≤ 64 := by omega
  clear hb hown hDl hlo hDm
  have hz1 : w.heap.size ≤ w1.heap.size := HB.out.size
  go_wp2_with fail
  go_loopw [5, 7] (fun f i wr => ∃ I : Nat, I ≤ m ∧ i = .int .i64 I ∧ Below w.heap.size w wr ∧ w1.heap.size ≤ wr.heap.size ∧ ∃ ad2 k2 d2, f = .slice ad2 k2 d2 ∧ k2 ≤ I ∧ Own 3 wr w.heap.size ad2 k2 d2 (up ((D.take I).filter q)) ∧ Own 3 wr w.heap.size ad m d (up D) ∧ (∀ b, ad2 = some b → b.block = w.heap.size + 1 ∨ w1.heap.size ≤ b.block)) (fun _ i _ => m - (intOf i).toNat)
  case atStart => exact ⟨0, by omega, rfl, HB.out, Nat.le_refl _, _, 0, 0, rfl, by omega, HO0.out, HR.out, fun b hb => .inl (by cases hb; rfl)⟩
  case round =>
    obtain ⟨I, hI, rfl, hb, hzr, ad2, k2, d2, rfl, hk2, hown, hR, hloc⟩ := hrel
    have HBr := Lib.hid hb; have HO := Lib.hid hown; have HRr := Lib.hid hR; have Hloc := Lib.hid hloc
    clear hb hown hR hloc
    by_cases hlt : I < m
    · obtain ⟨b1, o1, rfl, hc⟩ := HRr.out.reads.cells (by omega)
      have hck := hc I hlt
      rw [nth_up] at hck
      have ht := HD64.out _ (nthN_mem (xs := D) (k := I) (by rw [HDm.out]; exact hlt))
      have htk : D.take (I + 1) = D.take I ++ [nthN D I] := nthN_take D I (by rw [HDm.out]; exact hlt)
      obtain ⟨t, hte⟩ : ∃ t, t = nthN D I := ⟨_, rfl⟩
      rw [← hte] at hck ht htk
      have hqt := Hq.out t
      have Htk := Lib.hid htk
      clear hc hte htk
      cases hqb : q t
      · rw [hqb] at hqt
        have Hqb := Lib.hid hqb; clear hqb
        go_wp2_with (go_at_call 106; (with_reducible refine (l2Size_any t _ ht).mono ?_); rintro e w' ⟨rfl, rfl⟩)
        go_roundw
        case rel => exact ⟨I + 1, by omega, by go_num, HBr.out, hzr, ad2, k2, d2, rfl, by omega, by rw [Htk.out, List.filter_append]; simp [Hqb.out]; exact HO.out, HRr.out, Hloc.out⟩
        case measure => simp [intOf]; omega
      · rw [hqb] at hqt
        have Hqb := Lib.hid hqb; clear hqb
        go_wp2_with (first
          | (go_at_call 106; (with_reducible refine (l2Size_any t _ ht).mono ?_); rintro e w' ⟨rfl, rfl⟩)
          | (at_builtin; refine ap_at rfl _ _ rfl w.heap.size _ _ _ _ _ rfl HO.out rfl (by omega) (by omega) ?_; intro ad' d' w' hown' hb' hg' hnew'; have HO' := Lib.hid hown'; have HB' := Lib.hid hb'; have HG' := Lib.hid hg'; have HN' := Lib.hid hnew'; clear hown' hb' hg' hnew'))
        go_roundw
        case rel =>
          refine ⟨I + 1, by omega, by go_num, HBr.out.trans HB'.out, Nat.le_trans hzr HB'.out.size, ad', k2 + 1, d', rfl, by omega, ?_, ?_, fun b hb => ?_⟩
          · rw [Htk.out, List.filter_append, up_append]
            simp [Hqb.out]
            exact HO'.out
          · refine HRr.out.grownNe HG'.out fun q1 h1 q2 h2 e => ?_
            obtain ⟨b, hb, hbq⟩ := ownBlock_some h1
            have h3 := Hlo.out q2 h2
            rcases Hloc.out b hb with h4 | h4 <;> omega
          · rcases HN'.out b hb with ⟨c, hc, hbc⟩ | h
            · rw [hbc]; exact Hloc.out c hc
            · exact .inr (by omega)
        case measure => simp [intOf]; omega
    · obtain rfl : I = m := by omega
      have hii : ¬ ((I : Int) < I) := by omega
      have HOf : Hid (Own 3 wr w.heap.size ad2 k2 d2 (up (D.filter q))) := Lib.hid (by have := HO.out; rw [← HDm.out, List.take_length] at this; exact this)
      go_wp2_with fail
      go_ret
      exact ⟨ad2, k2, d2, rfl, HOf.out, HBr.out⟩
end Go.Proofs.Ytfhegdgpcjhoaaa

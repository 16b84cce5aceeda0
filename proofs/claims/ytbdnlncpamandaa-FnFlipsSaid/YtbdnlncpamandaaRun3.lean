/- The contract of the reference's RunFlips. -/
import Derived.Test.YtbdnlncpamandaaRun2
namespace Go.Proofs.Ytbdnlncpamandaa
set_option maxRecDepth 20000
open Go.RowKit
set_option linter.unusedSimpArgs false
set_option linter.unusedVariables false

set_option maxHeartbeats 1000000 in
theorem sRun_bad (p : Int) (a : Option Addr) (n c : Nat) (xs : List Int) (a' : Option Addr) (n' c' : Nat) (L : List (List Int)) (w : World) (h : IntsAt w a n xs) (hcap : n ≤ c) (hL : L.length = n') (hno : ¬ runP p xs L) :
    Calls Try.prog 54 #[.agg #[.int .i64 p, .slice a n c], .slice a' n' c'] w (RetBox2 w 0 [] false) := by
  obtain ⟨w0, hw0⟩ : ∃ w0, w0 = (w.alloc (.cells #[.int .i64 p, .slice a n c] 26)).alloc (.cells #[.int .i64 0, .slice none 0 0] 26) := ⟨_, rfl⟩
  have hx : IntsAt w0 a n xs := by rw [hw0]; exact h.keep (by repeat (first | exact Below.refl _ _ | assumption | refine Below.setCell ?_ (by first | omega | (simp; done) | (simp; omega)) _ | refine Below.alloc ?_ (by first | omega | (simp; done) | (simp; omega)) _ | apply Below.drew))
  have hB : Below w.heap.size w w0 := by rw [hw0]; exact (by repeat (first | exact Below.refl _ _ | assumption | refine Below.setCell ?_ (by first | omega | (simp; done) | (simp; omega)) _ | refine Below.alloc ?_ (by first | omega | (simp; done) | (simp; omega)) _ | apply Below.drew))
  have hz0 : w0.heap.size = w.heap.size + 2 := by rw [hw0]; simp
  have xR : BoxF w0 (w.heap.size + 1) (.int .i64 0) (.slice none 0 0) := by
    rw [hw0, show w.heap.size + 1 = (w.alloc (.cells #[.int .i64 p, .slice a n c] 26)).heap.size by simp]
    exact BoxF.new _ _ _ _
  have Hx := Lib.hid hx; have HB := Lib.hid hB; have XR := Lib.hid xR; have HW0 := Lib.hid hw0; have Hcap := Lib.hid hcap; have Hno := Lib.hid hno
  clear hx hB xR hw0 h hcap hno
  by_cases hA : Anti p xs
  · have HA := Lib.hid hA
    have h20 : 20 < n' := by
      have : ¬ L.length ≤ 20 := fun h => Hno.out ⟨hA, h⟩
      omega
    have h20i : (20 : Int) < n' := by omega
    clear hA
    go_enter Try.func54, Try.ntmps54
    go_wp2_with fail
    rw [← HW0.out]
    refine (sIsComplex_any p a n c xs _ Hx.out true (by simp [HA.out])).mono ?_
    rintro e w1 ⟨rfl, hb⟩
    obtain ⟨r0, r1, f0, f1, _⟩ := XR.out.keep hb (by omega)
    have hbl : Below w.heap.size w w1 := HB.out.trans (hb.mono (by omega))
    clear hb
    go_wp2_with fail
    refine bodyPost_ret (v := .tuple #[.agg #[.int .i64 0, .slice none 0 0], .bool false]) (by simp [results, Try.results54, go_sem, r0, r1]) rfl ⟨none, 0, 0, rfl, Own.nil _ _ _, (by repeat (first | exact Below.refl _ _ | assumption | refine Below.setCell ?_ (by first | omega | (simp; done) | (simp; omega)) _ | refine Below.alloc ?_ (by first | omega | (simp; done) | (simp; omega)) _ | apply Below.drew))⟩
  · have HA := Lib.hid hA
    clear hA
    go_enter Try.func54, Try.ntmps54
    go_wp2_with fail
    rw [← HW0.out]
    refine (sIsComplex_any p a n c xs _ Hx.out false (by simp [HA.out])).mono ?_
    rintro e w1 ⟨rfl, hb⟩
    obtain ⟨r0, r1, f0, f1, _⟩ := XR.out.keep hb (by omega)
    have hbl : Below w.heap.size w w1 := HB.out.trans (hb.mono (by omega))
    clear hb
    go_wp2_with fail
    refine bodyPost_ret (v := .tuple #[.agg #[.int .i64 0, .slice none 0 0], .bool false]) (by simp [results, Try.results54, go_sem, r0, r1]) rfl ⟨none, 0, 0, rfl, Own.nil _ _ _, (by repeat (first | exact Below.refl _ _ | assumption | refine Below.setCell ?_ (by first | omega | (simp; done) | (simp; omega)) _ | refine Below.alloc ?_ (by first | omega | (simp; done) | (simp; omega)) _ | apply Below.drew))⟩
set_option maxRecDepth 100000 in
set_option maxHeartbeats 4000000 in
theorem sRun_ok (m : Nat) (a : Option Addr) (n c : Nat) (l : List Nat) (a' : Option Addr) (n' c' : Nat) (L : List (List Int)) (w : World) (h : IntsAt w a n (up l)) (hf : Fit a n c) (hC : Cpx m l) (hR : RowsAt w a' n' L) (hn : n' ≤ 20) :
    Calls Try.prog 54 #[.agg #[.int .i64 m, .slice a n c], .slice a' n' c'] w (RetRun w m (runTo m l L n')) := by
  obtain ⟨V, hV⟩ : ∃ V, V = runTo m l L n' := ⟨_, rfl⟩
  rw [← hV]
  have HV := Lib.hid hV
  clear hV
  obtain ⟨w0, hw0⟩ : ∃ w0, w0 = (w.alloc (.cells #[.int .i64 m, .slice a n c] 26)).alloc (.cells #[.int .i64 0, .slice none 0 0] 26) := ⟨_, rfl⟩
  have hx : IntsAt w0 a n (up l) := by rw [hw0]; exact h.keep (by repeat (first | exact Below.refl _ _ | assumption | refine Below.setCell ?_ (by first | omega | (simp; done) | (simp; omega)) _ | refine Below.alloc ?_ (by first | omega | (simp; done) | (simp; omega)) _ | apply Below.drew))
  have hB : Below w.heap.size w w0 := by rw [hw0]; exact (by repeat (first | exact Below.refl _ _ | assumption | refine Below.setCell ?_ (by first | omega | (simp; done) | (simp; omega)) _ | refine Below.alloc ?_ (by first | omega | (simp; done) | (simp; omega)) _ | apply Below.drew))
  have hz0 : w0.heap.size = w.heap.size + 2 := by rw [hw0]; simp
  have xR : BoxF w0 (w.heap.size + 1) (.int .i64 0) (.slice none 0 0) := by
    rw [hw0, show w.heap.size + 1 = (w.alloc (.cells #[.int .i64 m, .slice a n c] 26)).heap.size by simp]
    exact BoxF.new _ _ _ _
  have xA : BoxF w0 w.heap.size (.int .i64 m) (.slice a n c) := by
    rw [hw0]
    exact (BoxF.new w (.int .i64 m) (.slice a n c) 26).alloc _
  have hnl : n ≤ 64 := by have h1 := h.len; rw [up_len] at h1; have := hC.len; omega
  obtain ⟨f, hR⟩ := hR
  have Hx := Lib.hid hx; have HB := Lib.hid hB; have XR := Lib.hid xR; have XA := Lib.hid xA; have HW0 := Lib.hid hw0; have HF := Lib.hid hf; have HC := Lib.hid hC; have HR := Lib.hid hR
  clear hx hB xR xA hw0 h hf hC hR
  have h20i : ¬ ((20 : Int) < n') := by omega
  go_enter Try.func54, Try.ntmps54
  go_wp2_with fail
  rw [← HW0.out]
  refine (sIsComplex_any m a n c _ _ Hx.out true (by simp [HC.out.anti])).mono ?_
  rintro e w1 ⟨rfl, hb⟩
  have HB1 := Lib.hid (HB.out.trans (hb.mono (by omega))); have XR1 := Lib.hid (XR.out.keep hb (by omega)); have XA1 := Lib.hid (XA.out.keep hb (by omega)); have Hx1 := Lib.hid (Hx.out.keep hb)
  have hz1 : w.heap.size + 2 ≤ w1.heap.size := by have := hb.size; omega
  clear hb
  obtain ⟨p0, p1, pf0, pf1, _⟩ := XA1.out
  go_wp2_with fail
  refine (sCopy_any m a n c _ _ Hx1.out HF.out (by omega)).mono ?_
  rintro e w2 ⟨ad, k, d, rfl, hown, hb⟩
  have HB2 := Lib.hid ((HB1.out.trans (hb.mono HB1.out.size)).alloc (Nat.le_trans HB1.out.size hb.size) (.cells #[.int .i64 m, .slice ad k d] 26)); have XR2 := Lib.hid ((XR1.out.keep hb (by omega)).alloc (.cells #[.int .i64 m, .slice ad k d] 26))
  have HO2 := Lib.hid ((hown.mono (show w.heap.size + 2 ≤ _ by omega)).alloc (.cells #[.int .i64 m, .slice ad k d] 26))
  have hz2 : w.heap.size + 2 ≤ w2.heap.size := by have := hb.size; omega
  have XO2 := Lib.hid (BoxF.new w2 (.int .i64 m) (.slice ad k d) 26)
  have Hne2 : Hid (∀ b, ad = some b → b.block ≠ w2.heap.size) := Lib.hid fun b hb' => by subst hb'; have := (hown.lt b.block rfl).2; omega
  clear hb hown p0 p1 pf0 pf1
  go_wp2_with fail
  clear h20i
  obtain ⟨G, hG⟩ : ∃ G, G = w2.heap.size := ⟨_, rfl⟩
  rw [← hG]
  rw [← hG] at XO2 Hne2 hz2
  have HG := Lib.hid hG
  clear hG
  go_loopw [7, 8, 9, 34] (fun i _ _ _ wr => ∃ I : Nat, I ≤ n' ∧ i = .int .i64 I ∧ Below w.heap.size w wr ∧ G + 1 ≤ wr.heap.size ∧ ∃ ad k d l', Hid (runTo m l L I = some l') ∧ BoxF wr G (.int .i64 m) (.slice ad k d) ∧ Own 3 wr (w.heap.size + 2) ad k d (up l') ∧ BoxF wr (w.heap.size + 1) (.int .i64 0) (.slice none 0 0) ∧ (∀ b, ad = some b → b.block ≠ G)) (fun i _ _ _ _ => n' - (intOf i).toNat)
  case atStart =>
    exact ⟨0, Nat.zero_le _, rfl, HB2.out, by rw [HG.out]; simp, ad, k, d, l, Lib.hid rfl, XO2.out, HO2.out, XR2.out, Hne2.out⟩
  case round =>
    obtain ⟨wo, rfl⟩ : ∃ x : World, x = wr := ⟨_, rfl⟩
    obtain ⟨I, hI, rfl, hbr, hzr, ad, k, d, l', hrun, hxa, hown, hxr, hne⟩ := hrel
    have HNe := Lib.hid hne
    clear hne
    have HBr := Lib.hid hbr; have XAr := Lib.hid hxa; have HOr := Lib.hid hown; have XRr := Lib.hid hxr
    have hRr := HR.out.keep hbr
    clear hbr hxa hown hxr
    by_cases hlt : I < n'
    · obtain ⟨b, off, rfl, hc⟩ := hRr.cells (by omega)
      have hci := hc I hlt
      have hrow := hRr.each I hlt
      obtain ⟨⟨a1, n1, c1⟩, hfe⟩ : ∃ x, x = f I := ⟨_, rfl⟩
      rw [← hfe] at hci hrow
      simp only [Sl.val] at hci hrow
      have hlen := hrow.len
      have Hlen := Lib.hid hlen
      have hn1 := hrow.small
      have Hrow := Lib.hid hrow
      have hI0 : (0 : Int) ≤ I := by omega
      have hIn : (I : Int) < n' := by omega
      clear hc hfe hRr hrow hlen
      by_cases h2 : n1 = 2
      · subst h2
        obtain ⟨b1, o1, rfl, hcr⟩ := Hrow.out.cells (by omega)
        have hs0 := hcr 0 (by omega)
        have ht0 := hcr 1 (by omega)
        rw [Nat.add_zero] at hs0
        obtain ⟨s, hse⟩ : ∃ s, s = nth (nthL L I) 0 := ⟨_, rfl⟩
        obtain ⟨t, hte⟩ : ∃ t, t = nth (nthL L I) 1 := ⟨_, rfl⟩
        have hstep := runTo_step hrun.out Hlen.out
        rw [← hse] at hs0 hstep
        rw [← hte] at ht0 hstep
        have hCl := runTo_cpx HC.out I l' hrun.out
        obtain ⟨pp, zs, q, hcase, hFl⟩ : ∃ (pp : Int) (zs : List Int) (q : Bool), ((∃ l2, q = true ∧ pp = m ∧ zs = up l2 ∧ runTo m l L (I + 1) = some l2) ∨ (q = false ∧ runTo m l L (I + 1) = none)) ∧ ∀ W, Below wo.heap.size wo W → Calls Try.prog 49 #[.agg #[.int .i64 m, .slice ad k d], .int .i64 s, .int .i64 t] W (RetBox2 W pp zs q) := by
          cases hst : step1 m l' s t with
          | none => exact ⟨0, [], false, .inr ⟨rfl, by rw [hstep, hst]⟩, fun W hW => sFlipAt_none (HOr.out.reads.keep hW) hCl hst⟩
          | some l2 => exact ⟨m, up l2, true, .inl ⟨l2, rfl, rfl, rfl, by rw [hstep, hst]⟩, fun W hW => sFlipAt_some (HOr.out.reads.keep hW) hCl hst⟩
        have HFl := Lib.hid hFl; have Hcase := Lib.hid hcase
        obtain ⟨p0, p1, pf0, pf1, _⟩ := XAr.out
        have hb1 : b1 < wo.heap.size := by have := World.block_lt_of_cell? wo _ hs0; simpa using this
        have hb0 : b < wo.heap.size := by have := World.block_lt_of_cell? wo _ hci; simpa using this
        clear hcr hse hte hstep hCl hcase hFl pf0 pf1
        have hz9 : Hid (Below wo.heap.size wo wo.drew) := Lib.hid (Below.refl _ _).drew
        go_wp2_with fail
        go_cut [8, 9] (fun v8 v9 wx => ∃ g ad5 n5 c5, v8 = .pointer (some ⟨g, 0, none⟩) ∧ v9 = .bool q ∧ Below wo.heap.size wo wx ∧ wo.heap.size ≤ g ∧ wx.cell? ⟨g, 0, none⟩ = some (.int .i64 pp) ∧ wx.cell? ⟨g, 1, none⟩ = some (.slice ad5 n5 c5) ∧ g < wx.heap.size ∧ Own 3 wx wo.heap.size ad5 n5 c5 zs)
        case first =>
          have hqa : G < wo.heap.size := by omega
          go_region_held3 (fun W => W.cell? ⟨G, 0, none⟩ = some (.int .i64 m) ∧ W.cell? ⟨G, 1, none⟩ = some (.slice ad k d) ∧ W.cell? ⟨b, off + I, none⟩ = some (.slice (some ⟨b1, o1, none⟩) 2 c1) ∧ W.cell? ⟨b1, o1, none⟩ = some (.int .i64 s) ∧ W.cell? ⟨b1, o1 + 1, none⟩ = some (.int .i64 t)) (first | exact ⟨p0, p1, hci, hs0, ht0⟩ | exact ⟨y0, y1, y4, y2, y3⟩ | go_keep) (first
            | (go_simp; go_at_call 49; (with_reducible refine (HFl.out _ (by first | exact (Below.refl _ _).drew | exact beld _ | exact ((Below.refl _ _).drew).alloc (by simp) _)).mono ?_); rintro e w5 ⟨ad5, n5, c5, rfl, own5, hb5⟩; (first | (have HRx := Lib.hid (BoxR.newe hb5); have ne0 := HRx.out.ne hqa; have ne1 := HRx.out.ne hb1; have ne2 := HRx.out.ne hb0; obtain ⟨rc0, rc1, rf0, rf1, _⟩ := HRx.out.box) | (have HRx := Lib.hid (BoxR.newd (Nat.le_refl _) hb5); have ne0 := HRx.out.ne hqa; have ne1 := HRx.out.ne hb1; have ne2 := HRx.out.ne hb0; obtain ⟨rc0, rc1, rf0, rf1, _⟩ := HRx.out.box) | skip); have H5 : Hid (Below wo.heap.size wo w5) := Lib.hid (by first | exact chain1 hz9.out hz9.out.size hb5 | exact chain2 hz9.out hz9.out.size hb5 | exact chaind hb5); have O5 := Lib.hid own5; obtain ⟨y0, y1, _, _, _⟩ := XAr.out.keep H5.out (by omega); have y2 := (H5.out.cell (p := ⟨b1, o1, none⟩) hb1).trans hs0; have y4 := (H5.out.cell (p := ⟨b, off + I, none⟩) hb0).trans hci; have y3 := (H5.out.cell (p := ⟨b1, o1 + 1, none⟩) hb1).trans ht0; clear own5 hb5))
          all_goals (go_wp2_with fail; go_meet)
          all_goals first
            | exact ⟨_, ad5, n5, c5, rfl, rfl, late_fin' H5.out H5.out.size O5.out (by first | exact hz9.out.size | exact chainS _ hz9.out.size | exact (beld _).size)⟩
            | exact ⟨_, ad5, n5, c5, rfl, rfl, late_fin H5.out H5.out.size O5.out (by first | exact hz9.out.size | exact chainS _ hz9.out.size | exact (beld _).size)⟩
            | exact ⟨_, ad5, n5, c5, rfl, rfl, HRx.out.fin H5.out O5.out (by first | exact hz9.out.size | exact chainS _ hz9.out.size | exact (beld _).size)⟩
        case rest =>
          obtain ⟨g, ad5, n5, c5, rfl, rfl, hbc, hgl, g0, g1, hgs, hown5⟩ := hcut
          have HBc := Lib.hid hbc; have HO5 := Lib.hid hown5
          have XAc := Lib.hid (XAr.out.keep hbc (by omega)); have XRc := Lib.hid (XRr.out.keep hbc (by omega))
          have hzc : wo.heap.size ≤ wc.heap.size := hbc.size
          have HBw : Hid (Below w.heap.size w wc) := Lib.hid (HBr.out.trans (hbc.mono (by omega)))
          clear hbc hown5 p0 p1 hs0 ht0
          cases q
          · have hVn : V = none := by
              rw [HV.out]
              rcases Hcase.out with ⟨_, h, _⟩ | ⟨_, h⟩
              · cases h
              · exact runTo_end h (by omega)
            subst hVn
            obtain ⟨r0, r1, f0, f1, _⟩ := XRc.out
            go_wp2_with fail
            refine bodyPost_ret (v := .tuple #[.agg #[.int .i64 0, .slice none 0 0], .bool false]) (by simp [results, Try.results54, go_sem, r0, r1]) rfl ⟨none, 0, 0, rfl, Own.nil _ _ _, ?_⟩
            exact (HBw.out.setCell (by first | (simp; done) | (simp; omega)) _).setCell (by first | (simp; done) | (simp; omega)) _
          · have hnx : ∃ l2, pp = m ∧ zs = up l2 ∧ runTo m l L (I + 1) = some l2 := by
              rcases Hcase.out with ⟨l2, _, h⟩ | ⟨h, _⟩
              · exact ⟨l2, h⟩
              · cases h
            obtain ⟨l2, rfl, rfl, hr2⟩ := hnx
            have Hr2 := Lib.hid hr2
            clear hr2
            obtain ⟨x0, x1, xf0, xf1, _⟩ := XAc.out
            go_wp2_with fail
            go_roundw
            case rel =>
              have hGw : w.heap.size + 1 ≠ G := by omega
              refine ⟨I + 1, by omega, by go_num, (HBw.out.setCell (by first | (simp; done) | (simp; omega)) _).setCell (by first | (simp; done) | (simp; omega)) _, by simp; omega, ad5, n5, c5, l2, Hr2, (XAc.out.set0 _).set1 _, ?_, (XRc.out.setOther _ _ (by simpa using hGw)).setOther _ _ (by simpa using hGw), fun b hb => by subst hb; have := (HO5.out.lt b.block rfl).1; omega⟩
              exact ((HO5.out.setBelow _ (by omega)).setBelow _ (by omega)).mono (by omega)
            case measure => simp [intOf]; omega
      · have hVn : V = none := by rw [HV.out]; exact runTo_end (runTo_bad hrun.out (by rw [Hlen.out]; exact h2)) (by omega)
        subst hVn
        have hne : ((n1 : Int) != 2) = true := by simp; omega
        obtain ⟨r0, r1, f0, f1, _⟩ := XRr.out
        clear h2
        go_wp2_with fail
        refine bodyPost_ret (v := .tuple #[.agg #[.int .i64 0, .slice none 0 0], .bool false]) (by simp [results, Try.results54, go_sem, r0, r1]) rfl ⟨none, 0, 0, rfl, Own.nil _ _ _, ?_⟩
        exact (HBr.out.setCell (by first | (simp; done) | (simp; omega)) _).setCell (by first | (simp; done) | (simp; omega)) _
    · obtain rfl : I = n' := by omega
      have hVs : V = some l' := by rw [HV.out, hrun.out]
      subst hVs
      obtain ⟨r0, r1, f0, f1, _⟩ := XRr.out
      obtain ⟨p0, p1, _, _, _⟩ := XAr.out
      go_wp2_with fail
      refine bodyPost_ret (v := .tuple #[.agg #[.int .i64 m, .slice ad k d], .bool true]) (by simp [results, Try.results54, go_sem, r0, r1]) rfl ⟨ad, k, d, rfl, ?_, ?_⟩
      · exact ((HOr.out.setBelow _ (by omega)).setBelow _ (by omega)).mono (by omega)
      · exact (HBr.out.setCell (by first | (simp; done) | (simp; omega)) _).setCell (by first | (simp; done) | (simp; omega)) _
end Go.Proofs.Ytbdnlncpamandaa

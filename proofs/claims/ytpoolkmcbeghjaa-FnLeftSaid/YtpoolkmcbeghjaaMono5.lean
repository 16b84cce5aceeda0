/- Contracts of LeftMonomials, the reference's. -/
import Derived.Test.YtpoolkmcbeghjaaMono3
namespace Go.Proofs.Ytpoolkmcbeghjaa
set_option maxRecDepth 20000
open Go.RowKit
set_option linter.unusedSimpArgs false
set_option linter.unusedVariables false

theorem sLeftM_no (p : Int) (a : Option Addr) (n c : Nat) (xs : List Int) (d : Int) (w : World) (h : IntsAt w a n xs) (hno : ¬ LeftP p xs d) :
    Calls Try.prog 18 #[.agg #[.int .i64 p, .slice a n c], .int .i64 d] w (RetInts2 w []) := by
  obtain ⟨w1, hw1⟩ : ∃ w1, w1 = (w.alloc (.cells #[.int .i64 p, .slice a n c] 33)).alloc (.cells #[] 22) := ⟨_, rfl⟩
  have hx : IntsAt w1 a n xs := by rw [hw1]; exact h.keep (by repeat (first | exact Below.refl _ _ | assumption | refine Below.setCell ?_ (by first | omega | (simp; done) | (simp; omega)) _ | refine Below.alloc ?_ (by first | omega | (simp; done) | (simp; omega)) _ | apply Below.drew))
  have hB : Below w.heap.size w w1 := by rw [hw1]; exact (by repeat (first | exact Below.refl _ _ | assumption | refine Below.setCell ?_ (by first | omega | (simp; done) | (simp; omega)) _ | refine Below.alloc ?_ (by first | omega | (simp; done) | (simp; omega)) _ | apply Below.drew))
  have hO : Own2 w1 w.heap.size w1.heap.size (some ⟨w.heap.size + 1, 0, none⟩) 0 0 [] := by
    have := O2.empty (w.alloc (.cells #[.int .i64 p, .slice a n c] 33)) w.heap.size (by simp)
    simp only [World.size_alloc] at this
    rw [hw1]; exact ⟨_, this.up (by simp)⟩
  have hbx : BoxF w1 w.heap.size (.int .i64 p) (.slice a n c) := by rw [hw1]; exact (BoxF.new w (.int .i64 p) (.slice a n c) 33).alloc _
  have Hx := Lib.hid hx; have HB := Lib.hid hB; have HO := Lib.hid hO; have HW1 := Lib.hid hw1; have Hno := Lib.hid hno
  clear hx hB hO hw1 h hno
  by_cases hA : Anti p xs
  · have HA := Lib.hid hA
    have hd : ¬ (0 ≤ d ∧ d ≤ 4) := fun h => Hno.out ⟨hA, h⟩
    have HD := Lib.hid hd
    clear hA hd
    go_enter Try.func18, Try.ntmps18
    go_wp2_with fail
    rw [← HW1.out]
    obtain ⟨p0, p1, _, _, _⟩ := hbx
    refine (sIsComplex_any p a n c xs _ Hx.out true (by simp [HA.out])).mono ?_
    rintro e w2 ⟨rfl, hb⟩
    have HB2 : Hid (Below w.heap.size w w2) := Lib.hid (HB.out.trans (hb.mono HB.out.size))
    have HO2 := Lib.hid (Own2.up' (HO.out.keep hb) hb.size)
    clear hb
    go_wp2_with (go_at_call 70; (with_reducible refine (l1In_no d 0 4 _ HD.out).mono ?_); rintro e w' ⟨rfl, rfl⟩)
    go_ret
    exact ⟨_, 0, 0, rfl, HO2.out, HB2.out⟩
  · have HA := Lib.hid hA; clear hA
    go_enter Try.func18, Try.ntmps18
    go_wp2_with fail
    rw [← HW1.out]
    obtain ⟨p0, p1, _, _, _⟩ := hbx
    refine (sIsComplex_any p a n c xs _ Hx.out false (by simp [HA.out])).mono ?_
    rintro e w2 ⟨rfl, hb⟩
    have HB2 : Hid (Below w.heap.size w w2) := Lib.hid (HB.out.trans (hb.mono HB.out.size))
    have HO2 := Lib.hid (Own2.up' (HO.out.keep hb) hb.size)
    clear hb
    go_wp2_with fail
    go_ret
    exact ⟨_, 0, 0, rfl, HO2.out, HB2.out⟩
set_option maxRecDepth 100000 in
set_option maxHeartbeats 1000000 in
theorem sLeftM_yes (m : Nat) (a : Option Addr) (n c : Nat) (l : List Nat) (d : Nat) (w : World) (h : IntsAt w a n (up l)) (h1 : 1 ≤ m) (hm : m ≤ 6) (hd : d ≤ 4) (hA : Anti m (up l)) (hl : ∀ t ∈ l, t < 64) :
    Calls Try.prog 18 #[.agg #[.int .i64 m, .slice a n c], .int .i64 d] w (RetInts2 w (pickL (fun e => isFace l (suppOf e)) (monoL (m - 1) [] d))) := by
  obtain ⟨w1, hw1⟩ : ∃ w1, w1 = (w.alloc (.cells #[.int .i64 m, .slice a n c] 33)).alloc (.cells #[] 22) := ⟨_, rfl⟩
  have hx : IntsAt w1 a n (up l) := by rw [hw1]; exact h.keep (by repeat (first | exact Below.refl _ _ | assumption | refine Below.setCell ?_ (by first | omega | (simp; done) | (simp; omega)) _ | refine Below.alloc ?_ (by first | omega | (simp; done) | (simp; omega)) _ | apply Below.drew))
  have hB : Below w.heap.size w w1 := by rw [hw1]; exact (by repeat (first | exact Below.refl _ _ | assumption | refine Below.setCell ?_ (by first | omega | (simp; done) | (simp; omega)) _ | refine Below.alloc ?_ (by first | omega | (simp; done) | (simp; omega)) _ | apply Below.drew))
  have hz1 : w1.heap.size = w.heap.size + 2 := by rw [hw1]; simp
  have hO : Row 22 w1 (w.heap.size + 1) (some ⟨w.heap.size + 1, 0, none⟩) 0 0 [] := by
    have := (O2.empty (w.alloc (.cells #[.int .i64 m, .slice a n c] 33)) (w.heap.size + 1) (by simp)).row
    simp only [World.size_alloc] at this
    rw [hw1]; exact this
  have hbx : BoxF w1 w.heap.size (.int .i64 m) (.slice a n c) := by rw [hw1]; exact (BoxF.new w (.int .i64 m) (.slice a n c) 33).alloc _
  have HxF : Hid (∀ W, Below (w.heap.size + 1) w1 W → IntsAt W a n (up l)) := Lib.hid fun W hW => h.keep (hB.trans (hW.mono (by omega)))
  have HB := Lib.hid hB; have HR1 := Lib.hid hO; have HW1 := Lib.hid hw1; have XA := Lib.hid hbx; have Hx := Lib.hid hx; have HA := Lib.hid hA; have Hl := Lib.hid hl
  obtain ⟨hM1, hM2⟩ := mono_sizes hm h1 (show d ≤ 5 by omega)
  have hmon := fun W => sMonos_any m d W h1 hm (by omega)
  obtain ⟨M, hM⟩ : ∃ M, M = monoL (m - 1) [] d := ⟨_, rfl⟩
  rw [← hM] at hM1 hM2 hmon ⊢
  have HM2 := Lib.hid hM2; have Hmon := Lib.hid hmon
  obtain ⟨P, hP⟩ : ∃ P : List Int → Bool, P = fun e => isFace l (suppOf e) := ⟨_, rfl⟩
  rw [← hP]
  have HP := Lib.hid hP
  clear hx h hA hl hM hM2 hmon hP hB hO hw1 hbx
  go_enter Try.func18, Try.ntmps18
  go_wp2_with fail
  rw [← HW1.out]
  obtain ⟨p0, p1, _, _, _⟩ := XA.out
  refine (sIsComplex_any m a n c _ _ Hx.out true (by simp [HA.out])).mono ?_
  rintro e w2 ⟨rfl, hb⟩
  have HB2 : Hid (Below (w.heap.size + 2) w1 w2) := Lib.hid (hb.mono (by omega))
  obtain ⟨q0, q1, _, _, _⟩ := XA.out.keep hb (by omega)
  have hz2 : w.heap.size + 2 ≤ w2.heap.size := by have := hb.size; omega
  clear hb p0 p1
  go_wp2_with (go_at_call 70; (with_reducible refine (l1In_yes (d : Int) 0 4 _ (by omega) (by omega)).mono ?_); rintro e w' ⟨rfl, rfl⟩)
  refine (Hmon.out _).mono ?_
  rintro e w3 ⟨adA, nA, cA, rfl, hown, hb⟩
  have HB3 := Lib.hid (HB2.out.trans (hb.mono (by omega)))
  obtain ⟨f, hO⟩ := hown
  have HO := Lib.hid hO
  have hlM := hO.len
  have HlM := Lib.hid hlM
  have hz3 : w2.heap.size ≤ w3.heap.size := hb.size
  have XA3 := Lib.hid (XA.out.keep (HB3.out) (by omega))
  have HR3 := Lib.hid (HR1.out.keep (HB3.out.mono (by omega)))
  have hnA : nA ≤ 8000 := by omega
  clear hb hO hlM q0 q1
  go_wp2_with fail
  go_loopw [5, 7] (fun o i wr => ∃ I : Nat, I ≤ nA ∧ i = .int .i64 I ∧ w3.grownBy wr (some (w.heap.size + 1)) ∧ ∃ ad k d, o = .slice ad k d ∧ k ≤ I ∧ Row 22 wr (w.heap.size + 1) ad k d ((pickI P M I).map fun i => (f i).val) ∧ ∀ e, ad = some e → e.block = w.heap.size + 1 ∨ w3.heap.size ≤ e.block) (fun _ i _ => nA - (intOf i).toNat)
  case atStart => exact ⟨0, Nat.zero_le _, rfl, grown_of (Below.refl _ _), _, 0, 0, rfl, Nat.le_refl _, HR3.out, fun e he => by cases he; exact .inl rfl⟩
  case round =>
    obtain ⟨I, hI, rfl, hgr, ad, k, dd, rfl, hk, hrow, hloc⟩ := hrel
    have HG := Lib.hid hgr; have HR := Lib.hid hrow; have HL := Lib.hid hloc
    have HOr := Lib.hid (HO.out.pres (w' := wr) fun k h1 h2 _ => hgr.block k h2 (fun e => by cases e; omega))
    have hzr : w3.heap.size ≤ wr.heap.size := hgr.size
    have HBr : Hid (Below (w.heap.size + 1) w1 wr) := Lib.hid ((HB3.out.mono (by omega)).trans ⟨hgr.os, hgr.tape, hgr.output, hgr.size, fun i hi => hgr.block i (by omega) (fun e => by cases e; omega)⟩)
    clear hgr hrow hloc
    have XAr := Lib.hid (XA.out.keep HBr.out (by omega))
    have Hxr := Lib.hid (HxF.out _ HBr.out)
    by_cases hlt : I < nA
    · obtain ⟨gA, hga, hcg⟩ := HOr.out.cell hlt
      subst hga
      have hrd := (HOr.out.own I hlt).reads
      have hmem : nthL M I ∈ M := by rw [nthL_at (by rw [HlM.out]; exact hlt)]; exact List.getElem_mem _
      have hlen := HM2.out _ hmem
      have hy := pickI_yes (P := P) (L := M) (k := I)
      have hn := pickI_no (P := P) (L := M) (k := I)
      obtain ⟨⟨a1, n1, c1⟩, hfe⟩ : ∃ x, x = f I := ⟨_, rfl⟩
      rw [← hfe] at hcg hrd
      simp only [Sl.val] at hcg hrd
      have hval : (f I).val = .slice a1 n1 c1 := by rw [← hfe]; rfl
      have hn1 : n1 ≤ 6 := by have := hrd.len; omega
      obtain ⟨E, hE⟩ : ∃ E, E = nthL M I := ⟨_, rfl⟩
      rw [← hE] at hrd hlen hy hn
      have hs64 := supp_lt64 (e := E) (by omega)
      obtain ⟨q, hq⟩ : ∃ q, isFace l (suppOf E) = q := ⟨_, rfl⟩
      have hPq : P E = q := by rw [HP.out]; exact hq
      have HX : Hid (∀ W, IntsAt W a n (up l) → Calls Try.prog 72 #[.agg #[.int .i64 m, .slice a n c], .int .i64 (suppOf E)] W fun e w' => e = .returned (.bool q) ∧ Below W.heap.size W w') := Lib.hid (fun W hW => l3Has_any m (suppOf E) a n c l W hW hs64 Hl.out q hq)
      rw [hPq] at hy hn
      have Hy := Lib.hid hy; have Hn := Lib.hid hn; have Hval := Lib.hid hval
      have Hrdd := Lib.hid (hrd.keep (Below.drew (Below.refl _ _)))
      have Hxd := Lib.hid (Hxr.out.keep (Below.drew (Below.refl _ _)))
      have XAd := Lib.hid XAr.out.drew
      have hI0 : (0 : Int) ≤ I := by omega
      have hIn : (I : Int) < nA := by omega
      obtain ⟨p0, p1, _, _, _⟩ := XAr.out
      clear hrd hmem hlen hy hn hfe hval hE hs64 hq hPq
      go_wp2_with fail
      go_cut [34] (fun v W => v = .bool q ∧ Below wr.heap.size wr W)
      case first =>
        go_region_held3 (fun W => W.cell? ⟨w.heap.size, 0, none⟩ = some (.int .i64 m) ∧ W.cell? ⟨w.heap.size, 1, none⟩ = some (.slice a n c) ∧ W.cell? ⟨gA, I, none⟩ = some (.slice a1 n1 c1)) (first | exact ⟨p0, p1, hcg⟩ | exact ⟨y0, y1, y2⟩ | go_keep) (first
          | (go_simp; go_at_call 73; (with_reducible refine (sUsed_any a1 n1 c1 E _ Hrdd.out hn1).mono ?_); rintro e5 w5 ⟨rfl, rfl⟩)
          | (go_simp; go_at_call 72; (with_reducible refine (HX.out _ Hxd.out).mono ?_); rintro e4 w4 ⟨rfl, hb4⟩; have HB4 : Hid (Below wr.heap.size wr w4) := Lib.hid (((Below.refl _ wr).drew).trans (hb4.mono (by simp))); have y2 := (HB4.out.cell (p := ⟨gA, I, none⟩) (by have := World.block_lt_of_cell? wr _ hcg; simpa using this)).trans hcg; obtain ⟨y0, y1, _, _, _⟩ := XAr.out.keep HB4.out (by omega); clear hb4))
        all_goals (go_wp2_with fail; go_meet)
        all_goals exact ⟨rfl, HB4.out⟩
      case rest =>
        obtain ⟨rfl, hbc⟩ := hcut
        have HBc := Lib.hid hbc
        have hzc : wr.heap.size ≤ wc.heap.size := hbc.size
        have hcc := (hbc.cell (p := ⟨gA, I, none⟩) (by have := World.block_lt_of_cell? wr _ hcg; simpa using this)).trans hcg
        have HRc := Lib.hid (HR.out.keep hbc)
        have HGc := Lib.hid (grown_trans HG.out (grown_of hbc))
        clear hbc p0 p1 hcg
        cases q
        · go_wp2_with fail
          go_roundw
          case rel => exact ⟨I + 1, by omega, by go_num, HGc.out, ad, k, dd, rfl, by omega, by rw [Hn.out (by simp)]; exact HRc.out, HL.out⟩
          case measure => simp [intOf]; omega
        · go_wp2_with (at_builtin; refine list_apl rfl _ _ rfl (w.heap.size + 1) _ _ _ _ _ rfl HRc.out rfl rfl (by omega) (by omega) ?_; intro ad5 d5 w5 hrow5 hg5 hl5; have HR5 := Lib.hid hrow5; have HG5 := Lib.hid hg5; have HL5 := Lib.hid hl5; clear hrow5 hg5 hl5)
          go_roundw
          case rel =>
            refine ⟨I + 1, by omega, by go_num, ?_, ad5, k + 1, d5, rfl, by omega, by rw [Hy.out (by simp), List.map_append]; simp only [List.map_cons, List.map_nil]; rw [Hval.out]; exact HR5.out, fun e he => ?_⟩
            · refine grown_then (grown_trans HGc.out (grown_of ((Below.refl _ wc).alloc (Nat.le_refl _) _))) HG5.out fun j hj => ?_
              obtain ⟨b, hb1, hb2⟩ := ownBlock_some hj
              rcases HL.out b hb1 with h | h
              · left; rw [← hb2, h]
              · right; omega
            · rcases HL5.out e he with ⟨b, hb1, hb2⟩ | h
              · rcases HL.out b hb1 with h | h
                · left; omega
                · right; omega
              · right; simp at h; omega
          case measure => simp [intOf]; omega
    · obtain rfl : I = nA := by omega
      go_wp2_with fail
      go_ret
      refine ⟨ad, k, dd, rfl, ?_, HB.out.trans (HBr.out.mono (by omega))⟩
      have hc := (HOr.out.mono (show w.heap.size + 1 ≤ w2.heap.size by omega)).choose (pickI P M I) (fun i hi => pickI_lt i hi) (pickI_nodup P M I) HR.out (fun i hi b e hb he => by
        have h1 := HOr.out.his i hi b hb
        have h2 := ((HOr.out.own i hi).lt b.block (by rw [hb]; rfl)).1
        rcases HL.out e he with h | h <;> omega) hzr (fun e he => (HR.out.lt e.block (by rw [he]; rfl)).2)
      obtain ⟨f9, h9⟩ := hc
      unfold pickL
      rw [HlM.out]
      exact ⟨f9, h9.mono (by omega)⟩
end Go.Proofs.Ytpoolkmcbeghjaa

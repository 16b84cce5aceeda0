/- Contracts of the reference's FaceCounts, of Choose and of LeftCount. -/
import Derived.Test.YtihfhfihladlcaaGreatDoorFaces2
import Derived.Test.YtihfhfihladlcaaGreatDoorSet
namespace Go.Proofs.YtihfhfihladlcaaGreatDoor
set_option maxRecDepth 20000
open Go.RowKit
set_option linter.unusedSimpArgs false
set_option linter.unusedVariables false

set_option maxRecDepth 100000 in
set_option maxHeartbeats 4000000 in
theorem sCounts_yes (p : Int) (a : Option Addr) (n c : Nat) (l : List Nat) (w : World) (h : IntsAt w a n (up l)) (hA : Anti p (up l)) (hl : ∀ t ∈ l, t < 64) :
    Calls Tryz.prog 60 #[.agg #[.int .i64 p, .slice a n c]] w (RetInts w (up (cntOf (isFace l)))) := by
  have hx : IntsAt ((w.alloc (.cells #[.int .i64 p, .slice a n c] 32)).alloc (.cells #[] 3)) a n (up l) := h.keep (by repeat (first | exact Below.refl _ _ | assumption | refine Below.setCell ?_ (by first | omega | (simp; done) | (simp; omega)) _ | refine Below.alloc ?_ (by first | omega | (simp; done) | (simp; omega)) _ | apply Below.drew))
  have Hx := Lib.hid hx; have HA := Lib.hid hA; have Hl := Lib.hid hl
  clear hx h hA hl
  obtain ⟨D, hD⟩ : ∃ D, D = ord (isFace l) := ⟨_, rfl⟩
  have hD64 : ∀ s ∈ D, s < 64 := by rw [hD]; exact ord_lt
  have hDl : D.length ≤ 64 := by rw [hD]; exact ord_len _
  have HD := Lib.hid hD; have HD64 := Lib.hid hD64
  clear hD hD64
  go_enter Tryz.func60, Tryz.ntmps60
  go_wp2_with fail
  refine (sFacesOf_yes p a n c l _ Hx.out HA.out Hl.out).mono ?_
  rw [← HD.out]
  rintro e w1 ⟨ad, m, d, rfl, hown, hb⟩
  have HO0 : Hid (Own 3 w1 w.heap.size (some ⟨w.heap.size + 1, 0, none⟩) 0 0 []) := Lib.hid (by
    have := (Own.empty 3 (w.alloc (.cells #[.int .i64 p, .slice a n c] 32)) w.heap.size (by simp)).keep hb
    simp only [World.size_alloc] at this; exact this)
  have HB : Hid (Below w.heap.size w w1) := Lib.hid (Below.trans (by repeat (first | exact Below.refl _ _ | assumption | refine Below.setCell ?_ (by first | omega | (simp; done) | (simp; omega)) _ | refine Below.alloc ?_ (by first | omega | (simp; done) | (simp; omega)) _ | apply Below.drew)) (hb.mono (by simp <;> omega)))
  have HR := Lib.hid (hown.mono (show w.heap.size ≤ _ by simp; omega))
  have hDm : D.length = m := by have := HR.out.len; rwa [up_len] at this
  have HDm := Lib.hid hDm
  have hlo := hown.lt
  have Hlo : Hid (∀ k, (Value.slice ad m d).ownBlock = some k → w.heap.size + 2 ≤ k ∧ k < w1.heap.size) := Lib.hid (fun k hk => by have := hlo k hk; simp at this; omega)
  have hm64 : m ≤ 64 := by omega
  clear hb hown hDl hlo hDm
  have hz1 : w.heap.size ≤ w1.heap.size := HB.out.size
  go_wp2_with fail
  go_loopw [3, 5] (fun f i wr => ∃ I : Nat, I ≤ m ∧ i = .int .i64 I ∧ Below w.heap.size w wr ∧ w1.heap.size ≤ wr.heap.size ∧ ∃ ad2 T d2, f = .slice ad2 T d2 ∧ T ≤ 7 ∧ Own 3 wr w.heap.size ad2 T d2 (up (ct (D.take I) T)) ∧ Own 3 wr w.heap.size ad m d (up D) ∧ (∀ b, ad2 = some b → b.block = w.heap.size + 1 ∨ w1.heap.size ≤ b.block) ∧ Hid (∀ s ∈ D.take I, sz s < T) ∧ Hid (T = 0 ∨ ∃ s ∈ D.take I, sz s + 1 = T)) (fun _ i _ => m - (intOf i).toNat)
  case atStart => exact ⟨0, by omega, rfl, HB.out, Nat.le_refl _, _, 0, 0, rfl, by omega, HO0.out, HR.out, fun b hb => .inl (by cases hb; rfl), Lib.hid (by simp), Lib.hid (.inl rfl)⟩
  case round =>
    obtain ⟨wo, rfl⟩ : ∃ x : World, x = wr := ⟨_, rfl⟩
    obtain ⟨I, hI, rfl, hb, hzr, ad2, T0, d2, rfl, hT7, hown, hR, hloc, hlt0, hhit⟩ := hrel
    have HBr := Lib.hid hb; have HO := Lib.hid hown; have HRr := Lib.hid hR; have Hloc := Lib.hid hloc
    clear hb hown hR hloc
    by_cases hlt : I < m
    · have ht64 := HD64.out _ (nthN_mem (xs := D) (k := I) (by rw [HDm.out]; exact hlt))
      have htk : D.take (I + 1) = D.take I ++ [nthN D I] := nthN_take D I (by rw [HDm.out]; exact hlt)
      obtain ⟨t, hte⟩ : ∃ t, t = nthN D I := ⟨_, rfl⟩
      rw [← hte] at ht64 htk
      have Htk := Lib.hid htk; have Hte := Lib.hid hte
      have hsz6 := sz_le t
      clear htk hte
      have hI0 : (0 : Int) ≤ I := by omega
      have hIm : (I : Int) < m := by omega
      go_wp2_with fail
      go_loopw [3] (fun f wr => Below w.heap.size w wr ∧ w1.heap.size ≤ wr.heap.size ∧ ∃ ad2 T d2, f = .slice ad2 T d2 ∧ T0 ≤ T ∧ (T = T0 ∨ T ≤ sz t + 1) ∧ Own 3 wr w.heap.size ad2 T d2 (up (ct (D.take I) T)) ∧ Own 3 wr w.heap.size ad m d (up D) ∧ (∀ b, ad2 = some b → b.block = w.heap.size + 1 ∨ w1.heap.size ≤ b.block)) (fun f _ => 8 - (match f with | .slice _ n _ => n | _ => 0))
      case atStart => exact ⟨HBr.out, hzr, ad2, T0, d2, rfl, Nat.le_refl _, .inl rfl, HO.out, HRr.out, Hloc.out⟩
      case round =>
        clear HBr HO HRr Hloc hzr
        obtain ⟨hb, hzr, ad2, T, d2, rfl, hT0, hTs, hown, hR, hloc⟩ := hrel
        have HBr := Lib.hid hb; have HO := Lib.hid hown; have HRr := Lib.hid hR; have Hloc := Lib.hid hloc
        have HTs := Lib.hid hTs
        have hT7' : T ≤ 7 := by omega
        clear hb hown hR hloc hTs
        obtain ⟨b1, o1, rfl, hc⟩ := HRr.out.reads.cells (by omega)
        have hck := hc I hlt
        rw [nth_up, ← Hte.out] at hck
        clear hc
        by_cases hle : T ≤ sz t
        · have hle' : (T : Int) ≤ (sz t : Int) := by omega
          have hct : ct (D.take I) (T + 1) = ct (D.take I) T ++ [0] := ct_succ fun s hs => by have := hlt0.out s hs; omega
          have Hct := Lib.hid hct; clear hct
          go_wp2_with (first
            | (go_at_call 138; (with_reducible refine (l2Size_any t _ ht64).mono ?_); rintro e w' ⟨rfl, rfl⟩)
            | (at_builtin; refine ap_at rfl _ _ rfl w.heap.size _ _ _ _ _ rfl HO.out rfl (by omega) (by omega) ?_; intro ad' d' w' hown' hb' hg' hnew'; have HO' := Lib.hid hown'; have HB' := Lib.hid hb'; have HG' := Lib.hid hg'; have HN' := Lib.hid hnew'; clear hown' hb' hg' hnew'))
          go_roundw
          case rel =>
            refine ⟨HBr.out.trans HB'.out, Nat.le_trans hzr HB'.out.size, ad', T + 1, d', rfl, by omega, .inr (by omega), ?_, ?_, fun b hb => ?_⟩
            · rw [Hct.out, up_append]; exact HO'.out
            · refine HRr.out.grownNe HG'.out fun q1 h1 q2 h2 e => ?_
              obtain ⟨b, hb, hbq⟩ := ownBlock_some h1
              have h3 := Hlo.out q2 h2
              rcases Hloc.out b hb with h4 | h4 <;> omega
            · rcases HN'.out b hb with ⟨c, hc, hbc⟩ | h
              · rw [hbc]; exact Hloc.out c hc
              · exact .inr (by omega)
          case measure => simp; omega
        · have hle' : ¬ (T : Int) ≤ (sz t : Int) := by omega
          have hszT : sz t < T := by omega
          have hsetc := ct_add (L := D.take I) (T := T) (u := t) hszT
          rw [← Htk.out] at hsetc
          have hcell := HO.out.reads
          obtain ⟨g2, hg2⟩ : ∃ g2, ad2 = some ⟨g2, 0, none⟩ := by
            rcases Row.cur HO.out with ⟨_, h0, _⟩ | ⟨g, _, hg, _⟩
            · omega
            · exact ⟨g, hg⟩
          subst hg2
          have hcs := hcell.cellAt (sz t) hszT
          rw [nth_up, Nat.zero_add] at hcs
          have hcv : nthN (ct (D.take I) T) (sz t) ≤ 64 := by
            rw [ct_at hszT]
            exact Nat.le_trans (List.length_filter_le _ _) (by simp; omega)
          obtain ⟨v, hv⟩ : ∃ v, v = nthN (ct (D.take I) T) (sz t) := ⟨_, rfl⟩
          rw [← hv] at hcs hcv hsetc
          have hfro : wr.frozen? ⟨g2, sz t, none⟩ = false := by
            obtain ⟨g', hg', _, _, _, hf⟩ := Row.cells HO.out (by omega)
            cases hg'; exact hf (sz t)
          have Hset := Lib.hid hsetc
          have hs0 : (0 : Int) ≤ (sz t : Int) := by omega
          have hsT : (sz t : Int) < T := by omega
          have hwadd : IntKind.i64.wrap ((v : Int) + 1) = (v : Int) + 1 := by rw [IntKind.wrap_i64]; omega
          clear hv hsetc hcell
          go_wp2_with (go_at_call 138; (with_reducible refine (l2Size_any t _ ht64).mono ?_); rintro e w' ⟨rfl, rfl⟩)
          have hgB := (HO.out.lt g2 rfl)
          have hO1 : Own 3 (wr.setCell ⟨g2, sz t, none⟩ (.int .i64 ((v : Int) + 1))) w.heap.size (some ⟨g2, 0, none⟩) T d2 (up (ct (D.take (I + 1)) T)) := by
            have := HO.out.set (sz t) (((v + 1 : Nat)) : Int)
            rw [show (up (ct (D.take I) T)).set (sz t) ((v + 1 : Nat) : Int) = up ((ct (D.take I) T).set (sz t) (v + 1)) by unfold up; rw [List.map_set], Hset.out] at this
            exact this
          have hR1 : Own 3 (wr.setCell ⟨g2, sz t, none⟩ (.int .i64 ((v : Int) + 1))) w.heap.size (some ⟨b1, o1, none⟩) m d (up D) := by
            refine HRr.out.setOther _ fun e => ?_
            have h3 := Hlo.out g2 (by rw [e]; rfl)
            rcases Hloc.out _ rfl with h4 | h4 <;> simp only [] at h4 <;> omega
          have hB1 : Below w.heap.size w (wr.setCell ⟨g2, sz t, none⟩ (.int .i64 ((v : Int) + 1))) := HBr.out.setCell hgB.1 _
          have hl1 : ∀ s ∈ D.take (I + 1), sz s < T := fun s hs => by
            rw [Htk.out] at hs
            rcases List.mem_append.1 hs with h | h
            · have := hlt0.out s h; omega
            · rw [List.mem_singleton.1 h]; exact hszT
          have hh1 : T = 0 ∨ ∃ s ∈ D.take (I + 1), sz s + 1 = T := by
            refine .inr ?_
            rcases HTs.out with h | h
            · rcases hhit.out with h' | ⟨s, hs, hs2⟩
              · omega
              · exact ⟨s, by rw [Htk.out]; exact List.mem_append_left _ hs, by omega⟩
            · exact ⟨t, by rw [Htk.out]; simp, by omega⟩
          have HO1 := Lib.hid hO1; have HR1 := Lib.hid hR1; have HB1 := Lib.hid hB1; have Hl1 := Lib.hid hl1; have Hh1 := Lib.hid hh1
          clear hO1 hR1 hB1 hl1 hh1
          go_region_with ((go_at_call 138; (with_reducible refine (l2Size_any t _ ht64).mono ?_); rintro e w' ⟨rfl, rfl⟩))
          all_goals (
            go_wp2_with fail
            go_roundw
            case rel =>
              first
                | exact ⟨I + 1, by omega, by go_num, HB1.out.drew, by simpa using hzr, _, T, d2, rfl, hT7', HO1.out.drew, HR1.out.drew, Hloc.out, Hl1, Hh1⟩
                | (rw [World.setCell_drew]; exact ⟨I + 1, by omega, by go_num, HB1.out.drew, by simpa using hzr, _, T, d2, rfl, hT7', HO1.out.drew, HR1.out.drew, Hloc.out, Hl1, Hh1⟩)
                | (rw [← World.setCell_drew]; exact ⟨I + 1, by omega, by go_num, HB1.out.drew, by simpa using hzr, _, T, d2, rfl, hT7', HO1.out.drew, HR1.out.drew, Hloc.out, Hl1, Hh1⟩)
            case measure => simp [intOf]; omega)
    · obtain rfl : I = m := by omega
      have hii : ¬ ((I : Int) < I) := by omega
      have hend : ct D T0 = cntOf (isFace l) := by
        rw [HD.out]
        apply ct_end
        · intro s hs
          refine hlt0.out s ?_
          rw [← HDm.out, List.take_length, HD.out]; exact hs
        · rcases hhit.out with h | ⟨s, hs, h⟩
          · exact .inl h
          · rw [← HDm.out, List.take_length, HD.out] at hs
            exact .inr ⟨s, hs, h⟩
      have Hend := Lib.hid hend; clear hend
      have HOf : Hid (Own 3 wo w.heap.size ad2 T0 d2 (up (ct D T0))) := Lib.hid (by have := HO.out; rw [← HDm.out, List.take_length] at this; exact this)
      go_wp2_with fail
      go_ret
      exact ⟨ad2, T0, d2, rfl, by rw [← Hend.out]; exact HOf.out, HBr.out⟩
end Go.Proofs.YtihfhfihladlcaaGreatDoor

/- Surfaces: what the two checks mean; HolesMod and EulerOf of the program; IsOrientable of both sides. -/
import Derived.Test.YtihfhfihladlcaaGreatDoorEuler
import Derived.Test.YtihfhfihladlcaaGreatDoorFaces3
import Derived.Test.YtihfhfihladlcaaGreatDoorHoles
import Derived.Test.YtihfhfihladlcaaGreatDoorHolesI
import Derived.Test.YtihfhfihladlcaaGreatDoorSurf
namespace Go.Proofs.YtihfhfihladlcaaGreatDoor
set_option maxRecDepth 20000
open Go.RowKit
set_option linter.unusedSimpArgs false
set_option linter.unusedVariables false

theorem srf_of {m : Nat} {l : List Nat} (hC : Cpx m l) (h : srfB m l = true) : Srf l := by
  unfold srfB clB chB at h
  simp only [Bool.and_eq_true, decide_eq_true_eq] at h
  obtain ⟨hT, ⟨⟨hp, h2⟩, hcl⟩, ⟨⟨_, hn⟩, hch⟩, _⟩ := h
  have hne : l ≠ [] := List.length_pos_iff.1 hn
  have h64 := hC.lt64
  have hpar := cpx_parts hC
  -- all facets have three points
  have h3 : ∀ f ∈ l, sz f = 3 := by
    have hle : ∀ f ∈ l, sz f < 4 := fun f hf => by
      have : sz f < topTo (isFace l) 64 := topTo_ge ((srf_face h64).2 ⟨f, hf, by unfold sub; simp⟩) 64 (h64 f hf)
      unfold topL at hT; omega
    rcases topTo_hit (p := isFace l) 64 with h0 | ⟨s, hs, hA, hz⟩
    · unfold topL at hT; omega
    · have hz' : sz s + 1 = topL l := hz
      obtain ⟨f, hf, hsf⟩ := (srf_face h64).1 hA
      have h1 := sub_szL s hs f (h64 f hf) hsf
      have h4 := hle f hf
      unfold pureB at hp
      rw [List.all_eq_true] at hp
      have e1 := hp f hf
      intro g hg
      have e2 := hp g hg
      simp at e1 e2
      omega
  refine ⟨hne, fun f hf => ⟨h64 f hf, h3 f hf⟩, hpar.1.imp fun h e => by rw [e] at h; omega, fun e he hze hA => ?_, fun P hP h0 => ?_⟩
  · rw [hT] at hcl
    rw [List.all_eq_true] at hcl
    have hm : e ∈ rds l 4 := mem_lvl2.2 ⟨he, hA, hze⟩
    have := hcl (cof l 4 e) (List.mem_map.2 ⟨e, hm, rfl⟩)
    have hc : cof l 4 e = 2 := by simpa using this
    rw [← hc]
    unfold cof
    congr 1
    refine List.filter_congr fun f hf => ?_
    unfold isR
    rw [h3 f hf]; simp
  · refine chain_all hne hch (fun u hu f hf ha => hP u hu f hf ?_) h0
    have := h3 u hu
    unfold adjU at ha
    simp at ha; omega
theorem holesL_face {p : Nat} (l : List Nat) : holesL p (faceSet l).testBit = holesL p (isFace l) := by
  have he : ∀ s, s < 64 → (faceSet l).testBit s = isFace l s := fun s hs => faceSet_bit hs
  have hl : ∀ k, lvlTo (faceSet l).testBit 64 k = lvlTo (isFace l) 64 k := fun k => lvl_congr he k
  refine holesL_congr ?_ fun k => ?_
  · unfold topTo
    have : ∀ (L : List Nat) (m : Nat), (∀ s ∈ L, s < 64) → L.foldl (fun m s => if (faceSet l).testBit s && decide (m ≤ sz s) then sz s + 1 else m) m = L.foldl (fun m s => if isFace l s && decide (m ≤ sz s) then sz s + 1 else m) m := by
      intro L
      induction L with
      | nil => intro m _; rfl
      | cons a L ih => intro m h; rw [List.foldl_cons, List.foldl_cons, he a (h a (by simp)), ih _ fun s hs => h s (by simp [hs])]
    exact this _ _ fun s hs => List.mem_range.1 hs
  · unfold holeN rk0 rk
    simp only [hl]
theorem top_face (l : List Nat) : topTo (faceSet l).testBit 64 = topTo (isFace l) 64 := by
  have he : ∀ s, s < 64 → (faceSet l).testBit s = isFace l s := fun s hs => faceSet_bit hs
  unfold topTo
  have : ∀ (L : List Nat) (m : Nat), (∀ s ∈ L, s < 64) → L.foldl (fun m s => if (faceSet l).testBit s && decide (m ≤ sz s) then sz s + 1 else m) m = L.foldl (fun m s => if isFace l s && decide (m ≤ sz s) then sz s + 1 else m) m := by
    intro L
    induction L with
    | nil => intro m _; rfl
    | cons a L ih => intro m h; rw [List.foldl_cons, List.foldl_cons, he a (h a (by simp)), ih _ fun s hs => h s (by simp [hs])]
  exact this _ _ fun s hs => List.mem_range.1 hs
set_option maxHeartbeats 1000000 in
theorem iHoles_yes {m : Nat} {l : List Nat} (hC : Cpx m l) (a : Option Addr) (n c p : Nat) (w : World) (h : IntsAt w a n (up l)) (hcap : n ≤ c) (h0 : 0 < n) (hp : Prm p) :
    Calls Tryz.prog 158 #[.agg #[.int .i64 m, .slice a n c], .int .i64 p] w (RetInts w (holesL p (isFace l))) := by
  obtain ⟨w0, hw0⟩ : ∃ w0, w0 = w.alloc (.cells #[.int .i64 m, .slice a n c] 32) := ⟨_, rfl⟩
  have HB0 : Hid (Below w.heap.size w w0) := Lib.hid (by rw [hw0]; exact (by repeat (first | exact Below.refl _ _ | assumption | refine Below.setCell ?_ (by first | omega | (simp; done) | (simp; omega)) _ | refine Below.alloc ?_ (by first | omega | (simp; done) | (simp; omega)) _ | apply Below.drew)))
  have X0 : Hid (BoxF w0 w.heap.size (.int .i64 m) (.slice a n c)) := Lib.hid (by rw [hw0]; exact BoxF.new _ _ _ _)
  have Hx0 : Hid (IntsAt w0 a n (up l)) := Lib.hid (h.keep HB0.out)
  have hln := (hC.at h).1
  have HI : Hid (∀ W, IntsAt W a n (up l) → Calls Tryz.prog 86 #[.agg #[.int .i64 m, .slice a n c]] W fun e w' => e = .returned (.bool true) ∧ Below W.heap.size W w') := Lib.hid fun W hW => iIsComplex_any m a n c _ W hW hcap true (by simp [hC.anti])
  have hT1 : 1 ≤ topTo (faceSet l).testBit 64 := by
    rw [top_face]
    exact (empty_one (l := l) (by rintro rfl; simp at hln; omega)).2
  have hdn : Dn (faceSet l).testBit := fun t ht hA u hu => by
    have hu64 : u < 64 := by
      unfold sub at hu
      have e : u &&& t = u := by simpa using hu
      have := Nat.and_le_right (n := u) (m := t)
      omega
    rw [faceSet_bit hu64]
    rw [faceSet_bit ht] at hA
    exact dn_isFace l t ht hA u hu
  have hFF := faceSet_Fam l
  have HFc0 := fun W hW => facesIn_any (m : Int) a n c l W hW hC.lt64
  have HHo0 := fun W => holesIn_any (faceSet l) p W hFF hp hdn hT1
  rw [holesL_face] at HHo0
  obtain ⟨F, hF⟩ : ∃ F, F = faceSet l := ⟨_, rfl⟩
  rw [← hF] at HFc0 HHo0
  have HFc := Lib.hid HFc0; have HHo := Lib.hid HHo0
  have HPr : Hid (∀ W, Calls Tryz.prog 196 #[.int .i64 p] W fun e w' => e = .returned (.bool true) ∧ W = w') := Lib.hid fun W => implPrime_yes p W hp
  have hn0 : ((n : Int) == 0) = false := by simp; omega
  have HW0 := Lib.hid hw0
  clear h hw0 hp hT1 hdn hFF HFc0 HHo0 hF hln h0
  go_enter Tryz.func158, Tryz.ntmps158
  go_wp2_with fail
  rw [← HW0.out]
  refine (HI.out _ Hx0.out).mono ?_
  rintro e w1 ⟨rfl, hb1⟩
  have HB1 := Lib.hid (HB0.out.trans (hb1.mono HB0.out.size))
  have X1 := Lib.hid (X0.out.keep hb1 X0.out.lt)
  have Hx1 := Lib.hid (Hx0.out.keep hb1)
  clear hb1
  obtain ⟨p0, p1, _, _, _⟩ := X1.out
  go_wp2_with (go_at_call 196; (with_reducible refine (HPr.out _).mono ?_); rintro e w' ⟨rfl, rfl⟩)
  refine (HFc.out _ Hx1.out).mono ?_
  rintro e w2 ⟨rfl, hb2⟩
  have HB2 := Lib.hid (HB1.out.trans (hb2.mono HB1.out.size))
  clear hb2
  go_wp2_with fail
  refine (HHo.out _).mono ?_
  rintro e w3 ⟨ad, k, d, rfl, own, hb3⟩
  have HB3 := Lib.hid (HB2.out.trans (hb3.mono HB2.out.size))
  have HO := Lib.hid (Own.mono own HB2.out.size)
  clear hb3 own
  go_wp2_with fail
  go_ret
  exact ⟨ad, k, d, rfl, HO.out, HB3.out⟩
theorem eul_cnt {A : Nat → Bool} : eul A = sm (fun k => cg k * (nthN (cntOf A) k : Int)) (cntOf A).length := by
  rw [eul_lvl, cnt_len2, ← sm_more (fun k => cg k * (nthN (cntOf A) k : Int)) (topTo A 64) 7 (fun i hi => by
    have : nthN (cntOf A) i = 0 := by
      unfold nthN
      rw [List.getD_eq_getElem?_getD, List.getElem?_eq_none (by rw [cnt_len2]; exact hi)]; rfl
    rw [this]; simp) (topTo_le A 64)]
  refine sm_congr 7 fun k hk => ?_
  by_cases h : k < topTo A 64
  · rw [cnt_at h]
  · rw [lvl_top (by omega)]
    have : nthN (cntOf A) k = 0 := by
      unfold nthN
      rw [List.getD_eq_getElem?_getD, List.getElem?_eq_none (by rw [cnt_len2]; omega)]; rfl
    rw [this]; rfl
theorem cnt_face (l : List Nat) : cntOf (faceSet l).testBit = cntOf (isFace l) := by
  unfold cntOf
  rw [top_face]
  exact List.map_congr_left fun k _ => by rw [lvl_congr fun s hs => faceSet_bit hs]
set_option maxHeartbeats 1000000 in
theorem iEuler_yes {m : Nat} {l : List Nat} (hC : Cpx m l) (a : Option Addr) (n c : Nat) (w : World) (h : IntsAt w a n (up l)) (hcap : n ≤ c) :
    Calls Tryz.prog 114 #[.agg #[.int .i64 m, .slice a n c]] w fun e w' => e = .returned (.int .i64 (eul (isFace l))) ∧ Below w.heap.size w w' := by
  obtain ⟨w0, hw0⟩ : ∃ w0, w0 = w.alloc (.cells #[.int .i64 m, .slice a n c] 32) := ⟨_, rfl⟩
  have HB0 : Hid (Below w.heap.size w w0) := Lib.hid (by rw [hw0]; exact (by repeat (first | exact Below.refl _ _ | assumption | refine Below.setCell ?_ (by first | omega | (simp; done) | (simp; omega)) _ | refine Below.alloc ?_ (by first | omega | (simp; done) | (simp; omega)) _ | apply Below.drew)))
  have X0 : Hid (BoxF w0 w.heap.size (.int .i64 m) (.slice a n c)) := Lib.hid (by rw [hw0]; exact BoxF.new _ _ _ _)
  have Hx0 : Hid (IntsAt w0 a n (up l)) := Lib.hid (h.keep HB0.out)
  have HI : Hid (∀ W, IntsAt W a n (up l) → Calls Tryz.prog 86 #[.agg #[.int .i64 m, .slice a n c]] W fun e w' => e = .returned (.bool true) ∧ Below W.heap.size W w') := Lib.hid fun W hW => iIsComplex_any m a n c _ W hW hcap true (by simp [hC.anti])
  have hFF := faceSet_Fam l
  have HFc0 := fun W hW => facesIn_any (m : Int) a n c l W hW hC.lt64
  have HCt0 := fun W => countBySize_any (faceSet l) W hFF
  rw [cnt_face] at HCt0
  obtain ⟨F, hF⟩ : ∃ F, F = faceSet l := ⟨_, rfl⟩
  rw [← hF] at HFc0 HCt0
  obtain ⟨Z, hZ⟩ : ∃ Z, Z = cntOf (isFace l) := ⟨_, rfl⟩
  have Heul : Hid (eul (isFace l) = sm (fun k => cg k * (nthN Z k : Int)) Z.length) := Lib.hid (by rw [hZ]; exact eul_cnt)
  have HZb : Hid (∀ k, nthN Z k ≤ 64) := Lib.hid fun k => by
    rw [hZ]
    by_cases hk : k < topTo (isFace l) 64
    · rw [cnt_at hk]; exact lvl_len _ _ _
    · have : nthN (cntOf (isFace l)) k = 0 := by
        unfold nthN
        rw [List.getD_eq_getElem?_getD, List.getElem?_eq_none (by rw [cnt_len2]; omega)]; rfl
      rw [this]; omega
  have HZ7 : Hid (Z.length ≤ 7) := Lib.hid (by rw [hZ, cnt_len2]; exact topTo_le _ _)
  rw [← hZ] at HCt0
  have HFc := Lib.hid HFc0; have HCt := Lib.hid HCt0
  have HW0 := Lib.hid hw0
  clear h hw0 hFF HFc0 HCt0 hF hZ
  go_enter Tryz.func114, Tryz.ntmps114
  go_wp2_with fail
  rw [← HW0.out]
  refine (HI.out _ Hx0.out).mono ?_
  rintro e w1 ⟨rfl, hb1⟩
  have HB1 := Lib.hid (HB0.out.trans (hb1.mono HB0.out.size))
  have X1 := Lib.hid (X0.out.keep hb1 X0.out.lt)
  have Hx1 := Lib.hid (Hx0.out.keep hb1)
  clear hb1
  obtain ⟨p0, p1, _, _, _⟩ := X1.out
  go_wp2_with fail
  refine (HFc.out _ Hx1.out).mono ?_
  rintro e w2 ⟨rfl, hb2⟩
  have HB2 := Lib.hid (HB1.out.trans (hb2.mono HB1.out.size))
  clear hb2
  go_wp2_with fail
  refine (HCt.out _).mono ?_
  rintro e w3 ⟨ad, k, d, rfl, own, hb3⟩
  have HB3 := Lib.hid (HB2.out.trans (hb3.mono HB2.out.size))
  have HO := Lib.hid own.reads
  have HZl : Hid (Z.length = k) := Lib.hid (by have := own.len; rwa [up_len] at this)
  have hk7 : k ≤ 7 := by have := HZl.out; have := HZ7.out; omega
  clear hb3 own
  go_wp2_with fail
  go_loop [3, 4, 5, 13] (fun s _ _ i => ∃ (I : Nat) (S : Int), I ≤ k ∧ i = .int .i64 I ∧ s = .int .i64 S ∧ Hid (S = sm (fun k => cg k * (nthN Z k : Int)) I) ∧ -(64 * (I : Int)) ≤ S ∧ S ≤ 64 * I) (fun _ _ _ i => k - (intOf i).toNat)
  case atStart => exact ⟨0, 0, Nat.zero_le _, rfl, rfl, Lib.hid rfl, by omega, by omega⟩
  case round =>
    obtain ⟨I, S, hI, rfl, rfl, hS, hS1, hS2⟩ := hrel
    by_cases hlt : I < k
    · obtain ⟨b1, o1, rfl, hc⟩ := HO.out.cells (by omega)
      have hx := hc I hlt
      rw [nth_up] at hx
      have hxb := HZb.out I
      have Hnx : Hid (sm (fun k => cg k * (nthN Z k : Int)) (I + 1) = S + cg I * (nthN Z I : Int)) := Lib.hid (by rw [sm, ← hS.out])
      obtain ⟨x, hxe⟩ : ∃ x, x = nthN Z I := ⟨_, rfl⟩
      rw [← hxe] at hx hxb Hnx
      have htm : (I : Int).tmod 2 = ((I % 2 : Nat) : Int) := by rw [show (2 : Int) = ((2 : Nat) : Int) from rfl, Int.ofNat_tmod]
      have Hlt := Lib.hid hlt
      have hI0 : (0 : Int) ≤ I := by omega
      have hIk : (I : Int) < k := by omega
      clear hc hxe
      rcases Nat.mod_two_eq_zero_or_one I with h | h
      · have hb : ((I : Int).tmod 2 == 1) = false := by rw [htm, h]; rfl
        have hb2 : ((I : Int) % 2 == 1) = false := by simp; omega
        have Hv : Hid (S - x = sm (fun k => cg k * (nthN Z k : Int)) (I + 1)) := Lib.hid (by rw [Hnx.out, show cg I = -1 by unfold cg; omega]; omega)
        have hw1 : IntKind.i64.wrap (S - x) = S - x := IntWalk.i64_in _ (by omega)
        have hw2 : wrap64 (S - x) = S - x := by unfold wrap64; omega
        clear h htm
        go_wp2_with fail
        go_round
        case rel => exact ⟨I + 1, S - x, Hlt.out, by go_num, by first | rfl | rw [hw2] | rw [hw1], Hv, by omega, by omega⟩
        case measure => have := Hlt.out; simp [intOf]; omega
      · have hb : ((I : Int).tmod 2 == 1) = true := by rw [htm, h]; rfl
        have hb2 : ((I : Int) % 2 == 1) = true := by simp; omega
        have Hv : Hid (S + x = sm (fun k => cg k * (nthN Z k : Int)) (I + 1)) := Lib.hid (by rw [Hnx.out, show cg I = 1 by unfold cg; omega]; omega)
        have hw1 : IntKind.i64.wrap (S + x) = S + x := IntWalk.i64_in _ (by omega)
        have hw2 : wrap64 (S + x) = S + x := by unfold wrap64; omega
        clear h htm
        go_wp2_with fail
        go_round
        case rel => exact ⟨I + 1, S + x, Hlt.out, by go_num, by first | rfl | rw [hw2] | rw [hw1], Hv, by omega, by omega⟩
        case measure => have := Hlt.out; simp [intOf]; omega
    · obtain rfl : I = k := by omega
      have hII : ¬ ((I : Int) < I) := by omega
      have HSe : Hid (S = eul (isFace l)) := Lib.hid (by rw [Heul.out, HZl.out]; exact hS.out)
      go_wp2_with fail
      go_ret
      refine ⟨?_, HB3.out⟩
      rw [← HSe.out]
      rfl
/-- a surface that can be oriented -/
def oriB (m : Nat) (l : List Nat) : Bool := srfB m l && decide (holeN 3 (isFace l) 3 = 1)
theorem last_hole {m : Nat} {l : List Nat} (hC : Cpx m l) (h : srfB m l = true) {p : Nat} : (holesL p (isFace l)).length = 4 ∧ nth (holesL p (isFace l)) 3 = holeN p (isFace l) 3 := by
  have hT : topTo (isFace l) 64 = 4 := by unfold srfB at h; simp only [Bool.and_eq_true, decide_eq_true_eq] at h; exact h.1
  have e : (holesL p (isFace l)).length = 4 := by unfold holesL; rw [List.length_map, List.length_range, hT]
  refine ⟨e, ?_⟩
  rw [nth_eq (by rw [e]; omega)]
  unfold holesL
  rw [List.getElem_map, List.getElem_range]
theorem iOriV {m : Nat} {l : List Nat} (hC : Cpx m l) (a : Option Addr) (n c : Nat) (w : World) (h : IntsAt w a n (up l)) (hcap : n ≤ c) :
    Calls Tryz.prog 76 #[.agg #[.int .i64 m, .slice a n c]] w fun e w' => e = .returned (.bool (oriB m l)) ∧ Below w.heap.size w w' := by
  obtain ⟨w0, hw0⟩ : ∃ w0, w0 = w.alloc (.cells #[.int .i64 m, .slice a n c] 32) := ⟨_, rfl⟩
  have HB0 : Hid (Below w.heap.size w w0) := Lib.hid (by rw [hw0]; exact (by repeat (first | exact Below.refl _ _ | assumption | refine Below.setCell ?_ (by first | omega | (simp; done) | (simp; omega)) _ | refine Below.alloc ?_ (by first | omega | (simp; done) | (simp; omega)) _ | apply Below.drew)))
  have X0 : Hid (BoxF w0 w.heap.size (.int .i64 m) (.slice a n c)) := Lib.hid (by rw [hw0]; exact BoxF.new _ _ _ _)
  have Hx0 : Hid (IntsAt w0 a n (up l)) := Lib.hid (h.keep HB0.out)
  have HS : Hid (∀ W, IntsAt W a n (up l) → Calls Tryz.prog 74 #[.agg #[.int .i64 m, .slice a n c]] W fun e w' => e = .returned (.bool (srfB m l)) ∧ Below W.heap.size W w') := Lib.hid fun W hW => iSurfV hC a n c W hW hcap
  have hor : oriB m l = (srfB m l && decide (holeN 3 (isFace l) 3 = 1)) := rfl
  have hln := (hC.at h).1
  have HW0 := Lib.hid hw0
  cases hs : srfB m l
  · rw [hor, hs]
    rw [hs] at HS
    clear h hw0 hor hs
    go_enter Tryz.func76, Tryz.ntmps76
    go_wp2_with fail
    rw [← HW0.out]
    refine (HS.out _ Hx0.out).mono ?_
    rintro e w1 ⟨rfl, hb1⟩
    have HB1 := Lib.hid (HB0.out.trans (hb1.mono HB0.out.size))
    clear hb1
    go_wp2_with fail
    go_ret
    exact ⟨rfl, HB1.out⟩
  · rw [hor, hs, Bool.true_and]
    rw [hs] at HS
    have hne := (srf_of hC hs).ne
    have h0 : 0 < n := by have := List.length_pos_iff.2 hne; omega
    have HH0 := fun W hW => iHoles_yes hC a n c 3 W hW hcap h0 (.inr (.inl rfl))
    obtain ⟨hl4, h3⟩ := last_hole hC hs (p := 3)
    obtain ⟨H, hH⟩ : ∃ H, H = holesL 3 (isFace l) := ⟨_, rfl⟩
    rw [← hH] at HH0 hl4 h3
    obtain ⟨v, hv⟩ : ∃ v, v = holeN 3 (isFace l) 3 := ⟨_, rfl⟩
    rw [← hv] at h3 ⊢
    have HH := Lib.hid HH0
    clear h hw0 hor hs hne HH0 hH hv hln h0
    go_enter Tryz.func76, Tryz.ntmps76
    go_wp2_with fail
    rw [← HW0.out]
    refine (HS.out _ Hx0.out).mono ?_
    rintro e w1 ⟨rfl, hb1⟩
    have HB1 := Lib.hid (HB0.out.trans (hb1.mono HB0.out.size))
    have X1 := Lib.hid (X0.out.keep hb1 X0.out.lt)
    have Hx1 := Lib.hid (Hx0.out.keep hb1)
    clear hb1
    obtain ⟨p0, p1, _, _, _⟩ := X1.out
    go_wp2_with fail
    refine (HH.out _ Hx1.out).mono ?_
    rintro e w2 ⟨ad, k, d, rfl, own, hb2⟩
    have HB2 := Lib.hid (HB1.out.trans (hb2.mono HB1.out.size))
    have hk : k = 4 := by have := own.len; omega
    subst hk
    obtain ⟨b, o, rfl, hc⟩ := own.reads.cells (by omega)
    have hc3 := hc 3 (by omega)
    rw [h3] at hc3
    clear hb2 own hc h3 hl4
    go_wp2_with fail
    go_ret
    exact ⟨by first | rfl | (congr 2; rw [Bool.eq_iff_iff]; simp), HB2.out⟩
theorem sOriV {m : Nat} {l : List Nat} (hC : Cpx m l) (a : Option Addr) (n c : Nat) (w : World) (h : IntsAt w a n (up l)) :
    Calls Tryz.prog 77 #[.agg #[.int .i64 m, .slice a n c]] w fun e w' => e = .returned (.bool (oriB m l)) ∧ Below w.heap.size w w' := by
  obtain ⟨w0, hw0⟩ : ∃ w0, w0 = w.alloc (.cells #[.int .i64 m, .slice a n c] 32) := ⟨_, rfl⟩
  have HB0 : Hid (Below w.heap.size w w0) := Lib.hid (by rw [hw0]; exact (by repeat (first | exact Below.refl _ _ | assumption | refine Below.setCell ?_ (by first | omega | (simp; done) | (simp; omega)) _ | refine Below.alloc ?_ (by first | omega | (simp; done) | (simp; omega)) _ | apply Below.drew)))
  have X0 : Hid (BoxF w0 w.heap.size (.int .i64 m) (.slice a n c)) := Lib.hid (by rw [hw0]; exact BoxF.new _ _ _ _)
  have Hx0 : Hid (IntsAt w0 a n (up l)) := Lib.hid (h.keep HB0.out)
  have HS : Hid (∀ W, IntsAt W a n (up l) → Calls Tryz.prog 75 #[.agg #[.int .i64 m, .slice a n c]] W fun e w' => e = .returned (.bool (srfB m l)) ∧ Below W.heap.size W w') := Lib.hid fun W hW => sSurfV hC a n c W hW
  have hor : oriB m l = (srfB m l && decide (holeN 3 (isFace l) 3 = 1)) := rfl
  have HH0 := fun W hW => sHoles_yes m a n c l 3 W hW hC.anti hC.lt64 (.inr (.inl rfl))
  have hlast := fun hs => last_hole hC hs (p := 3)
  obtain ⟨H, hH⟩ : ∃ H, H = holesL 3 (isFace l) := ⟨_, rfl⟩
  rw [← hH] at HH0 hlast
  obtain ⟨v, hv⟩ : ∃ v, v = holeN 3 (isFace l) 3 := ⟨_, rfl⟩
  rw [← hv] at hor hlast
  have HH := Lib.hid HH0; have Hlast := Lib.hid hlast
  have HW0 := Lib.hid hw0
  obtain ⟨sb, hsb⟩ : ∃ sb, sb = srfB m l := ⟨_, rfl⟩
  rw [← hsb] at HS hor Hlast
  rw [hor]
  clear h hw0 hor HH0 hH hv hlast hsb
  go_enter Tryz.func77, Tryz.ntmps77
  go_wp2_with fail
  rw [← HW0.out]
  refine (HH.out _ Hx0.out).mono ?_
  rintro e w1 ⟨ad, k, d, rfl, own, hb1⟩
  have HB1 := Lib.hid (HB0.out.trans (hb1.mono HB0.out.size))
  have X1 := Lib.hid (X0.out.keep hb1 X0.out.lt)
  have Hx1 := Lib.hid (Hx0.out.keep hb1)
  have HO1 := Lib.hid own.reads
  clear hb1 own
  obtain ⟨p0, p1, _, _, _⟩ := X1.out
  go_wp2_with fail
  refine (HS.out _ Hx1.out).mono ?_
  rintro e w2 ⟨rfl, hb2⟩
  have HB2 := Lib.hid (HB1.out.trans (hb2.mono HB1.out.size))
  have HO2 := Lib.hid (HO1.out.keep hb2)
  clear hb2
  cases sb
  · go_wp2_with fail
    go_ret
    exact ⟨rfl, HB2.out⟩
  · obtain ⟨hl4, h3⟩ := Hlast.out rfl
    have hk : k = 4 := by have := HO2.out.len; omega
    subst hk
    obtain ⟨b, o, rfl, hc⟩ := HO2.out.cells (by omega)
    have hc3 := hc 3 (by omega)
    rw [h3] at hc3
    clear hc h3 hl4
    go_wp2_with fail
    go_ret
    exact ⟨by first | rfl | (congr 2; rw [Bool.eq_iff_iff]; simp), HB2.out⟩
end Go.Proofs.YtihfhfihladlcaaGreatDoor

/- Texts of this claim, one behind the other: what each says stands at its head. -/
import Derived.Deep.RegionWith
import Derived.Deep.DeepCutAuto
import Derived.Test.YtpoolkmcbeghjaaFaces3
/- Contracts of FacesOfSize and GraphOf, the program's and the reference's. -/
namespace Go.Proofs.Ytpoolkmcbeghjaa
set_option maxRecDepth 20000
open Go.RowKit
set_option linter.unusedSimpArgs false
set_option linter.unusedVariables false

/-- the faces of so many points; none for a number below 0 -/
def ofSize (l : List Nat) (k : Int) : List Nat := if k < 0 then [] else lvlTo (isFace l) 64 k.toNat
theorem ofSize_len (l : List Nat) (k : Int) : (ofSize l k).length ≤ 64 := by
  unfold ofSize; split
  · simp
  · exact lvl_len _ _ _
theorem ofSize_filter (l : List Nat) (k : Int) : (ord (isFace l)).filter (fun s => ((sz s : Int) == k)) = ofSize l k := by
  unfold ofSize
  split
  · rw [List.filter_eq_nil_iff]
    intro s _
    simp; omega
  · rw [← ord_lvl]
    exact List.filter_congr fun s _ => by
      rw [Bool.eq_iff_iff]; simp; omega

theorem iOfSize_no (p : Int) (a : Option Addr) (n c : Nat) (xs : List Int) (k : Int) (w : World) (h : IntsAt w a n xs) (hcap : n ≤ c) (hno : ¬ Anti p xs) :
    Calls Try.prog 94 #[.agg #[.int .i64 p, .slice a n c], .int .i64 k] w (RetInts w []) := by
  have hx : IntsAt (w.alloc (.cells #[.int .i64 p, .slice a n c] 33)) a n xs := h.keep (by repeat (first | exact Below.refl _ _ | assumption | refine Below.setCell ?_ (by first | omega | (simp; done) | (simp; omega)) _ | refine Below.alloc ?_ (by first | omega | (simp; done) | (simp; omega)) _ | apply Below.drew))
  have Hx := Lib.hid hx; clear hx h
  have Hno := Lib.hid hno; clear hno
  have Hcap := Lib.hid hcap; clear hcap
  go_enter Try.func94, Try.ntmps94
  go_wp2_with fail
  refine (iIsComplex_any p a n c xs _ Hx.out Hcap.out false (by simp [Hno.out])).mono ?_
  rintro e w1 ⟨rfl, hb⟩
  have HB : Hid (Below w.heap.size w w1) := Lib.hid (Below.trans (by repeat (first | exact Below.refl _ _ | assumption | refine Below.setCell ?_ (by first | omega | (simp; done) | (simp; omega)) _ | refine Below.alloc ?_ (by first | omega | (simp; done) | (simp; omega)) _ | apply Below.drew)) (hb.mono (by simp <;> omega)))
  clear hb
  go_wp2_with fail
  go_ret
  exact ⟨none, 0, 0, rfl, Own.nil _ _ _, HB.out⟩
set_option maxHeartbeats 1000000 in
theorem iOfSize_yes (p : Int) (a : Option Addr) (n c : Nat) (l : List Nat) (k : Int) (w : World) (h : IntsAt w a n (up l)) (hcap : n ≤ c) (hA : Anti p (up l)) (hl : ∀ t ∈ l, t < 64) :
    Calls Try.prog 94 #[.agg #[.int .i64 p, .slice a n c], .int .i64 k] w (RetInts w (up (ofSize l k))) := by
  have hx : IntsAt (w.alloc (.cells #[.int .i64 p, .slice a n c] 33)) a n (up l) := h.keep (by repeat (first | exact Below.refl _ _ | assumption | refine Below.setCell ?_ (by first | omega | (simp; done) | (simp; omega)) _ | refine Below.alloc ?_ (by first | omega | (simp; done) | (simp; omega)) _ | apply Below.drew))
  have Hx := Lib.hid hx; clear hx h
  have HA := Lib.hid hA; clear hA
  have Hl := Lib.hid hl; clear hl
  have Hcap := Lib.hid hcap; clear hcap
  go_enter Try.func94, Try.ntmps94
  go_wp2_with fail
  refine (iIsComplex_any p a n c _ _ Hx.out Hcap.out true (by simp [HA.out])).mono ?_
  rintro e w1 ⟨rfl, hb⟩
  obtain ⟨hc, hf⟩ := bcell hb
  have hz : w.heap.size + 1 ≤ w1.heap.size := by have := hb.size; simp at this; omega
  have Hx1 := Lib.hid (Hx.out.keep hb)
  have HB : Hid (Below w.heap.size w w1) := Lib.hid (Below.trans (by repeat (first | exact Below.refl _ _ | assumption | refine Below.setCell ?_ (by first | omega | (simp; done) | (simp; omega)) _ | refine Below.alloc ?_ (by first | omega | (simp; done) | (simp; omega)) _ | apply Below.drew)) (hb.mono (by simp <;> omega)))
  clear hb
  have hF := faceSet_Fam l
  have hlv : ∀ j, lvlTo (faceSet l).testBit 64 j = lvlTo (isFace l) 64 j := fun j => lvl_congr (fun s hs => faceSet_bit hs) j
  obtain ⟨F, hFe⟩ : ∃ F, F = faceSet l := ⟨_, rfl⟩
  rw [← hFe] at hF hlv
  have HFe := Lib.hid hFe; have Hlv := Lib.hid hlv
  clear hFe hlv
  go_wp2_with fail
  refine (facesIn_any p a n c l _ Hx1.out Hl.out).mono ?_
  rw [← HFe.out]
  rintro e w2 ⟨rfl, hb⟩
  have HB2 := Lib.hid (HB.out.trans (hb.mono HB.out.size))
  clear hb
  go_wp2_with fail
  refine (bySize_any F _ hF).mono ?_
  rintro e w3 ⟨g, f, rfl, hgrid, hb⟩
  have HB3 := Lib.hid (HB2.out.trans (hb.mono HB2.out.size)); have HG := Lib.hid hgrid
  clear hb hgrid
  obtain ⟨N, hN⟩ : ∃ N, N = topTo F.testBit 64 := ⟨_, rfl⟩
  rw [← hN] at HG ⊢
  have HN := Lib.hid hN; clear hN
  by_cases h0 : k < 0
  · go_wp2_with fail
    go_ret
    exact ⟨none, 0, 0, rfl, by unfold ofSize; rw [if_pos h0]; exact Own.nil _ _ _, HB3.out⟩
  · obtain ⟨j, rfl⟩ := Int.eq_ofNat_of_zero_le (show 0 ≤ k by omega)
    have hof : ofSize l (j : Int) = lvlTo F.testBit 64 j := by
      unfold ofSize; rw [if_neg h0, Hlv.out]; rfl
    have Hof := Lib.hid hof; clear hof
    by_cases hj : j < N
    · have hjN : ¬ (N : Int) ≤ j := by omega
      have hj0 : (0 : Int) ≤ j := by omega
      have hjl : (j : Int) < N := by omega
      have hcell := HG.out.cell hj
      have hown := HG.out.own j hj
      obtain ⟨⟨ad, m, d⟩, hfk⟩ : ∃ x : Sl, x = f j := ⟨_, rfl⟩
      rw [← hfk] at hcell hown
      simp only [Sl.val] at hcell hown
      have HO := Lib.hid (hown.mono HB2.out.size)
      clear hfk hown
      go_wp2_with fail
      go_ret
      exact ⟨ad, m, d, rfl, by rw [Hof.out]; exact HO.out, HB3.out⟩
    · have hjN : (N : Int) ≤ j := by omega
      go_wp2_with fail
      go_ret
      refine ⟨none, 0, 0, rfl, ?_, HB3.out⟩
      rw [Hof.out, lvl_high (by have := HN.out; omega)]; exact Own.nil _ _ _

end Go.Proofs.Ytpoolkmcbeghjaa

/- Contracts of FaceCounts, the program's and the reference's. -/
namespace Go.Proofs.Ytpoolkmcbeghjaa
set_option maxRecDepth 20000
open Go.RowKit
set_option linter.unusedSimpArgs false
set_option linter.unusedVariables false

/-- how many sets with p have so many points -/
def cntOf (p : Nat → Bool) : List Nat := (List.range (topTo p 64)).map fun k => (lvlTo p 64 k).length
/-- the numbers of a list's sets by size, below T -/
def ct (L : List Nat) (T : Nat) : List Nat := (List.range T).map fun k => (L.filter fun s => sz s == k).length
theorem ct_len (L : List Nat) (T : Nat) : (ct L T).length = T := by simp [ct]
theorem ct_succ {L : List Nat} {T : Nat} (h : ∀ s ∈ L, sz s < T) : ct L (T + 1) = ct L T ++ [0] := by
  unfold ct
  rw [List.range_succ, List.map_append]
  have : L.filter (fun s => sz s == T) = [] := by
    rw [List.filter_eq_nil_iff]
    intro s hs
    have := h s hs
    simp; omega
  simp [this]
theorem ct_at {L : List Nat} {T k : Nat} (hk : k < T) : nthN (ct L T) k = (L.filter fun s => sz s == k).length := by
  rw [nthN_eq (by rw [ct_len]; exact hk)]
  simp [ct]
theorem ct_add {L : List Nat} {T u : Nat} (hu : sz u < T) : (ct L T).set (sz u) (nthN (ct L T) (sz u) + 1) = ct (L ++ [u]) T := by
  apply List.ext_getElem (by simp [ct])
  intro i h1 h2
  rw [List.getElem_set]
  by_cases hi : sz u = i
  · subst hi
    rw [if_pos rfl, ct_at hu]
    simp [ct, List.filter_append]
  · rw [if_neg hi]
    have : (sz u == i) = false := by simp; exact hi
    simp [ct, List.filter_append, this]
theorem ct_end {p : Nat → Bool} {T : Nat} (h1 : ∀ s ∈ ord p, sz s < T) (h2 : T = 0 ∨ ∃ s ∈ ord p, sz s + 1 = T) : ct (ord p) T = cntOf p := by
  have hT : T = topTo p 64 := by
    have hge : ∀ s, s < 64 → p s = true → sz s < T := fun s hs hp => h1 s (mem_ord.2 ⟨hs, hp⟩)
    have a : topTo p 64 ≤ T := by
      have key : ∀ k, k ≤ 64 → topTo p k ≤ T := by
        intro k
        induction k with
        | zero => intro _; unfold topTo; simp
        | succ k ih =>
          intro hk
          rw [topTo_succ]
          split
          · rename_i h
            rw [Bool.and_eq_true] at h
            have := hge k (by omega) h.1
            omega
          · exact ih (by omega)
      exact key 64 (Nat.le_refl _)
    have b : T ≤ topTo p 64 := by
      rcases h2 with h | ⟨s, hs, h⟩
      · omega
      · obtain ⟨h64, hp⟩ := mem_ord.1 hs
        have := topTo_ge hp 64 h64
        omega
    omega
  subst hT
  unfold ct cntOf
  exact List.map_congr_left fun k _ => by rw [ord_lvl]
theorem cnt_len (p : Nat → Bool) : (cntOf p).length ≤ 7 := by unfold cntOf; have := topTo_le p 64; simpa using this
theorem cnt_le (p : Nat → Bool) : ∀ x ∈ cntOf p, x ≤ 64 := fun x hx => by
  unfold cntOf at hx
  obtain ⟨k, _, rfl⟩ := List.mem_map.1 hx
  exact lvl_len _ _ _

theorem countBySize_any (F : Nat) (w : World) (hF : Fam F) : Calls Try.prog 102 #[.int .u64 F] w (RetInts w (up (cntOf F.testBit))) := by
  go_enter Try.func102, Try.ntmps102
  go_wp2_with fail
  refine (bySize_any F _ hF).mono ?_
  rintro e w1 ⟨g, f, rfl, hgrid, hb⟩
  have HG := Lib.hid hgrid; have HB := Lib.hid hb
  have hT7 := topTo_le F.testBit 64
  obtain ⟨T, hT⟩ : ∃ T, T = topTo F.testBit 64 := ⟨_, rfl⟩
  have hcnt : cntOf F.testBit = (List.range T).map fun k => (lvlTo F.testBit 64 k).length := by rw [hT]; rfl
  rw [← hT] at HG hT7 ⊢
  have Hcnt := Lib.hid hcnt
  have hz1 : w.heap.size ≤ w1.heap.size := hb.size
  clear hgrid hb hT hcnt
  go_wp2_with fail
  go_loopw [3, 5, 9] (fun o _ i wr => ∃ I : Nat, I ≤ T ∧ i = .int .i64 I ∧ Below w1.heap.size w1 wr ∧ ∃ ad k d, o = .slice ad k d ∧ k ≤ I ∧ Own 3 wr w1.heap.size ad k d (up ((List.range I).map fun k => (lvlTo F.testBit 64 k).length))) (fun _ _ i _ => T - (intOf i).toNat)
  case atStart => exact ⟨0, Nat.zero_le _, rfl, Below.refl _ _, none, 0, 0, rfl, Nat.le_refl _, Own.nil _ _ _⟩
  case round =>
    obtain ⟨I, hI, rfl, hbr, ad, k, d, rfl, hk, hown⟩ := hrel
    have HBr := Lib.hid hbr; have HO := Lib.hid hown
    have HGr := Lib.hid (HG.out.keep hbr)
    have hzr : w1.heap.size ≤ wr.heap.size := hbr.size
    clear hbr hown
    by_cases hlt : I < T
    · have hcell := HGr.out.cell hlt
      have hl := (HGr.out.own I hlt).len
      obtain ⟨⟨a2, m2, d2⟩, hfk⟩ : ∃ x : Sl, x = f I := ⟨_, rfl⟩
      rw [← hfk] at hcell hl
      simp only [Sl.val] at hcell hl
      rw [up_len] at hl
      have Hl := Lib.hid hl
      clear hfk hl
      have hI0 : (0 : Int) ≤ I := by omega
      have hIT : (I : Int) < T := by omega
      go_wp2_with (at_builtin; refine ap rfl _ _ rfl w1.heap.size _ _ _ _ _ rfl HO.out rfl (by omega) hzr ?_; intro ad' d' w' hown' hb'; have HO3 := Lib.hid hown'; have HB3 := Lib.hid hb'; clear hown' hb')
      go_roundw
      case rel => exact ⟨I + 1, by omega, by go_num, HBr.out.trans HB3.out, ad', k + 1, d', rfl, by omega, by rw [List.range_succ, List.map_append, up_append]; simp only [List.map_cons, List.map_nil]; rw [Hl.out]; exact HO3.out⟩
      case measure => simp [intOf]; omega
    · obtain rfl : I = T := by omega
      go_wp2_with fail
      go_ret
      exact ⟨ad, k, d, rfl, by rw [Hcnt.out]; exact HO.out.mono hz1, HB.out.trans (HBr.out.mono hz1)⟩

theorem iCounts_yes (p : Int) (a : Option Addr) (n c : Nat) (l : List Nat) (w : World) (h : IntsAt w a n (up l)) (hcap : n ≤ c) (hA : Anti p (up l)) (hl : ∀ t ∈ l, t < 64) :
    Calls Try.prog 67 #[.agg #[.int .i64 p, .slice a n c]] w (RetInts w (up (cntOf (isFace l)))) := by
  have hx : IntsAt (w.alloc (.cells #[.int .i64 p, .slice a n c] 33)) a n (up l) := h.keep (by repeat (first | exact Below.refl _ _ | assumption | refine Below.setCell ?_ (by first | omega | (simp; done) | (simp; omega)) _ | refine Below.alloc ?_ (by first | omega | (simp; done) | (simp; omega)) _ | apply Below.drew))
  have Hx := Lib.hid hx; have HA := Lib.hid hA; have Hl := Lib.hid hl; have Hcap := Lib.hid hcap
  clear hx h hA hl hcap
  have hcnt : cntOf (faceSet l).testBit = cntOf (isFace l) := by
    rw [← ct_end (p := (faceSet l).testBit) (T := topTo (faceSet l).testBit 64), ← ct_end (p := isFace l) (T := topTo (faceSet l).testBit 64)]
    · rw [show ord (faceSet l).testBit = ord (isFace l) from ord_fam _]
    · intro s hs
      obtain ⟨h64, hp⟩ := mem_ord.1 hs
      exact topTo_ge (p := (faceSet l).testBit) (by rw [faceSet_bit h64]; exact hp) 64 h64
    · have key : ∀ k, k ≤ 64 → topTo (faceSet l).testBit k = 0 ∨ ∃ s, s < k ∧ (faceSet l).testBit s = true ∧ sz s + 1 = topTo (faceSet l).testBit k := by
        intro k
        induction k with
        | zero => intro _; left; unfold topTo; simp
        | succ k ih =>
          intro hk
          rw [topTo_succ]
          split
          · rename_i h
            rw [Bool.and_eq_true] at h
            exact .inr ⟨k, by omega, h.1, rfl⟩
          · rcases ih (by omega) with h | ⟨s, h1, h2, h3⟩
            · exact .inl h
            · exact .inr ⟨s, by omega, h2, h3⟩
      rcases key 64 (Nat.le_refl _) with h | ⟨s, h1, h2, h3⟩
      · exact .inl h
      · exact .inr ⟨s, mem_ord.2 ⟨h1, by rw [← faceSet_bit h1]; exact h2⟩, h3⟩
    · intro s hs
      obtain ⟨h64, hp⟩ := mem_ord.1 hs
      exact topTo_ge hp 64 h64
    · have key : ∀ k, k ≤ 64 → topTo (faceSet l).testBit k = 0 ∨ ∃ s, s < k ∧ (faceSet l).testBit s = true ∧ sz s + 1 = topTo (faceSet l).testBit k := by
        intro k
        induction k with
        | zero => intro _; left; unfold topTo; simp
        | succ k ih =>
          intro hk
          rw [topTo_succ]
          split
          · rename_i h
            rw [Bool.and_eq_true] at h
            exact .inr ⟨k, by omega, h.1, rfl⟩
          · rcases ih (by omega) with h | ⟨s, h1, h2, h3⟩
            · exact .inl h
            · exact .inr ⟨s, by omega, h2, h3⟩
      rcases key 64 (Nat.le_refl _) with h | ⟨s, h1, h2, h3⟩
      · exact .inl h
      · exact .inr ⟨s, mem_ord.2 ⟨h1, h2⟩, h3⟩
  have hF := faceSet_Fam l
  obtain ⟨F, hFe⟩ : ∃ F, F = faceSet l := ⟨_, rfl⟩
  rw [← hFe] at hF hcnt
  have HFe := Lib.hid hFe; have Hcnt := Lib.hid hcnt
  clear hFe hcnt
  go_enter Try.func67, Try.ntmps67
  go_wp2_with fail
  refine (iIsComplex_any p a n c _ _ Hx.out Hcap.out true (by simp [HA.out])).mono ?_
  rintro e w1 ⟨rfl, hb⟩
  have HB : Hid (Below w.heap.size w w1) := Lib.hid (Below.trans (by repeat (first | exact Below.refl _ _ | assumption | refine Below.setCell ?_ (by first | omega | (simp; done) | (simp; omega)) _ | refine Below.alloc ?_ (by first | omega | (simp; done) | (simp; omega)) _ | apply Below.drew)) (hb.mono (by simp <;> omega)))
  obtain ⟨hc, hf⟩ := bcell hb
  have hz : w.heap.size + 1 ≤ w1.heap.size := by have := hb.size; simp at this; omega
  have Hx1 := Lib.hid (Hx.out.keep hb)
  clear hb
  go_wp2_with fail
  refine (facesIn_any p a n c l _ Hx1.out Hl.out).mono ?_
  rw [← HFe.out]
  rintro e w2 ⟨rfl, hb⟩
  have HB2 := Lib.hid (HB.out.trans (hb.mono HB.out.size))
  clear hb
  go_wp2_with fail
  refine (countBySize_any F _ hF).mono ?_
  rw [Hcnt.out]
  rintro e w3 ⟨ad, k, d, rfl, hown, hb⟩
  have HB3 := Lib.hid (HB2.out.trans (hb.mono HB2.out.size)); have HO := Lib.hid (hown.mono HB2.out.size)
  clear hb hown
  go_wp2_with fail
  go_ret
  exact ⟨ad, k, d, rfl, HO.out, HB3.out⟩
end Go.Proofs.Ytpoolkmcbeghjaa

/- Texts of this claim, one behind the other: what each says stands at its head. -/
import Derived.Deep.RegionWith
import Derived.Deep.DeepCutAuto
import Derived.Test.YtbdnlncpamandaaFaces3
/- Contracts of FacesOfSize and GraphOf, the program's and the reference's. -/
namespace Go.Proofs.Ytbdnlncpamandaa
set_option maxRecDepth 20000
open Go.RowKit
set_option linter.unusedSimpArgs false
set_option linter.unusedVariables false

/-- the faces of so many points; none for a number below 0 -/
def ofSize (l : List Nat) (k : Int) : List Nat := if k < 0 then [] else lvlTo (isFace l) 64 k.toNat
theorem ofSize_len (l : List Nat) (k : Int) : (ofSize l k).length ≤ 64 := by
  unfold ofSize; split
  · simp
  · exact lvl_len _ _ _
theorem ofSize_filter (l : List Nat) (k : Int) : (ord (isFace l)).filter (fun s => ((sz s : Int) == k)) = ofSize l k := by
  unfold ofSize
  split
  · rw [List.filter_eq_nil_iff]
    intro s _
    simp; omega
  · rw [← ord_lvl]
    exact List.filter_congr fun s _ => by
      rw [Bool.eq_iff_iff]; simp; omega

theorem iOfSize_no (p : Int) (a : Option Addr) (n c : Nat) (xs : List Int) (k : Int) (w : World) (h : IntsAt w a n xs) (hcap : n ≤ c) (hno : ¬ Anti p xs) :
    Calls Try.prog 79 #[.agg #[.int .i64 p, .slice a n c], .int .i64 k] w (RetInts w []) := by
  have hx : IntsAt (w.alloc (.cells #[.int .i64 p, .slice a n c] 26)) a n xs := h.keep (by repeat (first | exact Below.refl _ _ | assumption | refine Below.setCell ?_ (by first | omega | (simp; done) | (simp; omega)) _ | refine Below.alloc ?_ (by first | omega | (simp; done) | (simp; omega)) _ | apply Below.drew))
  have Hx := Lib.hid hx; clear hx h
  have Hno := Lib.hid hno; clear hno
  have Hcap := Lib.hid hcap; clear hcap
  go_enter Try.func79, Try.ntmps79
  go_wp2_with fail
  refine (iIsComplex_any p a n c xs _ Hx.out Hcap.out false (by simp [Hno.out])).mono ?_
  rintro e w1 ⟨rfl, hb⟩
  have HB : Hid (Below w.heap.size w w1) := Lib.hid (Below.trans (by repeat (first | exact Below.refl _ _ | assumption | refine Below.setCell ?_ (by first | omega | (simp; done) | (simp; omega)) _ | refine Below.alloc ?_ (by first | omega | (simp; done) | (simp; omega)) _ | apply Below.drew)) (hb.mono (by simp <;> omega)))
  clear hb
  go_wp2_with fail
  go_ret
  exact ⟨none, 0, 0, rfl, Own.nil _ _ _, HB.out⟩
set_option maxHeartbeats 1000000 in
theorem iOfSize_yes (p : Int) (a : Option Addr) (n c : Nat) (l : List Nat) (k : Int) (w : World) (h : IntsAt w a n (up l)) (hcap : n ≤ c) (hA : Anti p (up l)) (hl : ∀ t ∈ l, t < 64) :
    Calls Try.prog 79 #[.agg #[.int .i64 p, .slice a n c], .int .i64 k] w (RetInts w (up (ofSize l k))) := by
  have hx : IntsAt (w.alloc (.cells #[.int .i64 p, .slice a n c] 26)) a n (up l) := h.keep (by repeat (first | exact Below.refl _ _ | assumption | refine Below.setCell ?_ (by first | omega | (simp; done) | (simp; omega)) _ | refine Below.alloc ?_ (by first | omega | (simp; done) | (simp; omega)) _ | apply Below.drew))
  have Hx := Lib.hid hx; clear hx h
  have HA := Lib.hid hA; clear hA
  have Hl := Lib.hid hl; clear hl
  have Hcap := Lib.hid hcap; clear hcap
  go_enter Try.func79, Try.ntmps79
  go_wp2_with fail
  refine (iIsComplex_any p a n c _ _ Hx.out Hcap.out true (by simp [HA.out])).mono ?_
  rintro e w1 ⟨rfl, hb⟩
  obtain ⟨hc, hf⟩ := bcell hb
  have hz : w.heap.size + 1 ≤ w1.heap.size := by have := hb.size; simp at this; omega
  have Hx1 := Lib.hid (Hx.out.keep hb)
  have HB : Hid (Below w.heap.size w w1) := Lib.hid (Below.trans (by repeat (first | exact Below.refl _ _ | assumption | refine Below.setCell ?_ (by first | omega | (simp; done) | (simp; omega)) _ | refine Below.alloc ?_ (by first | omega | (simp; done) | (simp; omega)) _ | apply Below.drew)) (hb.mono (by simp <;> omega)))
  clear hb
  have hF := faceSet_Fam l
  have hlv : ∀ j, lvlTo (faceSet l).testBit 64 j = lvlTo (isFace l) 64 j := fun j => lvl_congr (fun s hs => faceSet_bit hs) j
  obtain ⟨F, hFe⟩ : ∃ F, F = faceSet l := ⟨_, rfl⟩
  rw [← hFe] at hF hlv
  have HFe := Lib.hid hFe; have Hlv := Lib.hid hlv
  clear hFe hlv
  go_wp2_with fail
  refine (facesIn_any p a n c l _ Hx1.out Hl.out).mono ?_
  rw [← HFe.out]
  rintro e w2 ⟨rfl, hb⟩
  have HB2 := Lib.hid (HB.out.trans (hb.mono HB.out.size))
  clear hb
  go_wp2_with fail
  refine (bySize_any F _ hF).mono ?_
  rintro e w3 ⟨g, f, rfl, hgrid, hb⟩
  have HB3 := Lib.hid (HB2.out.trans (hb.mono HB2.out.size)); have HG := Lib.hid hgrid
  clear hb hgrid
  obtain ⟨N, hN⟩ : ∃ N, N = topTo F.testBit 64 := ⟨_, rfl⟩
  rw [← hN] at HG ⊢
  have HN := Lib.hid hN; clear hN
  by_cases h0 : k < 0
  · go_wp2_with fail
    go_ret
    exact ⟨none, 0, 0, rfl, by unfold ofSize; rw [if_pos h0]; exact Own.nil _ _ _, HB3.out⟩
  · obtain ⟨j, rfl⟩ := Int.eq_ofNat_of_zero_le (show 0 ≤ k by omega)
    have hof : ofSize l (j : Int) = lvlTo F.testBit 64 j := by
      unfold ofSize; rw [if_neg h0, Hlv.out]; rfl
    have Hof := Lib.hid hof; clear hof
    by_cases hj : j < N
    · have hjN : ¬ (N : Int) ≤ j := by omega
      have hj0 : (0 : Int) ≤ j := by omega
      have hjl : (j : Int) < N := by omega
      have hcell := HG.out.cell hj
      have hown := HG.out.own j hj
      obtain ⟨⟨ad, m, d⟩, hfk⟩ : ∃ x : Sl, x = f j := ⟨_, rfl⟩
      rw [← hfk] at hcell hown
      simp only [Sl.val] at hcell hown
      have HO := Lib.hid (hown.mono HB2.out.size)
      clear hfk hown
      go_wp2_with fail
      go_ret
      exact ⟨ad, m, d, rfl, by rw [Hof.out]; exact HO.out, HB3.out⟩
    · have hjN : (N : Int) ≤ j := by omega
      go_wp2_with fail
      go_ret
      refine ⟨none, 0, 0, rfl, ?_, HB3.out⟩
      rw [Hof.out, lvl_high (by have := HN.out; omega)]; exact Own.nil _ _ _

theorem sOfSize_no (p : Int) (a : Option Addr) (n c : Nat) (xs : List Int) (k : Int) (w : World) (h : IntsAt w a n xs) (hno : ¬ Anti p xs) :
    Calls Try.prog 132 #[.agg #[.int .i64 p, .slice a n c], .int .i64 k] w (RetInts w []) := by
  have hx : IntsAt ((w.alloc (.cells #[.int .i64 p, .slice a n c] 26)).alloc (.cells #[] 3)) a n xs := h.keep (by repeat (first | exact Below.refl _ _ | assumption | refine Below.setCell ?_ (by first | omega | (simp; done) | (simp; omega)) _ | refine Below.alloc ?_ (by first | omega | (simp; done) | (simp; omega)) _ | apply Below.drew))
  have Hx := Lib.hid hx; clear hx h
  have Hno := Lib.hid hno; clear hno
  go_enter Try.func132, Try.ntmps132
  go_wp2_with fail
  refine (sFacesOf_no p a n c xs _ Hx.out Hno.out).mono ?_
  rintro e w1 ⟨ad, m, d, rfl, hown, hb⟩
  have hm : m = 0 := by have := hown.len; simpa using this.symm
  subst hm
  have HO0 : Hid (Own 3 w1 w.heap.size (some ⟨w.heap.size + 1, 0, none⟩) 0 0 []) := Lib.hid (by
    have := (Own.empty 3 (w.alloc (.cells #[.int .i64 p, .slice a n c] 26)) w.heap.size (by simp)).keep hb
    simp only [World.size_alloc] at this; exact this)
  have HB : Hid (Below w.heap.size w w1) := Lib.hid (Below.trans (by repeat (first | exact Below.refl _ _ | assumption | refine Below.setCell ?_ (by first | omega | (simp; done) | (simp; omega)) _ | refine Below.alloc ?_ (by first | omega | (simp; done) | (simp; omega)) _ | apply Below.drew)) (hb.mono (by simp <;> omega)))
  clear hb hown
  go_wp2_with fail
  go_loop [5, 7] (fun f i => f = .slice (some ⟨w.heap.size + 1, 0, none⟩) 0 0 ∧ i = .int .i64 0) (fun _ _ => 0)
  case atStart => exact ⟨rfl, rfl⟩
  case round =>
    obtain ⟨rfl, rfl⟩ := hrel
    go_wp2_with fail
    go_ret
    exact ⟨_, 0, 0, rfl, HO0.out, HB.out⟩
set_option maxHeartbeats 1000000 in
theorem sOfSize_yes (p : Int) (a : Option Addr) (n c : Nat) (l : List Nat) (k : Int) (w : World) (h : IntsAt w a n (up l)) (hA : Anti p (up l)) (hl : ∀ t ∈ l, t < 64) :
    Calls Try.prog 132 #[.agg #[.int .i64 p, .slice a n c], .int .i64 k] w (RetInts w (up (ofSize l k))) := by
  have hx : IntsAt ((w.alloc (.cells #[.int .i64 p, .slice a n c] 26)).alloc (.cells #[] 3)) a n (up l) := h.keep (by repeat (first | exact Below.refl _ _ | assumption | refine Below.setCell ?_ (by first | omega | (simp; done) | (simp; omega)) _ | refine Below.alloc ?_ (by first | omega | (simp; done) | (simp; omega)) _ | apply Below.drew))
  have Hx := Lib.hid hx; clear hx h
  have HA := Lib.hid hA; clear hA
  have Hl := Lib.hid hl; clear hl
  rw [← ofSize_filter]
  obtain ⟨D, hD⟩ : ∃ D, D = ord (isFace l) := ⟨_, rfl⟩
  rw [← hD]
  have hD64 : ∀ s ∈ D, s < 64 := by rw [hD]; exact ord_lt
  have hDl : D.length ≤ 64 := by rw [hD]; exact ord_len _
  have HD64 := Lib.hid hD64; have HD := Lib.hid hD
  clear hD hD64
  obtain ⟨q, hq⟩ : ∃ q : Nat → Bool, q = fun s => ((sz s : Int) == k) := ⟨_, rfl⟩
  rw [← hq]
  have Hq := Lib.hid (show ∀ s, ((sz s : Int) == k) = q s from fun s => by rw [hq]); clear hq
  go_enter Try.func132, Try.ntmps132
  go_wp2_with fail
  refine (sFacesOf_yes p a n c l _ Hx.out HA.out Hl.out).mono ?_
  rw [← HD.out]
  rintro e w1 ⟨ad, m, d, rfl, hown, hb⟩
  have HO0 : Hid (Own 3 w1 w.heap.size (some ⟨w.heap.size + 1, 0, none⟩) 0 0 []) := Lib.hid (by
    have := (Own.empty 3 (w.alloc (.cells #[.int .i64 p, .slice a n c] 26)) w.heap.size (by simp)).keep hb
    simp only [World.size_alloc] at this; exact this)
  have HB : Hid (Below w.heap.size w w1) := Lib.hid (Below.trans (by repeat (first | exact Below.refl _ _ | assumption | refine Below.setCell ?_ (by first | omega | (simp; done) | (simp; omega)) _ | refine Below.alloc ?_ (by first | omega | (simp; done) | (simp; omega)) _ | apply Below.drew)) (hb.mono (by simp <;> omega)))
  have HR := Lib.hid (hown.mono (show w.heap.size ≤ _ by simp; omega))
  have hDm : D.length = m := by have := HR.out.len; rwa [up_len] at this
  have HDm := Lib.hid hDm
  have hlo := hown.lt
  have Hlo : Hid (∀ k, (Value.slice ad m d).ownBlock = some k → w.heap.size + 2 ≤ k ∧ k < w1.heap.size) := Lib.hid (fun k hk => by have := hlo k hk; simp at this; omega)
  have hm64 : m ≤ 64 := by omega
  clear hb hown hDl hlo hDm
  have hz1 : w.heap.size ≤ w1.heap.size := HB.out.size
  go_wp2_with fail
  go_loopw [5, 7] (fun f i wr => ∃ I : Nat, I ≤ m ∧ i = .int .i64 I ∧ Below w.heap.size w wr ∧ w1.heap.size ≤ wr.heap.size ∧ ∃ ad2 k2 d2, f = .slice ad2 k2 d2 ∧ k2 ≤ I ∧ Own 3 wr w.heap.size ad2 k2 d2 (up ((D.take I).filter q)) ∧ Own 3 wr w.heap.size ad m d (up D) ∧ (∀ b, ad2 = some b → b.block = w.heap.size + 1 ∨ w1.heap.size ≤ b.block)) (fun _ i _ => m - (intOf i).toNat)
  case atStart => exact ⟨0, by omega, rfl, HB.out, Nat.le_refl _, _, 0, 0, rfl, by omega, HO0.out, HR.out, fun b hb => .inl (by cases hb; rfl)⟩
  case round =>
    obtain ⟨I, hI, rfl, hb, hzr, ad2, k2, d2, rfl, hk2, hown, hR, hloc⟩ := hrel
    have HBr := Lib.hid hb; have HO := Lib.hid hown; have HRr := Lib.hid hR; have Hloc := Lib.hid hloc
    clear hb hown hR hloc
    by_cases hlt : I < m
    · obtain ⟨b1, o1, rfl, hc⟩ := HRr.out.reads.cells (by omega)
      have hck := hc I hlt
      rw [nth_up] at hck
      have ht := HD64.out _ (nthN_mem (xs := D) (k := I) (by rw [HDm.out]; exact hlt))
      have htk : D.take (I + 1) = D.take I ++ [nthN D I] := nthN_take D I (by rw [HDm.out]; exact hlt)
      obtain ⟨t, hte⟩ : ∃ t, t = nthN D I := ⟨_, rfl⟩
      rw [← hte] at hck ht htk
      have hqt := Hq.out t
      have Htk := Lib.hid htk
      clear hc hte htk
      cases hqb : q t
      · rw [hqb] at hqt
        have Hqb := Lib.hid hqb; clear hqb
        go_wp2_with (go_at_call 74; (with_reducible refine (l2Size_any t _ ht).mono ?_); rintro e w' ⟨rfl, rfl⟩)
        go_roundw
        case rel => exact ⟨I + 1, by omega, by go_num, HBr.out, hzr, ad2, k2, d2, rfl, by omega, by rw [Htk.out, List.filter_append]; simp [Hqb.out]; exact HO.out, HRr.out, Hloc.out⟩
        case measure => simp [intOf]; omega
      · rw [hqb] at hqt
        have Hqb := Lib.hid hqb; clear hqb
        go_wp2_with (first
          | (go_at_call 74; (with_reducible refine (l2Size_any t _ ht).mono ?_); rintro e w' ⟨rfl, rfl⟩)
          | (at_builtin; refine ap_at rfl _ _ rfl w.heap.size _ _ _ _ _ rfl HO.out rfl (by omega) (by omega) ?_; intro ad' d' w' hown' hb' hg' hnew'; have HO' := Lib.hid hown'; have HB' := Lib.hid hb'; have HG' := Lib.hid hg'; have HN' := Lib.hid hnew'; clear hown' hb' hg' hnew'))
        go_roundw
        case rel =>
          refine ⟨I + 1, by omega, by go_num, HBr.out.trans HB'.out, Nat.le_trans hzr HB'.out.size, ad', k2 + 1, d', rfl, by omega, ?_, ?_, fun b hb => ?_⟩
          · rw [Htk.out, List.filter_append, up_append]
            simp [Hqb.out]
            exact HO'.out
          · refine HRr.out.grownNe HG'.out fun q1 h1 q2 h2 e => ?_
            obtain ⟨b, hb, hbq⟩ := ownBlock_some h1
            have h3 := Hlo.out q2 h2
            rcases Hloc.out b hb with h4 | h4 <;> omega
          · rcases HN'.out b hb with ⟨c, hc, hbc⟩ | h
            · rw [hbc]; exact Hloc.out c hc
            · exact .inr (by omega)
        case measure => simp [intOf]; omega
    · obtain rfl : I = m := by omega
      have hii : ¬ ((I : Int) < I) := by omega
      have HOf : Hid (Own 3 wr w.heap.size ad2 k2 d2 (up (D.filter q))) := Lib.hid (by have := HO.out; rw [← HDm.out, List.take_length] at this; exact this)
      go_wp2_with fail
      go_ret
      exact ⟨ad2, k2, d2, rfl, HOf.out, HBr.out⟩
end Go.Proofs.Ytbdnlncpamandaa

/- Contracts of FaceCounts, the program's and the reference's. -/
namespace Go.Proofs.Ytbdnlncpamandaa
set_option maxRecDepth 20000
open Go.RowKit
set_option linter.unusedSimpArgs false
set_option linter.unusedVariables false

/-- how many sets with p have so many points -/
def cntOf (p : Nat → Bool) : List Nat := (List.range (topTo p 64)).map fun k => (lvlTo p 64 k).length
/-- the numbers of a list's sets by size, below T -/
def ct (L : List Nat) (T : Nat) : List Nat := (List.range T).map fun k => (L.filter fun s => sz s == k).length
theorem ct_len (L : List Nat) (T : Nat) : (ct L T).length = T := by simp [ct]
theorem ct_succ {L : List Nat} {T : Nat} (h : ∀ s ∈ L, sz s < T) : ct L (T + 1) = ct L T ++ [0] := by
  unfold ct
  rw [List.range_succ, List.map_append]
  have : L.filter (fun s => sz s == T) = [] := by
    rw [List.filter_eq_nil_iff]
    intro s hs
    have := h s hs
    simp; omega
  simp [this]
theorem ct_at {L : List Nat} {T k : Nat} (hk : k < T) : nthN (ct L T) k = (L.filter fun s => sz s == k).length := by
  rw [nthN_eq (by rw [ct_len]; exact hk)]
  simp [ct]
theorem ct_add {L : List Nat} {T u : Nat} (hu : sz u < T) : (ct L T).set (sz u) (nthN (ct L T) (sz u) + 1) = ct (L ++ [u]) T := by
  apply List.ext_getElem (by simp [ct])
  intro i h1 h2
  rw [List.getElem_set]
  by_cases hi : sz u = i
  · subst hi
    rw [if_pos rfl, ct_at hu]
    simp [ct, List.filter_append]
  · rw [if_neg hi]
    have : (sz u == i) = false := by simp; exact hi
    simp [ct, List.filter_append, this]
theorem ct_end {p : Nat → Bool} {T : Nat} (h1 : ∀ s ∈ ord p, sz s < T) (h2 : T = 0 ∨ ∃ s ∈ ord p, sz s + 1 = T) : ct (ord p) T = cntOf p := by
  have hT : T = topTo p 64 := by
    have hge : ∀ s, s < 64 → p s = true → sz s < T := fun s hs hp => h1 s (mem_ord.2 ⟨hs, hp⟩)
    have a : topTo p 64 ≤ T := by
      have key : ∀ k, k ≤ 64 → topTo p k ≤ T := by
        intro k
        induction k with
        | zero => intro _; unfold topTo; simp
        | succ k ih =>
          intro hk
          rw [topTo_succ]
          split
          · rename_i h
            rw [Bool.and_eq_true] at h
            have := hge k (by omega) h.1
            omega
          · exact ih (by omega)
      exact key 64 (Nat.le_refl _)
    have b : T ≤ topTo p 64 := by
      rcases h2 with h | ⟨s, hs, h⟩
      · omega
      · obtain ⟨h64, hp⟩ := mem_ord.1 hs
        have := topTo_ge hp 64 h64
        omega
    omega
  subst hT
  unfold ct cntOf
  exact List.map_congr_left fun k _ => by rw [ord_lvl]
theorem cnt_len (p : Nat → Bool) : (cntOf p).length ≤ 7 := by unfold cntOf; have := topTo_le p 64; simpa using this
theorem cnt_le (p : Nat → Bool) : ∀ x ∈ cntOf p, x ≤ 64 := fun x hx => by
  unfold cntOf at hx
  obtain ⟨k, _, rfl⟩ := List.mem_map.1 hx
  exact lvl_len _ _ _

theorem countBySize_any (F : Nat) (w : World) (hF : Fam F) : Calls Try.prog 126 #[.int .u64 F] w (RetInts w (up (cntOf F.testBit))) := by
  go_enter Try.func126, Try.ntmps126
  go_wp2_with fail
  refine (bySize_any F _ hF).mono ?_
  rintro e w1 ⟨g, f, rfl, hgrid, hb⟩
  have HG := Lib.hid hgrid; have HB := Lib.hid hb
  have hT7 := topTo_le F.testBit 64
  obtain ⟨T, hT⟩ : ∃ T, T = topTo F.testBit 64 := ⟨_, rfl⟩
  have hcnt : cntOf F.testBit = (List.range T).map fun k => (lvlTo F.testBit 64 k).length := by rw [hT]; rfl
  rw [← hT] at HG hT7 ⊢
  have Hcnt := Lib.hid hcnt
  have hz1 : w.heap.size ≤ w1.heap.size := hb.size
  clear hgrid hb hT hcnt
  go_wp2_with fail
  go_loopw [3, 5, 9] (fun o _ i wr => ∃ I : Nat, I ≤ T ∧ i = .int .i64 I ∧ Below w1.heap.size w1 wr ∧ ∃ ad k d, o = .slice ad k d ∧ k ≤ I ∧ Own 3 wr w1.heap.size ad k d (up ((List.range I).map fun k => (lvlTo F.testBit 64 k).length))) (fun _ _ i _ => T - (intOf i).toNat)
  case atStart => exact ⟨0, Nat.zero_le _, rfl, Below.refl _ _, none, 0, 0, rfl, Nat.le_refl _, Own.nil _ _ _⟩
  case round =>
    obtain ⟨I, hI, rfl, hbr, ad, k, d, rfl, hk, hown⟩ := hrel
    have HBr := Lib.hid hbr; have HO := Lib.hid hown
    have HGr := Lib.hid (HG.out.keep hbr)
    have hzr : w1.heap.size ≤ wr.heap.size := hbr.size
    clear hbr hown
    by_cases hlt : I < T
    · have hcell := HGr.out.cell hlt
      have hl := (HGr.out.own I hlt).len
      obtain ⟨⟨a2, m2, d2⟩, hfk⟩ : ∃ x : Sl, x = f I := ⟨_, rfl⟩
      rw [← hfk] at hcell hl
      simp only [Sl.val] at hcell hl
      rw [up_len] at hl
      have Hl := Lib.hid hl
      clear hfk hl
      have hI0 : (0 : Int) ≤ I := by omega
      have hIT : (I : Int) < T := by omega
      go_wp2_with (at_builtin; refine ap rfl _ _ rfl w1.heap.size _ _ _ _ _ rfl HO.out rfl (by omega) hzr ?_; intro ad' d' w' hown' hb'; have HO3 := Lib.hid hown'; have HB3 := Lib.hid hb'; clear hown' hb')
      go_roundw
      case rel => exact ⟨I + 1, by omega, by go_num, HBr.out.trans HB3.out, ad', k + 1, d', rfl, by omega, by rw [List.range_succ, List.map_append, up_append]; simp only [List.map_cons, List.map_nil]; rw [Hl.out]; exact HO3.out⟩
      case measure => simp [intOf]; omega
    · obtain rfl : I = T := by omega
      go_wp2_with fail
      go_ret
      exact ⟨ad, k, d, rfl, by rw [Hcnt.out]; exact HO.out.mono hz1, HB.out.trans (HBr.out.mono hz1)⟩

theorem iCounts_yes (p : Int) (a : Option Addr) (n c : Nat) (l : List Nat) (w : World) (h : IntsAt w a n (up l)) (hcap : n ≤ c) (hA : Anti p (up l)) (hl : ∀ t ∈ l, t < 64) :
    Calls Try.prog 95 #[.agg #[.int .i64 p, .slice a n c]] w (RetInts w (up (cntOf (isFace l)))) := by
  have hx : IntsAt (w.alloc (.cells #[.int .i64 p, .slice a n c] 26)) a n (up l) := h.keep (by repeat (first | exact Below.refl _ _ | assumption | refine Below.setCell ?_ (by first | omega | (simp; done) | (simp; omega)) _ | refine Below.alloc ?_ (by first | omega | (simp; done) | (simp; omega)) _ | apply Below.drew))
  have Hx := Lib.hid hx; have HA := Lib.hid hA; have Hl := Lib.hid hl; have Hcap := Lib.hid hcap
  clear hx h hA hl hcap
  have hcnt : cntOf (faceSet l).testBit = cntOf (isFace l) := by
    rw [← ct_end (p := (faceSet l).testBit) (T := topTo (faceSet l).testBit 64), ← ct_end (p := isFace l) (T := topTo (faceSet l).testBit 64)]
    · rw [show ord (faceSet l).testBit = ord (isFace l) from ord_fam _]
    · intro s hs
      obtain ⟨h64, hp⟩ := mem_ord.1 hs
      exact topTo_ge (p := (faceSet l).testBit) (by rw [faceSet_bit h64]; exact hp) 64 h64
    · have key : ∀ k, k ≤ 64 → topTo (faceSet l).testBit k = 0 ∨ ∃ s, s < k ∧ (faceSet l).testBit s = true ∧ sz s + 1 = topTo (faceSet l).testBit k := by
        intro k
        induction k with
        | zero => intro _; left; unfold topTo; simp
        | succ k ih =>
          intro hk
          rw [topTo_succ]
          split
          · rename_i h
            rw [Bool.and_eq_true] at h
            exact .inr ⟨k, by omega, h.1, rfl⟩
          · rcases ih (by omega) with h | ⟨s, h1, h2, h3⟩
            · exact .inl h
            · exact .inr ⟨s, by omega, h2, h3⟩
      rcases key 64 (Nat.le_refl _) with h | ⟨s, h1, h2, h3⟩
      · exact .inl h
      · exact .inr ⟨s, mem_ord.2 ⟨h1, by rw [← faceSet_bit h1]; exact h2⟩, h3⟩
    · intro s hs
      obtain ⟨h64, hp⟩ := mem_ord.1 hs
      exact topTo_ge hp 64 h64
    · have key : ∀ k, k ≤ 64 → topTo (faceSet l).testBit k = 0 ∨ ∃ s, s < k ∧ (faceSet l).testBit s = true ∧ sz s + 1 = topTo (faceSet l).testBit k := by
        intro k
        induction k with
        | zero => intro _; left; unfold topTo; simp
        | succ k ih =>
          intro hk
          rw [topTo_succ]
          split
          · rename_i h
            rw [Bool.and_eq_true] at h
            exact .inr ⟨k, by omega, h.1, rfl⟩
          · rcases ih (by omega) with h | ⟨s, h1, h2, h3⟩
            · exact .inl h
            · exact .inr ⟨s, by omega, h2, h3⟩
      rcases key 64 (Nat.le_refl _) with h | ⟨s, h1, h2, h3⟩
      · exact .inl h
      · exact .inr ⟨s, mem_ord.2 ⟨h1, h2⟩, h3⟩
  have hF := faceSet_Fam l
  obtain ⟨F, hFe⟩ : ∃ F, F = faceSet l := ⟨_, rfl⟩
  rw [← hFe] at hF hcnt
  have HFe := Lib.hid hFe; have Hcnt := Lib.hid hcnt
  clear hFe hcnt
  go_enter Try.func95, Try.ntmps95
  go_wp2_with fail
  refine (iIsComplex_any p a n c _ _ Hx.out Hcap.out true (by simp [HA.out])).mono ?_
  rintro e w1 ⟨rfl, hb⟩
  have HB : Hid (Below w.heap.size w w1) := Lib.hid (Below.trans (by repeat (first | exact Below.refl _ _ | assumption | refine Below.setCell ?_ (by first | omega | (simp; done) | (simp; omega)) _ | refine Below.alloc ?_ (by first | omega | (simp; done) | (simp; omega)) _ | apply Below.drew)) (hb.mono (by simp <;> omega)))
  obtain ⟨hc, hf⟩ := bcell hb
  have hz : w.heap.size + 1 ≤ w1.heap.size := by have := hb.size; simp at this; omega
  have Hx1 := Lib.hid (Hx.out.keep hb)
  clear hb
  go_wp2_with fail
  refine (facesIn_any p a n c l _ Hx1.out Hl.out).mono ?_
  rw [← HFe.out]
  rintro e w2 ⟨rfl, hb⟩
  have HB2 := Lib.hid (HB.out.trans (hb.mono HB.out.size))
  clear hb
  go_wp2_with fail
  refine (countBySize_any F _ hF).mono ?_
  rw [Hcnt.out]
  rintro e w3 ⟨ad, k, d, rfl, hown, hb⟩
  have HB3 := Lib.hid (HB2.out.trans (hb.mono HB2.out.size)); have HO := Lib.hid (hown.mono HB2.out.size)
  clear hb hown
  go_wp2_with fail
  go_ret
  exact ⟨ad, k, d, rfl, HO.out, HB3.out⟩
end Go.Proofs.Ytbdnlncpamandaa

/- Contracts of GraphOf, the program's and the reference's. -/
namespace Go.Proofs.Ytbdnlncpamandaa
set_option maxRecDepth 20000
open Go.RowKit
set_option linter.unusedSimpArgs false
set_option linter.unusedVariables false

theorem iGraphOf_no (p : Int) (a : Option Addr) (n c : Nat) (xs : List Int) (w : World) (h : IntsAt w a n xs) (hcap : n ≤ c) (hno : ¬ Anti p xs) :
    Calls Try.prog 69 #[.agg #[.int .i64 p, .slice a n c]] w (RetBox2 w 0 [] false) := by
  have hx : IntsAt ((w.alloc (.cells #[.int .i64 p, .slice a n c] 26)).alloc (.cells #[.int .i64 0, .slice none 0 0] 71)) a n xs := h.keep (by repeat (first | exact Below.refl _ _ | assumption | refine Below.setCell ?_ (by first | omega | (simp; done) | (simp; omega)) _ | refine Below.alloc ?_ (by first | omega | (simp; done) | (simp; omega)) _ | apply Below.drew))
  have Hx := Lib.hid hx; have Hno := Lib.hid hno; have Hcap := Lib.hid hcap
  have xR := BoxF.new (w.alloc (.cells #[.int .i64 p, .slice a n c] 26)) (.int .i64 0) (.slice none 0 0) 71
  have XR := Lib.hid xR
  clear hx h hno hcap xR
  go_enter Try.func69, Try.ntmps69
  go_wp2_with fail
  refine (iIsComplex_any p a n c xs _ Hx.out Hcap.out false (by simp [Hno.out])).mono ?_
  rintro e w1 ⟨rfl, hb⟩
  have hbl : Below w.heap.size w w1 := Below.trans (by repeat (first | exact Below.refl _ _ | assumption | refine Below.setCell ?_ (by first | omega | (simp; done) | (simp; omega)) _ | refine Below.alloc ?_ (by first | omega | (simp; done) | (simp; omega)) _ | apply Below.drew)) (hb.mono (by simp <;> omega))
  obtain ⟨r0, r1, f0, f1, _⟩ := XR.out.keep hb (by simp)
  simp at r0 r1 f0 f1
  have hz : w.heap.size + 2 ≤ w1.heap.size := by have := hb.size; simp at this; omega
  clear hb
  go_wp2_with fail
  refine bodyPost_ret (v := .tuple #[.agg #[.int .i64 0, .slice none 0 0], .bool false]) (by simp [results, Try.results69, go_sem, r0, r1]) rfl ⟨none, 0, 0, rfl, Own.nil _ _ _, (by repeat (first | exact Below.refl _ _ | assumption | refine Below.setCell ?_ (by first | omega | (simp; done) | (simp; omega)) _ | refine Below.alloc ?_ (by first | omega | (simp; done) | (simp; omega)) _ | apply Below.drew))⟩
set_option maxRecDepth 100000 in
set_option maxHeartbeats 2000000 in
theorem iGraphOf_yes (p : Int) (a : Option Addr) (n c : Nat) (l : List Nat) (w : World) (h : IntsAt w a n (up l)) (hcap : n ≤ c) (hA : Anti p (up l)) (hl : ∀ t ∈ l, t < 64) :
    Calls Try.prog 69 #[.agg #[.int .i64 p, .slice a n c]] w (RetBox2 w p (up (ofSize l 2)) true) := by
  have hx : IntsAt ((w.alloc (.cells #[.int .i64 p, .slice a n c] 26)).alloc (.cells #[.int .i64 0, .slice none 0 0] 71)) a n (up l) := h.keep (by repeat (first | exact Below.refl _ _ | assumption | refine Below.setCell ?_ (by first | omega | (simp; done) | (simp; omega)) _ | refine Below.alloc ?_ (by first | omega | (simp; done) | (simp; omega)) _ | apply Below.drew))
  have Hx := Lib.hid hx; have HA := Lib.hid hA; have Hcap := Lib.hid hcap; have Hl := Lib.hid hl
  have xA := (BoxF.new w (.int .i64 p) (.slice a n c) 26).alloc (.cells #[.int .i64 0, .slice none 0 0] 71)
  have xR := BoxF.new (w.alloc (.cells #[.int .i64 p, .slice a n c] 26)) (.int .i64 0) (.slice none 0 0) 71
  have e2 : (w.alloc (.cells #[.int .i64 p, .slice a n c] 26)).heap.size = w.heap.size + 1 := by simp
  rw [e2] at xR
  have XR := Lib.hid xR; have XA := Lib.hid xA
  clear hx h hA hcap hl xA xR e2
  go_enter Try.func69, Try.ntmps69
  go_wp2_with fail
  refine (iIsComplex_any p a n c _ _ Hx.out Hcap.out true (by simp [HA.out])).mono ?_
  rintro e w1 ⟨rfl, hb⟩
  have HB : Hid (Below w.heap.size w w1) := Lib.hid (Below.trans (by repeat (first | exact Below.refl _ _ | assumption | refine Below.setCell ?_ (by first | omega | (simp; done) | (simp; omega)) _ | refine Below.alloc ?_ (by first | omega | (simp; done) | (simp; omega)) _ | apply Below.drew)) (hb.mono (by simp <;> omega)))
  have XR1 := Lib.hid (XR.out.keep hb (by simp))
  have XA1 := Lib.hid (XA.out.keep hb (by simp; omega))
  obtain ⟨p0, p1, _, _, _⟩ := XA1.out
  have hz : w.heap.size + 2 ≤ w1.heap.size := by have := hb.size; simp at this; omega
  have Hx1 := Lib.hid (Hx.out.keep hb)
  clear hb
  go_wp2_with fail
  have Hx2 := Lib.hid (Hx1.out.keep (Below.drew (Below.refl _ _)))
  have XA2 := Lib.hid (XA1.out.drew); have XR2 := Lib.hid (XR1.out.drew)
  have hn1 : w.heap.size + 1 ≠ w.heap.size := by omega
  have hn2 : w.heap.size ≠ w.heap.size + 1 := by omega
  have hn3 : ¬ w.heap.size = w.heap.size + 1 := by omega
  go_region_held3 (fun W => W.cell? ⟨w.heap.size, 0, none⟩ = some (.int .i64 p) ∧ W.cell? ⟨w.heap.size, 1, none⟩ = some (.slice a n c))
    (first | exact ⟨p0, p1⟩ | exact ⟨y0, y1⟩ | go_keep)
    (first
      | (go_simp; go_at_call 79; (with_reducible refine (iOfSize_yes p a n c l 2 _ Hx2.out Hcap.out HA.out Hl.out).mono ?_); rintro e w5 ⟨ad, d, r, rfl, hown, hb5⟩; have XR5 := Lib.hid (XR2.out.keep hb5 (by simp; omega)); have HO5 := Lib.hid hown; have HB5 := Lib.hid hb5; have XA5 := Lib.hid (XA2.out.keep hb5 (by simp; omega)); obtain ⟨y0, y1, _, _, _⟩ := XA5.out; obtain ⟨r0, r1, _, _, _⟩ := XR5.out; clear hb5 hown))
  all_goals (go_wp2_with fail)
  refine bodyPost_ret (v := .tuple #[.agg #[.int .i64 p, .slice ad d r], .bool true]) (by simp [results, Try.results69, go_sem, r0, r1]) rfl ⟨ad, d, r, rfl, ?_, ?_⟩
  · exact ((HO5.out.setBelow _ (by first | omega | (simp; omega))).setBelow _ (by first | omega | (simp; omega))).mono (by first | omega | (simp; omega))
  · have hB5 := HB5.out
    have hd : Below w.heap.size w1 w1.drew := (Below.refl _ _).drew
    exact ((((HB.out.trans hd).trans (hB5.mono (by first | omega | (simp; omega)))).setCell (by first | (simp; done) | (simp; omega)) _).setCell (by first | (simp; done) | (simp; omega)) _)

end Go.Proofs.Ytbdnlncpamandaa

/- Contracts of DimOf and IsBalanced, the program's and the reference's. -/
import Derived.Test.YtplbegfebnnbaaaColor4
import Derived.Deep.RegionWith
namespace Go.Proofs.Ytplbegfebnnbaaa
open Go.RowKit
set_option linter.unusedSimpArgs false
set_option linter.unusedVariables false

theorem topTo_hit {p : Nat → Bool} : ∀ k, topTo p k = 0 ∨ ∃ s, s < k ∧ p s = true ∧ sz s + 1 = topTo p k := by
  intro k
  induction k with
  | zero => left; unfold topTo; simp
  | succ k ih =>
    rw [topTo_succ]
    by_cases h : (p k && decide (topTo p k ≤ sz k)) = true
    · rw [if_pos h]
      rw [Bool.and_eq_true] at h
      exact .inr ⟨k, by omega, h.1, rfl⟩
    · rw [if_neg h]
      rcases ih with h | ⟨s, h1, h2, h3⟩
      · exact .inl h
      · exact .inr ⟨s, by omega, h2, h3⟩
theorem sub_sz64 : ∀ a : Nat, a < 64 → ∀ b : Nat, b < 64 → sub a b = true → sz a ≤ sz b := by decide +kernel
theorem topTo_last {l : List Nat} (hs : l.Pairwise fun a b => rank a < rank b) (hl : ∀ s ∈ l, s < 64) (hn : 0 < l.length) : topTo (isFace l) 64 = sz (nthN l (l.length - 1)) + 1 := by
  have hmem : nthN l (l.length - 1) ∈ l := nthN_mem (by omega)
  have hf : isFace l (nthN l (l.length - 1)) = true := by
    unfold isFace
    exact List.any_eq_true.2 ⟨_, hmem, sub_refl _⟩
  have h1 := topTo_ge hf 64 (hl _ hmem)
  rcases topTo_hit (p := isFace l) 64 with h | ⟨s, h2, h3, h4⟩
  · omega
  · unfold isFace at h3
    obtain ⟨t, ht, hst⟩ := List.any_eq_true.1 h3
    have h5 := sub_sz64 s h2 t (hl t ht) hst
    obtain ⟨j, hj, rfl⟩ := List.mem_iff_getElem.1 ht
    have h6 : sz l[j] ≤ sz (nthN l (l.length - 1)) := by
      rw [nthN_eq (by omega)]
      rcases Nat.lt_or_ge j (l.length - 1) with h | h
      · have h7 := List.pairwise_iff_getElem.1 hs j (l.length - 1) hj (by omega) h
        have h8 := hl _ (List.getElem_mem hj)
        have h9 := hl _ (List.getElem_mem (show l.length - 1 < l.length by omega))
        unfold rank at h7
        omega
      · have e : j = l.length - 1 := by omega
        simp only [e]; exact Nat.le_refl _
    omega

theorem iDim_yes (p : Int) (a : Option Addr) (n c : Nat) (l : List Nat) (w : World) (h : IntsAt w a n (up l)) (hcap : n ≤ c) (hA : Anti p (up l)) (hl : ∀ t ∈ l, t < 64) :
    Calls Try.prog 111 #[.agg #[.int .i64 p, .slice a n c]] w fun e w' => e = .returned (.int .i64 ((topTo (isFace l) 64 : Int) - 2)) ∧ Below w.heap.size w w' := by
  have hx : IntsAt (w.alloc (.cells #[.int .i64 p, .slice a n c] 27)) a n (up l) := h.keep (by repeat (first | exact Below.refl _ _ | assumption | refine Below.setCell ?_ (by first | omega | (simp; done) | (simp; omega)) _ | refine Below.alloc ?_ (by first | omega | (simp; done) | (simp; omega)) _ | apply Below.drew))
  have Hx := Lib.hid hx; have HA := Lib.hid hA; have Hl := Lib.hid hl; have Hcap := Lib.hid hcap
  clear hx h hA hl hcap
  have htop : topTo (faceSet l).testBit 64 = topTo (isFace l) 64 := by
    unfold topTo
    have : ∀ (ks : List Nat) (m : Nat), (∀ s ∈ ks, s < 64) → ks.foldl (fun m s => if ((faceSet l).testBit s && decide (m ≤ sz s)) = true then sz s + 1 else m) m = ks.foldl (fun m s => if (isFace l s && decide (m ≤ sz s)) = true then sz s + 1 else m) m := by
      intro ks
      induction ks with
      | nil => intro m _; rfl
      | cons k ks ih =>
        intro m h
        rw [List.foldl_cons, List.foldl_cons, faceSet_bit (h k (by simp)), ih _ fun s hs => h s (by simp [hs])]
    exact this _ _ fun s hs => List.mem_range.1 hs
  have hF := faceSet_Fam l
  obtain ⟨F, hFe⟩ : ∃ F, F = faceSet l := ⟨_, rfl⟩
  rw [← hFe] at hF htop
  have HFe := Lib.hid hFe; have Htop := Lib.hid htop
  have h7 := topTo_le (isFace l) 64
  obtain ⟨T, hT⟩ : ∃ T, T = topTo (isFace l) 64 := ⟨_, rfl⟩
  rw [← hT] at Htop h7 ⊢
  have hsub : (T : Int) - 1 - 1 = (T : Int) - 2 := by omega
  clear hFe htop hT
  go_enter Try.func111, Try.ntmps111
  go_wp2_with fail
  refine (iIsComplex_any p a n c _ _ Hx.out Hcap.out true (by simp [HA.out])).mono ?_
  rintro e w1 ⟨rfl, hb⟩
  have HB : Hid (Below w.heap.size w w1) := Lib.hid (Below.trans (by repeat (first | exact Below.refl _ _ | assumption | refine Below.setCell ?_ (by first | omega | (simp; done) | (simp; omega)) _ | refine Below.alloc ?_ (by first | omega | (simp; done) | (simp; omega)) _ | apply Below.drew)) (hb.mono (by simp <;> omega)))
  obtain ⟨hc, hf⟩ := bcell hb
  have hz : w.heap.size + 1 ≤ w1.heap.size := by have := hb.size; simp at this; omega
  have Hx1 := Lib.hid (Hx.out.keep hb)
  clear hb
  go_wp2_with fail
  refine (facesIn_any p a n c l _ Hx1.out Hl.out).mono ?_
  rw [← HFe.out]
  rintro e w2 ⟨rfl, hb⟩
  have HB2 := Lib.hid (HB.out.trans (hb.mono HB.out.size))
  clear hb
  go_wp2_with (go_at_call 145; refine (topSize_any F _ hF).mono ?_; rw [Htop.out]; rintro e we ⟨rfl, rfl⟩)
  go_ret
  exact ⟨ret_int (by omega), HB2.out⟩

/-- a complex with a face -/
def DimP (p : Int) (xs : List Int) : Prop := Anti p xs ∧ 0 < xs.length
theorem sDim_no (p : Int) (a : Option Addr) (n c : Nat) (xs : List Int) (w : World) (h : IntsAt w a n xs) (hno : ¬ DimP p xs) :
    Calls Try.prog 107 #[.agg #[.int .i64 p, .slice a n c]] w fun e w' => e = .returned (.int .i64 (-2)) ∧ Below w.heap.size w w' := by
  have hlen := h.len
  have hx : IntsAt (w.alloc (.cells #[.int .i64 p, .slice a n c] 27)) a n xs := h.keep (by repeat (first | exact Below.refl _ _ | assumption | refine Below.setCell ?_ (by first | omega | (simp; done) | (simp; omega)) _ | refine Below.alloc ?_ (by first | omega | (simp; done) | (simp; omega)) _ | apply Below.drew))
  have Hx := Lib.hid hx; clear hx h
  by_cases hA : Anti p xs
  · have hn : n = 0 := by
      rcases Nat.eq_zero_or_pos n with h | h
      · exact h
      · exact absurd ⟨hA, by omega⟩ hno
    have HA := Lib.hid hA; clear hA hno hlen
    subst hn
    go_enter Try.func107, Try.ntmps107
    go_wp2_with fail
    refine (sIsComplex_any p a 0 c xs _ Hx.out true (by simp [HA.out])).mono ?_
    rintro e w1 ⟨rfl, hb⟩
    have HB : Hid (Below w.heap.size w w1) := Lib.hid (Below.trans (by repeat (first | exact Below.refl _ _ | assumption | refine Below.setCell ?_ (by first | omega | (simp; done) | (simp; omega)) _ | refine Below.alloc ?_ (by first | omega | (simp; done) | (simp; omega)) _ | apply Below.drew)) (hb.mono (by simp <;> omega)))
    obtain ⟨hc, hf⟩ := bcell hb
    have hz : w.heap.size + 1 ≤ w1.heap.size := by have := hb.size; simp at this; omega
    clear hb
    go_wp2_with fail
    go_ret
    exact ⟨rfl, HB.out⟩
  · have HA := Lib.hid hA; clear hA hno hlen
    go_enter Try.func107, Try.ntmps107
    go_wp2_with fail
    refine (sIsComplex_any p a n c xs _ Hx.out false (by simp [HA.out])).mono ?_
    rintro e w1 ⟨rfl, hb⟩
    have HB : Hid (Below w.heap.size w w1) := Lib.hid (Below.trans (by repeat (first | exact Below.refl _ _ | assumption | refine Below.setCell ?_ (by first | omega | (simp; done) | (simp; omega)) _ | refine Below.alloc ?_ (by first | omega | (simp; done) | (simp; omega)) _ | apply Below.drew)) (hb.mono (by simp <;> omega)))
    clear hb
    go_wp2_with fail
    go_ret
    exact ⟨rfl, HB.out⟩
theorem sDim_yes (p : Int) (a : Option Addr) (n c : Nat) (l : List Nat) (w : World) (h : IntsAt w a n (up l)) (hA : Anti p (up l)) (hl : ∀ t ∈ l, t < 64) (hs : l.Pairwise fun a b => rank a < rank b) (h0 : 0 < n) :
    Calls Try.prog 107 #[.agg #[.int .i64 p, .slice a n c]] w fun e w' => e = .returned (.int .i64 ((topTo (isFace l) 64 : Int) - 2)) ∧ Below w.heap.size w w' := by
  have hsm := h.small
  have hlen : l.length = n := by rw [← h.len, up_len]
  have htop := topTo_last hs hl (by omega)
  rw [hlen] at htop
  have hx : IntsAt (w.alloc (.cells #[.int .i64 p, .slice a n c] 27)) a n (up l) := h.keep (by repeat (first | exact Below.refl _ _ | assumption | refine Below.setCell ?_ (by first | omega | (simp; done) | (simp; omega)) _ | refine Below.alloc ?_ (by first | omega | (simp; done) | (simp; omega)) _ | apply Below.drew))
  have ht64 := hl _ (nthN_mem (xs := l) (k := n - 1) (by omega))
  obtain ⟨t, hte⟩ : ∃ t, t = nthN l (n - 1) := ⟨_, rfl⟩
  rw [← hte] at htop ht64
  have Hx := Lib.hid hx; have HA := Lib.hid hA; have Hte := Lib.hid hte; have Htop := Lib.hid htop
  have hn0 : ((n : Int) == 0) = false := by simp; omega
  obtain ⟨m1, hm1⟩ : ∃ m1, m1 = n - 1 := ⟨_, rfl⟩
  have hkm : (n : Int) - 1 = (m1 : Int) := by omega
  have hm1n : m1 < n := by omega
  have hm10 : (0 : Int) ≤ m1 := by omega
  have hm1l : (m1 : Int) < n := by omega
  have Hm1 := Lib.hid hm1
  clear hx h hA hl hs hte htop hlen hm1
  go_enter Try.func107, Try.ntmps107
  go_wp2_with fail
  refine (sIsComplex_any p a n c _ _ Hx.out true (by simp [HA.out])).mono ?_
  rintro e w1 ⟨rfl, hb⟩
  have HB : Hid (Below w.heap.size w w1) := Lib.hid (Below.trans (by repeat (first | exact Below.refl _ _ | assumption | refine Below.setCell ?_ (by first | omega | (simp; done) | (simp; omega)) _ | refine Below.alloc ?_ (by first | omega | (simp; done) | (simp; omega)) _ | apply Below.drew)) (hb.mono (by simp <;> omega)))
  obtain ⟨hc, hf⟩ := bcell hb
  have hz : w.heap.size + 1 ≤ w1.heap.size := by have := hb.size; simp at this; omega
  have Hx1 := Lib.hid (Hx.out.keep hb)
  obtain ⟨b1, o1, rfl, hcc⟩ := Hx1.out.cells (by omega)
  have hcl := hcc m1 hm1n
  rw [nth_up, Hm1.out, ← Hte.out, ← Hm1.out] at hcl
  clear hb hcc
  go_wp2_with (go_at_call 122; (with_reducible refine (l2Size_any t _ ht64).mono ?_); rintro e w' ⟨rfl, rfl⟩)
  go_ret
  have hszt := sz_le t
  exact ⟨ret_int (by rw [Htop.out]; first | omega | (unfold wrap64; omega)), HB.out⟩

theorem l1Max_any (x y : Int) (w : World) : Calls Try.prog 109 #[.int .i64 x, .int .i64 y] w fun e w' => e = .returned (.int .i64 (max x y)) ∧ w = w' := by
  by_cases h : y < x
  · go_enter Try.func109, Try.ntmps109
    go_wp2_with fail
    go_ret
    exact ⟨ret_int (by omega), rfl⟩
  · go_enter Try.func109, Try.ntmps109
    go_wp2_with fail
    go_ret
    exact ⟨ret_int (by omega), rfl⟩

theorem iBal_no (p : Int) (a : Option Addr) (n c : Nat) (xs : List Int) (w : World) (h : IntsAt w a n xs) (hcap : n ≤ c) (hno : ¬ DimP p xs) :
    Calls Try.prog 58 #[.agg #[.int .i64 p, .slice a n c]] w fun e w' => e = .returned (.bool false) ∧ Below w.heap.size w w' := by
  have hlen := h.len
  have hx : IntsAt (w.alloc (.cells #[.int .i64 p, .slice a n c] 27)) a n xs := h.keep (by repeat (first | exact Below.refl _ _ | assumption | refine Below.setCell ?_ (by first | omega | (simp; done) | (simp; omega)) _ | refine Below.alloc ?_ (by first | omega | (simp; done) | (simp; omega)) _ | apply Below.drew))
  have Hx := Lib.hid hx; have Hcap := Lib.hid hcap; clear hx h hcap
  by_cases hA : Anti p xs
  · have hn : n = 0 := by
      rcases Nat.eq_zero_or_pos n with h | h
      · exact h
      · exact absurd ⟨hA, by omega⟩ hno
    have HA := Lib.hid hA; clear hA hno hlen
    subst hn
    go_enter Try.func58, Try.ntmps58
    go_wp2_with fail
    refine (iIsComplex_any p a 0 c xs _ Hx.out Hcap.out true (by simp [HA.out])).mono ?_
    rintro e w1 ⟨rfl, hb⟩
    have HB : Hid (Below w.heap.size w w1) := Lib.hid (Below.trans (by repeat (first | exact Below.refl _ _ | assumption | refine Below.setCell ?_ (by first | omega | (simp; done) | (simp; omega)) _ | refine Below.alloc ?_ (by first | omega | (simp; done) | (simp; omega)) _ | apply Below.drew)) (hb.mono (by simp <;> omega)))
    obtain ⟨hc, hf⟩ := bcell hb
    have hz : w.heap.size + 1 ≤ w1.heap.size := by have := hb.size; simp at this; omega
    clear hb
    go_wp2_with fail
    go_ret
    exact ⟨rfl, HB.out⟩
  · have HA := Lib.hid hA; clear hA hno hlen
    go_enter Try.func58, Try.ntmps58
    go_wp2_with fail
    refine (iIsComplex_any p a n c xs _ Hx.out Hcap.out false (by simp [HA.out])).mono ?_
    rintro e w1 ⟨rfl, hb⟩
    have HB : Hid (Below w.heap.size w w1) := Lib.hid (Below.trans (by repeat (first | exact Below.refl _ _ | assumption | refine Below.setCell ?_ (by first | omega | (simp; done) | (simp; omega)) _ | refine Below.alloc ?_ (by first | omega | (simp; done) | (simp; omega)) _ | apply Below.drew)) (hb.mono (by simp <;> omega)))
    clear hb
    go_wp2_with fail
    go_ret
    exact ⟨rfl, HB.out⟩
set_option maxRecDepth 100000 in
set_option maxHeartbeats 2000000 in
theorem iBal_yes (m : Nat) (a : Option Addr) (n c : Nat) (l : List Nat) (w : World) (h : IntsAt w a n (up l)) (hcap : n ≤ c) (hm1 : 1 ≤ m) (hm : m ≤ 6) (hA : Anti m (up l)) (hl : ∀ t ∈ l, t < 64) (h0 : 0 < n) (b : Bool) (hb : (((leastN fun k => (cfind (adjB l) k m []).isSome : Nat) : Int) == max ((topTo (isFace l) 64 : Int) - 1) 1) = b) :
    Calls Try.prog 58 #[.agg #[.int .i64 m, .slice a n c]] w fun e w' => e = .returned (.bool b) ∧ Below w.heap.size w w' := by
  have hx : IntsAt (w.alloc (.cells #[.int .i64 m, .slice a n c] 27)) a n (up l) := h.keep (by repeat (first | exact Below.refl _ _ | assumption | refine Below.setCell ?_ (by first | omega | (simp; done) | (simp; omega)) _ | refine Below.alloc ?_ (by first | omega | (simp; done) | (simp; omega)) _ | apply Below.drew))
  have Hx := Lib.hid hx; have HA := Lib.hid hA; have Hl := Lib.hid hl; have Hcap := Lib.hid hcap
  have XA := Lib.hid (BoxF.new w (.int .i64 m) (.slice a n c) 27)
  have hn0 : ((n : Int) == 0) = false := by simp; omega
  have h7 := topTo_le (isFace l) 64
  have Hleast : Hid (∀ W, IntsAt W a n (up l) → Calls Try.prog 110 #[.agg #[.int .i64 m, .slice a n c]] W fun e w' => e = .returned (.int .i64 (leastN fun k => (cfind (adjB l) k m []).isSome : Nat)) ∧ Below W.heap.size W w') := Lib.hid fun W hx => implLeast_any m a n c _ W hx (fun k => (cfind (adjB l) k m []).isSome) (fun k => up ((cfind (adjB l) k m []).getD [])) fun k h1 h6 W' hx' => iFirst_yes m a n c l k W' hx' hcap hm1 hm h1 h6 hA hl
  obtain ⟨K, hK⟩ : ∃ K, K = leastN fun k => (cfind (adjB l) k m []).isSome := ⟨_, rfl⟩
  rw [← hK] at hb
  have Hdim : Hid (∀ W, IntsAt W a n (up l) → Calls Try.prog 111 #[.agg #[.int .i64 m, .slice a n c]] W fun e w' => e = .returned (.int .i64 ((topTo (isFace l) 64 : Int) - 2)) ∧ Below W.heap.size W w') := Lib.hid fun W hx => iDim_yes m a n c l W hx hcap hA hl
  obtain ⟨T, hT⟩ : ∃ T, T = topTo (isFace l) 64 := ⟨_, rfl⟩
  rw [← hT] at hb h7
  have HK := Lib.hid hK; have HT := Lib.hid hT
  have hadd : (T : Int) - 2 + 1 = (T : Int) - 1 := by omega
  have hwT : IntKind.i64.wrap ((T : Int) - 1) = (T : Int) - 1 := by rw [IntKind.wrap_i64]; omega
  have hmax : (if (T : Int) - 1 < 1 then (1 : Int) else (T : Int) - 1) = max ((T : Int) - 1) 1 := by split <;> omega
  clear hx h hA hl hcap hK hT
  go_enter Try.func58, Try.ntmps58
  go_wp2_with fail
  refine (iIsComplex_any m a n c _ _ Hx.out Hcap.out true (by simp [HA.out])).mono ?_
  rintro e w1 ⟨rfl, hb'⟩
  have HB : Hid (Below w.heap.size w w1) := Lib.hid (Below.trans (by repeat (first | exact Below.refl _ _ | assumption | refine Below.setCell ?_ (by first | omega | (simp; done) | (simp; omega)) _ | refine Below.alloc ?_ (by first | omega | (simp; done) | (simp; omega)) _ | apply Below.drew)) (hb'.mono (by simp <;> omega)))
  have XA1 := Lib.hid (XA.out.keep hb' (by simp))
  obtain ⟨p0, p1, _, _, _⟩ := XA1.out
  have hz : w.heap.size + 1 ≤ w1.heap.size := by have := hb'.size; simp at this; omega
  have Hx1 := Lib.hid (Hx.out.keep hb')
  clear hb'
  go_wp2_with fail
  have Hx2 := Lib.hid (Hx1.out.keep (Below.drew (Below.refl _ _)))
  have XA2 := Lib.hid (XA1.out.drew)
  go_region_held3 (fun W => W.cell? ⟨w.heap.size, 0, none⟩ = some (.int .i64 m) ∧ W.cell? ⟨w.heap.size, 1, none⟩ = some (.slice a n c))
    (first | exact ⟨p0, p1⟩ | exact ⟨y0, y1⟩ | exact ⟨z0, z1⟩ | go_keep)
    (first
      | (go_simp; go_at_call 110; refine (Hleast.out _ Hx2.out).mono ?_; rw [← HK.out]; rintro e w4 ⟨rfl, hb4⟩; have HB4 := Lib.hid hb4; have Hx4 := Lib.hid (Hx2.out.keep hb4); have XA4 := Lib.hid (XA2.out.keep hb4 (by simp; omega)); obtain ⟨y0, y1, _, _, _⟩ := XA4.out; clear hb4)
      | (go_simp; go_at_call 111; refine (Hdim.out _ Hx4.out).mono ?_; rw [← HT.out]; rintro e w5 ⟨rfl, hb5⟩; have HB5 := Lib.hid hb5; have XA5 := Lib.hid (XA4.out.keep hb5 (by have := HB4.out.size; simp at this; omega)); obtain ⟨z0, z1, _, _, _⟩ := XA5.out; clear hb5))
  all_goals (go_wp2_with fail)
  all_goals go_ret
  all_goals have hz4 : w1.heap.size ≤ w4.heap.size := by have := HB4.out.size; simpa using this
  all_goals have hd : Below w.heap.size w1 w1.drew := (Below.refl _ _).drew
  all_goals refine ⟨ret_bool ?_, ((HB.out.trans hd).trans (HB4.out.mono (by first | omega | (simp; omega)))).trans (HB5.out.mono (by omega))⟩
  all_goals first | (rw [← hb]; done) | (rw [← hb]; rfl) | (rw [← hb, Bool.eq_iff_iff, beq_iff_eq, beq_iff_eq]; omega)

theorem sBal_no (p : Int) (a : Option Addr) (n c : Nat) (xs : List Int) (w : World) (h : IntsAt w a n xs) (hno : ¬ DimP p xs) :
    Calls Try.prog 57 #[.agg #[.int .i64 p, .slice a n c]] w fun e w' => e = .returned (.bool false) ∧ Below w.heap.size w w' := by
  have hx : IntsAt (w.alloc (.cells #[.int .i64 p, .slice a n c] 27)) a n xs := h.keep (by repeat (first | exact Below.refl _ _ | assumption | refine Below.setCell ?_ (by first | omega | (simp; done) | (simp; omega)) _ | refine Below.alloc ?_ (by first | omega | (simp; done) | (simp; omega)) _ | apply Below.drew))
  have Hx := Lib.hid hx; have Hno := Lib.hid hno; clear hx h hno
  have XA := Lib.hid (BoxF.new w (.int .i64 p) (.slice a n c) 27)
  obtain ⟨p0, p1, _, _, _⟩ := XA.out
  have Hx2 := Lib.hid (Hx.out.keep (Below.drew (Below.refl _ _)))
  have XA2 := Lib.hid (XA.out.drew)
  go_enter Try.func57, Try.ntmps57
  go_wp2_with fail
  first
  | go_region_with (first
      | (go_at_call 107; refine (sDim_no p a n c xs _ Hx2.out Hno.out).mono ?_; rintro e w4 ⟨rfl, hb4⟩; have HB4 := Lib.hid hb4; have XA4 := Lib.hid (XA2.out.keep hb4 (by simp)); obtain ⟨y0, y1, _, _, _⟩ := XA4.out; clear hb4))
  | fail "the region"
  all_goals (go_wp2_with fail)
  all_goals go_ret
  all_goals have hd : Below w.heap.size w (w.alloc (.cells #[.int .i64 p, .slice a n c] 27)).drew := ((Below.refl _ w).alloc (Nat.le_refl _) _).drew
  all_goals exact ⟨rfl, hd.trans (HB4.out.mono (by simp))⟩
set_option maxRecDepth 100000 in
set_option maxHeartbeats 2000000 in
theorem sBal_yes (m : Nat) (a : Option Addr) (n c : Nat) (l : List Nat) (w : World) (h : IntsAt w a n (up l)) (hm : m ≤ 6) (hA : Anti m (up l)) (hl : ∀ t ∈ l, t < 64) (hs : l.Pairwise fun a b => rank a < rank b) (h0 : 0 < n) (b : Bool) (hb : (((leastN fun k => (cfind (adjB l) k m []).isSome : Nat) : Int) == max ((topTo (isFace l) 64 : Int) - 1) 1) = b) :
    Calls Try.prog 57 #[.agg #[.int .i64 m, .slice a n c]] w fun e w' => e = .returned (.bool b) ∧ Below w.heap.size w w' := by
  have hx : IntsAt (w.alloc (.cells #[.int .i64 m, .slice a n c] 27)) a n (up l) := h.keep (by repeat (first | exact Below.refl _ _ | assumption | refine Below.setCell ?_ (by first | omega | (simp; done) | (simp; omega)) _ | refine Below.alloc ?_ (by first | omega | (simp; done) | (simp; omega)) _ | apply Below.drew))
  have hlen : l.length = n := by rw [← h.len, up_len]
  have htl := topTo_last hs hl (by omega)
  have h7 := topTo_le (isFace l) 64
  have Hleast : Hid (∀ W, IntsAt W a n (up l) → Calls Try.prog 108 #[.agg #[.int .i64 m, .slice a n c]] W fun e w' => e = .returned (.int .i64 (leastN fun k => (cfind (adjB l) k m []).isSome : Nat)) ∧ Below W.heap.size W w') := Lib.hid fun W hx => specLeast_any m a n c _ W hx (fun k => (cfind (adjB l) k m []).isSome) (fun k => up ((cfind (adjB l) k m []).getD [])) fun k h1 h6 W' hx' => sFirst_yes m a n c l k W' hx' hm h1 h6 hA hl
  obtain ⟨K, hK⟩ : ∃ K, K = leastN fun k => (cfind (adjB l) k m []).isSome := ⟨_, rfl⟩
  rw [← hK] at hb
  have Hdim : Hid (∀ W, IntsAt W a n (up l) → Calls Try.prog 107 #[.agg #[.int .i64 m, .slice a n c]] W fun e w' => e = .returned (.int .i64 ((topTo (isFace l) 64 : Int) - 2)) ∧ Below W.heap.size W w') := Lib.hid fun W hx => sDim_yes m a n c l W hx hA hl hs h0
  obtain ⟨T, hT⟩ : ∃ T, T = topTo (isFace l) 64 := ⟨_, rfl⟩
  rw [← hT] at hb h7 htl
  have hT1 : 1 ≤ T := by omega
  have HK := Lib.hid hK; have HT := Lib.hid hT
  obtain ⟨x, hx2⟩ : ∃ x : Int, x = (T : Int) - 2 := ⟨_, rfl⟩
  have HX := Lib.hid hx2
  have hge : decide (-1 ≤ x) = true := by simp; omega
  have hge' : (-1 : Int) ≤ x := by omega
  have hwx : IntKind.i64.wrap (x + 1) = x + 1 := by rw [IntKind.wrap_i64]; omega
  have Hb : Hid (b = ((K : Int) == max 1 (x + 1))) := Lib.hid (by rw [← hb, Bool.eq_iff_iff]; simp only [beq_iff_eq]; omega)
  have Hx := Lib.hid hx
  have XA := Lib.hid (BoxF.new w (.int .i64 m) (.slice a n c) 27)
  obtain ⟨p0, p1, _, _, _⟩ := XA.out
  have Hxd := Lib.hid (Hx.out.keep (Below.drew (Below.refl _ _)))
  have XA2 := Lib.hid (XA.out.drew)
  clear hx h hA hl hs hlen htl hK hT hx2 hb hT1
  go_enter Try.func57, Try.ntmps57
  go_wp2_with fail
  go_region_held3 (fun W => W.cell? ⟨w.heap.size, 0, none⟩ = some (.int .i64 m) ∧ W.cell? ⟨w.heap.size, 1, none⟩ = some (.slice a n c))
    (first | exact ⟨p0, p1⟩ | exact ⟨y0, y1⟩ | exact ⟨z0, z1⟩ | exact ⟨v0, v1⟩ | go_keep)
    (first
      | (go_simp; go_at_call 107; refine (Hdim.out _ Hxd.out).mono ?_; rw [← HT.out, ← HX.out]; rintro e w4 ⟨rfl, hb4⟩; have HB4 := Lib.hid hb4; have Hx4 := Lib.hid (Hxd.out.keep hb4); have XA4 := Lib.hid (XA2.out.keep hb4 (by simp)); obtain ⟨y0, y1, _, _, _⟩ := XA4.out; clear hb4)
      | (go_simp; go_at_call 108; refine (Hleast.out _ Hx4.out).mono ?_; rw [← HK.out]; rintro e w5 ⟨rfl, hb5⟩; have HB5 := Lib.hid hb5; have Hx5 := Lib.hid (Hx4.out.keep hb5); have XA5 := Lib.hid (XA4.out.keep hb5 XA4.out.lt); obtain ⟨z0, z1, _, _, _⟩ := XA5.out; clear hb5)
      | (go_simp; go_at_call 107; refine (Hdim.out _ Hx5.out).mono ?_; rw [← HT.out, ← HX.out]; rintro e w6 ⟨rfl, hb6⟩; have HB6 := Lib.hid hb6; have XA6 := Lib.hid (XA5.out.keep hb6 XA5.out.lt); obtain ⟨v0, v1, _, _, _⟩ := XA6.out; clear hb6)
      | (go_simp; go_at_call 109; refine (l1Max_any 1 (x + 1) _).mono ?_; rintro e we ⟨rfl, rfl⟩))
  all_goals (go_wp2_with fail)
  go_ret
  have hz4 : w.heap.size + 1 ≤ w4.heap.size := by have := HB4.out.size; simpa using this
  have hz5 : w4.heap.size ≤ w5.heap.size := HB5.out.size
  refine ⟨ret_bool ?_, ?_⟩
  · rw [Hb.out]
  · have hd : Below w.heap.size w (w.alloc (.cells #[.int .i64 m, .slice a n c] 27)).drew := ((Below.refl _ w).alloc (Nat.le_refl _) _).drew
    exact ((hd.trans (HB4.out.mono (by simp))).trans (HB5.out.mono (by omega))).trans (HB6.out.mono (by omega))
end Go.Proofs.Ytplbegfebnnbaaa

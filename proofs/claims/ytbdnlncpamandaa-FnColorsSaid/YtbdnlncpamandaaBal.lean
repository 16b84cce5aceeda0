/- Contracts of DimOf and IsBalanced, the program's and the reference's. -/
import Derived.Deep.RegionWith
import Derived.Test.YtbdnlncpamandaaColor3
import Derived.Test.YtbdnlncpamandaaFaces3
namespace Go.Proofs.Ytbdnlncpamandaa
set_option maxRecDepth 20000
open Go.RowKit
set_option linter.unusedSimpArgs false
set_option linter.unusedVariables false

theorem iDim_yes (p : Int) (a : Option Addr) (n c : Nat) (l : List Nat) (w : World) (h : IntsAt w a n (up l)) (hcap : n ≤ c) (hA : Anti p (up l)) (hl : ∀ t ∈ l, t < 64) :
    Calls Try.prog 76 #[.agg #[.int .i64 p, .slice a n c]] w fun e w' => e = .returned (.int .i64 ((topTo (isFace l) 64 : Int) - 2)) ∧ Below w.heap.size w w' := by
  have hx : IntsAt (w.alloc (.cells #[.int .i64 p, .slice a n c] 26)) a n (up l) := h.keep (by repeat (first | exact Below.refl _ _ | assumption | refine Below.setCell ?_ (by first | omega | (simp; done) | (simp; omega)) _ | refine Below.alloc ?_ (by first | omega | (simp; done) | (simp; omega)) _ | apply Below.drew))
  have Hx := Lib.hid hx; have HA := Lib.hid hA; have Hl := Lib.hid hl; have Hcap := Lib.hid hcap
  clear hx h hA hl hcap
  have htop : topTo (faceSet l).testBit 64 = topTo (isFace l) 64 := by
    unfold topTo
    have : ∀ (ks : List Nat) (m : Nat), (∀ s ∈ ks, s < 64) → ks.foldl (fun m s => if ((faceSet l).testBit s && decide (m ≤ sz s)) = true then sz s + 1 else m) m = ks.foldl (fun m s => if (isFace l s && decide (m ≤ sz s)) = true then sz s + 1 else m) m := by
      intro ks
      induction ks with
      | nil => intro m _; rfl
      | cons k ks ih =>
        intro m h
        rw [List.foldl_cons, List.foldl_cons, faceSet_bit (h k (by simp)), ih _ fun s hs => h s (by simp [hs])]
    exact this _ _ fun s hs => List.mem_range.1 hs
  have hF := faceSet_Fam l
  obtain ⟨F, hFe⟩ : ∃ F, F = faceSet l := ⟨_, rfl⟩
  rw [← hFe] at hF htop
  have HFe := Lib.hid hFe; have Htop := Lib.hid htop
  have h7 := topTo_le (isFace l) 64
  obtain ⟨T, hT⟩ : ∃ T, T = topTo (isFace l) 64 := ⟨_, rfl⟩
  rw [← hT] at Htop h7 ⊢
  have hsub : (T : Int) - 1 - 1 = (T : Int) - 2 := by omega
  clear hFe htop hT
  go_enter Try.func76, Try.ntmps76
  go_wp2_with fail
  refine (iIsComplex_any p a n c _ _ Hx.out Hcap.out true (by simp [HA.out])).mono ?_
  rintro e w1 ⟨rfl, hb⟩
  have HB : Hid (Below w.heap.size w w1) := Lib.hid (Below.trans (by repeat (first | exact Below.refl _ _ | assumption | refine Below.setCell ?_ (by first | omega | (simp; done) | (simp; omega)) _ | refine Below.alloc ?_ (by first | omega | (simp; done) | (simp; omega)) _ | apply Below.drew)) (hb.mono (by simp <;> omega)))
  obtain ⟨hc, hf⟩ := bcell hb
  have hz : w.heap.size + 1 ≤ w1.heap.size := by have := hb.size; simp at this; omega
  have Hx1 := Lib.hid (Hx.out.keep hb)
  clear hb
  go_wp2_with fail
  refine (facesIn_any p a n c l _ Hx1.out Hl.out).mono ?_
  rw [← HFe.out]
  rintro e w2 ⟨rfl, hb⟩
  have HB2 := Lib.hid (HB.out.trans (hb.mono HB.out.size))
  clear hb
  go_wp2_with (go_at_call 119; refine (topSize_any F _ hF).mono ?_; rw [Htop.out]; rintro e we ⟨rfl, rfl⟩)
  go_ret
  exact ⟨ret_int (by omega), HB2.out⟩

theorem l1Max_any (x y : Int) (w : World) : Calls Try.prog 77 #[.int .i64 x, .int .i64 y] w fun e w' => e = .returned (.int .i64 (max x y)) ∧ w = w' := by
  by_cases h : y < x
  · go_enter Try.func77, Try.ntmps77
    go_wp2_with fail
    go_ret
    exact ⟨ret_int (by omega), rfl⟩
  · go_enter Try.func77, Try.ntmps77
    go_wp2_with fail
    go_ret
    exact ⟨ret_int (by omega), rfl⟩

theorem iBal_no (p : Int) (a : Option Addr) (n c : Nat) (xs : List Int) (w : World) (h : IntsAt w a n xs) (hcap : n ≤ c) (hno : ¬ DimP p xs) :
    Calls Try.prog 19 #[.agg #[.int .i64 p, .slice a n c]] w fun e w' => e = .returned (.bool false) ∧ Below w.heap.size w w' := by
  have hlen := h.len
  have hx : IntsAt (w.alloc (.cells #[.int .i64 p, .slice a n c] 26)) a n xs := h.keep (by repeat (first | exact Below.refl _ _ | assumption | refine Below.setCell ?_ (by first | omega | (simp; done) | (simp; omega)) _ | refine Below.alloc ?_ (by first | omega | (simp; done) | (simp; omega)) _ | apply Below.drew))
  have Hx := Lib.hid hx; have Hcap := Lib.hid hcap; clear hx h hcap
  by_cases hA : Anti p xs
  · have hn : n = 0 := by
      rcases Nat.eq_zero_or_pos n with h | h
      · exact h
      · exact absurd ⟨hA, by omega⟩ hno
    have HA := Lib.hid hA; clear hA hno hlen
    subst hn
    go_enter Try.func19, Try.ntmps19
    go_wp2_with fail
    refine (iIsComplex_any p a 0 c xs _ Hx.out Hcap.out true (by simp [HA.out])).mono ?_
    rintro e w1 ⟨rfl, hb⟩
    have HB : Hid (Below w.heap.size w w1) := Lib.hid (Below.trans (by repeat (first | exact Below.refl _ _ | assumption | refine Below.setCell ?_ (by first | omega | (simp; done) | (simp; omega)) _ | refine Below.alloc ?_ (by first | omega | (simp; done) | (simp; omega)) _ | apply Below.drew)) (hb.mono (by simp <;> omega)))
    obtain ⟨hc, hf⟩ := bcell hb
    have hz : w.heap.size + 1 ≤ w1.heap.size := by have := hb.size; simp at this; omega
    clear hb
    go_wp2_with fail
    go_ret
    exact ⟨rfl, HB.out⟩
  · have HA := Lib.hid hA; clear hA hno hlen
    go_enter Try.func19, Try.ntmps19
    go_wp2_with fail
    refine (iIsComplex_any p a n c xs _ Hx.out Hcap.out false (by simp [HA.out])).mono ?_
    rintro e w1 ⟨rfl, hb⟩
    have HB : Hid (Below w.heap.size w w1) := Lib.hid (Below.trans (by repeat (first | exact Below.refl _ _ | assumption | refine Below.setCell ?_ (by first | omega | (simp; done) | (simp; omega)) _ | refine Below.alloc ?_ (by first | omega | (simp; done) | (simp; omega)) _ | apply Below.drew)) (hb.mono (by simp <;> omega)))
    clear hb
    go_wp2_with fail
    go_ret
    exact ⟨rfl, HB.out⟩
set_option maxRecDepth 100000 in
set_option maxHeartbeats 2000000 in
theorem iBal_yes (m : Nat) (a : Option Addr) (n c : Nat) (l : List Nat) (w : World) (h : IntsAt w a n (up l)) (hcap : n ≤ c) (hm1 : 1 ≤ m) (hm : m ≤ 6) (hA : Anti m (up l)) (hl : ∀ t ∈ l, t < 64) (h0 : 0 < n) (b : Bool) (hb : (((leastN fun k => (cfind (adjB l) k m []).isSome : Nat) : Int) == max ((topTo (isFace l) 64 : Int) - 1) 1) = b) :
    Calls Try.prog 19 #[.agg #[.int .i64 m, .slice a n c]] w fun e w' => e = .returned (.bool b) ∧ Below w.heap.size w w' := by
  have hx : IntsAt (w.alloc (.cells #[.int .i64 m, .slice a n c] 26)) a n (up l) := h.keep (by repeat (first | exact Below.refl _ _ | assumption | refine Below.setCell ?_ (by first | omega | (simp; done) | (simp; omega)) _ | refine Below.alloc ?_ (by first | omega | (simp; done) | (simp; omega)) _ | apply Below.drew))
  have Hx := Lib.hid hx; have HA := Lib.hid hA; have Hl := Lib.hid hl; have Hcap := Lib.hid hcap
  have XA := Lib.hid (BoxF.new w (.int .i64 m) (.slice a n c) 26)
  have hn0 : ((n : Int) == 0) = false := by simp; omega
  have h7 := topTo_le (isFace l) 64
  have Hleast : Hid (∀ W, IntsAt W a n (up l) → Calls Try.prog 17 #[.agg #[.int .i64 m, .slice a n c]] W fun e w' => e = .returned (.int .i64 (leastN fun k => (cfind (adjB l) k m []).isSome : Nat)) ∧ Below W.heap.size W w') := Lib.hid fun W hx => implLeast_any m a n c _ W hx (fun k => (cfind (adjB l) k m []).isSome) (fun k => up ((cfind (adjB l) k m []).getD [])) fun k h1 h6 W' hx' => iFirst_yes m a n c l k W' hx' hcap hm1 hm h1 h6 hA hl
  obtain ⟨K, hK⟩ : ∃ K, K = leastN fun k => (cfind (adjB l) k m []).isSome := ⟨_, rfl⟩
  rw [← hK] at hb
  have Hdim : Hid (∀ W, IntsAt W a n (up l) → Calls Try.prog 76 #[.agg #[.int .i64 m, .slice a n c]] W fun e w' => e = .returned (.int .i64 ((topTo (isFace l) 64 : Int) - 2)) ∧ Below W.heap.size W w') := Lib.hid fun W hx => iDim_yes m a n c l W hx hcap hA hl
  obtain ⟨T, hT⟩ : ∃ T, T = topTo (isFace l) 64 := ⟨_, rfl⟩
  rw [← hT] at hb h7
  have HK := Lib.hid hK; have HT := Lib.hid hT
  have hadd : (T : Int) - 2 + 1 = (T : Int) - 1 := by omega
  have hwT : IntKind.i64.wrap ((T : Int) - 1) = (T : Int) - 1 := by rw [IntKind.wrap_i64]; omega
  have hmax : (if (T : Int) - 1 < 1 then (1 : Int) else (T : Int) - 1) = max ((T : Int) - 1) 1 := by split <;> omega
  clear hx h hA hl hcap hK hT
  go_enter Try.func19, Try.ntmps19
  go_wp2_with fail
  refine (iIsComplex_any m a n c _ _ Hx.out Hcap.out true (by simp [HA.out])).mono ?_
  rintro e w1 ⟨rfl, hb'⟩
  have HB : Hid (Below w.heap.size w w1) := Lib.hid (Below.trans (by repeat (first | exact Below.refl _ _ | assumption | refine Below.setCell ?_ (by first | omega | (simp; done) | (simp; omega)) _ | refine Below.alloc ?_ (by first | omega | (simp; done) | (simp; omega)) _ | apply Below.drew)) (hb'.mono (by simp <;> omega)))
  have XA1 := Lib.hid (XA.out.keep hb' (by simp))
  obtain ⟨p0, p1, _, _, _⟩ := XA1.out
  have hz : w.heap.size + 1 ≤ w1.heap.size := by have := hb'.size; simp at this; omega
  have Hx1 := Lib.hid (Hx.out.keep hb')
  clear hb'
  go_wp2_with fail
  have Hx2 := Lib.hid (Hx1.out.keep (Below.drew (Below.refl _ _)))
  have XA2 := Lib.hid (XA1.out.drew)
  go_region_held3 (fun W => W.cell? ⟨w.heap.size, 0, none⟩ = some (.int .i64 m) ∧ W.cell? ⟨w.heap.size, 1, none⟩ = some (.slice a n c))
    (first | exact ⟨p0, p1⟩ | exact ⟨y0, y1⟩ | exact ⟨z0, z1⟩ | go_keep)
    (first
      | (go_simp; go_at_call 17; refine (Hleast.out _ Hx2.out).mono ?_; rw [← HK.out]; rintro e w4 ⟨rfl, hb4⟩; have HB4 := Lib.hid hb4; have Hx4 := Lib.hid (Hx2.out.keep hb4); have XA4 := Lib.hid (XA2.out.keep hb4 (by simp; omega)); obtain ⟨y0, y1, _, _, _⟩ := XA4.out; clear hb4)
      | (go_simp; go_at_call 76; refine (Hdim.out _ Hx4.out).mono ?_; rw [← HT.out]; rintro e w5 ⟨rfl, hb5⟩; have HB5 := Lib.hid hb5; have XA5 := Lib.hid (XA4.out.keep hb5 (by have := HB4.out.size; simp at this; omega)); obtain ⟨z0, z1, _, _, _⟩ := XA5.out; clear hb5))
  all_goals (go_wp2_with fail)
  all_goals go_ret
  all_goals have hz4 : w1.heap.size ≤ w4.heap.size := by have := HB4.out.size; simpa using this
  all_goals have hd : Below w.heap.size w1 w1.drew := (Below.refl _ _).drew
  all_goals refine ⟨ret_bool ?_, ((HB.out.trans hd).trans (HB4.out.mono (by first | omega | (simp; omega)))).trans (HB5.out.mono (by omega))⟩
  all_goals first | (rw [← hb]; done) | (rw [← hb]; rfl) | (rw [← hb, Bool.eq_iff_iff, beq_iff_eq, beq_iff_eq]; omega)

theorem sBal_no (p : Int) (a : Option Addr) (n c : Nat) (xs : List Int) (w : World) (h : IntsAt w a n xs) (hno : ¬ DimP p xs) :
    Calls Try.prog 20 #[.agg #[.int .i64 p, .slice a n c]] w fun e w' => e = .returned (.bool false) ∧ Below w.heap.size w w' := by
  have hx : IntsAt (w.alloc (.cells #[.int .i64 p, .slice a n c] 26)) a n xs := h.keep (by repeat (first | exact Below.refl _ _ | assumption | refine Below.setCell ?_ (by first | omega | (simp; done) | (simp; omega)) _ | refine Below.alloc ?_ (by first | omega | (simp; done) | (simp; omega)) _ | apply Below.drew))
  have Hx := Lib.hid hx; have Hno := Lib.hid hno; clear hx h hno
  have XA := Lib.hid (BoxF.new w (.int .i64 p) (.slice a n c) 26)
  obtain ⟨p0, p1, _, _, _⟩ := XA.out
  have Hx2 := Lib.hid (Hx.out.keep (Below.drew (Below.refl _ _)))
  have XA2 := Lib.hid (XA.out.drew)
  go_enter Try.func20, Try.ntmps20
  go_wp2_with fail
  first
  | go_region_with (first
      | (go_at_call 27; refine (sDim_no p a n c xs _ Hx2.out Hno.out).mono ?_; rintro e w4 ⟨rfl, hb4⟩; have HB4 := Lib.hid hb4; have XA4 := Lib.hid (XA2.out.keep hb4 (by simp)); obtain ⟨y0, y1, _, _, _⟩ := XA4.out; clear hb4))
  | fail "the region"
  all_goals (go_wp2_with fail)
  all_goals go_ret
  all_goals have hd : Below w.heap.size w (w.alloc (.cells #[.int .i64 p, .slice a n c] 26)).drew := ((Below.refl _ w).alloc (Nat.le_refl _) _).drew
  all_goals exact ⟨rfl, hd.trans (HB4.out.mono (by simp))⟩
set_option maxRecDepth 100000 in
set_option maxHeartbeats 2000000 in
theorem sBal_yes (m : Nat) (a : Option Addr) (n c : Nat) (l : List Nat) (w : World) (h : IntsAt w a n (up l)) (hm : m ≤ 6) (hA : Anti m (up l)) (hl : ∀ t ∈ l, t < 64) (hs : l.Pairwise fun a b => rank a < rank b) (h0 : 0 < n) (b : Bool) (hb : (((leastN fun k => (cfind (adjB l) k m []).isSome : Nat) : Int) == max ((topTo (isFace l) 64 : Int) - 1) 1) = b) :
    Calls Try.prog 20 #[.agg #[.int .i64 m, .slice a n c]] w fun e w' => e = .returned (.bool b) ∧ Below w.heap.size w w' := by
  have hx : IntsAt (w.alloc (.cells #[.int .i64 m, .slice a n c] 26)) a n (up l) := h.keep (by repeat (first | exact Below.refl _ _ | assumption | refine Below.setCell ?_ (by first | omega | (simp; done) | (simp; omega)) _ | refine Below.alloc ?_ (by first | omega | (simp; done) | (simp; omega)) _ | apply Below.drew))
  have hlen : l.length = n := by rw [← h.len, up_len]
  have htl := topTo_last hs hl (by omega)
  have h7 := topTo_le (isFace l) 64
  have Hleast : Hid (∀ W, IntsAt W a n (up l) → Calls Try.prog 18 #[.agg #[.int .i64 m, .slice a n c]] W fun e w' => e = .returned (.int .i64 (leastN fun k => (cfind (adjB l) k m []).isSome : Nat)) ∧ Below W.heap.size W w') := Lib.hid fun W hx => specLeast_any m a n c _ W hx (fun k => (cfind (adjB l) k m []).isSome) (fun k => up ((cfind (adjB l) k m []).getD [])) fun k h1 h6 W' hx' => sFirst_yes m a n c l k W' hx' hm h1 h6 hA hl
  obtain ⟨K, hK⟩ : ∃ K, K = leastN fun k => (cfind (adjB l) k m []).isSome := ⟨_, rfl⟩
  rw [← hK] at hb
  have Hdim : Hid (∀ W, IntsAt W a n (up l) → Calls Try.prog 27 #[.agg #[.int .i64 m, .slice a n c]] W fun e w' => e = .returned (.int .i64 ((topTo (isFace l) 64 : Int) - 2)) ∧ Below W.heap.size W w') := Lib.hid fun W hx => sDim_yes m a n c l W hx hA hl hs h0
  obtain ⟨T, hT⟩ : ∃ T, T = topTo (isFace l) 64 := ⟨_, rfl⟩
  rw [← hT] at hb h7 htl
  have hT1 : 1 ≤ T := by omega
  have HK := Lib.hid hK; have HT := Lib.hid hT
  obtain ⟨x, hx2⟩ : ∃ x : Int, x = (T : Int) - 2 := ⟨_, rfl⟩
  have HX := Lib.hid hx2
  have hge : decide (-1 ≤ x) = true := by simp; omega
  have hge' : (-1 : Int) ≤ x := by omega
  have hwx : IntKind.i64.wrap (x + 1) = x + 1 := by rw [IntKind.wrap_i64]; omega
  have Hb : Hid (b = ((K : Int) == max 1 (x + 1))) := Lib.hid (by rw [← hb, Bool.eq_iff_iff]; simp only [beq_iff_eq]; omega)
  have Hx := Lib.hid hx
  have XA := Lib.hid (BoxF.new w (.int .i64 m) (.slice a n c) 26)
  obtain ⟨p0, p1, _, _, _⟩ := XA.out
  have Hxd := Lib.hid (Hx.out.keep (Below.drew (Below.refl _ _)))
  have XA2 := Lib.hid (XA.out.drew)
  clear hx h hA hl hs hlen htl hK hT hx2 hb hT1
  go_enter Try.func20, Try.ntmps20
  go_wp2_with fail
  go_region_held3 (fun W => W.cell? ⟨w.heap.size, 0, none⟩ = some (.int .i64 m) ∧ W.cell? ⟨w.heap.size, 1, none⟩ = some (.slice a n c))
    (first | exact ⟨p0, p1⟩ | exact ⟨y0, y1⟩ | exact ⟨z0, z1⟩ | exact ⟨v0, v1⟩ | go_keep)
    (first
      | (go_simp; go_at_call 27; refine (Hdim.out _ Hxd.out).mono ?_; rw [← HT.out, ← HX.out]; rintro e w4 ⟨rfl, hb4⟩; have HB4 := Lib.hid hb4; have Hx4 := Lib.hid (Hxd.out.keep hb4); have XA4 := Lib.hid (XA2.out.keep hb4 (by simp)); obtain ⟨y0, y1, _, _, _⟩ := XA4.out; clear hb4)
      | (go_simp; go_at_call 18; refine (Hleast.out _ Hx4.out).mono ?_; rw [← HK.out]; rintro e w5 ⟨rfl, hb5⟩; have HB5 := Lib.hid hb5; have Hx5 := Lib.hid (Hx4.out.keep hb5); have XA5 := Lib.hid (XA4.out.keep hb5 XA4.out.lt); obtain ⟨z0, z1, _, _, _⟩ := XA5.out; clear hb5)
      | (go_simp; go_at_call 27; refine (Hdim.out _ Hx5.out).mono ?_; rw [← HT.out, ← HX.out]; rintro e w6 ⟨rfl, hb6⟩; have HB6 := Lib.hid hb6; have XA6 := Lib.hid (XA5.out.keep hb6 XA5.out.lt); obtain ⟨v0, v1, _, _, _⟩ := XA6.out; clear hb6)
      | (go_simp; go_at_call 77; refine (l1Max_any 1 (x + 1) _).mono ?_; rintro e we ⟨rfl, rfl⟩))
  all_goals (go_wp2_with fail)
  go_ret
  have hz4 : w.heap.size + 1 ≤ w4.heap.size := by have := HB4.out.size; simpa using this
  have hz5 : w4.heap.size ≤ w5.heap.size := HB5.out.size
  refine ⟨ret_bool ?_, ?_⟩
  · rw [Hb.out]
  · have hd : Below w.heap.size w (w.alloc (.cells #[.int .i64 m, .slice a n c] 26)).drew := ((Below.refl _ w).alloc (Nat.le_refl _) _).drew
    exact ((hd.trans (HB4.out.mono (by simp))).trans (HB5.out.mono (by omega))).trans (HB6.out.mono (by omega))
end Go.Proofs.Ytbdnlncpamandaa

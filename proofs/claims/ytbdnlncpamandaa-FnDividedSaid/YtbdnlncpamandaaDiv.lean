/- Texts of this claim, one behind the other: what each says stands at its head. -/
import Derived.Test.YtbdnlncpamandaaFlipAt
/- Contracts of HasFace and of SubdivideAt, the program's and the reference's. -/
namespace Go.Proofs.Ytbdnlncpamandaa
set_option maxRecDepth 20000
open Go.RowKit
set_option linter.unusedSimpArgs false
set_option linter.unusedVariables false

/-- append of two numbers to a row of the call's own -/
theorem ap_two {ops : Array Oper} {rest : List Oper} {o : Oper} {a : Act} {Q : Exit → Act → World → Prop} {w0 : World} (hgd : o.guard = none) (s x : Operand)
    (ho : o.op = .call { callee := .builtin .append, args := #[s, x], argTypes := #[24, 24] })
    (B : Nat) (ad : Option Addr) (n c : Nat) (xs : List Int) (y1 y2 : Int) (hs : a.eval s = .slice ad n c) (hown : Own 3 w0 B ad n c xs)
    (hx : a.eval x = .slice (some ⟨w0.heap.size, 0, none⟩) 2 2) (hn : n < 1099511627776) (hB : B ≤ w0.heap.size)
    (h : ∀ ad' c' w', Own 3 w' B ad' (n + 2) c' (xs ++ [y1, y2]) → Below B w0 w' → wpList Try.prog ops Q rest (a.put o.dst (.slice ad' (n + 2 : Nat) c')) w') :
    wpList Try.prog ops Q (o :: rest) a (w0.alloc (.cells #[.int .i64 y1, .int .i64 y2] 3)) := by
  obtain ⟨i0, hi, hz0, hz1, hz2⟩ := info_parts infoInt
  refine wpList_append_own _ hgd s x 24 ho B 3 i0 (.int .i64 0) 1 8 Try.underlying24 hi hz0 hz1 hz2 rfl (by decide) _ n _ hs (hown.row.alloc _) ⟨w0.heap.size, 0, none⟩ 2 2 [.int .i64 y1, .int .i64 y2] hx rfl ?_ ?_ ?_ ?_ ?_ ?_
  · intro j u hj
    match j, hj with
    | 0, hj => simp at hj; subst hj; simp [Addr.add]
    | 1, hj => simp at hj; subst hj; simp [Addr.add]
  · intro u hu
    simp at hu
    rcases hu with rfl | rfl <;> rfl
  · unfold maxLen; omega
  · omega
  · simp; omega
  · intro v' w' hown' hgrow _
    have hl := hown.lt
    have hg0 : w0.grownBy w' (Value.slice ad n c).ownBlock :=
      ⟨hgrow.os, hgrow.tape, hgrow.output, by have := hgrow.size; simp at this; omega, fun k hk hne => (hgrow.block k (by simp; omega) hne).trans (Below.heap_alloc _ _ _ hk)⟩
    have hb : Below B w0 w' := (Below.refl B w0).grown hg0 hB (fun k hk => (hl k hk).1)
    have hv : ∃ ad' c', v' = .slice ad' (n + 2) c' := by
      rcases hown'.2 with ⟨_, h0⟩ | ⟨g, cap, cur, hv, _⟩
      · omega
      · exact ⟨_, _, hv⟩
    obtain ⟨ad', c', rfl⟩ := hv
    exact h ad' c' w' ⟨by rw [List.length_map, List.length_append, hown.len]; rfl, by unfold Own at *; rw [List.map_append]; exact hown'⟩ hb

/-- a face of a complex -/
def HasP (p : Int) (xs : List Int) (s : Int) : Prop := ∃ (l : List Nat) (u : Nat), xs = up l ∧ Anti p (up l) ∧ s = u ∧ u < 64 ∧ isFace l u = true
theorem HasP.anti {p : Int} {xs : List Int} {s : Int} (h : HasP p xs s) : Anti p xs := by obtain ⟨l, u, rfl, h, _⟩ := h; exact h
theorem HasP.iff {p : Int} {l : List Nat} {u : Nat} (hA : Anti p (up l)) (hu : u < 64) : HasP p (up l) u ↔ isFace l u = true := by
  constructor
  · rintro ⟨l', u', h1, _, h2, _, h⟩
    have := up_inj h1; subst this
    obtain rfl : u = u' := by omega
    exact h
  · intro h; exact ⟨l, u, rfl, hA, rfl, hu, h⟩
theorem isFace_lt {l : List Nat} {N s : Nat} (h : isFace l s = true) (hl : ∀ t ∈ l, t < N) : s < N := by
  obtain ⟨f, hf, hs⟩ := isFace_iff.1 h
  exact sub_lt hs (hl f hf)

theorem iHas_any (p : Int) (a : Option Addr) (n c : Nat) (xs : List Int) (s : Int) (w : World) (h : IntsAt w a n xs) (hcap : n ≤ c) (b : Bool) (hb : b = true ↔ HasP p xs s) :
    Calls Try.prog 87 #[.agg #[.int .i64 p, .slice a n c], .int .i64 s] w fun e w' => e = .returned (.bool b) ∧ Below w.heap.size w w' := by
  have hx : IntsAt (w.alloc (.cells #[.int .i64 p, .slice a n c] 26)) a n xs := h.keep (by repeat (first | exact Below.refl _ _ | assumption | refine Below.setCell ?_ (by first | omega | (simp; done) | (simp; omega)) _ | refine Below.alloc ?_ (by first | omega | (simp; done) | (simp; omega)) _ | apply Below.drew))
  have Hx := Lib.hid hx; have Hcap := Lib.hid hcap; have Hb := Lib.hid hb
  have XA := Lib.hid (BoxF.new w (.int .i64 p) (.slice a n c) 26)
  clear hx h hcap hb
  by_cases hA : Anti p xs
  · have HA := Lib.hid hA
    obtain ⟨l, hxl, hl2, _, _⟩ := hA.nat
    have HL : Hid (∀ t ∈ l, t < 64) := Lib.hid fun t ht => (hl2 t ht).2
    obtain ⟨d, hd⟩ : ∃ d, isSetB p s = d := ⟨_, rfl⟩
    have Hd := Lib.hid hd
    have Hl2 := Lib.hid hl2
    have Hxl := Lib.hid hxl
    clear hA hd hl2 hxl
    go_enter Try.func87, Try.ntmps87
    go_wp2_with fail
    refine (iIsComplex_any p a n c xs _ Hx.out Hcap.out true (by simp [HA.out])).mono ?_
    rintro e w1 ⟨rfl, hb1⟩
    have HB : Hid (Below w.heap.size w w1) := Lib.hid (Below.trans (by repeat (first | exact Below.refl _ _ | assumption | refine Below.setCell ?_ (by first | omega | (simp; done) | (simp; omega)) _ | refine Below.alloc ?_ (by first | omega | (simp; done) | (simp; omega)) _ | apply Below.drew)) (hb1.mono (by simp <;> omega)))
    have Hx1 := Lib.hid (Hx.out.keep hb1)
    obtain ⟨p0, p1, _, _, _⟩ := XA.out.keep hb1 (by simp)
    clear hb1
    cases d
    · have hbf : b = false := by
        cases b
        · rfl
        · obtain ⟨l', u, h1, _, rfl, hu, hf⟩ := Hb.out.1 rfl
          rw [Hxl.out] at h1
          have := up_inj h1; subst this
          have hlt := isFace_lt hf fun t ht => (Hl2.out t ht).1
          have h1 := HA.out.1; have h2 := HA.out.2.1
          obtain ⟨m, rfl⟩ := Int.eq_ofNat_of_zero_le (show 0 ≤ p by omega)
          have : isSetB m u = true := isSet_iff.2 ⟨by omega, u, rfl, by simpa using hlt⟩
          have h3 := Hd.out
          rw [this] at h3; cases h3
      subst hbf
      go_wp2_with (go_at_call 112; (with_reducible refine (IsSet_is p s false _ Hd.out).mono ?_); rintro e w' ⟨rfl, rfl⟩)
      go_ret
      exact ⟨rfl, HB.out⟩
    · obtain ⟨u, rfl, hu⟩ : ∃ u : Nat, s = u ∧ u < 64 := by
        obtain ⟨_, u, _, h, _, _, hu⟩ := isSet_nat Hd.out
        exact ⟨u, h, hu⟩
      have hbf : b = (faceSet l).testBit u := by
        rw [faceSet_bit hu, Bool.eq_iff_iff, Hb.out, Hxl.out]
        exact HasP.iff (by rw [← Hxl.out]; exact HA.out) hu
      have Hbf := Lib.hid hbf
      have Hx2 : Hid (IntsAt w1 a n (up l)) := Lib.hid (by rw [← Hxl.out]; exact Hx1.out)
      clear hbf
      go_wp2_with (go_at_call 112; (with_reducible refine (IsSet_is p u true _ Hd.out).mono ?_); rintro e w' ⟨rfl, rfl⟩)
      refine (facesIn_any p a n c l _ Hx2.out HL.out).mono ?_
      rintro e w2 ⟨rfl, hb2⟩
      have HB2 := Lib.hid (HB.out.trans (hb2.mono HB.out.size))
      clear hb2
      go_wp2_with (go_at_call 108; (with_reducible refine (hasSet_any (faceSet l) u _ (faceSet_Fam l) hu).mono ?_); rintro e w' ⟨rfl, rfl⟩)
      go_ret
      exact ⟨ret_bool Hbf.out.symm, HB2.out⟩
  · have Hno := Lib.hid hA
    have hbf : b = false := by
      cases b
      · rfl
      · exact absurd (Hb.out.1 rfl).anti hA
    subst hbf
    clear hA
    go_enter Try.func87, Try.ntmps87
    go_wp2_with fail
    refine (iIsComplex_any p a n c xs _ Hx.out Hcap.out false (by simp [Hno.out])).mono ?_
    rintro e w1 ⟨rfl, hb1⟩
    have HB : Hid (Below w.heap.size w w1) := Lib.hid (Below.trans (by repeat (first | exact Below.refl _ _ | assumption | refine Below.setCell ?_ (by first | omega | (simp; done) | (simp; omega)) _ | refine Below.alloc ?_ (by first | omega | (simp; done) | (simp; omega)) _ | apply Below.drew)) (hb1.mono (by simp <;> omega)))
    clear hb1
    go_wp2_with fail
    go_ret
    exact ⟨rfl, HB.out⟩
theorem sHas_any (p : Int) (a : Option Addr) (n c : Nat) (xs : List Int) (s : Int) (w : World) (h : IntsAt w a n xs) (b : Bool) (hb : b = true ↔ HasP p xs s) :
    Calls Try.prog 93 #[.agg #[.int .i64 p, .slice a n c], .int .i64 s] w fun e w' => e = .returned (.bool b) ∧ Below w.heap.size w w' := by
  have hx : IntsAt (w.alloc (.cells #[.int .i64 p, .slice a n c] 26)) a n xs := h.keep (by repeat (first | exact Below.refl _ _ | assumption | refine Below.setCell ?_ (by first | omega | (simp; done) | (simp; omega)) _ | refine Below.alloc ?_ (by first | omega | (simp; done) | (simp; omega)) _ | apply Below.drew))
  have Hx := Lib.hid hx; have Hb := Lib.hid hb
  have XA := Lib.hid (BoxF.new w (.int .i64 p) (.slice a n c) 26)
  clear hx h hb
  by_cases hA : Anti p xs
  · have HA := Lib.hid hA
    obtain ⟨l, hxl, hl2, _, _⟩ := hA.nat
    have HL : Hid (∀ t ∈ l, t < 64) := Lib.hid fun t ht => (hl2 t ht).2
    have Hxl := Lib.hid hxl
    clear hA hl2 hxl
    go_enter Try.func93, Try.ntmps93
    go_wp2_with fail
    refine (sIsComplex_any p a n c xs _ Hx.out true (by simp [HA.out])).mono ?_
    rintro e w1 ⟨rfl, hb1⟩
    have HB : Hid (Below w.heap.size w w1) := Lib.hid (Below.trans (by repeat (first | exact Below.refl _ _ | assumption | refine Below.setCell ?_ (by first | omega | (simp; done) | (simp; omega)) _ | refine Below.alloc ?_ (by first | omega | (simp; done) | (simp; omega)) _ | apply Below.drew)) (hb1.mono (by simp <;> omega)))
    have Hx1 := Lib.hid (Hx.out.keep hb1)
    obtain ⟨p0, p1, _, _, _⟩ := XA.out.keep hb1 (by simp)
    clear hb1
    by_cases hs : 0 ≤ s ∧ s ≤ 63
    · obtain ⟨u, rfl⟩ := Int.eq_ofNat_of_zero_le hs.1
      have hu : u < 64 := by omega
      have hbf : isFace l u = b := by
        rw [Bool.eq_iff_iff, Hb.out, Hxl.out]
        exact (HasP.iff (by rw [← Hxl.out]; exact HA.out) hu).symm
      have Hbf := Lib.hid hbf
      have Hx2 : Hid (IntsAt w1 a n (up l)) := Lib.hid (by rw [← Hxl.out]; exact Hx1.out)
      clear hbf hs
      go_wp2_with (go_at_call 72; (with_reducible refine (l1In_set u _ hu).mono ?_); rintro e w' ⟨rfl, rfl⟩)
      refine (l3Has_any p u a n c l _ Hx2.out hu HL.out b Hbf.out).mono ?_
      rintro e w2 ⟨rfl, hb2⟩
      have HB2 := Lib.hid (HB.out.trans (hb2.mono HB.out.size))
      clear hb2
      go_wp2_with fail
      go_ret
      exact ⟨ret_bool (by simp), HB2.out⟩
    · have hbf : b = false := by
        cases b
        · rfl
        · obtain ⟨_, u, _, _, rfl, hu, _⟩ := Hb.out.1 rfl
          exact absurd ⟨by omega, by omega⟩ hs
      subst hbf
      have Hs := Lib.hid hs; clear hs
      go_wp2_with (go_at_call 72; (with_reducible refine (l1In_no s 0 63 _ Hs.out).mono ?_); rintro e w' ⟨rfl, rfl⟩)
      go_ret
      exact ⟨rfl, HB.out⟩
  · have Hno := Lib.hid hA
    have hbf : b = false := by
      cases b
      · rfl
      · exact absurd (Hb.out.1 rfl).anti hA
    subst hbf
    clear hA
    go_enter Try.func93, Try.ntmps93
    go_wp2_with fail
    refine (sIsComplex_any p a n c xs _ Hx.out false (by simp [Hno.out])).mono ?_
    rintro e w1 ⟨rfl, hb1⟩
    have HB : Hid (Below w.heap.size w w1) := Lib.hid (Below.trans (by repeat (first | exact Below.refl _ _ | assumption | refine Below.setCell ?_ (by first | omega | (simp; done) | (simp; omega)) _ | refine Below.alloc ?_ (by first | omega | (simp; done) | (simp; omega)) _ | apply Below.drew)) (hb1.mono (by simp <;> omega)))
    clear hb1
    go_wp2_with fail
    go_ret
    exact ⟨rfl, HB.out⟩
theorem iSub_any (s : Nat) (w : World) (hs : s < 64) : Calls Try.prog 64 #[.int .i64 s] w (RetInts w (up (ord fun t => sub t s))) := by
  have hF := fam_Fam fun t => sub t s
  have HE : Hid (ord (fam fun t => sub t s).testBit = ord fun t => sub t s) := Lib.hid (ord_congr fun t ht => fam_at ht)
  go_enter Try.func64, Try.ntmps64
  go_wp2_with (first | (go_at_call 112; (with_reducible refine (IsSet6 s _ hs).mono ?_); rintro e w' ⟨rfl, rfl⟩) | (go_at_call 115; (with_reducible refine (subsetFamily_any s _ hs).mono ?_); rintro e w' ⟨rfl, rfl⟩))
  refine (setsIn_any _ _ hF).mono ?_
  rw [HE.out]
  rintro e w1 ⟨ad, k, d, rfl, hown, hb⟩
  have HO := Lib.hid hown; have HB := Lib.hid hb
  clear hown hb
  go_wp2_with fail
  go_ret
  exact ⟨ad, k, d, rfl, HO.out, HB.out⟩
end Go.Proofs.Ytbdnlncpamandaa

/- Contracts of SubdivideAt, the program's and the reference's. -/
namespace Go.Proofs.Ytbdnlncpamandaa
set_option maxRecDepth 20000
open Go.RowKit
set_option linter.unusedSimpArgs false
set_option linter.unusedVariables false

/-- a complex may be subdivided at s -/
def DivP (p : Int) (xs : List Int) (s : Int) : Prop := HasP p xs s ∧ p ≠ 6 ∧ s ≠ 0
theorem or_top : ∀ m, m < 6 → ∀ a, a < 2 ^ m → a + 2 ^ m = a ||| 2 ^ m := by decide +kernel

set_option maxHeartbeats 1000000 in
theorem iDiv_no (p : Int) (a : Option Addr) (n c : Nat) (xs : List Int) (s : Int) (w : World) (h : IntsAt w a n xs) (hcap : n ≤ c) (hno : ¬ DivP p xs s) :
    Calls Try.prog 30 #[.agg #[.int .i64 p, .slice a n c], .int .i64 s] w (RetBox2 w 0 [] false) := by
  obtain ⟨w0, hw0⟩ : ∃ w0, w0 = (w.alloc (.cells #[.int .i64 p, .slice a n c] 26)).alloc (.cells #[.int .i64 0, .slice none 0 0] 26) := ⟨_, rfl⟩
  have hx : IntsAt w0 a n xs := by rw [hw0]; exact h.keep (by repeat (first | exact Below.refl _ _ | assumption | refine Below.setCell ?_ (by first | omega | (simp; done) | (simp; omega)) _ | refine Below.alloc ?_ (by first | omega | (simp; done) | (simp; omega)) _ | apply Below.drew))
  have hB : Below w.heap.size w w0 := by rw [hw0]; exact (by repeat (first | exact Below.refl _ _ | assumption | refine Below.setCell ?_ (by first | omega | (simp; done) | (simp; omega)) _ | refine Below.alloc ?_ (by first | omega | (simp; done) | (simp; omega)) _ | apply Below.drew))
  have hz0 : w0.heap.size = w.heap.size + 2 := by rw [hw0]; simp
  have xR : BoxF w0 (w.heap.size + 1) (.int .i64 0) (.slice none 0 0) := by
    rw [hw0, show w.heap.size + 1 = (w.alloc (.cells #[.int .i64 p, .slice a n c] 26)).heap.size by simp]
    exact BoxF.new _ _ _ _
  have xA : BoxF w0 w.heap.size (.int .i64 p) (.slice a n c) := by
    rw [hw0]
    exact (BoxF.new w (.int .i64 p) (.slice a n c) 26).alloc _
  have Hx := Lib.hid hx; have HB := Lib.hid hB; have XR := Lib.hid xR; have XA := Lib.hid xA; have HW0 := Lib.hid hw0; have Hcap := Lib.hid hcap; have Hno := Lib.hid hno
  clear hx hB xR xA hw0 h hcap hno
  by_cases hA : Anti p xs
  · have HA := Lib.hid hA; clear hA
    obtain ⟨z, hz⟩ : ∃ z, (p == 6) = z := ⟨_, rfl⟩
    obtain ⟨y, hy⟩ : ∃ y, (s == 0) = y := ⟨_, rfl⟩
    go_enter Try.func30, Try.ntmps30
    go_wp2_with fail
    rw [← HW0.out]
    refine (iIsComplex_any p a n c xs _ Hx.out Hcap.out true (by simp [HA.out])).mono ?_
    rintro e w1 ⟨rfl, hb⟩
    obtain ⟨r0, r1, f0, f1, _⟩ := XR.out.keep hb (by omega)
    obtain ⟨p0, p1, _, _, _⟩ := XA.out.keep hb (by omega)
    have XR1 := Lib.hid (XR.out.keep hb (by omega))
    have hbl : Below w.heap.size w w1 := HB.out.trans (hb.mono (by omega))
    have Hx1 := Lib.hid (Hx.out.keep hb)
    have hz1 : w.heap.size + 2 ≤ w1.heap.size := by have := hb.size; omega
    clear hb
    cases z
    · cases y
      · have HP : Hid (¬ HasP p xs s) := Lib.hid fun h => Hno.out ⟨h, by simpa using hz, by simpa using hy⟩
        go_wp2_with fail
        refine (iHas_any p a n c xs s _ Hx1.out Hcap.out false (by simp [HP.out])).mono ?_
        rintro e w2 ⟨rfl, hb⟩
        clear r0 r1 f0 f1
        obtain ⟨r0, r1, f0, f1, _⟩ := XR1.out.keep hb (by omega)
        have hbl2 : Below w.heap.size w w2 := hbl.trans (hb.mono (by omega))
        clear hb
        go_wp2_with fail
        refine bodyPost_ret (v := .tuple #[.agg #[.int .i64 0, .slice none 0 0], .bool false]) (by simp [results, Try.results30, go_sem, r0, r1]) rfl ⟨none, 0, 0, rfl, Own.nil _ _ _, (by repeat (first | exact Below.refl _ _ | assumption | refine Below.setCell ?_ (by first | omega | (simp; done) | (simp; omega)) _ | refine Below.alloc ?_ (by first | omega | (simp; done) | (simp; omega)) _ | apply Below.drew))⟩
      · go_wp2_with fail
        refine bodyPost_ret (v := .tuple #[.agg #[.int .i64 0, .slice none 0 0], .bool false]) (by simp [results, Try.results30, go_sem, r0, r1]) rfl ⟨none, 0, 0, rfl, Own.nil _ _ _, (by repeat (first | exact Below.refl _ _ | assumption | refine Below.setCell ?_ (by first | omega | (simp; done) | (simp; omega)) _ | refine Below.alloc ?_ (by first | omega | (simp; done) | (simp; omega)) _ | apply Below.drew))⟩
    · go_wp2_with fail
      refine bodyPost_ret (v := .tuple #[.agg #[.int .i64 0, .slice none 0 0], .bool false]) (by simp [results, Try.results30, go_sem, r0, r1]) rfl ⟨none, 0, 0, rfl, Own.nil _ _ _, (by repeat (first | exact Below.refl _ _ | assumption | refine Below.setCell ?_ (by first | omega | (simp; done) | (simp; omega)) _ | refine Below.alloc ?_ (by first | omega | (simp; done) | (simp; omega)) _ | apply Below.drew))⟩
  · have HA := Lib.hid hA; clear hA
    go_enter Try.func30, Try.ntmps30
    go_wp2_with fail
    rw [← HW0.out]
    refine (iIsComplex_any p a n c xs _ Hx.out Hcap.out false (by simp [HA.out])).mono ?_
    rintro e w1 ⟨rfl, hb⟩
    obtain ⟨r0, r1, f0, f1, _⟩ := XR.out.keep hb (by omega)
    have hbl : Below w.heap.size w w1 := HB.out.trans (hb.mono (by omega))
    clear hb
    go_wp2_with fail
    refine bodyPost_ret (v := .tuple #[.agg #[.int .i64 0, .slice none 0 0], .bool false]) (by simp [results, Try.results30, go_sem, r0, r1]) rfl ⟨none, 0, 0, rfl, Own.nil _ _ _, (by repeat (first | exact Below.refl _ _ | assumption | refine Below.setCell ?_ (by first | omega | (simp; done) | (simp; omega)) _ | refine Below.alloc ?_ (by first | omega | (simp; done) | (simp; omega)) _ | apply Below.drew))⟩

/-- the sets v|a|b for the proper subsets a of s below the J-th -/
def starB (A : List Nat) (s v b x : Nat) : Bool := A.any fun a => a != s && x == v ||| a ||| b
theorem starB_yes {A : List Nat} {s v b J x : Nat} (hJ : J < A.length) (h : nthN A J ≠ s) : starB (A.take (J + 1)) s v b x = (starB (A.take J) s v b x || x == v ||| nthN A J ||| b) := by
  have e : (nthN A J != s) = true := by simpa using h
  unfold starB; rw [nthN_take A J hJ, List.any_append]; simp only [List.any_cons, List.any_nil, Bool.or_false, e, Bool.true_and]
theorem starB_no {A : List Nat} {s v b J x : Nat} (hJ : J < A.length) (h : nthN A J = s) : starB (A.take (J + 1)) s v b x = starB (A.take J) s v b x := by
  unfold starB; rw [nthN_take A J hJ, List.any_append]; simp [h]
/-- the program's family while b runs through the link -/
def outB (F : Nat) (A B : List Nat) (s v x : Nat) : Bool := delB F s x || B.any fun b => starB A s v b x
theorem outB_next {F : Nat} {A B : List Nat} {s v I x : Nat} (hI : I < B.length) : outB F A (B.take (I + 1)) s v x = (outB F A (B.take I) s v x || starB A s v (nthN B I) x) := by
  unfold outB; rw [nthN_take B I hI, List.any_append]; simp [Bool.or_assoc]
set_option maxRecDepth 100000 in
set_option maxHeartbeats 2000000 in
theorem iDiv_yes (m : Nat) (a : Option Addr) (n c : Nat) (l : List Nat) (s : Nat) (w : World) (h : IntsAt w a n (up l)) (hcap : n ≤ c) (hm : m ≤ 5) (hA : Anti m (up l)) (hl : ∀ t ∈ l, t < 64) (hs : s < 64) (hsm : s < 2 ^ m) (hs0 : s ≠ 0) (hl2 : ∀ t ∈ l, t < 2 ^ m) (hf : isFace l s = true) :
    Calls Try.prog 30 #[.agg #[.int .i64 m, .slice a n c], .int .i64 s] w (RetBox2 w ((m : Int) + 1) (up (maxL (divFam l s (2 ^ m)))) true) := by
  obtain ⟨w0, hw0⟩ : ∃ w0, w0 = (w.alloc (.cells #[.int .i64 m, .slice a n c] 26)).alloc (.cells #[.int .i64 0, .slice none 0 0] 26) := ⟨_, rfl⟩
  have hx : IntsAt w0 a n (up l) := by rw [hw0]; exact h.keep (by repeat (first | exact Below.refl _ _ | assumption | refine Below.setCell ?_ (by first | omega | (simp; done) | (simp; omega)) _ | refine Below.alloc ?_ (by first | omega | (simp; done) | (simp; omega)) _ | apply Below.drew))
  have hB : Below w.heap.size w w0 := by rw [hw0]; exact (by repeat (first | exact Below.refl _ _ | assumption | refine Below.setCell ?_ (by first | omega | (simp; done) | (simp; omega)) _ | refine Below.alloc ?_ (by first | omega | (simp; done) | (simp; omega)) _ | apply Below.drew))
  have hz0 : w0.heap.size = w.heap.size + 2 := by rw [hw0]; simp
  have xR : BoxF w0 (w.heap.size + 1) (.int .i64 0) (.slice none 0 0) := by
    rw [hw0, show w.heap.size + 1 = (w.alloc (.cells #[.int .i64 m, .slice a n c] 26)).heap.size by simp]
    exact BoxF.new _ _ _ _
  have xA : BoxF w0 w.heap.size (.int .i64 m) (.slice a n c) := by
    rw [hw0]
    exact (BoxF.new w (.int .i64 m) (.slice a n c) 26).alloc _
  have Hx := Lib.hid hx; have HB := Lib.hid hB; have XR := Lib.hid xR; have XA := Lib.hid xA; have HW0 := Lib.hid hw0; have Hcap := Lib.hid hcap; have HA := Lib.hid hA; have Hl := Lib.hid hl
  have HP : Hid (HasP m (up l) s) := Lib.hid ⟨l, s, rfl, hA, rfl, hs, hf⟩
  clear hx hB xR xA hw0 h hcap hA hf
  have hz : ((m : Int) == 6) = false := by simp; omega
  have hy : ((s : Int) == 0) = false := by simp; omega
  -- the plain facts
  obtain ⟨V, hV⟩ : ∃ V, V = 2 ^ m := ⟨_, rfl⟩
  have hVi : (2 : Int) ^ m = (V : Int) := by rw [hV]; norm_cast
  have hV64 : V < 64 := by
    rw [hV]; exact Nat.lt_of_le_of_lt (Nat.pow_le_pow_right (n := 2) (by omega) hm) (by omega)
  have hFF := faceSet_Fam l
  have hfc := fun W hW => facesIn_any m a n c l W hW hl
  have hdl := fun W => deletionIn_any (faceSet l) s W hFF hs
  have hlk := fun W => linkIn_any (faceSet l) s W hFF hs
  have hBe : ord (lkF (faceSet l) s).testBit = ord (linkB l s) := ord_congr fun x hx => lkFace hs hx
  have hlF := lkFam (faceSet l) s
  have hdF := delFam (faceSet l) s
  have hdB : ∀ x, x < 64 → (delN (faceSet l) s).testBit x = delB (faceSet l) s x := fun x hx => delBit hx
  have hend : ∀ x, x < 64 → outB (faceSet l) (ord fun t => sub t s) (ord (linkB l s)) s V x = divFam l s (2 ^ m) x := fun x hx => by
    unfold outB divFam delB starB
    rw [faceSet_bit hx, hV]
  obtain ⟨F, hFe⟩ : ∃ F, F = faceSet l := ⟨_, rfl⟩
  rw [← hFe] at hFF hfc hdl hlk hBe hlF hdF hdB hend
  obtain ⟨G0, hG0⟩ : ∃ G, G = delN F s := ⟨_, rfl⟩
  rw [← hG0] at hdl hdF hdB
  obtain ⟨L, hL⟩ : ∃ L, L = lkF F s := ⟨_, rfl⟩
  rw [← hL] at hlk hBe hlF
  obtain ⟨B, hBd⟩ : ∃ B, B = ord (linkB l s) := ⟨_, rfl⟩
  rw [← hBd] at hBe hend
  obtain ⟨A, hAd⟩ : ∃ A, A = ord fun t => sub t s := ⟨_, rfl⟩
  rw [← hAd] at hend
  have HBl : Hid (B.length ≤ 64) := Lib.hid (by rw [hBd]; exact ord_len _)
  have HAl : Hid (A.length ≤ 64) := Lib.hid (by rw [hAd]; exact ord_len _)
  have HB64 : Hid (∀ x ∈ B, x < 64) := Lib.hid (by rw [hBd]; exact ord_lt)
  have HA64 : Hid (∀ x ∈ A, x < 64) := Lib.hid (by rw [hAd]; exact ord_lt)
  have Hset : Hid (∀ W, Calls Try.prog 90 #[.int .u64 L] W (RetInts W (up B))) := Lib.hid fun W => by rw [← hBe]; exact setsIn_any L W hlF
  have Hsub : Hid (∀ W, Calls Try.prog 64 #[.int .i64 s] W (RetInts W (up A))) := Lib.hid fun W => by rw [hAd]; exact iSub_any s W hs
  have Hfc := Lib.hid hfc; have Hdl := Lib.hid hdl; have Hlk := Lib.hid hlk
  have HG0 : Hid (G0 = fam (outB F A (B.take 0) s V)) := Lib.hid (fam_eq hdF fun x hx => by rw [hdB x hx]; unfold outB; simp)
  have Hend : Hid (maxL (fam (outB F A B s V)).testBit = maxL (divFam l s (2 ^ m))) := Lib.hid (maxL_congr fun x hx => by rw [fam_at hx, hend x hx])
  have hvm : IntKind.u64.wrap (m : Int) = (m : Int) := by rw [IntKind.wrap_u64]; omega
  have hwm : IntKind.i64.wrap ((m : Int) + 1) = (m : Int) + 1 := by rw [IntKind.wrap_i64]; omega
  have Hm := Lib.hid hm
  have HVi := Lib.hid hVi
  clear hFe hG0 hL hBd hAd hfc hdl hlk hBe hlF hdF hdB hend hV hl hl2 hsm hs0 hVi
  have hm8 : m < 8 := by omega
  have hm64 : min m 64 = m := by omega
  go_enter Try.func30, Try.ntmps30
  go_wp2_with fail
  rw [← HW0.out]
  refine (iIsComplex_any m a n c _ _ Hx.out Hcap.out true (by simp [HA.out])).mono ?_
  rintro e w1 ⟨rfl, hb⟩
  have HB1 := Lib.hid (HB.out.trans (hb.mono (by omega))); have XR1 := Lib.hid (XR.out.keep hb (by omega)); have XA1 := Lib.hid (XA.out.keep hb (by omega)); have Hx1 := Lib.hid (Hx.out.keep hb)
  have hz1 : w.heap.size + 2 ≤ w1.heap.size := by have := hb.size; omega
  clear hb
  obtain ⟨p0, p1, _, _, _⟩ := XA1.out
  go_wp2_with fail
  refine (iHas_any m a n c _ s _ Hx1.out Hcap.out true (by simp [HP.out])).mono ?_
  rintro e w2 ⟨rfl, hb⟩
  have HB2 := Lib.hid (HB1.out.trans (hb.mono (by omega))); have XR2 := Lib.hid (XR1.out.keep hb (by omega)); have XA2 := Lib.hid (XA1.out.keep hb (by omega)); have Hx2 := Lib.hid (Hx1.out.keep hb)
  have hz2 : w.heap.size + 2 ≤ w2.heap.size := by have := hb.size; omega
  clear hb p0 p1 hz hy
  obtain ⟨p0, p1, _, _, _⟩ := XA2.out
  go_wp2_with fail
  refine (Hfc.out _ Hx2.out).mono ?_
  rintro e w3 ⟨rfl, hb⟩
  have HB3 := Lib.hid (HB2.out.trans (hb.mono (by omega))); have XR3 := Lib.hid (XR2.out.keep hb (by omega)); have XA3 := Lib.hid (XA2.out.keep hb (by omega))
  have hz3 : w.heap.size + 2 ≤ w3.heap.size := by have := hb.size; omega
  clear hb p0 p1
  go_wp2_with fail
  refine (Hdl.out _).mono ?_
  rintro e w4 ⟨rfl, hb⟩
  have HB4 := Lib.hid (HB3.out.trans (hb.mono (by omega))); have XR4 := Lib.hid (XR3.out.keep hb (by omega)); have XA4 := Lib.hid (XA3.out.keep hb (by omega))
  have hz4 : w.heap.size + 2 ≤ w4.heap.size := by have := hb.size; omega
  clear hb
  go_wp2_with fail
  refine (Hlk.out _).mono ?_
  rintro e w5 ⟨rfl, hb⟩
  have HB5 := Lib.hid (HB4.out.trans (hb.mono (by omega))); have XR5 := Lib.hid (XR4.out.keep hb (by omega)); have XA5 := Lib.hid (XA4.out.keep hb (by omega))
  have hz5 : w.heap.size + 2 ≤ w5.heap.size := by have := hb.size; omega
  clear hb
  go_wp2_with fail
  refine (Hset.out _).mono ?_
  rintro e w6 ⟨ad, k, d, rfl, hown, hb⟩
  have HB6 := Lib.hid (HB5.out.trans (hb.mono (by omega))); have XR6 := Lib.hid (XR5.out.keep hb (by omega)); have XA6 := Lib.hid (XA5.out.keep hb (by omega))
  have hz6 : w.heap.size + 2 ≤ w6.heap.size := by have := hb.size; omega
  have hbl : B.length = k := by have := hown.len; rwa [up_len] at this
  have Hbl := Lib.hid hbl
  have HO6 := Lib.hid hown
  have hk64 : k ≤ 64 := by have := HBl.out; omega
  clear hb hown hbl
  have HcF : Hid (∀ W, Calls Try.prog 92 #[.int .i64 ((m : Int) + 1), .int .u64 ((fam (outB F A B s V) : Nat) : Int)] W (RetBox W ((m : Int) + 1) (up (maxL (divFam l s (2 ^ m)))))) := Lib.hid fun W => by rw [← Hend.out]; exact complexOf_any _ _ W (fam_Fam _)
  have hG0 := HG0.out
  have HfG : Hid (Fam G0) := Lib.hid (by rw [hG0]; exact fam_Fam _)
  clear hG0
  go_wp2_with fail
  rw [HVi.out]
  go_loopw [8, 10, 12, 46] (fun f _ _ i wr => ∃ I G : Nat, I ≤ k ∧ i = .int .i64 I ∧ f = .int .u64 G ∧ Fam G ∧ Hid (G = fam (outB F A (B.take I) s V)) ∧ Below w6.heap.size w6 wr) (fun _ _ _ i _ => k - (intOf i).toNat)
  case atStart => exact ⟨0, G0, Nat.zero_le _, rfl, rfl, HfG.out, HG0, Below.refl _ _⟩
  case round =>
    obtain ⟨wo, rfl⟩ : ∃ x : World, x = wr := ⟨_, rfl⟩
    obtain ⟨I, G, hI, rfl, rfl, hG, hGe, hbr⟩ := hrel
    have HBr := Lib.hid hbr; have HOr := Lib.hid (HO6.out.keep hbr)
    have hzr : w6.heap.size ≤ wo.heap.size := hbr.size
    clear hbr
    by_cases hlt : I < k
    · obtain ⟨b1, o1, rfl, hc⟩ := HOr.out.reads.cells (by omega)
      have hck := hc I hlt
      rw [nth_up] at hck
      have hb64 := HB64.out _ (nthN_mem (xs := B) (k := I) (by rw [Hbl.out]; omega))
      have hnext := fun x => outB_next (F := F) (A := A) (B := B) (s := s) (v := V) (I := I) (x := x) (by rw [Hbl.out]; omega)
      obtain ⟨q, hq⟩ : ∃ q, q = nthN B I := ⟨_, rfl⟩
      rw [← hq] at hck hb64 hnext
      have Hnext := Lib.hid hnext
      clear hc hq hnext
      have hI0 : (0 : Int) ≤ I := by omega
      have hIn : (I : Int) < k := by omega
      go_wp2_with fail
      refine (Hsub.out _).mono ?_
      rintro e w7 ⟨ad7, k7, c7, rfl, hown, hb⟩
      have HB7 : Hid (Below w6.heap.size w6 w7) := Lib.hid (HBr.out.trans (hb.mono hzr))
      have HO7 := Lib.hid hown
      have hal : A.length = k7 := by have := hown.len; rwa [up_len] at this
      have Hal := Lib.hid hal
      have hk7 : k7 ≤ 64 := by have := HAl.out; omega
      clear hb hown hal hck
      go_wp2_with fail
      go_loopw [8, 12, 53] (fun f _ j wr => ∃ J G : Nat, J ≤ k7 ∧ j = .int .i64 J ∧ f = .int .u64 G ∧ Fam G ∧ Hid (G = fam fun x => outB F A (B.take I) s V x || starB (A.take J) s V q x) ∧ Below w7.heap.size w7 wr) (fun _ _ j _ => k7 - (intOf j).toNat)
      case atStart => exact ⟨0, G, Nat.zero_le _, rfl, rfl, hG, Lib.hid (by rw [hGe.out]; exact fam_congr fun x _ => by unfold starB; simp), Below.refl _ _⟩
      case round =>
        obtain ⟨J, G2, hJ, rfl, rfl, hG2, hGe2, hbi⟩ := hrel
        have HBi := Lib.hid hbi; have HOi := Lib.hid (HO7.out.keep hbi)
        clear hbi
        by_cases hjt : J < k7
        · obtain ⟨b2, o2, rfl, hc⟩ := HOi.out.reads.cells (by omega)
          have hck := hc J hjt
          rw [nth_up] at hck
          have hx64 := HA64.out _ (nthN_mem (xs := A) (k := J) (by rw [Hal.out]; omega))
          have hyes := fun x => starB_yes (A := A) (s := s) (v := V) (b := q) (J := J) (x := x) (by rw [Hal.out]; omega)
          have hno := fun x => starB_no (A := A) (s := s) (v := V) (b := q) (J := J) (x := x) (by rw [Hal.out]; omega)
          obtain ⟨u, hu⟩ : ∃ u, u = nthN A J := ⟨_, rfl⟩
          rw [← hu] at hck hx64 hyes hno
          have Hyes := Lib.hid hyes; have Hno := Lib.hid hno
          clear hc hu hyes hno
          have hJ0 : (0 : Int) ≤ J := by omega
          have hJn : (J : Int) < k7 := by omega
          by_cases hus : u = s
          · have hne : ((u : Int) != (s : Int)) = false := by rw [castBne]; simp [hus]
            have Hus := Lib.hid hus; clear hus
            go_wp2_with fail
            go_roundw
            case rel => exact ⟨J + 1, G2, by omega, by go_num, rfl, hG2, Lib.hid (by rw [hGe2.out]; exact fam_congr fun x _ => by rw [Hno.out x Hus.out]), HBi.out⟩
            case measure => simp [intOf]; omega
          · have hne : ((u : Int) != (s : Int)) = true := by rw [castBne]; simp [hus]
            have Hus := Lib.hid hus; clear hus
            have hor1 := w_or V u hV64 hx64
            have hvu := or_lt64 hV64 hx64
            have hor2 := w_or (V ||| u) q hvu hb64
            have hy64 := or_lt64 hvu hb64
            obtain ⟨y, hy⟩ : ∃ y, y = V ||| u ||| q := ⟨_, rfl⟩
            rw [← hy] at hor2 hy64
            have Hy := Lib.hid hy
            clear hy
            have hwy : IntKind.u64.wrap (y : Int) = (y : Int) := by rw [IntKind.wrap_u64]; omega
            have hmy : min y 64 = y := by omega
            go_wp2_with fail
            go_roundw
            case rel => exact ⟨J + 1, G2 ||| 2 ^ y, by omega, by go_num, by go_num, hG2.or (Fam.bit hy64), Lib.hid (by rw [hGe2.out, fam_or_bit _ hy64]; exact fam_congr fun x _ => by rw [Hyes.out x Hus.out, Hy.out, Bool.or_assoc]), HBi.out⟩
            case measure => simp [intOf]; omega
        · obtain rfl : J = k7 := by omega
          have hjj : ¬ ((J : Int) < J) := by omega
          have hGf : Hid (G2 = fam (outB F A (B.take (I + 1)) s V)) := Lib.hid (by
            rw [hGe2.out]
            exact fam_congr fun x _ => by rw [Hnext.out x, ← Hal.out, List.take_length])
          have HBz : Hid (Below w6.heap.size w6 wr) := Lib.hid (HB7.out.trans (HBi.out.mono HB7.out.size))
          go_wp2_with fail
          go_roundw
          case rel => exact ⟨I + 1, G2, by omega, by go_num, rfl, hG2, hGf, HBz.out⟩
          case measure => simp [intOf]; omega
    · obtain rfl : I = k := by omega
      have hii : ¬ ((I : Int) < I) := by omega
      have hGf : Hid (G = fam (outB F A B s V)) := Lib.hid (by rw [hGe.out, ← Hbl.out, List.take_length])
      have HcG : Hid (∀ W, Calls Try.prog 92 #[.int .i64 ((m : Int) + 1), .int .u64 (G : Int)] W (RetBox W ((m : Int) + 1) (up (maxL (divFam l s (2 ^ m)))))) := Lib.hid (by rw [hGf.out]; exact HcF.out)
      have XRr := Lib.hid (XR6.out.keep HBr.out (by omega))
      obtain ⟨p0, p1, _, _, _⟩ := XA6.out.keep HBr.out (by omega)
      have HBf : Hid (Below w.heap.size w wo) := Lib.hid (HB6.out.trans (HBr.out.mono (by omega)))
      go_wp2_with fail
      refine (HcG.out _).mono ?_
      rintro e w8 ⟨ad8, d8, r8, rfl, hown, hb8⟩
      have XR8 := Lib.hid (XRr.out.keep hb8 (by omega))
      have HO8 := Lib.hid hown; have HB8 := Lib.hid (HBf.out.trans (hb8.mono HBf.out.size))
      obtain ⟨r0, r1, _, _, _⟩ := XR8.out
      clear hown hb8
      go_wp2_with fail
      refine bodyPost_ret (v := .tuple #[.agg #[.int .i64 ((m : Int) + 1), .slice ad8 d8 r8], .bool true]) (by simp [results, Try.results30, go_sem, r0, r1]) rfl ⟨ad8, d8, r8, rfl, ?_, ?_⟩
      · exact ((HO8.out.setBelow _ (by omega)).setBelow _ (by omega)).mono (by omega)
      · exact (HB8.out.setCell (by first | (simp; done) | (simp; omega)) _).setCell (by first | (simp; done) | (simp; omega)) _
end Go.Proofs.Ytbdnlncpamandaa

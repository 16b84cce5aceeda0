/- Contracts of HasFace and of SubdivideAt, the program's and the reference's. -/
import Derived.Test.YtbdnlncpamandaaFlipAt
namespace Go.Proofs.Ytbdnlncpamandaa
set_option maxRecDepth 20000
open Go.RowKit
set_option linter.unusedSimpArgs false
set_option linter.unusedVariables false

/-- append of two numbers to a row of the call's own -/
theorem ap_two {ops : Array Oper} {rest : List Oper} {o : Oper} {a : Act} {Q : Exit → Act → World → Prop} {w0 : World} (hgd : o.guard = none) (s x : Operand)
    (ho : o.op = .call { callee := .builtin .append, args := #[s, x], argTypes := #[24, 24] })
    (B : Nat) (ad : Option Addr) (n c : Nat) (xs : List Int) (y1 y2 : Int) (hs : a.eval s = .slice ad n c) (hown : Own 3 w0 B ad n c xs)
    (hx : a.eval x = .slice (some ⟨w0.heap.size, 0, none⟩) 2 2) (hn : n < 1099511627776) (hB : B ≤ w0.heap.size)
    (h : ∀ ad' c' w', Own 3 w' B ad' (n + 2) c' (xs ++ [y1, y2]) → Below B w0 w' → wpList Try.prog ops Q rest (a.put o.dst (.slice ad' (n + 2 : Nat) c')) w') :
    wpList Try.prog ops Q (o :: rest) a (w0.alloc (.cells #[.int .i64 y1, .int .i64 y2] 3)) := by
  obtain ⟨i0, hi, hz0, hz1, hz2⟩ := info_parts infoInt
  refine wpList_append_own _ hgd s x 24 ho B 3 i0 (.int .i64 0) 1 8 Try.underlying24 hi hz0 hz1 hz2 rfl (by decide) _ n _ hs (hown.row.alloc _) ⟨w0.heap.size, 0, none⟩ 2 2 [.int .i64 y1, .int .i64 y2] hx rfl ?_ ?_ ?_ ?_ ?_ ?_
  · intro j u hj
    match j, hj with
    | 0, hj => simp at hj; subst hj; simp [Addr.add]
    | 1, hj => simp at hj; subst hj; simp [Addr.add]
  · intro u hu
    simp at hu
    rcases hu with rfl | rfl <;> rfl
  · unfold maxLen; omega
  · omega
  · simp; omega
  · intro v' w' hown' hgrow _
    have hl := hown.lt
    have hg0 : w0.grownBy w' (Value.slice ad n c).ownBlock :=
      ⟨hgrow.os, hgrow.tape, hgrow.output, by have := hgrow.size; simp at this; omega, fun k hk hne => (hgrow.block k (by simp; omega) hne).trans (Below.heap_alloc _ _ _ hk)⟩
    have hb : Below B w0 w' := (Below.refl B w0).grown hg0 hB (fun k hk => (hl k hk).1)
    have hv : ∃ ad' c', v' = .slice ad' (n + 2) c' := by
      rcases hown'.2 with ⟨_, h0⟩ | ⟨g, cap, cur, hv, _⟩
      · omega
      · exact ⟨_, _, hv⟩
    obtain ⟨ad', c', rfl⟩ := hv
    exact h ad' c' w' ⟨by rw [List.length_map, List.length_append, hown.len]; rfl, by unfold Own at *; rw [List.map_append]; exact hown'⟩ hb

/-- a face of a complex -/
def HasP (p : Int) (xs : List Int) (s : Int) : Prop := ∃ (l : List Nat) (u : Nat), xs = up l ∧ Anti p (up l) ∧ s = u ∧ u < 64 ∧ isFace l u = true
theorem HasP.anti {p : Int} {xs : List Int} {s : Int} (h : HasP p xs s) : Anti p xs := by obtain ⟨l, u, rfl, h, _⟩ := h; exact h
theorem HasP.iff {p : Int} {l : List Nat} {u : Nat} (hA : Anti p (up l)) (hu : u < 64) : HasP p (up l) u ↔ isFace l u = true := by
  constructor
  · rintro ⟨l', u', h1, _, h2, _, h⟩
    have := up_inj h1; subst this
    obtain rfl : u = u' := by omega
    exact h
  · intro h; exact ⟨l, u, rfl, hA, rfl, hu, h⟩
theorem isFace_lt {l : List Nat} {N s : Nat} (h : isFace l s = true) (hl : ∀ t ∈ l, t < N) : s < N := by
  obtain ⟨f, hf, hs⟩ := isFace_iff.1 h
  exact sub_lt hs (hl f hf)

theorem iHas_any (p : Int) (a : Option Addr) (n c : Nat) (xs : List Int) (s : Int) (w : World) (h : IntsAt w a n xs) (hcap : n ≤ c) (b : Bool) (hb : b = true ↔ HasP p xs s) :
    Calls Try.prog 87 #[.agg #[.int .i64 p, .slice a n c], .int .i64 s] w fun e w' => e = .returned (.bool b) ∧ Below w.heap.size w w' := by
  have hx : IntsAt (w.alloc (.cells #[.int .i64 p, .slice a n c] 26)) a n xs := h.keep (by repeat (first | exact Below.refl _ _ | assumption | refine Below.setCell ?_ (by first | omega | (simp; done) | (simp; omega)) _ | refine Below.alloc ?_ (by first | omega | (simp; done) | (simp; omega)) _ | apply Below.drew))
  have Hx := Lib.hid hx; have Hcap := Lib.hid hcap; have Hb := Lib.hid hb
  have XA := Lib.hid (BoxF.new w (.int .i64 p) (.slice a n c) 26)
  clear hx h hcap hb
  by_cases hA : Anti p xs
  · have HA := Lib.hid hA
    obtain ⟨l, hxl, hl2, _, _⟩ := hA.nat
    have HL : Hid (∀ t ∈ l, t < 64) := Lib.hid fun t ht => (hl2 t ht).2
    obtain ⟨d, hd⟩ : ∃ d, isSetB p s = d := ⟨_, rfl⟩
    have Hd := Lib.hid hd
    have Hl2 := Lib.hid hl2
    have Hxl := Lib.hid hxl
    clear hA hd hl2 hxl
    go_enter Try.func87, Try.ntmps87
    go_wp2_with fail
    refine (iIsComplex_any p a n c xs _ Hx.out Hcap.out true (by simp [HA.out])).mono ?_
    rintro e w1 ⟨rfl, hb1⟩
    have HB : Hid (Below w.heap.size w w1) := Lib.hid (Below.trans (by repeat (first | exact Below.refl _ _ | assumption | refine Below.setCell ?_ (by first | omega | (simp; done) | (simp; omega)) _ | refine Below.alloc ?_ (by first | omega | (simp; done) | (simp; omega)) _ | apply Below.drew)) (hb1.mono (by simp <;> omega)))
    have Hx1 := Lib.hid (Hx.out.keep hb1)
    obtain ⟨p0, p1, _, _, _⟩ := XA.out.keep hb1 (by simp)
    clear hb1
    cases d
    · have hbf : b = false := by
        cases b
        · rfl
        · obtain ⟨l', u, h1, _, rfl, hu, hf⟩ := Hb.out.1 rfl
          rw [Hxl.out] at h1
          have := up_inj h1; subst this
          have hlt := isFace_lt hf fun t ht => (Hl2.out t ht).1
          have h1 := HA.out.1; have h2 := HA.out.2.1
          obtain ⟨m, rfl⟩ := Int.eq_ofNat_of_zero_le (show 0 ≤ p by omega)
          have : isSetB m u = true := isSet_iff.2 ⟨by omega, u, rfl, by simpa using hlt⟩
          have h3 := Hd.out
          rw [this] at h3; cases h3
      subst hbf
      go_wp2_with (go_at_call 112; (with_reducible refine (IsSet_is p s false _ Hd.out).mono ?_); rintro e w' ⟨rfl, rfl⟩)
      go_ret
      exact ⟨rfl, HB.out⟩
    · obtain ⟨u, rfl, hu⟩ : ∃ u : Nat, s = u ∧ u < 64 := by
        obtain ⟨_, u, _, h, _, _, hu⟩ := isSet_nat Hd.out
        exact ⟨u, h, hu⟩
      have hbf : b = (faceSet l).testBit u := by
        rw [faceSet_bit hu, Bool.eq_iff_iff, Hb.out, Hxl.out]
        exact HasP.iff (by rw [← Hxl.out]; exact HA.out) hu
      have Hbf := Lib.hid hbf
      have Hx2 : Hid (IntsAt w1 a n (up l)) := Lib.hid (by rw [← Hxl.out]; exact Hx1.out)
      clear hbf
      go_wp2_with (go_at_call 112; (with_reducible refine (IsSet_is p u true _ Hd.out).mono ?_); rintro e w' ⟨rfl, rfl⟩)
      refine (facesIn_any p a n c l _ Hx2.out HL.out).mono ?_
      rintro e w2 ⟨rfl, hb2⟩
      have HB2 := Lib.hid (HB.out.trans (hb2.mono HB.out.size))
      clear hb2
      go_wp2_with (go_at_call 108; (with_reducible refine (hasSet_any (faceSet l) u _ (faceSet_Fam l) hu).mono ?_); rintro e w' ⟨rfl, rfl⟩)
      go_ret
      exact ⟨ret_bool Hbf.out.symm, HB2.out⟩
  · have Hno := Lib.hid hA
    have hbf : b = false := by
      cases b
      · rfl
      · exact absurd (Hb.out.1 rfl).anti hA
    subst hbf
    clear hA
    go_enter Try.func87, Try.ntmps87
    go_wp2_with fail
    refine (iIsComplex_any p a n c xs _ Hx.out Hcap.out false (by simp [Hno.out])).mono ?_
    rintro e w1 ⟨rfl, hb1⟩
    have HB : Hid (Below w.heap.size w w1) := Lib.hid (Below.trans (by repeat (first | exact Below.refl _ _ | assumption | refine Below.setCell ?_ (by first | omega | (simp; done) | (simp; omega)) _ | refine Below.alloc ?_ (by first | omega | (simp; done) | (simp; omega)) _ | apply Below.drew)) (hb1.mono (by simp <;> omega)))
    clear hb1
    go_wp2_with fail
    go_ret
    exact ⟨rfl, HB.out⟩
theorem sHas_any (p : Int) (a : Option Addr) (n c : Nat) (xs : List Int) (s : Int) (w : World) (h : IntsAt w a n xs) (b : Bool) (hb : b = true ↔ HasP p xs s) :
    Calls Try.prog 93 #[.agg #[.int .i64 p, .slice a n c], .int .i64 s] w fun e w' => e = .returned (.bool b) ∧ Below w.heap.size w w' := by
  have hx : IntsAt (w.alloc (.cells #[.int .i64 p, .slice a n c] 26)) a n xs := h.keep (by repeat (first | exact Below.refl _ _ | assumption | refine Below.setCell ?_ (by first | omega | (simp; done) | (simp; omega)) _ | refine Below.alloc ?_ (by first | omega | (simp; done) | (simp; omega)) _ | apply Below.drew))
  have Hx := Lib.hid hx; have Hb := Lib.hid hb
  have XA := Lib.hid (BoxF.new w (.int .i64 p) (.slice a n c) 26)
  clear hx h hb
  by_cases hA : Anti p xs
  · have HA := Lib.hid hA
    obtain ⟨l, hxl, hl2, _, _⟩ := hA.nat
    have HL : Hid (∀ t ∈ l, t < 64) := Lib.hid fun t ht => (hl2 t ht).2
    have Hxl := Lib.hid hxl
    clear hA hl2 hxl
    go_enter Try.func93, Try.ntmps93
    go_wp2_with fail
    refine (sIsComplex_any p a n c xs _ Hx.out true (by simp [HA.out])).mono ?_
    rintro e w1 ⟨rfl, hb1⟩
    have HB : Hid (Below w.heap.size w w1) := Lib.hid (Below.trans (by repeat (first | exact Below.refl _ _ | assumption | refine Below.setCell ?_ (by first | omega | (simp; done) | (simp; omega)) _ | refine Below.alloc ?_ (by first | omega | (simp; done) | (simp; omega)) _ | apply Below.drew)) (hb1.mono (by simp <;> omega)))
    have Hx1 := Lib.hid (Hx.out.keep hb1)
    obtain ⟨p0, p1, _, _, _⟩ := XA.out.keep hb1 (by simp)
    clear hb1
    by_cases hs : 0 ≤ s ∧ s ≤ 63
    · obtain ⟨u, rfl⟩ := Int.eq_ofNat_of_zero_le hs.1
      have hu : u < 64 := by omega
      have hbf : isFace l u = b := by
        rw [Bool.eq_iff_iff, Hb.out, Hxl.out]
        exact (HasP.iff (by rw [← Hxl.out]; exact HA.out) hu).symm
      have Hbf := Lib.hid hbf
      have Hx2 : Hid (IntsAt w1 a n (up l)) := Lib.hid (by rw [← Hxl.out]; exact Hx1.out)
      clear hbf hs
      go_wp2_with (go_at_call 72; (with_reducible refine (l1In_set u _ hu).mono ?_); rintro e w' ⟨rfl, rfl⟩)
      refine (l3Has_any p u a n c l _ Hx2.out hu HL.out b Hbf.out).mono ?_
      rintro e w2 ⟨rfl, hb2⟩
      have HB2 := Lib.hid (HB.out.trans (hb2.mono HB.out.size))
      clear hb2
      go_wp2_with fail
      go_ret
      exact ⟨ret_bool (by simp), HB2.out⟩
    · have hbf : b = false := by
        cases b
        · rfl
        · obtain ⟨_, u, _, _, rfl, hu, _⟩ := Hb.out.1 rfl
          exact absurd ⟨by omega, by omega⟩ hs
      subst hbf
      have Hs := Lib.hid hs; clear hs
      go_wp2_with (go_at_call 72; (with_reducible refine (l1In_no s 0 63 _ Hs.out).mono ?_); rintro e w' ⟨rfl, rfl⟩)
      go_ret
      exact ⟨rfl, HB.out⟩
  · have Hno := Lib.hid hA
    have hbf : b = false := by
      cases b
      · rfl
      · exact absurd (Hb.out.1 rfl).anti hA
    subst hbf
    clear hA
    go_enter Try.func93, Try.ntmps93
    go_wp2_with fail
    refine (sIsComplex_any p a n c xs _ Hx.out false (by simp [Hno.out])).mono ?_
    rintro e w1 ⟨rfl, hb1⟩
    have HB : Hid (Below w.heap.size w w1) := Lib.hid (Below.trans (by repeat (first | exact Below.refl _ _ | assumption | refine Below.setCell ?_ (by first | omega | (simp; done) | (simp; omega)) _ | refine Below.alloc ?_ (by first | omega | (simp; done) | (simp; omega)) _ | apply Below.drew)) (hb1.mono (by simp <;> omega)))
    clear hb1
    go_wp2_with fail
    go_ret
    exact ⟨rfl, HB.out⟩
theorem iSub_any (s : Nat) (w : World) (hs : s < 64) : Calls Try.prog 64 #[.int .i64 s] w (RetInts w (up (ord fun t => sub t s))) := by
  have hF := fam_Fam fun t => sub t s
  have HE : Hid (ord (fam fun t => sub t s).testBit = ord fun t => sub t s) := Lib.hid (ord_congr fun t ht => fam_at ht)
  go_enter Try.func64, Try.ntmps64
  go_wp2_with (first | (go_at_call 112; (with_reducible refine (IsSet6 s _ hs).mono ?_); rintro e w' ⟨rfl, rfl⟩) | (go_at_call 115; (with_reducible refine (subsetFamily_any s _ hs).mono ?_); rintro e w' ⟨rfl, rfl⟩))
  refine (setsIn_any _ _ hF).mono ?_
  rw [HE.out]
  rintro e w1 ⟨ad, k, d, rfl, hown, hb⟩
  have HO := Lib.hid hown; have HB := Lib.hid hb
  clear hown hb
  go_wp2_with fail
  go_ret
  exact ⟨ad, k, d, rfl, HO.out, HB.out⟩
end Go.Proofs.Ytbdnlncpamandaa

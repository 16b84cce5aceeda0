/- Contracts of FlipsOf, the program's and the reference's. -/
import Derived.Test.YtnapicpeccjkoaaRows3
import Derived.Test.YtnapicpeccjkoaaFlipS2
namespace Go.Proofs.Ytnapicpeccjkoaa
open Go.RowKit
set_option linter.unusedSimpArgs false
set_option linter.unusedVariables false

theorem Own2.up {w : World} {B U U' : Nat} {a : Option Addr} {n c : Nat} {L : List (List Int)} (h : Own2 w B U a n c L) (hU : U ≤ U') : Own2 w B U' a n c L := by
  obtain ⟨f, h⟩ := h
  exact ⟨f, h.up hU⟩
/-- the flip (s, t) may be made -/
def okF (p : Int) (l : List Nat) (s t : Nat) : Bool := pureB l && (isSetB p s && (isSetB p t && flipB l s t))
theorem okIff {p : Int} {l : List Nat} {s t : Nat} : okF p l s t = true ↔ pureB l = true ∧ FlipQ p l s t := by
  unfold okF
  rw [Bool.and_eq_true, Bool.and_eq_true, Bool.and_eq_true]
  constructor
  · rintro ⟨h, h1, h2, h3⟩; exact ⟨h, s, t, rfl, rfl, h1, h2, h3⟩
  · rintro ⟨h, u, v, hu, hv, h1, h2, h3⟩
    obtain rfl : s = u := by omega
    obtain rfl : t = v := by omega
    exact ⟨h, h1, h2, h3⟩
/-- the pairs (s, t) with t below T that pass -/
def rowT (ok : Nat → Nat → Bool) (s T : Nat) : List (List Int) := ((List.range T).filter (ok s)).map fun t : Nat => [(s : Int), (t : Int)]
def allS (ok : Nat → Nat → Bool) (S : Nat) : List (List Int) := (List.range S).flatMap fun s => rowT ok s 64
theorem rowYes {ok : Nat → Nat → Bool} {s T : Nat} (h : ok s T = true) : rowT ok s (T + 1) = rowT ok s T ++ [[(s : Int), (T : Int)]] := by
  unfold rowT; rw [List.range_succ, List.filter_append, List.map_append]; simp [h]
theorem rowNo {ok : Nat → Nat → Bool} {s T : Nat} (h : ok s T = false) : rowT ok s (T + 1) = rowT ok s T := by
  unfold rowT; rw [List.range_succ, List.filter_append, List.map_append]; simp [h]
theorem rowZero (ok : Nat → Nat → Bool) (s : Nat) : rowT ok s 0 = [] := rfl
theorem allS_next (ok : Nat → Nat → Bool) (S : Nat) : allS ok (S + 1) = allS ok S ++ rowT ok S 64 := by
  unfold allS; rw [List.range_succ, List.flatMap_append]; simp
theorem rowNone {ok : Nat → Nat → Bool} {s : Nat} (h : ∀ t, ok s t = false) : ∀ T, rowT ok s T = [] := by
  intro T
  induction T with
  | zero => rfl
  | succ T ih => rw [rowNo (h T), ih]
theorem rowStay {ok : Nat → Nat → Bool} {s N : Nat} (h : ∀ t, N ≤ t → ok s t = false) : ∀ d, rowT ok s (N + d) = rowT ok s N := by
  intro d
  induction d with
  | zero => rfl
  | succ d ih => rw [← Nat.add_assoc, rowNo (h _ (by omega)), ih]
theorem allS_stay {ok : Nat → Nat → Bool} {N : Nat} (h : ∀ s, N ≤ s → ∀ t, ok s t = false) : ∀ d, allS ok (N + d) = allS ok N := by
  intro d
  induction d with
  | zero => rfl
  | succ d ih => rw [← Nat.add_assoc, allS_next, rowNone (h _ (by omega)), List.append_nil, ih]
theorem allS_none {ok : Nat → Nat → Bool} (h : ∀ s t, ok s t = false) (S : Nat) : allS ok S = [] := by
  have := allS_stay (N := 0) (fun s _ => h s) S
  rwa [Nat.zero_add] at this
theorem rowLen (ok : Nat → Nat → Bool) (s T : Nat) : (rowT ok s T).length ≤ T := by
  unfold rowT; rw [List.length_map]; exact Nat.le_trans (List.length_filter_le _ _) (by simp)
theorem allS_len (ok : Nat → Nat → Bool) : ∀ S, (allS ok S).length ≤ S * 64 := by
  intro S
  induction S with
  | zero => simp [allS]
  | succ S ih => rw [allS_next, List.length_append, Nat.succ_mul]; have := rowLen ok S 64; omega
theorem allS_two {ok : Nat → Nat → Bool} {S : Nat} : ∀ x ∈ allS ok S, x.length ≤ 2 := fun x hx => by
  obtain ⟨s, _, hx⟩ := List.mem_flatMap.1 hx
  obtain ⟨t, _, rfl⟩ := List.mem_map.1 hx
  exact Nat.le_refl _
theorem isSetB_top {m : Nat} {s : Nat} (h : 2 ^ m ≤ s) : isSetB m s = false := by
  cases hb : isSetB m s
  · rfl
  · obtain ⟨_, t, ht, hlt⟩ := isSet_iff.1 hb
    omega
theorem okPos {p : Int} {l : List Nat} {s t : Nat} (h : okF p l s t = true) : s ≠ 0 ∧ t ≠ 0 ∧ isFace l s = true := by
  obtain ⟨_, u, v, hu, hv, _, _, h3⟩ := okIff.1 h
  obtain rfl : s = u := by omega
  obtain rfl : t = v := by omega
  unfold flipB at h3
  simp only [Bool.and_eq_true, bne_iff_ne] at h3
  exact ⟨h3.1.1.1.1.1, h3.1.1.1.1.2, h3.1.1.2⟩
theorem okNot {p : Int} {l : List Nat} {s t : Nat} (h : ¬ (s ≠ 0 ∧ t ≠ 0 ∧ isFace l s = true)) : okF p l s t = false := by
  cases hb : okF p l s t
  · rfl
  · exact absurd (okPos hb) h

theorem iFlipsOf_stop (p : Int) (a : Option Addr) (n c : Nat) (xs : List Int) (w : World) (h : IntsAt w a n xs) (hP : ∀ W, IntsAt W a n xs → Calls Try.prog 61 #[.agg #[.int .i64 p, .slice a n c]] W fun e w' => e = .returned (.bool false) ∧ Below W.heap.size W w') :
    Calls Try.prog 39 #[.agg #[.int .i64 p, .slice a n c]] w (RetInts2 w []) := by
  have hx : IntsAt (w.alloc (.cells #[.int .i64 p, .slice a n c] 27)) a n xs := h.keep (by repeat (first | exact Below.refl _ _ | assumption | refine Below.setCell ?_ (by first | omega | (simp; done) | (simp; omega)) _ | refine Below.alloc ?_ (by first | omega | (simp; done) | (simp; omega)) _ | apply Below.drew))
  have Hx := Lib.hid hx; have HP := Lib.hid hP
  clear hx h hP
  go_enter Try.func39, Try.ntmps39
  go_wp2_with fail
  refine (HP.out _ Hx.out).mono ?_
  rintro e w1 ⟨rfl, hb⟩
  have HB : Hid (Below w.heap.size w w1) := Lib.hid (Below.trans (by repeat (first | exact Below.refl _ _ | assumption | refine Below.setCell ?_ (by first | omega | (simp; done) | (simp; omega)) _ | refine Below.alloc ?_ (by first | omega | (simp; done) | (simp; omega)) _ | apply Below.drew)) (hb.mono (by simp <;> omega)))
  clear hb
  go_wp2_with fail
  go_ret
  exact ⟨none, 0, 0, rfl, ⟨_, O2.nil _ _ _⟩, HB.out⟩
set_option maxRecDepth 100000 in
set_option maxHeartbeats 1000000 in
theorem iFlipsOf_yes (m : Nat) (a : Option Addr) (n c : Nat) (l : List Nat) (w : World) (h : IntsAt w a n (up l)) (hcap : n ≤ c) (hm : m ≤ 6) (hA : Anti m (up l)) (hl : ∀ t ∈ l, t < 64) (hp : pureB l = true) :
    Calls Try.prog 39 #[.agg #[.int .i64 m, .slice a n c]] w (RetInts2 w (allS (okF m l) 64)) := by
  have hx : IntsAt (w.alloc (.cells #[.int .i64 m, .slice a n c] 27)) a n (up l) := h.keep (by repeat (first | exact Below.refl _ _ | assumption | refine Below.setCell ?_ (by first | omega | (simp; done) | (simp; omega)) _ | refine Below.alloc ?_ (by first | omega | (simp; done) | (simp; omega)) _ | apply Below.drew))
  have Hx := Lib.hid hx; have Hcap := Lib.hid hcap; have HA := Lib.hid hA; have Hl := Lib.hid hl; have Hp := Lib.hid hp
  have XA := Lib.hid (BoxF.new w (.int .i64 m) (.slice a n c) 27)
  clear hx h hcap hA hl hp
  obtain ⟨N, hN⟩ : ∃ N, N = 2 ^ m := ⟨_, rfl⟩
  have hN64 : N ≤ 64 := by rw [hN]; exact pow_le64 hm
  have hNe : (2 : Int) ^ m = (N : Int) := by rw [hN]; norm_cast
  have HN := Lib.hid hN; have HNe := Lib.hid hNe
  have hm8 : m < 8 := by omega
  have hm64 : min m 64 = m := by omega
  have hvm : IntKind.u64.wrap (m : Int) = (m : Int) := by rw [IntKind.wrap_u64]; omega
  have Hrow : Hid (∀ s, rowT (okF m l) s N = rowT (okF m l) s 64) := Lib.hid fun s => by
    have := rowStay (ok := okF m l) (s := s) (N := N) (fun t ht => by unfold okF; rw [isSetB_top (by omega : 2 ^ m ≤ t)]; simp) (64 - N)
    rw [show N + (64 - N) = 64 by omega] at this
    exact this.symm
  have Hall : Hid (allS (okF m l) 64 = allS (okF m l) N) := Lib.hid (by
    have := allS_stay (ok := okF m l) (N := N) (fun s hs t => by unfold okF; rw [isSetB_top (by omega : 2 ^ m ≤ s)]; simp) (64 - N)
    rwa [show N + (64 - N) = 64 by omega] at this)
  have hFF := faceSet_Fam l
  have Hbit : Hid (∀ s, s < 64 → (faceSet l).testBit s = isFace l s) := Lib.hid fun s hs => faceSet_bit hs
  have Hfl : Hid (∀ (s t : Nat) W, Calls Try.prog 62 #[.int .i64 m, .int .u64 (faceSet l), .int .i64 s, .int .i64 t] W fun e w' => e = .returned (.bool (okF m l s t)) ∧ Below W.heap.size W w') := Lib.hid fun s t W => flips_all m l s t W _ (by rw [okIff]; simp [Hp.out])
  have Hfc : Hid (∀ W, IntsAt W a n (up l) → Calls Try.prog 63 #[.agg #[.int .i64 m, .slice a n c]] W fun e w' => e = .returned (.int .u64 (faceSet l)) ∧ Below W.heap.size W w') := Lib.hid fun W hW => facesIn_any m a n c l W hW Hl.out
  obtain ⟨F, hFe⟩ : ∃ F, F = faceSet l := ⟨_, rfl⟩
  rw [← hFe] at hFF Hbit Hfl Hfc
  clear hN hNe hFe
  go_enter Try.func39, Try.ntmps39
  go_wp2_with fail
  refine (iPure_yes m a n c l _ Hx.out Hcap.out HA.out Hl.out true Hp.out).mono ?_
  rintro e w1 ⟨rfl, hb⟩
  have HB1 : Hid (Below w.heap.size w w1) := Lib.hid (Below.trans (by repeat (first | exact Below.refl _ _ | assumption | refine Below.setCell ?_ (by first | omega | (simp; done) | (simp; omega)) _ | refine Below.alloc ?_ (by first | omega | (simp; done) | (simp; omega)) _ | apply Below.drew)) (hb.mono (by simp <;> omega)))
  have XA1 := Lib.hid (XA.out.keep hb (by simp)); have Hx1 := Lib.hid (Hx.out.keep hb)
  have hz1 : w.heap.size + 1 ≤ w1.heap.size := by have := hb.size; simp at this; omega
  clear hb
  obtain ⟨p0, p1, _, _, _⟩ := XA1.out
  go_wp2_with fail
  refine (Hfc.out _ Hx1.out).mono ?_
  rintro e w2 ⟨rfl, hb⟩
  have HB2 := Lib.hid (HB1.out.trans (hb.mono HB1.out.size)); have XA2 := Lib.hid (XA1.out.keep hb (by omega))
  have hz2 : w.heap.size + 1 ≤ w2.heap.size := by have := hb.size; omega
  clear hb p0 p1
  go_wp2_with fail
  go_loopw [4, 5, 6] (fun o i _ wr => ∃ S : Nat, S ≤ N ∧ i = .int .i64 S ∧ Below w2.heap.size w2 wr ∧ ∃ ad k d, o = .slice ad k d ∧ Own2 wr w2.heap.size wr.heap.size ad k d (allS (okF m l) S)) (fun _ i _ _ => N - (intOf i).toNat)
  case atStart => exact ⟨0, Nat.zero_le _, rfl, Below.refl _ _, none, 0, 0, rfl, ⟨_, O2.nil _ _ _⟩⟩
  case round =>
    obtain ⟨wo, rfl⟩ : ∃ x : World, x = wr := ⟨_, rfl⟩
    obtain ⟨S, hS, rfl, hbr, ad, k, d, rfl, hown⟩ := hrel
    have HBr := Lib.hid hbr; have HO := Lib.hid hown
    have XAr := Lib.hid (XA2.out.keep hbr (by omega))
    have hzr : w2.heap.size ≤ wo.heap.size := hbr.size
    clear hbr hown
    obtain ⟨p0, p1, _, _, _⟩ := XAr.out
    by_cases hlt : S < N
    · have hlt' : (S : Int) < 2 ^ m := by rw [HNe.out]; omega
      have hS64 : S < 64 := by omega
      obtain ⟨x, hx⟩ : ∃ x, x = F.testBit S := ⟨_, rfl⟩
      have HX : Hid (∀ W, Calls Try.prog 84 #[.int .u64 F, .int .i64 S] W fun e w' => e = .returned (.bool x) ∧ W = w') := Lib.hid (fun W => by rw [hx]; exact hasSet_any F S W hFF hS64)
      have Hxe : Hid (x = isFace l S) := Lib.hid (by rw [hx, Hbit.out S hS64])
      have Hnext := Lib.hid (allS_next (okF m l) S)
      clear hx
      cases x
      · have Hn : Hid (rowT (okF m l) S 64 = []) := Lib.hid (rowNone (fun t => okNot fun h => by rw [← Hxe.out] at h; cases h.2.2) 64)
        go_wp2_with (go_at_call 84; (with_reducible refine (HX.out _).mono ?_); rintro e w' ⟨rfl, rfl⟩)
        go_roundw
        case rel => exact ⟨S + 1, by omega, by go_num, HBr.out, ad, k, d, rfl, by rw [Hnext.out, Hn.out, List.append_nil]; exact HO.out⟩
        case measure => simp [intOf]; omega
      · go_wp2_with (go_at_call 84; (with_reducible refine (HX.out _).mono ?_); rintro e w' ⟨rfl, rfl⟩)
        clear p0 p1
        go_loopw [4, 6] (fun o j wr => ∃ T : Nat, T ≤ N ∧ j = .int .i64 T ∧ Below w2.heap.size w2 wr ∧ ∃ ad k d, o = .slice ad k d ∧ Own2 wr w2.heap.size wr.heap.size ad k d (allS (okF m l) S ++ rowT (okF m l) S T)) (fun _ j _ => N - (intOf j).toNat)
        case atStart => exact ⟨0, Nat.zero_le _, rfl, HBr.out, ad, k, d, rfl, by rw [rowZero, List.append_nil]; exact HO.out⟩
        case round =>
          obtain ⟨T, hT, rfl, hbi, ad3, k3, d3, rfl, hown3⟩ := hrel
          have HBi := Lib.hid hbi; have HOi := Lib.hid hown3
          have XAi := Lib.hid (XA2.out.keep hbi (by omega))
          have hzi : w2.heap.size ≤ wr.heap.size := hbi.size
          clear hbi hown3
          obtain ⟨p0, p1, _, _, _⟩ := XAi.out
          by_cases hjt : T < N
          · have hjt' : (T : Int) < 2 ^ m := by rw [HNe.out]; omega
            have hk3 : k3 ≤ 8192 := by
              have h1 := HOi.out.len
              rw [List.length_append] at h1
              have h2 := allS_len (okF m l) S
              have h3 := rowLen (okF m l) S T
              omega
            have hcall := Hfl.out S T wr
            obtain ⟨b, hb⟩ : ∃ b, b = okF m l S T := ⟨_, rfl⟩
            rw [← hb] at hcall
            have Hb := Lib.hid hb.symm; have Hcall := Lib.hid hcall
            clear hb hcall
            go_wp2_with fail
            refine Hcall.out.mono ?_
            rintro e w5 ⟨rfl, hb5⟩
            have HB5 := Lib.hid (HBi.out.trans (hb5.mono hzi))
            have HO5 : Hid (Own2 w5 w2.heap.size w5.heap.size ad3 k3 d3 (allS (okF m l) S ++ rowT (okF m l) S T)) := Lib.hid ((HOi.out.keep hb5).up hb5.size)
            have hz5 : w2.heap.size ≤ w5.heap.size := HB5.out.size
            clear hb5
            cases b
            · have Hno := Lib.hid (rowNo Hb.out)
              go_wp2_with fail
              go_roundw
              case rel => exact ⟨T + 1, by omega, by go_num, HB5.out, ad3, k3, d3, rfl, by rw [Hno.out]; exact HO5.out⟩
              case measure => simp [intOf]; omega
            · have Hyes := Lib.hid (rowYes Hb.out)
              go_wp2_with (at_builtin; refine ap_pair rfl _ _ rfl w2.heap.size _ _ _ _ _ _ rfl HO5.out rfl (by omega) hz5 ?_; intro ad' d' w' hown' hb'; have HO6 := Lib.hid hown'; have HB6 := Lib.hid hb'; clear hown' hb')
              go_roundw
              case rel => exact ⟨T + 1, by omega, by go_num, HB5.out.trans HB6.out, ad', k3 + 1, d', rfl, by rw [Hyes.out, ← List.append_assoc]; exact HO6.out⟩
              case measure => simp [intOf]; omega
          · obtain rfl : T = N := by omega
            have hjj : ¬ ((T : Int) < 2 ^ m) := by rw [HNe.out]; omega
            go_wp2_with fail
            go_roundw
            case rel => exact ⟨S + 1, by omega, by go_num, HBi.out, ad3, k3, d3, rfl, by rw [Hnext.out, ← Hrow.out S]; exact HOi.out⟩
            case measure => simp [intOf]; omega
    · obtain rfl : S = N := by omega
      have hii : ¬ ((S : Int) < 2 ^ m) := by rw [HNe.out]; omega
      go_wp2_with fail
      go_ret
      exact ⟨ad, k, d, rfl, by rw [Hall.out]; exact HO.out.mono (by omega), HB2.out.trans (HBr.out.mono (by omega))⟩
theorem sFlipsOf_no (p : Int) (a : Option Addr) (n c : Nat) (xs : List Int) (w : World) (h : IntsAt w a n xs) (hno : ¬ Anti p xs) :
    Calls Try.prog 38 #[.agg #[.int .i64 p, .slice a n c]] w (RetInts2 w []) := by
  obtain ⟨w1, hw1⟩ : ∃ w1, w1 = (w.alloc (.cells #[.int .i64 p, .slice a n c] 27)).alloc (.cells #[] 22) := ⟨_, rfl⟩
  have hx : IntsAt w1 a n xs := by rw [hw1]; exact h.keep (by repeat (first | exact Below.refl _ _ | assumption | refine Below.setCell ?_ (by first | omega | (simp; done) | (simp; omega)) _ | refine Below.alloc ?_ (by first | omega | (simp; done) | (simp; omega)) _ | apply Below.drew))
  have hB : Below w.heap.size w w1 := by rw [hw1]; exact (by repeat (first | exact Below.refl _ _ | assumption | refine Below.setCell ?_ (by first | omega | (simp; done) | (simp; omega)) _ | refine Below.alloc ?_ (by first | omega | (simp; done) | (simp; omega)) _ | apply Below.drew))
  have hO : Own2 w1 w.heap.size w1.heap.size (some ⟨w.heap.size + 1, 0, none⟩) 0 0 [] := by
    have := O2.empty (w.alloc (.cells #[.int .i64 p, .slice a n c] 27)) w.heap.size (by simp)
    simp only [World.size_alloc] at this
    rw [hw1]; exact ⟨_, this.up (by simp)⟩
  have Hx := Lib.hid hx; have HB := Lib.hid hB; have HO := Lib.hid hO; have HW1 := Lib.hid hw1; have Hno := Lib.hid hno
  clear hx hB hO hw1 h hno
  go_enter Try.func38, Try.ntmps38
  go_wp2_with fail
  rw [← HW1.out]
  go_loopw [3, 4, 5] (fun o i _ wr => i = .int .i64 1 ∧ wr = w1 ∧ o = .slice (some ⟨w.heap.size + 1, 0, none⟩) 0 0) (fun _ _ _ _ => 0)
  case atStart => exact ⟨rfl, rfl, rfl⟩
  case round =>
    obtain ⟨rfl, rfl, rfl⟩ := hrel
    have hbx : BoxF wr w.heap.size (.int .i64 p) (.slice a n c) := by rw [HW1.out]; exact (BoxF.new w (.int .i64 p) (.slice a n c) 27).alloc _
    obtain ⟨p0, p1, _, _, _⟩ := hbx
    go_wp2_with fail
    refine (sIsComplex_any p a n c xs _ Hx.out false (by simp [Hno.out])).mono ?_
    rintro e w2 ⟨rfl, hb⟩
    have HB2 : Hid (Below w.heap.size w w2) := Lib.hid (HB.out.trans (hb.mono HB.out.size))
    have HO2 := Lib.hid ((HO.out.keep hb).up hb.size)
    clear hb
    go_wp2_with fail
    go_ret
    exact ⟨_, 0, 0, rfl, HO2.out, HB2.out⟩
set_option maxRecDepth 100000 in
set_option maxHeartbeats 1000000 in
theorem sFlipsOf_yes (p : Int) (a : Option Addr) (n c : Nat) (l : List Nat) (w : World) (h : IntsAt w a n (up l)) (hn : n ≤ 64) (hA : Anti p (up l)) (hl : ∀ t ∈ l, t < 64) :
    Calls Try.prog 38 #[.agg #[.int .i64 p, .slice a n c]] w (RetInts2 w (allS (okF p l) 64)) := by
  obtain ⟨w1, hw1⟩ : ∃ w1, w1 = (w.alloc (.cells #[.int .i64 p, .slice a n c] 27)).alloc (.cells #[] 22) := ⟨_, rfl⟩
  have hx : IntsAt w1 a n (up l) := by rw [hw1]; exact h.keep (by repeat (first | exact Below.refl _ _ | assumption | refine Below.setCell ?_ (by first | omega | (simp; done) | (simp; omega)) _ | refine Below.alloc ?_ (by first | omega | (simp; done) | (simp; omega)) _ | apply Below.drew))
  have hB : Below w.heap.size w w1 := by rw [hw1]; exact (by repeat (first | exact Below.refl _ _ | assumption | refine Below.setCell ?_ (by first | omega | (simp; done) | (simp; omega)) _ | refine Below.alloc ?_ (by first | omega | (simp; done) | (simp; omega)) _ | apply Below.drew))
  have hz1 : w1.heap.size = w.heap.size + 2 := by rw [hw1]; simp
  have hO : Own2 w1 (w.heap.size + 1) w1.heap.size (some ⟨w.heap.size + 1, 0, none⟩) 0 0 [] := by
    have := O2.empty (w.alloc (.cells #[.int .i64 p, .slice a n c] 27)) (w.heap.size + 1) (by simp)
    simp only [World.size_alloc] at this
    rw [hw1]; exact ⟨_, this.up (by simp)⟩
  have hbx : BoxF w1 w.heap.size (.int .i64 p) (.slice a n c) := by rw [hw1]; exact (BoxF.new w (.int .i64 p) (.slice a n c) 27).alloc _
  have HcF : Hid (∀ (s t : Nat) W, IntsAt W a n (up l) → Calls Try.prog 22 #[.agg #[.int .i64 p, .slice a n c], .int .i64 s, .int .i64 t] W fun e w' => e = .returned (.bool (okF p l s t)) ∧ Below W.heap.size W w') := Lib.hid fun s t W hW => sFlip_yes p a n c l s t W hW hn hA hl _ okIff
  have HcC : Hid (∀ W, IntsAt W a n (up l) → Calls Try.prog 48 #[.agg #[.int .i64 p, .slice a n c]] W fun e w' => e = .returned (.bool true) ∧ Below W.heap.size W w') := Lib.hid fun W hW => sIsComplex_any p a n c _ W hW true (by simp [hA])
  have H1 : Hid (allS (okF p l) 1 = []) := Lib.hid (by
    rw [show 1 = 0 + 1 from rfl, allS_next, rowNone (fun t => okNot fun h => h.1 rfl)]; rfl)
  have Hr1 : Hid (∀ s, rowT (okF p l) s 1 = []) := Lib.hid fun s => by
    rw [show 1 = 0 + 1 from rfl, rowNo (okNot fun h => h.2.1 rfl)]; rfl
  have HB := Lib.hid hB; have HO := Lib.hid hO; have HW1 := Lib.hid hw1; have XA := Lib.hid hbx
  have HxF : Hid (∀ W, Below (w.heap.size + 1) w1 W → IntsAt W a n (up l)) := Lib.hid fun W hW => h.keep (hB.trans (hW.mono (by omega)))
  clear hx hB hO hw1 h hA hl hbx
  go_enter Try.func38, Try.ntmps38
  go_wp2_with fail
  rw [← HW1.out]
  go_loopw [3, 4, 5] (fun o i _ wr => ∃ S : Nat, 1 ≤ S ∧ S ≤ 64 ∧ i = .int .i64 S ∧ Below (w.heap.size + 1) w1 wr ∧ ∃ ad k d, o = .slice ad k d ∧ Own2 wr (w.heap.size + 1) wr.heap.size ad k d (allS (okF p l) S)) (fun _ i _ _ => 64 - (intOf i).toNat)
  case atStart => exact ⟨1, by omega, by omega, rfl, Below.refl _ _, _, 0, 0, rfl, by rw [H1.out]; exact HO.out⟩
  case round =>
    obtain ⟨wo, rfl⟩ : ∃ x : World, x = wr := ⟨_, rfl⟩
    obtain ⟨S, hS1, hS, rfl, hbr, ad, k, d, rfl, hown⟩ := hrel
    have HBr := Lib.hid hbr; have HO2 := Lib.hid hown
    have XAr := Lib.hid (XA.out.keep hbr (by omega))
    have hzr : w.heap.size + 2 ≤ wo.heap.size := by have := hbr.size; omega
    have Hxr := Lib.hid (HxF.out _ hbr)
    clear hbr hown
    obtain ⟨p0, p1, _, _, _⟩ := XAr.out
    by_cases hlt : S < 64
    · have hlt' : (S : Int) < 64 := by omega
      have Hnext := Lib.hid (allS_next (okF p l) S)
      go_wp2_with fail
      refine (HcC.out _ Hxr.out).mono ?_
      rintro e w2 ⟨rfl, hb⟩
      have HB2 := Lib.hid (HBr.out.trans (hb.mono (by omega)))
      have HO3 : Hid (Own2 w2 (w.heap.size + 1) w2.heap.size ad k d (allS (okF p l) S)) := Lib.hid ((HO2.out.keep hb).up hb.size)
      clear hb p0 p1
      go_wp2_with fail
      go_loopw [3, 5] (fun o j wr => ∃ T : Nat, 1 ≤ T ∧ T ≤ 64 ∧ j = .int .i64 T ∧ Below (w.heap.size + 1) w1 wr ∧ ∃ ad k d, o = .slice ad k d ∧ Own2 wr (w.heap.size + 1) wr.heap.size ad k d (allS (okF p l) S ++ rowT (okF p l) S T)) (fun _ j _ => 64 - (intOf j).toNat)
      case atStart => exact ⟨1, by omega, by omega, rfl, HB2.out, ad, k, d, rfl, by rw [Hr1.out, List.append_nil]; exact HO3.out⟩
      case round =>
        obtain ⟨T, hT1, hT, rfl, hbi, ad3, k3, d3, rfl, hown3⟩ := hrel
        have HBi := Lib.hid hbi; have HOi := Lib.hid hown3
        have XAi := Lib.hid (XA.out.keep hbi (by omega))
        have hzi : w.heap.size + 2 ≤ wr.heap.size := by have := hbi.size; omega
        have Hxi := Lib.hid (HxF.out _ hbi)
        clear hbi hown3
        obtain ⟨p0, p1, _, _, _⟩ := XAi.out
        by_cases hjt : T < 64
        · have hjt' : (T : Int) < 64 := by omega
          have hk3 : k3 ≤ 8192 := by
            have h1 := HOi.out.len
            rw [List.length_append] at h1
            have h2 := allS_len (okF p l) S
            have h3 := rowLen (okF p l) S T
            omega
          have hcall := HcF.out S T wr Hxi.out
          obtain ⟨b, hb⟩ : ∃ b, b = okF p l S T := ⟨_, rfl⟩
          rw [← hb] at hcall
          have Hb := Lib.hid hb.symm; have Hcall := Lib.hid hcall
          clear hb hcall
          go_wp2_with fail
          refine Hcall.out.mono ?_
          rintro e w5 ⟨rfl, hb5⟩
          have HB5 := Lib.hid (HBi.out.trans (hb5.mono (by omega)))
          have HO5 : Hid (Own2 w5 (w.heap.size + 1) w5.heap.size ad3 k3 d3 (allS (okF p l) S ++ rowT (okF p l) S T)) := Lib.hid ((HOi.out.keep hb5).up hb5.size)
          have hz5 : w.heap.size + 1 ≤ w5.heap.size := by have := hb5.size; omega
          clear hb5
          cases b
          · have Hno := Lib.hid (rowNo Hb.out)
            go_wp2_with fail
            go_roundw
            case rel => exact ⟨T + 1, by omega, by omega, by go_num, HB5.out, ad3, k3, d3, rfl, by rw [Hno.out]; exact HO5.out⟩
            case measure => simp [intOf]; omega
          · have Hyes := Lib.hid (rowYes Hb.out)
            go_wp2_with (at_builtin; refine ap_pair rfl _ _ rfl (w.heap.size + 1) _ _ _ _ _ _ rfl HO5.out rfl (by omega) hz5 ?_; intro ad' d' w' hown' hb'; have HO6 := Lib.hid hown'; have HB6 := Lib.hid hb'; clear hown' hb')
            go_roundw
            case rel => exact ⟨T + 1, by omega, by omega, by go_num, HB5.out.trans HB6.out, ad', k3 + 1, d', rfl, by rw [Hyes.out, ← List.append_assoc]; exact HO6.out⟩
            case measure => simp [intOf]; omega
        · obtain rfl : T = 64 := by omega
          go_wp2_with fail
          go_roundw
          case rel => exact ⟨S + 1, by omega, by omega, by go_num, HBi.out, ad3, k3, d3, rfl, by rw [Hnext.out]; exact HOi.out⟩
          case measure => simp [intOf]; omega
    · obtain rfl : S = 64 := by omega
      go_wp2_with fail
      go_ret
      exact ⟨ad, k, d, rfl, HO2.out.mono (by omega), HB.out.trans (HBr.out.mono (by omega))⟩
end Go.Proofs.Ytnapicpeccjkoaa

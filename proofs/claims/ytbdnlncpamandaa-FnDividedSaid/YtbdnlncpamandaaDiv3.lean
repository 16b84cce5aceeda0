/- Contract of the reference's SubdivideAt. -/
import Derived.Test.YtbdnlncpamandaaDiv
namespace Go.Proofs.Ytbdnlncpamandaa
set_option maxRecDepth 20000
open Go.RowKit
set_option linter.unusedSimpArgs false
set_option linter.unusedVariables false

set_option maxHeartbeats 1000000 in
theorem sDiv_no (p : Int) (a : Option Addr) (n c : Nat) (xs : List Int) (s : Int) (w : World) (h : IntsAt w a n xs) (hno : ¬ DivP p xs s) :
    Calls Try.prog 31 #[.agg #[.int .i64 p, .slice a n c], .int .i64 s] w (RetBox2 w 0 [] false) := by
  obtain ⟨w0, hw0⟩ : ∃ w0, w0 = (w.alloc (.cells #[.int .i64 p, .slice a n c] 26)).alloc (.cells #[.int .i64 0, .slice none 0 0] 26) := ⟨_, rfl⟩
  have hx : IntsAt w0 a n xs := by rw [hw0]; exact h.keep (by repeat (first | exact Below.refl _ _ | assumption | refine Below.setCell ?_ (by first | omega | (simp; done) | (simp; omega)) _ | refine Below.alloc ?_ (by first | omega | (simp; done) | (simp; omega)) _ | apply Below.drew))
  have hB : Below w.heap.size w w0 := by rw [hw0]; exact (by repeat (first | exact Below.refl _ _ | assumption | refine Below.setCell ?_ (by first | omega | (simp; done) | (simp; omega)) _ | refine Below.alloc ?_ (by first | omega | (simp; done) | (simp; omega)) _ | apply Below.drew))
  have hz0 : w0.heap.size = w.heap.size + 2 := by rw [hw0]; simp
  have xR : BoxF w0 (w.heap.size + 1) (.int .i64 0) (.slice none 0 0) := by
    rw [hw0, show w.heap.size + 1 = (w.alloc (.cells #[.int .i64 p, .slice a n c] 26)).heap.size by simp]
    exact BoxF.new _ _ _ _
  have xA : BoxF w0 w.heap.size (.int .i64 p) (.slice a n c) := by
    rw [hw0]
    exact (BoxF.new w (.int .i64 p) (.slice a n c) 26).alloc _
  have Hx := Lib.hid hx; have HB := Lib.hid hB; have XR := Lib.hid xR; have XA := Lib.hid xA; have HW0 := Lib.hid hw0; have Hno := Lib.hid hno
  clear hx hB xR xA hw0 h hno
  by_cases hH : HasP p xs s
  · have HH := Lib.hid hH; clear hH
    obtain ⟨z, hz⟩ : ∃ z, (p == 6) = z := ⟨_, rfl⟩
    obtain ⟨y, hy⟩ : ∃ y, (s == 0) = y := ⟨_, rfl⟩
    go_enter Try.func31, Try.ntmps31
    go_wp2_with fail
    rw [← HW0.out]
    refine (sHas_any p a n c xs s _ Hx.out true (by simp [HH.out])).mono ?_
    rintro e w1 ⟨rfl, hb⟩
    obtain ⟨r0, r1, f0, f1, _⟩ := XR.out.keep hb (by omega)
    obtain ⟨p0, p1, _, _, _⟩ := XA.out.keep hb (by omega)
    have hbl : Below w.heap.size w w1 := HB.out.trans (hb.mono (by omega))
    clear hb
    cases y
    · cases z
      · exact absurd ⟨HH.out, by simpa using hz, by simpa using hy⟩ Hno.out
      · go_wp2_with fail
        refine bodyPost_ret (v := .tuple #[.agg #[.int .i64 0, .slice none 0 0], .bool false]) (by simp [results, Try.results31, go_sem, r0, r1]) rfl ⟨none, 0, 0, rfl, Own.nil _ _ _, (by repeat (first | exact Below.refl _ _ | assumption | refine Below.setCell ?_ (by first | omega | (simp; done) | (simp; omega)) _ | refine Below.alloc ?_ (by first | omega | (simp; done) | (simp; omega)) _ | apply Below.drew))⟩
    · go_wp2_with fail
      refine bodyPost_ret (v := .tuple #[.agg #[.int .i64 0, .slice none 0 0], .bool false]) (by simp [results, Try.results31, go_sem, r0, r1]) rfl ⟨none, 0, 0, rfl, Own.nil _ _ _, (by repeat (first | exact Below.refl _ _ | assumption | refine Below.setCell ?_ (by first | omega | (simp; done) | (simp; omega)) _ | refine Below.alloc ?_ (by first | omega | (simp; done) | (simp; omega)) _ | apply Below.drew))⟩
  · have HA := Lib.hid hH; clear hH
    go_enter Try.func31, Try.ntmps31
    go_wp2_with fail
    rw [← HW0.out]
    refine (sHas_any p a n c xs s _ Hx.out false (by simp [HA.out])).mono ?_
    rintro e w1 ⟨rfl, hb⟩
    obtain ⟨r0, r1, f0, f1, _⟩ := XR.out.keep hb (by omega)
    have hbl : Below w.heap.size w w1 := HB.out.trans (hb.mono (by omega))
    clear hb
    go_wp2_with fail
    refine bodyPost_ret (v := .tuple #[.agg #[.int .i64 0, .slice none 0 0], .bool false]) (by simp [results, Try.results31, go_sem, r0, r1]) rfl ⟨none, 0, 0, rfl, Own.nil _ _ _, (by repeat (first | exact Below.refl _ _ | assumption | refine Below.setCell ?_ (by first | omega | (simp; done) | (simp; omega)) _ | refine Below.alloc ?_ (by first | omega | (simp; done) | (simp; omega)) _ | apply Below.drew))⟩

theorem starL_yes {s v f J : Nat} (h : s.testBit J = true) : starL s v f (J + 1) = starL s v f J ++ [sdiff f (2 ^ J), sdiff f (2 ^ J) ||| v] := by
  unfold starL; rw [List.range_succ, List.flatMap_append]; simp [h]
theorem starL_no {s v f J : Nat} (h : s.testBit J = false) : starL s v f (J + 1) = starL s v f J := by
  unfold starL; rw [List.range_succ, List.flatMap_append]; simp [h]
theorem divAll_next {l : List Nat} {s v I : Nat} (hI : I < l.length) : divAll (l.take (I + 1)) s v = divAll (l.take I) s v ++ divL s v (nthN l I) := by
  unfold divAll; rw [nthN_take l I hI, List.flatMap_append]; simp
theorem divAll_lt {l : List Nat} {s v : Nat} (hl : ∀ f ∈ l, f < 64) (hv : v < 64) : ∀ x ∈ divAll l s v, x < 64 := fun x hx => by
  obtain ⟨f, hf, hx⟩ := List.mem_flatMap.1 hx
  unfold divL at hx
  split at hx
  · obtain ⟨i, _, _, h | h⟩ := mem_starL.1 hx
    · rw [h]; exact sdiff_lt (hl f hf)
    · rw [h]; exact or_lt64 (sdiff_lt (hl f hf)) hv
  · rw [List.mem_singleton.1 hx]; exact hl f hf
set_option maxRecDepth 100000 in
set_option maxHeartbeats 2000000 in
theorem sDiv_yes (m : Nat) (a : Option Addr) (n c : Nat) (l : List Nat) (s : Nat) (w : World) (h : IntsAt w a n (up l)) (hn : n ≤ 64) (hm : m ≤ 5) (hA : Anti m (up l)) (hl : ∀ t ∈ l, t < 64) (hs : s < 64) (hs0 : s ≠ 0) (hl2 : ∀ t ∈ l, t < 2 ^ m) (hf : isFace l s = true) :
    Calls Try.prog 31 #[.agg #[.int .i64 m, .slice a n c], .int .i64 s] w (RetBox2 w ((m : Int) + 1) (up (maxL (divAll l s (2 ^ m)).contains)) true) := by
  obtain ⟨w0, hw0⟩ : ∃ w0, w0 = (w.alloc (.cells #[.int .i64 m, .slice a n c] 26)).alloc (.cells #[.int .i64 0, .slice none 0 0] 26) := ⟨_, rfl⟩
  have hx : IntsAt w0 a n (up l) := by rw [hw0]; exact h.keep (by repeat (first | exact Below.refl _ _ | assumption | refine Below.setCell ?_ (by first | omega | (simp; done) | (simp; omega)) _ | refine Below.alloc ?_ (by first | omega | (simp; done) | (simp; omega)) _ | apply Below.drew))
  have hB : Below w.heap.size w w0 := by rw [hw0]; exact (by repeat (first | exact Below.refl _ _ | assumption | refine Below.setCell ?_ (by first | omega | (simp; done) | (simp; omega)) _ | refine Below.alloc ?_ (by first | omega | (simp; done) | (simp; omega)) _ | apply Below.drew))
  have hz0 : w0.heap.size = w.heap.size + 2 := by rw [hw0]; simp
  have xR : BoxF w0 (w.heap.size + 1) (.int .i64 0) (.slice none 0 0) := by
    rw [hw0, show w.heap.size + 1 = (w.alloc (.cells #[.int .i64 m, .slice a n c] 26)).heap.size by simp]
    exact BoxF.new _ _ _ _
  have xA : BoxF w0 w.heap.size (.int .i64 m) (.slice a n c) := by
    rw [hw0]
    exact (BoxF.new w (.int .i64 m) (.slice a n c) 26).alloc _
  have hll : l.length = n := by have := h.len; rwa [up_len] at this
  have Hll := Lib.hid hll
  have Hx := Lib.hid hx; have HB := Lib.hid hB; have XR := Lib.hid xR; have XA := Lib.hid xA; have HW0 := Lib.hid hw0; have Hl := Lib.hid hl; have Hl2 := Lib.hid hl2
  have HP : Hid (HasP m (up l) s) := Lib.hid ⟨l, s, rfl, hA, rfl, hs, hf⟩
  clear hx hB xR xA hw0 h hA hf hll
  have hz : ((m : Int) == 6) = false := by simp; omega
  have hy : ((s : Int) == 0) = false := by simp; omega
  have Htop : Hid (∀ x, x < 2 ^ m → x + 2 ^ m = x ||| 2 ^ m) := Lib.hid (or_top m (by omega))
  obtain ⟨V, hV⟩ : ∃ V, V = 2 ^ m := ⟨_, rfl⟩
  have hVi : (2 : Int) ^ m = (V : Int) := by rw [hV]; norm_cast
  have hV64 : V < 64 := by
    rw [hV]; exact Nat.lt_of_le_of_lt (Nat.pow_le_pow_right (n := 2) (by omega) hm) (by omega)
  rw [← hV] at Htop Hl2
  have HL : Hid (∀ x ∈ divAll l s V, x < 64) := Lib.hid (divAll_lt hl hV64)
  have hvm : IntKind.u64.wrap (m : Int) = (m : Int) := by rw [IntKind.wrap_u64]; omega
  have hwm : IntKind.i64.wrap ((m : Int) + 1) = (m : Int) + 1 := by rw [IntKind.wrap_i64]; omega
  have HVi := Lib.hid hVi; have HV := Lib.hid hV
  rw [← HV.out]
  clear hl hl2 hVi hV hs0
  have hm8 : m < 8 := by omega
  have hm64 : min m 64 = m := by omega
  go_enter Try.func31, Try.ntmps31
  go_wp2_with fail
  rw [← HW0.out]
  refine (sHas_any m a n c _ s _ Hx.out true (by simp [HP.out])).mono ?_
  rintro e w1 ⟨rfl, hb⟩
  have HB1 := Lib.hid (HB.out.trans (hb.mono (by omega))); have XR1 := Lib.hid (XR.out.keep hb (by omega)); have XA1 := Lib.hid (XA.out.keep hb (by omega)); have Hx1 := Lib.hid (Hx.out.keep hb)
  have hz1 : w.heap.size + 2 ≤ w1.heap.size := by have := hb.size; omega
  clear hb
  obtain ⟨p0, p1, _, _, _⟩ := XA1.out
  go_wp2_with fail
  rw [HVi.out]
  clear p0 p1 hz hy
  go_loopw [7, 8, 9, 10] (fun f i _ _ wr => ∃ I : Nat, I ≤ n ∧ i = .int .i64 I ∧ Below w1.heap.size w1 wr ∧ ∃ ad K d, f = .slice ad K d ∧ K ≤ 12 * I ∧ Own 3 wr w1.heap.size ad K d (up (divAll (l.take I) s V))) (fun _ i _ _ _ => n - (intOf i).toNat)
  case atStart => exact ⟨0, Nat.zero_le _, rfl, (by repeat (first | exact Below.refl _ _ | assumption | refine Below.setCell ?_ (by first | omega | (simp; done) | (simp; omega)) _ | refine Below.alloc ?_ (by first | omega | (simp; done) | (simp; omega)) _ | apply Below.drew)), _, 0, 0, rfl, by omega, Own.empty _ _ _ (by first | exact Nat.le_refl _ | simp)⟩
  case round =>
    obtain ⟨wo, rfl⟩ : ∃ x : World, x = wr := ⟨_, rfl⟩
    obtain ⟨I, hI, rfl, hbr, ad, K, d, rfl, hK, hown⟩ := hrel
    have HBr := Lib.hid hbr; have HO := Lib.hid hown; have Hxr := Lib.hid (Hx1.out.keep hbr); have XAr := Lib.hid (XA1.out.keep hbr (by omega))
    have hzr : w1.heap.size ≤ wo.heap.size := hbr.size
    clear hbr hown
    obtain ⟨p0, p1, _, _, _⟩ := XAr.out
    by_cases hlt : I < n
    · obtain ⟨b1, o1, rfl, hc⟩ := Hxr.out.cells (by omega)
      have hck := hc I hlt
      rw [nth_up] at hck
      have hmem := nthN_mem (xs := l) (k := I) (by rw [Hll.out]; omega)
      have hf64 := Hl.out _ hmem
      have hfV := Hl2.out _ hmem
      have hnext := divAll_next (l := l) (s := s) (v := V) (I := I) (by rw [Hll.out]; omega)
      obtain ⟨f, hfe⟩ : ∃ f, f = nthN l I := ⟨_, rfl⟩
      rw [← hfe] at hck hf64 hfV hnext
      have Hnext := Lib.hid hnext
      have HfV := Lib.hid hfV
      have hI0 : (0 : Int) ≤ I := by omega
      have hIn : (I : Int) < n := by omega
      clear hc hfe hnext hmem hfV
      have hand := w_and f s hf64 hs
      cases hsub : sub s f
      · have hne : (((f &&& s : Nat) : Int) != (s : Int)) = true := by rw [castBne]; simpa using sub_and_no hsub
        have Hd : Hid (divL s V f = [f]) := Lib.hid (by unfold divL; rw [if_neg (by rw [hsub]; simp)])
        clear hsub
        go_wp2_with (at_builtin; refine ap rfl _ _ rfl w1.heap.size _ _ _ _ _ rfl HO.out rfl (by omega) hzr ?_; intro ad' d' w' hown' hb'; have HO3 := Lib.hid hown'; have HB3 := Lib.hid hb'; clear hown' hb')
        go_roundw
        case rel => exact ⟨I + 1, by omega, by go_num, HBr.out.trans HB3.out, ad', K + 1, d', rfl, by omega, by rw [Hnext.out, Hd.out, up_append]; exact HO3.out⟩
        case measure => simp [intOf]; omega
      · have hne : (((f &&& s : Nat) : Int) != (s : Int)) = false := by rw [castBne]; simpa using sub_and hsub
        have Hd : Hid (divL s V f = starL s V f 6) := Lib.hid (by unfold divL; rw [if_pos hsub])
        have Hsub := Lib.hid hsub
        clear hsub
        go_wp2_with fail
        clear p0 p1 hck
        go_loopw [7, 10] (fun g j wr => ∃ J : Nat, J ≤ 6 ∧ j = .int .i64 J ∧ Below w1.heap.size w1 wr ∧ ∃ ad K2 d, g = .slice ad K2 d ∧ K2 ≤ K + 2 * J ∧ Own 3 wr w1.heap.size ad K2 d (up (divAll (l.take I) s V ++ starL s V f J))) (fun _ j _ => 6 - (intOf j).toNat)
        case atStart => exact ⟨0, by omega, rfl, HBr.out, ad, K, d, rfl, by omega, by simpa [starL] using HO.out⟩
        case round =>
          obtain ⟨J, hJ, rfl, hbi, ad3, K3, d3, rfl, hK3, hown3⟩ := hrel
          have HBi := Lib.hid hbi; have HOi := Lib.hid hown3
          have hzi : w1.heap.size ≤ wr.heap.size := hbi.size
          clear hbi hown3
          by_cases hjt : J < 6
          · have hwJ : IntKind.u64.wrap (J : Int) = (J : Int) := by rw [IntKind.wrap_u64]; omega
            have hmJ : min J 64 = J := by omega
            cases hbit : s.testBit J
            · have hbv := bitv_no hs hbit
              have Hno := Lib.hid (starL_no (v := V) (f := f) hbit)
              clear hbit
              go_wp2_with fail
              go_roundw
              case rel => exact ⟨J + 1, by omega, by go_num, HBi.out, ad3, K3, d3, rfl, by omega, by rw [Hno.out]; exact HOi.out⟩
              case measure => simp [intOf]; omega
            · have hbv := bitv_yes hs hbit
              have Hyes := Lib.hid (starL_yes (v := V) (f := f) hbit)
              have hfb := sub_iff.1 Hsub.out J hbit
              have hw1 := w_subbit f hf64 J hjt hfb
              obtain ⟨x, hx⟩ : ∃ x, x = sdiff f (2 ^ J) := ⟨_, rfl⟩
              have hxV : x < V := by have h1 := sdiff_le f (2 ^ J); have h2 := HfV.out; omega
              have hsum := Htop.out x hxV
              rw [← hx] at hw1 Hyes
              have hadd : IntKind.i64.wrap ((x : Int) + (V : Int)) = ((x ||| V : Nat) : Int) := by
                rw [← hsum, IntKind.wrap_i64]; push_cast; omega
              have hshl := w_shl6 J (by omega)
              clear hbit hfb hx hsum
              go_wp2_with (at_builtin; refine ap_two rfl _ _ rfl w1.heap.size _ _ _ _ _ _ rfl HOi.out rfl (by omega) hzi ?_; intro ad' d' w' hown' hb'; have HO4 := Lib.hid hown'; have HB4 := Lib.hid hb'; clear hown' hb')
              go_roundw
              case rel => exact ⟨J + 1, by omega, by go_num, HBi.out.trans HB4.out, ad', K3 + 2, d', rfl, by omega, by rw [Hyes.out, ← List.append_assoc, up_append]; exact HO4.out⟩
              case measure => simp [intOf]; omega
          · obtain rfl : J = 6 := by omega
            go_wp2_with fail
            go_roundw
            case rel => exact ⟨I + 1, by omega, by go_num, HBi.out, ad3, K3, d3, rfl, by omega, by rw [Hnext.out, Hd.out]; exact HOi.out⟩
            case measure => simp [intOf]; omega
    · obtain rfl : I = n := by omega
      have hii : ¬ ((I : Int) < I) := by omega
      have HOf : Hid (Own 3 wo w1.heap.size ad K d (up (divAll l s V))) := Lib.hid (by have := HO.out; rw [← Hll.out, List.take_length] at this; exact this)
      have XRr := Lib.hid (XR1.out.keep HBr.out (by omega))
      have HBf : Hid (Below w.heap.size w wo) := Lib.hid (HB1.out.trans (HBr.out.mono (by omega)))
      go_wp2_with fail
      refine (l3Make_any _ ad K d _ _ HOf.out.reads HL.out).mono ?_
      rintro e w6 ⟨ad6, d6, r6, rfl, hown, hb6⟩
      have XR6 := Lib.hid (XRr.out.keep hb6 (by omega))
      have HO6 := Lib.hid hown; have HB6 := Lib.hid (HBf.out.trans (hb6.mono HBf.out.size))
      obtain ⟨r0, r1, _, _, _⟩ := XR6.out
      clear hown hb6
      go_wp2_with fail
      refine bodyPost_ret (v := .tuple #[.agg #[.int .i64 ((m : Int) + 1), .slice ad6 d6 r6], .bool true]) (by simp [results, Try.results31, go_sem, r0, r1]) rfl ⟨ad6, d6, r6, rfl, ?_, ?_⟩
      · exact ((HO6.out.setBelow _ (by omega)).setBelow _ (by omega)).mono (by omega)
      · exact (HB6.out.setCell (by first | (simp; done) | (simp; omega)) _).setCell (by first | (simp; done) | (simp; omega)) _
end Go.Proofs.Ytbdnlncpamandaa

/- Contracts of the functions that make lists of sets: the points of a set, the sets of a family in order, its greatest and its least sets; the program's and the reference's. -/
import Derived.Test.YtplbegfebnnbaaaSet
import Derived.Test.YtplbegfebnnbaaaMath2
namespace Go.Proofs.Ytplbegfebnnbaaa
open Go.RowKit
set_option linter.unusedSimpArgs false

set_option maxHeartbeats 400000 in
theorem PointsOf_any (s : Nat) (w : World) (hs : s < 64) :
    Calls Try.prog 71 #[.int .i64 s] w (RetInts w (up (pts s))) := by
  obtain ⟨B, hB⟩ : ∃ B, B = w.heap.size := ⟨_, rfl⟩
  have HB := Lib.hid hB; clear hB
  go_enter Try.func71, Try.ntmps71
  go_wp2_with (go_at_call 123; (with_reducible refine (IsSet6 s _ hs).mono ?_); rintro e w' ⟨rfl, rfl⟩)
  go_loopw [3, 4] (fun v i wr => ∃ k : Nat, k ≤ 6 ∧ i = .int .i64 k ∧ Below B w wr ∧ ∃ ad n c, n ≤ k ∧ v = .slice ad n c ∧ Own 3 wr B ad n c (up (ptsTo s k))) (fun _ i _ => 6 - (intOf i).toNat)
  case atStart => exact ⟨0, Nat.zero_le _, rfl, Below.refl _ _, none, 0, 0, Nat.le_refl _, rfl, Own.nil _ _ _⟩
  case round =>
    obtain ⟨k, hk, rfl, hb, ad, n, c, hn, rfl, hown⟩ := hrel
    by_cases hlt : k < 6
    · have hsz := hb.size
      rw [← HB.out] at hsz
      cases hbit : s.testBit k
      · go_wp2
        go_roundw
        case rel => exact ⟨k + 1, by omega, by go_num, hb, ad, n, c, by omega, rfl, by rw [ptsTo_no hbit]; exact hown⟩
        case measure => simp [intOf]; omega
      · go_wp2_with (at_builtin; refine ap rfl _ _ rfl B _ _ _ _ _ rfl hown rfl (by omega) hsz ?_; intro ad' c' w' hown' hb')
        go_roundw
        case rel => exact ⟨k + 1, by omega, by go_num, hb.trans hb', ad', n + 1, c', by omega, rfl, by rw [ptsTo_yes hbit, up_append]; exact hown'⟩
        case measure => simp [intOf]; omega
    · obtain rfl : k = 6 := by omega
      go_wp2
      go_ret
      exact ⟨ad, n, c, rfl, by rw [← HB.out]; exact hown, by rw [← HB.out]; exact hb⟩


set_option maxHeartbeats 400000 in
theorem setsIn_any (F : Nat) (w : World) (hF : Fam F) :
    Calls Try.prog 118 #[.int .u64 F] w (RetInts w (up (ord F.testBit))) := by
  obtain ⟨B, hB⟩ : ∃ B, B = w.heap.size := ⟨_, rfl⟩
  have HB := Lib.hid hB; clear hB
  go_enter Try.func118, Try.ntmps118
  go_wp2
  go_loopw [3, 4, 5] (fun v j _ wr => ∃ J : Nat, J ≤ 7 ∧ j = .int .i64 J ∧ Below B w wr ∧ ∃ ad n c, n ≤ 64 * J ∧ v = .slice ad n c ∧ Own 3 wr B ad n c (up (ordTo F.testBit J 0))) (fun _ j _ _ => 7 - (intOf j).toNat)
  case atStart => exact ⟨0, Nat.zero_le _, rfl, Below.refl _ _, none, 0, 0, by omega, rfl, Own.nil _ _ _⟩
  case round =>
    obtain ⟨J, hJ, rfl, hb, ad, m, c, hm, rfl, hown⟩ := hrel
    by_cases hlt : J < 7
    · obtain ⟨wo, rfl⟩ : ∃ wo : World, wo = wr := ⟨_, rfl⟩
      have hJ6 : (J : Int) ≤ 6 := by omega
      go_wp2_with fail
      go_loopw [3, 5] (fun v s wr => ∃ S : Nat, S ≤ 64 ∧ s = .int .i64 S ∧ Below B w wr ∧ ∃ ad n c, n ≤ 64 * J + S ∧ v = .slice ad n c ∧ Own 3 wr B ad n c (up (ordTo F.testBit J S))) (fun _ s _ => 64 - (intOf s).toNat)
      case atStart => exact ⟨0, Nat.zero_le _, rfl, hb, ad, m, c, by omega, rfl, hown⟩
      case round =>
        obtain ⟨S, hS, rfl, hb, ad, m, c, hm, rfl, hown⟩ := hrel
        have hsz := hb.size
        rw [← HB.out] at hsz
        by_cases hlt2 : S < 64
        · cases hcs : F.testBit S
          · have Hno := Lib.hid (ordTo_no (p := F.testBit) (k := J) (s := S) (by rw [hcs]; rfl))
            go_wp2_with (go_at_call 93; (with_reducible refine (hasSet_any F S _ hF hlt2).mono ?_); rintro e w' ⟨rfl, rfl⟩)
            go_roundw
            case rel => exact ⟨S + 1, by omega, by go_num, hb, ad, m, c, by omega, rfl, by rw [Hno.out]; exact hown⟩
            case measure => simp [intOf]; omega
          · cases hsj : ((sz S : Int) == (J : Int))
            · have Hno := Lib.hid (ordTo_no (p := F.testBit) (k := J) (s := S) (by rw [hcs]; simp at hsj ⊢; omega))
              go_wp2_with (first | (go_at_call 93; (with_reducible refine (hasSet_any F S _ hF hlt2).mono ?_); rintro e w' ⟨rfl, rfl⟩) | (go_at_call 124; (with_reducible refine (SizeOf_any S _ hlt2).mono ?_); rintro e w' ⟨rfl, rfl⟩))
              go_roundw
              case rel => exact ⟨S + 1, by omega, by go_num, hb, ad, m, c, by omega, rfl, by rw [Hno.out]; exact hown⟩
              case measure => simp [intOf]; omega
            · have Hno := Lib.hid (ordTo_yes (p := F.testBit) (k := J) (s := S) (by rw [hcs]; simp at hsj ⊢; omega))
              go_wp2_with (first | (go_at_call 93; (with_reducible refine (hasSet_any F S _ hF hlt2).mono ?_); rintro e w' ⟨rfl, rfl⟩) | (go_at_call 124; (with_reducible refine (SizeOf_any S _ hlt2).mono ?_); rintro e w' ⟨rfl, rfl⟩) | (at_builtin; refine ap rfl _ _ rfl B _ _ _ _ _ rfl hown rfl (by omega) hsz ?_; intro ad' c' w' hown' hb'))
              go_roundw
              case rel => exact ⟨S + 1, by omega, by go_num, hb.trans hb', ad', m + 1, c', by omega, rfl, by rw [Hno.out, up_append]; exact hown'⟩
              case measure => simp [intOf]; omega
        · obtain rfl : S = 64 := by omega
          have hnx := Lib.hid (ordTo_next F.testBit J)
          go_wp2
          go_roundw
          case rel => exact ⟨J + 1, by omega, by go_num, hb, ad, m, c, by omega, rfl, by rw [← hnx.out]; exact hown⟩
          case measure => simp [intOf]; omega
    · obtain rfl : J = 7 := by omega
      go_wp2
      go_ret
      exact ⟨ad, m, c, rfl, by rw [← ordTo_end, ← HB.out]; exact hown, by rw [← HB.out]; exact hb⟩

theorem sdiff_zero {a b : Nat} (ha : a < 64) (hb : b < 64) : (((sdiff a b : Nat) : Int) == 0) = sub a b := by
  rw [Bool.eq_iff_iff, ← sdiff_sub ha hb]; simp
set_option maxHeartbeats 1000000 in
theorem minimalIn_any (F : Nat) (w : World) (hF : Fam F) :
    Calls Try.prog 151 #[.int .u64 F] w (RetInts w (up (minL F.testBit))) := by
  go_enter Try.func151, Try.ntmps151
  go_wp2_with (go_at_call 118; (with_reducible refine (setsIn_any F _ hF).mono ?_); rintro e w1 ⟨la, ln, lc, rfl, hl, hb1⟩)
  obtain ⟨L, hL⟩ : ∃ L, L = ord F.testBit := ⟨_, rfl⟩
  rw [← hL] at hl
  have hL64 : ∀ s ∈ L, s < 64 := by rw [hL]; exact ord_lt
  have hLlen : L.length ≤ 64 := by rw [hL]; exact ord_len _
  have HL := Lib.hid hL; clear hL
  have hln : L.length = ln := by rw [← up_len]; exact hl.len
  have h64 : ln ≤ 64 := by omega
  have Hln := Lib.hid hln; clear hln hLlen
  have hr1 := hl.reads
  obtain ⟨B1, hB1⟩ : ∃ B1, B1 = w1.heap.size := ⟨_, rfl⟩
  have HB1 := Lib.hid hB1; clear hB1
  have Hb1 := Lib.hid hb1; clear hb1
  have HL64 := Lib.hid hL64; clear hL64
  go_loopw [3, 5, 6, 12] (fun v _ _ i wr => ∃ k : Nat, k ≤ ln ∧ i = .int .i64 k ∧ Below B1 w1 wr ∧ ∃ ad n c, n ≤ k ∧ v = .slice ad n c ∧ Own 3 wr B1 ad n c (up (minC (L.take k)))) (fun _ _ _ i _ => ln - (intOf i).toNat)
  case atStart => exact ⟨0, Nat.zero_le _, rfl, Below.refl _ _, none, 0, 0, Nat.le_refl _, rfl, Own.nil _ _ _⟩
  case round =>
    obtain ⟨k, hk, rfl, hb, ad, n, c, hn, rfl, hown⟩ := hrel
    have hr := hr1.keep (by rw [← HB1.out]; exact hb)
    have hsz := hb.size
    rw [← HB1.out] at hsz
    clear hr1 hl
    by_cases hlt : k < ln
    · obtain ⟨b, off, rfl, hc⟩ := hr.cells (by omega)
      have hck := hc k hlt
      rw [nth_up] at hck
      have hlk : k < L.length := by rw [Hln.out]; exact hlt
      obtain ⟨s, hs⟩ : ∃ s, s = nthN L k := ⟨_, rfl⟩
      have hs64 : s < 64 := by rw [hs]; exact HL64.out _ (nthN_mem hlk)
      rw [← hs] at hck
      have hst := Lib.hid (show minC (L.take (k + 1)) = minS (minC (L.take k)) s by rw [nthN_take L k hlk, minC_snoc, hs])
      clear hs
      obtain ⟨O, hO⟩ : ∃ O, O = minC (L.take k) := ⟨_, rfl⟩
      rw [← hO] at hst hown
      have hO64 : ∀ t ∈ O, t < 64 := by
        intro t ht
        have : ∀ (l : List Nat), (∀ s ∈ l, s < 64) → ∀ t ∈ minC l, t < 64 := by
          intro l
          unfold minC
          have : ∀ (l out : List Nat), (∀ s ∈ l, s < 64) → (∀ s ∈ out, s < 64) → ∀ t ∈ l.foldl minS out, t < 64 := by
            intro l
            induction l with
            | nil => exact fun out _ h => h
            | cons a l ih =>
              intro out h1 h2
              refine ih _ (fun s hs => h1 s (by simp [hs])) ?_
              unfold minS
              split
              · exact h2
              · intro s hs
                rcases List.mem_append.1 hs with h | h
                · exact h2 s h
                · simp at h; subst h; exact h1 s (by simp)
          exact fun h => this l [] h (by simp)
        rw [hO] at ht
        exact this _ (fun s hs => HL64.out s (List.mem_of_mem_take hs)) t ht
      clear hO
      have HO64 := Lib.hid hO64; clear hO64
      have hro := hown.reads
      have hOl := Lib.hid (show O.length = n by rw [← up_len]; exact hown.len)
      have hn64 : n ≤ 64 := by omega
      clear hr hc
      go_wp2_with fail
      go_loop [6, 8, 18] (fun f _ j => ∃ q : Nat, q ≤ n ∧ j = .int .i64 q ∧ f = .bool false ∧ Hid ((O.take q).any (sub · s) = false)) (fun _ _ j => n - (intOf j).toNat)
      case atStart => exact ⟨0, Nat.zero_le _, rfl, rfl, Lib.hid rfl⟩
      case round =>
        obtain ⟨q, hq, rfl, rfl, hno⟩ := hrel
        by_cases hlt2 : q < n
        · obtain ⟨b2, off2, rfl, hc2⟩ := hro.cells (by omega)
          have hcq := hc2 q hlt2
          rw [nth_up] at hcq
          have hqO : q < O.length := by rw [hOl.out]; exact hlt2
          obtain ⟨t, ht⟩ : ∃ t, t = nthN O q := ⟨_, rfl⟩
          have ht64 : t < 64 := by rw [ht]; exact HO64.out _ (nthN_mem hqO)
          rw [← ht] at hcq
          have Ht := Lib.hid ht; clear ht
          clear hc2 hro
          cases hz : (((sdiff t s : Nat) : Int) == 0)
          · go_wp2
            go_round
            case rel =>
              refine ⟨q + 1, by omega, by go_num, rfl, Lib.hid ?_⟩
              rw [nthN_take O q hqO, List.any_append, hno.out, ← Ht.out]
              rw [sdiff_zero ht64 hs64] at hz
              simp [hz]
            case measure => simp [intOf]; omega
          · go_wp2
            go_roundw
            case rel =>
              refine ⟨k + 1, by omega, by go_num, hb, _, n, c, by omega, rfl, ?_⟩
              rw [sdiff_zero ht64 hs64] at hz
              have : minS O s = O := by unfold minS; rw [if_pos]; rw [List.any_eq_true]; exact ⟨t, by rw [Ht.out]; exact nthN_mem hqO, hz⟩
              rw [hst.out, this]; exact hown
            case measure => simp [intOf]; omega
        · obtain rfl : q = n := by omega
          have hno' := hno.out
          rw [List.take_of_length_le (by rw [hOl.out]; omega)] at hno'
          have Hno := Lib.hid (show minS O s = O ++ [s] by unfold minS; rw [if_neg (by rw [hno']; simp)])
          clear hno' hro
          go_wp2_with (at_builtin; refine ap rfl _ _ rfl B1 _ _ _ _ _ rfl hown rfl (by omega) hsz ?_; intro ad' c' w' hown' hb')
          go_roundw
          case rel => exact ⟨k + 1, by omega, by go_num, hb.trans hb', ad', q + 1, c', by omega, rfl, by rw [hst.out, Hno.out, up_append]; exact hown'⟩
          case measure => simp [intOf]; omega
    · obtain rfl : k = ln := by omega
      go_wp2
      go_ret
      have hle := Hb1.out.size
      rw [← HB1.out] at hle
      refine ⟨ad, n, c, rfl, ?_, Hb1.out.trans (hb.mono hle)⟩
      rw [List.take_of_length_le (by rw [Hln.out]; omega), HL.out, minC_ord] at hown
      exact hown.mono hle

end Go.Proofs.Ytplbegfebnnbaaa

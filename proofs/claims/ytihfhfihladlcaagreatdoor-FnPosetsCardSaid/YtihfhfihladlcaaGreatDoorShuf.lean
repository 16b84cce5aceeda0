/- Contracts of the reference's l9Shuffle, l9Set and l9Complex. -/
import Derived.Test.YtihfhfihladlcaaGreatDoorBase
import Derived.Test.YtihfhfihladlcaaGreatDoorCore
import Derived.Test.YtihfhfihladlcaaGreatDoorDrw3
namespace Go.Proofs.YtihfhfihladlcaaGreatDoor
set_option maxRecDepth 20000
open Go.RowKit
set_option linter.unusedSimpArgs false
set_option linter.unusedVariables false

/-- a row's front is a row -/
theorem Own.take {T : Nat} {w : World} {B : Nat} {a : Option Addr} {n c : Nat} {xs : List Int} (h : Own T w B a n c xs) {k : Nat} (hk : k ≤ n) : Own T w B a k c (xs.take k) := by
  have hlen := h.len
  refine ⟨by rw [List.length_map, List.length_take]; omega, by rw [List.length_map, List.length_take]; omega, ?_⟩
  rcases h.row.2 with ⟨hv, hn⟩ | ⟨g, cap, cur, hv, hg, hh, hnc, hcm, hcs, ht⟩
  · simp only [Value.slice.injEq] at hv
    obtain ⟨rfl, _, rfl⟩ := hv
    have : k = 0 := by omega
    subst this
    exact .inl ⟨rfl, rfl⟩
  · simp only [Value.slice.injEq] at hv
    obtain ⟨rfl, _, rfl⟩ := hv
    refine .inr ⟨g, _, cur, rfl, hg, hh, by omega, hcm, hcs, ?_⟩
    rw [Nat.mul_one] at ht ⊢
    rw [List.map_take, ← ht, List.take_take, Nat.min_eq_left hk]
theorem IntsAt.drop {w : World} {b off n : Nat} {xs : List Int} (h : IntsAt w (some ⟨b, off, none⟩) n xs) {k : Nat} (hk : k ≤ n) : IntsAt w (some ⟨b, off + k, none⟩) (n - k) (xs.drop k) := by
  refine ⟨by rw [List.length_drop, h.len], by have := h.small; omega, fun hn => ⟨b, off + k, rfl, fun i hi => ?_⟩⟩
  have := h.cellAt (k + i) (by omega)
  rw [Nat.add_assoc, this]
  have e : nth (xs.drop k) i = nth xs (k + i) := by
    unfold nth
    rw [List.getD_eq_getElem?_getD, List.getD_eq_getElem?_getD, List.getElem?_drop]
  rw [e]

/-- distinct numbers below six, as a sum of powers -/
theorem pow_sum : ∀ (l m : List Nat), l.Nodup → (∀ x ∈ l, x ∈ m) → (l.map (2 ^ ·)).sum ≤ (m.map (2 ^ ·)).sum
  | [], m, _, _ => Nat.zero_le _
  | a :: l, m, hn, hs => by
    have ha := hs a List.mem_cons_self
    have hn2 := List.nodup_cons.1 hn
    have ih := pow_sum l (m.erase a) hn2.2 fun x hx => by
      have hne : x ≠ a := by rintro rfl; exact hn2.1 hx
      exact (List.mem_erase_of_ne hne).2 (hs x (List.mem_cons_of_mem _ hx))
    have hp := (List.perm_cons_erase ha).map (2 ^ ·)
    have := hp.sum_nat
    simp only [List.map_cons, List.sum_cons] at this ⊢
    omega
theorem pow_sum6 {l : List Nat} (hn : l.Nodup) (h6 : ∀ x ∈ l, x < 6) : (l.map (2 ^ ·)).sum ≤ 63 := by
  have := pow_sum l (List.range 6) hn fun x hx => List.mem_range.2 (h6 x hx)
  exact Nat.le_trans this (by decide)
/-- a set under new names, the first k points of it -/
def renTo (s : Nat) (N : List Nat) (k : Nat) : Nat := ((List.range k).map fun i => (s >>> i % 2) * 2 ^ nthN N i).sum
theorem renTo_succ (s : Nat) (N : List Nat) (k : Nat) : renTo s N (k + 1) = renTo s N k + (s >>> k % 2) * 2 ^ nthN N k := by
  unfold renTo; rw [List.range_succ, List.map_append, List.sum_append]; simp
theorem ren_le (s : Nat) (N : List Nat) : ∀ k, k ≤ N.length → renTo s N k ≤ ((N.take k).map (2 ^ ·)).sum
  | 0, _ => by simp [renTo]
  | k + 1, hk => by
    have ih := ren_le s N k (by omega)
    rw [renTo_succ, List.take_succ_eq_append_getElem (by omega), List.map_append, List.sum_append]
    have e : nthN N k = N[k] := by unfold nthN; rw [List.getD_eq_getElem?_getD, List.getElem?_eq_getElem (by omega)]; rfl
    rw [e]
    have h2 : s >>> k % 2 ≤ 1 := by omega
    have h3 : (s >>> k % 2) * 2 ^ N[k] ≤ 1 * 2 ^ N[k] := Nat.mul_le_mul_right _ h2
    simp only [List.map_cons, List.map_nil, List.sum_cons, List.sum_nil]
    omega
theorem ren_lt {s : Nat} {N : List Nat} (hn : N.Nodup) (h6 : ∀ x ∈ N, x < 6) {k : Nat} (hk : k ≤ N.length) : renTo s N k < 64 := by
  have h1 := ren_le s N k hk
  have h2 := pow_sum6 (l := N.take k) (hn.sublist (List.take_sublist _ _)) fun x hx => h6 x (List.mem_of_mem_take hx)
  omega
/-- k put in at a place of a list of the smaller numbers -/
theorem ins_ok {L : List Nat} {k a : Nat} (hn : L.Nodup) (hlt : ∀ x ∈ L, x < k) : (L.take a ++ [k] ++ L.drop a).Nodup ∧ ∀ x ∈ L.take a ++ [k] ++ L.drop a, x < k + 1 := by
  have hp : (L.take a ++ [k] ++ L.drop a).Perm (k :: L) := by
    have h1 : (L.take a ++ [k] ++ L.drop a).Perm ([k] ++ L.take a ++ L.drop a) := List.Perm.append_right _ List.perm_append_comm
    refine h1.trans ?_
    rw [List.append_assoc, List.take_append_drop]; rfl
  refine ⟨hp.nodup_iff.2 (List.nodup_cons.2 ⟨fun h => Nat.lt_irrefl _ (hlt k h), hn⟩), fun x hx => ?_⟩
  rcases List.mem_cons.1 (hp.mem_iff.1 hx) with rfl | h
  · omega
  · have := hlt x h; omega
set_option maxHeartbeats 1000000 in
theorem l9Set_any (s : Nat) (a : Option Addr) (n c : Nat) (N : List Nat) (w : World) (h : IntsAt w a n (up N)) (hs : s < 64) (hn : N.Nodup) (h6 : ∀ x ∈ N, x < 6) (hn6 : n ≤ 6) :
    Calls Tryz.prog 211 #[.int .i64 s, .slice a n c] w fun e w' => e = .returned (.int .i64 (renTo s N n)) ∧ w = w' := by
  have Hh := Lib.hid h; have HN := Lib.hid hn; have H6 := Lib.hid h6
  have Hlen : Hid (N.length = n) := Lib.hid (by have := h.len; rwa [up_len] at this)
  clear h hn h6
  go_enter Tryz.func211, Tryz.ntmps211
  go_wp2
  go_loop [5, 6] (fun o i => ∃ I : Nat, I ≤ n ∧ i = .int .i64 I ∧ o = .int .i64 (renTo s N I)) (fun _ i => n - (intOf i).toNat)
  case atStart => exact ⟨0, Nat.zero_le _, rfl, rfl⟩
  case round =>
    obtain ⟨I, hI, rfl, rfl⟩ := hrel
    by_cases hlt : I < n
    · obtain ⟨b1, o1, rfl, hc⟩ := Hh.out.cells (by omega)
      have hck := hc I hlt
      rw [nth_up] at hck
      have hx6 := H6.out (nthN N I) (nthN_mem (xs := N) (by rw [Hlen.out]; exact hlt))
      have hr1 := ren_lt (s := s) HN.out H6.out (k := I) (by rw [Hlen.out]; omega)
      have hr2 := ren_lt (s := s) HN.out H6.out (k := I + 1) (by rw [Hlen.out]; omega)
      have hsu := renTo_succ s N I
      obtain ⟨x, hx⟩ : ∃ x, x = nthN N I := ⟨_, rfl⟩
      rw [← hx] at hck hx6 hsu
      obtain ⟨R, hR⟩ : ∃ R, R = renTo s N I := ⟨_, rfl⟩
      obtain ⟨R1, hR1⟩ : ∃ R1, R1 = renTo s N (I + 1) := ⟨_, rfl⟩
      rw [← hR] at hr1 hsu ⊢
      rw [← hR1] at hr2 hsu
      have HR1 := Lib.hid hR1
      have hI6 : I < 6 := by omega
      have hvm : IntKind.u64.wrap (I : Int) = (I : Int) := by rw [IntKind.wrap_u64]; omega
      have hmi : min I 64 = I := by omega
      have hvx : IntKind.u64.wrap (x : Int) = (x : Int) := by rw [IntKind.wrap_u64]; omega
      have hmx : min x 64 = x := by omega
      have Hsu := Lib.hid hsu
      have hx8 : x < 8 := by omega
      have hI8 : I < 8 := by omega
      have HE : Hid (wrap64 ((R : Int) + wrap64 (bits BinOp.and IntKind.i64 ((s : Int) / 2 ^ I) 1 * 2 ^ x)) = (R1 : Int)) := Lib.hid (by
        have hq : s / 2 ^ I < 64 := Nat.lt_of_le_of_lt (Nat.div_le_self _ _) hs
        have e1 : (s : Int) / 2 ^ I = ((s / 2 ^ I : Nat) : Int) := by norm_cast
        have e2 := w_and (s / 2 ^ I) 1 hq (by omega)
        have e3 : bits BinOp.and IntKind.i64 ((s : Int) / 2 ^ I) 1 = (((s / 2 ^ I) % 2 : Nat) : Int) := by
          rw [e1]
          have : ((1 : Nat) : Int) = 1 := rfl
          rw [this] at e2
          rw [e2, Nat.and_one_is_mod]
        have e4 : (((s / 2 ^ I) % 2 : Nat) : Int) * 2 ^ x = (((s / 2 ^ I) % 2 * 2 ^ x : Nat) : Int) := by norm_cast
        rw [Nat.shiftRight_eq_div_pow] at hsu
        rw [e3, e4]
        have hb : (s / 2 ^ I) % 2 * 2 ^ x < 64 := by omega
        obtain ⟨z, hz⟩ : ∃ z, z = (s / 2 ^ I) % 2 * 2 ^ x := ⟨_, rfl⟩
        rw [← hz] at hb hsu ⊢
        rw [IntWalk.wrap64_in (z : Int) (by omega), IntWalk.wrap64_in _ (by omega), hsu]
        norm_cast)
      clear hc hx hR hR1 hsu
      go_wp2
      go_round
      case rel => exact ⟨I + 1, by omega, by go_num, by rw [← HR1.out, HE.out]⟩
      case measure => simp [intOf]; omega
    · obtain rfl : I = n := by omega
      go_wp2
      go_ret
      exact ⟨rfl, rfl⟩
set_option maxHeartbeats 2000000 in
theorem l9Shuffle_any (g m : Nat) (w : World) (hc : Cur w g) (hm : m ≤ 7) :
    Calls Tryz.prog 181 #[.pointer (some ⟨g, 0, none⟩), .int .i64 m] w (RetD g w fun v w' => ∃ ad c N, v = .slice ad m c ∧ Own 3 w' w.heap.size ad m c (up N) ∧ N.Nodup ∧ ∀ x ∈ N, x < m) := by
  have hgl := hc.lt
  have HC := Lib.hid hc
  clear hc
  obtain ⟨B, hB⟩ : ∃ B, B = w.heap.size := ⟨_, rfl⟩
  have HBe := Lib.hid hB
  have hgB : g < B := by omega
  have HC0 : Hid (Cur (w.alloc (.cells #[] 3)) g) := Lib.hid (HC.out.alloc _)
  have HO0 : Hid (Own 3 (w.alloc (.cells #[] 3)) B (some ⟨B, 0, none⟩) 0 0 []) := Lib.hid (by rw [hB]; exact Own.empty _ _ _ (Nat.le_refl _))
  have HG0 : Hid (Chg w (w.alloc (.cells #[] 3)) g none) := Lib.hid ((Chg.refl _ _ _).alloc _)
  have hz0 : B ≤ (w.alloc (.cells #[] 3)).heap.size := by rw [hB]; simp
  obtain ⟨W0, hW0⟩ : ∃ W0, W0 = w.alloc (.cells #[] 3) := ⟨_, rfl⟩
  rw [← hW0] at HC0 HO0 HG0 hz0
  have HW0 := Lib.hid hW0
  clear hB hW0
  go_enter Tryz.func181, Tryz.ntmps181
  go_wp2_with fail
  rw [← HW0.out, ← HBe.out]
  go_loopw [5, 6, 7, 8] (fun o i _ _ wr => ∃ (I c gO : Nat) (N : List Nat), I ≤ m ∧ i = .int .i64 I ∧ o = .slice (some ⟨gO, 0, none⟩) I c ∧ Own 3 wr B (some ⟨gO, 0, none⟩) I c (up N) ∧ N.Nodup ∧ (∀ x ∈ N, x < I) ∧ Chg w wr g none ∧ Cur wr g ∧ B ≤ wr.heap.size) (fun _ i _ _ _ => m - (intOf i).toNat)
  case atStart => exact ⟨0, 0, B, [], Nat.zero_le _, rfl, rfl, HO0.out, List.nodup_nil, by simp, HG0.out, HC0.out, hz0⟩
  case round =>
    clear HC0 HO0 HG0 hz0 HC
    obtain ⟨wo, rfl⟩ : ∃ x : World, x = wr := ⟨_, rfl⟩
    obtain ⟨I, c, gO, N, hI, rfl, rfl, hown, hnd, hlt, hchg, hcur, hsz⟩ := hrel
    have HO := Lib.hid hown; have HN := Lib.hid hnd; have HL := Lib.hid hlt; have HG := Lib.hid hchg; have HC := Lib.hid hcur
    clear hown hnd hlt hchg hcur
    by_cases hIm : I < m
    · have hIi : (I : Int) < m := by omega
      go_wp2_with fail
      refine (l1Below_any g ((I : Int) + 1) wo HC.out (by omega)).mono ?_
      rintro e w1 ⟨v, rfl, ⟨x, hx, _, rfl⟩, hg1, hc1⟩
      have hxI : x ≤ I := by have := hx (by omega); omega
      have HO1 := Lib.hid (Own.chgW HO.out hg1 hgB); have HG1 := Lib.hid (HG.out.trans hg1); have HC1 := Lib.hid hc1
      have hz1 : B ≤ w1.heap.size := Nat.le_trans hsz hg1.size
      have hlen : N.length = I := by have := HO.out.len; rwa [up_len] at this
      clear hg1 hc1 hx
      have hcap := HO1.out.cap
      have hx0 : (0 : Int) ≤ x := by omega
      have hxi : (x : Int) ≤ I := by omega
      have hxc : (x : Int) ≤ c := by omega
      have HE := Lib.hid (Own.empty 3 w1 w1.heap.size (Nat.le_refl _))
      have hgO := (HO1.out.lt gO rfl).2
      have hbe : Below w1.heap.size w1 (w1.alloc (.cells #[] 3)) := (Below.refl _ _).alloc (Nat.le_refl _) _
      have HX1 : Hid (IntsAt (w1.alloc (.cells #[] 3)) (some ⟨gO, x, none⟩) (I - x) ((up N).drop x)) := Lib.hid (by
        have h := (HO1.out.reads.keep hbe).drop hxI
        rwa [Nat.zero_add] at h)
      have HX2 : Hid (x = c → IntsAt (w1.alloc (.cells #[] 3)) (some ⟨gO, 0, none⟩) 0 ((up N).drop x)) := Lib.hid fun h => by
        have h1 : (up N).drop x = [] := List.drop_eq_nil_of_le (by rw [up_len]; omega)
        rw [h1]
        exact ⟨rfl, by omega, fun h => absurd h (Nat.lt_irrefl _)⟩
      clear hbe
      by_cases hxl : x < c
      · have hxl2 : (x : Int) < c := by omega
        have hxe : ((x : Int) == (c : Int)) = false := by simp; omega
        have hxe2 : ¬ x = c := by omega
        go_wp2_with (first
          | (at_builtin; refine list_ap rfl _ _ rfl w1.heap.size _ _ _ _ rfl HE.out (some ⟨gO, x, none⟩) _ _ _ rfl HX1.out ⟨by omega, fun h => by cases h⟩ (by omega) (by simp) ?_; intro ad2 c2 w2 hown2 hb2; have HR2 : Hid (Own 3 w2 w1.heap.size ad2 (I - x) c2 ((up N).drop x)) := Lib.hid (by rw [Nat.zero_add, List.nil_append] at hown2; exact hown2); have HB2 : Hid (Below w1.heap.size w1 w2) := Lib.hid (((Below.refl _ _).alloc (Nat.le_refl _) _).trans hb2); have HO2 := Lib.hid (HO1.out.keep HB2.out); have hz2 : w1.heap.size ≤ w2.heap.size := HB2.out.size; clear hown2 hb2)
          | (at_builtin; refine ap_g rfl _ _ rfl B _ _ _ _ _ rfl (HO2.out.take hxI) rfl (by omega) (by omega) ?_; intro ad3 c3 w3 hown3 hb3 hg3; have HO3 := Lib.hid hown3; have HB3 := Lib.hid hb3; have HR3 := Lib.hid (HR2.out.grownNe hg3 fun k hk k2 hk2 e => by have h1 := (HR2.out.lt k2 hk2).1; simp [Value.ownBlock] at hk; omega); have hz3 : w2.heap.size ≤ w3.heap.size := hg3.size; clear hown3 hb3 hg3)
          | (at_builtin; refine list_ap rfl _ _ rfl B _ _ _ _ rfl HO3.out _ _ _ _ rfl HR3.out.reads HR3.out.fit (by omega) (by omega) ?_; intro ad4 c4 w4 hown4 hb4; have HO4 := Lib.hid hown4; have HB4 := Lib.hid ((HB2.out.mono hz1).trans (HB3.out.trans hb4)); have hz4 : B ≤ w4.heap.size := Nat.le_trans (by omega) hb4.size; clear hown4 hb4))
        obtain ⟨g4, hg4, _, _, _, _⟩ := Row.cells HO4.out (by omega)
        subst hg4
        have HN4 := Lib.hid (ins_ok (a := x) HN.out HL.out)
        have HG4 : Hid (Chg w w4 g none) := Lib.hid (HG1.out.upto (by rw [← HBe.out]; exact HB4.out))
        have HC4 := Lib.hid (HC1.out.keep (HB4.out.mono (by omega)))
        have HO5 : Hid (Own 3 w4 B (some ⟨g4, 0, none⟩) (I + 1) c4 (up (N.take x ++ [I] ++ N.drop x))) := Lib.hid (by
          have h := HO4.out
          rw [show x + 1 + (I - x) = I + 1 by omega] at h
          simpa [up, List.map_take, List.map_drop] using h)
        go_roundw
        case rel => exact ⟨I + 1, c4, g4, N.take x ++ [I] ++ N.drop x, by omega, by go_num, by first | rfl | (simp; omega), HO5.out, HN4.out.1, HN4.out.2, HG4.out, HC4.out, hz4⟩
        case measure => simp [intOf]; omega
      · have hcx : c = x := by omega
        have hIx : I = x := by omega
        subst hcx; subst hIx
        have HB2 : Hid (Below w1.heap.size w1 (w1.alloc (.cells #[] 3))) := Lib.hid ((Below.refl _ _).alloc (Nat.le_refl _) _)
        have HO2 := Lib.hid (HO1.out.keep HB2.out)
        have HR2 : Hid (Own 3 (w1.alloc (.cells #[] 3)) w1.heap.size (some ⟨w1.heap.size, 0, none⟩) 0 0 ((up N).drop I)) := Lib.hid (by
          have h1 : (up N).drop I = [] := List.drop_eq_nil_of_le (by rw [up_len]; omega)
          rw [h1]; exact HE.out)
        have hz2 : w1.heap.size ≤ (w1.alloc (.cells #[] 3)).heap.size := HB2.out.size
        obtain ⟨w2, hw2⟩ : ∃ w2, w2 = w1.alloc (.cells #[] 3) := ⟨_, rfl⟩
        have HW2 := Lib.hid hw2
        rw [← hw2] at HB2 HO2 HR2 hz2
        clear hw2
        go_upto_region 7 with fail
        rw [← HW2.out]
        go_wp2_with (first
          | (at_builtin; refine ap_g rfl _ _ rfl B _ _ _ _ _ rfl (HO2.out.take hxI) rfl (by omega) (by omega) ?_; intro ad3 c3 w3 hown3 hb3 hg3; have HO3 := Lib.hid hown3; have HB3 := Lib.hid hb3; have HR3 := Lib.hid (HR2.out.grownNe hg3 fun k hk k2 hk2 e => by have h1 := (HR2.out.lt k2 hk2).1; simp [Value.ownBlock] at hk; omega); have hz3 : w2.heap.size ≤ w3.heap.size := hg3.size; clear hown3 hb3 hg3)
          | (at_builtin; refine list_ap rfl _ _ rfl B _ _ _ _ rfl HO3.out _ _ _ _ rfl HR3.out.reads HR3.out.fit (by omega) (by omega) ?_; intro ad4 c4 w4 hown4 hb4; have HO4 := Lib.hid hown4; have HB4 := Lib.hid ((HB2.out.mono hz1).trans (HB3.out.trans hb4)); have hz4 : B ≤ w4.heap.size := Nat.le_trans (by omega) hb4.size; clear hown4 hb4))
        obtain ⟨g4, hg4, _, _, _, _⟩ := Row.cells HO4.out (by omega)
        subst hg4
        have HN4 := Lib.hid (ins_ok (a := I) HN.out HL.out)
        have HG4 : Hid (Chg w w4 g none) := Lib.hid (HG1.out.upto (by rw [← HBe.out]; exact HB4.out))
        have HC4 := Lib.hid (HC1.out.keep (HB4.out.mono (by omega)))
        have HO5 : Hid (Own 3 w4 B (some ⟨g4, 0, none⟩) (I + 1) c4 (up (N.take I ++ [I] ++ N.drop I))) := Lib.hid (by
          have h := HO4.out
          rw [Nat.add_zero] at h
          simpa [up, List.map_take, List.map_drop] using h)
        go_roundw
        case rel => exact ⟨I + 1, c4, g4, N.take I ++ [I] ++ N.drop I, by omega, by go_num, by first | rfl | (simp; omega), HO5.out, HN4.out.1, HN4.out.2, HG4.out, HC4.out, hz4⟩
        case measure => simp [intOf]; omega
    · obtain rfl : I = m := by omega
      have hII : ¬ ((I : Int) < I) := by omega
      go_wp2_with fail
      go_ret
      have HOw : Hid (Own 3 wo w.heap.size (some ⟨gO, 0, none⟩) I c (up N)) := Lib.hid (by rw [← HBe.out]; exact HO.out)
      exact ⟨_, rfl, ⟨_, c, rfl, N, HOw.out, HN.out, HL.out⟩, HG.out, HC.out⟩
/-- a complex alone, its sets below 64 -/
def RetCx9 (w : World) (p : Int) (e : Ending) (w' : World) : Prop := ∃ ad n c ys, e = .returned (.agg #[.int .i64 p, .slice ad n c]) ∧ Own 3 w' w.heap.size ad n c (up ys) ∧ ys.length ≤ 64 ∧ Below w.heap.size w w'
set_option maxHeartbeats 2000000 in
theorem l9Complex_any (p : Int) (a : Option Addr) (n c : Nat) (l : List Nat) (a' : Option Addr) (m c' : Nat) (N : List Nat) (w : World) (h : IntsAt w a n (up l)) (h' : IntsAt w a' m (up N)) (hl : ∀ t ∈ l, t < 64) (hn : N.Nodup) (h6 : ∀ x ∈ N, x < 6) (hm : m ≤ 6) (hnn : n ≤ 2000) :
    Calls Tryz.prog 192 #[.agg #[.int .i64 p, .slice a n c], .slice a' m c'] w (RetCx9 w p) := by
  obtain ⟨G, hG⟩ : ∃ G, G = w.heap.size := ⟨_, rfl⟩
  obtain ⟨w0, hw0⟩ : ∃ w0, w0 = ((w.alloc (.cells #[.int .i64 p, .slice a n c] 32)).alloc (.cells #[.int .i64 0, .slice none 0 0] 32)) := ⟨_, rfl⟩
  have hz0 : w0.heap.size = G + 2 := by rw [hw0, hG]; simp
  have HB0 : Hid (Below w.heap.size w w0) := Lib.hid (by rw [hw0]; exact (by repeat (first | exact Below.refl _ _ | assumption | refine Below.setCell ?_ (by first | omega | (simp; done) | (simp; omega)) _ | refine Below.alloc ?_ (by first | omega | (simp; done) | (simp; omega)) _ | apply Below.drew)))
  have Hx : Hid (IntsAt w0 a n (up l)) := Lib.hid (by rw [hw0]; exact h.keep (by repeat (first | exact Below.refl _ _ | assumption | refine Below.setCell ?_ (by first | omega | (simp; done) | (simp; omega)) _ | refine Below.alloc ?_ (by first | omega | (simp; done) | (simp; omega)) _ | apply Below.drew)))
  have Hy : Hid (IntsAt w0 a' m (up N)) := Lib.hid (by rw [hw0]; exact h'.keep (by repeat (first | exact Below.refl _ _ | assumption | refine Below.setCell ?_ (by first | omega | (simp; done) | (simp; omega)) _ | refine Below.alloc ?_ (by first | omega | (simp; done) | (simp; omega)) _ | apply Below.drew)))
  have XA : Hid (BoxF w0 G (.int .i64 p) (.slice a n c)) := Lib.hid (by rw [hw0, hG]; exact (BoxF.new w _ _ _).alloc _)
  have XR : Hid (BoxF w0 (G + 1) (.int .i64 0) (.slice none 0 0)) := Lib.hid (by
    rw [hw0, hG, show w.heap.size + 1 = (w.alloc (.cells #[.int .i64 p, .slice a n c] 32)).heap.size by simp]
    exact BoxF.new _ _ _ _)
  have HW0 := Lib.hid hw0; have HGe := Lib.hid hG; have Hl := Lib.hid hl; have HN := Lib.hid hn; have H6 := Lib.hid h6
  have Hll : Hid (l.length = n) := Lib.hid (by have := h.len; rwa [up_len] at this)
  have Hnl : Hid (N.length = m) := Lib.hid (by have := h'.len; rwa [up_len] at this)
  have HRt : Hid (w.heap.size = G) := Lib.hid hG.symm
  clear hw0 hG h h' hl hn h6
  go_enter Tryz.func192, Tryz.ntmps192
  go_wp2_with fail
  rw [← HGe.out]
  have hw1 : (w.alloc (.cells #[.int .i64 p, .slice a n c] 32)).heap.size = G + 1 := by rw [HGe.out]; simp
  rw [← HW0.out]
  go_loopw [5, 6] (fun o i wr => ∃ (I k : Nat) (ad : Option Addr) (L : List Nat), I ≤ n ∧ i = .int .i64 I ∧ o = .slice ad I k ∧ Own 3 wr w0.heap.size ad I k (up L) ∧ (∀ t ∈ L, t < 64) ∧ Below w0.heap.size w0 wr) (fun _ i _ => n - (intOf i).toNat)
  case atStart => exact ⟨0, 0, _, [], Nat.zero_le _, rfl, by first | rfl | (rw [hz0]; rfl) | (simp [hz0]; done), by have h1 := Own.empty 3 w0 w0.heap.size (Nat.le_refl _); have e : (⟨w0.heap.size, 0, none⟩ : Addr) = ⟨G + 1 + 1, 0, none⟩ := (by rw [hz0]); rw [e] at h1; exact h1, by simp, (by repeat (first | exact Below.refl _ _ | assumption | refine Below.setCell ?_ (by first | omega | (simp; done) | (simp; omega)) _ | refine Below.alloc ?_ (by first | omega | (simp; done) | (simp; omega)) _ | apply Below.drew))⟩
  case round =>
    obtain ⟨I, k, ad, L, hI, rfl, rfl, hown, hL, hb⟩ := hrel
    have HO := Lib.hid hown; have HL := Lib.hid hL; have HB := Lib.hid hb
    have hzr : w0.heap.size ≤ wr.heap.size := hb.size
    have hx := Hx.out.keep hb
    have Hyr := Lib.hid (Hy.out.keep hb)
    have XAr := Lib.hid (XA.out.keep hb (by omega)); have XRr := Lib.hid (XR.out.keep hb (by omega))
    obtain ⟨p0, p1, _, _, _⟩ := XAr.out
    clear hown hL hb
    by_cases hlt : I < n
    · obtain ⟨b1, o1, rfl, hc⟩ := hx.cells (by omega)
      have hck := hc I hlt
      rw [nth_up] at hck
      have ht64 := Hl.out _ (nthN_mem (xs := l) (k := I) (by rw [Hll.out]; exact hlt))
      obtain ⟨t, ht⟩ : ∃ t, t = nthN l I := ⟨_, rfl⟩
      rw [← ht] at hck ht64
      have HS : Hid (∀ W, IntsAt W a' m (up N) → Calls Tryz.prog 211 #[.int .i64 t, .slice a' m c'] W fun e w' => e = .returned (.int .i64 (renTo t N m)) ∧ W = w') := Lib.hid fun W hW => l9Set_any t a' m c' N W hW ht64 HN.out H6.out hm
      have hr := ren_lt (s := t) HN.out H6.out (k := m) (by rw [Hnl.out]; omega)
      obtain ⟨r, hre⟩ : ∃ r, r = renTo t N m := ⟨_, rfl⟩
      rw [← hre] at HS hr
      have hI0 : (0 : Int) ≤ I := by omega
      have hIn : (I : Int) < n := by omega
      clear hc hx ht hre
      go_wp2_with (first | (go_at_call 211; (with_reducible refine (HS.out _ Hyr.out).mono ?_); rintro e w' ⟨rfl, rfl⟩) | (at_builtin; refine ap rfl _ _ rfl w0.heap.size _ _ _ _ _ rfl HO.out rfl (by omega) hzr ?_; intro ad5 d5 w5 hown5 hb5; have HO5 := Lib.hid hown5; have HB5 := Lib.hid (HB.out.trans hb5); clear hown5 hb5))
      go_roundw
      case rel => exact ⟨I + 1, d5, ad5, L ++ [r], by omega, by go_num, rfl, by rw [up_append]; exact HO5.out, fun x hx => (List.mem_append.1 hx).elim (HL.out x) (fun h => by rw [List.mem_singleton.1 h]; exact hr), HB5.out⟩
      case measure => simp [intOf]; omega
    · obtain rfl : I = n := by omega
      have hII : ¬ ((I : Int) < I) := by omega
      have HX2 := Lib.hid (HO.out.reads.keep (w' := wr.drew) (Below.refl _ _).drew)
      go_wp2_with fail
      go_region_held3 (fun W => W.cell? ⟨G, 0, none⟩ = some (.int .i64 p)) (first | exact p0 | exact y0 | go_keep) (first
        | (go_simp; go_at_call 109; (with_reducible refine (l2Order_any ad I k L _ HX2.out HL.out).mono ?_); rintro e w6 ⟨aO, nO, cO, rfl, ownO, hb6⟩; have HB6 : Hid (Below w0.heap.size w0 w6) := Lib.hid (HB.out.drew.trans (hb6.mono hzr)); have HO6 := Lib.hid ownO; have XR6 := Lib.hid (XR.out.keep HB6.out (by omega)); (obtain ⟨y0, y1, _, _, _⟩ := XA.out.keep HB6.out (by omega)); (obtain ⟨r0, r1, rf0, rf1, _⟩ := XR6.out); clear hb6 ownO))
      all_goals (
        go_wp2_with fail
        have hl6 : (ord L.contains).length ≤ 64 := ord_len _
        refine bodyPost_ret (v := .agg #[.int .i64 p, .slice aO nO cO]) (by simp [results, Tryz.results192, go_sem, r0, r1]) rfl ⟨aO, nO, cO, ord L.contains, rfl, ?_, hl6, ?_⟩
        · rw [HRt.out]; exact Row.mono (Row.setBelow (Row.setBelow HO6.out _ (by first | omega | (simp; omega))) _ (by first | omega | (simp; omega))) (by first | omega | (simp; omega))
        · exact ((HB0.out.trans (HB6.out.mono HB0.out.size)).setCell (by rw [HRt.out]; simp) _).setCell (by rw [HRt.out]; simp) _)
end Go.Proofs.YtihfhfihladlcaaGreatDoor

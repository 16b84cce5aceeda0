/- SetsText of the program, on the shelf's strings.Join. -/
import Derived.Test.YtihfhfihladlcaaGreatDoorSet3
import Derived.Test.YtihfhfihladlcaaGreatDoorShelf
namespace Go.Proofs.YtihfhfihladlcaaGreatDoor
set_option maxRecDepth 20000
open Go.RowKit
set_option linter.unusedSimpArgs false
set_option linter.unusedVariables false

theorem comma_len : ∀ (n : Nat) (L : List (List UInt8)), L.length = n → (∀ x ∈ L, x.length ≤ 6) → (comma L).length ≤ 7 * n
  | 0, L, h, _ => by
    obtain rfl := List.length_eq_zero_iff.1 h
    simp [comma, Lib.join_nil]
  | n + 1, L, h, hx => by
    have hne : L ≠ [] := by rintro rfl; simp at h
    have e := List.dropLast_concat_getLast hne
    have hd : L.dropLast.length = n := by rw [List.length_dropLast, h]; rfl
    have hl := hx _ (List.getLast_mem hne)
    have ih := comma_len n L.dropLast hd fun x m => hx x (List.dropLast_subset _ m)
    by_cases h0 : L.dropLast = []
    · rw [h0] at e
      rw [← e, List.nil_append, comma_one]; omega
    · rw [← e, comma_snoc h0, List.length_append, List.length_append, List.length_singleton]; omega

/-- make of a list of texts, none yet, with room for n -/
theorem mk_strs0 {ops : Array Oper} {rest : List Oper} {o : Oper} {a : Act} {Q : Exit → Act → World → Prop} {w : World} (hgd : o.guard = none) (l c : Operand) (ho : o.op = Op.makeSlice 99 l c)
    (C : Int) (hl : a.eval l = .int .i64 0) (hc : a.eval c = .int .i64 C) (n : Nat) (hC : C = (n : Int)) (hn : n < 1099511627776)
    (h : ∀ g w', Row 9 w' w.heap.size (some ⟨g, 0, none⟩) 0 n (([] : List ByteArray).map Value.string) → Below w.heap.size w w' → wpList Tryz.prog ops Q rest (a.put o.dst (.slice (some ⟨g, 0, none⟩) 0 n)) w') :
    wpList Tryz.prog ops Q (o :: rest) a w := by
  obtain ⟨i0, hi, hz0, hz1, hz2⟩ := info_parts infoText
  refine wpList_make_own w hgd l c 99 ho w.heap.size 9 i0 (.string ByteArray.empty) 1 Tryz.underlying99 hi hz0 hz1 .i64 .i64 C n hl hc hC (by rw [hz2]; omega) (by unfold maxLen; omega) (Nat.le_refl _) ?_
  intro w' hrow hg
  exact h _ w' ⟨rfl, hrow⟩ ((Below.refl _ _).grown hg (Nat.le_refl _) (fun k hk => by cases hk))

theorem iJoin_any (a : Option Addr) (n c B : Nat) (S : List ByteArray) (w : World) (h : Row 9 w B a n c (S.map Value.string)) (hn : n ≤ 1000) (hS : ∀ s ∈ S, s.size ≤ 6) :
    Calls Tryz.prog 176 #[.slice a n c, .string ⟨#[44]⟩] w fun e w' => e = .returned (.string ⟨(comma (S.map (·.data.toList))).toArray⟩) ∧ Below w.heap.size w w' := by
  have hl : S.length = n := by have := h.len; simpa using this
  by_cases h0 : n = 0
  · subst h0
    obtain rfl := List.length_eq_zero_iff.1 hl
    refine (Tryz.strings_Join_none a c ⟨#[44]⟩ w).mono ?_
    rintro e w' ⟨rfl, rfl⟩
    exact ⟨by simp [comma, Lib.join_nil], Below.refl _ _⟩
  · obtain ⟨g, hg, hlt, hcap, hc, _⟩ := h.cells (by omega)
    subst hg
    subst hl
    refine Tryz.strings_Join g 0 c S ⟨#[44]⟩ w ?_ ?_ ?_ ?_ ?_
    · intro j x hx
      obtain ⟨hj, rfl⟩ := List.getElem?_eq_some_iff.1 hx
      rw [Nat.zero_add, hc j hj, List.getElem?_map, List.getElem?_eq_getElem hj]; rfl
    · exact (h.lt g rfl).2
    · omega
    · rcases h.cur with ⟨_, h1, _⟩ | ⟨_, _, _, _, _, hnc, _⟩
      · omega
      · exact hnc
    · have := comma_len _ (S.map (·.data.toList)) rfl (fun x m => by
        obtain ⟨s, hs, rfl⟩ := List.mem_map.1 m
        have := hS s hs
        simpa using this)
      rw [List.length_map] at this
      exact Nat.le_trans this (by omega)
set_option maxHeartbeats 400000 in
theorem iSetsText_any (a : Option Addr) (n c : Nat) (l : List Nat) (w : World) (h : IntsAt w a n (up l)) (hn : n ≤ 1000) (hl : ∀ t ∈ l, t < 64) :
    Calls Tryz.prog 105 #[.slice a n c] w fun e w' => e = .returned (.string (str (setsText l))) ∧ Below w.heap.size w w' := by
  have Hh := Lib.hid h
  have hlen : Hid (l.length = n) := Lib.hid (by have := h.len; rwa [up_len] at this)
  have Hl := Lib.hid hl
  clear h hl
  go_enter Tryz.func105, Tryz.ntmps105
  go_wp2_with (at_make; refine mk_strs0 rfl _ _ rfl _ rfl rfl n rfl (by omega) ?_; intro g0 w0 hrow0 hb0; have HE := Lib.hid hrow0; have HB0 := Lib.hid hb0; clear hrow0 hb0)
  go_loopw [3, 11] (fun o i wr => ∃ (I k d : Nat) (ad : Option Addr), I ≤ n ∧ i = .int .i64 I ∧ o = .slice ad k d ∧ k = I ∧ Row 9 wr w.heap.size ad k d (((l.take I).map setBA).map Value.string) ∧ Below w.heap.size w wr) (fun _ i _ => n - (intOf i).toNat)
  case atStart => exact ⟨0, 0, _, _, Nat.zero_le _, rfl, rfl, rfl, HE.out, HB0.out⟩
  case round =>
    obtain ⟨I, k, d, ad, hI, rfl, rfl, hk, hrow, hbr⟩ := hrel
    subst hk
    have HR := Lib.hid hrow; have HBr := Lib.hid hbr
    have hzr : w.heap.size ≤ wr.heap.size := hbr.size
    clear hrow hbr
    by_cases hlt : k < n
    · obtain ⟨b, off, rfl, hc⟩ := (Hh.out.keep HBr.out).cells (by omega)
      have hck := hc k hlt
      rw [nth_up] at hck
      have hIl : k < l.length := by rw [hlen.out]; exact hlt
      obtain ⟨t, ht⟩ : ∃ t, t = nthN l k := ⟨_, rfl⟩
      rw [← ht] at hck
      have ht64 : t < 64 := by rw [ht]; exact Hl.out _ (nthN_mem hIl)
      have Htk : Hid ((l.take (k + 1)).map setBA = (l.take k).map setBA ++ [str (setText t)]) := Lib.hid (by rw [nthN_take _ _ hIl, List.map_append, ← ht]; rfl)
      have hIi : (k : Int) < n := by omega
      clear hc ht
      go_wp2_with (first | (go_at_call 175; (with_reducible refine (iSetText_yes t _ ht64).mono ?_); rintro e w4 ⟨rfl, hb4⟩; have HR4 := Lib.hid (HR.out.keep hb4); have HB4 := Lib.hid (HBr.out.trans (hb4.mono hzr)); have hz4 : w.heap.size ≤ w4.heap.size := HB4.out.size; clear hb4) | (at_builtin; refine ap_strs rfl _ _ rfl w.heap.size _ _ _ _ _ rfl HR4.out rfl (by omega) hz4 ?_; intro ad5 d5 w5 hrow5 hb5; have HR5 := Lib.hid hrow5; have HB5 := Lib.hid (HB4.out.trans hb5); clear hrow5 hb5))
      go_roundw
      case rel => exact ⟨k + 1, k + 1, d5, ad5, by omega, by go_num, rfl, rfl, by rw [Htk.out]; exact HR5.out, HB5.out⟩
      case measure => simp [intOf]; omega
    · obtain rfl : k = n := by omega
      have hIi : ¬ ((k : Int) < k) := by omega
      have hall : l.take k = l := List.take_of_length_le (by rw [hlen.out]; exact Nat.le_refl _)
      have hR := HR.out
      rw [hall] at hR
      have HRl := Lib.hid hR
      clear hall hR
      go_wp2_with fail
      refine (iJoin_any ad k d _ _ wr HRl.out hn (fun s hs => by obtain ⟨t, _, rfl⟩ := List.mem_map.1 hs; exact setBA_size t)).mono ?_
      rw [setsBA]
      rintro e w6 ⟨rfl, hb6⟩
      have HB6 := Lib.hid (HBr.out.trans (hb6.mono hzr))
      clear hb6
      go_wp2_with fail
      go_ret
      exact ⟨rfl, HB6.out⟩
end Go.Proofs.YtihfhfihladlcaaGreatDoor

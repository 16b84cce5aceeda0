/- Texts of this claim, one behind the other: what each says stands at its head. -/
import Derived.Test.YtbdnlncpamandaaCore
import Derived.Test.YtbdnlncpamandaaSet3
import Derived.Test.YtbdnlncpamandaaStr
/- Reading a number: l1Read and ParseInt of the reference. -/
namespace Go.Proofs.Ytbdnlncpamandaa
set_option maxRecDepth 20000
open Go.RowKit
set_option linter.unusedSimpArgs false
set_option linter.unusedVariables false

/-- a number was read out of the text, at most if ok; a digit was the text itself -/
def RetRead (t : ByteArray) (w : World) (e : Ending) (w' : World) : Prop :=
  ∃ (n : Int) (ok : Bool), e = .returned (.tuple #[.int .i64 n, .bool ok]) ∧ (ok = true → 1 ≤ n → n ≤ 9 → byt t = [UInt8.ofNat (48 + n.toNat)]) ∧ Below w.heap.size w w'
set_option maxHeartbeats 1000000 in
theorem sRead_any (t : ByteArray) (w : World) (ht : t.size ≤ 1048576) : Calls Try.prog 150 #[.string t, .int .i64 12] w (RetRead t w) := by
  by_cases h0 : 0 < t.size
  · by_cases hb : t[0].toNat = 45
    · have hq : ((t[0].toNat : Int) == 45) = true := by rw [hb]; rfl
      obtain ⟨u, hu⟩ : ∃ u, t.extract 1 t.size = u := ⟨_, rfl⟩
      have hus : u.size = t.size - 1 := by rw [← hu, ByteArray.size_extract]; omega
      clear hb
      by_cases h1 : u.size < 1
      · have h1i : (u.size : Int) < 1 := by omega
        go_enter Try.func150, Try.ntmps150
        go_wp2_with fail
        go_ret2
        exact ⟨0, false, rfl, (fun h => by cases h), Below.refl _ _⟩
      · by_cases h12 : 12 < u.size
        · have h1i : ¬ ((u.size : Int) < 1) := by omega
          have h2i : 12 < (u.size : Int) := by omega
          go_enter Try.func150, Try.ntmps150
          go_wp2_with fail
          go_ret2
          exact ⟨0, false, rfl, (fun h => by cases h), Below.refl _ _⟩
        · have h1i : ¬ ((u.size : Int) < 1) := by omega
          have h2i : ¬ (12 < (u.size : Int)) := by omega
          go_enter Try.func150, Try.ntmps150
          go_wp2_with fail
          go_loop [8, 9] (fun n i => ∃ I N : Nat, I ≤ u.size ∧ i = .int .i64 I ∧ n = .int .i64 N ∧ N < 1000000000000 ∧ Hid (N < 10 ^ I)) (fun _ i => u.size - (intOf i).toNat)
          case atStart => exact ⟨0, 0, Nat.zero_le _, rfl, rfl, by omega, Lib.hid (by simp)⟩
          case round =>
            obtain ⟨I, N, hI, rfl, rfl, hN, hp⟩ := hrel
            by_cases hlt : I < u.size
            · have hpw : (10 : Nat) ^ I ≤ 10 ^ 11 := Nat.pow_le_pow_right (by omega) (by omega)
              have hN11 : N < 100000000000 := by have := hp.out; omega
              have hx256 : u[I].toNat < 256 := UInt8.toNat_lt _
              by_cases hr : 48 ≤ u[I].toNat ∧ u[I].toNat ≤ 57
              · obtain ⟨h97, h102⟩ := hr
                obtain ⟨y, hy⟩ : ∃ y, y = u[I].toNat - 48 := ⟨_, rfl⟩
                have hty : u[I].toNat = y + 48 := by omega
                have hy6 : y < 10 := by omega
                have Hp2 : Hid (10 * N + y < 10 ^ (I + 1)) := Lib.hid (by rw [Nat.pow_succ]; have := hp.out; omega)
                clear hy hpw
                go_wp2_with fail
                go_round
                case rel => exact ⟨I + 1, 10 * N + y, by omega, by go_num, by go_num, by omega, Hp2⟩
                case measure => simp [intOf]; omega
              · by_cases h97 : u[I].toNat < 48
                · have a1 : (u[I].toNat : Int) < 48 := by omega
                  clear hr
                  go_wp2_with fail
                  go_ret2
                  exact ⟨0, false, rfl, (fun h => by cases h), Below.refl _ _⟩
                · have a1 : ¬ ((u[I].toNat : Int) < 48) := by omega
                  have a2 : 57 < (u[I].toNat : Int) := by omega
                  clear hr
                  go_wp2_with fail
                  go_ret2
                  exact ⟨0, false, rfl, (fun h => by cases h), Below.refl _ _⟩
            · obtain rfl : I = u.size := by omega
              have hf := sFormat_any (-(N : Int)) w (by omega) (by omega)
              have Hf := Lib.hid hf
              clear hf
              go_wp2_with fail
              refine Hf.out.mono ?_
              rintro e w2 ⟨t2, rfl, hb2⟩
              have HB2 := Lib.hid hb2; clear hb2
              cases hq2 : (t2.toList == t.toList)
              · have hq3 : (t2.toList != t.toList) = true := by rw [bne, hq2]; rfl
                go_wp2_with fail
                go_ret2
                exact ⟨0, false, rfl, (fun h => by cases h), HB2.out⟩
              · have hq3 : (t2.toList != t.toList) = false := by rw [bne, hq2]; rfl
                go_wp2_with fail
                go_ret2
                exact ⟨_, true, rfl, (fun _ h _ => by omega), HB2.out⟩
    · have hq : ((t[0].toNat : Int) == 45) = false := by simp; omega
      clear hb
      obtain ⟨u, hu⟩ : ∃ u, u = t := ⟨_, rfl⟩
      subst hu
      have h1i : ¬ ((u.size : Int) < 1) := by omega
      by_cases h12 : 12 < u.size
      · have h2i : 12 < (u.size : Int) := by omega
        go_enter Try.func150, Try.ntmps150
        go_wp2_with fail
        go_ret2
        exact ⟨0, false, rfl, (fun h => by cases h), Below.refl _ _⟩
      · have h2i : ¬ (12 < (u.size : Int)) := by omega
        go_enter Try.func150, Try.ntmps150
        go_wp2_with fail
        go_loop [8, 9] (fun n i => ∃ I N : Nat, I ≤ u.size ∧ i = .int .i64 I ∧ n = .int .i64 N ∧ N < 1000000000000 ∧ Hid (N < 10 ^ I)) (fun _ i => u.size - (intOf i).toNat)
        case atStart => exact ⟨0, 0, Nat.zero_le _, rfl, rfl, by omega, Lib.hid (by simp)⟩
        case round =>
          obtain ⟨I, N, hI, rfl, rfl, hN, hp⟩ := hrel
          by_cases hlt : I < u.size
          · have hpw : (10 : Nat) ^ I ≤ 10 ^ 11 := Nat.pow_le_pow_right (by omega) (by omega)
            have hN11 : N < 100000000000 := by have := hp.out; omega
            have hx256 : u[I].toNat < 256 := UInt8.toNat_lt _
            by_cases hr : 48 ≤ u[I].toNat ∧ u[I].toNat ≤ 57
            · obtain ⟨h97, h102⟩ := hr
              obtain ⟨y, hy⟩ : ∃ y, y = u[I].toNat - 48 := ⟨_, rfl⟩
              have hty : u[I].toNat = y + 48 := by omega
              have hy6 : y < 10 := by omega
              have Hp2 : Hid (10 * N + y < 10 ^ (I + 1)) := Lib.hid (by rw [Nat.pow_succ]; have := hp.out; omega)
              clear hy hpw
              go_wp2_with fail
              go_round
              case rel => exact ⟨I + 1, 10 * N + y, by omega, by go_num, by go_num, by omega, Hp2⟩
              case measure => simp [intOf]; omega
            · by_cases h97 : u[I].toNat < 48
              · have a1 : (u[I].toNat : Int) < 48 := by omega
                clear hr
                go_wp2_with fail
                go_ret2
                exact ⟨0, false, rfl, (fun h => by cases h), Below.refl _ _⟩
              · have a1 : ¬ ((u[I].toNat : Int) < 48) := by omega
                have a2 : 57 < (u[I].toNat : Int) := by omega
                clear hr
                go_wp2_with fail
                go_ret2
                exact ⟨0, false, rfl, (fun h => by cases h), Below.refl _ _⟩
          · obtain rfl : I = u.size := by omega
            have hf : Calls Try.prog 153 #[.int .i64 N] w fun e w' => ∃ t : ByteArray, e = .returned (.string t) ∧ (1 ≤ N → N ≤ 9 → byt t = [UInt8.ofNat (48 + N)]) ∧ Below w.heap.size w w' := by
              by_cases h : 1 ≤ N ∧ N ≤ 9
              · exact (sFormat_small N w h.1 h.2).mono fun e w' ⟨t, h1, h2, h3⟩ => ⟨t, h1, fun _ _ => h2, h3⟩
              · exact (sFormat_any N w (by omega) (by omega)).mono fun e w' ⟨t, h1, h3⟩ => ⟨t, h1, fun a b => absurd ⟨a, b⟩ h, h3⟩
            have Hf := Lib.hid hf
            clear hf
            go_wp2_with fail
            refine Hf.out.mono ?_
            rintro e w2 ⟨t2, rfl, hd2, hb2⟩
            have HB2 := Lib.hid hb2; have HD2 := Lib.hid hd2; clear hb2 hd2
            cases hq2 : (t2.toList == u.toList)
            · have hq3 : (t2.toList != u.toList) = true := by rw [bne, hq2]; rfl
              go_wp2_with fail
              go_ret2
              exact ⟨0, false, rfl, (fun h => by cases h), HB2.out⟩
            · have hq3 : (t2.toList != u.toList) = false := by rw [bne, hq2]; rfl
              have e3 : Hid (byt u = byt t2) := Lib.hid (by
                have e2 : t2.toList = u.toList := by simpa using hq2
                rw [Lib.toList_data, Lib.toList_data] at e2
                exact e2.symm)
              go_wp2_with fail
              go_ret2
              refine ⟨N, true, rfl, fun _ a b => ?_, HB2.out⟩
              have h3 := HD2.out (by omega) (by omega)
              rw [e3.out, h3, Int.toNat_natCast]
  · have hz : t.size = 0 := by omega
    obtain rfl : t = ByteArray.empty := byt_inj ((empty_iff t).1 hz)
    go_enter Try.func150, Try.ntmps150
    go_wp2_with fail
    go_ret2
    exact ⟨0, false, rfl, (fun h => by cases h), Below.refl _ _⟩
set_option maxHeartbeats 1000000 in
theorem sRead_digit (t : ByteArray) (m : Nat) (w : World) (h1 : 1 ≤ m) (h9 : m ≤ 9) (hm : byt t = [UInt8.ofNat (48 + m)]) :
    Calls Try.prog 150 #[.string t, .int .i64 12] w fun e w' => e = .returned (.tuple #[.int .i64 m, .bool true]) ∧ Below w.heap.size w w' := by
  have hs : t.size = 1 := by rw [← byt_len, hm]; rfl
  have h0 : 0 < t.size := by omega
  have hd : t[0].toNat = m + 48 := by
    have := bn_at t 0 h0
    rw [← this, hm]
    show (UInt8.ofNat (48 + m)).toNat = _
    rw [UInt8.toNat_ofNat']; omega
  have hf := fun W => sFormat_small m W h1 h9
  have Hf := Lib.hid hf; have Hm := Lib.hid hm
  have hq : (((m + 48 : Nat) : Int) == 45) = false := by simp; omega
  clear hf hm
  go_enter Try.func150, Try.ntmps150
  go_wp2_with fail
  go_loop [8, 9] (fun n i => ∃ I N : Nat, I ≤ 1 ∧ i = .int .i64 I ∧ n = .int .i64 N ∧ N ≤ 9 ∧ Hid ((I = 0 ∧ N = 0) ∨ (I = 1 ∧ N = m))) (fun _ i => 1 - (intOf i).toNat)
  case atStart => exact ⟨0, 0, by omega, rfl, rfl, by omega, Lib.hid (.inl ⟨rfl, rfl⟩)⟩
  case round =>
    obtain ⟨I, N, hI, rfl, rfl, hN, hcase⟩ := hrel
    by_cases hlt : I < 1
    · obtain rfl : I = 0 := by omega
      have HN : Hid (10 * N + m = m) := Lib.hid (by have := hcase.out; omega)
      clear hcase
      go_wp2_with fail
      exact ⟨⟨_, _, _, _, ⟨1, by omega, rfl, 10 * N + m, by go_num, by rw [HN.out]; exact h9, Lib.hid (.inr ⟨rfl, HN.out⟩)⟩, rfl, rfl, rfl, rfl⟩, by simp [intOf]⟩
    · obtain rfl : I = 1 := by omega
      obtain rfl : N = m := by have := hcase.out; omega
      clear hcase
      go_wp2_with fail
      refine (Hf.out _).mono ?_
      rintro e w2 ⟨t2, rfl, hd2, hb2⟩
      have HB2 := Lib.hid hb2
      have hq2 : (t2.toList == t.toList) = true := by
        rw [Lib.toList_data, Lib.toList_data, beq_iff_eq]
        show byt t2 = byt t
        rw [hd2, Hm.out]
      have hq3 : (t2.toList != t.toList) = false := by rw [bne, hq2]; rfl
      clear hb2 hd2
      go_wp2_with fail
      go_ret2
      exact ⟨rfl, HB2.out⟩
theorem sPint_any (t : ByteArray) (w : World) (ht : t.size ≤ 1048576) : Calls Try.prog 143 #[.string t] w (RetRead t w) := by
  have Ht := Lib.hid ht; clear ht
  go_enter Try.func143, Try.ntmps143
  go_wp2_with fail
  refine (sRead_any t w Ht.out).mono ?_
  rintro e w2 ⟨n, ok, rfl, h1, h2⟩
  have H1 := Lib.hid h1; have H2 := Lib.hid h2; clear h1 h2
  go_wp2_with fail
  go_ret2
  exact ⟨n, ok, rfl, H1.out, H2.out⟩
theorem sPint_digit (t : ByteArray) (m : Nat) (w : World) (h1 : 1 ≤ m) (h9 : m ≤ 9) (hm : byt t = [UInt8.ofNat (48 + m)]) :
    Calls Try.prog 143 #[.string t] w fun e w' => e = .returned (.tuple #[.int .i64 m, .bool true]) ∧ Below w.heap.size w w' := by
  have Hm := Lib.hid hm; clear hm
  go_enter Try.func143, Try.ntmps143
  go_wp2_with fail
  refine (sRead_digit t m w h1 h9 Hm.out).mono ?_
  rintro e w2 ⟨rfl, h2⟩
  have H2 := Lib.hid h2; clear h2
  go_wp2_with fail
  go_ret2
  exact ⟨rfl, H2.out⟩
end Go.Proofs.Ytbdnlncpamandaa

/- Contracts of ParsePoset, the program's and the reference's. -/
namespace Go.Proofs.Ytbdnlncpamandaa
set_option maxRecDepth 20000
open Go.RowKit
set_option linter.unusedSimpArgs false
set_option linter.unusedVariables false

theorem part_size {S : List ByteArray} {b : UInt8} {r : List UInt8} {N : Nat} (h : S.map byt = spl b [] r) (hr : r.length ≤ N) : ∀ i (hi : i < S.length), S[i].size ≤ N := fun i hi => by
  have hm : byt S[i] ∈ spl b [] r := by rw [← h]; exact List.mem_map_of_mem (List.getElem_mem hi)
  have := spl_part r [] _ hm
  rw [byt_len] at this; simp at this; omega
theorem strs_cell {w : World} {B : Nat} {a : Option Addr} {n c : Nat} {S : List ByteArray} (h : Row 9 w B a n c (S.map Value.string)) {i : Nat} (hi : i < n) :
    ∃ g, ∃ h : i < S.length, a = some ⟨g, 0, none⟩ ∧ w.cell? ⟨g, i, none⟩ = some (.string S[i]) := by
  obtain ⟨g, hg, _, _, hc, _⟩ := h.cells (by omega)
  have hl : S.length = n := by have := h.len; simpa using this
  refine ⟨g, by omega, hg, ?_⟩
  rw [hc i hi, List.getElem?_map, List.getElem?_eq_getElem (by omega)]; rfl
theorem poset_none {n : Int} {V : Option (List Nat)} {b : Bool} {C : Prop} (hb : b = true ↔ C ∧ ∃ L, V = some L ∧ PosetP n (up L)) (h : V = none) : b = false := by
  cases b
  · rfl
  · obtain ⟨_, L, hL, _⟩ := hb.1 rfl
    rw [h] at hL; cases hL

end Go.Proofs.Ytbdnlncpamandaa

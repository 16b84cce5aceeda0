/- Parsing an order: plain laws about parts of a text, and parseHead. -/
import Derived.Test.YtpoolkmcbeghjaaCore
import Derived.Test.YtpoolkmcbeghjaaStr2
namespace Go.Proofs.Ytpoolkmcbeghjaa
open Go.RowKit
set_option linter.unusedSimpArgs false
set_option linter.unusedVariables false

theorem spl_none {b : UInt8} : ∀ (r cur : List UInt8), b ∉ r → spl b cur r = [cur ++ r]
  | [], cur, _ => by simp [spl]
  | x :: r, cur, h => by
    have hx : x ≠ b := fun e => h (by rw [e]; exact List.mem_cons_self)
    rw [spl, if_neg hx, spl_none r _ fun e => h (List.mem_cons_of_mem _ e)]
    simp
theorem spl_ne (b : UInt8) : ∀ (r cur : List UInt8), spl b cur r ≠ []
  | [], cur => by simp [spl]
  | x :: r, cur => by rw [spl]; split; simp; exact spl_ne b r _
theorem spl_one {b : UInt8} : ∀ (r cur : List UInt8) {c : List UInt8}, spl b cur r = [c] → c = cur ++ r
  | [], cur, c, h => by simp [spl] at h; simp [h]
  | x :: r, cur, c, h => by
    rw [spl] at h
    split at h
    · simp only [List.cons.injEq] at h
      exact absurd h.2 (spl_ne b r [])
    · rw [spl_one r _ h]; simp
theorem spl_two {b : UInt8} : ∀ (r cur : List UInt8) {a c : List UInt8}, spl b cur r = [a, c] → ∃ a', a = cur ++ a' ∧ r = a' ++ b :: c
  | [], cur, a, c, h => by simp [spl] at h
  | x :: r, cur, a, c, h => by
    rw [spl] at h
    split at h
    · next e =>
      simp only [List.cons.injEq] at h
      obtain ⟨rfl, h⟩ := h
      have := spl_one r [] h
      exact ⟨[], by simp, by rw [e, this]; simp⟩
    · obtain ⟨a', h1, h2⟩ := spl_two r _ h
      exact ⟨x :: a', by rw [h1]; simp, by rw [h2]; simp⟩
theorem spl_more {b : UInt8} : ∀ (r cur : List UInt8), b ∈ r → 2 ≤ (spl b cur r).length
  | [], cur, h => by cases h
  | x :: r, cur, h => by
    rw [spl]
    split
    · have : 0 < (spl b [] r).length := List.length_pos_iff.2 (spl_ne b r [])
      simp; omega
    · next e =>
      rcases List.mem_cons.1 h with h | h
      · exact absurd h.symm e
      · exact spl_more r _ h
theorem spl_bytes {b : UInt8} : ∀ (r cur : List UInt8), (∀ x ∈ cur, ∃ p ∈ spl b cur r, x ∈ p) ∧ ∀ x ∈ r, x = b ∨ ∃ p ∈ spl b cur r, x ∈ p
  | [], cur => ⟨fun x hx => ⟨cur, by simp [spl], hx⟩, fun x hx => by cases hx⟩
  | y :: r, cur => by
    rw [spl]
    split
    · next e =>
      obtain ⟨_, h2⟩ := spl_bytes (b := b) r []
      refine ⟨fun x hx => ⟨cur, List.mem_cons_self, hx⟩, fun x hx => ?_⟩
      rcases List.mem_cons.1 hx with rfl | hx
      · exact .inl e
      · rcases h2 x hx with h | ⟨p, hp, hxp⟩
        · exact .inl h
        · exact .inr ⟨p, List.mem_cons_of_mem _ hp, hxp⟩
    · obtain ⟨h1, h2⟩ := spl_bytes (b := b) r (cur ++ [y])
      refine ⟨fun x hx => h1 x (List.mem_append_left _ hx), fun x hx => ?_⟩
      rcases List.mem_cons.1 hx with rfl | hx
      · exact .inr (h1 x (List.mem_append_right _ (by simp)))
      · exact h2 x hx
theorem spl_part {b : UInt8} : ∀ (r cur : List UInt8), ∀ p ∈ spl b cur r, p.length ≤ cur.length + r.length
  | [], cur, p, hp => by simp [spl] at hp; simp [hp]
  | y :: r, cur, p, hp => by
    rw [spl] at hp
    split at hp
    · rcases List.mem_cons.1 hp with rfl | hp
      · simp
      · have := spl_part r [] p hp; simp at this ⊢; omega
    · have := spl_part r _ p hp; simp at this ⊢; omega
theorem psv_bytes {l : List UInt8} {s : Nat} (h : psv l = some s) : ∀ x ∈ l, x ≠ 58 := by
  unfold psv at h
  split at h
  · next e => rw [e]; intro x hx; have : x = 45 := by simpa using hx
              rw [this]; decide
  · split at h
    · cases h
    · intro x hx e
      obtain ⟨k, hk, hkx⟩ := List.mem_iff_getElem.1 hx
      have hn : psTo l (k + 1) ≠ none := fun e => by rw [psTo_stop e hk] at h; cases h
      obtain ⟨s2, hs2⟩ := Option.ne_none_iff_exists'.1 hn
      have := psTo_top hs2
      have hb : bn l k = 58 := by unfold bn; rw [List.getD_eq_getElem?_getD, List.getElem?_eq_getElem hk, hkx, e]; rfl
      omega
/-- the sets of all parts, if each is one -/
def allP (L : List (List UInt8)) : Option (List Nat) := L.foldl (fun o x => o.bind fun l => (psv x).map fun s => l ++ [s]) (some [])
theorem allP_nil : allP [] = some [] := rfl
theorem allP_stay (L : List (List UInt8)) : L.foldl (fun (o : Option (List Nat)) x => o.bind fun l => (psv x).map fun s => l ++ [s]) none = none := by
  induction L with
  | nil => rfl
  | cons x L ih => exact ih
theorem allP_none {A B : List (List UInt8)} (h : allP A = none) : allP (A ++ B) = none := by
  unfold allP at h ⊢; rw [List.foldl_append, h]; exact allP_stay B
theorem allP_snoc (L : List (List UInt8)) (x : List UInt8) : allP (L ++ [x]) = (allP L).bind fun l => (psv x).map fun s => l ++ [s] := by
  unfold allP; rw [List.foldl_append]; rfl
theorem allP_bytes {r : List UInt8} {l : List Nat} (h : allP (spl 44 [] r) = some l) : (58 : UInt8) ∉ r := fun hm => by
  rcases (spl_bytes (b := 44) r []).2 58 hm with h1 | ⟨p, hp, hx⟩
  · exact absurd h1 (by decide)
  · have hn : psv p = none := by
      cases hq : psv p with
      | none => rfl
      | some s => exact absurd rfl (psv_bytes hq 58 hx)
    obtain ⟨A, B, hAB⟩ := List.append_of_mem hp
    have h2 : allP (A ++ [p]) = none := by rw [allP_snoc, hn]; cases allP A <;> rfl
    have h3 := allP_none (B := B) h2
    rw [show A ++ [p] ++ B = spl 44 [] r by rw [hAB]; simp, h] at h3
    cases h3
theorem allP_next {L : List (List UInt8)} {k : Nat} (h : k < L.length) {l : List Nat} (ha : allP (L.take k) = some l) {o : Option Nat} (ho : psv L[k] = o) :
    (∀ s, o = some s → allP (L.take (k + 1)) = some (l ++ [s])) ∧ (o = none → allP L = none) := by
  have e : allP (L.take (k + 1)) = o.map fun s => l ++ [s] := by rw [List.take_succ_eq_append_getElem h, allP_snoc, ha, ho]; rfl
  refine ⟨fun s hs => by rw [e, hs]; rfl, fun hn => ?_⟩
  rw [hn] at e
  have := allP_none (B := L.drop (k + 1)) e
  rwa [List.take_append_drop] at this

/-- a text that begins with a number of points -/
def HeadP (l : List UInt8) (m : Nat) (r : List UInt8) : Prop := 1 ≤ m ∧ m ≤ 6 ∧ l = UInt8.ofNat (48 + m) :: 58 :: r
theorem HeadP.size {t : ByteArray} {m : Nat} {r : List UInt8} (h : HeadP (byt t) m r) : t.size = r.length + 2 := by rw [← byt_len, h.2.2]; rfl

set_option maxHeartbeats 1000000 in
theorem iHead_yes (t : ByteArray) (m : Nat) (r : List UInt8) (w : World) (ht : t.size ≤ 1048576) (h : HeadP (byt t) m r) :
    Calls Try.prog 52 #[.string t] w fun e w' => ∃ t' : ByteArray, e = .returned (.tuple #[.int .i64 m, .string t', .bool true]) ∧ byt t' = r ∧ Below w.heap.size w w' := by
  obtain ⟨h1, h6, hl⟩ := id h
  have hsz := h.size
  have h0 : 0 < t.size := by omega
  have h1s : 1 < t.size := by omega
  have hd0 : t[0].toNat = m + 48 := by
    rw [← bn_at t 0 h0, hl]
    show (UInt8.ofNat (48 + m)).toNat = _
    rw [UInt8.toNat_ofNat']; omega
  have hd1 : t[1].toNat = 58 := by rw [← bn_at t 1 h1s, hl]; rfl
  have Hr : Hid (byt (t.extract 2 t.size) = r) := Lib.hid (by rw [byt_extract, List.take_of_length_le (by rw [byt_len]; omega), hl]; rfl)
  have a0 : ¬ ((t.size : Int) < 2) := by omega
  have a1 : ¬ ((t[0].toNat : Int) < 49) := by omega
  have a2 : ¬ (54 < (t[0].toNat : Int)) := by omega
  have a3 : ((t[1].toNat : Int) != 58) = false := by rw [hd1]; rfl
  have a4 : ((t[1].toNat : Int) == 58) = true := by rw [hd1]; rfl
  have Hd0 := Lib.hid hd0
  clear h hl hd0 hd1 a4 hsz
  go_enter Try.func52, Try.ntmps52
  go_wp2_with fail
  go_quiet (fail)
  go_wp2_with fail
  go_ret3
  refine ⟨t.extract 2 t.size, ?_, Hr.out, below_drewN (Below.refl _ _) _⟩
  have e : ((t[0].toNat : Int) - 48) = (m : Int) := by rw [Hd0.out]; omega
  rw [← e]; rfl
set_option maxHeartbeats 1000000 in
theorem iHead_no (t : ByteArray) (w : World) (ht : t.size ≤ 1048576) (h : ∀ m r, ¬ HeadP (byt t) m r) :
    Calls Try.prog 52 #[.string t] w fun e w' => e = .returned (.tuple #[.int .i64 0, .string { data := #[] }, .bool false]) ∧ w = w' := by
  by_cases h0 : t.size < 2
  · have a0 : (t.size : Int) < 2 := by omega
    clear h
    go_enter Try.func52, Try.ntmps52
    go_wp2_with fail
    go_ret3
    exact ⟨rfl, rfl⟩
  · have a0 : ¬ ((t.size : Int) < 2) := by omega
    have h1 : 0 < t.size := by omega
    have h2 : 1 < t.size := by omega
    by_cases h3 : t[0].toNat < 49
    · have a1 : ((t[0].toNat : Int) < 49) := by omega
      clear h h3
      go_enter Try.func52, Try.ntmps52
      go_wp2_with fail
      go_ret3
      exact ⟨rfl, rfl⟩
    · have a1 : ¬ ((t[0].toNat : Int) < 49) := by omega
      by_cases h4 : 54 < t[0].toNat
      · have a2 : (54 < (t[0].toNat : Int)) := by omega
        clear h h3 h4
        go_enter Try.func52, Try.ntmps52
        go_wp2_with fail
        go_ret3
        exact ⟨rfl, rfl⟩
      · have a2 : ¬ (54 < (t[0].toNat : Int)) := by omega
        have h5 : t[1] ≠ 58 := fun e => h (t[0].toNat - 48) ((byt t).drop 2) ⟨by omega, by omega, by
          have e0 := byt_drop t 0 h1
          have e1 := byt_drop t 1 h2
          rw [List.drop_zero] at e0
          rw [e0, e1, e, show 48 + (t[0].toNat - 48) = t[0].toNat by omega, UInt8.ofNat_toNat]; rfl⟩
        have a3 : ((t[1].toNat : Int) != 58) = true := by
          have := u8_ne (x := t[1]) (b := 58) (v := 58) rfl h5
          rw [bne, this]; rfl
        have a4 := u8_ne (x := t[1]) (b := 58) (v := 58) rfl h5
        clear h h3 h4 h5
        go_enter Try.func52, Try.ntmps52
        go_wp2_with fail
        go_ret3
        exact ⟨rfl, rfl⟩
end Go.Proofs.Ytpoolkmcbeghjaa

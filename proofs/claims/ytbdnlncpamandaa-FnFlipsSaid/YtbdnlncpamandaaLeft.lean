/- Texts of this claim, one behind the other: what each says stands at its head. -/
import Derived.Deep.RegionHeld3
import Derived.Deep.DeepCutAuto
import Derived.Test.YtbdnlncpamandaaCore
import Derived.Test.YtbdnlncpamandaaCounts2
/- Contracts of the program's Choose and of LeftCount, the program's and the reference's. -/
namespace Go.Proofs.Ytbdnlncpamandaa
set_option maxRecDepth 20000
open Go.RowKit
set_option linter.unusedSimpArgs false
set_option linter.unusedVariables false

/-- n choose k, 0 beyond -/
def chz (n k : Nat) : Nat := if k ≤ n then ch n k else 0
theorem ch_sym : ∀ n, n < 31 → ∀ k, k ≤ n → ch n (n - k) = ch n k := by decide +kernel
theorem chz_bd {n k : Nat} (hn : n < 31) (hk : k < 31) : chz n k ≤ 5000000000 := by
  unfold chz; split
  · exact ch_bd1 n hn k (by omega)
  · omega
/-- the sum so far -/
def lsum (f : List Nat) (n : Nat) : Nat → Nat
  | 0 => 0
  | i + 1 => lsum f n i + nthN f (i + 1) * chz n i
theorem lsum_bd {f : List Nat} {n : Nat} (hf : ∀ x ∈ f, x ≤ 64) (hn : n < 31) : ∀ i, i < f.length → i < 31 → lsum f n i ≤ i * 320000000000 := by
  intro i
  induction i with
  | zero => intro _ _; unfold lsum; omega
  | succ i ih =>
    intro h1 h2
    have h3 := ih (by omega) (by omega)
    have h4 : nthN f (i + 1) ≤ 64 := hf _ (nthN_mem h1)
    have h5 := chz_bd (n := n) (k := i) hn (by omega)
    have h6 : nthN f (i + 1) * chz n i ≤ 64 * 5000000000 := Nat.mul_le_mul h4 h5
    unfold lsum
    omega

theorem sChoose_any (n k : Nat) (w : World) (hn : n ≤ 30) (hk : k ≤ 30) :
    Calls Try.prog 84 #[.int .i64 n, .int .i64 k] w fun e w' => e = .returned (.int .i64 (chz n k)) ∧ w = w' := by
  unfold chz
  by_cases hkn : k ≤ n
  · rw [if_pos hkn]; exact sChoose_yes n k w hn hkn
  · rw [if_neg hkn]; exact sChoose_no n k w (by omega)

/-- what LeftCount asks -/
def LcP (p : Int) (xs : List Int) (d : Int) : Prop := Anti p xs ∧ 0 ≤ d ∧ d ≤ 20
/-- what LeftCount counts -/
def leftN (f : List Nat) (d : Nat) : Nat := if d = 0 then (if 0 < f.length then 1 else 0) else lsum f (d - 1) (f.length - 1)

end Go.Proofs.Ytbdnlncpamandaa

/- Contracts of the small functions of the laws: big, sameInts, sameLists, at22; and of CountMonomials and SizeOf of the reference. -/
namespace Go.Proofs.Ytbdnlncpamandaa
set_option maxRecDepth 20000
open Go.RowKit
set_option linter.unusedSimpArgs false
set_option linter.unusedVariables false

theorem big_yes (a : Option Addr) (n c : Nat) (w : World) (h : 1048576 < n) (hm : n ≤ 9223372036854775807) : Calls Try.prog 6 #[.slice a n c] w fun e w' => e = .returned (.bool true) ∧ w = w' := by
  have hi : (1048576 : Int) < n := by omega
  go_enter Try.func6, Try.ntmps6
  go_wp2_with fail
  go_ret
  exact ⟨ret_bool (by first | (simp; done) | (simp; omega)), rfl⟩
theorem big_no (a : Option Addr) (n c : Nat) (w : World) (h : n ≤ 1048576) : Calls Try.prog 6 #[.slice a n c] w fun e w' => e = .returned (.bool false) ∧ w = w' := by
  have hi : ¬ ((1048576 : Int) < n) := by omega
  go_enter Try.func6, Try.ntmps6
  go_wp2_with fail
  go_ret
  exact ⟨ret_bool (by first | (simp; done) | (simp; omega)), rfl⟩
set_option maxHeartbeats 400000 in
theorem sameInts_yes (a b : Option Addr) (n m c d : Nat) (xs ys : List Int) (w : World) (h : IntsAt w a n xs) (h' : IntsAt w b m ys) (he : xs = ys) :
    Calls Try.prog 14 #[.slice a n c, .slice b m d] w fun e w' => e = .returned (.bool true) ∧ Below w.heap.size w w' := by
  subst he
  obtain rfl : n = m := by rw [← h.len, ← h'.len]
  have hn := h.small
  have Hh := Lib.hid h; clear h
  have Hh' := Lib.hid h'; clear h'
  go_enter Try.func14, Try.ntmps14
  go_wp2
  go_loopw [5] (fun i wr => ∃ k : Nat, k ≤ n ∧ i = .int .i64 k ∧ Below w.heap.size w wr) (fun i _ => n - (intOf i).toNat)
  case atStart => exact ⟨0, Nat.zero_le _, rfl, Below.refl _ _⟩
  case round =>
    obtain ⟨k, hk, rfl, hb⟩ := hrel
    by_cases hlt : k < n
    · obtain ⟨b1, o1, rfl, hc1⟩ := (Hh.out.keep hb).cells (by omega)
      obtain ⟨b2, o2, rfl, hc2⟩ := (Hh'.out.keep hb).cells (by omega)
      have h1 := hc1 k hlt
      have h2 := hc2 k hlt
      have hk0 : (0 : Int) ≤ k := by omega
      have hkn : (k : Int) < n := by omega
      clear hc1 hc2
      go_wp2_with fail
      go_quiet (fail)
      go_wp2
      go_roundw
      case rel => exact ⟨k + 1, by omega, by go_num, below_drewN hb _⟩
      case measure => simp [intOf]; omega
    · obtain rfl : k = n := by omega
      go_wp2
      go_ret
      exact ⟨rfl, hb⟩
set_option maxRecDepth 100000 in
theorem sameLists_yes (a b : Option Addr) (n m c d : Nat) (B U B' U' : Nat) (L : List (List Int)) (w : World) (h : Own2 w B U a n c L) (h' : Own2 w B' U' b m d L) (hn : n ≤ 1099511627776) :
    Calls Try.prog 56 #[.slice a n c, .slice b m d] w fun e w' => e = .returned (.bool true) ∧ Below w.heap.size w w' := by
  obtain rfl : n = m := by rw [← h.len, ← h'.len]
  have Hh := Lib.hid h; have Hh' := Lib.hid h'
  have hne : ((n : Int) != (n : Int)) = false := by simp
  clear h h'
  go_enter Try.func56, Try.ntmps56
  go_wp2_with fail
  go_loopw [5] (fun i wr => ∃ I : Nat, I ≤ n ∧ i = .int .i64 I ∧ Below w.heap.size w wr) (fun i _ => n - (intOf i).toNat)
  case atStart => exact ⟨0, Nat.zero_le _, rfl, Below.refl _ _⟩
  case round =>
    obtain ⟨wo, rfl⟩ : ∃ x : World, x = wr := ⟨_, rfl⟩
    obtain ⟨I, hI, rfl, hbr⟩ := hrel
    have HBr := Lib.hid hbr
    by_cases hlt : I < n
    · obtain ⟨f, hf⟩ := Hh.out.keep hbr
      obtain ⟨f', hf'⟩ := Hh'.out.keep hbr
      have ho := hf.own I hlt
      have ho' := hf'.own I hlt
      obtain ⟨g, rfl, hcg⟩ := hf.cell hlt
      obtain ⟨g', rfl, hcg'⟩ := hf'.cell hlt
      obtain ⟨⟨a1, n1, c1⟩, hfe⟩ : ∃ x, x = f I := ⟨_, rfl⟩
      obtain ⟨⟨a2, n2, c2⟩, hfe'⟩ : ∃ x, x = f' I := ⟨_, rfl⟩
      rw [← hfe] at hcg ho
      rw [← hfe'] at hcg' ho'
      simp only [Sl.val] at hcg hcg' ho ho'
      have HE : Hid (∀ W, Below wo.heap.size wo W → Calls Try.prog 14 #[.slice a1 n1 c1, .slice a2 n2 c2] W fun e w' => e = .returned (.bool true) ∧ Below W.heap.size W w') := Lib.hid fun W hW => sameInts_yes a1 a2 n1 n2 c1 c2 _ _ W (ho.reads.keep hW) (ho'.reads.keep hW) rfl
      have hI0 : (0 : Int) ≤ I := by omega
      have hIn : (I : Int) < n := by omega
      clear hbr hf hf' ho ho' hfe hfe'
      have HEd := Lib.hid (HE.out _ ((Below.refl _ wo).drew))
      go_wp2_with fail
      go_cut [26] (fun v W => v = .bool false ∧ Below w.heap.size w W)
      case first =>
        go_region_held3 (fun W => W.cell? ⟨g, I, none⟩ = some (.slice a1 n1 c1) ∧ W.cell? ⟨g', I, none⟩ = some (.slice a2 n2 c2)) (first | exact ⟨hcg, hcg'⟩ | exact ⟨y0, y1⟩ | go_keep) (first
          | (go_simp; go_at_call 14; (with_reducible refine HEd.out.mono ?_); rintro e w2 ⟨rfl, hb2⟩; have HB2 := Lib.hid hb2; have y0 := (hb2.cell (p := ⟨g, I, none⟩) (by have := World.block_lt_of_cell? wo _ hcg; simpa using this)).trans hcg; have y1 := (hb2.cell (p := ⟨g', I, none⟩) (by have := World.block_lt_of_cell? wo _ hcg'; simpa using this)).trans hcg'; clear hb2))
        all_goals (go_wp2_with fail; go_meet)
        all_goals exact ⟨rfl, HBr.out.drew.trans (HB2.out.mono (by have := HBr.out.size; simpa using this))⟩
      case rest =>
        obtain ⟨rfl, hbc⟩ := hcut
        have HBc := Lib.hid hbc
        clear hbc
        go_wp2_with fail
        go_roundw
        case rel => exact ⟨I + 1, by omega, by go_num, HBc.out⟩
        case measure => simp [intOf]; omega
    · obtain rfl : I = n := by omega
      have hii : ¬ ((I : Int) < I) := by omega
      go_wp2_with fail
      go_ret
      exact ⟨rfl, hbr⟩
theorem at22_any (a : Option Addr) (n c i : Nat) (xs : List Int) (w : World) (h : IntsAt w a n xs) :
    Calls Try.prog 26 #[.slice a n c, .int .i64 i] w fun e w' => e = .returned (.int .i64 (nth xs i)) ∧ w = w' := by
  by_cases hi : i < n
  · obtain ⟨b, off, rfl, hc⟩ := h.cells (by omega)
    have hci := hc i hi
    have hii : (i : Int) < n := by omega
    have hni : ¬ ((n : Int) ≤ i) := by omega
    clear hc h
    go_enter Try.func26, Try.ntmps26
    go_wp2_with fail
    go_ret
    exact ⟨rfl, rfl⟩
  · have hl := h.len
    have hni : (n : Int) ≤ i := by omega
    have hz : nth xs i = 0 := by unfold nth; rw [List.getD_eq_getElem?_getD, List.getElem?_eq_none (by omega)]; rfl
    rw [hz]
    clear h
    go_enter Try.func26, Try.ntmps26
    go_wp2_with fail
    go_ret
    exact ⟨rfl, rfl⟩
theorem sSize_any (s : Nat) (w : World) (hs : s < 64) : Calls Try.prog 25 #[.int .i64 s] w fun e w' => e = .returned (.int .i64 (sz s)) ∧ w = w' := by
  go_enter Try.func25, Try.ntmps25
  go_wp2_with (first | (go_at_call 72; (with_reducible refine (l1In_set s _ hs).mono ?_); rintro e w' ⟨rfl, rfl⟩) | (go_at_call 74; (with_reducible refine (l2Size_any s _ hs).mono ?_); rintro e w' ⟨rfl, rfl⟩))
  go_ret
  exact ⟨rfl, rfl⟩
end Go.Proofs.Ytbdnlncpamandaa

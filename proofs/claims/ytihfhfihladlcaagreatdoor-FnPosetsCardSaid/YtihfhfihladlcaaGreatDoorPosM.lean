/- Orders in plain terms: the order turned over, its chains, flags, and the Moebius number as the Euler number of the chains. No condition beyond those named. -/
import Derived.Test.YtihfhfihladlcaaGreatDoorMissing
import Derived.Test.YtihfhfihladlcaaGreatDoorMobius
import Derived.Test.YtihfhfihladlcaaGreatDoorOrder
import Derived.Test.YtihfhfihladlcaaGreatDoorTopo2
import Derived.Test.YtihfhfihladlcaaGreatDoorTopo3
namespace Go.Proofs.YtihfhfihladlcaaGreatDoor
set_option maxRecDepth 20000
set_option linter.unusedSimpArgs false
set_option linter.unusedVariables false

theorem nats_up (l : List Nat) : nats (up l) = l := by
  unfold nats up
  rw [List.map_map, List.map_congr_left (g := id) (fun x _ => by simp), List.map_id]
theorem PosL.of {m : Nat} {l : List Nat} (h : PosetP m (up l)) : PosL l ∧ l.length = m := by
  have h1 := posL_of h
  rw [nats_up] at h1
  exact ⟨h1.1, by have := h1.2.2; omega⟩
theorem PosL.back {l : List Nat} (h : PosL l) (h1 : 1 ≤ l.length) : PosetP (l.length : Nat) (up l) := by
  refine ⟨by omega, by have := h.1; omega, by rw [up_len], fun i hi => ?_, fun i hi k hk hb => ?_⟩
  · rw [up_len] at hi
    obtain ⟨a, b, c⟩ := h.2.1 i hi
    exact ⟨nthN l i, nth_up l i, by simpa using a, c⟩
  · rw [up_len] at hi hk
    simp only [nth_up, Int.toNat_natCast] at hb ⊢
    exact h.2.2 i hi k hk hb
theorem dualAt_bit {l : List Nat} (h : l.length ≤ 6) (i k : Nat) : (dualAt l i).testBit k = (decide (k < l.length) && (nthN l k).testBit i) := by
  unfold dualAt
  rw [bset_bit]
  by_cases hk : k < l.length
  · simp [show k < 6 by omega]
  · simp [hk]
theorem dualL_len (l : List Nat) : (dualL l).length = l.length := by simp [dualL]
theorem dualL_at {l : List Nat} {i : Nat} (hi : i < l.length) : nthN (dualL l) i = dualAt l i := by
  rw [nthN_eq (by rw [dualL_len]; exact hi)]; simp [dualL]
theorem dual_bit {l : List Nat} (h : l.length ≤ 6) {i k : Nat} (hi : i < l.length) (hk : k < l.length) : (nthN (dualL l) i).testBit k = (nthN l k).testBit i := by
  rw [dualL_at hi, dualAt_bit h]; simp [hk]
theorem dual_pos {l : List Nat} (h : PosL l) : PosL (dualL l) := by
  have hb : ∀ i, i < l.length → ∀ k, l.length ≤ k → (nthN (dualL l) i).testBit k = false := fun i hi k hk => by
    rw [dualL_at hi, dualAt_bit h.1, decide_eq_false (by omega : ¬ k < l.length), Bool.false_and]
  refine ⟨by rw [dualL_len]; exact h.1, fun i hi => ?_, fun i hi k hk hik => ?_⟩
  · rw [dualL_len] at hi ⊢
    refine ⟨Nat.lt_pow_two_of_testBit _ (hb i hi), by rw [dualL_at hi]; exact bset_lt _, by rw [dual_bit h.1 hi hi]; exact (h.2.1 i hi).2.2⟩
  · rw [dualL_len] at hi hk
    rw [dual_bit h.1 hk hi] at hik
    rw [sub_iff]
    intro j hj
    have hjl : j < l.length := by
      rcases Nat.lt_or_ge j l.length with h' | h'
      · exact h'
      · rw [hb i hi j h'] at hj; cases hj
    rw [dual_bit h.1 hi hjl] at hj
    rw [dual_bit h.1 hk hjl]
    exact sub_iff.1 (h.2.2 i hi j hjl hj) k hik
theorem nthN_ext {l k : List Nat} (hl : l.length = k.length) (h : ∀ i, i < l.length → nthN l i = nthN k i) : l = k :=
  List.ext_getElem hl fun i h1 h2 => by rw [← nthN_eq h1, ← nthN_eq h2]; exact h i h1
theorem dual_dual {l : List Nat} (h : PosL l) : dualL (dualL l) = l := by
  refine nthN_ext (by rw [dualL_len, dualL_len]) fun i hi => ?_
  rw [dualL_len, dualL_len] at hi
  apply Nat.eq_of_testBit_eq
  intro k
  rw [dualL_at (by rw [dualL_len]; exact hi), dualAt_bit (by rw [dualL_len]; exact h.1), dualL_len]
  by_cases hk : k < l.length
  · simp only [hk, decide_true, Bool.true_and]
    exact dual_bit h.1 hk hi
  · simp only [hk, decide_false, Bool.false_and]
    exact (Nat.testBit_lt_two_pow (Nat.lt_of_lt_of_le (h.2.1 i hi).1 (Nat.pow_le_pow_right (by omega) (by omega)))).symm
theorem dual_ord {l : List Nat} (h : l.length ≤ 6) (s : Nat) : ordQ (dualL l) l.length s = ordQ l l.length s := by
  rw [Bool.eq_iff_iff, ordQ_iff, ordQ_iff]
  constructor
  · intro H i hi j hj h1 h2
    have := H i hi j hj h1 h2
    rw [dual_bit h hi (by omega), dual_bit h (by omega) hi] at this
    exact this.symm
  · intro H i hi j hj h1 h2
    have := H i hi j hj h1 h2
    rw [dual_bit h hi (by omega), dual_bit h (by omega) hi]
    exact this.symm

/-- the chains of an order -/
def chF (l : List Nat) (s : Nat) : Bool := decide (s < 2 ^ l.length) && ordQ l l.length s
theorem chFIff {l : List Nat} {s : Nat} (h6 : l.length ≤ 6) : chF l s = true ↔ s < 2 ^ l.length ∧ ∀ i j, i ≠ j → s.testBit i = true → s.testBit j = true → ((nthN l i).testBit j = true ∨ (nthN l j).testBit i = true) := by
  unfold chF
  rw [Bool.and_eq_true, decide_eq_true_eq, ordQ_iff]
  constructor
  · rintro ⟨h1, h2⟩
    have hlt : ∀ i, s.testBit i = true → i < l.length := fun i hi => by
      rcases Nat.lt_or_ge i l.length with h | h
      · exact h
      · rw [Nat.testBit_lt_two_pow (Nat.lt_of_lt_of_le h1 (Nat.pow_le_pow_right (by omega) h))] at hi; cases hi
    refine ⟨h1, fun i j hij hi hj => ?_⟩
    rcases Nat.lt_or_ge j i with h | h
    · exact h2 i (hlt i hi) j h hi hj
    · exact (h2 j (hlt j hj) i (by omega) hj hi).symm
  · rintro ⟨h1, h2⟩
    exact ⟨h1, fun i hi j hj a b => h2 i j (by omega) a b⟩
theorem dn_ch {l : List Nat} (h6 : l.length ≤ 6) : Dn (chF l) := fun t _ ht u hu => by
  rw [chFIff h6] at ht ⊢
  have hb := sub_iff.1 hu
  exact ⟨Nat.lt_of_le_of_lt (sub_le hu) ht.1, fun i j hij hi hj => ht.2 i j hij (hb i hi) (hb j hj)⟩
theorem dual_ch {l : List Nat} (h : l.length ≤ 6) : maxL (chF (dualL l)) = maxL (chF l) := by
  have : chF (dualL l) = chF l := by
    funext s
    unfold chF
    rw [dualL_len, dual_ord h]
  rw [this]
theorem ch_cpx {l : List Nat} (h : PosL l) (h1 : 1 ≤ l.length) : Cpx l.length (maxL (chF l)) :=
  Cpx.of (anti_maxL h1 h.1 fun s _ hs => ((chFIff h.1).1 hs).1)
theorem ch_face {l : List Nat} (h6 : l.length ≤ 6) {s : Nat} (hs : s < 64) : isFace (maxL (chF l)) s = chF l s := face_max (dn_ch h6) hs

/-- all missing sets of the chains have two points at most -/
theorem ch_flag {l : List Nat} (h : PosL l) (h1 : 1 ≤ l.length) : ∀ s ∈ minL (missB (maxL (chF l)) (2 ^ l.length)), sz s ≤ 2 := by
  intro s hs
  unfold minL at hs
  rw [mem_ord] at hs
  obtain ⟨h64, hs⟩ := hs
  rw [Bool.and_eq_true, List.all_eq_true] at hs
  obtain ⟨hm, hmin⟩ := hs
  unfold missB at hm
  rw [Bool.and_eq_true, decide_eq_true_eq, ch_face h.1 h64] at hm
  obtain ⟨hlt, hno⟩ := hm
  have hno : ¬ chF l s = true := by simpa using hno
  rw [chFIff h.1] at hno
  have : ∃ i j, i ≠ j ∧ s.testBit i = true ∧ s.testBit j = true ∧ ¬ ((nthN l i).testBit j = true ∨ (nthN l j).testBit i = true) := by
    apply Classical.byContradiction
    intro hc
    apply hno
    refine ⟨hlt, fun i j hij hi hj => ?_⟩
    apply Classical.byContradiction
    intro hn
    exact hc ⟨i, j, hij, hi, hj, hn⟩
  obtain ⟨i, j, hij, hi, hj, hn⟩ := this
  have hi6 := bit6 h64 hi
  have hj6 := bit6 h64 hj
  have hp64 := pr_lt hi6 hj6
  have hps : sub (pr i j) s = true := pr_sub.2 ⟨hi, hj⟩
  have hpm : missB (maxL (chF l)) (2 ^ l.length) (pr i j) = true := by
    unfold missB
    rw [Bool.and_eq_true, decide_eq_true_eq, ch_face h.1 hp64]
    refine ⟨Nat.lt_of_le_of_lt (sub_le hps) hlt, ?_⟩
    rw [Bool.not_eq_true', ← Bool.not_eq_true, chFIff h.1]
    rintro ⟨_, hall⟩
    exact hn (hall i j hij (by rw [pr_bit]; simp) (by rw [pr_bit]; simp))
  have hk := hmin (pr i j) (List.mem_range.2 hp64)
  rw [hpm, hps] at hk
  have e : s = pr i j := by simpa using hk
  rw [e, pr_sz i hi6 j hj6 hij]
  exact Nat.le_refl _

/-! ### The Moebius number -/
set_option maxHeartbeats 2000000 in
theorem sm_bit (g : Nat → Int) : ∀ k, k < 6 → sm g 64 = sm (fun s => if s.testBit k then 0 else g s + g (s ||| 2 ^ k)) 64 := by
  intro k hk
  have h : k = 0 ∨ k = 1 ∨ k = 2 ∨ k = 3 ∨ k = 4 ∨ k = 5 := by omega
  rcases h with rfl | rfl | rfl | rfl | rfl | rfl <;> (simp [sm, Nat.testBit]; omega)
/-- the chains inside u, with signs -/
def chE (l : List Nat) (u : Nat) : Int := sm (fun s => if chF l s && sub s u then cg (sz s) else 0) 64
def muS (l : List Nat) (u : Nat) : Int := ((pts u).map (mu l)).sum
theorem cg_succ (k : Nat) : cg (k + 1) = - cg k := by unfold cg; omega
theorem chE_zero (l : List Nat) (h6 : l.length ≤ 6) : chE l 0 = -1 := by
  unfold chE
  rw [sm_congr 64 (h := fun s => if s = 0 then -1 else 0) (fun s _ => by
    by_cases e : s = 0
    · subst e
      rw [if_pos rfl, if_pos]
      · decide
      · rw [Bool.and_eq_true, chFIff h6]
        exact ⟨⟨Nat.pow_pos (by omega), fun i j _ hi => by simp at hi⟩, sub_refl 0⟩
    · rw [if_neg e, if_neg]
      intro h
      have := (Bool.and_eq_true _ _ ▸ h).2
      have := sub_le this
      omega), sm_single, if_pos (by omega)]
theorem pts_insert : ∀ u, u < 64 → ∀ k, k < 6 → u.testBit k = true → (pts u).Perm (k :: pts (u ^^^ 2 ^ k)) := by decide +kernel
theorem perm_sum {a b : List Nat} (h : a.Perm b) (f : Nat → Int) : (a.map f).sum = (b.map f).sum := by
  induction h with
  | nil => rfl
  | cons x _ ih => simp [ih]
  | swap x y l => simp; omega
  | trans _ _ h1 h2 => rw [h1, h2]
theorem muS_split (l : List Nat) {u k : Nat} (hu : u < 64) (hk : k < 6) (h : u.testBit k = true) : muS l u = mu l k + muS l (u ^^^ 2 ^ k) := by
  unfold muS
  rw [perm_sum (pts_insert u hu k hk h) (mu l)]; simp
theorem top_point (l : List Nat) : ∀ u, u < 64 → u ≠ 0 → ∃ k, k < 6 ∧ u.testBit k = true ∧ ∀ j, u.testBit j = true → sz (nthN l j) ≤ sz (nthN l k) := by
  have key : ∀ L : List Nat, L ≠ [] → ∃ k ∈ L, ∀ j ∈ L, sz (nthN l j) ≤ sz (nthN l k) := by
    intro L
    induction L with
    | nil => intro h; exact absurd rfl h
    | cons a L ih =>
      intro _
      by_cases hL : L = []
      · subst hL; exact ⟨a, by simp, by simp⟩
      · obtain ⟨k, hk, hm⟩ := ih hL
        rcases Nat.le_total (sz (nthN l a)) (sz (nthN l k)) with h | h
        · exact ⟨k, by simp [hk], fun j hj => by
            rcases List.mem_cons.1 hj with rfl | hj
            · exact h
            · exact hm j hj⟩
        · exact ⟨a, by simp, fun j hj => by
            rcases List.mem_cons.1 hj with rfl | hj
            · exact Nat.le_refl _
            · exact Nat.le_trans (hm j hj) h⟩
  intro u hu h0
  have hne : pts u ≠ [] := (show ∀ u, u < 64 → u ≠ 0 → pts u ≠ [] by decide +kernel) u hu h0
  obtain ⟨k, hk, hm⟩ := key (pts u) hne
  rw [mem_pts] at hk
  exact ⟨k, hk.1, hk.2, fun j hj => hm j (mem_pts.2 ⟨bit6 hu hj, hj⟩)⟩
theorem sz_less : ∀ u, u < 64 → ∀ k, k < 6 → u.testBit k = true → sz (u ^^^ 2 ^ k) < sz u ∧ u ^^^ 2 ^ k < 64 := by decide +kernel
theorem or_bitk (s k i : Nat) : (s ||| 2 ^ k).testBit i = (s.testBit i || decide (k = i)) := by
  rw [Nat.testBit_or, Nat.testBit_two_pow]
theorem xor_bitk {u k : Nat} (h : u.testBit k = true) (i : Nat) : (u ^^^ 2 ^ k).testBit i = (u.testBit i && !decide (k = i)) := by
  rw [Nat.testBit_xor, Nat.testBit_two_pow]
  by_cases e : k = i
  · subst e; simp [h]
  · simp [e]
theorem chE_mu {l : List Nat} (h : PosL l) : ∀ n u, sz u ≤ n → u < 2 ^ l.length → u < 64 → (∀ k, u.testBit k = true → sub (nthN l k) u = true) → chE l u = -(1 + muS l u) := by
  intro n
  induction n with
  | zero =>
    intro u hn _ hu _
    have : u = 0 := sz_zero u hu (by omega)
    subst this
    rw [chE_zero l h.1]
    have : muS l 0 = 0 := by unfold muS; rw [show pts 0 = [] by decide +kernel]; rfl
    rw [this]; rfl
  | succ n ih =>
    intro u hn hul hu hd
    by_cases h0 : u = 0
    · exact ih u (by rw [h0]; exact Nat.zero_le _) hul hu hd
    obtain ⟨k, hk6, hk, htop⟩ := top_point l u hu h0
    have hkl : k < l.length := by
      rcases Nat.lt_or_ge k l.length with h' | h'
      · exact h'
      · rw [Nat.testBit_lt_two_pow (Nat.lt_of_lt_of_le hul (Nat.pow_le_pow_right (by omega) h'))] at hk; cases hk
    obtain ⟨hs1, hs64⟩ := sz_less u hu k hk6 hk
    obtain ⟨b1, b2, b3⟩ := h.2.1 k hkl
    have hnot : ∀ j, u.testBit j = true → (nthN l j).testBit k = false := fun j hj => by
      have hjl : j < l.length := by
        rcases Nat.lt_or_ge j l.length with h' | h'
        · exact h'
        · rw [Nat.testBit_lt_two_pow (Nat.lt_of_lt_of_le hul (Nat.pow_le_pow_right (by omega) h'))] at hj; cases hj
      rw [← Bool.not_eq_true]
      intro hc
      have := (h.down hjl hc).2
      have := htop j hj
      omega
    have hsubu : sub (u ^^^ 2 ^ k) u = true := sub_iff.2 fun i hi => by rw [xor_bitk hk] at hi; simp at hi; exact hi.1
    have hbel : sub (nthN l k) (u ^^^ 2 ^ k) = true := sub_iff.2 fun i hi => by
      rw [xor_bitk hk, sub_iff.1 (hd k hk) i hi, Bool.true_and]
      by_cases e : k = i
      · subst e; rw [b3] at hi; cases hi
      · simp [e]
    have e1 := ih (u ^^^ 2 ^ k) (by omega) (Nat.lt_of_le_of_lt (sub_le hsubu) hul) hs64 (fun j hj => by
      have hju : u.testBit j = true := sub_iff.1 hsubu j hj
      refine sub_iff.2 fun i hi => ?_
      rw [xor_bitk hk, sub_iff.1 (hd j hju) i hi, Bool.true_and]
      by_cases e : k = i
      · subst e; rw [hnot j hju] at hi; cases hi
      · simp [e])
    have e2 := ih (nthN l k) (by have := (sub_sz hs64 hbel).1; omega) b1 b2 (fun j hj => h.2.2 j (h.down hkl hj).1 k hkl hj)
    have e3 : mu l k = -(1 + muS l (nthN l k)) := mu_eq h hkl
    have e4 : chE l u = chE l (u ^^^ 2 ^ k) - chE l (nthN l k) := by
      unfold chE
      rw [sm_bit (fun s => if chF l s && sub s u then cg (sz s) else 0) k hk6, ← sm_sub]
      rw [sm_congr 64 (h := fun s => (if chF l s && sub s (u ^^^ 2 ^ k) then cg (sz s) else 0) - (if chF l s && sub s (nthN l k) then cg (sz s) else 0)) (fun s hs => ?_)]
      show (if s.testBit k = true then (0 : Int) else (if chF l s && sub s u then cg (sz s) else 0) + (if chF l (s ||| 2 ^ k) && sub (s ||| 2 ^ k) u then cg (sz (s ||| 2 ^ k)) else 0)) = _
      cases hsk : s.testBit k
      · have hz := (bitA s hs k hk6 hsk).2.1
        rw [if_neg (by simp), hz, cg_succ]
        have a1 : sub s u = sub s (u ^^^ 2 ^ k) := by
          rw [Bool.eq_iff_iff, sub_iff, sub_iff]
          refine ⟨fun H i hi => ?_, fun H i hi => sub_iff.1 hsubu i (H i hi)⟩
          rw [xor_bitk hk, H i hi, Bool.true_and]
          by_cases e : k = i
          · subst e; rw [hsk] at hi; cases hi
          · simp [e]
        have a2 : (chF l (s ||| 2 ^ k) && sub (s ||| 2 ^ k) u) = (chF l s && sub s (nthN l k)) := by
          rw [Bool.eq_iff_iff, Bool.and_eq_true, Bool.and_eq_true, chFIff h.1, chFIff h.1, sub_iff, sub_iff]
          constructor
          · rintro ⟨⟨p1, p2⟩, p3⟩
            refine ⟨⟨Nat.lt_of_le_of_lt Nat.left_le_or p1, fun i j hij hi hj => p2 i j hij (by rw [or_bitk, hi]; rfl) (by rw [or_bitk, hj]; rfl)⟩, fun i hi => ?_⟩
            have hne : i ≠ k := fun e => by rw [e, hsk] at hi; cases hi
            rcases p2 k i (fun e => hne e.symm) (by rw [or_bitk]; simp) (by rw [or_bitk, hi]; rfl) with q | q
            · exact q
            · rw [hnot i (p3 i (by rw [or_bitk, hi]; rfl))] at q; cases q
          · rintro ⟨⟨p1, p2⟩, p3⟩
            refine ⟨⟨or_lt_pow p1 (Nat.pow_lt_pow_right (by omega) hkl), fun i j hij hi hj => ?_⟩, fun i hi => ?_⟩
            · rw [or_bitk, Bool.or_eq_true, decide_eq_true_eq] at hi hj
              rcases hi with hi | rfl <;> rcases hj with hj | rfl
              · exact p2 i j hij hi hj
              · exact .inr (p3 i hi)
              · exact .inl (p3 j hj)
              · exact absurd rfl hij
            · rw [or_bitk, Bool.or_eq_true, decide_eq_true_eq] at hi
              rcases hi with hi | rfl
              · exact sub_iff.1 (hd k hk) i (p3 i hi)
              · exact hk
        rw [a1, a2]
        split <;> split <;> omega
      · rw [if_pos rfl]
        have n1 : sub s (u ^^^ 2 ^ k) = false := by
          rw [← Bool.not_eq_true, sub_iff]
          intro H
          have := H k hsk
          rw [xor_bitk hk] at this; simp at this
        have n2 : sub s (nthN l k) = false := by
          rw [← Bool.not_eq_true, sub_iff]
          intro H
          have := H k hsk
          rw [b3] at this; cases this
        rw [n1, n2]; simp
    rw [e4, e1, e2, muS_split l hu hk6 hk, e3]
    omega
/-- the Moebius number is the Euler number of the chains -/
theorem mobius_euler {l : List Nat} (h : PosL l) : eul (isFace (maxL (chF l))) = -(tot l fun _ => true) := by
  have hp : 2 ^ l.length ≤ 64 := pow_le64 h.1
  have h0 : 0 < 2 ^ l.length := Nat.pow_pos (by omega)
  have hfull : ∀ i, (2 ^ l.length - 1).testBit i = decide (i < l.length) := fun i => Nat.testBit_two_pow_sub_one _ _
  have e := chE_mu h 6 (2 ^ l.length - 1) (sz_le _) (by omega) (by omega) (fun k hk => by
    rw [hfull, decide_eq_true_eq] at hk
    refine sub_iff.2 fun i hi => ?_
    rw [hfull, decide_eq_true_eq]
    exact (h.down hk hi).1)
  rw [eul_sm]
  have e2 : sm (fun s => if isFace (maxL (chF l)) s then cg (sz s) else 0) 64 = chE l (2 ^ l.length - 1) := by
    unfold chE
    refine sm_congr 64 fun s hs => ?_
    rw [ch_face h.1 hs]
    cases hc : chF l s
    · simp
    · have : sub s (2 ^ l.length - 1) = true := sub_iff.2 fun i hi => by
        rw [hfull, decide_eq_true_eq]
        rcases Nat.lt_or_ge i l.length with h' | h'
        · exact h'
        · rw [Nat.testBit_lt_two_pow (Nat.lt_of_lt_of_le ((chFIff h.1).1 hc).1 (Nat.pow_le_pow_right (by omega) h'))] at hi; cases hi
      rw [this]; simp
  rw [e2, e]
  unfold tot muS
  have hpts : pts (2 ^ l.length - 1) = List.range l.length := (show ∀ n, n < 7 → pts (2 ^ n - 1) = List.range n by decide +kernel) _ (by have := h.1; omega)
  rw [hpts]
  have : (List.range l.length).map (dv l fun _ => true) = (List.range l.length).map (mu l) := List.map_congr_left fun j _ => by simp [dv]
  rw [this]
end Go.Proofs.YtihfhfihladlcaaGreatDoor

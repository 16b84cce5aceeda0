/- Contracts of IsColoring, the program's and the reference's. -/
import Derived.Test.YtbdnlncpamandaaColor3
namespace Go.Proofs.Ytbdnlncpamandaa
set_option maxRecDepth 20000
open Go.RowKit
set_option linter.unusedSimpArgs false
set_option linter.unusedVariables false

/-- numbers of colours, one for each point -/
def ColsP (m : Nat) (cs : List Int) : Prop := cs.length = m ∧ ∀ i, i < cs.length → 0 ≤ nth cs i ∧ nth cs i ≤ 5
/-- .. that differ along each edge -/
def ColQ (l : List Nat) (m : Nat) (cs : List Int) : Prop := ColsP m cs ∧ ∀ i, i < cs.length → ∀ k, k < i → nth cs i = nth cs k → adjB l i k = false

theorem areColors_any (m : Nat) (a : Option Addr) (n c : Nat) (cs : List Int) (w : World) (h : IntsAt w a n cs) (b : Bool) (hb : b = true ↔ ColsP m cs) :
    Calls Try.prog 78 #[.int .i64 m, .slice a n c] w fun e w' => e = .returned (.bool b) ∧ w = w' := by
  have hsm := h.small
  have hlen := h.len
  have Hlen := Lib.hid hlen
  have Hx := Lib.hid h; have Hb := Lib.hid hb
  clear h hb hlen
  by_cases hnm : n = m
  · subst hnm
    have hne : (((n : Nat) : Int) != (n : Int)) = false := by simp
    go_enter Try.func78, Try.ntmps78
    go_wp2_with fail
    go_loop [6, 13] (fun _ i => ∃ k : Nat, k ≤ n ∧ i = .int .i64 k ∧ Hid (∀ j, j < k → 0 ≤ nth cs j ∧ nth cs j ≤ 5)) (fun _ i => n - (intOf i).toNat)
    case atStart => exact ⟨0, Nat.zero_le _, rfl, Lib.hid fun j hj => absurd hj (Nat.not_lt_zero _)⟩
    case round =>
      obtain ⟨k, hk, rfl, hok⟩ := hrel
      by_cases hlt : k < n
      · obtain ⟨b1, o1, rfl, hc⟩ := Hx.out.cells (by omega)
        have hck := hc k hlt
        obtain ⟨x, hxe⟩ : ∃ x, x = nth cs k := ⟨_, rfl⟩
        rw [← hxe] at hck
        have Hxe := Lib.hid hxe
        clear hc hxe
        by_cases h0 : x < 0
        · have hbf : b = false := by
            cases b
            · rfl
            · have := (Hb.out.1 rfl).2 k (by rw [Hlen.out]; exact hlt)
              rw [← Hxe.out] at this; omega
          subst hbf
          go_wp2_with fail
          go_ret
          exact ⟨rfl, rfl⟩
        · by_cases h6 : 6 ≤ x
          · have hbf : b = false := by
              cases b
              · rfl
              · have := (Hb.out.1 rfl).2 k (by rw [Hlen.out]; exact hlt)
                rw [← Hxe.out] at this; omega
            subst hbf
            go_wp2_with fail
            go_ret
            exact ⟨rfl, rfl⟩
          · go_wp2_with fail
            go_round
            case rel =>
              refine ⟨k + 1, by omega, by go_num, Lib.hid fun j hj => ?_⟩
              rcases Nat.lt_or_ge j k with h | h
              · exact hok.out j h
              · obtain rfl : j = k := by omega
                rw [← Hxe.out]; omega
            case measure => simp [intOf]; omega
      · obtain rfl : k = n := by omega
        have hbt : b = true := Hb.out.2 ⟨Hlen.out, fun i hi => hok.out i (by rw [← Hlen.out]; exact hi)⟩
        subst hbt
        go_wp2_with fail
        go_ret
        exact ⟨rfl, rfl⟩
  · have hbf : b = false := by
      cases b
      · rfl
      · have := (Hb.out.1 rfl).1
        rw [Hlen.out] at this
        exact absurd this hnm
    subst hbf
    have hne : (((n : Nat) : Int) != (m : Int)) = true := by simp; omega
    go_enter Try.func78, Try.ntmps78
    go_wp2_with fail
    go_ret
    exact ⟨rfl, rfl⟩

theorem two_pts : ∀ e : Nat, e < 64 → sz e = 2 → ∃ j, j < 6 ∧ ∃ i, i < j ∧ pts e = [i, j] ∧ e = pr j i := by decide +kernel

theorem iCol_no (p : Int) (a : Option Addr) (n c : Nat) (xs : List Int) (a' : Option Addr) (n' c' : Nat) (cs : List Int) (w : World) (h : IntsAt w a n xs) (hcap : n ≤ c) (hno : ¬ Anti p xs) :
    Calls Try.prog 21 #[.agg #[.int .i64 p, .slice a n c], .slice a' n' c'] w fun e w' => e = .returned (.bool false) ∧ Below w.heap.size w w' := by
  have hx : IntsAt (w.alloc (.cells #[.int .i64 p, .slice a n c] 26)) a n xs := h.keep (by repeat (first | exact Below.refl _ _ | assumption | refine Below.setCell ?_ (by first | omega | (simp; done) | (simp; omega)) _ | refine Below.alloc ?_ (by first | omega | (simp; done) | (simp; omega)) _ | apply Below.drew))
  have Hx := Lib.hid hx; have Hcap := Lib.hid hcap; have Hno := Lib.hid hno
  clear hx h hcap hno
  go_enter Try.func21, Try.ntmps21
  go_wp2_with fail
  refine (iIsComplex_any p a n c xs _ Hx.out Hcap.out false (by simp [Hno.out])).mono ?_
  rintro e w1 ⟨rfl, hb⟩
  have HB : Hid (Below w.heap.size w w1) := Lib.hid (Below.trans (by repeat (first | exact Below.refl _ _ | assumption | refine Below.setCell ?_ (by first | omega | (simp; done) | (simp; omega)) _ | refine Below.alloc ?_ (by first | omega | (simp; done) | (simp; omega)) _ | apply Below.drew)) (hb.mono (by simp <;> omega)))
  clear hb
  go_wp2_with fail
  go_ret
  exact ⟨rfl, HB.out⟩
set_option maxRecDepth 100000 in
set_option maxHeartbeats 2000000 in
theorem iCol_yes (m : Nat) (a : Option Addr) (n c : Nat) (l : List Nat) (a' : Option Addr) (n' c' : Nat) (cs : List Int) (w : World) (h : IntsAt w a n (up l)) (h' : IntsAt w a' n' cs) (hcap : n ≤ c) (hm : m ≤ 6) (hA : Anti m (up l)) (hl : ∀ t ∈ l, t < 64) (hl2 : ∀ t ∈ l, t < 2 ^ m) (b : Bool) (hb : b = true ↔ ColQ l m cs) :
    Calls Try.prog 21 #[.agg #[.int .i64 m, .slice a n c], .slice a' n' c'] w fun e w' => e = .returned (.bool b) ∧ Below w.heap.size w w' := by
  have hx : IntsAt (w.alloc (.cells #[.int .i64 m, .slice a n c] 26)) a n (up l) := h.keep (by repeat (first | exact Below.refl _ _ | assumption | refine Below.setCell ?_ (by first | omega | (simp; done) | (simp; omega)) _ | refine Below.alloc ?_ (by first | omega | (simp; done) | (simp; omega)) _ | apply Below.drew))
  have hy : IntsAt (w.alloc (.cells #[.int .i64 m, .slice a n c] 26)) a' n' cs := h'.keep (by repeat (first | exact Below.refl _ _ | assumption | refine Below.setCell ?_ (by first | omega | (simp; done) | (simp; omega)) _ | refine Below.alloc ?_ (by first | omega | (simp; done) | (simp; omega)) _ | apply Below.drew))
  have Hx := Lib.hid hx; have Hy := Lib.hid hy; have Hcap := Lib.hid hcap; have HA := Lib.hid hA; have Hl := Lib.hid hl; have Hl2 := Lib.hid hl2; have Hb := Lib.hid hb
  have XA := Lib.hid (BoxF.new w (.int .i64 m) (.slice a n c) 26)
  have hlen := h'.len
  have Hlen := Lib.hid hlen
  have hsm := h'.small
  clear hx hy h h' hcap hA hl hl2 hb hlen
  by_cases hC : ColsP m cs
  · have hn'm : n' = m := by rw [← Hlen.out]; exact hC.1
    subst hn'm
    have HC := Lib.hid hC; clear hC
    go_enter Try.func21, Try.ntmps21
    go_wp2_with fail
    refine (iIsComplex_any n' a n c _ _ Hx.out Hcap.out true (by simp [HA.out])).mono ?_
    rintro e w1 ⟨rfl, hb⟩
    have HB : Hid (Below w.heap.size w w1) := Lib.hid (Below.trans (by repeat (first | exact Below.refl _ _ | assumption | refine Below.setCell ?_ (by first | omega | (simp; done) | (simp; omega)) _ | refine Below.alloc ?_ (by first | omega | (simp; done) | (simp; omega)) _ | apply Below.drew)) (hb.mono (by simp <;> omega)))
    have XA1 := Lib.hid (XA.out.keep hb (by simp))
    obtain ⟨p0, p1, _, _, _⟩ := XA1.out
    have Hx1 := Lib.hid (Hx.out.keep hb); have Hy1 := Lib.hid (Hy.out.keep hb)
    clear hb
    go_wp2_with (go_at_call 78; (with_reducible refine (areColors_any n' a' n' c' cs _ Hy1.out true (by simp [HC.out])).mono ?_); rintro e w' ⟨rfl, rfl⟩)
    refine (iOfSize_yes n' a n c l 2 _ Hx1.out Hcap.out HA.out Hl.out).mono ?_
    rintro e w2 ⟨ad, k, d, rfl, hown, hb⟩
    have HB2 := Lib.hid (HB.out.trans (hb.mono HB.out.size))
    have Hy2 := Lib.hid (Hy1.out.keep hb)
    obtain ⟨D, hD⟩ : ∃ D, D = ofSize l 2 := ⟨_, rfl⟩
    rw [← hD] at hown
    have HD := Lib.hid hD; have HO := Lib.hid hown
    have hDl : D.length = k := by have := hown.len; rwa [up_len] at this
    have hk64 : k ≤ 64 := by rw [← hDl, hD]; exact ofSize_len _ _
    have HDl := Lib.hid hDl
    clear hb hown hD hDl p0 p1
    go_wp2_with fail
    go_loopw [6, 7, 21] (fun _ _ i wr => ∃ I : Nat, I ≤ k ∧ i = .int .i64 I ∧ Below w2.heap.size w2 wr ∧ Hid (∀ q, q < I → ∀ j i, i < j → nthN D q = pr j i → nth cs i ≠ nth cs j)) (fun _ _ i _ => k - (intOf i).toNat)
    case atStart => exact ⟨0, Nat.zero_le _, rfl, Below.refl _ _, Lib.hid fun q hq => absurd hq (Nat.not_lt_zero _)⟩
    case round =>
      obtain ⟨I, hI, rfl, hbr, hok⟩ := hrel
      have HBr := Lib.hid hbr
      have HOr := Lib.hid (HO.out.keep hbr); have Hyr := Lib.hid (Hy2.out.keep hbr)
      clear hbr
      by_cases hlt : I < k
      · obtain ⟨b1, o1, rfl, hc⟩ := HOr.out.reads.cells (by omega)
        have hck := hc I hlt
        rw [nth_up] at hck
        have hmem : nthN D I ∈ D := nthN_mem (by rw [HDl.out]; exact hlt)
        rw [HD.out] at hmem
        unfold ofSize at hmem
        rw [if_neg (by omega)] at hmem
        obtain ⟨he64, hface, hsz⟩ := mem_lvl.1 hmem
        rw [← show D = lvlTo (isFace l) 64 (2 : Int).toNat by rw [HD.out]; unfold ofSize; rw [if_neg (by omega)]] at he64 hface hsz
        obtain ⟨e, hee⟩ : ∃ e, e = nthN D I := ⟨_, rfl⟩
        rw [← hee] at hck he64 hface hsz
        obtain ⟨j, hj6, i, hij, hpts, hpr⟩ := two_pts e he64 hsz
        have hjm : j < n' := by
          unfold isFace at hface
          obtain ⟨t, ht, hst⟩ := List.any_eq_true.1 hface
          refine bit_lt (Hl2.out t ht) (sub_iff.1 hst j ?_)
          rw [hpr, pr_bit]; simp
        have Hee := Lib.hid hee; have Hpts := Lib.hid hpts; have Hpr := Lib.hid hpr; have Hface := Lib.hid hface
        clear hc hmem hee hpts hpr hsz hface
        go_wp2_with fail
        refine (PointsOf_any e _ he64).mono ?_
        rw [Hpts.out]
        rintro e3 w3 ⟨ad3, k3, d3, rfl, hown3, hb3⟩
        have hk3 : k3 = 2 := by have := hown3.len; simpa [up] using this.symm
        subst hk3
        have HB3 := Lib.hid (HBr.out.trans (hb3.mono HBr.out.size))
        have Hy3 := Lib.hid (Hyr.out.keep hb3)
        obtain ⟨b3, o3, rfl, hc3⟩ := hown3.reads.cells (by omega)
        have he0 := hc3 0 (by omega)
        have he1 := hc3 1 (by omega)
        have hn0 : nth (up [i, j]) 0 = (i : Int) := rfl
        have hn1 : nth (up [i, j]) 1 = (j : Int) := rfl
        rw [hn0, Nat.add_zero] at he0
        rw [hn1] at he1
        obtain ⟨b4, o4, rfl, hc4⟩ := Hy3.out.cells (by omega)
        have hci := hc4 i (by omega)
        have hcj := hc4 j hjm
        obtain ⟨xi, hxi⟩ : ∃ x, x = nth cs i := ⟨_, rfl⟩
        obtain ⟨xj, hxj⟩ : ∃ x, x = nth cs j := ⟨_, rfl⟩
        rw [← hxi] at hci
        rw [← hxj] at hcj
        have Hxi := Lib.hid hxi; have Hxj := Lib.hid hxj
        have hi0 : (0 : Int) ≤ i := by omega
        have hj0 : (0 : Int) ≤ j := by omega
        have him : (i : Int) < n' := by omega
        have hjm' : (j : Int) < n' := by omega
        clear hown3 hb3 hc3 hc4 hxi hxj hn0 hn1
        cases hst : (xi == xj)
        · have hne : xi ≠ xj := by simpa using hst
          have Hne := Lib.hid hne; clear hne
          go_wp2_with fail
          go_quiet (fail)
          go_wp2_with fail
          go_roundw
          case rel =>
            refine ⟨I + 1, by omega, by go_num, below_drewN HB3.out _, Lib.hid fun q hq j2 i2 h2 h3 => ?_⟩
            rcases Nat.lt_or_ge q I with h | h
            · exact hok.out q h j2 i2 h2 h3
            · obtain rfl : q = I := by omega
              rw [← Hee.out, Hpr.out] at h3
              have hb1 := congrArg (fun z => z.testBit j2) h3
              have hb2 := congrArg (fun z => z.testBit i2) h3
              have hb3 := congrArg (fun z => z.testBit j) h3
              have hb4 := congrArg (fun z => z.testBit i) h3
              simp only [pr_bit] at hb1 hb2 hb3 hb4
              have ej : j2 = j ∧ i2 = i := by
                simp at hb1 hb2 hb3 hb4
                omega
              rw [ej.1, ej.2, ← Hxi.out, ← Hxj.out]; exact Hne.out
          case measure => simp [intOf]; omega
        · have hbf : b = false := by
            have he : xi = xj := by simpa using hst
            cases b
            · rfl
            · have := (Hb.out.1 rfl).2 j (by rw [Hlen.out]; exact hjm) i hij (by rw [← Hxi.out, ← Hxj.out, he])
              unfold adjB at this
              rw [← Hpr.out, Hface.out] at this
              cases this
          subst hbf
          go_wp2_with fail
          go_quiet (fail)
          go_wp2_with fail
          go_ret
          exact ⟨rfl, below_drewN (HB2.out.trans (HB3.out.mono HB2.out.size)) _⟩
      · obtain rfl : I = k := by omega
        have hbt : b = true := by
          refine Hb.out.2 ⟨HC.out, fun j hj i hij he => ?_⟩
          cases hadj : adjB l j i
          · rfl
          · rw [Hlen.out] at hj
            have hj6 : j < 6 := by omega
            have hmem : pr j i ∈ D := by
              rw [HD.out]; unfold ofSize
              rw [if_neg (by omega)]
              exact mem_lvl.2 ⟨pr_lt hj6 (by omega), hadj, pr_sz j hj6 i (by omega) (by omega)⟩
            obtain ⟨q, hq, hqe⟩ := List.mem_iff_getElem.1 hmem
            exact absurd he.symm (hok.out q (by rw [← HDl.out]; exact hq) j i hij (by rw [nthN_eq hq]; exact hqe))
        subst hbt
        go_wp2_with fail
        go_ret
        exact ⟨rfl, HB2.out.trans (HBr.out.mono HB2.out.size)⟩
  · have hbf : b = false := by
      cases b
      · rfl
      · exact absurd (Hb.out.1 rfl).1 hC
    subst hbf
    have HC := Lib.hid hC; clear hC
    go_enter Try.func21, Try.ntmps21
    go_wp2_with fail
    refine (iIsComplex_any m a n c _ _ Hx.out Hcap.out true (by simp [HA.out])).mono ?_
    rintro e w1 ⟨rfl, hb⟩
    have HB : Hid (Below w.heap.size w w1) := Lib.hid (Below.trans (by repeat (first | exact Below.refl _ _ | assumption | refine Below.setCell ?_ (by first | omega | (simp; done) | (simp; omega)) _ | refine Below.alloc ?_ (by first | omega | (simp; done) | (simp; omega)) _ | apply Below.drew)) (hb.mono (by simp <;> omega)))
    obtain ⟨p0, p1, _, _, _⟩ := XA.out.keep hb (by simp)
    have Hy1 := Lib.hid (Hy.out.keep hb)
    clear hb
    go_wp2_with (go_at_call 78; (with_reducible refine (areColors_any m a' n' c' cs _ Hy1.out false (by simp [HC.out])).mono ?_); rintro e w' ⟨rfl, rfl⟩)
    go_ret
    exact ⟨rfl, HB.out⟩

theorem sCol_no (p : Int) (a : Option Addr) (n c : Nat) (xs : List Int) (a' : Option Addr) (n' c' : Nat) (cs : List Int) (w : World) (h : IntsAt w a n xs) (hno : ¬ Anti p xs) :
    Calls Try.prog 22 #[.agg #[.int .i64 p, .slice a n c], .slice a' n' c'] w fun e w' => e = .returned (.bool false) ∧ Below w.heap.size w w' := by
  have hx : IntsAt (w.alloc (.cells #[.int .i64 p, .slice a n c] 26)) a n xs := h.keep (by repeat (first | exact Below.refl _ _ | assumption | refine Below.setCell ?_ (by first | omega | (simp; done) | (simp; omega)) _ | refine Below.alloc ?_ (by first | omega | (simp; done) | (simp; omega)) _ | apply Below.drew))
  have Hx := Lib.hid hx; have Hno := Lib.hid hno
  clear hx h hno
  go_enter Try.func22, Try.ntmps22
  go_wp2_with fail
  refine (sIsComplex_any p a n c xs _ Hx.out false (by simp [Hno.out])).mono ?_
  rintro e w1 ⟨rfl, hb⟩
  have HB : Hid (Below w.heap.size w w1) := Lib.hid (Below.trans (by repeat (first | exact Below.refl _ _ | assumption | refine Below.setCell ?_ (by first | omega | (simp; done) | (simp; omega)) _ | refine Below.alloc ?_ (by first | omega | (simp; done) | (simp; omega)) _ | apply Below.drew)) (hb.mono (by simp <;> omega)))
  clear hb
  go_wp2_with fail
  go_ret
  exact ⟨rfl, HB.out⟩
set_option maxRecDepth 100000 in
set_option maxHeartbeats 2000000 in
theorem sCol_yes (m : Nat) (a : Option Addr) (n c : Nat) (l : List Nat) (a' : Option Addr) (n' c' : Nat) (cs : List Int) (w : World) (h : IntsAt w a n (up l)) (h' : IntsAt w a' n' cs) (hm : m ≤ 6) (hA : Anti m (up l)) (hl : ∀ t ∈ l, t < 64) (b : Bool) (hb : b = true ↔ ColQ l m cs) :
    Calls Try.prog 22 #[.agg #[.int .i64 m, .slice a n c], .slice a' n' c'] w fun e w' => e = .returned (.bool b) ∧ Below w.heap.size w w' := by
  have hx : IntsAt (w.alloc (.cells #[.int .i64 m, .slice a n c] 26)) a n (up l) := h.keep (by repeat (first | exact Below.refl _ _ | assumption | refine Below.setCell ?_ (by first | omega | (simp; done) | (simp; omega)) _ | refine Below.alloc ?_ (by first | omega | (simp; done) | (simp; omega)) _ | apply Below.drew))
  have hy : IntsAt (w.alloc (.cells #[.int .i64 m, .slice a n c] 26)) a' n' cs := h'.keep (by repeat (first | exact Below.refl _ _ | assumption | refine Below.setCell ?_ (by first | omega | (simp; done) | (simp; omega)) _ | refine Below.alloc ?_ (by first | omega | (simp; done) | (simp; omega)) _ | apply Below.drew))
  have Hx := Lib.hid hx; have Hy := Lib.hid hy; have HA := Lib.hid hA; have Hl := Lib.hid hl; have Hb := Lib.hid hb
  have XA := Lib.hid (BoxF.new w (.int .i64 m) (.slice a n c) 26)
  have hlen := h'.len
  have Hlen := Lib.hid hlen
  have hsm := h'.small
  clear hx hy h h' hA hl hb hlen
  by_cases hnm : n' = m
  · subst hnm
    have hne : (((n' : Nat) : Int) != (n' : Int)) = false := by simp
    go_enter Try.func22, Try.ntmps22
    go_wp2_with fail
    refine (sIsComplex_any n' a n c _ _ Hx.out true (by simp [HA.out])).mono ?_
    rintro e w1 ⟨rfl, hb⟩
    have HB : Hid (Below w.heap.size w w1) := Lib.hid (Below.trans (by repeat (first | exact Below.refl _ _ | assumption | refine Below.setCell ?_ (by first | omega | (simp; done) | (simp; omega)) _ | refine Below.alloc ?_ (by first | omega | (simp; done) | (simp; omega)) _ | apply Below.drew)) (hb.mono (by simp <;> omega)))
    have XA1 := Lib.hid (XA.out.keep hb (by simp))
    obtain ⟨p0, p1, _, _, _⟩ := XA1.out
    have Hx1 := Lib.hid (Hx.out.keep hb); have Hy1 := Lib.hid (Hy.out.keep hb)
    have hz : w.heap.size + 1 ≤ w1.heap.size := by have := hb.size; simp at this; omega
    clear hb
    go_wp2_with fail
    clear p0 p1
    go_loopw [5] (fun i wr => ∃ I : Nat, I ≤ n' ∧ i = .int .i64 I ∧ Below w1.heap.size w1 wr ∧ Hid (∀ q, q < I → (0 ≤ nth cs q ∧ nth cs q ≤ 5) ∧ ∀ k, k < q → nth cs q = nth cs k → adjB l q k = false)) (fun i _ => n' - (intOf i).toNat)
    case atStart => exact ⟨0, Nat.zero_le _, rfl, Below.refl _ _, Lib.hid fun q hq => absurd hq (Nat.not_lt_zero _)⟩
    case round =>
      obtain ⟨wo, rfl⟩ : ∃ x : World, x = wr := ⟨_, rfl⟩
      obtain ⟨I, hI, rfl, hbr, hok⟩ := hrel
      have HBr := Lib.hid hbr
      have Hyr := Lib.hid (Hy1.out.keep hbr)
      clear hbr
      by_cases hlt : I < n'
      · obtain ⟨b4, o4, rfl, hc4⟩ := Hyr.out.cells (by omega)
        have hci := hc4 I hlt
        obtain ⟨xi, hxi⟩ : ∃ x, x = nth cs I := ⟨_, rfl⟩
        rw [← hxi] at hci
        have Hxi := Lib.hid hxi
        clear hc4 hxi
        by_cases hin : 0 ≤ xi ∧ xi ≤ 5
        · have Hin := Lib.hid hin
          go_wp2_with (go_at_call 72; (with_reducible refine (l1In_yes xi 0 5 _ hin.1 hin.2).mono ?_); rintro e w' ⟨rfl, rfl⟩)
          clear hin
          go_loopw [6] (fun j wi => ∃ J : Nat, J ≤ I ∧ j = .int .i64 J ∧ Below w1.heap.size w1 wi ∧ Hid (∀ k, k < J → xi = nth cs k → adjB l I k = false)) (fun j _ => I - (intOf j).toNat)
          case atStart => exact ⟨0, Nat.zero_le _, rfl, HBr.out, Lib.hid fun q hq => absurd hq (Nat.not_lt_zero _)⟩
          case round =>
            obtain ⟨J, hJ, rfl, hbi, hok2⟩ := hrel
            have HBi := Lib.hid hbi
            have Hyi := Lib.hid (Hy1.out.keep hbi); have Hxx := Lib.hid (Hx1.out.keep hbi)
            have XA2 := Lib.hid (XA1.out.keep hbi (by omega))
            clear hbi hci
            by_cases hjt : J < I
            · obtain ⟨p0, p1, _, _, _⟩ := XA2.out
              have hci := Hyi.out.cellAt I hlt
              have hcj := Hyi.out.cellAt J (by omega)
              rw [← Hxi.out] at hci
              obtain ⟨xj, hxj⟩ : ∃ x, x = nth cs J := ⟨_, rfl⟩
              rw [← hxj] at hcj
              have Hxj := Lib.hid hxj
              have hI6 : I < 6 := by omega
              have hJ6 : J < 6 := by omega
              have hi0 : (0 : Int) ≤ I := by omega
              have hj0 : (0 : Int) ≤ J := by omega
              have him : (I : Int) < n' := by omega
              have hjm : (J : Int) < n' := by omega
              clear hxj
              cases hst : (xi == xj)
              · have hne2 : xi ≠ xj := by simpa using hst
                have Hne := Lib.hid hne2; clear hne2
                go_wp2_with fail
                go_quiet (fail)
                go_wp2_with fail
                go_roundw
                case rel =>
                  refine ⟨J + 1, by omega, by go_num, below_drewN HBi.out _, Lib.hid fun k hk he => ?_⟩
                  rcases Nat.lt_or_ge k J with h | h
                  · exact hok2.out k h he
                  · obtain rfl : k = J := by omega
                    exact absurd (he.trans Hxj.out.symm) Hne.out
                case measure => simp [intOf]; omega
              · have heq : xi = xj := by simpa using hst
                have Heq := Lib.hid heq; clear heq
                have hpr := pr_lt hI6 hJ6
                have hsI := w_shl6 I (by omega)
                have hsJ := w_shl6 J (by omega)
                have hwI : IntKind.u64.wrap (I : Int) = (I : Int) := by rw [IntKind.wrap_u64]; omega
                have hwJ : IntKind.u64.wrap (J : Int) = (J : Int) := by rw [IntKind.wrap_u64]; omega
                have hmI : min I 64 = I := by omega
                have hmJ : min J 64 = J := by omega
                have hadd : ((2 : Int) ^ I + 2 ^ J) = ((pr I J : Nat) : Int) := by rw [← pr_add hI6 hJ6 (by omega)]; norm_cast
                obtain ⟨e, he⟩ : ∃ e, e = pr I J := ⟨_, rfl⟩
                rw [← he] at hadd hpr
                have hwe : IntKind.i64.wrap (e : Int) = (e : Int) := by rw [IntKind.wrap_i64]; omega
                have hwe2 : wrap64 (e : Int) = (e : Int) := by unfold wrap64; omega
                obtain ⟨ib, hib⟩ : ∃ ib, isFace l e = ib := ⟨_, rfl⟩
                have hadj : adjB l I J = ib := by unfold adjB; rw [← he]; exact hib
                have Hib := Lib.hid hib; have Hadj := Lib.hid hadj
                clear he hib hadj
                have Hxd := Lib.hid (Hxx.out.keep (Below.drew (Below.refl _ _)))
                have XAd := Lib.hid XA2.out.drew; have HBd := Lib.hid HBi.out.drew
                go_wp2_with fail
                go_cut [53] (fun v W => v = .bool ib ∧ Below w1.heap.size w1 W)
                case first =>
                  go_region_held3 (fun W => W.cell? ⟨w.heap.size, 0, none⟩ = some (.int .i64 n') ∧ W.cell? ⟨w.heap.size, 1, none⟩ = some (.slice a n c) ∧ W.cell? ⟨b4, o4 + I, none⟩ = some (.int .i64 xi) ∧ W.cell? ⟨b4, o4 + J, none⟩ = some (.int .i64 xj))
                    (first | exact ⟨p0, p1, hci, hcj⟩ | exact ⟨y0, y1, y2, y3⟩ | go_keep)
                    (first
                      | (go_simp; go_at_call 81; (with_reducible refine (l3Has_any n' e a n c l _ Hxd.out hpr Hl.out ib Hib.out).mono ?_); rintro e4 w4 ⟨rfl, hb4⟩; have HB4 := Lib.hid (HBd.out.trans (hb4.mono HBd.out.size)); have XA4 := Lib.hid (XAd.out.keep hb4 (by have := HBd.out.size; simp at this ⊢; omega)); have Hy4 := Lib.hid (Hy1.out.keep HB4.out); have y2 := Hy4.out.cellAt I hlt; have y3 := Hy4.out.cellAt J (by omega); rw [← Hxi.out] at y2; rw [← Hxj.out] at y3; obtain ⟨y0, y1, _, _, _⟩ := XA4.out; clear hb4))
                  all_goals (go_wp2_with fail; go_meet)
                  all_goals exact ⟨rfl, HB4.out⟩
                case rest =>
                  obtain ⟨rfl, hbc⟩ := hcut
                  have HBc := Lib.hid hbc
                  clear hbc
                  cases ib
                  · go_wp2_with fail
                    go_roundw
                    case rel =>
                      refine ⟨J + 1, by omega, by go_num, HBc.out, Lib.hid fun k hk he => ?_⟩
                      rcases Nat.lt_or_ge k J with h | h
                      · exact hok2.out k h he
                      · obtain rfl : k = J := by omega
                        exact Hadj.out
                    case measure => simp [intOf]; omega
                  · have hbf : b = false := by
                      cases b
                      · rfl
                      · have := (Hb.out.1 rfl).2 I (by rw [Hlen.out]; exact hlt) J hjt (by rw [← Hxi.out, ← Hxj.out, Heq.out])
                        rw [Hadj.out] at this; cases this
                    subst hbf
                    go_wp2_with fail
                    go_ret
                    exact ⟨rfl, HB.out.trans (HBc.out.mono HB.out.size)⟩
            · obtain rfl : J = I := by omega
              have hjj : ¬ ((J : Int) < J) := by omega
              go_wp2_with fail
              go_roundw
              case rel =>
                refine ⟨J + 1, by omega, by go_num, HBi.out, Lib.hid fun q hq => ?_⟩
                rcases Nat.lt_or_ge q J with h | h
                · exact hok.out q h
                · obtain rfl : q = J := by omega
                  exact ⟨by rw [← Hxi.out]; exact Hin.out, fun k hk he => hok2.out k hk (by rw [Hxi.out]; exact he)⟩
              case measure => simp [intOf]; omega
        · have hbf : b = false := by
            cases b
            · rfl
            · have := (Hb.out.1 rfl).1.2 I (by rw [Hlen.out]; exact hlt)
              rw [← Hxi.out] at this; exact absurd this hin
          subst hbf
          have Hin := Lib.hid hin; clear hin
          go_wp2_with (go_at_call 72; (with_reducible refine (l1In_no xi 0 5 _ Hin.out).mono ?_); rintro e w' ⟨rfl, rfl⟩)
          go_ret
          exact ⟨rfl, HB.out.trans (HBr.out.mono HB.out.size)⟩
      · obtain rfl : I = n' := by omega
        have hii : ¬ ((I : Int) < I) := by omega
        have hbt : b = true := Hb.out.2 ⟨⟨Hlen.out, fun i hi => (hok.out i (by rw [← Hlen.out]; exact hi)).1⟩, fun i hi k hk he => (hok.out i (by rw [← Hlen.out]; exact hi)).2 k hk he⟩
        subst hbt
        go_wp2_with fail
        go_ret
        exact ⟨rfl, HB.out.trans (HBr.out.mono HB.out.size)⟩
  · have hbf : b = false := by
      cases b
      · rfl
      · have := (Hb.out.1 rfl).1.1
        rw [Hlen.out] at this
        exact absurd this hnm
    subst hbf
    have hne : (((n' : Nat) : Int) != (m : Int)) = true := by simp; omega
    go_enter Try.func22, Try.ntmps22
    go_wp2_with fail
    refine (sIsComplex_any m a n c _ _ Hx.out true (by simp [HA.out])).mono ?_
    rintro e w1 ⟨rfl, hb⟩
    have HB : Hid (Below w.heap.size w w1) := Lib.hid (Below.trans (by repeat (first | exact Below.refl _ _ | assumption | refine Below.setCell ?_ (by first | omega | (simp; done) | (simp; omega)) _ | refine Below.alloc ?_ (by first | omega | (simp; done) | (simp; omega)) _ | apply Below.drew)) (hb.mono (by simp <;> omega)))
    obtain ⟨p0, p1, _, _, _⟩ := XA.out.keep hb (by simp)
    clear hb
    go_wp2_with fail
    go_ret
    exact ⟨rfl, HB.out⟩
end Go.Proofs.Ytbdnlncpamandaa

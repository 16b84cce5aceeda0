/- Contracts of IsChordal, the program's and the reference's. -/
import Derived.Test.YtfhegdgpcjhoaaaChord
namespace Go.Proofs.Ytfhegdgpcjhoaaa
open Go.RowKit
set_option linter.unusedSimpArgs false
set_option linter.unusedVariables false

/-- the neighbours of i among the points left are joined -/
def gd (l : List Nat) (left i : Nat) : Bool := pairB (nbs l) (nbs l i &&& left)
theorem nbTo_all (l : List Nat) (i : Nat) : nbTo l i l.length = nbs l i := by unfold nbTo nbs; rw [List.take_length]
theorem nbs_lt {l : List Nat} (hl : ∀ t ∈ l, t < 64) (i : Nat) : nbs l i < 64 := by rw [← nbTo_all]; exact nbTo_lt hl i _ (Nat.le_refl _)
theorem bit_lt {s m i : Nat} (hs : s < 2 ^ m) (h : s.testBit i = true) : i < m := by
  rcases Nat.lt_or_ge i m with h' | h'
  · exact h'
  · rw [Nat.testBit_lt_two_pow (Nat.lt_of_lt_of_le hs (Nat.pow_le_pow_right (by omega) h'))] at h; cases h
/-- the table of the neighbours -/
def nbRow (l : List Nat) (m : Nat) : List Nat := (List.range m).map fun j => nbTo l j l.length
theorem nbRow_at {l : List Nat} {m i : Nat} (hi : i < m) : nthN (nbRow l m) i = nbs l i := by
  unfold nbRow
  rw [nthN_eq (by simpa using hi)]
  simp [nbTo_all]
theorem pairB_row {l : List Nat} {m s : Nat} (hs : s < 2 ^ m) : pairB (nthN (nbRow l m)) s = pairB (nbs l) s := by
  unfold pairB
  rw [Bool.eq_iff_iff, List.all_eq_true, List.all_eq_true]
  constructor
  · intro h i hi
    have := h i hi
    rwa [nbRow_at (bit_lt hs (mem_pts.1 hi).2)] at this
  · intro h i hi
    have := h i hi
    rwa [nbRow_at (bit_lt hs (mem_pts.1 hi).2)]

theorem iChordal_no (p : Int) (a : Option Addr) (n c : Nat) (xs : List Int) (w : World) (h : IntsAt w a n xs) (hP : ¬ GraphP p xs) :
    Calls Try.prog 18 #[.agg #[.int .i64 p, .slice a n c]] w fun e w' => e = .returned (.bool false) ∧ Below w.heap.size w w' := by
  have Hh := Lib.hid h; clear h
  have HP := Lib.hid hP; clear hP
  go_enter Try.func18, Try.ntmps18
  go_wp2_with fail
  refine (iIsGraph_any p a n c xs _ (Hh.out.keep (by repeat (first | exact Below.refl _ _ | assumption | refine Below.setCell ?_ (by first | omega | (simp; done) | (simp; omega)) _ | refine Below.alloc ?_ (by first | omega | (simp; done) | (simp; omega)) _ | apply Below.drew))) false (by simp [HP.out])).mono ?_
  rintro e w1 ⟨rfl, hb⟩
  have HB := Lib.hid (show Below w.heap.size w w1 from Below.trans (by repeat (first | exact Below.refl _ _ | assumption | refine Below.setCell ?_ (by first | omega | (simp; done) | (simp; omega)) _ | refine Below.alloc ?_ (by first | omega | (simp; done) | (simp; omega)) _ | apply Below.drew)) (hb.mono (by simp)))
  clear hb
  go_wp2_with fail
  go_ret
  exact ⟨rfl, HB.out⟩
set_option maxRecDepth 100000 in
set_option maxHeartbeats 2000000 in
theorem iChordal_yes (m : Nat) (a : Option Addr) (n c : Nat) (l : List Nat) (w : World) (h : IntsAt w a n (up l)) (hP : GraphP m (up l)) (hl : ∀ t ∈ l, t < 64) (b : Bool) (hb : chordW (gd l) 64 (2 ^ m - 1) = b) :
    Calls Try.prog 18 #[.agg #[.int .i64 m, .slice a n c]] w fun e w' => e = .returned (.bool b) ∧ Below w.heap.size w w' := by
  have hm6 : m ≤ 6 := by have := hP.2.1; omega
  have hm8 : m < 8 := by omega
  have HP := Lib.hid hP; clear hP
  have hx : IntsAt (w.alloc (.cells #[.int .i64 m, .slice a n c] 27)) a n (up l) := h.keep (by repeat (first | exact Below.refl _ _ | assumption | refine Below.setCell ?_ (by first | omega | (simp; done) | (simp; omega)) _ | refine Below.alloc ?_ (by first | omega | (simp; done) | (simp; omega)) _ | apply Below.drew))
  have Hx := Lib.hid hx; have Hl := Lib.hid hl
  have XA := Lib.hid (BoxF.new w (.int .i64 m) (.slice a n c) 27)
  clear hx h hl
  have hsh := w_shl6 m hm8
  have hpos : 1 ≤ 2 ^ m := Nat.one_le_two_pow
  have hN1 : (2 : Int) ^ m - 1 = ((2 ^ m - 1 : Nat) : Int) := by
    rw [Int.ofNat_sub hpos]; norm_cast
  have hlt0 : 2 ^ m - 1 < 2 ^ m := by omega
  obtain ⟨X0, hX0⟩ : ∃ X0, X0 = 2 ^ m - 1 := ⟨_, rfl⟩
  rw [← hX0] at hb hN1 hlt0
  have Hb := Lib.hid hb; have Hlt0 := Lib.hid hlt0
  have h64 : 2 ^ m ≤ 64 := pow_le64 hm6
  have H64 := Lib.hid h64
  have hX64 : X0 < 64 := by omega
  clear hb hX0 hpos hlt0 h64
  go_enter Try.func18, Try.ntmps18
  go_wp2_with fail
  refine (iIsGraph_any m a n c _ _ Hx.out true (by simp [HP.out])).mono ?_
  rintro e w1 ⟨rfl, hb⟩
  have HB := Lib.hid (show Below w.heap.size w w1 from Below.trans (by repeat (first | exact Below.refl _ _ | assumption | refine Below.setCell ?_ (by first | omega | (simp; done) | (simp; omega)) _ | refine Below.alloc ?_ (by first | omega | (simp; done) | (simp; omega)) _ | apply Below.drew)) (hb.mono (by simp)))
  have XA1 := Lib.hid (XA.out.keep hb (by simp))
  have Hx1 := Lib.hid (Hx.out.keep hb)
  obtain ⟨p0, p1, _, _, _⟩ := XA1.out
  have hz : w.heap.size + 1 ≤ w1.heap.size := by have := hb.size; simp at this; omega
  clear hb
  go_wp2_with fail
  refine (neighborsIn_any m a n c l _ Hx1.out hm6 Hl.out).mono ?_
  rintro e w2 ⟨ad, k, d, rfl, hown, hb⟩
  have XA2 := Lib.hid (XA1.out.keep hb (by omega))
  have HB2 := Lib.hid (HB.out.trans (hb.mono HB.out.size))
  have HN : Hid (IntsAt w2 ad k (up (nbRow l m))) := Lib.hid hown.reads
  have hkm : k = m := by have := HN.out.len; rw [up_len] at this; unfold nbRow at this; simpa using this.symm
  subst hkm
  clear hb hown p0 p1
  obtain ⟨q0, q1, _, _, _⟩ := XA2.out
  go_wp2_with fail
  go_loopw [4, 5, 7] (fun v _ _ wr => ∃ x f : Nat, v = .int .i64 x ∧ x < 2 ^ k ∧ x < f ∧ chordW (gd l) f x = b ∧ Below w2.heap.size w2 wr) (fun v _ _ _ => (intOf v).toNat)
  case atStart => exact ⟨X0, 64, by go_num, Hlt0.out, by have := Hlt0.out; have := H64.out; omega, Hb.out, Below.refl _ _⟩
  case round =>
    obtain ⟨wo, rfl⟩ : ∃ x : World, x = wr := ⟨_, rfl⟩
    obtain ⟨x, f, rfl, hx2, hxf, hch, hbo⟩ := hrel
    have Hx2 := Lib.hid hx2
    have hx64 : x < 64 := by have := H64.out; omega
    have HBo := Lib.hid hbo
    clear hbo hx2
    by_cases hx0 : x = 0
    · subst hx0
      have hbt : b = true := by
        rw [← hch]
        cases f with
        | zero => rfl
        | succ f => unfold chordW; simp
      subst hbt
      go_wp2_with fail
      go_ret
      exact ⟨rfl, HB2.out.trans (HBo.out.mono HB2.out.size)⟩
    · have hxne : ((x : Int) != 0) = true := by simp; omega
      obtain ⟨f, rfl⟩ : ∃ g, f = g + 1 := ⟨f - 1, by omega⟩
      have hch2 : ((pts x).find? (gd l x)).elim false (fun i => chordW (gd l) f (sdiff x (2 ^ i))) = b := by rw [← hch, chordW, if_neg hx0]
      have Hch := Lib.hid hch2
      clear hch hch2
      go_wp2_with fail
      refine (PointsOf_any x _ hx64).mono ?_
      rintro e w3 ⟨ad3, k3, d3, rfl, hown, hb⟩
      have HB3 := Lib.hid (HBo.out.trans (hb.mono HBo.out.size))
      obtain ⟨P, hPe⟩ : ∃ P, P = pts x := ⟨_, rfl⟩
      rw [← hPe] at hown
      have HPe := Lib.hid hPe
      have hPl : P.length = k3 := by have := hown.len; rwa [up_len] at this
      have HPl := Lib.hid hPl
      have HO := Lib.hid hown
      have hk3 : k3 ≤ 6 := by rw [← hPl, hPe]; exact ptsTo_len _ _
      clear hb hown hPe hPl
      go_wp2_with fail
      go_loopw [5, 7, 23] (fun g _ j wi => ∃ J : Nat, J ≤ k3 ∧ g = .int .i64 0 ∧ j = .int .i64 J ∧ Below w3.heap.size w3 wi ∧ Hid (∀ j, j < J → gd l x (nthN P j) = false)) (fun _ _ j _ => k3 - (intOf j).toNat)
      case atStart => exact ⟨0, Nat.zero_le _, rfl, rfl, Below.refl _ _, Lib.hid fun j hj => absurd hj (Nat.not_lt_zero _)⟩
      case round =>
        obtain ⟨J, hJ, rfl, rfl, hbi, hok⟩ := hrel
        have HBi := Lib.hid (HB3.out.trans (hbi.mono HB3.out.size))
        have HNi := Lib.hid (HN.out.keep HBi.out)
        have HOi := Lib.hid (HO.out.keep hbi)
        by_cases hlt : J < k3
        · obtain ⟨b1, o1, rfl, hc⟩ := HOi.out.reads.cells (by omega)
          have hck := hc J hlt
          rw [nth_up] at hck
          have hmem : nthN P J ∈ P := nthN_mem (by rw [HPl.out]; exact hlt)
          rw [HPe.out] at hmem
          obtain ⟨hi6, hib⟩ := mem_pts.1 hmem
          rw [← HPe.out] at hi6 hib
          obtain ⟨i, hie⟩ : ∃ i, i = nthN P J := ⟨_, rfl⟩
          rw [← hie] at hck hi6 hib
          have Hie := Lib.hid hie
          have hik := bit_lt Hx2.out hib
          obtain ⟨b2, o2, rfl, hc2⟩ := HNi.out.cells (by omega)
          have hci := hc2 i hik
          rw [nth_up, nbRow_at hik] at hci
          have hu := nbs_lt Hl.out i
          have hgdE : gd l x i = pairB (nbs l) (nbs l i &&& x) := rfl
          obtain ⟨u, hue⟩ : ∃ u, u = nbs l i := ⟨_, rfl⟩
          rw [← hue] at hci hu hgdE
          have hand := w_and u x hu hx64
          have hux : u &&& x < 2 ^ k := Nat.lt_of_le_of_lt Nat.and_le_right Hx2.out
          have hux64 : u &&& x < 64 := Nat.lt_of_le_of_lt Nat.and_le_right hx64
          have hshi := w_shl6 i (by omega)
          have hnb := w_andNotbit x i hx64 hi6
          have hk0 : (0 : Int) ≤ i := by omega
          have hkn : (i : Int) < k := by omega
          have hne2 : ((2 : Int) ^ i == 0) = false := by
            have : (0 : Int) < 2 ^ i := Int.pow_pos (by omega)
            simp; omega
          have Hib := Lib.hid hib
          have Hux := Lib.hid hux
          have Hrow : Hid (∀ t ∈ nbRow l k, t < 64) := Lib.hid (fun t ht => by
            unfold nbRow at ht
            obtain ⟨j, _, rfl⟩ := List.mem_map.1 ht
            rw [nbTo_all]; exact nbs_lt Hl.out j)
          have Hpb : Hid (pairB (nthN (nbRow l k)) (u &&& x) = gd l x i) := Lib.hid (by rw [pairB_row hux, hgdE])
          clear hc hc2 hie hue hmem hib hgdE hux
          obtain ⟨g, hg⟩ : ∃ g, gd l x i = g := ⟨_, rfl⟩
          rw [hg] at Hpb
          have Hg := Lib.hid hg
          have HBi3 := Lib.hid hbi
          clear hg hbi
          go_wp2_with fail
          refine (isPairwise_any (u &&& x) _ _ _ (nbRow l k) _ HNi.out hux64 (fun j hj hjb => bit_lt Hux.out hjb) Hrow.out g Hpb.out).mono ?_
          rintro e w4 ⟨rfl, hb⟩
          have HB4 := Lib.hid (HBi.out.trans (hb.mono HBi.out.size))
          have HB34 := Lib.hid (HBi3.out.trans (hb.mono HBi3.out.size))
          clear hb
          cases g
          · go_wp2_with fail
            go_roundw
            case rel =>
              refine ⟨J + 1, by omega, rfl, by go_num, HB34.out, Lib.hid fun j hj => ?_⟩
              rcases Nat.lt_or_ge j J with h | h
              · exact hok.out j h
              · obtain rfl : j = J := by omega
                rw [← Hie.out]; exact Hg.out
            case measure => simp [intOf]; omega
          · have hless := sdiff_less x hx64 i hi6 Hib.out
            have Hless := Lib.hid hless
            have hfind : (pts x).find? (gd l x) = some i := by
              rw [← HPe.out, Hie.out]
              exact find_at (by rw [HPl.out]; exact hlt) hok.out (by rw [← Hie.out]; exact Hg.out)
            have hch3 : chordW (gd l) f (sdiff x (2 ^ i)) = b := by have := Hch.out; rw [hfind] at this; exact this
            have Hch3 := Lib.hid hch3
            clear hch3 hfind hless
            go_wp2_with fail
            go_roundw
            case rel => exact ⟨sdiff x (2 ^ i), f, rfl, by have := Hless.out; have := Hx2.out; omega, by have := Hless.out; omega, Hch3.out, HB4.out⟩
            case measure => have := Hless.out; simp [intOf]; omega
        · obtain rfl : J = k3 := by omega
          have hbf : b = false := by
            have := Hch.out
            rw [← HPe.out, find_none (fun j hj => hok.out j (by rw [← HPl.out]; exact hj))] at this
            exact this.symm
          subst hbf
          have HBi3 := Lib.hid hbi
          clear hbi
          go_wp2_with fail
          go_ret
          exact ⟨rfl, HB2.out.trans (HBi.out.mono HB2.out.size)⟩

theorem sChordal_no (p : Int) (a : Option Addr) (n c : Nat) (xs : List Int) (w : World) (h : IntsAt w a n xs) (hP : ¬ GraphP p xs) :
    Calls Try.prog 16 #[.agg #[.int .i64 p, .slice a n c]] w fun e w' => e = .returned (.bool false) ∧ Below w.heap.size w w' := by
  have Hh := Lib.hid h; clear h
  have HP := Lib.hid hP; clear hP
  go_enter Try.func16, Try.ntmps16
  go_wp2_with fail
  refine (sIsGraph_any p a n c xs _ (Hh.out.keep (by repeat (first | exact Below.refl _ _ | assumption | refine Below.setCell ?_ (by first | omega | (simp; done) | (simp; omega)) _ | refine Below.alloc ?_ (by first | omega | (simp; done) | (simp; omega)) _ | apply Below.drew))) false (by simp [HP.out])).mono ?_
  rintro e w1 ⟨rfl, hb⟩
  have HB := Lib.hid (show Below w.heap.size w w1 from Below.trans (by repeat (first | exact Below.refl _ _ | assumption | refine Below.setCell ?_ (by first | omega | (simp; done) | (simp; omega)) _ | refine Below.alloc ?_ (by first | omega | (simp; done) | (simp; omega)) _ | apply Below.drew)) (hb.mono (by simp)))
  clear hb
  go_wp2_with fail
  go_ret
  exact ⟨rfl, HB.out⟩
theorem scan_find {l : List Nat} {m x J : Nat} (hm : m ≤ 6) (hx : x < 2 ^ m) (hJ : J < m) (h0 : ∀ j, j < J → (x.testBit j && gd l x j) = false) (h1 : (x.testBit J && gd l x J) = true) : (pts x).find? (gd l x) = some J := by
  rw [← find_range hm hx, List.find?_range_eq_some]
  refine ⟨h1, by simpa using hJ, fun j hj => by rw [h0 j hj]; rfl⟩
theorem scan_none {l : List Nat} {m x : Nat} (hm : m ≤ 6) (hx : x < 2 ^ m) (h0 : ∀ j, j < m → (x.testBit j && gd l x j) = false) : (pts x).find? (gd l x) = none := by
  rw [← find_range hm hx, List.find?_eq_none]
  intro j hj
  rw [h0 j (List.mem_range.1 hj)]; simp
theorem gd_joined {l : List Nat} {x i : Nat} (hx : x < 64) (hl : ∀ t ∈ l, t < 64) (h2 : ∀ t ∈ l, sz t = 2) : gd l x i = true ↔ Joined l (nbs l i &&& x) := by
  unfold gd
  refine pairB_iff (Nat.lt_of_le_of_lt Nat.and_le_right hx) fun i hi _ j hj => ?_
  exact nbs_pr hi hj hl h2
set_option maxRecDepth 100000 in
set_option maxHeartbeats 4000000 in
theorem sChordal_yes (m : Nat) (a : Option Addr) (n c : Nat) (l : List Nat) (w : World) (h : IntsAt w a n (up l)) (hP : GraphP m (up l)) (hl : ∀ t ∈ l, t < 64) (h2 : ∀ t ∈ l, sz t = 2) (b : Bool) (hb : chordW (gd l) 64 (2 ^ m - 1) = b) :
    Calls Try.prog 16 #[.agg #[.int .i64 m, .slice a n c]] w fun e w' => e = .returned (.bool b) ∧ Below w.heap.size w w' := by
  have hm6 : m ≤ 6 := by have := hP.2.1; omega
  have hm8 : m < 8 := by omega
  have HP := Lib.hid hP; clear hP
  have hx : IntsAt (w.alloc (.cells #[.int .i64 m, .slice a n c] 27)) a n (up l) := h.keep (by repeat (first | exact Below.refl _ _ | assumption | refine Below.setCell ?_ (by first | omega | (simp; done) | (simp; omega)) _ | refine Below.alloc ?_ (by first | omega | (simp; done) | (simp; omega)) _ | apply Below.drew))
  have Hx := Lib.hid hx; have Hl := Lib.hid hl; have H2 := Lib.hid h2
  have XA := Lib.hid (BoxF.new w (.int .i64 m) (.slice a n c) 27)
  clear hx h hl h2
  have hsh := w_shl6 m hm8
  have hpos : 1 ≤ 2 ^ m := Nat.one_le_two_pow
  have hN1 : (2 : Int) ^ m - 1 = ((2 ^ m - 1 : Nat) : Int) := by
    rw [Int.ofNat_sub hpos]; norm_cast
  have hlt0 : 2 ^ m - 1 < 2 ^ m := by omega
  obtain ⟨X0, hX0⟩ : ∃ X0, X0 = 2 ^ m - 1 := ⟨_, rfl⟩
  rw [← hX0] at hb hN1 hlt0
  have Hb := Lib.hid hb; have Hlt0 := Lib.hid hlt0
  have h64 : 2 ^ m ≤ 64 := pow_le64 hm6
  have H64 := Lib.hid h64
  have hX64 : X0 < 64 := by omega
  clear hb hX0 hpos hlt0 h64
  go_enter Try.func16, Try.ntmps16
  go_wp2_with fail
  refine (sIsGraph_any m a n c _ _ Hx.out true (by simp [HP.out])).mono ?_
  rintro e w1 ⟨rfl, hb⟩
  have HB := Lib.hid (show Below w.heap.size w w1 from Below.trans (by repeat (first | exact Below.refl _ _ | assumption | refine Below.setCell ?_ (by first | omega | (simp; done) | (simp; omega)) _ | refine Below.alloc ?_ (by first | omega | (simp; done) | (simp; omega)) _ | apply Below.drew)) (hb.mono (by simp)))
  have XA1 := Lib.hid (XA.out.keep hb (by simp))
  have Hx1 := Lib.hid (Hx.out.keep hb)
  obtain ⟨p0, p1, _, _, _⟩ := XA1.out
  have hz : w.heap.size + 1 ≤ w1.heap.size := by have := hb.size; simp at this; omega
  clear hb
  go_wp2_with fail
  clear p0 p1
  go_loopw [3, 4, 5] (fun v _ _ wr => ∃ x f : Nat, v = .int .i64 x ∧ x < 2 ^ m ∧ x < f ∧ chordW (gd l) f x = b ∧ Below w1.heap.size w1 wr) (fun v _ _ _ => (intOf v).toNat)
  case atStart => exact ⟨X0, 64, by go_num, Hlt0.out, by have := Hlt0.out; have := H64.out; omega, Hb.out, Below.refl _ _⟩
  case round =>
    obtain ⟨wo, rfl⟩ : ∃ x : World, x = wr := ⟨_, rfl⟩
    obtain ⟨x, f, rfl, hx2, hxf, hch, hbo⟩ := hrel
    have Hx2 := Lib.hid hx2
    have hx64 : x < 64 := by have := H64.out; omega
    have HBo := Lib.hid hbo
    clear hbo hx2
    by_cases hx0 : x = 0
    · subst hx0
      have hbt : b = true := by
        rw [← hch]
        cases f with
        | zero => rfl
        | succ f => unfold chordW; simp
      subst hbt
      go_wp2_with fail
      go_ret
      exact ⟨rfl, HB.out.trans (HBo.out.mono HB.out.size)⟩
    · have hxgt : (0 : Int) < x := by omega
      obtain ⟨f, rfl⟩ : ∃ g, f = g + 1 := ⟨f - 1, by omega⟩
      have hch2 : ((pts x).find? (gd l x)).elim false (fun i => chordW (gd l) f (sdiff x (2 ^ i))) = b := by rw [← hch, chordW, if_neg hx0]
      have Hch := Lib.hid hch2
      clear hch hch2
      go_wp2_with fail
      clear hxgt hx0
      go_loopw [4, 5] (fun fd i wi => ∃ I : Nat, I ≤ m ∧ i = .int .i64 I ∧ Below w1.heap.size w1 wi ∧ ((fd = .int .i64 (-1) ∧ Hid (∀ j, j < I → (x.testBit j && gd l x j) = false)) ∨ ∃ J : Nat, J < I ∧ fd = .int .i64 J ∧ Hid (∀ j, j < J → (x.testBit j && gd l x j) = false) ∧ Hid ((x.testBit J && gd l x J) = true))) (fun _ i _ => m - (intOf i).toNat)
      case atStart => exact ⟨0, Nat.zero_le _, rfl, HBo.out, .inl ⟨rfl, Lib.hid fun j hj => absurd hj (Nat.not_lt_zero _)⟩⟩
      case round =>
        obtain ⟨I, hI, rfl, hbi, hfd⟩ := hrel
        have HBi := Lib.hid hbi
        have XA2 := Lib.hid (XA1.out.keep hbi (by omega))
        have Hx3 := Lib.hid (Hx1.out.keep hbi)
        obtain ⟨p0, p1, _, _, _⟩ := XA2.out
        clear hbi
        rcases hfd with ⟨rfl, hok⟩ | ⟨J, hJI, rfl, hok, hyes⟩
        · by_cases hlt : I < m
          · cases hbit : x.testBit I
            · have Hq : Hid ((x.testBit I && gd l x I) = false) := Lib.hid (by rw [hbit]; rfl)
              go_wp2_with fail
              go_quiet (fail)
              go_wp2_with fail
              go_roundw
              case rel =>
                refine ⟨I + 1, by omega, by go_num, below_drewN HBi.out _, .inl ⟨rfl, Lib.hid fun j hj => ?_⟩⟩
                rcases Nat.lt_or_ge j I with h | h
                · exact hok.out j h
                · obtain rfl : j = I := by omega
                  exact Hq.out
              case measure => simp [intOf]; omega
            · have hnbI : nbOf m l (I : Int) = nbs l I := by
                unfold nbOf; rw [if_pos ⟨by omega, by omega⟩]; exact nbTo_all l I
              have hu := nbs_lt Hl.out I
              obtain ⟨u, hue⟩ : ∃ u, u = nbs l I := ⟨_, rfl⟩
              rw [← hue] at hnbI hu
              have hgj := gd_joined (i := I) hx64 Hl.out H2.out
              rw [← hue] at hgj
              have hand := w_and u x hu hx64
              have hux : u &&& x < 2 ^ m := Nat.lt_of_le_of_lt Nat.and_le_right Hx2.out
              obtain ⟨g, hg⟩ : ∃ g, gd l x I = g := ⟨_, rfl⟩
              rw [hg] at hgj
              have Hg := Lib.hid hg; have Hgj := Lib.hid hgj; have Hnb := Lib.hid hnbI; have Hux := Lib.hid hux
              have Hbit := Lib.hid hbit
              have hbv := bitv_yes hx64 hbit
              have hwI : IntKind.u64.wrap (I : Int) = (I : Int) := by rw [IntKind.wrap_u64]; omega
              have hmI : min I 64 = I := by omega
              have Hx4 := Lib.hid (Hx3.out.keep (Below.drew (Below.refl _ _)))
              have XA3 := Lib.hid XA2.out.drew
              have HBd := Lib.hid (HBi.out.drew)
              clear hue hg hgj hnbI hux
              go_wp2_with fail
              rename 0 < x => hxx
              clear hxx
              go_cut [40] (fun v W => v = .bool g ∧ Below w1.heap.size w1 W)
              case first =>
                go_region_held3 (fun W => W.cell? ⟨w.heap.size, 0, none⟩ = some (.int .i64 m) ∧ W.cell? ⟨w.heap.size, 1, none⟩ = some (.slice a n c))
                  (first | exact ⟨p0, p1⟩ | exact ⟨y0, y1⟩ | exact ⟨z0, z1⟩ | go_keep)
                  (first
                    | (go_simp; go_at_call 64; (with_reducible refine (sNeighbors_yes m a n c l I _ Hx4.out HP.out Hl.out).mono ?_); rw [Hnb.out]; rintro e w4 ⟨rfl, hb4⟩; have Hx5 := Lib.hid (Hx4.out.keep hb4); have HB4 := Lib.hid (HBd.out.trans (hb4.mono HBd.out.size)); have XA4 := Lib.hid (XA3.out.keep hb4 (by have := HBd.out.size; simp at this ⊢; omega)); obtain ⟨y0, y1, _, _, _⟩ := XA4.out; clear hb4)
                    | (go_simp; go_at_call 63; (with_reducible refine (l27Joined_any m a n c l (u &&& x) _ Hx5.out hm6 Hux.out g Hgj.out).mono ?_); rintro e w5 ⟨rfl, hb5⟩; have HB5 := Lib.hid (HB4.out.trans (hb5.mono HB4.out.size)); have XA5 := Lib.hid (XA4.out.keep hb5 (by have := HB4.out.size; omega)); obtain ⟨z0, z1, _, _, _⟩ := XA5.out; clear hb5))
                all_goals (go_wp2_with fail; go_meet)
                all_goals exact ⟨rfl, HB5.out⟩
              case rest =>
                obtain ⟨rfl, hbc⟩ := hcut
                have HBc := Lib.hid hbc
                clear hbc
                cases g
                · have Hq : Hid ((x.testBit I && gd l x I) = false) := Lib.hid (by rw [Hg.out]; simp)
                  go_wp2_with fail
                  go_roundw
                  case rel =>
                    refine ⟨I + 1, by omega, by go_num, HBc.out, .inl ⟨rfl, Lib.hid fun j hj => ?_⟩⟩
                    rcases Nat.lt_or_ge j I with h | h
                    · exact hok.out j h
                    · obtain rfl : j = I := by omega
                      exact Hq.out
                  case measure => simp [intOf]; omega
                · have Hq : Hid ((x.testBit I && gd l x I) = true) := Lib.hid (by rw [Hg.out, Hbit.out]; rfl)
                  go_wp2_with fail
                  go_roundw
                  case rel => exact ⟨I + 1, by omega, by go_num, HBc.out, .inr ⟨I, by omega, rfl, hok, Hq⟩⟩
                  case measure => simp [intOf]; omega
          · obtain rfl : I = m := by omega
            have hii : ¬ ((I : Int) < I) := by omega
            have hbf : b = false := by
              have := Hch.out
              rw [scan_none hm6 Hx2.out hok.out] at this
              exact this.symm
            subst hbf
            go_wp2_with fail
            go_ret
            exact ⟨rfl, HB.out.trans (HBi.out.mono HB.out.size)⟩
        · have hJm : J < m := by omega
          have hbitJ : x.testBit J = true := by have := hyes.out; rw [Bool.and_eq_true] at this; exact this.1
          have hfind := scan_find hm6 Hx2.out hJm hok.out hyes.out
          have hch3 : chordW (gd l) f (sdiff x (2 ^ J)) = b := by have := Hch.out; rw [hfind] at this; exact this
          have hless := sdiff_less x hx64 J (by omega) hbitJ
          have hsub := w_subbit x hx64 J (by omega) hbitJ
          have hshJ := w_shl6 J (by omega)
          have Hless := Lib.hid hless; have Hch3 := Lib.hid hch3
          have hJ0 : ¬ ((J : Int) < 0) := by omega
          clear hfind hch3 hless hbitJ
          by_cases hlt : I < m
          · go_wp2_with fail
            go_roundw
            case rel => exact ⟨sdiff x (2 ^ J), f, rfl, by have := Hless.out; have := Hx2.out; omega, by have := Hless.out; omega, Hch3.out, HBi.out⟩
            case measure => have := Hless.out; simp [intOf]; omega
          · have hii : ¬ ((I : Int) < m) := by omega
            go_wp2_with fail
            go_roundw
            case rel => exact ⟨sdiff x (2 ^ J), f, rfl, by have := Hless.out; have := Hx2.out; omega, by have := Hless.out; omega, Hch3.out, HBi.out⟩
            case measure => have := Hless.out; simp [intOf]; omega
end Go.Proofs.Ytfhegdgpcjhoaaa

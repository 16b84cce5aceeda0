/- Texts of this claim, one behind the other: what each says stands at its head. -/
import Derived.Deep.RegionWith
import Derived.Deep.DeepCutAuto
import Derived.Test.YtbdnlncpamandaaAnti
import Derived.Test.YtbdnlncpamandaaCore
import Derived.Test.YtbdnlncpamandaaSet3
/- Contracts of what IsGraph answers, the program's and the reference's. -/
namespace Go.Proofs.Ytbdnlncpamandaa
set_option maxRecDepth 20000
open Go.RowKit
set_option linter.unusedSimpArgs false

/-- what is asked of the edge at j -/
def EdgeOk (p : Int) (xs : List Int) (j : Nat) : Prop :=
  isSetB p (nth xs j) = true ∧ sz (nth xs j).toNat = 2 ∧ (0 < j → nth xs (j - 1) < nth xs j)
/-- what IsGraph asks -/
def GraphP (p : Int) (xs : List Int) : Prop := 1 ≤ p ∧ p ≤ 6 ∧ ∀ j, j < xs.length → EdgeOk p xs j
theorem graphNo {p : Int} {xs : List Int} {b : Bool} (hb : b = true ↔ GraphP p xs) (h : ¬ GraphP p xs) : b = false := by
  cases b
  · rfl
  · exact absurd (hb.1 rfl) h
theorem graph_dec (p : Int) (xs : List Int) : ∃ b : Bool, b = true ↔ GraphP p xs := by
  by_cases h : GraphP p xs
  · exact ⟨true, by simp [h]⟩
  · exact ⟨false, by simp [h]⟩


end Go.Proofs.Ytbdnlncpamandaa

/- Contracts of NeighborsOf and neighborsIn, the program's and the reference's. -/
namespace Go.Proofs.Ytbdnlncpamandaa
set_option maxRecDepth 20000
open Go.RowKit
set_option linter.unusedSimpArgs false
set_option linter.unusedVariables false

/-- the neighbours of point i over the first k edges -/
def nbTo (l : List Nat) (i k : Nat) : Nat := (l.take k).foldl (fun acc e => if e.testBit i then acc ||| sdiff e (2 ^ i) else acc) 0
theorem nbTo_zero (l : List Nat) (i : Nat) : nbTo l i 0 = 0 := by simp [nbTo]
theorem nbTo_yes {l : List Nat} {i k : Nat} (hk : k < l.length) (h : (nthN l k).testBit i = true) : nbTo l i (k + 1) = nbTo l i k ||| sdiff (nthN l k) (2 ^ i) := by
  unfold nbTo; rw [nthN_take l k hk, List.foldl_append]; simp [h]
theorem nbTo_no {l : List Nat} {i k : Nat} (hk : k < l.length) (h : (nthN l k).testBit i = false) : nbTo l i (k + 1) = nbTo l i k := by
  unfold nbTo; rw [nthN_take l k hk, List.foldl_append]; simp [h]
theorem nbTo_lt {l : List Nat} (hl : ∀ t ∈ l, t < 64) (i : Nat) : ∀ k, k ≤ l.length → nbTo l i k < 64 := by
  intro k
  induction k with
  | zero => intro _; rw [nbTo_zero]; omega
  | succ k ih =>
    intro hk
    cases h : (nthN l k).testBit i
    · rw [nbTo_no (by omega) h]; exact ih (by omega)
    · rw [nbTo_yes (by omega) h]; exact or_lt64 (ih (by omega)) (sdiff_lt (hl _ (nthN_mem (by omega))))
/-- the table of neighbours, its first I rows done and K edges of the next -/
def nbTab (l : List Nat) (p I K : Nat) : List Nat := (List.range p).map fun j => if j < I then nbTo l j l.length else if j = I then nbTo l j K else 0
theorem nbTab_len (l : List Nat) (p I K : Nat) : (nbTab l p I K).length = p := by simp [nbTab]
theorem nbTab_zero (l : List Nat) (p : Nat) : nbTab l p 0 0 = List.replicate p 0 := by
  apply List.ext_getElem (by simp [nbTab])
  intro i h1 h2
  simp [nbTab, nbTo_zero]
theorem nbTab_at (l : List Nat) (p I K : Nat) (hI : I < p) : nthN (nbTab l p I K) I = nbTo l I K := by
  rw [nthN_eq (by rw [nbTab_len]; exact hI)]; simp [nbTab]
theorem nbTab_no {l : List Nat} {p I K : Nat} (hK : K < l.length) (h : (nthN l K).testBit I = false) : nbTab l p I (K + 1) = nbTab l p I K := by
  unfold nbTab
  apply List.map_congr_left
  intro j _
  by_cases hj : j = I
  · subst hj; simp [nbTo_no hK h]
  · simp [hj]
theorem nbTab_set {l : List Nat} {p I K : Nat} (hI : I < p) (hK : K < l.length) (h : (nthN l K).testBit I = true) : (nbTab l p I K).set I (nbTo l I K ||| sdiff (nthN l K) (2 ^ I)) = nbTab l p I (K + 1) := by
  apply List.ext_getElem (by simp [nbTab])
  intro i h1 h2
  rw [List.getElem_set]
  by_cases hi : I = i
  · subst hi; simp [nbTab, nbTo_yes hK h]
  · have hi' : ¬ i = I := fun e => hi e.symm
    simp [nbTab, hi, hi']
theorem nbTab_next (l : List Nat) (p I : Nat) : nbTab l p I l.length = nbTab l p (I + 1) 0 := by
  unfold nbTab
  apply List.map_congr_left
  intro j _
  rcases Nat.lt_trichotomy j I with h | h | h
  · simp [h, Nat.lt_succ_of_lt h]
  · subst h; simp
  · have h1 : ¬ j < I := by omega
    have h2 : ¬ j = I := by omega
    have h3 : ¬ j < I + 1 := by omega
    simp [h1, h2, h3, nbTo_zero]
theorem nbTab_end (l : List Nat) (p : Nat) (hi : (nbTab l p p 0).length = p) : nbTab l p p 0 = (List.range p).map fun j => nbTo l j l.length := by
  unfold nbTab
  apply List.map_congr_left
  intro j hj
  simp at hj
  simp [hj]
theorem w_subbit : ∀ e : Nat, e < 64 → ∀ i : Nat, i < 6 → e.testBit i = true → IntKind.i64.wrap ((e : Int) - 2 ^ i) = ((sdiff e (2 ^ i) : Nat) : Int) := by decide +kernel
theorem w_andNotbit (a s : Nat) (ha : a < 64) (hs : s < 6) : bits .andNot .i64 (a : Int) (2 ^ s) = ((sdiff a (2 ^ s) : Nat) : Int) := by
  have e : ((2 : Int) ^ s) = ((2 ^ s : Nat) : Int) := by norm_cast
  rw [e]; exact w_andNot a _ ha (bit_lt64 hs)
attribute [go_sem] w_andNotbit

theorem GraphP.nat {p : Int} {xs : List Int} (h : GraphP p xs) : ∃ l : List Nat, xs = up l ∧ (∀ s ∈ l, s < 2 ^ p.toNat ∧ s < 64) ∧ (∀ s ∈ l, sz s = 2) ∧ l.Pairwise (· < ·) := by
  have hat : ∀ i (hi : i < xs.length), ∃ t : Nat, xs[i] = t ∧ t < 2 ^ p.toNat ∧ t < 64 ∧ sz t = 2 := by
    intro i hi
    obtain ⟨m, t, hm, ht, _, h2, h3⟩ := isSet_nat (h.2.2 i hi).1
    have hz := (h.2.2 i hi).2.1
    rw [ht, Int.toNat_natCast] at hz
    rw [nth_eq hi] at ht
    exact ⟨t, ht, by rw [hm]; simpa using h2, h3, hz⟩
  refine ⟨xs.map Int.toNat, ?_, ?_, ?_, ?_⟩
  · apply List.ext_getElem (by simp [up])
    intro i h1 h2
    obtain ⟨t, ht, _⟩ := hat i h1
    simp [up]; omega
  · intro s hs
    obtain ⟨x, hx, rfl⟩ := List.mem_map.1 hs
    obtain ⟨i, hi, rfl⟩ := List.mem_iff_getElem.1 hx
    obtain ⟨t, ht, h2, h3, _⟩ := hat i hi
    rw [ht, Int.toNat_natCast]; exact ⟨h2, h3⟩
  · intro s hs
    obtain ⟨x, hx, rfl⟩ := List.mem_map.1 hs
    obtain ⟨i, hi, rfl⟩ := List.mem_iff_getElem.1 hx
    obtain ⟨t, ht, _, _, h3⟩ := hat i hi
    rw [ht, Int.toNat_natCast]; exact h3
  · rw [List.pairwise_iff_getElem]
    intro i j hi hj hij
    simp only [List.length_map] at hi hj
    have aux : ∀ d i, i + d + 1 < xs.length → nth xs i < nth xs (i + d + 1) := by
      intro d
      induction d with
      | zero =>
        intro i hi
        exact (h.2.2 (i + 1) hi).2.2 (by omega)
      | succ d ih =>
        intro i hi
        have h1 := ih i (by omega)
        have h2 := (h.2.2 (i + d + 1 + 1) hi).2.2 (by omega)
        have h3 : nth xs (i + d + 1) < nth xs (i + d + 1 + 1) := by simpa using h2
        have e : i + (d + 1) + 1 = i + d + 1 + 1 := by omega
        rw [e]; omega
    have := aux (j - i - 1) i (by omega)
    have e : i + (j - i - 1) + 1 = j := by omega
    rw [e, nth_eq hi, nth_eq hj] at this
    obtain ⟨s, hs, _⟩ := hat i hi
    obtain ⟨t, ht, _⟩ := hat j hj
    simp only [List.getElem_map]
    omega

set_option maxHeartbeats 2000000 in
theorem neighborsIn_any (p : Nat) (a : Option Addr) (n c : Nat) (l : List Nat) (w : World) (h : IntsAt w a n (up l)) (hp : p ≤ 6) (hl : ∀ t ∈ l, t < 64) :
    Calls Try.prog 71 #[.agg #[.int .i64 p, .slice a n c]] w (RetInts w (up ((List.range p).map fun j => nbTo l j l.length))) := by
  have hn := h.small
  have hlen : l.length = n := by rw [← h.len, up_len]
  have Hlen := Lib.hid hlen; clear hlen
  have Hl := Lib.hid hl; clear hl
  have hx : IntsAt (w.alloc (.cells #[.int .i64 p, .slice a n c] 71)) a n (up l) := h.keep (by repeat (first | exact Below.refl _ _ | assumption | refine Below.setCell ?_ (by first | omega | (simp; done) | (simp; omega)) _ | refine Below.alloc ?_ (by first | omega | (simp; done) | (simp; omega)) _ | apply Below.drew))
  have Hx := Lib.hid hx; clear hx
  have Hh := Lib.hid h; clear h
  go_enter Try.func71, Try.ntmps71
  go_wp2_with (at_make; refine mk_ints rfl _ _ rfl _ rfl rfl p rfl (by omega) ?_; intro g w1 hown hb1)
  have hbx := (BoxF.new w (.int .i64 p) (.slice a n c) 71).keep hb1 (by simp)
  have Hbx := Lib.hid hbx
  have hz1 : w.heap.size + 1 ≤ w1.heap.size := by have := hb1.size; simp at this; omega
  obtain ⟨B, hB⟩ : ∃ B, B = w.heap.size + 1 := ⟨_, rfl⟩
  have ho0 : Own 3 w1 B (some ⟨g, 0, none⟩) p p (up (nbTab l p 0 0)) := by
    rw [nbTab_zero, show up (List.replicate p 0) = List.replicate p 0 by unfold up; simp, hB]; exact hown.mono (by simp)
  have Hb1 : Hid (Below B (w.alloc (.cells #[.int .i64 p, .slice a n c] 71)) w1) := Lib.hid (by rw [hB]; exact hb1.mono (by simp))
  have HB := Lib.hid hB
  clear hb1 hown hbx hB
  go_wp2_with fail
  go_loopw [4, 6, 12, 18] (fun _ _ i _ wr => ∃ I : Nat, I ≤ p ∧ i = .int .i64 I ∧ Below B (w.alloc (.cells #[.int .i64 p, .slice a n c] 71)) wr ∧ Own 3 wr B (some ⟨g, 0, none⟩) p p (up (nbTab l p I 0))) (fun _ _ i _ _ => p - (intOf i).toNat)
  case atStart => exact ⟨0, Nat.zero_le _, rfl, Hb1.out, ho0⟩
  case round =>
    clear ho0
    obtain ⟨I, hI, rfl, hbl, hown⟩ := hrel
    obtain ⟨hc0, hc1⟩ := box2 (by have := hbl; rw [HB.out] at this; exact this)
    by_cases hlt : I < p
    · have Hbl := Lib.hid hbl
      have Hown := Lib.hid hown
      clear hbl hown
      obtain ⟨wo, rfl⟩ : ∃ wo : World, wo = wr := ⟨_, rfl⟩
      go_wp2_with fail
      clear hc0 hc1
      go_loopw [6, 18] (fun _ i wr => ∃ K : Nat, K ≤ n ∧ i = .int .i64 K ∧ Below B (w.alloc (.cells #[.int .i64 p, .slice a n c] 71)) wr ∧ Own 3 wr B (some ⟨g, 0, none⟩) p p (up (nbTab l p I K))) (fun _ i _ => n - (intOf i).toNat)
      case atStart => exact ⟨0, Nat.zero_le _, rfl, Hbl.out, Hown.out⟩
      case round =>
        obtain ⟨K, hK, rfl, hbl2, hown2⟩ := hrel
        by_cases hlt2 : K < n
        · obtain ⟨b1, o1, rfl, hc⟩ := (Hh.out.box (by have := hbl2; rw [HB.out] at this; exact this)).cells (by omega)
          have hcK := hc K hlt2
          rw [nth_up] at hcK
          have ht := Hl.out _ (nthN_mem (xs := l) (k := K) (by rw [Hlen.out]; exact hlt2))
          obtain ⟨t, hte⟩ : ∃ t, t = nthN l K := ⟨_, rfl⟩
          rw [← hte] at hcK ht
          have Hte := Lib.hid hte
          have hKl : K < l.length := by rw [Hlen.out]; exact hlt2
          have HKl := Lib.hid hKl
          clear hc hte hKl
          cases hbit : t.testBit I
          · have Hbit := Lib.hid hbit
            go_wp2_with fail
            go_roundw
            case rel => exact ⟨K + 1, by omega, by go_num, hbl2, by rw [nbTab_no HKl.out (by rw [← Hte.out]; exact Hbit.out)]; exact hown2⟩
            case measure => simp [intOf]; omega
          · have Hbit := Lib.hid hbit
            have hI6 : I < 6 := by omega
            have hI8 : I < 8 := by omega
            obtain ⟨g', hg', hBg, hgl, hcell, hfr⟩ := hown2.cells (by omega)
            simp only [Option.some.injEq, Addr.mk.injEq, and_true] at hg'
            subst hg'
            obtain ⟨b3, o3, hg3, hcv⟩ := hown2.reads.cells (by omega)
            simp only [Option.some.injEq, Addr.mk.injEq, and_true] at hg3
            obtain ⟨rfl, rfl⟩ := hg3
            have hcI := hcv I hlt
            have hfI := hfr I
            rw [nth_up, nbTab_at l p I K hlt, Nat.zero_add] at hcI
            clear hcv
            have hS := nbTo_lt Hl.out I K (Nat.le_of_lt HKl.out)
            obtain ⟨S, hSe⟩ : ∃ S, S = nbTo l I K := ⟨_, rfl⟩
            rw [← hSe] at hcI hS
            have HS := Lib.hid hSe
            have Hbl2 := Lib.hid hbl2; have Hown2 := Lib.hid hown2
            clear hSe hcell hfr hbl2 hown2
            go_wp2_with fail
            go_roundw
            case rel => exact ⟨K + 1, by omega, by go_num, Hbl2.out.setCell hBg _, by rw [← nbTab_set hlt HKl.out (by rw [← Hte.out]; exact Hbit.out), ← HS.out, ← Hte.out]; have := Hown2.out.set I ((S ||| sdiff t (2 ^ I) : Nat) : Int); unfold up at this ⊢; rw [List.map_set]; exact this⟩
            case measure => simp [intOf]; omega
        · obtain rfl : K = n := by omega
          have hKK : ¬ ((K : Int) < K) := by omega
          go_wp2_with fail
          go_roundw
          case rel => exact ⟨I + 1, by omega, by go_num, hbl2, by rw [← Hlen.out, nbTab_next] at hown2; exact hown2⟩
          case measure => simp [intOf]; omega
    · obtain rfl : I = p := by omega
      have hII : ¬ ((I : Int) < I) := by omega
      go_wp2_with fail
      go_ret
      refine ⟨some ⟨g, 0, none⟩, I, I, rfl, ?_, ?_⟩
      · rw [nbTab_end l I (nbTab_len _ _ _ _)] at hown; exact hown.mono (by have := HB.out; omega)
      · exact box_below (by have := hbl; rw [HB.out] at this; exact this)

/-- what NeighborsOf returns -/
def nbOf (p : Int) (l : List Nat) (i : Int) : Nat := if 0 ≤ i ∧ i < p then nbTo l i.toNat l.length else 0


end Go.Proofs.Ytbdnlncpamandaa

/- Contracts of OtherGraph, the program's and the reference's. -/
namespace Go.Proofs.Ytbdnlncpamandaa
set_option maxRecDepth 20000
open Go.RowKit
set_option linter.unusedSimpArgs false
set_option linter.unusedVariables false

/-- a set of two points that is no edge -/
def othQ (l : List Nat) (s : Nat) : Bool := decide (sz s = 2) && !l.contains s
def othL (l : List Nat) (k : Nat) : List Nat := (List.range k).filter (othQ l)
theorem othL_yes {l : List Nat} {k : Nat} (h : othQ l k = true) : othL l (k + 1) = othL l k ++ [k] := by unfold othL; rw [List.range_succ, List.filter_append]; simp [h]
theorem othL_no {l : List Nat} {k : Nat} (h : othQ l k = false) : othL l (k + 1) = othL l k := by unfold othL; rw [List.range_succ, List.filter_append]; simp [h]
theorem othL_len (l : List Nat) (k : Nat) : (othL l k).length ≤ k := by unfold othL; exact Nat.le_trans (List.length_filter_le _ _) (by simp)
theorem oth_ord (l : List Nat) (m : Nat) (hm : m ≤ 6) : ord (fun s => decide (s < 2 ^ m) && othQ l s) = othL l (2 ^ m) := by
  have h64 : 2 ^ m ≤ 64 := pow_le64 hm
  have hsort : (othL l (2 ^ m)).Pairwise fun a b => rank a < rank b := by
    unfold othL
    have h1 : ((List.range (2 ^ m)).filter (othQ l)).Pairwise (· < ·) := List.Pairwise.filter _ List.pairwise_lt_range
    refine List.Pairwise.imp_of_mem ?_ h1
    intro a b ha hb hab
    have ha2 := (List.mem_filter.1 ha).2
    have hb2 := (List.mem_filter.1 hb).2
    unfold othQ at ha2 hb2
    simp at ha2 hb2
    unfold rank
    omega
  rw [← ord_of_sorted hsort (fun s hs => by
    unfold othL at hs
    have := List.mem_range.1 (List.mem_filter.1 hs).1
    omega)]
  apply ord_congr
  intro s hs
  rw [Bool.eq_iff_iff]
  unfold othL
  simp



end Go.Proofs.Ytbdnlncpamandaa

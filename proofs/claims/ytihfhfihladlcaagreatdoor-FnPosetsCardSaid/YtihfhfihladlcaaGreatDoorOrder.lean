/- Contracts of OrderComplex, the program's and the reference's. -/
import Derived.Test.YtihfhfihladlcaaGreatDoorFrom
import Derived.Test.YtihfhfihladlcaaGreatDoorIdeal3
import Derived.Test.YtihfhfihladlcaaGreatDoorPick
import Derived.Test.YtihfhfihladlcaaGreatDoorPoset2
namespace Go.Proofs.YtihfhfihladlcaaGreatDoor
set_option maxRecDepth 20000
open Go.RowKit
set_option linter.unusedSimpArgs false
set_option linter.unusedVariables false

/-- two points of s are one below the other -/
def okP (l : List Nat) (s a b : Nat) : Bool := !(s.testBit a && s.testBit b) || (nthN l a).testBit b || (nthN l b).testBit a
/-- .. for the pairs up to (i, k) -/
def okTo (l : List Nat) (s i k : Nat) : Bool := ((List.range i).all fun a => (List.range a).all fun b => okP l s a b) && (List.range k).all fun b => okP l s i b
theorem okTo_succ {l : List Nat} {s i k : Nat} : okTo l s i (k + 1) = (okTo l s i k && okP l s i k) := by
  unfold okTo; rw [List.range_succ (n := k), List.all_append]; simp [Bool.and_assoc]
theorem okTo_next {l : List Nat} {s i : Nat} : okTo l s i i = okTo l s (i + 1) 0 := by
  unfold okTo; rw [List.range_succ (n := i), List.all_append]; simp
/-- the chains -/
def ordQ (l : List Nat) (m s : Nat) : Bool := okTo l s m 0
theorem ordQ_iff {l : List Nat} {m s : Nat} : ordQ l m s = true ↔ ∀ i, i < m → ∀ j, j < i → s.testBit i = true → s.testBit j = true → ((nthN l i).testBit j = true ∨ (nthN l j).testBit i = true) := by
  unfold ordQ okTo okP
  simp only [List.range_zero, List.all_nil, Bool.and_true, List.all_eq_true, List.mem_range]
  constructor
  · intro h i hi j hj h1 h2
    have := h i hi j hj
    rw [h1, h2] at this
    simpa using this
  · intro h i hi j hj
    cases h1 : s.testBit i
    · simp
    · cases h2 : s.testBit j
      · simp
      · have := h i hi j hj h1 h2
        simpa using this

theorem sOrder_no (p : Int) (a : Option Addr) (n c : Nat) (xs : List Int) (w : World) (h : IntsAt w a n xs) (hP : ¬ PosetP p xs) :
    Calls Tryz.prog 44 #[.agg #[.int .i64 p, .slice a n c]] w (RetBox2 w 0 [] false) := by
  have Hh := Lib.hid h; clear h
  have HP := Lib.hid hP; clear hP
  go_enter Tryz.func44, Tryz.ntmps44
  go_wp2_with fail
  refine (sIsPoset_any p a n c xs _ (Hh.out.keep (by repeat (first | exact Below.refl _ _ | assumption | refine Below.setCell ?_ (by first | omega | (simp; done) | (simp; omega)) _ | refine Below.alloc ?_ (by first | omega | (simp; done) | (simp; omega)) _ | apply Below.drew))) false (by simp [HP.out])).mono ?_
  rintro e w1 ⟨rfl, hb⟩
  obtain ⟨hc, hf⟩ := bcell hb
  have hz : w.heap.size + 2 ≤ w1.heap.size := by have := hb.size; simp at this; omega
  have hbl : Below w.heap.size w w1 := Below.trans (by repeat (first | exact Below.refl _ _ | assumption | refine Below.setCell ?_ (by first | omega | (simp; done) | (simp; omega)) _ | refine Below.alloc ?_ (by first | omega | (simp; done) | (simp; omega)) _ | apply Below.drew)) (hb.mono (by simp; omega))
  go_wp2_with fail
  refine bodyPost_ret (v := .tuple #[.agg #[.int .i64 0, .slice none 0 0], .bool false]) (by simp [results, Tryz.results44, go_sem, hc, hz]) rfl ⟨none, 0, 0, rfl, Own.nil _ _ _, (by repeat (first | exact Below.refl _ _ | assumption | refine Below.setCell ?_ (by first | omega | (simp; done) | (simp; omega)) _ | refine Below.alloc ?_ (by first | omega | (simp; done) | (simp; omega)) _ | apply Below.drew))⟩
set_option maxRecDepth 100000 in
set_option maxHeartbeats 4000000 in
theorem sOrder_yes (m : Nat) (a : Option Addr) (n c : Nat) (l : List Nat) (w : World) (h : IntsAt w a n (up l)) (hP : PosetP m (up l)) (hm : m ≤ 6) (hn : n = m) (hl : ∀ t ∈ l, t < 64) :
    Calls Tryz.prog 44 #[.agg #[.int .i64 m, .slice a n c]] w (RetBox2 w m (up (maxL fun s => decide (s < 2 ^ m) && ordQ l m s)) true) := by
  subst hn
  have hm8 : n < 8 := by omega
  have HP := Lib.hid hP; clear hP
  have hlen : l.length = n := by rw [← h.len, up_len]
  have Hlen := Lib.hid hlen; clear hlen
  have hx : IntsAt ((w.alloc (.cells #[.int .i64 n, .slice a n c] 59)).alloc (.cells #[.int .i64 0, .slice none 0 0] 32)) a n (up l) := h.keep (by repeat (first | exact Below.refl _ _ | assumption | refine Below.setCell ?_ (by first | omega | (simp; done) | (simp; omega)) _ | refine Below.alloc ?_ (by first | omega | (simp; done) | (simp; omega)) _ | apply Below.drew))
  have Hx := Lib.hid hx; clear hx h
  have Hl := Lib.hid hl; clear hl
  have xA := (BoxF.new w (.int .i64 n) (.slice a n c) 59).alloc (.cells #[.int .i64 0, .slice none 0 0] 32)
  have xR := BoxF.new (w.alloc (.cells #[.int .i64 n, .slice a n c] 59)) (.int .i64 0) (.slice none 0 0) 32
  have e2 : (w.alloc (.cells #[.int .i64 n, .slice a n c] 59)).heap.size = w.heap.size + 1 := by simp
  rw [e2] at xR
  have XR := Lib.hid xR; have XA := Lib.hid xA
  obtain ⟨N, hN⟩ : ∃ N, N = 2 ^ n := ⟨_, rfl⟩
  have hN64 : N ≤ 64 := by rw [hN]; exact pow_le64 hm
  have hNe : (2 : Int) ^ n = (N : Int) := by rw [hN]; norm_cast
  rw [← hN]
  have hL : (maxL fun s => decide (s < N) && ordQ l n s) = maxL (lst (ordQ l n) N).contains := maxL_congr fun s _ => by rw [lst_has]
  rw [hL]
  clear xA xR e2 hN hL
  go_enter Tryz.func44, Tryz.ntmps44
  go_wp2_with fail
  refine (sIsPoset_any n a n c _ _ Hx.out true (by simp [HP.out])).mono ?_
  rintro e w1 ⟨rfl, hb⟩
  have HB : Hid (Below w.heap.size w w1) := Lib.hid (Below.trans (by repeat (first | exact Below.refl _ _ | assumption | refine Below.setCell ?_ (by first | omega | (simp; done) | (simp; omega)) _ | refine Below.alloc ?_ (by first | omega | (simp; done) | (simp; omega)) _ | apply Below.drew)) (hb.mono (by simp <;> omega)))
  have XR1 := Lib.hid (XR.out.keep hb (by simp))
  have XA1 := Lib.hid (XA.out.keep hb (by simp; omega))
  have hz : w.heap.size + 2 ≤ w1.heap.size := by have := hb.size; simp at this; omega
  have Hx1 := Lib.hid (Hx.out.keep hb)
  clear hb
  go_wp2_with fail
  go_loopw [4, 5, 6, 7, 8, 9] (fun f s _ _ _ _ wr => ∃ I : Nat, I ≤ N ∧ s = .int .i64 I ∧ Below w1.heap.size w1 wr ∧ ∃ ad K d, f = .slice ad K d ∧ K ≤ I ∧ Own 3 wr w1.heap.size ad K d (up (lst (ordQ l n) I))) (fun _ s _ _ _ _ _ => N - (intOf s).toNat)
  case atStart => exact ⟨0, Nat.zero_le _, rfl, (by repeat (first | exact Below.refl _ _ | assumption | refine Below.setCell ?_ (by first | omega | (simp; done) | (simp; omega)) _ | refine Below.alloc ?_ (by first | omega | (simp; done) | (simp; omega)) _ | apply Below.drew)), _, 0, 0, rfl, by omega, Own.empty _ _ _ (by first | exact Nat.le_refl _ | simp)⟩
  case round =>
    obtain ⟨S, hS, rfl, hb, ad, K0, d, rfl, hK0, hown⟩ := hrel
    have HBO := Lib.hid hb; have HO := Lib.hid hown
    have XA2 := Lib.hid (XA1.out.keep hb (by omega))
    have XR2 := Lib.hid (XR1.out.keep hb (by omega))
    have Hx2 := Lib.hid (Hx1.out.keep hb)
    obtain ⟨p0, p1, _, _, _⟩ := XA2.out
    have hzr : w1.heap.size ≤ wr.heap.size := hb.size
    clear hb hown
    by_cases hlt : S < N
    · have hlt' : (S : Int) < 2 ^ n := by rw [hNe]; omega
      have hS64 : S < 64 := by omega
      go_wp2_with fail
      go_loop [6, 7, 8, 9] (fun f i _ _ => ∃ I : Nat, I ≤ n ∧ i = .int .i64 I ∧ f = .bool (okTo l S I 0)) (fun _ i _ _ => n - (intOf i).toNat)
      case atStart => exact ⟨0, Nat.zero_le _, rfl, rfl⟩
      case round =>
        obtain ⟨I, hI, rfl, rfl⟩ := hrel
        by_cases hIn : I < n
        · go_wp2_with fail
          go_loop [6, 8, 9] (fun f k _ => ∃ K : Nat, K ≤ I ∧ k = .int .i64 K ∧ f = .bool (okTo l S I K)) (fun _ k _ => I - (intOf k).toNat)
          case atStart => exact ⟨0, Nat.zero_le _, rfl, rfl⟩
          case round =>
            obtain ⟨K, hK, rfl, rfl⟩ := hrel
            by_cases hKI : K < I
            · obtain ⟨b1, o1, rfl, hc⟩ := Hx2.out.cells (by omega)
              have hci := hc I hIn
              have hck := hc K (by omega)
              rw [nth_up] at hci hck
              clear hc
              have hu := Hl.out _ (nthN_mem (xs := l) (k := I) (by rw [Hlen.out]; omega))
              have hv := Hl.out _ (nthN_mem (xs := l) (k := K) (by rw [Hlen.out]; omega))
              have hI0 : (0 : Int) ≤ I := by omega
              have hK0' : (0 : Int) ≤ K := by omega
              have hIl : (I : Int) < n := by omega
              have hKl : (K : Int) < n := by omega
              obtain ⟨fb, hfb⟩ : ∃ fb, okTo l S I K = fb := ⟨_, rfl⟩
              rw [hfb]
              obtain ⟨u, hue⟩ : ∃ u, u = nthN l I := ⟨_, rfl⟩
              obtain ⟨v, hve⟩ : ∃ v, v = nthN l K := ⟨_, rfl⟩
              rw [← hue] at hci hu
              rw [← hve] at hck hv
              have hnew : okTo l S I (K + 1) = (fb && (!(S.testBit I && S.testBit K) || u.testBit K || v.testBit I)) := by rw [okTo_succ, hfb, hue, hve]; rfl
              have Hnew := Lib.hid hnew
              clear hfb hue hve hnew
              cases fb
              · cases hsa : S.testBit I
                · go_wp2_with fail
                  go_round
                  case rel => exact ⟨K + 1, by omega, by go_num, by rw [Hnew.out]; simp [hsa]⟩
                  case measure => simp [intOf]; omega
                · cases hsb : S.testBit K
                  · go_wp2_with fail
                    go_round
                    case rel => exact ⟨K + 1, by omega, by go_num, by rw [Hnew.out]; simp [hsa, hsb]⟩
                    case measure => simp [intOf]; omega
                  · go_wp2_with fail
                    go_round
                    case rel => exact ⟨K + 1, by omega, by go_num, by rw [Hnew.out]; simp [hsa, hsb]⟩
                    case measure => simp [intOf]; omega
              · cases hsa : S.testBit I
                · go_wp2_with fail
                  go_round
                  case rel => exact ⟨K + 1, by omega, by go_num, by rw [Hnew.out]; simp [hsa]⟩
                  case measure => simp [intOf]; omega
                · cases hsb : S.testBit K
                  · go_wp2_with fail
                    go_round
                    case rel => exact ⟨K + 1, by omega, by go_num, by rw [Hnew.out]; simp [hsa, hsb]⟩
                    case measure => simp [intOf]; omega
                  · cases hc1 : u.testBit K
                    · cases hc2 : v.testBit I
                      · go_wp2_with fail
                        go_round
                        case rel => exact ⟨K + 1, by omega, by go_num, by rw [Hnew.out]; simp [hsa, hsb, hc1, hc2]⟩
                        case measure => simp [intOf]; omega
                      · go_wp2_with fail
                        go_round
                        case rel => exact ⟨K + 1, by omega, by go_num, by rw [Hnew.out]; simp [hsa, hsb, hc1, hc2]⟩
                        case measure => simp [intOf]; omega
                    · go_wp2_with fail
                      go_round
                      case rel => exact ⟨K + 1, by omega, by go_num, by rw [Hnew.out]; simp [hsa, hsb, hc1]⟩
                      case measure => simp [intOf]; omega
            · obtain rfl : K = I := by omega
              have hKK : ¬ ((K : Int) < K) := by omega
              go_wp2_with fail
              go_round
              case rel => exact ⟨K + 1, by omega, by go_num, by rw [← okTo_next]⟩
              case measure => simp [intOf]; omega
        · obtain rfl : I = n := by omega
          have hII : ¬ ((I : Int) < I) := by omega
          have hqe : okTo l S I 0 = ordQ l I S := rfl
          rw [hqe]
          cases hq : ordQ l I S
          · have Hq := Lib.hid hq; clear hq hqe
            go_wp2_with fail
            go_roundw
            case rel => exact ⟨S + 1, by omega, by go_num, HBO.out, ad, K0, d, rfl, by omega, by rw [lst_no Hq.out]; exact HO.out⟩
            case measure => simp [intOf]; omega
          · have Hq := Lib.hid hq; clear hq hqe
            go_wp2_with (at_builtin; refine ap rfl _ _ rfl w1.heap.size _ _ _ _ _ rfl HO.out rfl (by omega) hzr ?_; intro ad' d' w' hown' hb'; have HO3 := Lib.hid hown'; have HB3 := Lib.hid hb'; clear hown' hb')
            go_roundw
            case rel => exact ⟨S + 1, by omega, by go_num, HBO.out.trans HB3.out, ad', K0 + 1, d', rfl, by omega, by rw [lst_yes Hq.out, up_append]; exact HO3.out⟩
            case measure => simp [intOf]; omega
    · obtain rfl : S = N := by omega
      have hSS : ¬ ((S : Int) < 2 ^ n) := by rw [hNe]; omega
      have hl64 : ∀ s ∈ lst (ordQ l n) S, s < 64 := fun s hs => by have := (mem_lst.1 hs).1; omega
      have Hl64 := Lib.hid hl64; clear hl64
      go_wp2_with fail
      refine (l3Make_any n ad K0 d _ _ HO.out.reads Hl64.out).mono ?_
      rintro e w5 ⟨ad5, d5, r5, rfl, hown, hb5⟩
      have XR5 := Lib.hid (XR2.out.keep hb5 (by omega))
      have HO5 := Lib.hid hown; have HB5 := Lib.hid hb5
      obtain ⟨r0, r1, _, _, _⟩ := XR5.out
      clear hown hb5
      go_wp2_with fail
      refine bodyPost_ret (v := .tuple #[.agg #[.int .i64 n, .slice ad5 d5 r5], .bool true]) (by simp [results, Tryz.results44, go_sem, r0, r1]) rfl ⟨ad5, d5, r5, rfl, ?_, ?_⟩
      · have := HB.out.size
        exact ((HO5.out.setBelow _ (by first | omega | (simp; omega))).setBelow _ (by first | omega | (simp; omega))).mono (by omega)
      · have := HB.out.size
        exact ((((HB.out.trans (HBO.out.mono (by omega))).trans (HB5.out.mono (by omega))).setCell (by first | (simp; done) | (simp; omega)) _).setCell (by first | (simp; done) | (simp; omega)) _)

/-- the table of the points that can be compared, as far as I and, for I, the points Q -/
def NearP (l : List Nat) (m I : Nat) (Q : List Nat) (cs : List Nat) : Prop :=
  cs.length = m ∧ (∀ a, a < m → nthN cs a < 64) ∧ ∀ a, a < m → ∀ b, (nthN cs a).testBit b = ((nthN l a).testBit b || (decide (b < I) && (nthN l b).testBit a) || (decide (b = I) && Q.contains a))
theorem nearP_start {l : List Nat} {m : Nat} (hl : l.length = m) (h64 : ∀ t ∈ l, t < 64) : NearP l m 0 [] l :=
  ⟨hl, fun a ha => h64 _ (nthN_mem (by omega)), fun a _ b => by simp⟩
theorem nthN_set {cs : List Nat} {j a v : Nat} (ha : a < cs.length) : nthN (cs.set j v) a = if a = j then v else nthN cs a := by
  rw [nthN_eq (by simpa using ha), nthN_eq ha, List.getElem_set]
  by_cases h : a = j
  · subst h; simp
  · have : ¬ j = a := fun e => h e.symm
    simp [h, this]
theorem nearP_set {l : List Nat} {m I : Nat} {Q cs : List Nat} {j : Nat} (h : NearP l m I Q cs) (hI : I < 6) (hj : j < m) : NearP l m I (Q ++ [j]) (cs.set j (nthN cs j ||| 2 ^ I)) := by
  obtain ⟨h1, h2, h3⟩ := h
  refine ⟨by simp [h1], fun a ha => ?_, fun a ha b => ?_⟩
  · rw [nthN_set (by omega)]
    split
    · exact or_lt64 (h2 j hj) (bit_lt64 hI)
    · exact h2 a ha
  · rw [nthN_set (by omega)]
    by_cases e : a = j
    · subst e
      rw [if_pos rfl, Nat.testBit_or, h3 a ha, Nat.testBit_two_pow, List.contains_append]
      by_cases hb : b = I
      · subst hb; simp
      · have : ¬ I = b := fun e => hb e.symm
        simp [hb, this]
    · rw [if_neg e, h3 a ha, List.contains_append]
      have : ([j] : List Nat).contains a = false := by simp; exact e
      rw [this]; simp
theorem nearP_next {l : List Nat} {m I : Nat} {cs : List Nat} (hm : m ≤ 6) (h : NearP l m I (pts (nthN l I)) cs) : NearP l m (I + 1) [] cs := by
  obtain ⟨h1, h2, h3⟩ := h
  refine ⟨h1, h2, fun a ha b => ?_⟩
  rw [h3 a ha]
  have hc : (pts (nthN l I)).contains a = (nthN l I).testBit a := by
    rw [Bool.eq_iff_iff, List.contains_iff_mem, mem_pts]
    constructor
    · exact fun h => h.2
    · exact fun h => ⟨by omega, h⟩
  rw [hc]
  by_cases hb : b = I
  · subst hb; simp
  · have : (b < I + 1) = (b < I) := by apply propext; omega
    simp [hb, this]
theorem nearP_ord {l cs : List Nat} {m s : Nat} (hm : m ≤ 6) (hs : s < 2 ^ m) (h : NearP l m m [] cs) : pairB (nthN cs) s = ordQ l m s := by
  obtain ⟨_, _, h3⟩ := h
  rw [Bool.eq_iff_iff, ordQ_iff]
  unfold pairB
  rw [List.all_eq_true]
  have hb : ∀ a, a < m → ∀ b, b < m → ((nthN cs a).testBit b = true ↔ (nthN l a).testBit b = true ∨ (nthN l b).testBit a = true) := fun a ha b hb => by
    rw [h3 a ha]; simp [hb]
  constructor
  · intro h i hi j hj h1 h2
    have := sub_iff.1 (h i (mem_pts.2 ⟨by omega, h1⟩)) j h2
    rw [Nat.testBit_or, Nat.testBit_two_pow, Bool.or_eq_true] at this
    rcases this with h' | h'
    · exact (hb i hi j (by omega)).1 h'
    · have : i = j := by simpa using h'
      omega
  · intro h i hi
    obtain ⟨hi6, hib⟩ := mem_pts.1 hi
    have him := bit_lt hs hib
    rw [sub_iff]
    intro j hj
    have hjm := bit_lt hs hj
    rw [Nat.testBit_or, Nat.testBit_two_pow, Bool.or_eq_true]
    by_cases hij : i = j
    · right; simp [hij]
    · left
      rw [hb i him j hjm]
      rcases Nat.lt_or_gt_of_ne hij with h' | h'
      · exact (h j hjm i h' hj hib).symm
      · exact h i him j h' hib hj

theorem orderFn_any (g t m : Nat) (a : Option Addr) (n c : Nat) (cs : List Nat) (w : World) (hm : m ≤ 6) (ht : t < 2 ^ m) (hb : w.cell? ⟨g, 0, none⟩ = some (.slice a n c)) (h : IntsAt w a n (up cs)) (hn : n = m) (hl : ∀ u ∈ cs, u < 64) (b : Bool) (hbb : pairB (nthN cs) t = b) :
    Calls Tryz.prog 118 #[.int .i64 t, .pointer (some ⟨g, 0, none⟩)] w fun e w' => e = .returned (.bool b) ∧ Below w.heap.size w w' := by
  have ht64 : t < 64 := Nat.lt_of_lt_of_le ht (pow_le64 hm)
  have Hh := Lib.hid h; have Hrow := Lib.hid hl; have Hb := Lib.hid hbb
  have hbit : ∀ i, i < 6 → t.testBit i = true → i < n := fun i _ h => by rw [hn]; exact bit_lt ht h
  have Hbit := Lib.hid hbit
  clear h hl hbb hn hbit ht
  go_enter Tryz.func118, Tryz.ntmps118
  go_wp2_with fail
  refine (isPairwise_any t a n c _ _ Hh.out ht64 Hbit.out Hrow.out b Hb.out).mono ?_
  rintro e w1 ⟨rfl, hb⟩
  have HB := Lib.hid hb; clear hb
  go_wp2_with fail
  go_ret
  exact ⟨rfl, HB.out⟩
theorem iOrder_no (p : Int) (a : Option Addr) (n c : Nat) (xs : List Int) (w : World) (h : IntsAt w a n xs) (hP : ¬ PosetP p xs) :
    Calls Tryz.prog 43 #[.agg #[.int .i64 p, .slice a n c]] w (RetBox2 w 0 [] false) := by
  have Hh := Lib.hid h; clear h
  have HP := Lib.hid hP; clear hP
  go_enter Tryz.func43, Tryz.ntmps43
  go_wp2_with fail
  refine (iIsPoset_any p a n c xs _ (Hh.out.keep (by repeat (first | exact Below.refl _ _ | assumption | refine Below.setCell ?_ (by first | omega | (simp; done) | (simp; omega)) _ | refine Below.alloc ?_ (by first | omega | (simp; done) | (simp; omega)) _ | apply Below.drew))) false (by simp [HP.out])).mono ?_
  rintro e w1 ⟨rfl, hb⟩
  obtain ⟨hc, hf⟩ := bcell hb
  have hz : w.heap.size + 2 ≤ w1.heap.size := by have := hb.size; simp at this; omega
  have hbl : Below w.heap.size w w1 := Below.trans (by repeat (first | exact Below.refl _ _ | assumption | refine Below.setCell ?_ (by first | omega | (simp; done) | (simp; omega)) _ | refine Below.alloc ?_ (by first | omega | (simp; done) | (simp; omega)) _ | apply Below.drew)) (hb.mono (by simp; omega))
  go_wp2_with fail
  refine bodyPost_ret (v := .tuple #[.agg #[.int .i64 0, .slice none 0 0], .bool false]) (by simp [results, Tryz.results43, go_sem, hc, hz]) rfl ⟨none, 0, 0, rfl, Own.nil _ _ _, (by repeat (first | exact Below.refl _ _ | assumption | refine Below.setCell ?_ (by first | omega | (simp; done) | (simp; omega)) _ | refine Below.alloc ?_ (by first | omega | (simp; done) | (simp; omega)) _ | apply Below.drew))⟩
set_option maxRecDepth 100000 in
set_option maxHeartbeats 4000000 in
theorem iOrder_yes (m : Nat) (a : Option Addr) (n c : Nat) (l : List Nat) (w : World) (h : IntsAt w a n (up l)) (hf : Fit a n c) (hP : PosetP m (up l)) (hm1 : 1 ≤ m) (hm : m ≤ 6) (hn : n = m) (hl : ∀ t ∈ l, t < 64) (hl2 : ∀ t ∈ l, t < 2 ^ m) :
    Calls Tryz.prog 43 #[.agg #[.int .i64 m, .slice a n c]] w (RetBox2 w m (up (maxL fun s => decide (s < 2 ^ m) && ordQ l m s)) true) := by
  subst hn
  have HP := Lib.hid hP; clear hP
  have hlen : l.length = n := by rw [← h.len, up_len]
  have Hlen := Lib.hid hlen; clear hlen
  have hx : IntsAt ((w.alloc (.cells #[.int .i64 n, .slice a n c] 59)).alloc (.cells #[.int .i64 0, .slice none 0 0] 32)) a n (up l) := h.keep (by repeat (first | exact Below.refl _ _ | assumption | refine Below.setCell ?_ (by first | omega | (simp; done) | (simp; omega)) _ | refine Below.alloc ?_ (by first | omega | (simp; done) | (simp; omega)) _ | apply Below.drew))
  have Hx := Lib.hid hx; clear hx h
  have Hl := Lib.hid hl; have Hl2 := Lib.hid hl2; have Hf := Lib.hid hf; clear hl hl2 hf
  have hF := pickN_Fam (ordQ l n) (2 ^ n)
  have hcong := maxL_congr (p := (pickN (ordQ l n) (2 ^ n)).testBit) (q := fun s => decide (s < 2 ^ n) && ordQ l n s) (fun t ht => pickN_bit ht)
  obtain ⟨F, hFe⟩ : ∃ F, F = pickN (ordQ l n) (2 ^ n) := ⟨_, rfl⟩
  rw [← hFe] at hF hcong
  have HFe := Lib.hid hFe; have Hcong := Lib.hid hcong
  clear hFe hcong
  have xA := (BoxF.new w (.int .i64 n) (.slice a n c) 59).alloc (.cells #[.int .i64 0, .slice none 0 0] 32)
  have xR := BoxF.new (w.alloc (.cells #[.int .i64 n, .slice a n c] 59)) (.int .i64 0) (.slice none 0 0) 32
  have e2 : (w.alloc (.cells #[.int .i64 n, .slice a n c] 59)).heap.size = w.heap.size + 1 := by simp
  rw [e2] at xR
  have XR := Lib.hid xR; have XA := Lib.hid xA
  clear xA xR e2
  go_enter Tryz.func43, Tryz.ntmps43
  go_wp2_with fail
  refine (iIsPoset_any n a n c _ _ Hx.out true (by simp [HP.out])).mono ?_
  rintro e w1 ⟨rfl, hb⟩
  have HB : Hid (Below w.heap.size w w1) := Lib.hid (Below.trans (by repeat (first | exact Below.refl _ _ | assumption | refine Below.setCell ?_ (by first | omega | (simp; done) | (simp; omega)) _ | refine Below.alloc ?_ (by first | omega | (simp; done) | (simp; omega)) _ | apply Below.drew)) (hb.mono (by simp <;> omega)))
  have XR1 := Lib.hid (XR.out.keep hb (by simp))
  have XA1 := Lib.hid (XA.out.keep hb (by simp; omega))
  have hz : w.heap.size + 2 ≤ w1.heap.size := by have := hb.size; simp at this; omega
  have Hx1 := Lib.hid (Hx.out.keep hb)
  obtain ⟨p0, p1, _, _, _⟩ := XA1.out
  clear hb
  go_wp2_with fail
  refine (clone_any a n c _ _ Hx1.out Hf.out (by omega)).mono ?_
  rintro e w2 ⟨na, k, nc, rfl, hown, hb⟩
  have hk : k = n := by have := hown.len; rw [up_len, Hlen.out] at this; exact this.symm
  subst hk
  obtain ⟨g, hg⟩ : ∃ g, na = some ⟨g, 0, none⟩ := by
    rcases Row.cur hown with ⟨_, h0, _⟩ | ⟨g, _, hg, _⟩
    · omega
    · exact ⟨g, hg⟩
  subst hg
  have XA2 := Lib.hid (XA1.out.keep hb (by omega)); have XR2 := Lib.hid (XR1.out.keep hb (by omega))
  have Hx2 := Lib.hid (Hx1.out.keep hb)
  have HB2 := Lib.hid (HB.out.trans (hb.mono HB.out.size))
  have HO2 := Lib.hid (hown.alloc (.cells #[.slice (some ⟨g, 0, none⟩) k nc] 24))
  have hz2 : w1.heap.size ≤ w2.heap.size := hb.size
  have hglt := hown.lt g rfl
  have HBc := Lib.hid (hb.alloc hz2 (.cells #[.slice (some ⟨g, 0, none⟩) k nc] 24))
  clear hb hown p0 p1
  have hcell : (w2.alloc (.cells #[.slice (some ⟨g, 0, none⟩) k nc] 24)).cell? ⟨w2.heap.size, 0, none⟩ = some (.slice (some ⟨g, 0, none⟩) k nc) := by simp
  have Hcell := Lib.hid hcell; clear hcell
  obtain ⟨p0, p1, _, _, _⟩ := XA2.out
  go_wp2_with fail
  clear p0 p1
  go_loopw [5, 6, 8, 20] (fun _ _ _ i wr => ∃ I : Nat, I ≤ k ∧ i = .int .i64 I ∧ Below w1.heap.size w1 wr ∧ w2.heap.size + 1 ≤ wr.heap.size ∧ wr.cell? ⟨w2.heap.size, 0, none⟩ = some (.slice (some ⟨g, 0, none⟩) k nc) ∧ ∃ cs, Own 3 wr w1.heap.size (some ⟨g, 0, none⟩) k nc (up cs) ∧ Hid (NearP l k I [] cs)) (fun _ _ _ i _ => k - (intOf i).toNat)
  case atStart => exact ⟨0, Nat.zero_le _, rfl, HBc.out, by simp, Hcell.out, l, HO2.out, Lib.hid (nearP_start Hlen.out Hl.out)⟩
  case round =>
    obtain ⟨wo, rfl⟩ : ∃ x : World, x = wr := ⟨_, rfl⟩
    obtain ⟨I, hI, rfl, hbr, hzr, hbox, cs, hO, hN⟩ := hrel
    have HBr := Lib.hid hbr; have HOr := Lib.hid hO; have Hbox := Lib.hid hbox
    have Hxr := Lib.hid (Hx1.out.keep hbr)
    have XAr := Lib.hid (XA1.out.keep hbr (by omega)); have XRr := Lib.hid (XR1.out.keep hbr (by omega))
    clear hbr hO hbox
    by_cases hlt : I < k
    · obtain ⟨b1, o1, rfl, hc⟩ := Hxr.out.cells (by omega)
      have hci := hc I hlt
      rw [nth_up] at hci
      clear hc
      have hu64 := Hl.out _ (nthN_mem (xs := l) (k := I) (by rw [Hlen.out]; exact hlt))
      have hu2 := Hl2.out _ (nthN_mem (xs := l) (k := I) (by rw [Hlen.out]; exact hlt))
      obtain ⟨u, hu⟩ : ∃ u, u = nthN l I := ⟨_, rfl⟩
      rw [← hu] at hci hu64 hu2
      have Hu := Lib.hid hu; have Hu2 := Lib.hid hu2; clear hu hu2
      go_wp2_with fail
      refine (PointsOf_any u _ hu64).mono ?_
      rintro e w4 ⟨ad4, k4, d4, rfl, hown4, hb4⟩
      obtain ⟨P, hPe⟩ : ∃ P, P = pts u := ⟨_, rfl⟩
      rw [← hPe] at hown4
      have HPe := Lib.hid hPe
      have hPl : P.length = k4 := by have := hown4.len; rwa [up_len] at this
      have HPl := Lib.hid hPl
      have hk4 : k4 ≤ 6 := by rw [← hPl, hPe]; exact ptsTo_len _ _
      have HO4 := Lib.hid (HOr.out.keep hb4); have HP4 := Lib.hid hown4
      have HB4 := Lib.hid (HBr.out.trans (hb4.mono HBr.out.size))
      have hbox4 := (hb4.cell (p := ⟨w2.heap.size, 0, none⟩) (by simp; omega)).trans Hbox.out
      have Hbox4 := Lib.hid hbox4
      have hz4 : wo.heap.size ≤ w4.heap.size := hb4.size
      have hneP : ad4 ≠ some ⟨g, 0, none⟩ := fun e => by
        have := (hown4.lt g (by rw [e]; rfl)).1
        omega
      have HneP := Lib.hid hneP
      clear hb4 hown4 hPe hPl hbox4 hneP hci
      go_wp2_with fail
      go_loopw [8, 28] (fun _ j wr => ∃ J : Nat, J ≤ k4 ∧ j = .int .i64 J ∧ Below w1.heap.size w1 wr ∧ w4.heap.size ≤ wr.heap.size ∧ wr.cell? ⟨w2.heap.size, 0, none⟩ = some (.slice (some ⟨g, 0, none⟩) k nc) ∧ Own 3 wr wo.heap.size ad4 k4 d4 (up P) ∧ ∃ cs, Own 3 wr w1.heap.size (some ⟨g, 0, none⟩) k nc (up cs) ∧ Hid (NearP l k I (P.take J) cs)) (fun _ j _ => k4 - (intOf j).toNat)
      case atStart => exact ⟨0, Nat.zero_le _, rfl, HB4.out, Nat.le_refl _, Hbox4.out, HP4.out, cs, HO4.out, by rw [List.take_zero]; exact hN⟩
      case round =>
        obtain ⟨J, hJ, rfl, hbj, hzj, hboxj, hPj, cs2, hOj, hNj⟩ := hrel
        have HBj := Lib.hid hbj; have HPj := Lib.hid hPj; have HOj := Lib.hid hOj
        clear hbj hPj hOj
        by_cases hjt : J < k4
        · obtain ⟨b3, o3, rfl, hc3⟩ := HPj.out.reads.cells (by omega)
          have hcj := hc3 J hjt
          rw [nth_up] at hcj
          have hmem : nthN P J ∈ P := nthN_mem (by rw [HPl.out]; exact hjt)
          rw [HPe.out] at hmem
          obtain ⟨hj6, hjb⟩ := mem_pts.1 hmem
          rw [← HPe.out] at hj6 hjb
          have htk : P.take (J + 1) = P.take J ++ [nthN P J] := nthN_take P J (by rw [HPl.out]; exact hjt)
          obtain ⟨j, hje⟩ : ∃ j, j = nthN P J := ⟨_, rfl⟩
          rw [← hje] at hcj hj6 hjb htk
          have hjm := bit_lt Hu2.out hjb
          have Htk := Lib.hid htk
          have hcell := HOj.out.reads.cellAt j hjm
          rw [nth_up, Nat.zero_add] at hcell
          have hx64 := hNj.out.2.1 j hjm
          obtain ⟨x, hx⟩ : ∃ x, x = nthN cs2 j := ⟨_, rfl⟩
          rw [← hx] at hcell hx64
          have Hx' := Lib.hid hx
          have hfro : wr.frozen? ⟨g, j, none⟩ = false := by
            obtain ⟨g', hg', _, _, _, hf⟩ := Row.cells HOj.out (by omega)
            cases hg'; exact hf j
          have hI6 : I < 6 := by omega
          have hor := w_or6bit x I hx64 hI6
          have hsh := w_shl6 I (by omega)
          have hj0 : (0 : Int) ≤ j := by omega
          have hjk : (j : Int) < k := by omega
          clear hc3 hmem hje hjb htk hx
          go_wp2_with fail
          go_roundw
          case rel =>
            have hgw : g ≠ w2.heap.size := by have := hglt; omega
            refine ⟨J + 1, by omega, by go_num, HBj.out.setCell hglt.1 _, by simpa using hzj, by rw [World.cell?_setCell_other _ _ _ _ (by first | (simp; done) | (simp; omega) | (simp; exact fun e => absurd e hgw))]; exact hboxj, HPj.out.setOther _ HneP.out, cs2.set j (x ||| 2 ^ I), ?_, ?_⟩
            · have := HOj.out.set j ((x ||| 2 ^ I : Nat) : Int)
              rw [show (up cs2).set j ((x ||| 2 ^ I : Nat) : Int) = up (cs2.set j (x ||| 2 ^ I)) by unfold up; rw [List.map_set]] at this
              exact this
            · rw [Htk.out, Hx'.out]
              exact Lib.hid (nearP_set hNj.out hI6 hjm)
          case measure => simp [intOf]; omega
        · obtain rfl : J = k4 := by omega
          have hNn : Hid (NearP l k (I + 1) [] cs2) := Lib.hid (by
            have := hNj.out
            rw [← HPl.out, List.take_length, HPe.out, Hu.out] at this
            exact nearP_next hm this)
          go_wp2_with fail
          go_roundw
          case rel => exact ⟨I + 1, by omega, by go_num, HBj.out, by omega, hboxj, cs2, HOj.out, hNn⟩
          case measure => simp [intOf]; omega
    · obtain rfl : I = k := by omega
      have hcs64 : ∀ t ∈ cs, t < 64 := fun t ht => by
        obtain ⟨j, hj, rfl⟩ := List.mem_iff_getElem.1 ht
        have := hN.out.2.1 j (by rw [← hN.out.1]; exact hj)
        rwa [nthN_eq hj] at this
      have Hcs := Lib.hid hcs64; clear hcs64
      obtain ⟨p0, p1, _, _, _⟩ := XAr.out
      go_wp2_with fail
      refine (pickSets_grow 118 #[.pointer (some ⟨w2.heap.size, 0, none⟩)] (ordQ l I) I _ hm (fun _ _ => rfl) (fun t ht W hW => orderFn_any w2.heap.size t I _ I nc cs W hm ht ((hW.cell (by simp; omega)).trans Hbox.out) (HOr.out.reads.keep hW) rfl Hcs.out _ (nearP_ord hm ht hN.out))).mono ?_
      rw [← HFe.out]
      rintro e w3 ⟨rfl, hb⟩
      have HB3 := Lib.hid (HB.out.trans ((HBr.out.trans (hb.mono HBr.out.size)).mono HB.out.size))
      have hzo : w1.heap.size ≤ wo.heap.size := HBr.out.size
      have XA4 := Lib.hid (XAr.out.keep hb (by omega)); have XR4 := Lib.hid (XRr.out.keep hb (by omega))
      have hz3 : w.heap.size + 2 ≤ w3.heap.size := by have := hb.size; omega
      clear hb p0 p1
      obtain ⟨p0, p1, _, _, _⟩ := XA4.out
      go_wp2_with fail
      refine (complexOf_any I F _ hF).mono ?_
      rw [Hcong.out]
      rintro e w5 ⟨ad5, d5, r5, rfl, hown, hb5⟩
      have XR5 := Lib.hid (XR4.out.keep hb5 (by omega))
      have HO5 := Lib.hid hown; have HB5 := Lib.hid hb5
      obtain ⟨r0, r1, _, _, _⟩ := XR5.out
      clear hown hb5
      go_wp2_with fail
      refine bodyPost_ret (v := .tuple #[.agg #[.int .i64 I, .slice ad5 d5 r5], .bool true]) (by simp [results, Tryz.results43, go_sem, r0, r1]) rfl ⟨ad5, d5, r5, rfl, ?_, ?_⟩
      · exact ((HO5.out.setBelow _ (by first | omega | (simp; omega))).setBelow _ (by first | omega | (simp; omega))).mono (by omega)
      · have := HB3.out.size
        exact (((HB3.out.trans (HB5.out.mono (by omega))).setCell (by first | (simp; done) | (simp; omega)) _).setCell (by first | (simp; done) | (simp; omega)) _)
end Go.Proofs.YtihfhfihladlcaaGreatDoor

/- Contracts of DualPoset, the program's and the reference's: the order turned over. -/
import Derived.Deep.RegionWith
import Derived.Deep.DeepCutAuto
import Derived.Test.YtihfhfihladlcaaGreatDoorCore
import Derived.Test.YtihfhfihladlcaaGreatDoorPoset
namespace Go.Proofs.YtihfhfihladlcaaGreatDoor
set_option maxRecDepth 20000
open Go.RowKit
set_option linter.unusedSimpArgs false

/-- the sets of a list of numbers that are known to be sets -/
def nats (xs : List Int) : List Nat := xs.map Int.toNat
theorem nats_len (xs : List Int) : (nats xs).length = xs.length := by simp [nats]
theorem poset_nats {p : Int} {xs : List Int} (h : PosetP p xs) : xs = up (nats xs) := by
  apply List.ext_getElem?
  intro i
  unfold up nats
  rw [List.getElem?_map, List.getElem?_map]
  rcases Nat.lt_or_ge i xs.length with hi | hi
  · rw [List.getElem?_eq_getElem hi]
    obtain ⟨t, ht, _⟩ := h.2.2.2.1 i hi
    rw [nth_eq hi] at ht
    simp [ht]
  · rw [List.getElem?_eq_none hi]; rfl
theorem poset_lt {p : Int} {xs : List Int} (h : PosetP p xs) : ∀ k, k < xs.length → nthN (nats xs) k < 2 ^ xs.length ∧ nthN (nats xs) k < 64 := by
  intro k hk
  obtain ⟨t, ht, hlt, _⟩ := h.2.2.2.1 k hk
  have e : nthN (nats xs) k = t := by
    unfold nthN nats
    rw [List.getD_eq_getElem?_getD, List.getElem?_map, List.getElem?_eq_getElem hk]
    rw [nth_eq hk] at ht
    simp [ht]
  have h3 := h.2.2.1
  have hp : p.toNat = xs.length := by omega
  rw [hp] at hlt
  have := pow_le64 (m := xs.length) (by have := h.2.1; omega)
  rw [e]; exact ⟨hlt, by omega⟩
theorem poset_len {p : Int} {xs : List Int} (h : PosetP p xs) : xs.length ≤ 6 := by have := h.2.1; have := h.2.2.1; omega

theorem sDualPoset_no (p : Int) (a : Option Addr) (n c : Nat) (xs : List Int) (w : World) (h : IntsAt w a n xs) (hP : ¬ PosetP p xs) :
    Calls Tryz.prog 46 #[.agg #[.int .i64 p, .slice a n c]] w (RetBox2 w 0 [] false) := by
  have Hh := Lib.hid h; clear h
  have HP := Lib.hid hP; clear hP
  go_enter Tryz.func46, Tryz.ntmps46
  go_wp2_with fail
  refine (sIsPoset_any p a n c xs _ (Hh.out.keep (by repeat (first | exact Below.refl _ _ | assumption | refine Below.setCell ?_ (by first | omega | (simp; done) | (simp; omega)) _ | refine Below.alloc ?_ (by first | omega | (simp; done) | (simp; omega)) _ | apply Below.drew))) false (by simp [HP.out])).mono ?_
  rintro e w1 ⟨rfl, hb⟩
  obtain ⟨hc, hf⟩ := bcell hb
  have hz : w.heap.size + 2 ≤ w1.heap.size := by have := hb.size; simp at this; omega
  have hbl : Below w.heap.size w w1 := Below.trans (by repeat (first | exact Below.refl _ _ | assumption | refine Below.setCell ?_ (by first | omega | (simp; done) | (simp; omega)) _ | refine Below.alloc ?_ (by first | omega | (simp; done) | (simp; omega)) _ | apply Below.drew)) (hb.mono (by simp; omega))
  go_wp2_with fail
  refine bodyPost_ret (v := .tuple #[.agg #[.int .i64 0, .slice none 0 0], .bool false]) (by simp [results, Tryz.results46, go_sem, hc, hz]) rfl ⟨none, 0, 0, rfl, Own.nil _ _ _, (by repeat (first | exact Below.refl _ _ | assumption | refine Below.setCell ?_ (by first | omega | (simp; done) | (simp; omega)) _ | refine Below.alloc ?_ (by first | omega | (simp; done) | (simp; omega)) _ | apply Below.drew))⟩
set_option maxHeartbeats 2000000 in
theorem sDualPoset_yes (p : Int) (a : Option Addr) (n c : Nat) (xs : List Int) (w : World) (h : IntsAt w a n xs) (hP : PosetP p xs) :
    Calls Tryz.prog 46 #[.agg #[.int .i64 p, .slice a n c]] w (RetBox2 w p (up (dualL (nats xs))) true) := by
  have hnp : (n : Int) = p := by rw [← h.len]; exact hP.2.2.1
  subst hnp
  have hn6 : n ≤ 6 := by have := hP.2.1; omega
  have hlen := Lib.hid h.len
  obtain ⟨l, hl⟩ : ∃ l, l = nats xs := ⟨_, rfl⟩
  have hll : l.length = n := by rw [hl, nats_len, h.len]
  have hlt : ∀ k, k < n → nthN l k < 64 := fun k hk => by rw [hl]; exact (poset_lt hP k (by rw [h.len]; exact hk)).2
  have hx : xs = up l := by rw [hl]; exact poset_nats hP
  have HP := Lib.hid hP; clear hP
  rw [← hl]
  have Hl := Lib.hid hl; clear hl
  have Hll := Lib.hid hll; clear hll
  have Hlt := Lib.hid hlt; clear hlt
  have Hx := Lib.hid hx; clear hx
  have Hh := Lib.hid h; clear h
  go_enter Tryz.func46, Tryz.ntmps46
  go_wp2_with fail
  refine (sIsPoset_any n a n c xs _ (Hh.out.keep (by repeat (first | exact Below.refl _ _ | assumption | refine Below.setCell ?_ (by first | omega | (simp; done) | (simp; omega)) _ | refine Below.alloc ?_ (by first | omega | (simp; done) | (simp; omega)) _ | apply Below.drew))) true (by simp [HP.out])).mono ?_
  rintro e w1 ⟨rfl, hb⟩
  have hz : w.heap.size + 2 ≤ w1.heap.size := by have := hb.size; simp at this; omega
  have Hbl : Hid (Below w.heap.size w w1) := Lib.hid (Below.trans (by repeat (first | exact Below.refl _ _ | assumption | refine Below.setCell ?_ (by first | omega | (simp; done) | (simp; omega)) _ | refine Below.alloc ?_ (by first | omega | (simp; done) | (simp; omega)) _ | apply Below.drew)) (hb.mono (by simp; omega)))
  have xA := ((BoxF.new w (.int .i64 n) (.slice a n c) 59).alloc (.cells #[.int .i64 0, .slice none 0 0] 59)).keep hb (by simp; omega)
  have xR := (BoxF.new (w.alloc (.cells #[.int .i64 n, .slice a n c] 59)) (.int .i64 0) (.slice none 0 0) 59).keep hb (by simp)
  have eR : (w.alloc (.cells #[.int .i64 n, .slice a n c] 59)).heap.size = w.heap.size + 1 := by simp
  rw [eR] at xR
  have XA := Lib.hid xA; have XR := Lib.hid xR
  obtain ⟨a0, a1, _, _, _⟩ := xA
  clear hb xR eR
  go_wp2_with fail
  obtain ⟨B2, hB2⟩ : ∃ B2, B2 = w1.heap.size + 1 := ⟨_, rfl⟩
  have HB2 := Lib.hid hB2; clear hB2
  go_loopw [5, 6, 7] (fun i _ _ wr => ∃ I : Nat, I ≤ n ∧ i = .int .i64 I ∧ Below w1.heap.size w1 wr ∧ ∃ ad m d, m = I ∧ BoxF wr w1.heap.size (.int .i64 n) (.slice ad m d) ∧ Own 3 wr B2 ad m d (up ((List.range I).map (dualAt l)))) (fun i _ _ _ => n - (intOf i).toNat)
  case atStart => exact ⟨0, Nat.zero_le _, rfl, (Below.refl _ _).alloc (Nat.le_refl _) _, none, 0, 0, rfl, BoxF.new _ _ _ _, Own.nil _ _ _⟩
  case round =>
    obtain ⟨I, hI, rfl, hb, ad, m, d, rfl, xO, hown⟩ := hrel
    have xA2 := XA.out.keep hb (by omega)
    have XO := Lib.hid xO
    have Hb := Lib.hid hb
    obtain ⟨a20, a21, _, _, _⟩ := xA2
    obtain ⟨o0, o1, _, of1, olt⟩ := xO
    have hh := Hh.out.keep (Hbl.out.trans (hb.mono (by omega)))
    clear a0 a1 hb
    by_cases hlt : m < n
    · obtain ⟨b1, off, rfl, hc⟩ := hh.cells (by omega)
      have Hc := Lib.hid hc
      have hmn : (m : Int) < n := by omega
      clear hc hh
      go_wp2_with fail
      go_loop [6, 7] (fun s k => ∃ K S : Nat, K ≤ n ∧ k = .int .i64 K ∧ s = .int .i64 S ∧ S < 64 ∧ Hid (S = bsetTo (fun k => decide (k < n) && (nthN l k).testBit m) K)) (fun _ k => n - (intOf k).toNat)
      case atStart => exact ⟨0, 0, Nat.zero_le _, rfl, rfl, by omega, Lib.hid (bsetTo_zero _).symm⟩
      case round =>
        obtain ⟨K, S, hK, rfl, rfl, hS, hSe⟩ := hrel
        by_cases hlt2 : K < n
        · have hck := Hc.out K hlt2
          rw [Hx.out, nth_up] at hck
          have ht := Hlt.out K hlt2
          obtain ⟨t, hte⟩ : ∃ t, t = nthN l K := ⟨_, rfl⟩
          rw [← hte] at hck ht
          have Hte := Lib.hid hte; clear hte
          have hKn : (K : Int) < n := by omega
          cases hbit : t.testBit m
          · have hv := bitv_no ht hbit
            go_wp2_with fail
            go_round
            case rel => exact ⟨K + 1, S, by omega, by go_num, by go_num, hS, Lib.hid (by rw [bsetTo_no (by rw [← Hte.out, hbit]; simp)]; exact hSe.out)⟩
            case measure => simp [intOf]; omega
          · have hv := bitv_yes ht hbit
            have h2K : (2 : Int) ^ K ≤ 64 := by have := Nat.le_of_lt (bit_lt64 (s := K) (by omega)); exact_mod_cast this
            have h2K0 : (0 : Int) ≤ (2 : Int) ^ K := by have : 0 ≤ 2 ^ K := Nat.zero_le _; exact_mod_cast this
            have hK8 : K < 8 := by omega
            go_wp2_with fail
            go_round
            case rel =>
              have e := bsetTo_add (q := fun k => decide (k < n) && (nthN l k).testBit m) (k := K) (by omega) (by rw [← Hte.out, hbit]; simp [hlt2])
              exact ⟨K + 1, S + 2 ^ K, by omega, by go_num, by rw [Int.natCast_add]; norm_cast, by rw [hSe.out, ← e]; exact bset_lt _, Lib.hid (by rw [e, hSe.out])⟩
            case measure => simp [intOf]; omega
        · obtain rfl : K = n := by omega
          have hSd : S = dualAt l m := by
            rw [hSe.out]
            unfold bsetTo dualAt
            rw [Hll.out]
            exact bset_congr fun i _ => by by_cases h : i < K <;> simp [h]
          have HSd := Lib.hid hSd; clear hSd
          have hB : B2 ≤ wr.heap.size := by have := HB2.out; omega
          have hg2 : w1.heap.size < B2 := by have := HB2.out; omega
          have hKK : ¬ ((K : Int) < K) := by omega
          go_wp2_with (at_builtin; refine ap rfl _ _ rfl B2 _ _ _ _ _ rfl hown rfl (by omega) hB ?_; intro ad' d' w' hown' hb'; have xO' := XO.out.keep hb' hg2; have XO' := Lib.hid xO'; obtain ⟨p0, p1, pf0, pf1, plt⟩ := xO'; have Hb' := Lib.hid hb'; clear hb')
          go_roundw
          case rel =>
            refine ⟨m + 1, by omega, by go_num, (Hb.out.trans (Hb'.out.mono (by omega))).setCell (Nat.le_refl _) _, ad', m + 1, d', rfl, XO'.out.set1 _, ?_⟩
            rw [List.range_succ, List.map_append, up_append]
            have := hown'.setBelow (i := 1) (.slice ad' (m + 1 : Nat) d') hg2
            rw [HSd.out] at this
            exact this
          case measure => simp [intOf]; omega
    · obtain rfl : m = n := by omega
      have xR2 := XR.out.keep Hb.out (by omega)
      obtain ⟨q0, q1, qf0, qf1, qlt⟩ := xR2
      have hmm : ¬ ((m : Int) < m) := by omega
      clear hh
      go_wp2_with fail
      refine bodyPost_ret (v := .tuple #[.agg #[.int .i64 m, .slice ad m d], .bool true]) (by simp [results, Tryz.results46, go_sem, q0, q1]) rfl ⟨ad, m, d, rfl, ?_, ?_⟩
      · have e : dualL l = (List.range m).map (dualAt l) := by unfold dualL; rw [Hll.out]
        rw [e]
        refine ((hown.setBelow _ ?_).setBelow _ ?_).mono ?_ <;> (have := HB2.out; omega)
      · exact ((Hbl.out.trans (Hb.out.mono (by omega))).setCell (by simp) _).setCell (by simp) _

theorem iDualPoset_no (p : Int) (a : Option Addr) (n c : Nat) (xs : List Int) (w : World) (h : IntsAt w a n xs) (hP : ¬ PosetP p xs) :
    Calls Tryz.prog 45 #[.agg #[.int .i64 p, .slice a n c]] w (RetBox2 w 0 [] false) := by
  have Hh := Lib.hid h; clear h
  have HP := Lib.hid hP; clear hP
  go_enter Tryz.func45, Tryz.ntmps45
  go_wp2_with fail
  refine (iIsPoset_any p a n c xs _ (Hh.out.keep (by repeat (first | exact Below.refl _ _ | assumption | refine Below.setCell ?_ (by first | omega | (simp; done) | (simp; omega)) _ | refine Below.alloc ?_ (by first | omega | (simp; done) | (simp; omega)) _ | apply Below.drew))) false (by simp [HP.out])).mono ?_
  rintro e w1 ⟨rfl, hb⟩
  obtain ⟨hc, hf⟩ := bcell hb
  have hz : w.heap.size + 2 ≤ w1.heap.size := by have := hb.size; simp at this; omega
  have hbl : Below w.heap.size w w1 := Below.trans (by repeat (first | exact Below.refl _ _ | assumption | refine Below.setCell ?_ (by first | omega | (simp; done) | (simp; omega)) _ | refine Below.alloc ?_ (by first | omega | (simp; done) | (simp; omega)) _ | apply Below.drew)) (hb.mono (by simp; omega))
  go_wp2_with fail
  refine bodyPost_ret (v := .tuple #[.agg #[.int .i64 0, .slice none 0 0], .bool false]) (by simp [results, Tryz.results45, go_sem, hc, hz]) rfl ⟨none, 0, 0, rfl, Own.nil _ _ _, (by repeat (first | exact Below.refl _ _ | assumption | refine Below.setCell ?_ (by first | omega | (simp; done) | (simp; omega)) _ | refine Below.alloc ?_ (by first | omega | (simp; done) | (simp; omega)) _ | apply Below.drew))⟩
set_option maxHeartbeats 2000000 in
theorem iDualPoset_yes (p : Int) (a : Option Addr) (n c : Nat) (xs : List Int) (w : World) (h : IntsAt w a n xs) (hP : PosetP p xs) :
    Calls Tryz.prog 45 #[.agg #[.int .i64 p, .slice a n c]] w (RetBox2 w p (up (dualL (nats xs))) true) := by
  have hnp : (n : Int) = p := by rw [← h.len]; exact hP.2.2.1
  subst hnp
  have hn6 : n ≤ 6 := by have := hP.2.1; omega
  have hlen := Lib.hid h.len
  obtain ⟨l, hl⟩ : ∃ l, l = nats xs := ⟨_, rfl⟩
  have hll : l.length = n := by rw [hl, nats_len, h.len]
  have hlt : ∀ k, k < n → nthN l k < 2 ^ n ∧ nthN l k < 64 := fun k hk => by rw [hl]; have := poset_lt hP k (by rw [h.len]; exact hk); rw [h.len] at this; exact this
  have hx : xs = up l := by rw [hl]; exact poset_nats hP
  have HP := Lib.hid hP; clear hP
  rw [← hl]
  have Hl := Lib.hid hl; clear hl
  have Hll := Lib.hid hll; clear hll
  have Hlt := Lib.hid hlt; clear hlt
  have Hx := Lib.hid hx; clear hx
  have Hh := Lib.hid h; clear h
  go_enter Tryz.func45, Tryz.ntmps45
  go_wp2_with fail
  refine (iIsPoset_any n a n c xs _ (Hh.out.keep (by repeat (first | exact Below.refl _ _ | assumption | refine Below.setCell ?_ (by first | omega | (simp; done) | (simp; omega)) _ | refine Below.alloc ?_ (by first | omega | (simp; done) | (simp; omega)) _ | apply Below.drew))) true (by simp [HP.out])).mono ?_
  rintro e w1 ⟨rfl, hb⟩
  have hz : w.heap.size + 2 ≤ w1.heap.size := by have := hb.size; simp at this; omega
  have Hbl : Hid (Below w.heap.size w w1) := Lib.hid (Below.trans (by repeat (first | exact Below.refl _ _ | assumption | refine Below.setCell ?_ (by first | omega | (simp; done) | (simp; omega)) _ | refine Below.alloc ?_ (by first | omega | (simp; done) | (simp; omega)) _ | apply Below.drew)) (hb.mono (by simp; omega)))
  have xA := ((BoxF.new w (.int .i64 n) (.slice a n c) 59).alloc (.cells #[.int .i64 0, .slice none 0 0] 59)).keep hb (by simp; omega)
  have xR := (BoxF.new (w.alloc (.cells #[.int .i64 n, .slice a n c] 59)) (.int .i64 0) (.slice none 0 0) 59).keep hb (by simp)
  have eR : (w.alloc (.cells #[.int .i64 n, .slice a n c] 59)).heap.size = w.heap.size + 1 := by simp
  rw [eR] at xR
  have XA := Lib.hid xA; have XR := Lib.hid xR
  obtain ⟨a0, a1, _, _, _⟩ := xA
  clear hb xR eR
  have hmk := run_mk_ints n (by omega)
  go_wp2_with fail
  go_cut [4] (fun v W => ∃ g gr : Nat, g ≠ gr ∧ v = .pointer (some ⟨g, 0, none⟩) ∧ w1.heap.size ≤ g ∧ w1.heap.size ≤ gr ∧ Below w1.heap.size w1 W ∧ BoxF W g (.int .i64 n) (.slice (some ⟨gr, 0, none⟩) n n) ∧ Own 3 W w1.heap.size (some ⟨gr, 0, none⟩) n n (List.replicate n 0))
  case first =>
    go_region
    all_goals (go_wp2_with fail; go_meet)
    case rel =>
      have e : (w1.alloc (.cells (zeroI n) 3)).heap.size = w1.heap.size + 1 := by simp
      have hbx := BoxF.new (w1.alloc (.cells (zeroI n) 3)) (.int .i64 n) (.slice (some ⟨w1.heap.size, 0, none⟩) n n) 59
      rw [e] at hbx
      exact ⟨w1.heap.size + 1, w1.heap.size, by omega, rfl, by omega, by omega, (by repeat (first | exact Below.refl _ _ | assumption | refine Below.setCell ?_ (by first | omega | (simp; done) | (simp; omega)) _ | refine Below.alloc ?_ (by first | omega | (simp; done) | (simp; omega)) _ | apply Below.drew)), hbx.drew, ((own_mk n (by omega) w1 _ (Nat.le_refl _)).alloc _).drew⟩
    case rel =>
      have hbx := (BoxF.new w1 (.int .i64 n) (.slice (some ⟨w1.heap.size + 1, 0, none⟩) n n) 59).alloc (.cells (zeroI n) 3)
      have hmk2 := own_mk n (by omega) (w1.alloc (.cells #[.int .i64 n, .slice (some ⟨w1.heap.size + 1, 0, none⟩) n n] 59)) w1.heap.size (by simp)
      have e : (w1.alloc (.cells #[.int .i64 n, .slice (some ⟨w1.heap.size + 1, 0, none⟩) n n] 59)).heap.size = w1.heap.size + 1 := by simp
      rw [e] at hmk2
      exact ⟨w1.heap.size, w1.heap.size + 1, by omega, rfl, by omega, by omega, (by repeat (first | exact Below.refl _ _ | assumption | refine Below.setCell ?_ (by first | omega | (simp; done) | (simp; omega)) _ | refine Below.alloc ?_ (by first | omega | (simp; done) | (simp; omega)) _ | apply Below.drew)), hbx.drew, hmk2.drew⟩
  case rest =>
    obtain ⟨g, gr, hgg, rfl, hg1, hg2, hb, xO, hown⟩ := hcut
    clear hmk a0 a1
    obtain ⟨w2, rfl⟩ : ∃ x : World, x = wc := ⟨_, rfl⟩
    have xA2 := XA.out.keep hb (by omega)
    have Hb := Lib.hid hb; have XO := Lib.hid xO; have Hown := Lib.hid hown
    obtain ⟨a0, a1, _, _, _⟩ := xA2
    obtain ⟨o0, o1, _, _, olt⟩ := xO
    clear hb hown
    go_wp2_with fail
    go_loopw [5, 6, 8, 22] (fun _ _ _ i wr => ∃ I : Nat, I ≤ n ∧ i = .int .i64 I ∧ Below w1.heap.size w1 wr ∧ BoxF wr g (.int .i64 n) (.slice (some ⟨gr, 0, none⟩) n n) ∧ Own 3 wr w1.heap.size (some ⟨gr, 0, none⟩) n n (up (dualIn l I 0))) (fun _ _ _ i _ => n - (intOf i).toNat)
    case atStart => exact ⟨0, Nat.zero_le _, rfl, Hb.out, XO.out, by rw [dualIn_zero, Hll.out, show up (List.replicate n 0) = List.replicate n 0 by unfold up; simp]; exact Hown.out⟩
    case round =>
      clear a0 a1 o0 o1 olt
      obtain ⟨I, hI, rfl, hb, xO, hown⟩ := hrel
      have hh := Hh.out.keep (Hbl.out.trans (hb.mono (by omega)))
      have Hb2 := Lib.hid hb; have XO2 := Lib.hid xO; have Hown2 := Lib.hid hown
      clear hb hown
      by_cases hlt : I < n
      · obtain ⟨b1, off, rfl, hc⟩ := hh.cells (by omega)
        have hcI := hc I hlt
        rw [Hx.out, nth_up] at hcI
        have ht := Hlt.out I hlt
        obtain ⟨t, hte⟩ : ∃ t, t = nthN l I := ⟨_, rfl⟩
        rw [← hte] at hcI ht
        obtain ⟨htn, ht64⟩ := ht
        have Hte := Lib.hid hte; clear hte hc hh xO
        obtain ⟨wo, rfl⟩ : ∃ wo : World, wo = wr := ⟨_, rfl⟩
        have hIn : (I : Int) < n := by omega
        go_wp2_with (go_at_call 117; (with_reducible refine (PointsOf_any t _ ht64).mono ?_); rintro e w3 ⟨la, ln, lc, rfl, hl, hb3⟩)
        have hsz := Hb2.out.size
        have Hb3 := Lib.hid hb3
        have Hl3 := Lib.hid hl
        have hlp : (pts t).length = ln := by rw [← up_len]; exact hl.len
        have hln6 : ln ≤ 6 := by rw [← hlp]; exact ptsTo_len t 6
        have Hlp := Lib.hid hlp; clear hl hlp hb3
        have hgrw : gr < wo.heap.size := (Row.lt Hown2.out gr rfl).2
        go_loopw [8, 30] (fun _ i wr => ∃ J : Nat, J ≤ ln ∧ i = .int .i64 J ∧ Below w1.heap.size w1 wr ∧ Own 3 wr wo.heap.size la ln lc (up (pts t)) ∧ BoxF wr g (.int .i64 n) (.slice (some ⟨gr, 0, none⟩) n n) ∧ Own 3 wr w1.heap.size (some ⟨gr, 0, none⟩) n n (up (dualIn l I J))) (fun _ i _ => ln - (intOf i).toNat)
        case atStart => exact ⟨0, Nat.zero_le _, rfl, Hb2.out.trans (Hb3.out.mono hsz), Hl3.out, XO2.out.keep Hb3.out XO2.out.lt, Hown2.out.keep Hb3.out⟩
        case round =>
          obtain ⟨J, hJ, rfl, hb, hlr, xO, hown⟩ := hrel
          by_cases hlt3 : J < ln
          · obtain ⟨b3, o3, rfl, hc3⟩ := hlr.reads.cells (by omega)
            have hcJ := hc3 J hlt3
            rw [nth_up] at hcJ
            have hJp : J < (pts t).length := by rw [Hlp.out]; exact hlt3
            obtain ⟨j, hj⟩ : ∃ j, j = nthN (pts t) J := ⟨_, rfl⟩
            have hjm : j ∈ pts t := by rw [hj]; exact nthN_mem hJp
            have hjb := (mem_pts.1 hjm).2
            have hjk : j < n := by
              rcases Nat.lt_or_ge j n with h | h
              · exact h
              · rw [Nat.testBit_lt_two_pow (Nat.lt_of_lt_of_le htn (Nat.pow_le_pow_right (n := 2) (by omega) h))] at hjb; cases hjb
            rw [← hj] at hcJ
            obtain ⟨g', hg', hBg, hgl, hcell, hfr⟩ := Row.cells hown (by omega)
            simp only [Option.some.injEq, Addr.mk.injEq, and_true] at hg'
            subst hg'
            have hnot := nthN_not_take (pts_nodup t) hJp
            rw [← hj] at hnot
            obtain ⟨S, hS⟩ : ∃ S, S = bsetTo (fun k => decide (k < l.length) && (nthN l k).testBit j) I := ⟨_, rfl⟩
            have hSlt : S < 64 := by rw [hS]; exact bset_lt _
            have hcj : wr.cell? ⟨gr, j, none⟩ = some (.int .i64 S) := by
              rw [hcell j hjk]
              unfold up
              rw [List.getElem?_map, List.getElem?_map, dualIn_at l I J j (by rw [Hll.out]; exact hjk), ← Hte.out, hnot, hS]
              rfl
            have hfj := hfr j
            have Hset := Lib.hid (show (dualIn l I J).set j (S ||| 2 ^ I) = dualIn l I (J + 1) by
              have := dualIn_succ l I J (by rw [Hll.out]; exact hlt) (by omega) (by rw [← Hte.out]; exact hJp) (by rw [← Hte.out, ← hj, Hll.out]; exact hjk)
              rw [← Hte.out, ← hj, ← hS] at this
              exact this)
            have hI6 : I < 6 := by omega
            have hI8 : I < 8 := by omega
            have hjn : (j : Int) < n := by omega
            have Hlr := Lib.hid hlr; have XO3 := Lib.hid xO; have Hown3 := Lib.hid hown; have Hb4 := Lib.hid hb
            obtain ⟨p0, p1, pf0, pf1, plt⟩ := xO
            have Hc3 := Lib.hid hc3
            clear hc3 hj hjm hjb hlr hown hb hcell hfr hnot hS
            go_wp2_with fail
            go_roundw
            case rel => exact ⟨J + 1, by omega, by go_num, Hb4.out.setCell hg2 _, Hlr.out.setBelow _ hgrw, XO3.out.setOther _ _ hgg, by rw [← Hset.out]; have := Hown3.out.set j ((S ||| 2 ^ I : Nat) : Int); unfold up at this ⊢; rw [List.map_set]; exact this⟩
            case measure => simp [intOf]; omega
          · obtain rfl : J = ln := by omega
            have hJJ : ¬ ((J : Int) < J) := by omega
            have Hb4 := Lib.hid hb; have Hown3 := Lib.hid hown; have XO3 := Lib.hid xO
            clear hlr hown hb xO
            go_wp2_with fail
            go_roundw
            case rel => exact ⟨I + 1, by omega, by go_num, Hb4.out, XO3.out, by have := Hown3.out; rw [← Hlp.out, Hte.out, dualIn_next l I (by rw [Hll.out]; exact hn6)] at this; exact this⟩
            case measure => simp [intOf]; omega
      · obtain rfl : I = n := by omega
        have xR2 := XR.out.keep Hb2.out (by omega)
        obtain ⟨q0, q1, qf0, qf1, qlt⟩ := xR2
        obtain ⟨o0, o1, _, _, olt⟩ := xO
        have hII : ¬ ((I : Int) < I) := by omega
        clear hh
        go_wp2_with fail
        refine bodyPost_ret (v := .tuple #[.agg #[.int .i64 I, .slice (some ⟨gr, 0, none⟩) I I], .bool true]) (by simp [results, Tryz.results45, go_sem, q0, q1]) rfl ⟨some ⟨gr, 0, none⟩, I, I, rfl, ?_, ?_⟩
        · have := Hown2.out
          rw [← Hll.out, dualIn_end, Hll.out] at this
          refine ((this.setOther _ ?_).setOther _ ?_).mono (by omega) <;> first | (simp; done) | (simp; omega)
        · exact ((Hbl.out.trans (Hb2.out.mono (by omega))).setCell (by simp) _).setCell (by simp) _
end Go.Proofs.YtihfhfihladlcaaGreatDoor

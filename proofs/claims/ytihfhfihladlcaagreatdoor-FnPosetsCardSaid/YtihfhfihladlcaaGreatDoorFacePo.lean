/- Contracts of FacePoset, the program's and the reference's. -/
import Derived.Test.YtihfhfihladlcaaGreatDoorFaces2
import Derived.Test.YtihfhfihladlcaaGreatDoorFrom
namespace Go.Proofs.YtihfhfihladlcaaGreatDoor
set_option maxRecDepth 20000
open Go.RowKit
set_option linter.unusedSimpArgs false
set_option linter.unusedVariables false

/-- the faces but for the empty one, in order -/
def faceL (l : List Nat) : List Nat := ord fun s => isFace l s && s != 0
theorem faceL_all {l : List Nat} (h : isFace l 0 = true) : ord (isFace l) = 0 :: faceL l := by
  have hs : (0 :: faceL l).Pairwise fun a b => rank a < rank b := by
    rw [List.pairwise_cons]
    refine ⟨fun s hs => ?_, ord_sorted _⟩
    unfold faceL at hs
    obtain ⟨h64, hp⟩ := mem_ord.1 hs
    simp at hp
    have : ∀ s, s < 64 → s ≠ 0 → rank 0 < rank s := by decide +kernel
    exact this s h64 hp.2
  have hl : ∀ s ∈ (0 :: faceL l), s < 64 := fun s hs => by
    rcases List.mem_cons.1 hs with rfl | h
    · omega
    · exact (mem_ord.1 h).1
  rw [← ord_of_sorted hs hl]
  refine ord_congr fun s hs => ?_
  rw [Bool.eq_iff_iff, List.contains_iff_mem, List.mem_cons]
  unfold faceL
  rw [mem_ord]
  by_cases h0 : s = 0
  · subst h0; simp [h]
  · simp [h0, hs]
theorem faceL_none {l : List Nat} (h : isFace l 0 = false) : ord (isFace l) = [] ∧ faceL l = [] := by
  have hl : l = [] := by
    cases l with
    | nil => rfl
    | cons t l =>
      unfold isFace at h
      rw [List.any_cons] at h
      have : sub 0 t = true := by unfold sub; simp
      rw [this] at h; cases h
  subst hl
  constructor
  · rw [ord_filter]; unfold isFace; simp
  · unfold faceL; rw [ord_filter]; unfold isFace; simp

/-- the sets below the I-th one, among the first J -/
def bel (D : List Nat) (I J : Nat) : Nat := (List.range J).foldl (fun s j => if (I != j && sub (nthN D j) (nthN D I)) = true then s ||| 2 ^ j else s) 0
theorem bel_zero (D : List Nat) (I : Nat) : bel D I 0 = 0 := by unfold bel; simp
theorem bel_yes {D : List Nat} {I J : Nat} (h : (I != J && sub (nthN D J) (nthN D I)) = true) : bel D I (J + 1) = bel D I J ||| 2 ^ J := by
  unfold bel; rw [List.range_succ, List.foldl_append]; simp only [List.foldl_cons, List.foldl_nil]; rw [if_pos h]
theorem bel_no {D : List Nat} {I J : Nat} (h : (I != J && sub (nthN D J) (nthN D I)) = false) : bel D I (J + 1) = bel D I J := by
  unfold bel; rw [List.range_succ, List.foldl_append]; simp only [List.foldl_cons, List.foldl_nil]; rw [if_neg (by rw [h]; simp)]
theorem bel_lt (D : List Nat) (I : Nat) : ∀ J, bel D I J < 2 ^ J := by
  intro J
  induction J with
  | zero => rw [bel_zero]; simp
  | succ J ih =>
    have h2 : 2 ^ J < 2 ^ (J + 1) := Nat.pow_lt_pow_right (by omega) (by omega)
    cases h : (I != J && sub (nthN D J) (nthN D I))
    · rw [bel_no h]; omega
    · rw [bel_yes h]; exact Nat.or_lt_two_pow (by omega) h2
theorem bel_add {D : List Nat} {I J : Nat} : bel D I J ||| 2 ^ J = bel D I J + 2 ^ J := by
  have := Nat.two_pow_add_eq_or_of_lt (bel_lt D I J) 1
  rw [Nat.mul_one] at this
  rw [Nat.or_comm, ← this, Nat.add_comm]
/-- the table so far -/
def belTab (D : List Nat) (N I J : Nat) : List Nat := (List.range N).map fun a => if a < I then bel D a N else if a = I then bel D a J else 0
theorem belTab_len (D : List Nat) (N I J : Nat) : (belTab D N I J).length = N := by simp [belTab]
theorem belTab_zero (D : List Nat) (N : Nat) : belTab D N 0 0 = List.replicate N 0 := by
  apply List.ext_getElem (by simp [belTab])
  intro i h1 h2
  simp [belTab, bel_zero]
theorem belTab_at {D : List Nat} {N I J : Nat} (hI : I < N) : nthN (belTab D N I J) I = bel D I J := by
  rw [nthN_eq (by rw [belTab_len]; exact hI)]
  simp [belTab]
theorem belTab_set {D : List Nat} {N I J v : Nat} (hI : I < N) (h : v = bel D I (J + 1)) : (belTab D N I J).set I v = belTab D N I (J + 1) := by
  apply List.ext_getElem (by simp [belTab])
  intro i h1 h2
  rw [List.getElem_set]
  by_cases hi : I = i
  · subst hi; simp [belTab, h]
  · have hi' : ¬ i = I := fun e => hi e.symm
    simp [belTab, hi, hi']
theorem belTab_same {D : List Nat} {N I J : Nat} (h : bel D I (J + 1) = bel D I J) : belTab D N I (J + 1) = belTab D N I J := by
  unfold belTab
  refine List.map_congr_left fun a _ => ?_
  by_cases ha : a = I
  · subst ha; simp [h]
  · simp [ha]
theorem belTab_next (D : List Nat) (N I : Nat) : belTab D N I N = belTab D N (I + 1) 0 := by
  unfold belTab
  refine List.map_congr_left fun a _ => ?_
  by_cases ha : a < I
  · have : a < I + 1 := by omega
    simp [ha, this]
  · by_cases he : a = I
    · subst he; simp
    · have h1 : ¬ a < I + 1 := by omega
      simp only [ha, he, h1, if_false]
      by_cases he2 : a = I + 1
      · subst he2; simp [bel_zero]
      · simp [he2]
/-- the whole table -/
def belAll (D : List Nat) : List Nat := (List.range D.length).map fun a => bel D a D.length
theorem belTab_end (D : List Nat) : belTab D D.length D.length 0 = belAll D := by
  unfold belTab belAll
  refine List.map_congr_left fun a ha => ?_
  rw [if_pos (List.mem_range.1 ha)]
theorem belAll_take (D : List Nat) {I : Nat} (hI : I < D.length) : ((List.range (I + 1)).map fun a => bel D a D.length) = ((List.range I).map fun a => bel D a D.length) ++ [bel D I D.length] := by
  rw [List.range_succ, List.map_append]; rfl

theorem u64_noZero (l : List Nat) : bits .andNot .u64 ((faceSet l : Nat) : Int) 1 = ((fam fun s => isFace l s && s != 0 : Nat) : Int) := by
  have hF := faceSet_Fam l
  obtain ⟨F, hFe⟩ : ∃ F, F = faceSet l := ⟨_, rfl⟩
  rw [← hFe] at hF ⊢
  unfold Fam at hF
  have h1 : bits .andNot .u64 ((F : Nat) : Int) 1 = ((F &&& (18446744073709551615 - 1) : Nat) : Int) := by
    have hx : F &&& (18446744073709551615 - 1) < 2 ^ 64 := Nat.lt_of_le_of_lt Nat.and_le_left (by omega)
    show IntKind.u64.wrap ((BitVec.ofInt 64 (F : Int) &&& ~~~BitVec.ofInt 64 (1 : Int)).toNat : Int) = _
    rw [BitVec.toNat_and, BitVec.toNat_not, ofInt_u64 F (by omega)]
    have e1 : (BitVec.ofInt 64 (1 : Int)).toNat = 1 := rfl
    rw [e1, IntKind.wrap_u64]
    have e : 2 ^ 64 - 1 - 1 = 18446744073709551615 - 1 := by omega
    rw [e]
    omega
  rw [h1]
  congr 1
  refine fam_eq (Nat.lt_of_le_of_lt Nat.and_le_left (by omega)) fun s hs => ?_
  rw [Nat.testBit_and]
  have e : 18446744073709551615 - 1 = 2 ^ 64 - (1 + 1) := by omega
  rw [e, Nat.testBit_two_pow_sub_succ (by omega), hFe, faceSet_bit hs]
  have h1b : Nat.testBit 1 s = decide (s = 0) := by
    cases s with
    | zero => rfl
    | succ s => simp [Nat.testBit_succ]
  rw [h1b]
  by_cases h0 : s = 0
  · subst h0; simp
  · simp [hs, h0]

/-- one to six faces that are not empty -/
def FaP (l : List Nat) : Prop := 1 ≤ (faceL l).length ∧ (faceL l).length ≤ 6
theorem faP_no {l : List Nat} (h : ¬ FaP l) : ¬ ((2 : Int) ≤ ((ord (isFace l)).length : Int) ∧ ((ord (isFace l)).length : Int) ≤ 7) := by
  cases h0 : isFace l 0
  · have := faceL_none h0
    rw [this.1]; simp
  · rw [faceL_all h0]
    unfold FaP at h
    simp only [List.length_cons]
    omega
theorem faP_yes {l : List Nat} (h : FaP l) : ord (isFace l) = 0 :: faceL l := by
  cases h0 : isFace l 0
  · have := faceL_none h0
    unfold FaP at h
    rw [this.2] at h; simp at h
  · exact faceL_all h0

theorem iFacePo_no (p : Int) (a : Option Addr) (n c : Nat) (xs : List Int) (w : World) (h : IntsAt w a n xs) (hcap : n ≤ c) (hno : ¬ Anti p xs) :
    Calls Tryz.prog 51 #[.agg #[.int .i64 p, .slice a n c]] w (RetBox2 w 0 [] false) := by
  have hx : IntsAt ((w.alloc (.cells #[.int .i64 p, .slice a n c] 32)).alloc (.cells #[.int .i64 0, .slice none 0 0] 59)) a n xs := h.keep (by repeat (first | exact Below.refl _ _ | assumption | refine Below.setCell ?_ (by first | omega | (simp; done) | (simp; omega)) _ | refine Below.alloc ?_ (by first | omega | (simp; done) | (simp; omega)) _ | apply Below.drew))
  have Hx := Lib.hid hx; have Hno := Lib.hid hno; have Hcap := Lib.hid hcap
  have xR := BoxF.new (w.alloc (.cells #[.int .i64 p, .slice a n c] 32)) (.int .i64 0) (.slice none 0 0) 59
  have XR := Lib.hid xR
  clear hx h hno hcap xR
  go_enter Tryz.func51, Tryz.ntmps51
  go_wp2_with fail
  refine (iIsComplex_any p a n c xs _ Hx.out Hcap.out false (by simp [Hno.out])).mono ?_
  rintro e w1 ⟨rfl, hb⟩
  have hbl : Below w.heap.size w w1 := Below.trans (by repeat (first | exact Below.refl _ _ | assumption | refine Below.setCell ?_ (by first | omega | (simp; done) | (simp; omega)) _ | refine Below.alloc ?_ (by first | omega | (simp; done) | (simp; omega)) _ | apply Below.drew)) (hb.mono (by simp <;> omega))
  obtain ⟨r0, r1, f0, f1, _⟩ := XR.out.keep hb (by simp)
  simp at r0 r1 f0 f1
  have hz : w.heap.size + 2 ≤ w1.heap.size := by have := hb.size; simp at this; omega
  clear hb
  go_wp2_with fail
  refine bodyPost_ret (v := .tuple #[.agg #[.int .i64 0, .slice none 0 0], .bool false]) (by simp [results, Tryz.results51, go_sem, r0, r1]) rfl ⟨none, 0, 0, rfl, Own.nil _ _ _, (by repeat (first | exact Below.refl _ _ | assumption | refine Below.setCell ?_ (by first | omega | (simp; done) | (simp; omega)) _ | refine Below.alloc ?_ (by first | omega | (simp; done) | (simp; omega)) _ | apply Below.drew))⟩
set_option maxRecDepth 100000 in
set_option maxHeartbeats 4000000 in
theorem iFacePo_any (p : Int) (a : Option Addr) (n c : Nat) (l : List Nat) (w : World) (h : IntsAt w a n (up l)) (hcap : n ≤ c) (hA : Anti p (up l)) (hl : ∀ t ∈ l, t < 64) :
    (FaP l → Calls Tryz.prog 51 #[.agg #[.int .i64 p, .slice a n c]] w (RetBox2 w (faceL l).length (up (belAll (faceL l))) true)) ∧
    (¬ FaP l → Calls Tryz.prog 51 #[.agg #[.int .i64 p, .slice a n c]] w (RetBox2 w 0 [] false)) := by
  have hx : IntsAt ((w.alloc (.cells #[.int .i64 p, .slice a n c] 32)).alloc (.cells #[.int .i64 0, .slice none 0 0] 59)) a n (up l) := h.keep (by repeat (first | exact Below.refl _ _ | assumption | refine Below.setCell ?_ (by first | omega | (simp; done) | (simp; omega)) _ | refine Below.alloc ?_ (by first | omega | (simp; done) | (simp; omega)) _ | apply Below.drew))
  have Hx := Lib.hid hx; have HA := Lib.hid hA; have Hcap := Lib.hid hcap; have Hl := Lib.hid hl
  have xA := (BoxF.new w (.int .i64 p) (.slice a n c) 32).alloc (.cells #[.int .i64 0, .slice none 0 0] 59)
  have xR := BoxF.new (w.alloc (.cells #[.int .i64 p, .slice a n c] 32)) (.int .i64 0) (.slice none 0 0) 59
  have e2 : (w.alloc (.cells #[.int .i64 p, .slice a n c] 32)).heap.size = w.heap.size + 1 := by simp
  rw [e2] at xR
  have XR := Lib.hid xR; have XA := Lib.hid xA
  have hfz := u64_noZero l
  have hord : ord (fam fun s => isFace l s && s != 0).testBit = faceL l := ord_fam _
  have hGF : Fam (fam fun s => isFace l s && s != 0) := fam_Fam _
  obtain ⟨G, hG⟩ : ∃ G, G = fam fun s => isFace l s && s != 0 := ⟨_, rfl⟩
  rw [← hG] at hfz hord hGF
  obtain ⟨F, hF⟩ : ∃ F, F = faceSet l := ⟨_, rfl⟩
  rw [← hF] at hfz
  obtain ⟨D, hD⟩ : ∃ D, D = faceL l := ⟨_, rfl⟩
  have hDP : FaP l ↔ 1 ≤ D.length ∧ D.length ≤ 6 := by unfold FaP; rw [hD]
  have hD64 : ∀ t ∈ D, t < 64 := by rw [hD]; exact ord_lt
  rw [hDP, ← hD]
  rw [← hD] at hord
  have HF := Lib.hid hF; have Hord := Lib.hid hord; have HD64 := Lib.hid hD64
  clear hx h hA hcap hl xA xR e2 hG hF hD hDP hord hD64
  constructor
  · rintro ⟨hN1, hN6⟩
    go_enter Tryz.func51, Tryz.ntmps51
    go_wp2_with fail
    refine (iIsComplex_any p a n c _ _ Hx.out Hcap.out true (by simp [HA.out])).mono ?_
    rintro e w1 ⟨rfl, hb⟩
    have HB : Hid (Below w.heap.size w w1) := Lib.hid (Below.trans (by repeat (first | exact Below.refl _ _ | assumption | refine Below.setCell ?_ (by first | omega | (simp; done) | (simp; omega)) _ | refine Below.alloc ?_ (by first | omega | (simp; done) | (simp; omega)) _ | apply Below.drew)) (hb.mono (by simp <;> omega)))
    have XR1 := Lib.hid (XR.out.keep hb (by simp))
    obtain ⟨p0, p1, _, _, _⟩ := XA.out.keep hb (by simp; omega)
    have hz : w.heap.size + 2 ≤ w1.heap.size := by have := hb.size; simp at this; omega
    have Hx1 := Lib.hid (Hx.out.keep hb)
    clear hb
    go_wp2_with fail
    refine (facesIn_any p a n c l _ Hx1.out Hl.out).mono ?_
    rw [← HF.out]
    rintro e w2 ⟨rfl, hb⟩
    have XR2 := Lib.hid (XR1.out.keep hb (by omega))
    have HB2 := Lib.hid (HB.out.trans (hb.mono HB.out.size))
    have hz2 : w.heap.size + 2 ≤ w2.heap.size := by have := hb.size; omega
    clear hb p0 p1
    go_wp2_with fail
    refine (setsIn_any G _ hGF).mono ?_
    rw [Hord.out]
    rintro e w3 ⟨ad, k, d, rfl, hown, hb⟩
    have XR3 := Lib.hid (XR2.out.keep hb (by omega))
    have HB3 := Lib.hid (HB2.out.trans (hb.mono HB2.out.size))
    have HO3 := Lib.hid hown.reads
    have hkD : D.length = k := by have := hown.len; rwa [up_len] at this
    have HkD := Lib.hid hkD
    have hz3 : w.heap.size + 2 ≤ w3.heap.size := by have := hb.size; omega
    rw [hkD] at hN1 hN6 ⊢
    have hk0 : ((k : Int) == 0) = false := by simp; omega
    have hk6 : ¬ (6 : Int) < k := by omega
    clear hb hown hkD
    go_wp2_with (at_make; refine mk_ints rfl _ _ rfl _ rfl rfl k rfl (by omega) ?_; intro g w4 hown4 hb4; have HOg := Lib.hid hown4; have HB4 := Lib.hid hb4; clear hown4 hb4)
    have hz4 : w3.heap.size ≤ w4.heap.size := HB4.out.size
    have XP := Lib.hid (BoxF.new w4 (.int .i64 k) (.slice (some ⟨g, 0, none⟩) k k) 59)
    have HOg5 := Lib.hid (HOg.out.alloc (.cells #[.int .i64 k, .slice (some ⟨g, 0, none⟩) k k] 59))
    have HB5 := Lib.hid (HB4.out.alloc HB4.out.size (.cells #[.int .i64 k, .slice (some ⟨g, 0, none⟩) k k] 59))
    have hglt := (HOg.out.lt g rfl).2
    have hgge := (HOg.out.lt g rfl).1
    have hrep : List.replicate k (0 : Int) = up (belTab D k 0 0) := by rw [belTab_zero]; unfold up; simp
    rw [hrep] at HOg5
    go_loopw [6, 7, 8, 9, 35] (fun _ _ _ _ i wr => ∃ I : Nat, I ≤ k ∧ i = .int .i64 I ∧ Below w3.heap.size w3 wr ∧ BoxF wr w4.heap.size (.int .i64 k) (.slice (some ⟨g, 0, none⟩) k k) ∧ Own 3 wr w3.heap.size (some ⟨g, 0, none⟩) k k (up (belTab D k I 0))) (fun _ _ _ _ i _ => k - (intOf i).toNat)
    case atStart => exact ⟨0, Nat.zero_le _, rfl, HB5.out, XP.out, HOg5.out⟩
    case round =>
      obtain ⟨I, hI, rfl, hbr, hbox, hO⟩ := hrel
      have HBr := Lib.hid hbr; have XPr := Lib.hid hbox; have HOr := Lib.hid hO
      have HLr := Lib.hid (HO3.out.keep hbr)
      clear hbr hbox hO
      by_cases hlt : I < k
      · obtain ⟨b1, o1, rfl, hc⟩ := HLr.out.cells (by omega)
        have hci := hc I hlt
        rw [nth_up] at hci
        clear hc
        have hu64 := HD64.out _ (nthN_mem (xs := D) (k := I) (by rw [HkD.out]; exact hlt))
        obtain ⟨u, hu⟩ : ∃ u, u = nthN D I := ⟨_, rfl⟩
        rw [← hu] at hci hu64
        have Hu := Lib.hid hu; clear hu
        have hI0 : (0 : Int) ≤ I := by omega
        have hIk : (I : Int) < k := by omega
        go_wp2_with fail
        clear hci
        go_loopw [8, 9, 42] (fun _ _ j wr => ∃ J : Nat, J ≤ k ∧ j = .int .i64 J ∧ Below w3.heap.size w3 wr ∧ BoxF wr w4.heap.size (.int .i64 k) (.slice (some ⟨g, 0, none⟩) k k) ∧ Own 3 wr w3.heap.size (some ⟨g, 0, none⟩) k k (up (belTab D k I J))) (fun _ _ j _ => k - (intOf j).toNat)
        case atStart => exact ⟨0, Nat.zero_le _, rfl, HBr.out, XPr.out, HOr.out⟩
        case round =>
          clear HBr XPr HOr HLr
          obtain ⟨J, hJ, rfl, hbr, hbox, hO⟩ := hrel
          have HBr := Lib.hid hbr; have XPr := Lib.hid hbox; have HOr := Lib.hid hO
          have HLr := Lib.hid (HO3.out.keep hbr)
          clear hbr hbox hO
          by_cases hjt : J < k
          · have hcj := HLr.out.cellAt J hjt
            rw [nth_up] at hcj
            have hv64 := HD64.out _ (nthN_mem (xs := D) (k := J) (by rw [HkD.out]; exact hjt))
            have hyes := fun h => bel_yes (D := D) (I := I) (J := J) h
            have hnop := fun h => bel_no (D := D) (I := I) (J := J) h
            obtain ⟨v, hv⟩ : ∃ v, v = nthN D J := ⟨_, rfl⟩
            rw [← hv] at hcj hv64
            rw [← Hu.out] at hyes hnop
            simp only [← hv] at hyes hnop
            have Hyes := Lib.hid hyes; have Hnop := Lib.hid hnop
            have hand := w_andNot v u hv64 hu64
            have hsd := sdiff_zero hv64 hu64
            have hbeq : (((I : Nat) : Int) != (J : Int)) = (I != J) := by unfold bne; rw [castBeq]
            clear hv hyes hnop
            cases hij : (I != J)
            · rw [hij] at hbeq
              have Hq : Hid ((I != J && sub v u) = false) := Lib.hid (by rw [hij]; rfl)
              clear hij hsd
              go_wp2_with fail
              go_roundw
              case rel => exact ⟨J + 1, by omega, by go_num, HBr.out, XPr.out, by rw [belTab_same (Hnop.out Hq.out)]; exact HOr.out⟩
              case measure => simp [intOf]; omega
            · rw [hij] at hbeq
              cases hsub : sub v u
              · rw [hsub] at hsd
                have Hq : Hid ((I != J && sub v u) = false) := Lib.hid (by rw [hsub]; simp)
                clear hij hsub
                go_wp2_with fail
                go_roundw
                case rel => exact ⟨J + 1, by omega, by go_num, HBr.out, XPr.out, by rw [belTab_same (Hnop.out Hq.out)]; exact HOr.out⟩
                case measure => simp [intOf]; omega
              · rw [hsub] at hsd
                have Hq : Hid ((I != J && sub v u) = true) := Lib.hid (by rw [hsub, hij]; rfl)
                clear hij hsub
                obtain ⟨q0, q1, _, _, _⟩ := XPr.out
                have hcell := HOr.out.reads.cellAt I hlt
                rw [nth_up, belTab_at hlt, Nat.zero_add] at hcell
                have hfro : wr.frozen? ⟨g, I, none⟩ = false := by
                  obtain ⟨g', hg', _, _, _, hf⟩ := Row.cells HOr.out (by omega)
                  cases hg'; exact hf I
                have hbl := bel_lt D I J
                have hJ6 : J < 6 := by omega
                have hx64 : bel D I J < 64 := Nat.lt_trans hbl (bit_lt64 hJ6)
                obtain ⟨x, hx⟩ : ∃ x, x = bel D I J := ⟨_, rfl⟩
                rw [← hx] at hcell hx64
                have Hx' := Lib.hid hx
                have hor := w_or6bit x J hx64 hJ6
                have hsh := w_shl6 J (by omega)
                clear hx hbl
                go_wp2_with fail
                go_roundw
                case rel =>
                  refine ⟨J + 1, by omega, by go_num, HBr.out.setCell hgge _, XPr.out.setOther _ _ (by simp; omega), ?_⟩
                  have := HOr.out.set I ((x ||| 2 ^ J : Nat) : Int)
                  rw [show (up (belTab D k I J)).set I ((x ||| 2 ^ J : Nat) : Int) = up ((belTab D k I J).set I (x ||| 2 ^ J)) by unfold up; rw [List.map_set], belTab_set hlt (by rw [Hyes.out Hq.out, Hx'.out])] at this
                  exact this
                case measure => simp [intOf]; omega
          · obtain rfl : J = k := by omega
            go_wp2_with fail
            go_roundw
            case rel => exact ⟨I + 1, by omega, by go_num, HBr.out, XPr.out, by rw [← belTab_next]; exact HOr.out⟩
            case measure => simp [intOf]; omega
      · obtain rfl : I = k := by omega
        obtain ⟨q0, q1, _, _, _⟩ := XPr.out
        have XR5 := Lib.hid (XR3.out.keep HBr.out (by omega))
        obtain ⟨r0, r1, _, _, _⟩ := XR5.out
        have HOe : Hid (Own 3 wr w3.heap.size (some ⟨g, 0, none⟩) I I (up (belAll D))) := Lib.hid (by have := HOr.out; rw [← HkD.out, belTab_end, HkD.out] at this; exact this)
        go_wp2_with fail
        refine bodyPost_ret (v := .tuple #[.agg #[.int .i64 I, .slice (some ⟨g, 0, none⟩) I I], .bool true]) (by simp [results, Tryz.results51, go_sem, r0, r1]) rfl ⟨_, I, I, by rw [HkD.out], ?_, ?_⟩
        · exact ((HOe.out.setBelow _ (by first | omega | (simp; omega))).setBelow _ (by first | omega | (simp; omega))).mono (by omega)
        · exact (((HB3.out.trans (HBr.out.mono (by omega))).setCell (by first | (simp; done) | (simp; omega)) _).setCell (by first | (simp; done) | (simp; omega)) _)
  · intro hno
    go_enter Tryz.func51, Tryz.ntmps51
    go_wp2_with fail
    refine (iIsComplex_any p a n c _ _ Hx.out Hcap.out true (by simp [HA.out])).mono ?_
    rintro e w1 ⟨rfl, hb⟩
    have HB : Hid (Below w.heap.size w w1) := Lib.hid (Below.trans (by repeat (first | exact Below.refl _ _ | assumption | refine Below.setCell ?_ (by first | omega | (simp; done) | (simp; omega)) _ | refine Below.alloc ?_ (by first | omega | (simp; done) | (simp; omega)) _ | apply Below.drew)) (hb.mono (by simp <;> omega)))
    have XR1 := Lib.hid (XR.out.keep hb (by simp))
    obtain ⟨p0, p1, _, _, _⟩ := XA.out.keep hb (by simp; omega)
    have hz : w.heap.size + 2 ≤ w1.heap.size := by have := hb.size; simp at this; omega
    have Hx1 := Lib.hid (Hx.out.keep hb)
    clear hb
    go_wp2_with fail
    refine (facesIn_any p a n c l _ Hx1.out Hl.out).mono ?_
    rw [← HF.out]
    rintro e w2 ⟨rfl, hb⟩
    have XR2 := Lib.hid (XR1.out.keep hb (by omega))
    have HB2 := Lib.hid (HB.out.trans (hb.mono HB.out.size))
    have hz2 : w.heap.size + 2 ≤ w2.heap.size := by have := hb.size; omega
    clear hb p0 p1
    go_wp2_with fail
    refine (setsIn_any G _ hGF).mono ?_
    rw [Hord.out]
    rintro e w3 ⟨ad, k, d, rfl, hown, hb⟩
    have xR3 := XR2.out.keep hb (by omega)
    have HB3 := Lib.hid (HB2.out.trans (hb.mono HB2.out.size))
    have hz3 : w.heap.size + 2 ≤ w3.heap.size := by have := hb.size; omega
    have hkD : D.length = k := by have := hown.len; rwa [up_len] at this
    rw [hkD] at hno
    have hsm := hown.reads.small
    obtain ⟨r0, r1, f0, f1, _⟩ := xR3
    clear hb hown hkD
    by_cases hk : k = 0
    · subst hk
      go_wp2_with fail
      refine bodyPost_ret (v := .tuple #[.agg #[.int .i64 0, .slice none 0 0], .bool false]) (by simp [results, Tryz.results51, go_sem, r0, r1]) rfl ⟨none, 0, 0, rfl, Own.nil _ _ _, ?_⟩
      exact ((HB3.out.setCell (by first | (simp; done) | (simp; omega)) _).setCell (by first | (simp; done) | (simp; omega)) _)
    · have hk6 : (6 : Int) < k := by omega
      have hk0 : ((k : Int) == 0) = false := by simp; omega
      go_wp2_with fail
      refine bodyPost_ret (v := .tuple #[.agg #[.int .i64 0, .slice none 0 0], .bool false]) (by simp [results, Tryz.results51, go_sem, r0, r1]) rfl ⟨none, 0, 0, rfl, Own.nil _ _ _, ?_⟩
      exact ((HB3.out.setCell (by first | (simp; done) | (simp; omega)) _).setCell (by first | (simp; done) | (simp; omega)) _)

theorem sFacePo_bad (p : Int) (a : Option Addr) (n c : Nat) (xs : List Int) (F : List Nat) (w : World) (h : IntsAt w a n xs) (hF : ∀ W, IntsAt W a n xs → Calls Tryz.prog 135 #[.agg #[.int .i64 p, .slice a n c]] W (RetInts W (up F))) (hno : ¬ ((2 : Int) ≤ (F.length : Int) ∧ (F.length : Int) ≤ 7)) :
    Calls Tryz.prog 52 #[.agg #[.int .i64 p, .slice a n c]] w (RetBox2 w 0 [] false) := by
  have hx : IntsAt ((w.alloc (.cells #[.int .i64 p, .slice a n c] 32)).alloc (.cells #[.int .i64 0, .slice none 0 0] 59)) a n xs := h.keep (by repeat (first | exact Below.refl _ _ | assumption | refine Below.setCell ?_ (by first | omega | (simp; done) | (simp; omega)) _ | refine Below.alloc ?_ (by first | omega | (simp; done) | (simp; omega)) _ | apply Below.drew))
  have Hx := Lib.hid hx; have HF := Lib.hid hF; have Hno := Lib.hid hno
  have xR := BoxF.new (w.alloc (.cells #[.int .i64 p, .slice a n c] 32)) (.int .i64 0) (.slice none 0 0) 59
  have XR := Lib.hid xR
  clear hx h hF hno xR
  go_enter Tryz.func52, Tryz.ntmps52
  go_wp2_with fail
  refine (HF.out _ Hx.out).mono ?_
  rintro e w1 ⟨ad, k, d, rfl, hown, hb⟩
  have hk : F.length = k := by have := hown.len; rwa [up_len] at this
  have hno2 : ¬ ((2 : Int) ≤ (k : Int) ∧ (k : Int) ≤ 7) := by rw [← hk]; exact Hno.out
  have hsm := hown.reads.small
  have hbl : Below w.heap.size w w1 := Below.trans (by repeat (first | exact Below.refl _ _ | assumption | refine Below.setCell ?_ (by first | omega | (simp; done) | (simp; omega)) _ | refine Below.alloc ?_ (by first | omega | (simp; done) | (simp; omega)) _ | apply Below.drew)) (hb.mono (by simp <;> omega))
  obtain ⟨r0, r1, f0, f1, _⟩ := XR.out.keep hb (by simp)
  simp at r0 r1 f0 f1
  have hz : w.heap.size + 2 ≤ w1.heap.size := by have := hb.size; simp at this; omega
  have Hno2 := Lib.hid hno2
  clear hb hown hk hno2
  go_wp2_with (go_at_call 110; (with_reducible refine (l1In_no k 2 7 _ Hno2.out).mono ?_); rintro e w' ⟨rfl, rfl⟩)
  refine bodyPost_ret (v := .tuple #[.agg #[.int .i64 0, .slice none 0 0], .bool false]) (by simp [results, Tryz.results52, go_sem, r0, r1]) rfl ⟨none, 0, 0, rfl, Own.nil _ _ _, (by repeat (first | exact Below.refl _ _ | assumption | refine Below.setCell ?_ (by first | omega | (simp; done) | (simp; omega)) _ | refine Below.alloc ?_ (by first | omega | (simp; done) | (simp; omega)) _ | apply Below.drew))⟩
set_option maxRecDepth 100000 in
set_option maxHeartbeats 4000000 in
theorem sFacePo_yes (p : Int) (a : Option Addr) (n c : Nat) (l : List Nat) (w : World) (h : IntsAt w a n (up l)) (hA : Anti p (up l)) (hl : ∀ t ∈ l, t < 64) (hP : FaP l) :
    Calls Tryz.prog 52 #[.agg #[.int .i64 p, .slice a n c]] w (RetBox2 w (faceL l).length (up (belAll (faceL l))) true) := by
  have hx : IntsAt ((w.alloc (.cells #[.int .i64 p, .slice a n c] 32)).alloc (.cells #[.int .i64 0, .slice none 0 0] 59)) a n (up l) := h.keep (by repeat (first | exact Below.refl _ _ | assumption | refine Below.setCell ?_ (by first | omega | (simp; done) | (simp; omega)) _ | refine Below.alloc ?_ (by first | omega | (simp; done) | (simp; omega)) _ | apply Below.drew))
  have Hx := Lib.hid hx; have HA := Lib.hid hA; have Hl := Lib.hid hl
  have xR := BoxF.new (w.alloc (.cells #[.int .i64 p, .slice a n c] 32)) (.int .i64 0) (.slice none 0 0) 59
  have e2 : (w.alloc (.cells #[.int .i64 p, .slice a n c] 32)).heap.size = w.heap.size + 1 := by simp
  rw [e2] at xR
  have XR := Lib.hid xR
  have hall := faP_yes hP
  obtain ⟨hN1, hN6⟩ := hP
  obtain ⟨D, hD⟩ : ∃ D, D = faceL l := ⟨_, rfl⟩
  rw [← hD] at hall hN1 hN6 ⊢
  have hD64 : ∀ t ∈ D, t < 64 := by rw [hD]; exact ord_lt
  obtain ⟨N, hN⟩ : ∃ N, N = D.length := ⟨_, rfl⟩
  rw [← hN] at hN1 hN6 ⊢
  have Hall := Lib.hid hall; have HD64 := Lib.hid hD64; have HN := Lib.hid hN
  clear hx h hA hl xR e2 hall hD hD64 hN
  go_enter Tryz.func52, Tryz.ntmps52
  go_wp2_with fail
  refine (sFacesOf_yes p a n c l _ Hx.out HA.out Hl.out).mono ?_
  rw [Hall.out]
  rintro e w1 ⟨ad, k, d, rfl, hown, hb⟩
  have hk : k = N + 1 := by have := hown.len; rw [up_len, List.length_cons, ← HN.out] at this; exact this.symm
  subst hk
  have HB1 := Lib.hid (show Below w.heap.size w w1 from Below.trans (by repeat (first | exact Below.refl _ _ | assumption | refine Below.setCell ?_ (by first | omega | (simp; done) | (simp; omega)) _ | refine Below.alloc ?_ (by first | omega | (simp; done) | (simp; omega)) _ | apply Below.drew)) (hb.mono (by simp <;> omega)))
  have XR1 := Lib.hid (XR.out.keep hb (by simp))
  have HL1 := Lib.hid hown.reads
  have hz1 : w.heap.size + 2 ≤ w1.heap.size := by have := hb.size; simp at this; omega
  have hk2 : (2 : Int) ≤ ((N : Int) + 1) := by omega
  have hk7 : ((N : Int) + 1) ≤ 7 := by omega
  have hkm : ((N : Int) + 1) - 1 = (N : Int) := by omega
  clear hb hown
  go_wp2_with (go_at_call 110; (with_reducible refine (l1In_yes ((N : Int) + 1) 2 7 _ hk2 hk7).mono ?_); rintro e w' ⟨rfl, rfl⟩)
  have XP := Lib.hid (BoxF.new w1 (.int .i64 N) (.slice none 0 0) 59)
  have HB2 := Lib.hid ((Below.refl w1.heap.size w1).alloc (Nat.le_refl _) (.cells #[.int .i64 N, .slice none 0 0] 59))
  have hz2 : (w1.alloc (.cells #[.int .i64 N, .slice none 0 0] 59)).heap.size = w1.heap.size + 1 := by simp
  go_loopw [6, 7, 8] (fun i _ _ wr => ∃ I : Nat, I ≤ N ∧ i = .int .i64 ((I : Int) + 1) ∧ Below w1.heap.size w1 wr ∧ w1.heap.size + 1 ≤ wr.heap.size ∧ ∃ ad2 K d2, K = I ∧ BoxF wr w1.heap.size (.int .i64 N) (.slice ad2 K d2) ∧ Own 3 wr (w1.heap.size + 1) ad2 K d2 (up ((List.range I).map fun a => bel D a N))) (fun i _ _ _ => N + 1 - (intOf i).toNat)
  case atStart => exact ⟨0, by omega, by first | rfl | go_num, HB2.out, by simp, none, 0, 0, rfl, XP.out, Own.nil _ _ _⟩
  case round =>
    obtain ⟨wo, rfl⟩ : ∃ x : World, x = wr := ⟨_, rfl⟩
    obtain ⟨I, hI, rfl, hbr, hzo, ad2, K, d2, hK, hbox, hO⟩ := hrel
    have HBr := Lib.hid hbr; have XPr := Lib.hid hbox; have HOr := Lib.hid hO
    have HK := Lib.hid hK
    have hKb : K ≤ 6 := by omega
    clear hbr hbox hO hK
    by_cases hlt : I < N
    · have hlt' : ((I : Int) + 1) < ((N : Int) + 1) := by omega
      have hu64 := HD64.out _ (nthN_mem (xs := D) (k := I) (by rw [← HN.out]; exact hlt))
      obtain ⟨u, hu⟩ : ∃ u, u = nthN D I := ⟨_, rfl⟩
      rw [← hu] at hu64
      have Hu := Lib.hid hu; clear hu
      go_wp2_with fail
      go_loopw [7, 8] (fun s j wi => ∃ J : Nat, J ≤ N ∧ j = .int .i64 ((J : Int) + 1) ∧ s = .int .i64 (bel D I J : Nat) ∧ Below wo.heap.size wo wi) (fun _ j _ => N + 1 - (intOf j).toNat)
      case atStart => exact ⟨0, by omega, by first | rfl | go_num, by rw [bel_zero]; rfl, Below.refl _ _⟩
      case round =>
        obtain ⟨J, hJ, rfl, rfl, hbi⟩ := hrel
        have HBi := Lib.hid hbi
        have HLi := Lib.hid (HL1.out.keep (HBr.out.trans (hbi.mono HBr.out.size)))
        clear hbi
        by_cases hjt : J < N
        · obtain ⟨b1, o1, rfl, hc⟩ := HLi.out.cells (by omega)
          have hci := hc (I + 1) (by omega)
          have hcj := hc (J + 1) (by omega)
          have hn : ∀ q, nth (up (0 :: D)) (q + 1) = (nthN D q : Int) := fun q => by rw [nth_up]; rfl
          rw [hn] at hci hcj
          rw [← Hu.out] at hci
          have hv64 := HD64.out _ (nthN_mem (xs := D) (k := J) (by rw [← HN.out]; exact hjt))
          have hyes := fun h => bel_yes (D := D) (I := I) (J := J) h
          have hnop := fun h => bel_no (D := D) (I := I) (J := J) h
          rw [bel_add] at hyes
          obtain ⟨v, hv⟩ : ∃ v, v = nthN D J := ⟨_, rfl⟩
          rw [← hv] at hcj hv64
          rw [← Hu.out] at hyes hnop
          simp only [← hv] at hyes hnop
          have Hyes := Lib.hid hyes; have Hnop := Lib.hid hnop
          have hand := w_and u v hu64 hv64
          have hst : (((u &&& v : Nat) : Int) == (v : Int)) = sub v u := by rw [castBeq]; unfold sub; rw [Nat.and_comm]
          have hbeq : (((J : Int) + 1) != ((I : Int) + 1)) = (I != J) := by
            rw [Bool.eq_iff_iff]; simp; omega
          have hlt2 : ((J : Int) + 1) < ((N : Int) + 1) := by omega
          have hJ6 : J < 6 := by omega
          have hx64 : bel D I J < 64 := Nat.lt_trans (bel_lt D I J) (bit_lt64 hJ6)
          obtain ⟨x, hx⟩ : ∃ x, x = bel D I J := ⟨_, rfl⟩
          rw [← hx] at hx64 ⊢
          have Hx' := Lib.hid hx
          have hj0 : (0 : Int) ≤ ((J : Int) + 1) := by omega
          have hi0 : (0 : Int) ≤ ((I : Int) + 1) := by omega
          have hil : ((I : Int) + 1) < ((N : Int) + 1) := by omega
          clear hc hn hv hyes hnop hx
          cases hij : (I != J)
          · rw [hij] at hbeq
            have Hq : Hid ((I != J && sub v u) = false) := Lib.hid (by rw [hij]; rfl)
            clear hij hst
            go_wp2_with fail
            go_quiet (fail)
            go_wp2_with fail
            go_roundw
            case rel => exact ⟨J + 1, by omega, by go_num, by rw [Hnop.out Hq.out, ← Hx'.out], below_drewN HBi.out _⟩
            case measure => simp [intOf]; omega
          · rw [hij] at hbeq
            cases hsub : sub v u
            · rw [hsub] at hst
              have Hq : Hid ((I != J && sub v u) = false) := Lib.hid (by rw [hsub]; simp)
              clear hij hsub
              go_wp2_with fail
              go_quiet (fail)
              go_wp2_with fail
              go_roundw
              case rel => exact ⟨J + 1, by omega, by go_num, by rw [Hnop.out Hq.out, ← Hx'.out], below_drewN HBi.out _⟩
              case measure => simp [intOf]; omega
            · rw [hsub] at hst
              have Hq : Hid ((I != J && sub v u) = true) := Lib.hid (by rw [hsub, hij]; rfl)
              have hsh := w_shl6 J (by omega)
              have hjm : ((J : Int) + 1) - 1 = (J : Int) := by omega
              have hadd : (x : Int) + 2 ^ J = ((x + 2 ^ J : Nat) : Int) := by norm_cast
              have hb64 := bit_lt64 hJ6
              obtain ⟨y, hy⟩ : ∃ y, y = x + 2 ^ J := ⟨_, rfl⟩
              rw [← hy] at hadd
              have hy128 : y < 128 := by omega
              have Hy' := Lib.hid hy
              clear hij hsub hy hb64
              go_wp2_with fail
              go_quiet (fail)
              go_wp2_with fail
              go_roundw
              case rel => exact ⟨J + 1, by omega, by go_num, by rw [Hyes.out Hq.out, ← Hx'.out, ← Hy'.out], below_drewN HBi.out _⟩
              case measure => simp [intOf]; omega
        · obtain rfl : J = N := by omega
          have hJJ : ¬ (((J : Int) + 1) < ((J : Int) + 1)) := by omega
          have XPi := Lib.hid (XPr.out.keep HBi.out (by omega))
          have HOi := Lib.hid (HOr.out.keep HBi.out)
          obtain ⟨q0, q1, _, qf1, _⟩ := XPi.out
          have hzi : w1.heap.size + 1 ≤ wr.heap.size := by have := HBi.out.size; omega
          have HBb := Lib.hid (HBr.out.trans (HBi.out.mono (by omega)))
          go_wp2_with (at_builtin; refine ap rfl _ _ rfl (w1.heap.size + 1) _ _ _ _ _ rfl HOi.out rfl (by omega) hzi ?_; intro ad' d' w' hown' hb'; have XP' := Lib.hid (XPi.out.keep hb' (by omega)); have HO' := Lib.hid hown'; have HB' := Lib.hid hb'; obtain ⟨s0, s1, sf0, sf1, _⟩ := XP'.out; clear hown' hb')
          go_roundw
          case rel =>
            refine ⟨I + 1, by omega, by go_num, (HBb.out.trans (HB'.out.mono (by omega))).setCell (Nat.le_refl _) _, by have := HB'.out.size; simp; omega, ad', K + 1, d', by have := HK.out; omega, XP'.out.set1 _, ?_⟩
            have hO' := HO'.out.setBelow (i := 1) (.slice ad' (K + 1 : Nat) d') (show w1.heap.size < w1.heap.size + 1 by omega)
            rw [List.range_succ, List.map_append, up_append]
            exact hO'
          case measure => simp [intOf]; omega
    · obtain rfl : I = N := by omega
      have hII : ¬ (((I : Int) + 1) < ((I : Int) + 1)) := by omega
      obtain ⟨q0, q1, _, _, _⟩ := XPr.out
      have XR5 := Lib.hid (XR1.out.keep HBr.out (by omega))
      obtain ⟨r0, r1, _, _, _⟩ := XR5.out
      obtain rfl : I = K := HK.out.symm
      have HOe : Hid (Own 3 wo (w1.heap.size + 1) ad2 I d2 (up (belAll D))) := Lib.hid (by have := HOr.out; unfold belAll; rw [← HN.out]; exact this)
      go_wp2_with fail
      refine bodyPost_ret (v := .tuple #[.agg #[.int .i64 I, .slice ad2 I d2], .bool true]) (by simp [results, Tryz.results52, go_sem, r0, r1]) rfl ⟨_, I, d2, rfl, ?_, ?_⟩
      · exact ((HOe.out.setBelow _ (by first | omega | (simp; omega))).setBelow _ (by first | omega | (simp; omega))).mono (by omega)
      · exact (((HB1.out.trans (HBr.out.mono (by omega))).setCell (by first | (simp; done) | (simp; omega)) _).setCell (by first | (simp; done) | (simp; omega)) _)
end Go.Proofs.YtihfhfihladlcaaGreatDoor

/- Contracts of the program's linkIn, flips and CanFlip. -/
import Derived.Test.YtbdnlncpamandaaAnti2
import Derived.Test.YtbdnlncpamandaaFaces2
import Derived.Test.YtbdnlncpamandaaIdeal3
namespace Go.Proofs.Ytbdnlncpamandaa
set_option maxRecDepth 20000
open Go.RowKit
set_option linter.unusedSimpArgs false
set_option linter.unusedVariables false

theorem u64_noBit (F k : Nat) (hF : Fam F) (hk : k < 64) : bits .andNot .u64 (F : Int) (2 ^ k) = ((fam fun x => F.testBit x && x != k : Nat) : Int) := by
  have e : ((2 : Int) ^ k) = ((2 ^ k : Nat) : Int) := by norm_cast
  have hk2 : 2 ^ k < 18446744073709551616 := Nat.lt_of_lt_of_le (Nat.pow_lt_pow_right (by omega) hk) (by omega)
  rw [e, u64_andNot_nat F (2 ^ k) hF hk2]
  congr 1
  refine fam_eq (Nat.lt_of_le_of_lt Nat.and_le_left hF) fun s hs => ?_
  rw [Nat.testBit_and]
  have e : 18446744073709551615 - 2 ^ k = 2 ^ 64 - (2 ^ k + 1) := by omega
  rw [e, Nat.testBit_two_pow_sub_succ (by omega), Nat.testBit_two_pow]
  by_cases h : k = s
  · subst h; simp
  · have h2 : ¬ s = k := fun e => h e.symm
    simp [h, h2, hs]
/-- the test of the program's linkIn -/
def lkB (F s x : Nat) : Bool := x &&& s == 0 && F.testBit (x ||| s)
/-- the program's linkIn -/
def lkF (F s : Nat) : Nat := pickN (lkB F s) (2 ^ 6)
theorem lkFam (F s : Nat) : Fam (lkF F s) := pickN_Fam _ _
theorem lkBit {F s x : Nat} (hx : x < 64) : (lkF F s).testBit x = lkB F s x := by
  unfold lkF; rw [pickN_bit hx]
  have : x < 2 ^ 6 := hx
  simp [this]
theorem lkFace {l : List Nat} {s x : Nat} (hs : s < 64) (hx : x < 64) : (lkF (faceSet l) s).testBit x = linkB l s x := by
  rw [lkBit hx]; unfold lkB linkB
  rw [faceSet_bit (or_lt64 hx hs)]
/-- the program's proper subsets -/
def prF (t : Nat) : Nat := fam fun x => (fam fun y => sub y t).testBit x && x != t
theorem prFam (t : Nat) : Fam (prF t) := fam_Fam _
theorem prBit {t x : Nat} (hx : x < 64) : (prF t).testBit x = propB t x := by
  unfold prF propB; rw [fam_at hx, fam_at hx]
theorem flip_fams {l : List Nat} {s t : Nat} (hs : s < 64) : (lkF (faceSet l) s == prF t) = (List.range 64).all fun x => linkB l s x == propB t x := by
  rw [Bool.eq_iff_iff, flipB_same, beq_iff_eq]
  constructor
  · intro h x hx
    rw [← lkFace hs hx, ← prBit hx, h]
  · intro h
    have h1 : lkF (faceSet l) s = fam (propB t) := fam_eq (lkFam _ _) fun x hx => by rw [lkFace hs hx, h x hx]
    have h2 : prF t = fam (propB t) := fam_eq (prFam _) fun x hx => prBit hx
    rw [h1, h2]

theorem linkFn_any (g1 g2 x s F : Nat) (w : World) (hx : x < 64) (hs : s < 64) (hF : Fam F) (h1 : w.cell? ⟨g1, 0, none⟩ = some (.int .i64 s)) (h2 : w.cell? ⟨g2, 0, none⟩ = some (.int .u64 F)) :
    Calls Try.prog 123 #[.int .i64 x, .pointer (some ⟨g1, 0, none⟩), .pointer (some ⟨g2, 0, none⟩)] w fun e w' => e = .returned (.bool (lkB F s x)) ∧ w = w' := by
  have hor := or_lt64 hx hs
  have how := w_or x s hx hs
  obtain ⟨d, hd⟩ : ∃ d, d = (x &&& s == 0) := ⟨_, rfl⟩
  have hz : (((x &&& s : Nat) : Int) == 0) = d := by rw [hd]; exact castBeq _ 0
  have Hd : Hid (lkB F s x = (d && F.testBit (x ||| s))) := Lib.hid (by rw [hd]; rfl)
  clear hd
  cases d
  · go_enter Try.func123, Try.ntmps123
    go_wp2_with (go_at_call 108; (with_reducible refine (hasSet_any F (x ||| s) _ hF hor).mono ?_); rintro e w' ⟨rfl, rfl⟩)
    go_ret
    exact ⟨ret_bool (by rw [Hd.out]; rfl), rfl⟩
  · go_enter Try.func123, Try.ntmps123
    go_wp2_with (go_at_call 108; (with_reducible refine (hasSet_any F (x ||| s) _ hF hor).mono ?_); rintro e w' ⟨rfl, rfl⟩)
    go_ret
    exact ⟨ret_bool (by rw [Hd.out]; rfl), rfl⟩
set_option maxRecDepth 100000 in
theorem linkIn_any (F s : Nat) (w : World) (hF : Fam F) (hs : s < 64) :
    Calls Try.prog 91 #[.int .u64 F, .int .i64 s] w fun e w' => e = .returned (.int .u64 (lkF F s)) ∧ Below w.heap.size w w' := by
  go_enter Try.func91, Try.ntmps91
  go_wp2_with fail
  refine (pickSets_any 123 #[.pointer (some ⟨w.heap.size + 1, 0, none⟩), .pointer (some ⟨w.heap.size, 0, none⟩)] (lkB F s) 6 _ (by omega) (fun _ _ => rfl) (fun x hx => linkFn_any (w.heap.size + 1) w.heap.size x s F _ hx hs hF (by rw [show w.heap.size + 1 = (w.alloc (.cells #[.int .u64 F] 82)).heap.size by simp, World.cell?_alloc_at _ _ _ _ rfl]; rfl) (by rw [World.cell?_alloc_lt _ _ _ (by simp), World.cell?_alloc_at _ _ _ _ rfl]; rfl))).mono ?_
  rintro e we ⟨rfl, rfl⟩
  go_wp2_with fail
  go_ret
  exact ⟨rfl, (by repeat (first | exact Below.refl _ _ | assumption | refine Below.setCell ?_ (by first | omega | (simp; done) | (simp; omega)) _ | refine Below.alloc ?_ (by first | omega | (simp; done) | (simp; omega)) _ | apply Below.drew))⟩

/-- what the program's flips tests, for sets of numbers below 64 -/
def flipF (F s t : Nat) : Bool := s != 0 && t != 0 && s &&& t == 0 && F.testBit s && !F.testBit t && lkF F s == prF t
theorem flipFace {l : List Nat} {s t : Nat} (hs : s < 64) (ht : t < 64) : flipF (faceSet l) s t = flipB l s t := by
  unfold flipF flipB
  rw [faceSet_bit hs, faceSet_bit ht, flip_fams hs]
theorem flips_noS (p : Int) (F : Nat) (s t : Int) (w : World) (h : isSetB p s = false) :
    Calls Try.prog 109 #[.int .i64 p, .int .u64 F, .int .i64 s, .int .i64 t] w fun e w' => e = .returned (.bool false) ∧ Below w.heap.size w w' := by
  go_enter Try.func109, Try.ntmps109
  go_wp2_with (go_at_call 112; (with_reducible refine (IsSet_is p s false _ h).mono ?_); rintro e w' ⟨rfl, rfl⟩)
  go_ret
  exact ⟨rfl, (by repeat (first | exact Below.refl _ _ | assumption | refine Below.setCell ?_ (by first | omega | (simp; done) | (simp; omega)) _ | refine Below.alloc ?_ (by first | omega | (simp; done) | (simp; omega)) _ | apply Below.drew))⟩
theorem flips_noT (p : Int) (F : Nat) (s t : Int) (w : World) (h0 : isSetB p s = true) (h : isSetB p t = false) :
    Calls Try.prog 109 #[.int .i64 p, .int .u64 F, .int .i64 s, .int .i64 t] w fun e w' => e = .returned (.bool false) ∧ Below w.heap.size w w' := by
  go_enter Try.func109, Try.ntmps109
  go_wp2_with (first | (go_at_call 112; (with_reducible refine (IsSet_is p s true _ h0).mono ?_); rintro e w' ⟨rfl, rfl⟩) | (go_at_call 112; (with_reducible refine (IsSet_is p t false _ h).mono ?_); rintro e w' ⟨rfl, rfl⟩))
  go_ret
  exact ⟨rfl, (by repeat (first | exact Below.refl _ _ | assumption | refine Below.setCell ?_ (by first | omega | (simp; done) | (simp; omega)) _ | refine Below.alloc ?_ (by first | omega | (simp; done) | (simp; omega)) _ | apply Below.drew))⟩
set_option maxRecDepth 100000 in
theorem flips_yes (p : Int) (F s t : Nat) (w : World) (hF : Fam F) (h0 : isSetB p s = true) (h1 : isSetB p t = true) (hs : s < 64) (ht : t < 64) (b : Bool) (hb : flipF F s t = b) :
    Calls Try.prog 109 #[.int .i64 p, .int .u64 F, .int .i64 s, .int .i64 t] w fun e w' => e = .returned (.bool b) ∧ Below w.heap.size w w' := by
  unfold flipF at hb
  by_cases hs0 : s = 0
  · subst hs0
    have hbf : b = false := by rw [← hb]; rfl
    subst hbf
    clear hb
    have h0' : isSetB p 0 = true := h0
    go_enter Try.func109, Try.ntmps109
    go_wp2_with (first | (go_at_call 112; (with_reducible refine (IsSet_is p 0 true _ h0').mono ?_); rintro e w' ⟨rfl, rfl⟩) | (go_at_call 112; (with_reducible refine (IsSet_is p t true _ h1).mono ?_); rintro e w' ⟨rfl, rfl⟩))
    go_ret
    exact ⟨rfl, (by repeat (first | exact Below.refl _ _ | assumption | refine Below.setCell ?_ (by first | omega | (simp; done) | (simp; omega)) _ | refine Below.alloc ?_ (by first | omega | (simp; done) | (simp; omega)) _ | apply Below.drew))⟩
  · by_cases ht0 : t = 0
    · subst ht0
      have hbf : b = false := by rw [← hb]; simp
      subst hbf
      clear hb
      have hsz : ((s : Int) == 0) = false := by simp; omega
      have h1' : isSetB p 0 = true := h1
      go_enter Try.func109, Try.ntmps109
      go_wp2_with (first | (go_at_call 112; (with_reducible refine (IsSet_is p s true _ h0).mono ?_); rintro e w' ⟨rfl, rfl⟩) | (go_at_call 112; (with_reducible refine (IsSet_is p 0 true _ h1').mono ?_); rintro e w' ⟨rfl, rfl⟩))
      go_ret
      exact ⟨rfl, (by repeat (first | exact Below.refl _ _ | assumption | refine Below.setCell ?_ (by first | omega | (simp; done) | (simp; omega)) _ | refine Below.alloc ?_ (by first | omega | (simp; done) | (simp; omega)) _ | apply Below.drew))⟩
    · have hsz : ((s : Int) == 0) = false := by simp; omega
      have htz : ((t : Int) == 0) = false := by simp; omega
      obtain ⟨d, hd⟩ : ∃ d, d = (s &&& t == 0) := ⟨_, rfl⟩
      have hnz : (((s &&& t : Nat) : Int) != 0) = !d := by rw [hd]; unfold bne; rw [show (((s &&& t : Nat) : Int) == 0) = (s &&& t == 0) from castBeq _ 0]
      obtain ⟨x, hx⟩ : ∃ x, x = F.testBit s := ⟨_, rfl⟩
      obtain ⟨y, hy⟩ : ∃ y, y = F.testBit t := ⟨_, rfl⟩
      have HX : Hid (∀ W, Calls Try.prog 108 #[.int .u64 F, .int .i64 s] W fun e w' => e = .returned (.bool x) ∧ W = w') := Lib.hid (fun W => by rw [hx]; exact hasSet_any F s W hF hs)
      have HY : Hid (∀ W, Calls Try.prog 108 #[.int .u64 F, .int .i64 t] W fun e w' => e = .returned (.bool y) ∧ W = w') := Lib.hid (fun W => by rw [hy]; exact hasSet_any F t W hF ht)
      have hb2 : (d && x && !y && lkF F s == prF t) = b := by
        have e1 : (s != 0) = true := by simp [hs0]
        have e2 : (t != 0) = true := by simp [ht0]
        rw [← hb, hd, hx, hy, e1, e2]; rfl
      have Hb := Lib.hid hb2
      have H0 := Lib.hid h0; have H1 := Lib.hid h1
      clear hb hb2 hd hx hy h0 h1
      cases d
      · have hbf : b = false := by rw [← Hb.out]; rfl
        subst hbf
        go_enter Try.func109, Try.ntmps109
        go_wp2_with (first | (go_at_call 112; (with_reducible refine (IsSet_is p s true _ H0.out).mono ?_); rintro e w' ⟨rfl, rfl⟩) | (go_at_call 112; (with_reducible refine (IsSet_is p t true _ H1.out).mono ?_); rintro e w' ⟨rfl, rfl⟩))
        go_ret
        exact ⟨rfl, (by repeat (first | exact Below.refl _ _ | assumption | refine Below.setCell ?_ (by first | omega | (simp; done) | (simp; omega)) _ | refine Below.alloc ?_ (by first | omega | (simp; done) | (simp; omega)) _ | apply Below.drew))⟩
      · cases x
        · have hbf : b = false := by rw [← Hb.out]; rfl
          subst hbf
          go_enter Try.func109, Try.ntmps109
          go_wp2_with (first | (go_at_call 112; (with_reducible refine (IsSet_is p s true _ H0.out).mono ?_); rintro e w' ⟨rfl, rfl⟩) | (go_at_call 112; (with_reducible refine (IsSet_is p t true _ H1.out).mono ?_); rintro e w' ⟨rfl, rfl⟩) | (go_at_call 108; (with_reducible refine (HX.out _).mono ?_); rintro e w' ⟨rfl, rfl⟩) | (go_at_call 108; (with_reducible refine (HY.out _).mono ?_); rintro e w' ⟨rfl, rfl⟩))
          go_ret
          exact ⟨rfl, (by repeat (first | exact Below.refl _ _ | assumption | refine Below.setCell ?_ (by first | omega | (simp; done) | (simp; omega)) _ | refine Below.alloc ?_ (by first | omega | (simp; done) | (simp; omega)) _ | apply Below.drew))⟩
        · cases y
          · have hand : Hid (bits .andNot .u64 ((fam fun y => sub y t : Nat) : Int) (2 ^ t) = ((prF t : Nat) : Int)) := Lib.hid (u64_noBit _ t (fam_Fam _) ht)
            have hsub := subsetFamily_any t
            obtain ⟨G, hG⟩ : ∃ G, G = fam fun y => sub y t := ⟨_, rfl⟩
            rw [← hG] at hand
            have HS : Hid (∀ W, Calls Try.prog 115 #[.int .i64 t] W fun e w' => e = .returned (.int .u64 G) ∧ W = w') := Lib.hid (fun W => by rw [hG]; exact subsetFamily_any t W ht)
            obtain ⟨R, hR⟩ : ∃ R, R = prF t := ⟨_, rfl⟩
            rw [← hR] at hand Hb
            obtain ⟨L, hL⟩ : ∃ L, L = lkF F s := ⟨_, rfl⟩
            rw [← hL] at Hb
            have HL := Lib.hid hL
            have hand2 := hand.out
            have hLR : Hid ((((L : Nat) : Int) == ((R : Nat) : Int)) = b) := Lib.hid (by rw [castBeq, ← Hb.out]; rfl)
            clear hsub hG hR hL
            go_enter Try.func109, Try.ntmps109
            go_wp2_with (first | (go_at_call 112; (with_reducible refine (IsSet_is p s true _ H0.out).mono ?_); rintro e w' ⟨rfl, rfl⟩) | (go_at_call 112; (with_reducible refine (IsSet_is p t true _ H1.out).mono ?_); rintro e w' ⟨rfl, rfl⟩) | (go_at_call 108; (with_reducible refine (HX.out _).mono ?_); rintro e w' ⟨rfl, rfl⟩) | (go_at_call 108; (with_reducible refine (HY.out _).mono ?_); rintro e w' ⟨rfl, rfl⟩))
            refine (linkIn_any F s _ hF hs).mono ?_
            rw [← HL.out]
            rintro e w1 ⟨rfl, hbl⟩
            have HB := Lib.hid hbl
            clear hbl
            go_wp2_with (go_at_call 115; (with_reducible refine (HS.out _).mono ?_); rintro e w' ⟨rfl, rfl⟩)
            go_ret
            exact ⟨ret_bool (by first | exact hLR.out | (rw [← hLR.out])), HB.out⟩
          · have hbf : b = false := by rw [← Hb.out]; rfl
            subst hbf
            go_enter Try.func109, Try.ntmps109
            go_wp2_with (first | (go_at_call 112; (with_reducible refine (IsSet_is p s true _ H0.out).mono ?_); rintro e w' ⟨rfl, rfl⟩) | (go_at_call 112; (with_reducible refine (IsSet_is p t true _ H1.out).mono ?_); rintro e w' ⟨rfl, rfl⟩) | (go_at_call 108; (with_reducible refine (HX.out _).mono ?_); rintro e w' ⟨rfl, rfl⟩) | (go_at_call 108; (with_reducible refine (HY.out _).mono ?_); rintro e w' ⟨rfl, rfl⟩))
            go_ret
            exact ⟨rfl, (by repeat (first | exact Below.refl _ _ | assumption | refine Below.setCell ?_ (by first | omega | (simp; done) | (simp; omega)) _ | refine Below.alloc ?_ (by first | omega | (simp; done) | (simp; omega)) _ | apply Below.drew))⟩
/-- the two sets may be flipped in a pure complex -/
def FlipQ (p : Int) (l : List Nat) (s t : Int) : Prop := ∃ u v : Nat, s = u ∧ t = v ∧ isSetB p s = true ∧ isSetB p t = true ∧ flipB l u v = true
theorem FlipQ.notS {p : Int} {l : List Nat} {s t : Int} (h : isSetB p s = false) : ¬ FlipQ p l s t := fun ⟨_, _, _, _, h1, _⟩ => by rw [h] at h1; cases h1
theorem FlipQ.notT {p : Int} {l : List Nat} {s t : Int} (h : isSetB p t = false) : ¬ FlipQ p l s t := fun ⟨_, _, _, _, _, h1, _⟩ => by rw [h] at h1; cases h1
theorem FlipQ.iff {p : Int} {l : List Nat} {u v : Nat} (h0 : isSetB p u = true) (h1 : isSetB p v = true) : FlipQ p l u v ↔ flipB l u v = true := by
  constructor
  · rintro ⟨u', v', h2, h3, _, _, h⟩
    obtain rfl : u = u' := by omega
    obtain rfl : v = v' := by omega
    exact h
  · intro h; exact ⟨u, v, rfl, rfl, h0, h1, h⟩
theorem flips_all (p : Int) (l : List Nat) (s t : Int) (w : World) (b : Bool) (hb : b = true ↔ FlipQ p l s t) :
    Calls Try.prog 109 #[.int .i64 p, .int .u64 (faceSet l), .int .i64 s, .int .i64 t] w fun e w' => e = .returned (.bool b) ∧ Below w.heap.size w w' := by
  cases h0 : isSetB p s
  · obtain rfl : b = false := by
      cases b
      · rfl
      · exact absurd (hb.1 rfl) (FlipQ.notS h0)
    exact flips_noS p _ s t w h0
  · cases h1 : isSetB p t
    · obtain rfl : b = false := by
        cases b
        · rfl
        · exact absurd (hb.1 rfl) (FlipQ.notT h1)
      exact flips_noT p _ s t w h0 h1
    · obtain ⟨_, u, _, rfl, _, _, hu⟩ := isSet_nat h0
      obtain ⟨_, v, _, rfl, _, _, hv⟩ := isSet_nat h1
      refine flips_yes p _ u v w (faceSet_Fam l) h0 h1 hu hv b ?_
      rw [flipFace hu hv, Bool.eq_iff_iff, hb]
      exact (FlipQ.iff h0 h1).symm
set_option maxRecDepth 100000 in
set_option maxHeartbeats 4000000 in
theorem iFlip_stop (p : Int) (a : Option Addr) (n c : Nat) (xs : List Int) (s t : Int) (w : World) (h : IntsAt w a n xs) (hP : ∀ W, IntsAt W a n xs → Calls Try.prog 107 #[.agg #[.int .i64 p, .slice a n c]] W fun e w' => e = .returned (.bool false) ∧ Below W.heap.size W w') :
    Calls Try.prog 60 #[.agg #[.int .i64 p, .slice a n c], .int .i64 s, .int .i64 t] w fun e w' => e = .returned (.bool false) ∧ Below w.heap.size w w' := by
  have hx : IntsAt (w.alloc (.cells #[.int .i64 p, .slice a n c] 26)) a n xs := h.keep (by repeat (first | exact Below.refl _ _ | assumption | refine Below.setCell ?_ (by first | omega | (simp; done) | (simp; omega)) _ | refine Below.alloc ?_ (by first | omega | (simp; done) | (simp; omega)) _ | apply Below.drew))
  have HP := Lib.hid hP
  have XA := Lib.hid (BoxF.new w (.int .i64 p) (.slice a n c) 26)
  have Hxd := Lib.hid (hx.keep (Below.drew (Below.refl _ _)))
  have XAd := Lib.hid XA.out.drew
  clear hx h hP
  go_enter Try.func60, Try.ntmps60
  go_wp2_with fail
  obtain ⟨p0, p1, _, _, _⟩ := XA.out
  first
    | go_region_with (go_at_call 107; (with_reducible refine (HP.out _ Hxd.out).mono ?_); rintro e w1 ⟨rfl, hb1⟩; have HB1 := Lib.hid hb1; have XA1 := Lib.hid (XAd.out.keep hb1 (by simp)); obtain ⟨y0, y1, _, _, _⟩ := XA1.out; clear hb1)
    | fail "the region"
  all_goals (go_wp2_with fail)
  all_goals go_ret
  all_goals exact ⟨rfl, Below.trans (by repeat (first | exact Below.refl _ _ | assumption | refine Below.setCell ?_ (by first | omega | (simp; done) | (simp; omega)) _ | refine Below.alloc ?_ (by first | omega | (simp; done) | (simp; omega)) _ | apply Below.drew)) (HB1.out.mono (by simp))⟩
theorem iFlip_no (p : Int) (a : Option Addr) (n c : Nat) (xs : List Int) (s t : Int) (w : World) (h : IntsAt w a n xs) (hcap : n ≤ c) (hno : ¬ Anti p xs) :
    Calls Try.prog 60 #[.agg #[.int .i64 p, .slice a n c], .int .i64 s, .int .i64 t] w fun e w' => e = .returned (.bool false) ∧ Below w.heap.size w w' :=
  iFlip_stop p a n c xs s t w h fun W hW => iPure_no p a n c xs W hW hcap hno
set_option maxRecDepth 100000 in
set_option maxHeartbeats 2000000 in
theorem iFlip_yes (p : Int) (a : Option Addr) (n c : Nat) (l : List Nat) (s t : Int) (w : World) (h : IntsAt w a n (up l)) (hcap : n ≤ c) (hA : Anti p (up l)) (hl : ∀ t ∈ l, t < 64) (b : Bool) (hb : b = true ↔ pureB l = true ∧ FlipQ p l s t) :
    Calls Try.prog 60 #[.agg #[.int .i64 p, .slice a n c], .int .i64 s, .int .i64 t] w fun e w' => e = .returned (.bool b) ∧ Below w.heap.size w w' := by
  have hx : IntsAt (w.alloc (.cells #[.int .i64 p, .slice a n c] 26)) a n (up l) := h.keep (by repeat (first | exact Below.refl _ _ | assumption | refine Below.setCell ?_ (by first | omega | (simp; done) | (simp; omega)) _ | refine Below.alloc ?_ (by first | omega | (simp; done) | (simp; omega)) _ | apply Below.drew))
  have Hx := Lib.hid hx; have Hcap := Lib.hid hcap; have HA := Lib.hid hA; have Hl := Lib.hid hl; have Hb := Lib.hid hb; have H0 := Lib.hid h
  have XA := Lib.hid (BoxF.new w (.int .i64 p) (.slice a n c) 26)
  clear hx h hcap hA hl hb
  obtain ⟨q, hq⟩ : ∃ q, pureB l = q := ⟨_, rfl⟩
  have Hq := Lib.hid hq
  clear hq
  obtain ⟨F, hF⟩ : ∃ F, F = faceSet l := ⟨_, rfl⟩
  have HF := Lib.hid hF
  clear hF
  cases q
  · obtain rfl : b = false := by
      cases b
      · rfl
      · have := (Hb.out.1 rfl).1; rw [Hq.out] at this; cases this
    exact iFlip_stop p a n c _ s t w H0.out fun W hW => iPure_yes p a n c l W hW Hcap.out HA.out Hl.out false Hq.out
  · have HFl : Hid (∀ W, Calls Try.prog 109 #[.int .i64 p, .int .u64 F, .int .i64 s, .int .i64 t] W fun e w' => e = .returned (.bool b) ∧ Below W.heap.size W w') := Lib.hid (fun W => by rw [HF.out]; exact flips_all p l s t W b (by rw [Hb.out]; simp [Hq.out]))
    have HFc : Hid (∀ W, IntsAt W a n (up l) → Calls Try.prog 88 #[.agg #[.int .i64 p, .slice a n c]] W fun e w' => e = .returned (.int .u64 F) ∧ Below W.heap.size W w') := Lib.hid (fun W hW => by rw [HF.out]; exact facesIn_any p a n c l W hW Hl.out)
    clear HF
    go_enter Try.func60, Try.ntmps60
    go_wp2_with fail
    obtain ⟨p0, p1, _, _, _⟩ := XA.out
    go_cut [6] (fun v W => v = .bool b ∧ Below w.heap.size w W)
    case first =>
      have Hxd := Lib.hid (Hx.out.keep (Below.drew (Below.refl _ _)))
      have XAd := Lib.hid XA.out.drew
      go_region_held3 (fun W => W.cell? ⟨w.heap.size, 0, none⟩ = some (.int .i64 p) ∧ W.cell? ⟨w.heap.size, 1, none⟩ = some (.slice a n c)) (first | exact ⟨p0, p1⟩ | exact ⟨z0, z1⟩ | exact ⟨y0, y1⟩ | go_keep) (first
        | (go_simp; go_at_call 107; (with_reducible refine (iPure_yes p a n c l _ Hxd.out Hcap.out HA.out Hl.out true Hq.out).mono ?_); rintro e w1 ⟨rfl, hb1⟩; have HB1 := Lib.hid hb1; have XA1 := Lib.hid (XAd.out.keep hb1 (by simp)); obtain ⟨y0, y1, _, _, _⟩ := XA1.out; have Hx1 := Lib.hid (Hxd.out.keep hb1); clear hb1)
        | (go_simp; go_at_call 88; (with_reducible refine (HFc.out _ Hx1.out).mono ?_); rintro e w2 ⟨rfl, hb2⟩; have HB2 := Lib.hid (HB1.out.trans (hb2.mono HB1.out.size)); have XA2 := Lib.hid (XAd.out.keep HB2.out (by simp)); obtain ⟨z0, z1, _, _, _⟩ := XA2.out; clear hb2)
        | (go_simp; go_at_call 109; (with_reducible refine (HFl.out _).mono ?_); rintro e w3 ⟨rfl, hb3⟩; have HB3 := Lib.hid (HB2.out.trans (hb3.mono HB2.out.size)); have XA3 := Lib.hid (XAd.out.keep HB3.out (by simp)); obtain ⟨z0, z1, _, _, _⟩ := XA3.out; clear hb3))
      all_goals (go_wp2_with fail; go_meet)
      all_goals exact ⟨rfl, Below.trans (by repeat (first | exact Below.refl _ _ | assumption | refine Below.setCell ?_ (by first | omega | (simp; done) | (simp; omega)) _ | refine Below.alloc ?_ (by first | omega | (simp; done) | (simp; omega)) _ | apply Below.drew)) (HB3.out.mono (by simp))⟩
    case rest =>
      obtain ⟨rfl, hbc⟩ := hcut
      have HBc := Lib.hid hbc
      clear hbc
      go_wp2_with fail
      go_ret
      exact ⟨rfl, HBc.out⟩
end Go.Proofs.Ytbdnlncpamandaa

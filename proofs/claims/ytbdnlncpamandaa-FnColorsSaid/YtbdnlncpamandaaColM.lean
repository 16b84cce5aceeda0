/- Texts of this claim, one behind the other: what each says stands at its head. -/
import Derived.Test.YtbdnlncpamandaaBase
import Derived.Test.YtbdnlncpamandaaColor5
/- Plain laws of the colour counts: a set's colours, the tally of a list by a mark below 64, and the alternating sums over subsets in two orders. -/
namespace Go.Proofs.Ytbdnlncpamandaa
set_option maxRecDepth 20000
open Go.RowKit
set_option linter.unusedSimpArgs false
set_option linter.unusedVariables false

/-- the colours of the points of s below k -/
def rcTo (cs : List Int) (s : Nat) : Nat → Nat
  | 0 => 0
  | k + 1 => if s.testBit k then rcTo cs s k ||| 2 ^ (nth cs k).toNat else rcTo cs s k
theorem rcTo_yes {cs : List Int} {s k : Nat} (h : s.testBit k = true) : rcTo cs s (k + 1) = rcTo cs s k ||| 2 ^ (nth cs k).toNat := by simp [rcTo, h]
theorem rcTo_no {cs : List Int} {s k : Nat} (h : s.testBit k = false) : rcTo cs s (k + 1) = rcTo cs s k := by simp [rcTo, h]
theorem rcTo_lt {cs : List Int} (h : ∀ i, i < cs.length → 0 ≤ nth cs i ∧ nth cs i ≤ 5) (s : Nat) : ∀ k, k ≤ cs.length → rcTo cs s k < 64 := by
  intro k
  induction k with
  | zero => intro _; unfold rcTo; omega
  | succ k ih =>
    intro hk
    have h1 := h k (by omega)
    cases hb : s.testBit k with
    | true => rw [rcTo_yes hb]; exact or_lt64 (ih (by omega)) (bit_lt64 (by omega))
    | false => rw [rcTo_no hb]; exact ih (by omega)
/-- the colours of a set -/
def rcOf (cs : List Int) (s : Nat) : Nat := rcTo cs s cs.length

/-- how often each mark below 64 occurs -/
def tly (g : Nat → Nat) (L : List Nat) : List Nat := (List.range 64).map fun v => (L.filter fun s => g s == v).length
theorem tly_len (g : Nat → Nat) (L : List Nat) : (tly g L).length = 64 := by simp [tly]
theorem tly_nil (g : Nat → Nat) : tly g [] = List.replicate 64 0 := by kernel_rfl
theorem tly_at {g : Nat → Nat} {L : List Nat} {k : Nat} (hk : k < 64) : nthN (tly g L) k = (L.filter fun s => g s == k).length := by
  rw [nthN_eq (by rw [tly_len]; exact hk)]
  simp [tly]
theorem tly_le {g : Nat → Nat} {L : List Nat} (hL : L.length ≤ 64) (k : Nat) : nthN (tly g L) k ≤ 64 := by
  by_cases hk : k < 64
  · rw [tly_at hk]; exact Nat.le_trans (List.length_filter_le _ _) hL
  · have : nthN (tly g L) k = 0 := by
      unfold nthN
      rw [List.getD_eq_getElem?_getD, List.getElem?_eq_none (by rw [tly_len]; omega)]; rfl
    omega
theorem tly_add {g : Nat → Nat} {L : List Nat} {u : Nat} (hu : g u < 64) : (tly g L).set (g u) (nthN (tly g L) (g u) + 1) = tly g (L ++ [u]) := by
  apply List.ext_getElem (by simp [tly])
  intro i h1 h2
  rw [List.getElem_set]
  by_cases hi : g u = i
  · subst hi
    rw [if_pos rfl, tly_at hu]
    simp [tly, List.filter_append]
  · rw [if_neg hi]
    have : (g u == i) = false := by simp; exact hi
    simp [tly, List.filter_append, this]
theorem up_set (L : List Nat) (i v : Nat) : (up L).set i ((v : Nat) : Int) = up (L.set i v) := by unfold up; rw [List.map_set]

/-- the colour counts of a complex -/
def colC (l : List Nat) (cs : List Int) : List Nat := tly (rcOf cs) (ord (isFace l))

/-! ### The alternating sums -/
/-- f at t with the sign of what s has besides t -/
def alt (f : List Nat) (s t : Nat) : Int := if sz (sdiff s t) % 2 = 1 then -(nthN f t : Int) else (nthN f t : Int)
theorem alt_bd {f : List Nat} (hf : ∀ k, nthN f k ≤ 64) (s t : Nat) : -64 ≤ alt f s t ∧ alt f s t ≤ 64 := by
  have := hf t
  unfold alt; split <;> omega
def altSum (f : List Nat) (s : Nat) (L : List Nat) : Int := (L.map (alt f s)).sum
theorem altSum_snoc (f : List Nat) (s : Nat) (L : List Nat) (t : Nat) : altSum f s (L ++ [t]) = altSum f s L + alt f s t := by unfold altSum; simp
theorem altSum_bd {f : List Nat} (hf : ∀ k, nthN f k ≤ 64) (s : Nat) (L : List Nat) : -(64 * (L.length : Int)) ≤ altSum f s L ∧ altSum f s L ≤ 64 * (L.length : Int) := by
  induction L with
  | nil => simp [altSum]
  | cons x L ih =>
    have := alt_bd hf s x
    have e : altSum f s (x :: L) = alt f s x + altSum f s L := by unfold altSum; simp
    rw [e, List.length_cons]
    omega
theorem altSum_perm {f : List Nat} {s : Nat} {L M : List Nat} (h : L.Perm M) : altSum f s L = altSum f s M := by
  unfold altSum
  induction h with
  | nil => rfl
  | cons x _ ih => simp only [List.map_cons, List.sum_cons, ih]
  | swap x y l => simp only [List.map_cons, List.sum_cons]; omega
  | trans _ _ ih1 ih2 => rw [ih1, ih2]
/-- the subsets of s below k -/
def lowTo (s k : Nat) : List Nat := (List.range k).filter fun t => sub t s
theorem lowTo_yes {s k : Nat} (h : sub k s = true) : lowTo s (k + 1) = lowTo s k ++ [k] := by unfold lowTo; rw [List.range_succ, List.filter_append]; simp [h]
theorem lowTo_no {s k : Nat} (h : sub k s = false) : lowTo s (k + 1) = lowTo s k := by unfold lowTo; rw [List.range_succ, List.filter_append]; simp [h]
theorem lowTo_len (s k : Nat) : (lowTo s k).length ≤ k := by unfold lowTo; exact Nat.le_trans (List.length_filter_le _ _) (by simp)
theorem ord_low_all : ((List.range 64).all fun s => (ord fun t => sub t s).isPerm (lowTo s (s + 1))) = true := by decide +kernel
theorem ord_low {s : Nat} (hs : s < 64) : (ord fun t => sub t s).Perm (lowTo s (s + 1)) := List.isPerm_iff.1 (List.all_eq_true.1 ord_low_all s (List.mem_range.2 hs))
/-- the numbers of ColorH for the sets below k -/
def chTo (f : List Nat) (k : Nat) : List Int := (List.range k).map fun s => altSum f s (lowTo s (s + 1))
theorem chTo_succ (f : List Nat) (k : Nat) : chTo f (k + 1) = chTo f k ++ [altSum f k (lowTo k (k + 1))] := by unfold chTo; rw [List.range_succ, List.map_append]; rfl
theorem chTo_len (f : List Nat) (k : Nat) : (chTo f k).length = k := by simp [chTo]
/-- the row of 64 while the program fills it: done below k, 0 behind -/
def chRow (f : List Nat) (k : Nat) : List Int := (List.range 64).map fun s => if s < k then altSum f s (lowTo s (s + 1)) else 0
theorem chRow_len (f : List Nat) (k : Nat) : (chRow f k).length = 64 := by simp [chRow]
theorem chRow_zero (f : List Nat) : chRow f 0 = List.replicate 64 0 := by kernel_rfl
theorem chRow_all (f : List Nat) : chRow f 64 = chTo f 64 := by
  unfold chRow chTo
  exact List.map_congr_left fun s hs => by rw [if_pos (List.mem_range.1 hs)]
/-- .. and with a value at k -/
def chAt (f : List Nat) (k : Nat) (v : Int) : List Int := (chRow f k).set k v
theorem chAt_zero {f : List Nat} {k : Nat} (hk : k < 64) : chAt f k 0 = chRow f k := by
  unfold chAt
  apply List.ext_getElem (by simp)
  intro i h1 h2
  rw [List.getElem_set]
  split
  · rename_i h; subst h; simp [chRow]
  · rfl
theorem chAt_nth {f : List Nat} {k : Nat} {v : Int} (hk : k < 64) : nth (chAt f k v) k = v := by
  rw [nth_eq (by unfold chAt; rw [List.length_set, chRow_len]; exact hk)]
  unfold chAt; simp
theorem chAt_set (f : List Nat) (k : Nat) (v u : Int) : (chAt f k v).set k u = chAt f k u := by unfold chAt; simp
theorem chAt_done {f : List Nat} {k : Nat} (hk : k < 64) : chAt f k (altSum f k (lowTo k (k + 1))) = chRow f (k + 1) := by
  unfold chAt
  apply List.ext_getElem (by simp [chRow])
  intro i h1 h2
  rw [List.getElem_set]
  simp only [chRow, List.getElem_map, List.getElem_range]
  by_cases h : k = i
  · subst h; rw [if_pos rfl, if_pos (by omega)]
  · rw [if_neg h]
    by_cases h2 : i < k
    · rw [if_pos h2, if_pos (by omega)]
    · rw [if_neg h2, if_neg (by omega)]
end Go.Proofs.Ytbdnlncpamandaa

/- Contracts of ColorCounts, the program's and the reference's. -/
namespace Go.Proofs.Ytbdnlncpamandaa
set_option maxRecDepth 20000
open Go.RowKit
set_option linter.unusedSimpArgs false
set_option linter.unusedVariables false

theorem nat_col {x : Int} (h : 0 ≤ x ∧ x ≤ 5) : ∃ X : Nat, x = X ∧ X ≤ 5 := ⟨x.toNat, by omega, by omega⟩
theorem renamed_any (s : Nat) (a : Option Addr) (n c : Nat) (cs : List Int) (w : World) (h : IntsAt w a n cs) (hs : s < 64) (hn : n ≤ 6) (hc : ∀ i, i < cs.length → 0 ≤ nth cs i ∧ nth cs i ≤ 5) :
    Calls Try.prog 63 #[.int .i64 s, .slice a n c] w fun e w' => e = .returned (.int .i64 (rcOf cs s)) ∧ w = w' := by
  have hlen := h.len
  have HR : Hid (rcOf cs s = rcTo cs s n) := Lib.hid (by unfold rcOf; rw [hlen])
  have Hlt : Hid (∀ k, k ≤ n → rcTo cs s k < 64) := Lib.hid fun k hk => rcTo_lt hc s k (by rw [hlen]; exact hk)
  have Hc := Lib.hid hc; have Hx := Lib.hid h; have Hlen := Lib.hid hlen
  clear h hc hlen
  go_enter Try.func63, Try.ntmps63
  go_wp2_with fail
  go_loop [5, 6, 7, 10] (fun r _ _ i => ∃ I R : Nat, I ≤ n ∧ i = .int .i64 I ∧ r = .int .i64 R ∧ R < 64 ∧ Hid (R = rcTo cs s I)) (fun _ _ _ i => n - (intOf i).toNat)
  case atStart => exact ⟨0, 0, Nat.zero_le _, rfl, rfl, by omega, Lib.hid rfl⟩
  case round =>
    obtain ⟨I, R, hI, rfl, rfl, hR, hRe⟩ := hrel
    by_cases hlt : I < n
    · obtain ⟨b1, o1, rfl, hc⟩ := Hx.out.cells (by omega)
      have hck := hc I hlt
      obtain ⟨X, hX, hX5⟩ := nat_col (Hc.out I (by rw [Hlen.out]; exact hlt))
      rw [hX] at hck
      have HX : Hid ((nth cs I).toNat = X) := Lib.hid (by omega)
      have hI0 : (0 : Int) ≤ I := by omega
      have hIn : (I : Int) < n := by omega
      have hwI : IntKind.u64.wrap (I : Int) = (I : Int) := by rw [IntKind.wrap_u64]; omega
      have hmI : min I 64 = I := by omega
      have hwX : IntKind.u64.wrap (X : Int) = (X : Int) := by rw [IntKind.wrap_u64]; omega
      have hmX : min X 64 = X := by omega
      have hX6 : X < 6 := by omega
      have hX8 : X < 8 := by omega
      clear hc hX
      cases hbit : s.testBit I
      · have hbv := bitv_no hs hbit
        have Hno := Lib.hid (rcTo_no (cs := cs) hbit)
        clear hbit
        go_wp2_with fail
        go_round
        case rel => exact ⟨I + 1, R, by omega, by go_num, rfl, hR, Lib.hid (by rw [Hno.out]; exact hRe.out)⟩
        case measure => simp [intOf]; omega
      · have hbv := bitv_yes hs hbit
        have Hyes := Lib.hid (rcTo_yes (cs := cs) hbit)
        have hor := w_or6bit R X hR hX6
        have hlt64 := or_lt64 hR (bit_lt64 hX6)
        clear hbit
        go_wp2_with fail
        go_round
        case rel => exact ⟨I + 1, R ||| 2 ^ X, by omega, by go_num, by go_num, hlt64, Lib.hid (by rw [Hyes.out, HX.out, hRe.out])⟩
        case measure => simp [intOf]; omega
    · obtain rfl : I = n := by omega
      go_wp2_with fail
      go_ret
      exact ⟨ret_int (by rw [HR.out, hRe.out]), rfl⟩

theorem iColC_no (p : Int) (a : Option Addr) (n c : Nat) (xs : List Int) (a' : Option Addr) (n' c' : Nat) (cs : List Int) (w : World) (h : IntsAt w a n xs) (h' : IntsAt w a' n' cs) (hF : ∀ W, IntsAt W a n xs → IntsAt W a' n' cs → Calls Try.prog 21 #[.agg #[.int .i64 p, .slice a n c], .slice a' n' c'] W fun e w' => e = .returned (.bool false) ∧ Below W.heap.size W w') :
    Calls Try.prog 8 #[.agg #[.int .i64 p, .slice a n c], .slice a' n' c'] w (RetInts w []) := by
  have hx : IntsAt (w.alloc (.cells #[.int .i64 p, .slice a n c] 26)) a n xs := h.keep (by repeat (first | exact Below.refl _ _ | assumption | refine Below.setCell ?_ (by first | omega | (simp; done) | (simp; omega)) _ | refine Below.alloc ?_ (by first | omega | (simp; done) | (simp; omega)) _ | apply Below.drew))
  have hy : IntsAt (w.alloc (.cells #[.int .i64 p, .slice a n c] 26)) a' n' cs := h'.keep (by repeat (first | exact Below.refl _ _ | assumption | refine Below.setCell ?_ (by first | omega | (simp; done) | (simp; omega)) _ | refine Below.alloc ?_ (by first | omega | (simp; done) | (simp; omega)) _ | apply Below.drew))
  have Hx := Lib.hid hx; have Hy := Lib.hid hy; have HF := Lib.hid hF
  clear hx hy h h' hF
  go_enter Try.func8, Try.ntmps8
  go_wp2_with fail
  refine (HF.out _ Hx.out Hy.out).mono ?_
  rintro e w1 ⟨rfl, hb⟩
  have HB : Hid (Below w.heap.size w w1) := Lib.hid (Below.trans (by repeat (first | exact Below.refl _ _ | assumption | refine Below.setCell ?_ (by first | omega | (simp; done) | (simp; omega)) _ | refine Below.alloc ?_ (by first | omega | (simp; done) | (simp; omega)) _ | apply Below.drew)) (hb.mono (by simp <;> omega)))
  clear hb
  go_wp2_with fail
  go_ret
  exact ⟨none, 0, 0, rfl, Own.nil _ _ _, HB.out⟩
set_option maxRecDepth 100000 in
set_option maxHeartbeats 1000000 in
theorem iColC_yes (m : Nat) (a : Option Addr) (n c : Nat) (l : List Nat) (a' : Option Addr) (n' c' : Nat) (cs : List Int) (w : World) (h : IntsAt w a n (up l)) (h' : IntsAt w a' n' cs) (hcap : n ≤ c) (hm : m ≤ 6) (hA : Anti m (up l)) (hl : ∀ t ∈ l, t < 64) (hQ : ColsP m cs) (hF : ∀ W, IntsAt W a n (up l) → IntsAt W a' n' cs → Calls Try.prog 21 #[.agg #[.int .i64 m, .slice a n c], .slice a' n' c'] W fun e w' => e = .returned (.bool true) ∧ Below W.heap.size W w') :
    Calls Try.prog 8 #[.agg #[.int .i64 m, .slice a n c], .slice a' n' c'] w (RetInts w (up (colC l cs))) := by
  have hx : IntsAt (w.alloc (.cells #[.int .i64 m, .slice a n c] 26)) a n (up l) := h.keep (by repeat (first | exact Below.refl _ _ | assumption | refine Below.setCell ?_ (by first | omega | (simp; done) | (simp; omega)) _ | refine Below.alloc ?_ (by first | omega | (simp; done) | (simp; omega)) _ | apply Below.drew))
  have hy : IntsAt (w.alloc (.cells #[.int .i64 m, .slice a n c] 26)) a' n' cs := h'.keep (by repeat (first | exact Below.refl _ _ | assumption | refine Below.setCell ?_ (by first | omega | (simp; done) | (simp; omega)) _ | refine Below.alloc ?_ (by first | omega | (simp; done) | (simp; omega)) _ | apply Below.drew))
  have hn6 : n' ≤ 6 := by have := h'.len; have := hQ.1; omega
  have Hx := Lib.hid hx; have Hy := Lib.hid hy; have HF := Lib.hid hF; have Hcap := Lib.hid hcap; have HA := Lib.hid hA; have Hl := Lib.hid hl; have HQ := Lib.hid hQ
  have XA := Lib.hid (BoxF.new w (.int .i64 m) (.slice a n c) 26)
  obtain ⟨D, hD⟩ : ∃ D, D = ord (isFace l) := ⟨_, rfl⟩
  have HDn : Hid (D.length ≤ 64) := Lib.hid (by rw [hD]; exact ord_len _)
  have HD64 : Hid (∀ x ∈ D, x < 64) := Lib.hid (by rw [hD]; exact ord_lt)
  have HD := Lib.hid hD
  have HC : Hid (colC l cs = tly (rcOf cs) D) := Lib.hid (by rw [hD]; rfl)
  have Hg64 : Hid (∀ s, rcOf cs s < 64) := Lib.hid fun s => rcTo_lt hQ.2 s _ (Nat.le_refl _)
  clear hx hy h h' hF hcap hA hl hQ hD
  go_enter Try.func8, Try.ntmps8
  go_wp2_with fail
  refine (HF.out _ Hx.out Hy.out).mono ?_
  rintro e w1 ⟨rfl, hb⟩
  have HB : Hid (Below w.heap.size w w1) := Lib.hid (Below.trans (by repeat (first | exact Below.refl _ _ | assumption | refine Below.setCell ?_ (by first | omega | (simp; done) | (simp; omega)) _ | refine Below.alloc ?_ (by first | omega | (simp; done) | (simp; omega)) _ | apply Below.drew)) (hb.mono (by simp <;> omega)))
  have XA1 := Lib.hid (XA.out.keep hb (by simp)); have Hx1 := Lib.hid (Hx.out.keep hb); have Hy1 := Lib.hid (Hy.out.keep hb)
  have hz : w.heap.size + 1 ≤ w1.heap.size := by have := hb.size; simp at this; omega
  clear hb
  go_wp2_with (at_make; refine mk_ints rfl _ _ rfl _ rfl rfl 64 rfl (by omega) ?_; intro g w2 hown2 hb2; have HO2 := Lib.hid hown2; have HB2 := Lib.hid hb2; obtain ⟨p0, p1, _, _, _⟩ := XA1.out.keep hb2 (by omega); clear hown2 hb2)
  have Hx2 := Lib.hid (Hx1.out.keep HB2.out); have Hy2 := Lib.hid (Hy1.out.keep HB2.out)
  have hgB := HO2.out.lt g rfl
  refine (iFacesOf_yes m a n c l _ Hx2.out Hcap.out HA.out Hl.out).mono ?_
  rw [← HD.out]
  rintro e w3 ⟨ad, k, d, rfl, hown, hb⟩
  have HO3 := Lib.hid (HO2.out.keep hb)
  have HB3 := Lib.hid (HB2.out.trans (hb.mono HB2.out.size))
  have Hy3 := Lib.hid (Hy2.out.keep hb)
  have hdl : D.length = k := by have := hown.len; rwa [up_len] at this
  have Hdl := Lib.hid hdl
  have HX := Lib.hid hown
  have hne : ad ≠ some ⟨g, 0, none⟩ := fun e => by subst e; have := hown.lt g rfl; omega
  have Hne := Lib.hid hne
  have hk64 : k ≤ 64 := by have := HDn.out; omega
  clear hb hown hne hdl p0 p1
  go_wp2_with fail
  go_loopw [7, 16] (fun _ i wr => ∃ I : Nat, I ≤ k ∧ i = .int .i64 I ∧ Below w1.heap.size w1 wr ∧ Own 3 wr w1.heap.size (some ⟨g, 0, none⟩) 64 64 (up (tly (rcOf cs) (D.take I))) ∧ Own 3 wr w2.heap.size ad k d (up D)) (fun _ i _ => k - (intOf i).toNat)
  case atStart => exact ⟨0, Nat.zero_le _, rfl, HB3.out, by rw [List.take_zero, tly_nil]; exact HO3.out, HX.out⟩
  case round =>
    obtain ⟨I, hI, rfl, hbr, hor, hxr⟩ := hrel
    have HBr := Lib.hid hbr; have HOr := Lib.hid hor; have HXr := Lib.hid hxr
    have Hyr := Lib.hid (Hy1.out.keep hbr)
    clear hbr hor hxr
    by_cases hlt : I < k
    · obtain ⟨b1, o1, had, hcc⟩ := HXr.out.reads.cells (by omega)
      subst had
      have hck := hcc I hlt
      rw [nth_up] at hck
      have hu64 := HD64.out _ (nthN_mem (xs := D) (k := I) (by rw [Hdl.out]; exact hlt))
      have htk := nthN_take D I (by rw [Hdl.out]; exact hlt)
      obtain ⟨u, hu⟩ : ∃ u, u = nthN D I := ⟨_, rfl⟩
      rw [← hu] at hck hu64 htk
      have hg := Hg64.out u
      have hadd := tly_add (g := rcOf cs) (L := D.take I) (u := u) hg
      rw [← htk] at hadd
      have hren := fun W hW => renamed_any u a' n' c' cs W hW hu64 hn6 HQ.out.2
      obtain ⟨t, ht⟩ : ∃ t, t = rcOf cs u := ⟨_, rfl⟩
      rw [← ht] at hg hadd hren
      have Hren := Lib.hid hren
      have hle := tly_le (g := rcOf cs) (L := D.take I) (by rw [List.length_take]; omega) t
      have hcg := HOr.out.reads.cellAt t (by omega)
      rw [nth_up, Nat.zero_add] at hcg
      have hfro : wr.frozen? ⟨g, t, none⟩ = false := by
        obtain ⟨g', hg', _, _, _, hf⟩ := Row.cells HOr.out (by omega)
        cases hg'; exact hf t
      obtain ⟨v, hv⟩ : ∃ v, v = nthN (tly (rcOf cs) (D.take I)) t := ⟨_, rfl⟩
      rw [← hv] at hcg hle hadd
      have Hadd := Lib.hid hadd
      have ht0 : (0 : Int) ≤ t := by omega
      have ht64 : (t : Int) < 64 := by omega
      have hI0 : (0 : Int) ≤ I := by omega
      have hIn : (I : Int) < k := by omega
      have hwadd : IntKind.i64.wrap ((v : Int) + 1) = (v : Int) + 1 := by rw [IntKind.wrap_i64]; omega
      have HO5 : Hid (Own 3 (wr.setCell ⟨g, t, none⟩ (.int .i64 ((v : Int) + 1))) w1.heap.size (some ⟨g, 0, none⟩) 64 64 (up (tly (rcOf cs) (D.take (I + 1))))) := Lib.hid (by
        have := HOr.out.set t (((v + 1 : Nat)) : Int)
        rw [up_set, Hadd.out] at this
        exact this)
      have HX5 := Lib.hid (HXr.out.setOther (g := g) (i := t) (.int .i64 ((v : Int) + 1)) Hne.out)
      have HB5 := Lib.hid (HBr.out.setCell (p := ⟨g, t, none⟩) (by simp; omega) (.int .i64 ((v : Int) + 1)))
      clear hcc hu htk hadd hren ht hv
      go_wp2_with (go_at_call 63; (with_reducible refine (Hren.out _ Hyr.out).mono ?_); rintro e w' ⟨rfl, rfl⟩)
      go_roundw
      case rel => exact ⟨I + 1, by omega, by go_num, HB5.out, HO5.out, HX5.out⟩
      case measure => simp [intOf]; omega
    · obtain rfl : I = k := by omega
      have HOf : Hid (Own 3 wr w1.heap.size (some ⟨g, 0, none⟩) 64 64 (up (tly (rcOf cs) D))) := Lib.hid (by have := HOr.out; rw [← Hdl.out, List.take_length] at this; exact this)
      go_wp2_with fail
      go_ret
      exact ⟨_, 64, 64, rfl, by rw [HC.out]; exact HOf.out.mono (by omega), HB.out.trans (HBr.out.mono (by omega))⟩
end Go.Proofs.Ytbdnlncpamandaa

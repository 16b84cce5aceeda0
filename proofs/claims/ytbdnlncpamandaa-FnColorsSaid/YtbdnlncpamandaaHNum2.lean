/- Texts of this claim, one behind the other: what each says stands at its head. -/
import Derived.Test.YtbdnlncpamandaaCore
import Derived.Test.YtbdnlncpamandaaCounts3
import Derived.Test.YtbdnlncpamandaaHelp
import Derived.Test.YtbdnlncpamandaaLeft
/- Contracts of HNumbers, the program's and the reference's. -/
namespace Go.Proofs.Ytbdnlncpamandaa
set_option maxRecDepth 20000
open Go.RowKit
set_option linter.unusedSimpArgs false
set_option linter.unusedVariables false

set_option maxRecDepth 100000 in
set_option maxHeartbeats 2000000 in
theorem sH_any (p : Int) (a : Option Addr) (n c : Nat) (xs : List Int) (f : List Nat) (w : World) (h : IntsAt w a n xs) (hC : Cnts p xs f) :
    Calls Try.prog 28 #[.agg #[.int .i64 p, .slice a n c]] w (RetInts w (hOf f)) := by
  have hx : IntsAt ((w.alloc (.cells #[.int .i64 p, .slice a n c] 26)).alloc (.cells #[] 3)) a n xs := h.keep (by repeat (first | exact Below.refl _ _ | assumption | refine Below.setCell ?_ (by first | omega | (simp; done) | (simp; omega)) _ | refine Below.alloc ?_ (by first | omega | (simp; done) | (simp; omega)) _ | apply Below.drew))
  have Hx := Lib.hid hx; have HC := Lib.hid hC
  have Hf := Lib.hid hC.le
  have hl := hC.len
  clear hx h hC
  obtain ⟨V, hV⟩ : ∃ V, V = hOf f := ⟨_, rfl⟩
  rw [← hV]
  have HV := Lib.hid hV
  clear hV
  go_enter Try.func28, Try.ntmps28
  go_wp2_with fail
  refine (sCounts_any p a n c xs f _ Hx.out HC.out).mono ?_
  rintro e w1 ⟨ad0, m, d, rfl, hown, hb⟩
  have HO0 : Hid (Own 3 w1 w.heap.size (some ⟨w.heap.size + 1, 0, none⟩) 0 0 []) := Lib.hid (by
    have := (Own.empty 3 (w.alloc (.cells #[.int .i64 p, .slice a n c] 26)) w.heap.size (by simp)).keep hb
    simp only [World.size_alloc] at this; exact this)
  have HB : Hid (Below w.heap.size w w1) := Lib.hid (Below.trans (by repeat (first | exact Below.refl _ _ | assumption | refine Below.setCell ?_ (by first | omega | (simp; done) | (simp; omega)) _ | refine Below.alloc ?_ (by first | omega | (simp; done) | (simp; omega)) _ | apply Below.drew)) (hb.mono (by simp <;> omega)))
  have hz1 : w.heap.size ≤ w1.heap.size := HB.out.size
  have hfar : w.heap.size + 2 ≤ w1.heap.size := by have := hb.size; simpa using this
  have hfl : f.length = m := by have := hown.len; rwa [up_len] at this
  have Hfl := Lib.hid hfl
  have hlo : Hid (∀ k, (Value.slice ad0 m d).ownBlock = some k → w.heap.size + 2 ≤ k) := Lib.hid (fun k hk => by have := (hown.lt k hk).1; simpa using this)
  have hlt1 : Hid (∀ k, (Value.slice ad0 m d).ownBlock = some k → k < w1.heap.size) := Lib.hid (fun k hk => (hown.lt k hk).2)
  have HX := Lib.hid (hown.mono (show w.heap.size ≤ _ by simp; omega))
  rw [hfl] at hl
  clear hb hown hfl
  rcases Nat.eq_zero_or_pos m with h0 | h0
  · subst h0
    have hv : V = [] := by rw [HV.out]; exact List.eq_nil_of_length_eq_zero (by rw [hOf_len]; exact Hfl.out)
    subst hv
    go_wp2_with fail
    go_loopw [3, 6] (fun o i wr => o = .slice (some ⟨w.heap.size + 1, 0, none⟩) 0 0 ∧ i = .int .i64 0 ∧ Below w1.heap.size w1 wr) (fun _ _ _ => 0)
    case atStart => exact ⟨rfl, rfl, Below.refl _ _⟩
    case round =>
      obtain ⟨rfl, rfl, hbr⟩ := hrel
      have HBr := Lib.hid hbr; clear hbr
      go_wp2_with fail
      go_ret
      exact ⟨_, 0, 0, rfl, HO0.out.keep HBr.out, HB.out.trans (HBr.out.mono hz1)⟩
  · obtain ⟨D, rfl⟩ : ∃ D, m = D + 1 := ⟨m - 1, by omega⟩
    have hD6 : D ≤ 6 := by omega
    have hd1 : ((D + 1 : Nat) : Int) - 1 = (D : Int) := by omega
    have hd2 : (D : Int) + 1 - 1 = (D : Int) := by omega
    have Hv : Hid (V = hTo f D (D + 1)) := Lib.hid (by rw [HV.out]; unfold hOf; rw [Hfl.out]; rfl)
    clear h0 HV
    go_wp2_with fail
    go_loopw [3, 6, 7, 8] (fun o k _ _ wr => ∃ K : Nat, K ≤ D + 1 ∧ k = .int .i64 K ∧ Below w.heap.size w wr ∧ w1.heap.size ≤ wr.heap.size ∧ Own 3 wr w.heap.size ad0 (D + 1) d (up f) ∧ ∃ ad c, o = .slice ad K c ∧ Own 3 wr w.heap.size ad K c (hTo f D K) ∧ (∀ b, ad = some b → b.block = w.heap.size + 1 ∨ w1.heap.size ≤ b.block)) (fun _ k _ _ _ => D + 1 - (intOf k).toNat)
    case atStart => exact ⟨0, Nat.zero_le _, rfl, HB.out, Nat.le_refl _, HX.out, _, 0, rfl, HO0.out, fun b hb => .inl (by cases hb; rfl)⟩
    case round =>
      obtain ⟨K, hK, rfl, hbr, hzr, hxr, ad, c, rfl, hown, hloc⟩ := hrel
      obtain ⟨wo, rfl⟩ : ∃ x : World, x = wr := ⟨_, rfl⟩
      have HBr := Lib.hid hbr; have HO := Lib.hid hown
      have HXr := Lib.hid hxr
      have Hloc := Lib.hid hloc
      clear hbr hown hxr hloc
      by_cases hlt : K ≤ D
      · have hlt' : (K : Int) ≤ D := by omega
        go_wp2_with fail
        go_loopw [7, 8] (fun s i wr => ∃ (I : Nat) (S : Int), I ≤ K + 1 ∧ i = .int .i64 I ∧ s = .int .i64 S ∧ Hid (S = hs f D K I) ∧ Below wo.heap.size wo wr) (fun _ i _ => K + 1 - (intOf i).toNat)
        case atStart => exact ⟨0, 0, Nat.zero_le _, rfl, rfl, Lib.hid rfl, Below.refl _ _⟩
        case round =>
          obtain ⟨I, S, hI, rfl, rfl, hS, hbi⟩ := hrel
          have HBi := Lib.hid hbi
          have HXi := Lib.hid (HXr.out.keep hbi)
          have HOi := Lib.hid (HO.out.keep hbi)
          clear hbi
          by_cases hlt2 : I ≤ K
          · have hlt2' : (I : Int) ≤ K := by omega
            obtain ⟨b1, o1, had, hcc⟩ := HXi.out.reads.cells (by omega)
            subst had
            have hck := hcc I (by omega)
            rw [nth_up] at hck
            have hterm0 := hterm Hf.out (d := D) (k := K) (i := I) hD6 (by omega) (by rw [Hfl.out]; omega)
            have hSb := hs_bd Hf.out (d := D) (k := K) hD6 (by omega) I (by rw [Hfl.out]; omega)
            rw [← hS.out] at hSb
            have hS1 : hs f D K (I + 1) = S + sgn (K - I) (nthN f I * chz (D - I) (K - I)) := by rw [hS.out]; rfl
            have hf64 := Hf.out _ (nthN_mem (xs := f) (k := I) (by rw [Hfl.out]; omega))
            have hcb := chz_bd (n := D - I) (k := K - I) (by omega) (by omega)
            obtain ⟨m, hm⟩ : ∃ m, m = D - I := ⟨_, rfl⟩
            obtain ⟨q, hq⟩ : ∃ q, q = K - I := ⟨_, rfl⟩
            obtain ⟨x, hx⟩ : ∃ x, x = nthN f I := ⟨_, rfl⟩
            rw [← hm, ← hq] at hcb hterm0 hS1
            rw [← hx] at hck hf64 hS1 hterm0
            obtain ⟨y, hy⟩ : ∃ y, y = chz m q := ⟨_, rfl⟩
            rw [← hy] at hcb hS1 hterm0
            obtain ⟨z, hz⟩ : ∃ z, z = x * y := ⟨_, rfl⟩
            rw [← hz] at hS1 hterm0
            have hmul : IntKind.i64.wrap ((x : Int) * (y : Int)) = (z : Int) := mul_i64 rfl rfl hz.symm (by omega)
            have hmul2 : (x : Int) * (y : Int) = (z : Int) := by rw [hz]; norm_cast
            have hmi : (D : Int) - I = (m : Int) := by omega
            have hqi : (K : Int) - I = (q : Int) := by omega
            have hm30 : m ≤ 30 := by omega
            have hq30 : q ≤ 30 := by omega
            have Hy := Lib.hid hy
            have hS6 : -2240000000000 ≤ S ∧ S ≤ 2240000000000 := by omega
            obtain ⟨hSa, hSc⟩ := hS6
            have hi0 : (0 : Int) ≤ (I : Int) := by omega
            clear hcc hm hq hx hy hz hSb
            rcases Nat.mod_two_eq_zero_or_one q with hpar | hpar
            · have hpi : (q : Int) % 2 = 0 := by omega
              have HS1 := Lib.hid (show hs f D K (I + 1) = S + (z : Int) by rw [hS1]; unfold sgn; rw [if_neg (by omega)])
              clear hS1 hpar
              go_wp2_with fail
              go_quiet (first | (go_at_call 84; exact ql ((sChoose_any m q _ hm30 hq30).mono fun e w' ⟨h1, h2⟩ => ⟨by rw [h1, ← Hy.out], h2⟩)))
              go_wp2_with fail
              go_roundw
              case rel => exact ⟨I + 1, _, by omega, by go_num, rfl, Lib.hid (by rw [HS1.out]), below_drewN HBi.out _⟩
              case measure => simp [intOf]; omega
            · have hpi : (q : Int) % 2 = 1 := by omega
              have HS1 := Lib.hid (show hs f D K (I + 1) = S + -(z : Int) by rw [hS1]; unfold sgn; rw [if_pos hpar])
              have hneg : IntKind.i64.wrap (-(x : Int) * (y : Int)) = -(z : Int) := by rw [Int.neg_mul, hmul2]; exact IntWalk.i64_in _ (by omega)
              have hneg2 : -(x : Int) * (y : Int) = -(z : Int) := by rw [Int.neg_mul, hmul2]
              clear hS1 hpar
              go_wp2_with fail
              go_quiet (first | (go_at_call 84; exact ql ((sChoose_any m q _ hm30 hq30).mono fun e w' ⟨h1, h2⟩ => ⟨by rw [h1, ← Hy.out], h2⟩)))
              go_wp2_with fail
              go_roundw
              case rel => exact ⟨I + 1, _, by omega, by go_num, rfl, Lib.hid (by rw [HS1.out]), below_drewN HBi.out _⟩
              case measure => simp [intOf]; omega
          · obtain rfl : I = K + 1 := by omega
            have hgt : ¬ ((K : Int) + 1 ≤ K) := by omega
            have Hs1 := Lib.hid (hTo_succ f D K)
            have hzi : w.heap.size ≤ wr.heap.size := Nat.le_trans hz1 (Nat.le_trans hzr HBi.out.size)
            have hzk : w1.heap.size ≤ wr.heap.size := Nat.le_trans hzr HBi.out.size
            go_wp2_with (at_builtin; refine ap_at rfl _ _ rfl w.heap.size _ _ _ _ _ rfl HOi.out rfl (by omega) hzi ?_; intro ad' d' w' hown' hb' hg' hnew'; have HO3 := Lib.hid hown'; have HB3 := Lib.hid hb'; have HG3 := Lib.hid hg'; have HN3 := Lib.hid hnew'; clear hown' hb' hg' hnew')
            go_roundw
            case rel =>
              refine ⟨K + 1, by omega, by go_num, (HBr.out.trans (HBi.out.mono (Nat.le_trans hz1 hzr))).trans HB3.out, Nat.le_trans hzk HB3.out.size, ?_, ad', d', rfl, by rw [Hs1.out, ← hS.out]; exact HO3.out, fun b hb => ?_⟩
              · refine HXi.out.grownNe HG3.out fun q1 h1 q2 h2 e => ?_
                obtain ⟨b, hb, hbq⟩ := ownBlock_some h1
                have h3 := hlo.out q2 h2
                have h5 := hlt1.out q2 h2
                rcases Hloc.out b hb with h4 | h4 <;> omega
              · rcases HN3.out b hb with ⟨c, hc, hbc⟩ | h
                · rw [hbc]; exact Hloc.out c hc
                · exact .inr (by omega)
            case measure => simp [intOf]; omega
      · obtain rfl : K = D + 1 := by omega
        have hgt : ¬ ((D : Int) + 1 ≤ D) := by omega
        go_wp2_with fail
        go_ret
        exact ⟨ad, D + 1, c, rfl, by rw [Hv.out]; exact HO.out, HBr.out⟩
end Go.Proofs.Ytbdnlncpamandaa

/- Contracts of TopNumbers, the program's and the reference's. The program returns the front of its row of h numbers: a row of which only the front is handed out. -/
namespace Go.Proofs.Ytbdnlncpamandaa
set_option maxRecDepth 20000
open Go.RowKit
set_option linter.unusedSimpArgs false
set_option linter.unusedVariables false

/-- the front of a row of the call's own -/
def OwnP (T : Nat) (w : World) (B : Nat) (a : Option Addr) (n c : Nat) (xs : List Int) : Prop := ∃ N C ys, Own T w B a N C ys ∧ n ≤ N ∧ xs = ys.take n
theorem ownBlock_len (a : Option Addr) (n c n' c' : Nat) : (Value.slice a n c).ownBlock = (Value.slice a n' c').ownBlock := by cases a <;> rfl
theorem IntsAt.take {w : World} {a : Option Addr} {N n : Nat} {ys : List Int} (h : IntsAt w a N ys) (hn : n ≤ N) : IntsAt w a n (ys.take n) := by
  have hl := h.len
  refine ⟨by rw [List.length_take]; omega, by have := h.small; omega, fun h0 => ?_⟩
  obtain ⟨b, off, ha, hc⟩ := h.cells (by omega)
  refine ⟨b, off, ha, fun i hi => ?_⟩
  rw [hc i (by omega), nth_eq (by omega), nth_eq (by rw [List.length_take]; omega), List.getElem_take]
section
variable {T : Nat} {w w' : World} {B : Nat} {a : Option Addr} {n c : Nat} {xs : List Int}
theorem OwnP.lt (h : OwnP T w B a n c xs) : ∀ k, (Value.slice a n c).ownBlock = some k → B ≤ k ∧ k < w.heap.size := by
  obtain ⟨N, C, ys, ho, _, _⟩ := h
  intro k hk
  rw [ownBlock_len a n c N C] at hk
  exact ho.lt k hk
theorem OwnP.reads (h : OwnP T w B a n c xs) : IntsAt w a n xs := by
  obtain ⟨N, C, ys, ho, hn, rfl⟩ := h
  exact ho.reads.take hn
theorem OwnP.len (h : OwnP T w B a n c xs) : xs.length = n := h.reads.len
theorem OwnP.keep (h : OwnP T w B a n c xs) (hb : Below w.heap.size w w') : OwnP T w' B a n c xs := by
  obtain ⟨N, C, ys, ho, hn, he⟩ := h
  exact ⟨N, C, ys, ho.keep hb, hn, he⟩
theorem OwnP.mono {B' : Nat} (h : OwnP T w B a n c xs) (hB : B' ≤ B) : OwnP T w B' a n c xs := by
  obtain ⟨N, C, ys, ho, hn, he⟩ := h
  exact ⟨N, C, ys, ho.mono hB, hn, he⟩
theorem OwnP.grownNe {row : Option Nat} (h : OwnP T w B a n c xs) (hg : w.grownBy w' row) (hne : ∀ k, row = some k → ∀ k2, (Value.slice a n c).ownBlock = some k2 → k2 ≠ k) : OwnP T w' B a n c xs := by
  obtain ⟨N, C, ys, ho, hn, he⟩ := h
  exact ⟨N, C, ys, ho.grownNe hg (fun k hk k2 hk2 => hne k hk k2 (by rw [ownBlock_len a n c N C]; exact hk2)), hn, he⟩
end
def RetIntsP (w : World) (xs : List Int) (e : Ending) (w' : World) : Prop :=
  ∃ ad n c, e = .returned (.slice ad n c) ∧ OwnP 3 w' w.heap.size ad n c xs ∧ Below w.heap.size w w'

/-- the front marked up to k -/
def front (ys : List Int) (s k : Nat) : List Int := marks s k ++ ys.drop k
theorem frontZero (ys : List Int) (s : Nat) : front ys s 0 = ys := by simp [front, marks]
theorem frontSucc {ys : List Int} {s k : Nat} (hk : k < ys.length) : (front ys s k).set k ((s + k : Nat) : Int) = front ys s (k + 1) := by
  unfold front
  have hm : marks s (k + 1) = marks s k ++ [((s + k : Nat) : Int)] := by unfold marks; rw [List.range_succ, List.map_append]; rfl
  rw [hm, List.drop_eq_getElem_cons hk, List.set_append_right _ _ (by rw [marks_len]; omega), marks_len, Nat.sub_self, List.set_cons_zero, List.append_assoc]
  rfl
theorem frontTake {ys : List Int} {s n : Nat} : (front ys s n).take n = marks s n := by
  unfold front
  have : n = (marks s n).length := by rw [marks_len]
  conv => lhs; arg 1; rw [this]
  rw [List.take_left']
  rw [marks_len]

/-- without the zeros at the end, but one number at least -/
def topN (h : List Int) : Nat → Nat
  | 0 => 0
  | 1 => 1
  | n + 2 => if nth h (n + 1) = 0 then topN h (n + 1) else n + 2
theorem topN_le (h : List Int) : ∀ n, topN h n ≤ n := by
  intro n
  induction n with
  | zero => exact Nat.le_refl _
  | succ n ih =>
    cases n with
    | zero => exact Nat.le_refl _
    | succ n => unfold topN; split <;> omega
theorem topN_cut {h : List Int} {n q : Nat} (hn : 1 < n) (hq : q + 1 = n) (h0 : nth h q = 0) : topN h n = topN h q := by
  obtain ⟨m, rfl⟩ : ∃ m, n = m + 2 := ⟨n - 2, by omega⟩
  obtain rfl : q = m + 1 := by omega
  conv => lhs; unfold topN
  rw [if_pos h0]
theorem topN_stay {h : List Int} {n q : Nat} (hn : 1 < n) (hq : q + 1 = n) (h0 : nth h q ≠ 0) : topN h n = n := by
  obtain ⟨m, rfl⟩ : ∃ m, n = m + 2 := ⟨n - 2, by omega⟩
  obtain rfl : q = m + 1 := by omega
  conv => lhs; unfold topN
  rw [if_neg h0]
theorem topN_low {h : List Int} {n : Nat} (hn : n ≤ 1) : topN h n = n := by
  have : n = 0 ∨ n = 1 := by omega
  rcases this with rfl | rfl <;> rfl
/-- what TopNumbers returns -/
def topOf (h : List Int) : List Int := h.take (topN h h.length)
end Go.Proofs.Ytbdnlncpamandaa

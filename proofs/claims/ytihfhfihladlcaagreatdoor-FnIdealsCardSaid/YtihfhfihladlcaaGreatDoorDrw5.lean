/- Texts of this claim, one behind the other: what each says stands at its head. -/
import Derived.Deep.RegionLaw
import Derived.Test.YtihfhfihladlcaaGreatDoorCore
import Derived.Test.YtihfhfihladlcaaGreatDoorDrw3
/- Drawn complexes of the reference: l3Bent, and the drawings of LeftMonomials and LeftCount. -/
namespace Go.Proofs.YtihfhfihladlcaaGreatDoor
set_option maxRecDepth 20000
open Go.RowKit
set_option linter.unusedSimpArgs false
set_option linter.unusedVariables false

theorem Chg.grownNew {a b c : World} {g : Nat} {row : Option Nat} (h : Chg a b g none) (k : b.grownBy c row) (hr : ∀ j, row = some j → a.heap.size ≤ j) : Chg a c g none :=
  ⟨k.os.trans h.os, k.tape.trans h.tape, k.output.trans h.output, Nat.le_trans h.size k.size, fun i hi hg hne => (k.block i (Nat.lt_of_lt_of_le hi h.size) (fun e => by have := hr i e.symm; omega)).trans (h.block i hi hg hne)⟩
theorem Cur.grown {b c : World} {g : Nat} {row : Option Nat} (h : Cur b g) (k : b.grownBy c row) (hr : ∀ j, row = some j → g < j) : Cur c g :=
  h.keep ⟨k.os, k.tape, k.output, k.size, fun i hi => k.block i (by have := h.lt; omega) (fun e => by have := hr i e.symm; omega)⟩

set_option maxHeartbeats 1000000 in
theorem l3Bent_any (g : Nat) (w : World) (hc : Cur w g) :
    Calls Tryz.prog 84 #[.pointer (some ⟨g, 0, none⟩)] w (RetD g w (IsCxN 1101 w.heap.size)) := by
  have hgl := hc.lt
  have XR0 := Lib.hid (BoxF.new w (.int .i64 0) (.slice none 0 0) 32)
  obtain ⟨W0, hW0⟩ : ∃ W0, W0 = w.alloc (.cells #[.int .i64 0, .slice none 0 0] 32) := ⟨_, rfl⟩
  rw [← hW0] at XR0
  have Hz0 : Hid (W0.heap.size = w.heap.size + 1) := Lib.hid (by rw [hW0]; simp)
  have HC0 : Hid (Cur W0 g) := Lib.hid (by rw [hW0]; exact (hc.alloc _))
  have HG0 : Hid (Chg w W0 g none) := Lib.hid (by rw [hW0]; exact ((Chg.refl _ _ _).alloc _))
  have HW0 := Lib.hid hW0
  clear hc hW0
  go_enter Tryz.func84, Tryz.ntmps84
  go_wp2_with fail
  rw [← HW0.out]
  refine (l3Draw_any g W0 HC0.out).mono ?_
  rintro e w1 ⟨v, rfl, ⟨p, ad, n, c, xs, rfl, hown, hxl⟩, hg1, hc1⟩
  have XG0 := BoxF.new w1 (.int .i64 p) (.slice ad n c) 32
  have hne := fun k hk => (hown.lt k hk).2
  have hge := fun k hk => (hown.lt k hk).1
  have XR2 := Lib.hid ((XR0.out.chg hg1 (by omega)).alloc (.cells #[.int .i64 p, .slice ad n c] 32))
  have HO2 : Hid (Own 3 _ W0.heap.size ad n c xs) := Lib.hid (hown.alloc (.cells #[.int .i64 p, .slice ad n c] 32))
  have HG2 := Lib.hid ((HG0.out.trans hg1).alloc (.cells #[.int .i64 p, .slice ad n c] 32))
  have HC2 := Lib.hid (hc1.alloc (.cells #[.int .i64 p, .slice ad n c] 32))
  have hz1 : W0.heap.size ≤ w1.heap.size := hg1.size
  obtain ⟨G, hG⟩ : ∃ G, G = w1.heap.size := ⟨_, rfl⟩
  rw [Hz0.out, ← hG] at hz1
  rw [← hG] at XG0
  have Hne : Hid (∀ k, (Value.slice ad n c).ownBlock = some k → k < G) := Lib.hid (fun k hk => by have := hne k hk; omega)
  have Hge : Hid (∀ k, (Value.slice ad n c).ownBlock = some k → w.heap.size < k) := Lib.hid (fun k hk => by have := hge k hk; have := Hz0.out; omega)
  have XG2 := Lib.hid XG0
  have HG9 := Lib.hid hG
  have hnl : n ≤ 1100 := by have := hown.len; omega
  have Hxl := Lib.hid hxl
  obtain ⟨W2, hW2⟩ : ∃ W2, W2 = w1.alloc (.cells #[.int .i64 p, .slice ad n c] 32) := ⟨_, rfl⟩
  have HW2 := Lib.hid hW2
  have Hz2 : Hid (G + 1 ≤ W2.heap.size) := Lib.hid (by rw [hW2, hG]; simp)
  rw [Hz0.out] at HO2
  rw [← hW2] at XR2 HO2 HG2 HC2 XG2
  clear hg1 hc1 hown XG0 hne hge hW2 hG hxl
  obtain ⟨b0, b1, _, _, _⟩ := XG2.out
  go_wp2_with fail
  rw [← HG9.out, ← HW2.out]
  refine (l1Below_any g 14 W2 HC2.out (by omega)).mono ?_
  rintro e w4 ⟨v, rfl, ⟨y, hy, _, rfl⟩, hg4, hc4⟩
  have hy8 : y < 14 := by have := hy (by omega); omega
  have HG4 := Lib.hid (HG2.out.trans hg4); have HC4 := Lib.hid hc4
  have XR4 := Lib.hid (XR2.out.chg hg4 (by omega))
  have XG4 := Lib.hid (XG2.out.chg hg4 (by omega))
  have HO4 := Lib.hid (HO2.out.chgW hg4 (by omega))
  have Hz4 : Hid (G + 1 ≤ w4.heap.size) := Lib.hid (Nat.le_trans Hz2.out hg4.size)
  clear hg4 hc4 hy HC2 HG2 XR2 XG2 HO2 b0 b1
  have END : ∀ (W : World) (p : Int) (ad : Option Addr) (n c : Nat) (xs : List Int), Chg w W g none → Cur W g → BoxF W w.heap.size (.int .i64 0) (.slice none 0 0) → Own 3 W (w.heap.size + 1) ad n c xs → (xs.length ≤ 1101 ∧ 0 ≤ p ∧ p ≤ 7) →
      RetD g w (IsCxN 1101 w.heap.size) (.returned (.agg #[.int .i64 p, .slice ad n c])) ((W.setCell ⟨w.heap.size, 0, none⟩ (.int .i64 p)).setCell ⟨w.heap.size, 1, none⟩ (.slice ad n c)) := by
    intro W p ad n c xs hg hc hx ho hl
    exact ⟨_, rfl, ⟨p, ad, n, c, xs, rfl, Row.mono (Row.setBelow (Row.setBelow ho _ (by omega)) _ (by omega)) (by omega), hl⟩, (hg.setNew _ _ (by simp)).setNew _ _ (by simp), (hc.setNew _ _ (by simpa using hgl)).setNew _ _ (by simpa using hgl)⟩
  have HEND := Lib.hid END
  clear END
  by_cases y0 : y = 0
  · subst y0
    have HL := Lib.hid (IntsAt.lit3 w4 0 7 2)
    go_wp2_with fail
    refine (l1PickInt_any g _ 3 3 _ _ (HC4.out.alloc _) HL.out (fun b hb => by cases hb; have := HC4.out.lt; simp only; omega) (by omega) (by omega)).mono ?_
    rintro e w5 ⟨v, rfl, ⟨p', hp', rfl⟩, hg5, hc5⟩
    have Hp9 : Hid (0 ≤ p' ∧ p' ≤ 7) := Lib.hid (by simp only [List.mem_cons, List.not_mem_nil, or_false] at hp'; omega)
    clear hp'
    have HG5 := Lib.hid ((HG4.out.alloc _).trans hg5); have HC5 := Lib.hid hc5
    have XR5 := Lib.hid ((XR4.out.alloc _).chg hg5 (by omega))
    have XG5 := Lib.hid ((XG4.out.alloc _).chg hg5 (by omega))
    have HO5 := Lib.hid (Own.chgW (Own.alloc HO4.out _) hg5 (by omega))
    obtain ⟨b0, b1, bf0, bf1, _⟩ := XG5.out
    obtain ⟨r0, r1, f0, f1, _⟩ := XR5.out.setOther ⟨G, 0, none⟩ (.int .i64 p') (by simp only; omega)
    clear hg5 hc5
    go_wp2_with fail
    refine bodyPost_ret (v := .agg #[.int .i64 p', .slice ad n c]) (by simp [results, Tryz.results84, go_sem, r0, r1]) rfl ?_
    refine HEND.out _ p' ad n c xs (HG5.out.setNew _ _ (by simp only; omega)) (HC5.out.setNew _ _ (by simp only; omega)) (XR5.out.setOther _ _ (by simp only; omega)) (Row.setOther HO5.out _ ?_) ⟨Nat.le_succ_of_le Hxl.out.1, by have := Hp9.out; omega, by have := Hp9.out; omega⟩
    intro e; have := Hne.out G (by rw [e]; rfl); omega
  · have y0i : ((y : Int) == 0) = false := by simp; omega
    by_cases y1 : y = 1
    · subst y1
      obtain ⟨b0, b1, bf0, bf1, _⟩ := XG4.out
      have hcd := Lib.hid HC4.out.drew
      go_wp2_with fail
      go_region_law (first
        | (go_simp; go_at_call 132; (with_reducible refine (l1Below_any g 66 _ hcd.out (by omega)).mono ?_); rintro e w5 ⟨v, rfl, ⟨x, _, _, rfl⟩, hg5, hc5⟩; have HG5 := Lib.hid (HG4.out.drew.trans hg5); have HC5 := Lib.hid hc5; have XR5 := Lib.hid (XR4.out.drew.chg hg5 (by omega)); have XG5 := Lib.hid (XG4.out.drew.chg hg5 (by omega)); have HO5 := Lib.hid (HO4.out.drew.chgW hg5 (by omega)); have Hz5 : Hid (G + 1 ≤ w5.heap.size) := Lib.hid (Nat.le_trans Hz4.out hg5.size); obtain ⟨z0, z1, zf0, zf1, _⟩ := XG5.out; have HO5b : Hid (Own 3 (w5.alloc (.cells #[.int .i64 (IntKind.i64.wrap ((x : Int) - 1))] 3)) (w.heap.size + 1) ad n c xs) := Lib.hid (Own.alloc HO5.out _); have HX5b := Lib.hid (IntsAt.one w5 (IntKind.i64.wrap ((x : Int) - 1)) 3); have Hzb : Hid (w.heap.size + 1 ≤ (w5.alloc (.cells #[.int .i64 (IntKind.i64.wrap ((x : Int) - 1))] 3)).heap.size) := Lib.hid (by have := Hz5.out; simp; omega); clear hg5 hc5)
        | (refine step_ap_at rfl _ _ rfl (w.heap.size + 1) _ _ _ _ rfl HO5b.out _ _ _ _ rfl HX5b.out (Fit.one _) (by omega) Hzb.out ?_; intro ad6 d6 w6 hown6 hb6 hg6 hat6; have HO6 := Lib.hid hown6; have HN6 : Hid (∀ k, (Value.slice ad6 (n + 1) d6).ownBlock = some k → k ≠ G) := Lib.hid (fun k hk => hat6.elim (fun h => by have := Hne.out k (h ▸ hk); omega) (fun h => by rw [h] at hk; have := Hz5.out; simp at hk; omega)); have HG6 := Lib.hid ((HG5.out.alloc _).grownNew hg6 (fun k hk => by have := Hge.out k hk; omega)); have HC6 := Lib.hid ((HC5.out.alloc _).grown hg6 (fun k hk => by have := Hge.out k hk; omega)); have XR6 := Lib.hid ((XR5.out.alloc _).other hg6.size (hg6.block w.heap.size (by have := Hz5.out; simp; omega) (fun e => by have := Hge.out _ e.symm; omega))); have XG6 := Lib.hid ((XG5.out.alloc _).other hg6.size (hg6.block G (by have := Hz5.out; simp; omega) (fun e => by have := Hne.out _ e.symm; omega))); obtain ⟨z0, z1, zf0, zf1, _⟩ := XG6.out; clear hown6 hb6 hg6 hat6))
      all_goals (
        have XS := XR6.out.setOther ⟨G, 1, none⟩ (.slice ad6 (n + 1 : Nat) d6) (by simp only; omega)
        obtain ⟨r0, r1, f0, f1, _⟩ := id XS
        obtain ⟨u0, u1, _, _, _⟩ := XG6.out.set1 (.slice ad6 (n + 1 : Nat) d6)
        have XSH := Lib.hid XS
        clear XS
        go_wp2_with fail
        refine bodyPost_ret (v := .agg #[.int .i64 p, .slice ad6 (n + 1) d6]) (by simp [results, Tryz.results84, go_sem, r0, r1]) rfl ?_
        refine HEND.out _ p ad6 (n + 1) d6 _ (HG6.out.setNew _ _ (by simp only; omega)) (HC6.out.setNew _ _ (by simp only; omega)) XSH.out (Row.setOther HO6.out _ ?_) ⟨by rw [List.length_append]; have := Hxl.out.1; simp; omega, Hxl.out.2⟩
        intro e
        exact HN6.out G (by rw [e]; rfl) rfl)
    · have y1i : ((y : Int) == 1) = false := by simp; omega
      obtain ⟨b0, b1, bf0, bf1, _⟩ := XG4.out
      obtain ⟨r0, r1, f0, f1, _⟩ := XR4.out
      go_wp2_with fail
      refine bodyPost_ret (v := .agg #[.int .i64 p, .slice ad n c]) (by simp [results, Tryz.results84, go_sem, r0, r1]) rfl ?_
      exact HEND.out _ p ad n c xs HG4.out HC4.out XR4.out HO4.out ⟨Nat.le_succ_of_le Hxl.out.1, Hxl.out.2⟩
end Go.Proofs.YtihfhfihladlcaaGreatDoor

/- The drawings of a complex with a number: DrawLeftMonomials, DrawLeftCount. -/
namespace Go.Proofs.YtihfhfihladlcaaGreatDoor
set_option maxRecDepth 20000
open Go.RowKit
set_option linter.unusedSimpArgs false
set_option linter.unusedVariables false

/-- the bytes of a code that came in -/
def CodeAt (W : World) (a : Option Addr) (n : Nat) : Prop := ByAt W W.heap.size a n
theorem CodeAt.keep {W W' : World} {a : Option Addr} {n : Nat} (h : CodeAt W a n) (hb : Below W.heap.size W W') : CodeAt W' a n := by
  refine ⟨h.1, fun hn => ?_⟩
  obtain ⟨b, off, ha, hlt, hc⟩ := h.2 hn
  refine ⟨b, off, ha, Nat.lt_of_lt_of_le hlt hb.size, fun k hk => ?_⟩
  obtain ⟨v, hv, hcv⟩ := hc k hk
  exact ⟨v, hv, (World.cell?_of_block (a := ⟨b, off + k, none⟩) (hb.block b hlt)).trans hcv⟩
/-- a drawn complex with a number -/
def RetCxI (w : World) (e : Ending) (w' : World) : Prop := ∃ p ad n c xs d, e = .returned (.tuple #[.agg #[.int .i64 p, .slice ad n c], .int .i64 d]) ∧ Own 3 w' w.heap.size ad n c xs ∧ xs.length ≤ 1101 ∧ Below w.heap.size w w'
theorem IntsAt.drew {w : World} {a : Option Addr} {n : Nat} {xs : List Int} (h : IntsAt w a n xs) : IntsAt w.drew a n xs := h.keep (Below.refl _ _).drew
theorem Chg.belowNew {a b : World} {g B : Nat} (h : Chg a b g none) (hg : B ≤ g) (hB : B ≤ a.heap.size) : Below B a b := h.lowOf hg hB

end Go.Proofs.YtihfhfihladlcaaGreatDoor

/- The bytes of a law's code, opened. -/
namespace Go.Proofs.YtihfhfihladlcaaGreatDoor
set_option maxRecDepth 20000
open Go.ChangeShapes Go.WideShapes Go.ChangeAt Go.RowKit

theorem cellsByte : Tryz.prog.cellsOf 5 = 1 := by kernel_rfl
theorem open_code {H : Type} {enc : TypeId × Value → H} {W : World} {fuel : Nat} {v : Value} {x : DataW H × List MemPlace} (h : DataW.trod enc Tryz.prog W 0 (fun _ => true) true fuel 22 [v] = some x) :
    ∃ a n c, v = .slice a n c ∧ CodeAt W a n := by
  rcases open_ints Tryz.underlying22 Tryz.underlying5 cellsByte h with ⟨hcs, _⟩ | ⟨a, len, cap, zs, hcs, _, hl, hm, hz, _, hcell, hwf⟩
  · simp only [List.cons.injEq, and_true] at hcs
    exact ⟨none, 0, 0, hcs, by omega, fun h => by omega⟩
  · simp only [List.cons.injEq, and_true] at hcs
    simp only [if_true] at hz
    refine ⟨some a, len, cap, hcs, by unfold maxLen at hm; omega, fun hn => ?_⟩
    obtain ⟨b, off, rfl, hc⟩ := ints_at hcell (by omega)
    refine ⟨b, off, rfl, World.block_lt_of_cell? W _ (hc 0 (by omega)), fun i hi => ?_⟩
    have h1 := hc i (by omega)
    have h2 := hwf _ (show zs.getD i 0 ∈ zs by rw [List.getD_eq_getElem?_getD, List.getElem?_eq_getElem (by omega)]; exact List.getElem_mem _)
    obtain ⟨z, hz9⟩ : ∃ z, z = zs.getD i 0 := ⟨_, rfl⟩
    rw [← hz9] at h1 h2
    have h3 : 0 ≤ z ∧ z < 256 := by
      unfold Lit.wf at h2
      have h4 : IntKind.u8.min = 0 := rfl
      have h5 : IntKind.u8.max = 255 := rfl
      have h6 : IntKind.u8.min ≤ z ∧ z ≤ IntKind.u8.max := by simpa using h2
      omega
    refine ⟨z.toNat, by omega, ?_⟩
    rw [h1, show ((z.toNat : Nat) : Int) = z by omega]
end Go.Proofs.YtihfhfihladlcaaGreatDoor

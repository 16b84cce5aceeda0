/- Texts of this claim, one behind the other: what each says stands at its head. -/
import Derived.Test.YtpoolkmcbeghjaaCore
import Derived.Test.YtpoolkmcbeghjaaDrw5
/- The drawings of a complex with a number: DrawLeftMonomials, DrawLeftCount. -/
namespace Go.Proofs.Ytpoolkmcbeghjaa
set_option maxRecDepth 20000
open Go.RowKit
set_option linter.unusedSimpArgs false
set_option linter.unusedVariables false

/-- the bytes of a code that came in -/
def CodeAt (W : World) (a : Option Addr) (n : Nat) : Prop := ByAt W W.heap.size a n
theorem CodeAt.keep {W W' : World} {a : Option Addr} {n : Nat} (h : CodeAt W a n) (hb : Below W.heap.size W W') : CodeAt W' a n := by
  refine ⟨h.1, fun hn => ?_⟩
  obtain ⟨b, off, ha, hlt, hc⟩ := h.2 hn
  refine ⟨b, off, ha, Nat.lt_of_lt_of_le hlt hb.size, fun k hk => ?_⟩
  obtain ⟨v, hv, hcv⟩ := hc k hk
  exact ⟨v, hv, (World.cell?_of_block (a := ⟨b, off + k, none⟩) (hb.block b hlt)).trans hcv⟩
/-- a drawn complex with a number -/
def RetCxI (w : World) (e : Ending) (w' : World) : Prop := ∃ p ad n c xs d, e = .returned (.tuple #[.agg #[.int .i64 p, .slice ad n c], .int .i64 d]) ∧ Own 3 w' w.heap.size ad n c xs ∧ xs.length ≤ 1101 ∧ Below w.heap.size w w'
theorem IntsAt.drew {w : World} {a : Option Addr} {n : Nat} {xs : List Int} (h : IntsAt w a n xs) : IntsAt w.drew a n xs := h.keep (Below.refl _ _).drew
theorem Chg.belowNew {a b : World} {g B : Nat} (h : Chg a b g none) (hg : B ≤ g) (hB : B ≤ a.heap.size) : Below B a b := h.lowOf hg hB

set_option maxHeartbeats 1000000 in
theorem drawLeftMonomials_any (a : Option Addr) (n c : Nat) (w : World) (hy : CodeAt w a n) (hn : n ≤ 1048576) :
    Calls Try.prog 12 #[.slice a n c] w (RetCxI w) := by
  have XR0 := Lib.hid (BoxF.new w (.int .i64 0) (.slice none 0 0) 33)
  obtain ⟨W0, hW0⟩ : ∃ W0, W0 = w.alloc (.cells #[.int .i64 0, .slice none 0 0] 33) := ⟨_, rfl⟩
  rw [← hW0] at XR0
  have Hz0 : Hid (W0.heap.size = w.heap.size + 1) := Lib.hid (by rw [hW0]; simp)
  have HB0 : Hid (Below w.heap.size w W0) := Lib.hid (by rw [hW0]; exact (by repeat (first | exact Below.refl _ _ | assumption | refine Below.setCell ?_ (by first | omega | (simp; done) | (simp; omega)) _ | refine Below.alloc ?_ (by first | omega | (simp; done) | (simp; omega)) _ | apply Below.drew)))
  have HY0 : Hid (CodeAt W0 a n) := Lib.hid (hy.keep HB0.out)
  have HW0 := Lib.hid hW0
  clear hy hW0
  go_enter Try.func12, Try.ntmps12
  go_wp2_with fail
  rw [← HW0.out]
  refine (l1New_any a n c W0 HY0.out hn).mono ?_
  rintro e w1 ⟨rfl, hb1, hc1⟩
  have hz1 : w.heap.size + 1 ≤ w1.heap.size := by have := hb1.size; have := Hz0.out; omega
  have XR1 := Lib.hid (XR0.out.keep hb1 (by have := Hz0.out; omega))
  have HB1 : Hid (Below w.heap.size w w1) := Lib.hid (HB0.out.trans (hb1.mono (by have := Hz0.out; omega)))
  obtain ⟨g, hg⟩ : ∃ g, g = W0.heap.size := ⟨_, rfl⟩
  rw [← hg] at hc1
  rw [← hg]
  have hgw : w.heap.size < g := by have := Hz0.out; omega
  have HC1 := Lib.hid hc1
  clear hb1 hc1 hg
  go_wp2_with fail
  refine (l3Bent_any g w1 HC1.out).mono ?_
  rintro e w2 ⟨v, rfl, ⟨p, ad, k, d, xs, rfl, hown, hxl⟩, hg2, hc2⟩
  have hb2 : Below w.heap.size w1 w2 := hg2.belowNew (by omega) (by omega)
  have HB2 := Lib.hid (HB1.out.trans hb2)
  have XR2 := Lib.hid (XR1.out.chg hg2 (by omega))
  have HC2 := Lib.hid hc2
  have hz2 : w1.heap.size ≤ w2.heap.size := hg2.size
  obtain ⟨G, hG⟩ : ∃ G, G = w2.heap.size := ⟨_, rfl⟩
  have HG := Lib.hid hG
  obtain ⟨W3, hW3⟩ : ∃ W3, W3 = w2.alloc (.cells #[.int .i64 p, .slice ad k d] 33) := ⟨_, rfl⟩
  have HW3 := Lib.hid hW3
  have XG3 : Hid (BoxF W3 G (.int .i64 p) (.slice ad k d)) := Lib.hid (by rw [hW3, hG]; exact BoxF.new _ _ _ _)
  have XR3 : Hid (BoxF W3 w.heap.size (.int .i64 0) (.slice none 0 0)) := Lib.hid (by rw [hW3]; exact XR2.out.alloc _)
  have HC3 : Hid (Cur W3 g) := Lib.hid (by rw [hW3]; exact hc2.alloc _)
  have HO3 : Hid (Own 3 W3 w1.heap.size ad k d xs) := Lib.hid (by rw [hW3]; exact Own.alloc hown _)
  have HB3 : Hid (Below w.heap.size w W3) := Lib.hid (by rw [hW3]; exact HB2.out.alloc HB2.out.size _)
  have hGw : w1.heap.size ≤ G := by omega
  have hgG : g < G := by have := hc2.lt; omega
  have hz3 : Hid (W3.heap.size = G + 1) := Lib.hid (by rw [hW3, hG]; simp)
  clear hg2 hc2 hown hb2 hG hW3
  obtain ⟨b0, b1, _, _, _⟩ := XG3.out
  go_wp2_with fail
  rw [← HG.out, ← HW3.out]
  go_region_held3 (fun W => W.cell? ⟨G, 0, none⟩ = some (.int .i64 p) ∧ W.cell? ⟨G, 1, none⟩ = some (.slice ad k d)) (first | exact ⟨b0, b1⟩ | exact ⟨z0, z1⟩ | (have hh := ((XG5.out.setOther ⟨w.heap.size, 0, none⟩ (.int .i64 p) (by simp only; omega)).setOther ⟨w.heap.size, 1, none⟩ (.slice ad k d) (by simp only; omega)); exact ⟨hh.c0, hh.c1⟩) | go_keep) (first
    | (go_simp; go_at_call 61; (with_reducible refine (l1PickInt_any g _ 8 8 _ _ (HC3.out.alloc _).drew (IntsAt.lit8 W3 _ _ _ _ _ _ _ _).drew (fun b hb => by cases hb; simp only; have := hz3.out; omega) (by omega) (by omega)).mono ?_); rintro e w5 ⟨v, rfl, ⟨x, _, rfl⟩, hg5, hc5⟩; have HB5 : Hid (Below w.heap.size w w5) := Lib.hid ((HB3.out.alloc HB3.out.size _).drew.trans (hg5.belowNew (by omega) (by have := HB3.out.size; show w.heap.size ≤ (W3.alloc _).heap.size; simp; exact Nat.le_succ_of_le this))); have HO5 : Hid (Own 3 w5 w1.heap.size ad k d xs) := Lib.hid (Own.chgW (Own.drew (Own.alloc HO3.out _)) hg5 (HC1.out.lt)); have XG5 := Lib.hid ((XG3.out.alloc _).drew.chg hg5 (by omega)); have XR5 := Lib.hid ((XR3.out.alloc _).drew.chg hg5 (by omega)); obtain ⟨z0, z1, zf0, zf1, _⟩ := XG5.out; obtain ⟨r0, r1, f0, f1, _⟩ := XR5.out; clear hg5 hc5))
  all_goals (
    go_wp2_with fail
    refine bodyPost_ret (v := .tuple #[.agg #[.int .i64 p, .slice ad k d], .int .i64 x]) (by simp [results, Try.results12, go_sem, r0, r1]) rfl ⟨p, ad, k, d, xs, x, rfl, Row.mono (Row.setBelow (Row.setBelow HO5.out _ (by omega)) _ (by omega)) (by omega), hxl, (HB5.out.setCell (by simp) _).setCell (by simp) _⟩)
set_option maxHeartbeats 1000000 in
theorem drawLeftCount_any (a : Option Addr) (n c : Nat) (w : World) (hy : CodeAt w a n) (hn : n ≤ 1048576) :
    Calls Try.prog 14 #[.slice a n c] w (RetCxI w) := by
  have XR0 := Lib.hid (BoxF.new w (.int .i64 0) (.slice none 0 0) 33)
  obtain ⟨W0, hW0⟩ : ∃ W0, W0 = w.alloc (.cells #[.int .i64 0, .slice none 0 0] 33) := ⟨_, rfl⟩
  rw [← hW0] at XR0
  have Hz0 : Hid (W0.heap.size = w.heap.size + 1) := Lib.hid (by rw [hW0]; simp)
  have HB0 : Hid (Below w.heap.size w W0) := Lib.hid (by rw [hW0]; exact (by repeat (first | exact Below.refl _ _ | assumption | refine Below.setCell ?_ (by first | omega | (simp; done) | (simp; omega)) _ | refine Below.alloc ?_ (by first | omega | (simp; done) | (simp; omega)) _ | apply Below.drew)))
  have HY0 : Hid (CodeAt W0 a n) := Lib.hid (hy.keep HB0.out)
  have HW0 := Lib.hid hW0
  clear hy hW0
  go_enter Try.func14, Try.ntmps14
  go_wp2_with fail
  rw [← HW0.out]
  refine (l1New_any a n c W0 HY0.out hn).mono ?_
  rintro e w1 ⟨rfl, hb1, hc1⟩
  have hz1 : w.heap.size + 1 ≤ w1.heap.size := by have := hb1.size; have := Hz0.out; omega
  have XR1 := Lib.hid (XR0.out.keep hb1 (by have := Hz0.out; omega))
  have HB1 : Hid (Below w.heap.size w w1) := Lib.hid (HB0.out.trans (hb1.mono (by have := Hz0.out; omega)))
  obtain ⟨g, hg⟩ : ∃ g, g = W0.heap.size := ⟨_, rfl⟩
  rw [← hg] at hc1
  rw [← hg]
  have hgw : w.heap.size < g := by have := Hz0.out; omega
  have HC1 := Lib.hid hc1
  clear hb1 hc1 hg
  go_wp2_with fail
  refine (l3Bent_any g w1 HC1.out).mono ?_
  rintro e w2 ⟨v, rfl, ⟨p, ad, k, d, xs, rfl, hown, hxl⟩, hg2, hc2⟩
  have hb2 : Below w.heap.size w1 w2 := hg2.belowNew (by omega) (by omega)
  have HB2 := Lib.hid (HB1.out.trans hb2)
  have XR2 := Lib.hid (XR1.out.chg hg2 (by omega))
  have HC2 := Lib.hid hc2
  have hz2 : w1.heap.size ≤ w2.heap.size := hg2.size
  obtain ⟨G, hG⟩ : ∃ G, G = w2.heap.size := ⟨_, rfl⟩
  have HG := Lib.hid hG
  obtain ⟨W3, hW3⟩ : ∃ W3, W3 = w2.alloc (.cells #[.int .i64 p, .slice ad k d] 33) := ⟨_, rfl⟩
  have HW3 := Lib.hid hW3
  have XG3 : Hid (BoxF W3 G (.int .i64 p) (.slice ad k d)) := Lib.hid (by rw [hW3, hG]; exact BoxF.new _ _ _ _)
  have XR3 : Hid (BoxF W3 w.heap.size (.int .i64 0) (.slice none 0 0)) := Lib.hid (by rw [hW3]; exact XR2.out.alloc _)
  have HC3 : Hid (Cur W3 g) := Lib.hid (by rw [hW3]; exact hc2.alloc _)
  have HO3 : Hid (Own 3 W3 w1.heap.size ad k d xs) := Lib.hid (by rw [hW3]; exact Own.alloc hown _)
  have HB3 : Hid (Below w.heap.size w W3) := Lib.hid (by rw [hW3]; exact HB2.out.alloc HB2.out.size _)
  have hGw : w1.heap.size ≤ G := by omega
  have hgG : g < G := by have := hc2.lt; omega
  have hz3 : Hid (W3.heap.size = G + 1) := Lib.hid (by rw [hW3, hG]; simp)
  clear hg2 hc2 hown hb2 hG hW3
  obtain ⟨b0, b1, _, _, _⟩ := XG3.out
  go_wp2_with fail
  rw [← HG.out, ← HW3.out]
  go_region_held3 (fun W => W.cell? ⟨G, 0, none⟩ = some (.int .i64 p) ∧ W.cell? ⟨G, 1, none⟩ = some (.slice ad k d)) (first | exact ⟨b0, b1⟩ | exact ⟨z0, z1⟩ | (have hh := ((XG5.out.setOther ⟨w.heap.size, 0, none⟩ (.int .i64 p) (by simp only; omega)).setOther ⟨w.heap.size, 1, none⟩ (.slice ad k d) (by simp only; omega)); exact ⟨hh.c0, hh.c1⟩) | go_keep) (first
    | (go_simp; go_at_call 61; (with_reducible refine (l1PickInt_any g _ 8 8 _ _ (HC3.out.alloc _).drew (IntsAt.lit8 W3 _ _ _ _ _ _ _ _).drew (fun b hb => by cases hb; simp only; have := hz3.out; omega) (by omega) (by omega)).mono ?_); rintro e w5 ⟨v, rfl, ⟨x, _, rfl⟩, hg5, hc5⟩; have HB5 : Hid (Below w.heap.size w w5) := Lib.hid ((HB3.out.alloc HB3.out.size _).drew.trans (hg5.belowNew (by omega) (by have := HB3.out.size; show w.heap.size ≤ (W3.alloc _).heap.size; simp; exact Nat.le_succ_of_le this))); have HO5 : Hid (Own 3 w5 w1.heap.size ad k d xs) := Lib.hid (Own.chgW (Own.drew (Own.alloc HO3.out _)) hg5 (HC1.out.lt)); have XG5 := Lib.hid ((XG3.out.alloc _).drew.chg hg5 (by omega)); have XR5 := Lib.hid ((XR3.out.alloc _).drew.chg hg5 (by omega)); obtain ⟨z0, z1, zf0, zf1, _⟩ := XG5.out; obtain ⟨r0, r1, f0, f1, _⟩ := XR5.out; clear hg5 hc5))
  all_goals (
    go_wp2_with fail
    refine bodyPost_ret (v := .tuple #[.agg #[.int .i64 p, .slice ad k d], .int .i64 x]) (by simp [results, Try.results14, go_sem, r0, r1]) rfl ⟨p, ad, k, d, xs, x, rfl, Row.mono (Row.setBelow (Row.setBelow HO5.out _ (by omega)) _ (by omega)) (by omega), hxl, (HB5.out.setCell (by simp) _).setCell (by simp) _⟩)
end Go.Proofs.Ytpoolkmcbeghjaa

/- The bytes of a law's code, opened. -/
namespace Go.Proofs.Ytpoolkmcbeghjaa
set_option maxRecDepth 20000
open Go.ChangeShapes Go.WideShapes Go.ChangeAt Go.RowKit

theorem cellsByte : Try.prog.cellsOf 5 = 1 := by kernel_rfl
theorem open_code {H : Type} {enc : TypeId × Value → H} {W : World} {fuel : Nat} {v : Value} {x : DataW H × List MemPlace} (h : DataW.trod enc Try.prog W 0 (fun _ => true) true fuel 30 [v] = some x) :
    ∃ a n c, v = .slice a n c ∧ CodeAt W a n := by
  rcases open_ints Try.underlying30 Try.underlying5 cellsByte h with ⟨hcs, _⟩ | ⟨a, len, cap, zs, hcs, _, hl, hm, hz, _, hcell, hwf⟩
  · simp only [List.cons.injEq, and_true] at hcs
    exact ⟨none, 0, 0, hcs, by omega, fun h => by omega⟩
  · simp only [List.cons.injEq, and_true] at hcs
    simp only [if_true] at hz
    refine ⟨some a, len, cap, hcs, by unfold maxLen at hm; omega, fun hn => ?_⟩
    obtain ⟨b, off, rfl, hc⟩ := ints_at hcell (by omega)
    refine ⟨b, off, rfl, World.block_lt_of_cell? W _ (hc 0 (by omega)), fun i hi => ?_⟩
    have h1 := hc i (by omega)
    have h2 := hwf _ (show zs.getD i 0 ∈ zs by rw [List.getD_eq_getElem?_getD, List.getElem?_eq_getElem (by omega)]; exact List.getElem_mem _)
    obtain ⟨z, hz9⟩ : ∃ z, z = zs.getD i 0 := ⟨_, rfl⟩
    rw [← hz9] at h1 h2
    have h3 : 0 ≤ z ∧ z < 256 := by
      unfold Lit.wf at h2
      have h4 : IntKind.u8.min = 0 := rfl
      have h5 : IntKind.u8.max = 255 := rfl
      have h6 : IntKind.u8.min ≤ z ∧ z ≤ IntKind.u8.max := by simpa using h2
      omega
    refine ⟨z.toNat, by omega, ?_⟩
    rw [h1, show ((z.toNat : Nat) : Int) = z by omega]
end Go.Proofs.Ytpoolkmcbeghjaa

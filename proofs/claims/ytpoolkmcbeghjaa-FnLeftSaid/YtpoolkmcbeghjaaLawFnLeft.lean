/- The law FnLeft: what is left is counted by faces and by the series. No condition. -/
import Derived.Deep.RegionHeld3
import Derived.Test.YtpoolkmcbeghjaaDrw6
import Derived.Test.YtpoolkmcbeghjaaLawK
import Derived.Test.YtpoolkmcbeghjaaMono5
import Derived.Test.YtpoolkmcbeghjaaSumM2
namespace Go.Proofs.Ytpoolkmcbeghjaa.lawFnLeft
set_option maxRecDepth 20000
open Go.ChangeShapes Go.WideShapes Go.ChangeAt Go.RowKit
set_option linter.unusedVariables false
set_option linter.unusedSimpArgs false

theorem sm_bd {g : Nat → Int} {B : Int} (h : ∀ j, -B ≤ g j ∧ g j ≤ B) : ∀ n : Nat, -(n * B) ≤ sm g n ∧ sm g n ≤ n * B := by
  intro n
  induction n with
  | zero => simp [sm]
  | succ n ih =>
    have := h n
    have e : ((n + 1 : Nat) : Int) * B = n * B + B := by rw [Int.natCast_add, Int.add_mul]; simp
    rw [sm, e]; omega
theorem mul_bd {a : Int} {b : Nat} (h : -15680000000000 ≤ a ∧ a ≤ 15680000000000) (hb : b ≤ 500) : -7840000000000000 ≤ a * b ∧ a * b ≤ 7840000000000000 := by
  have h1 : a * b ≤ 15680000000000 * b := Int.mul_le_mul_of_nonneg_right h.2 (by omega)
  have h2 : -15680000000000 * (b : Int) ≤ a * b := Int.mul_le_mul_of_nonneg_right h.1 (by omega)
  omega
/-- the step of a sum of products, with Go's arithmetic -/
theorem sum_step {X : List Int} {m I : Nat} (hm : m ≤ 6) (hI : I ≤ 6) (hX : ∀ j, -15680000000000 ≤ nth X j ∧ nth X j ≤ 15680000000000) (J : Nat) (hJ : J ≤ I) :
    IntKind.i64.wrap (nth X J * (monN m (I - J) : Int)) = nth X J * (monN m (I - J) : Int) ∧
    IntKind.i64.wrap (sm (fun j => nth X j * (monN m (I - j) : Int)) J + nth X J * (monN m (I - J) : Int)) = sm (fun j => nth X j * (monN m (I - j) : Int)) (J + 1) := by
  have hb : ∀ j, -7840000000000000 ≤ nth X j * (monN m (I - j) : Int) ∧ nth X j * (monN m (I - j) : Int) ≤ 7840000000000000 := fun j => mul_bd (hX j) (monN_bd m (by omega) _ (by omega))
  have h1 := hb J
  have h2 := sm_bd hb (J + 1)
  have h3 : ((J + 1 : Nat) : Int) * 7840000000000000 ≤ 7 * 7840000000000000 := Int.mul_le_mul_of_nonneg_right (by omega) (by omega)
  refine ⟨IntWalk.i64_in _ (by omega), ?_⟩
  rw [show sm (fun j => nth X j * (monN m (I - j) : Int)) J + nth X J * (monN m (I - J) : Int) = sm (fun j => nth X j * (monN m (I - j) : Int)) (J + 1) from rfl]
  exact IntWalk.i64_in _ (by omega)
/-- what lies in memory while the law runs -/
structure St (wb : World) (G1 : Nat) (p : Int) (a1 : Option Addr) (n1 c1 : Nat) (xs : List Int) (G2 : Nat) (q : Int) (a2 : Option Addr) (n2 c2 : Nat) (ys : List Int) (aL : Option Addr) (nL cL : Nat) (L : List (List Int)) (aN : Option Addr) (nN cN : Nat) (N : List Int) (aT : Option Addr) (nT cT : Nat) (T : List Int) (W : World) : Prop where
  below : Below wb.heap.size wb W
  x1 : BoxF W G1 (.int .i64 p) (.slice a1 n1 c1)
  i1 : IntsAt W a1 n1 xs
  f1 : n1 ≤ c1
  x2 : BoxF W G2 (.int .i64 q) (.slice a2 n2 c2)
  i2 : IntsAt W a2 n2 ys
  f2 : n2 ≤ c2
  l : ∃ B U, Own2 W B U aL nL cL L
  n : IntsAt W aN nN N
  t : IntsAt W aT nT T
theorem St.keep {wb : World} {G1 : Nat} {p : Int} {a1 : Option Addr} {n1 c1 : Nat} {xs : List Int} {G2 : Nat} {q : Int} {a2 : Option Addr} {n2 c2 : Nat} {ys : List Int} {aL : Option Addr} {nL cL : Nat} {L : List (List Int)} {aN : Option Addr} {nN cN : Nat} {N : List Int} {aT : Option Addr} {nT cT : Nat} {T : List Int} {W W' : World}
    (h : St wb G1 p a1 n1 c1 xs G2 q a2 n2 c2 ys aL nL cL L aN nN cN N aT nT cT T W) (hb : Below W.heap.size W W') : St wb G1 p a1 n1 c1 xs G2 q a2 n2 c2 ys aL nL cL L aN nN cN N aT nT cT T W' :=
  ⟨h.below.trans (hb.mono h.below.size), h.x1.keep hb h.x1.lt, h.i1.keep hb, h.f1, h.x2.keep hb h.x2.lt, h.i2.keep hb, h.f2, by obtain ⟨B, U, h⟩ := h.l; exact ⟨B, U, h.keep hb⟩, h.n.keep hb, h.t.keep hb⟩

theorem leftM (p : Int) (xs : List Int) (d : Int) : ∃ L : List (List Int),
    (∀ W ad n c, IntsAt W ad n xs → n ≤ c → Calls Try.prog 18 #[.agg #[.int .i64 p, .slice ad n c], .int .i64 d] W (RetInts2 W L)) ∧
    (∀ W ad n c, IntsAt W ad n xs → n ≤ c → Calls Try.prog 13 #[.agg #[.int .i64 p, .slice ad n c], .int .i64 d] W (RetInts2 W L)) ∧ L.length ≤ 8000 ∧
    (∀ l, xs = up l → Anti p xs → 0 ≤ d → d ≤ 4 → (L.length : Int) = (leftN (cntOf (isFace l)) d.toNat : Int)) := by
  by_cases hL : LeftP p xs d
  · obtain ⟨h, hd0, hd4⟩ := id hL
    obtain ⟨l, rfl, hl2, hs, _⟩ := h.nat
    obtain ⟨m, rfl⟩ := Int.eq_ofNat_of_zero_le (show 0 ≤ p by have := h.1; omega)
    obtain ⟨d, rfl⟩ := Int.eq_ofNat_of_zero_le hd0
    have hm : m ≤ 6 := by have := h.2.1; omega
    have h1 : 1 ≤ m := by have := h.1; omega
    have hl64 : ∀ t ∈ l, t < 64 := fun t ht => (hl2 t ht).2
    obtain ⟨hM1, hM2⟩ := mono_sizes hm h1 (show d ≤ 5 by omega)
    refine ⟨pickL (fun e => isFace l (suppOf e)) (monoL (m - 1) [] d), fun W ad n c hx hc => sLeftM_yes m ad n c l d W hx h1 hm (by omega) h hl64, fun W ad n c hx hc => iLeftM_yes m ad n c l d W hx hc h1 hm (by omega) h hl64, ?_, fun l' he _ _ _ => ?_⟩
    · unfold pickL; rw [List.length_map]; exact Nat.le_trans (pickI_len _ _ _) hM1
    · have := up_inj he
      subst this
      exact mono_left h1 hm (by omega) (fun t ht => by have := (hl2 t ht).1; simpa using this) hl64
  · exact ⟨[], fun W ad n c hx hc => sLeftM_no p ad n c xs d W hx hL, fun W ad n c hx hc => iLeftM_no p ad n c xs d W hx hc hL, by simp, fun l _ hA h0 h4 => absurd ⟨hA, h0, h4⟩ hL⟩
theorem leftC (p : Int) (xs : List Int) (d : Int) : ∃ r : Int,
    (∀ W ad n c, IntsAt W ad n xs → n ≤ c → Calls Try.prog 20 #[.agg #[.int .i64 p, .slice ad n c], .int .i64 d] W fun e W' => e = .returned (.int .i64 r) ∧ Below W.heap.size W W') ∧
    (∀ W ad n c, IntsAt W ad n xs → n ≤ c → Calls Try.prog 19 #[.agg #[.int .i64 p, .slice ad n c], .int .i64 d] W fun e W' => e = .returned (.int .i64 r) ∧ Below W.heap.size W W') ∧
    (∀ l, xs = up l → Anti p xs → 0 ≤ d → d ≤ 20 → r = (leftN (cntOf (isFace l)) d.toNat : Int)) := by
  by_cases h : LcP p xs d
  · obtain ⟨h, h0, h20⟩ := h
    obtain ⟨l, rfl, hl2, hs, _⟩ := h.nat
    obtain ⟨d, rfl⟩ := Int.eq_ofNat_of_zero_le h0
    have hl64 : ∀ t ∈ l, t < 64 := fun t ht => (hl2 t ht).2
    exact ⟨_, fun W ad n c hx hc => sLeft_yes p ad n c l d W hx hc h hl64 (by omega), fun W ad n c hx hc => iLeft_yes p ad n c l d W hx hc h hl64 (by omega), fun l' he _ _ _ => by have := up_inj he; subst this; rfl⟩
  · exact ⟨-1, fun W ad n c hx hc => sLeft_no p ad n c xs d W hx h, fun W ad n c hx hc => iLeft_no p ad n c xs d W hx hc h, fun l _ hA h0 h20 => absurd ⟨hA, h0, h20⟩ h⟩
theorem long (p : Int) (xs : List Int) (f : List Nat) (hf : Cnts p xs f) : ∃ N : List Int,
    (∀ W ad n c, IntsAt W ad n xs → n ≤ c → Calls Try.prog 22 #[.agg #[.int .i64 p, .slice ad n c]] W (RetInts W N)) ∧
    (∀ W ad n c, IntsAt W ad n xs → n ≤ c → Calls Try.prog 15 #[.agg #[.int .i64 p, .slice ad n c]] W (RetInts W N)) ∧ (¬ Anti p xs → N = []) ∧ (Anti p xs → N = lnI f p.toNat f.length) := by
  by_cases h : Anti p xs
  · obtain ⟨m, rfl⟩ := Int.eq_ofNat_of_zero_le (show 0 ≤ p by have := h.1; omega)
    exact ⟨lnI f m f.length, fun W ad n c hx hc => sLong_yes m ad n c xs f W hx h hf, fun W ad n c hx hc => iLong_yes m ad n c xs f W hx hc h hf, fun hn => absurd h hn, fun _ => rfl⟩
  · exact ⟨[], fun W ad n c hx hc => sLong_no p ad n c xs W hx h, fun W ad n c hx hc => iLong_no p ad n c xs W hx hc h, fun _ => rfl, fun hA => absurd hA h⟩

set_option maxRecDepth 100000 in
set_option maxHeartbeats 4000000 in
theorem walk (w : World) (ad : Option Addr) (n c : Nat) (hs : CodeAt w ad n) :
    Calls Try.prog 4 #[.slice ad n c] w fun e w' => e = .returned (.bool true) ∧ Below w.heap.size w w' := by
  have HS := Lib.hid hs
  have hnm := hs.1
  clear hs
  by_cases hn : n ≤ 1048576
  · go_enter Try.func4, Try.ntmps4
    go_wp2_with (go_at_call 11; (with_reducible refine (big_no ad n c _ hn).mono ?_); rintro e w' ⟨rfl, rfl⟩)
    refine (drawLeftMonomials_any ad n c w HS.out hn).mono ?_
    rintro e w1 ⟨p, a1, n1, c1, xs, d, rfl, own1, hxl, hb1⟩
    have hb1w := hb1
    obtain ⟨W1, hW1⟩ : ∃ W1, W1 = w1.alloc (.cells #[.int .i64 p, .slice a1 n1 c1] 33) := ⟨_, rfl⟩
    have X1 : Hid (BoxF W1 w1.heap.size (.int .i64 p) (.slice a1 n1 c1)) := Lib.hid (by rw [hW1]; exact BoxF.new _ _ _ _)
    have HB1 : Hid (Below w.heap.size w W1) := Lib.hid (by rw [hW1]; exact hb1.alloc hb1.size _)
    have I1 : Hid (IntsAt W1 a1 n1 xs) := Lib.hid (by rw [hW1]; exact own1.reads.keep (by repeat (first | exact Below.refl _ _ | assumption | refine Below.setCell ?_ (by first | omega | (simp; done) | (simp; omega)) _ | refine Below.alloc ?_ (by first | omega | (simp; done) | (simp; omega)) _ | apply Below.drew)))
    have F1 := own1.cap
    have HW1 := Lib.hid hW1
    obtain ⟨G1, hG1⟩ : ∃ G1, G1 = w1.heap.size := ⟨_, rfl⟩
    rw [← hG1] at X1
    have HG1 := Lib.hid hG1
    obtain ⟨f, hf⟩ := Cnts.is p xs
    obtain ⟨L, hLs, hLi, hLl, hLc⟩ := leftM p xs d
    obtain ⟨N, hNs, hNi, hN0, hN1⟩ := long p xs f hf
    have HF := Lib.hid hf; have HLs := Lib.hid hLs; have HLi := Lib.hid hLi; have HLc := Lib.hid hLc; have HNs := Lib.hid hNs; have HNi := Lib.hid hNi; have HN0 := Lib.hid hN0; have HN1 := Lib.hid hN1
    clear hf hLs hLi hLc hNs hNi hN0 hN1 hW1 hG1 own1 hb1 hb1w
    go_wp2_with fail
    rw [← HG1.out, ← HW1.out]
    refine (HLi.out W1 a1 n1 c1 I1.out F1).mono ?_
    rintro e w2 ⟨aL, nL, cL, rfl, ownL, hb2⟩
    have HB2 := Lib.hid (HB1.out.trans (hb2.mono HB1.out.size))
    have X2 := Lib.hid (X1.out.keep hb2 X1.out.lt)
    have I2 := Lib.hid (I1.out.keep hb2)
    have L2 := Lib.hid ownL
    have HnL : Hid (nL = L.length) := Lib.hid ownL.len.symm
    have hn8 : nL ≤ 8000 := by rw [HnL.out]; exact hLl
    clear hb2 ownL
    go_wp2_with fail
    refine (drawLeftCount_any ad n c w2 (HS.out.keep HB2.out) hn).mono ?_
    rintro e w3 ⟨q, a2, n2, c2, ys, d2, rfl, own3, hyl, hb3⟩
    obtain ⟨W3, hW3⟩ : ∃ W3, W3 = w3.alloc (.cells #[.int .i64 q, .slice a2 n2 c2] 33) := ⟨_, rfl⟩
    have HB3 : Hid (Below w.heap.size w W3) := Lib.hid (by rw [hW3]; exact (HB2.out.trans (hb3.mono HB2.out.size)).alloc (Nat.le_trans HB2.out.size hb3.size) _)
    have hb3a : Below w2.heap.size w2 W3 := by rw [hW3]; exact hb3.alloc hb3.size _
    have X3 := Lib.hid (X2.out.keep hb3a X2.out.lt)
    have I3 := Lib.hid (I2.out.keep hb3a)
    have L3 := Lib.hid (L2.out.keep hb3a)
    have Y3 : Hid (BoxF W3 w3.heap.size (.int .i64 q) (.slice a2 n2 c2)) := Lib.hid (by rw [hW3]; exact BoxF.new _ _ _ _)
    have J3 : Hid (IntsAt W3 a2 n2 ys) := Lib.hid (by rw [hW3]; exact own3.reads.keep (by repeat (first | exact Below.refl _ _ | assumption | refine Below.setCell ?_ (by first | omega | (simp; done) | (simp; omega)) _ | refine Below.alloc ?_ (by first | omega | (simp; done) | (simp; omega)) _ | apply Below.drew)))
    have F2 := own3.cap
    obtain ⟨G2, hG2⟩ : ∃ G2, G2 = w3.heap.size := ⟨_, rfl⟩
    rw [← hG2] at Y3
    have HG2 := Lib.hid hG2; have HW3 := Lib.hid hW3
    obtain ⟨r, hRs, hRi, _⟩ := leftC q ys d2
    have HRs := Lib.hid hRs; have HRi := Lib.hid hRi
    clear hb3 hb3a own3 hW3 hG2 hRs hRi
    have bx := X3.out
    rw [HW3.out] at bx
    obtain ⟨b0, b1, _, _, _⟩ := bx
    go_wp2_with fail
    rw [← HG2.out, ← HW3.out]
    refine (HNi.out W3 a1 n1 c1 I3.out F1).mono ?_
    rintro e w4 ⟨aN, nN, cN, rfl, ownN, hb4⟩
    have HB4 := Lib.hid (HB3.out.trans (hb4.mono HB3.out.size))
    have X4 := Lib.hid (X3.out.keep hb4 X3.out.lt); have I4 := Lib.hid (I3.out.keep hb4); have L4 := Lib.hid (L3.out.keep hb4)
    have Y4 := Lib.hid (Y3.out.keep hb4 Y3.out.lt); have J4 := Lib.hid (J3.out.keep hb4); have N4 := Lib.hid ownN.reads
    clear hb4 ownN b0 b1
    obtain ⟨b0, b1, _, _, _⟩ := X4.out
    go_wp2_with fail
    refine (iTop_any p a1 n1 c1 xs f w4 I4.out F1 HF.out).mono ?_
    rintro e w5 ⟨aT, nT, cT, rfl, ownT, hb5⟩
    obtain ⟨T, hT⟩ : ∃ T, T = topOf (hOf f) := ⟨_, rfl⟩
    rw [← hT] at ownT
    have HT := Lib.hid hT
    have S5 : Hid (St w G1 p a1 n1 c1 xs G2 q a2 n2 c2 ys aL nL cL L aN nN cN N aT nT cT T w5) := Lib.hid ⟨HB4.out.trans (hb5.mono HB4.out.size), X4.out.keep hb5 X4.out.lt, I4.out.keep hb5, F1, Y4.out.keep hb5 Y4.out.lt, J4.out.keep hb5, F2, ⟨_, _, L4.out.keep hb5⟩, N4.out.keep hb5, ownT.reads⟩
    clear hb5 ownT b0 b1 hT X1 HB1 I1 HB2 X2 I2 L2 HB3 X3 I3 L3 Y3 J3 HB4 X4 I4 L4 Y4 J4 N4 HW1 HW3 HG1 HG2
    go_wp2_with fail
    obtain ⟨dg, hdg⟩ : ∃ dg, dg = isum (hOf f) f.length := ⟨_, rfl⟩
    have HDi : Hid (∀ W ad n c, IntsAt W ad n xs → n ≤ c → Calls Try.prog 24 #[.agg #[.int .i64 p, .slice ad n c]] W fun e W' => e = .returned (.int .i64 dg) ∧ Below W.heap.size W W') := Lib.hid (by rw [hdg]; exact fun W ad n c hx hc => iDeg_any p ad n c xs f W hx hc HF.out)
    have HDs : Hid (∀ W ad n c, IntsAt W ad n xs → n ≤ c → Calls Try.prog 25 #[.agg #[.int .i64 p, .slice ad n c]] W fun e W' => e = .returned (.int .i64 dg) ∧ Below W.heap.size W W') := Lib.hid (by rw [hdg]; exact fun W ad n c hx hc => sDeg_any p ad n c xs f W hx HF.out)
    have HTs : Hid (∀ W ad n c, IntsAt W ad n xs → n ≤ c → Calls Try.prog 23 #[.agg #[.int .i64 p, .slice ad n c]] W (RetInts W T)) := Lib.hid (by rw [HT.out]; exact fun W ad n c hx hc => sTop_any p ad n c xs f W hx HF.out)
    have HDG := Lib.hid hdg
    have hrr : (r != r) = false := by simp
    have hdd : (dg != dg) = false := by simp
    have SW := Lib.hid (S5.out.keep (W' := w5.drew) (Below.refl _ _).drew)
    have hcells : w5.cell? ⟨G1, 0, none⟩ = some (.int .i64 p) ∧ w5.cell? ⟨G1, 1, none⟩ = some (.slice a1 n1 c1) ∧ w5.cell? ⟨G2, 0, none⟩ = some (.int .i64 q) ∧ w5.cell? ⟨G2, 1, none⟩ = some (.slice a2 n2 c2) := ⟨S5.out.x1.c0, S5.out.x1.c1, S5.out.x2.c0, S5.out.x2.c1⟩
    clear hdg
    go_cut [71] (fun v W => v = .bool false ∧ St w G1 p a1 n1 c1 xs G2 q a2 n2 c2 ys aL nL cL L aN nN cN N aT nT cT T W)
    case first =>
      go_region_held3 (fun W => W.cell? ⟨G1, 0, none⟩ = some (.int .i64 p) ∧ W.cell? ⟨G1, 1, none⟩ = some (.slice a1 n1 c1) ∧ W.cell? ⟨G2, 0, none⟩ = some (.int .i64 q) ∧ W.cell? ⟨G2, 1, none⟩ = some (.slice a2 n2 c2)) (first | exact hcells | exact ⟨SW.out.x1.c0, SW.out.x1.c1, SW.out.x2.c0, SW.out.x2.c1⟩ | go_keep) (first
        | (go_simp; go_at_call 18; (with_reducible refine (HLs.out _ a1 n1 c1 SW.out.i1 SW.out.f1).mono ?_); rintro e w6 ⟨aM, nM, cM, rfl, ownM, hb6⟩; have SW := Lib.hid (SW.out.keep hb6); have HM := Lib.hid ownM; clear hb6 ownM)
        | (go_simp; go_at_call 17; (obtain ⟨BL, UL, hLO⟩ := SW.out.l); (with_reducible refine (sameLists_yes aL aM _ nM cL cM BL UL _ _ L _ hLO HM.out (by omega)).mono ?_); rintro e w6 ⟨rfl, hb6⟩; have SW := Lib.hid (SW.out.keep hb6); clear hb6 hLO)
        | (go_simp; go_at_call 19; (with_reducible refine (HRi.out _ a2 n2 c2 SW.out.i2 SW.out.f2).mono ?_); rintro e w6 ⟨rfl, hb6⟩; have SW := Lib.hid (SW.out.keep hb6); clear hb6)
        | (go_simp; go_at_call 20; (with_reducible refine (HRs.out _ a2 n2 c2 SW.out.i2 SW.out.f2).mono ?_); rintro e w6 ⟨rfl, hb6⟩; have SW := Lib.hid (SW.out.keep hb6); clear hb6)
        | (go_simp; go_at_call 22; (with_reducible refine (HNs.out _ a1 n1 c1 SW.out.i1 SW.out.f1).mono ?_); rintro e w6 ⟨aP, nP, cP, rfl, ownP, hb6⟩; have SW := Lib.hid (SW.out.keep hb6); have HP := Lib.hid ownP.reads; clear hb6 ownP)
        | (go_simp; go_at_call 23; (with_reducible refine (HTs.out _ a1 n1 c1 SW.out.i1 SW.out.f1).mono ?_); rintro e w6 ⟨aQ, nQ, cQ, rfl, ownQ, hb6⟩; have SW := Lib.hid (SW.out.keep hb6); have HQ := Lib.hid ownQ.reads; clear hb6 ownQ)
        | (go_simp; go_at_call 21; (with_reducible refine (sameInts_yes aN aP nN nP cN cP N N _ SW.out.n HP.out rfl).mono ?_); rintro e w6 ⟨rfl, hb6⟩; have SW := Lib.hid (SW.out.keep hb6); clear hb6)
        | (go_simp; go_at_call 21; (with_reducible refine (sameInts_yes aT aQ nT nQ cT cQ T T _ SW.out.t HQ.out rfl).mono ?_); rintro e w6 ⟨rfl, hb6⟩; have SW := Lib.hid (SW.out.keep hb6); clear hb6)
        | (go_simp; go_at_call 24; (with_reducible refine (HDi.out _ a1 n1 c1 SW.out.i1 SW.out.f1).mono ?_); rintro e w6 ⟨rfl, hb6⟩; have SW := Lib.hid (SW.out.keep hb6); clear hb6)
        | (go_simp; go_at_call 25; (with_reducible refine (HDs.out _ a1 n1 c1 SW.out.i1 SW.out.f1).mono ?_); rintro e w6 ⟨rfl, hb6⟩; have SW := Lib.hid (SW.out.keep hb6); clear hb6))
      all_goals (go_wp2_with fail; go_meet)
      all_goals exact ⟨rfl, SW.out⟩
    case rest =>
      obtain ⟨rfl, hst⟩ := hcut
      have SC := Lib.hid hst
      clear hst hcells SW S5 HLs HRs HRi HLi HNs HNi HTs HDs
      obtain ⟨b0, b1, _, _, _⟩ := SC.out.x1
      by_cases hA : Anti p xs
      · obtain ⟨l, rfl, hl2, hsrt, _⟩ := hA.nat
        obtain ⟨m, rfl⟩ := Int.eq_ofNat_of_zero_le (show 0 ≤ p by have := hA.1; omega)
        have hm6 : m ≤ 6 := by have := hA.2.1; omega
        have hm1 : 1 ≤ m := by have := hA.1; omega
        have hl64 : ∀ t ∈ l, t < 64 := fun t ht => (hl2 t ht).2
        have hfe : f = cntOf (isFace l) := by
          rcases HF.out with ⟨hno, _⟩ | ⟨l', he, _, _, hf⟩
          · exact absurd hA hno
          · have := up_inj he; subst this; exact hf
        obtain ⟨Tn, hTn⟩ : ∃ Tn, Tn = topTo (isFace l) 64 := ⟨_, rfl⟩
        have hT7 : Tn ≤ 7 := by rw [hTn]; exact topTo_le _ _
        have hfl : f.length = Tn := by rw [hfe, cntOf_len, hTn]
        obtain ⟨DV, hDV⟩ : ∃ DV : Int, DV = (Tn : Int) - 2 := ⟨_, rfl⟩
        have hln1 : l.length = n1 := by have := SC.out.i1.len; rwa [up_len] at this
        have hdim : ∀ W ad n c, IntsAt W ad n (up l) → Calls Try.prog 28 #[.agg #[.int .i64 m, .slice ad n c]] W fun e W' => e = .returned (.int .i64 DV) ∧ Below W.heap.size W W' := by
          intro W ad n c hx
          rw [hDV, hTn]
          by_cases h0 : 0 < n
          · exact sDim_yes m ad n c l W hx hA hl64 hsrt h0
          · have hn0 : l.length = 0 := by have := hx.len; rw [up_len] at this; omega
            have hl0 : l = [] := List.eq_nil_of_length_eq_zero hn0
            have : topTo (isFace l) 64 = 0 := by rw [hl0]; decide +kernel
            rw [this]
            exact sDim_no m ad n c (up l) W hx (fun h => by have := h.2; rw [up_len] at this; omega)
        have HDim := Lib.hid hdim; have HDV := Lib.hid hDV; have Hfl := Lib.hid hfl; have Hfe := Lib.hid hfe; have HTn := Lib.hid hTn
        have HA := Lib.hid hA; have Hl64 := Lib.hid hl64; have Hl2 := Lib.hid hl2; have Hsrt := Lib.hid hsrt; have Hln1 := Lib.hid hln1
        obtain ⟨r1, _, hr1, hr1v⟩ := leftC m (up l) d
        have Hr1 := Lib.hid hr1
        have Hr1v : Hid (0 ≤ d → d ≤ 4 → (nL : Int) = r1) := Lib.hid (fun h0 h4 => by rw [HnL.out, HLc.out l rfl hA h0 h4, hr1v l rfl hA h0 (by omega)])
        clear hdim hDV hfl hfe hTn hA hl64 hl2 hsrt hln1 hr1 hr1v
        go_wp2_with fail
        refine (sIsComplex_any m a1 n1 c1 (up l) wc SC.out.i1 true (by simp [HA.out])).mono ?_
        rintro e w9 ⟨rfl, hb9⟩
        have S9 := Lib.hid (SC.out.keep hb9)
        clear hb9 b0 b1 SC
        obtain ⟨b0, b1, _, _, _⟩ := S9.out.x1
        go_upto_region 12 with fail
        go_cut [91] (fun v W => v = .bool false ∧ St w G1 m a1 n1 c1 (up l) G2 q a2 n2 c2 ys aL nL cL L aN nN cN N aT nT cT T W)
        case first =>
          have hout : St w G1 m a1 n1 c1 (up l) G2 q a2 n2 c2 ys aL nL cL L aN nN cN N aT nT cT T w9 := S9.out
          by_cases h0 : 0 ≤ d
          · by_cases h4 : d ≤ 4
            · have hne : ((nL : Int) != r1) = false := by rw [Hr1v.out h0 h4]; simp
              go_wp2_with fail
              refine (Hr1.out w9 a1 n1 c1 S9.out.i1 S9.out.f1).mono ?_
              rintro e w10 ⟨rfl, hb10⟩
              have S10 := Lib.hid (S9.out.keep hb10)
              clear hb10
              go_wp2_with fail
              go_meet
              exact ⟨rfl, S10.out⟩
            · go_wp2_with fail
              go_meet
              exact ⟨rfl, hout⟩
          · go_wp2_with fail
            go_meet
            exact ⟨rfl, hout⟩
        case rest =>
          obtain ⟨rfl, hst⟩ := hcut
          have SC := Lib.hid hst
          clear hst S9 b0 b1 Hr1 Hr1v
          obtain ⟨D, hD⟩ : ∃ D, D = Tn - 1 := ⟨_, rfl⟩
          have hD6 : D ≤ 6 := by omega
          have HD := Lib.hid hD
          clear hD
          go_wp2_with fail
          go_loopw [10, 11] (fun r k wr => ∃ K : Nat, K ≤ n1 ∧ k = .int .i64 K ∧ r = .int .i64 (largeTo l D K : Nat) ∧ St w G1 m a1 n1 c1 (up l) G2 q a2 n2 c2 ys aL nL cL L aN nN cN N aT nT cT T wr) (fun _ k _ => n1 - (intOf k).toNat)
          case atStart => exact ⟨0, Nat.zero_le _, rfl, rfl, SC.out⟩
          case round =>
            obtain ⟨K, hK, rfl, rfl, hst⟩ := hrel
            have SR := Lib.hid hst
            clear hst
            obtain ⟨b0, b1, _, _, _⟩ := SR.out.x1
            by_cases hlt : K < n1
            · obtain ⟨ba, off, hae, hc⟩ := SR.out.i1.cells (by omega)
              subst hae
              have hck := hc K hlt
              rw [nth_up] at hck
              have hK0 : (0 : Int) ≤ K := by omega
              have hKn : (K : Int) < n1 := by omega
              have hKl : K < l.length := by rw [Hln1.out]; exact hlt
              have hT1 : 1 ≤ Tn := by
                rw [HTn.out, topTo_last Hsrt.out Hl64.out (by omega)]; omega
              have hsum : IntKind.i64.wrap (DV + 1) = (D : Int) := by rw [HDV.out, HD.out, show (Tn : Int) - 2 + 1 = ((Tn - 1 : Nat) : Int) by omega]; exact IntWalk.i64_in _ (by omega)
              obtain ⟨t, ht⟩ : ∃ t, t = nthN l K := ⟨_, rfl⟩
              have ht64 : t < 64 := by rw [ht]; exact Hl64.out _ (nthN_mem hKl)
              rw [← ht] at hck
              have Hlt := Lib.hid (largeTo_succ (D := D) hKl)
              rw [← ht] at Hlt
              have hlb : largeTo l D K ≤ K := by unfold largeTo; exact Nat.le_trans (List.length_filter_le _ _) (List.length_take_le _ _)
              have hn11 : n1 ≤ 1101 := by have := hxl; rw [up_len, Hln1.out] at this; exact this
              have SW := Lib.hid (SR.out.keep (W' := wr.drew) (Below.refl _ _).drew)
              have hcells : wr.cell? ⟨G1, 0, none⟩ = some (.int .i64 m) ∧ wr.cell? ⟨G1, 1, none⟩ = some (.slice (some ⟨ba, off, none⟩) n1 c1) ∧ wr.cell? ⟨ba, off + K, none⟩ = some (.int .i64 t) := ⟨b0, b1, hck⟩
              have HcK : Hid (∀ W, IntsAt W (some ⟨ba, off, none⟩) n1 (up l) → W.cell? ⟨ba, off + K, none⟩ = some (.int .i64 t)) := Lib.hid (fun W hW => by rw [hW.cellAt K hlt, nth_up, ht])
              clear hc hck ht b0 b1
              go_upto_region 18 with fail
              go_cut [108] (fun v W => v = .bool ((sz t : Int) == D) ∧ St w G1 m (some ⟨ba, off, none⟩) n1 c1 (up l) G2 q a2 n2 c2 ys aL nL cL L aN nN cN N aT nT cT T W)
              case first =>
                go_region_held3 (fun W => W.cell? ⟨G1, 0, none⟩ = some (.int .i64 m) ∧ W.cell? ⟨G1, 1, none⟩ = some (.slice (some ⟨ba, off, none⟩) n1 c1) ∧ W.cell? ⟨ba, off + K, none⟩ = some (.int .i64 t)) (first | exact hcells | exact ⟨SW.out.x1.c0, SW.out.x1.c1, HcK.out _ SW.out.i1⟩ | go_keep) (first
                  | (go_simp; go_at_call 27; (with_reducible refine (sSize_any t _ ht64).mono ?_); rintro e w' ⟨rfl, rfl⟩)
                  | (go_simp; go_at_call 28; (with_reducible refine (HDim.out _ _ _ _ SW.out.i1).mono ?_); rintro e w6 ⟨rfl, hb6⟩; have SW := Lib.hid (SW.out.keep hb6); clear hb6))
                all_goals (go_wp2_with fail; go_meet)
                all_goals exact ⟨rfl, SW.out⟩
              case rest =>
                obtain ⟨rfl, hst⟩ := hcut
                have SX := Lib.hid hst
                clear hst SW SR hcells
                by_cases hsz : sz t = D
                · have hszi : ((sz t : Int) == D) = true := by rw [hsz]; simp
                  have hl1 : largeTo l D (K + 1) = largeTo l D K + 1 := by rw [Hlt.out, if_pos hsz]
                  have Hl1 := Lib.hid hl1
                  clear hl1
                  go_wp2_with fail
                  go_roundw
                  case rel => exact ⟨K + 1, by omega, by go_num, by rw [Hl1.out]; go_num, SX.out⟩
                  case measure => simp [intOf]; omega
                · have hszi : ((sz t : Int) == D) = false := by simp; omega
                  have hl1 : largeTo l D (K + 1) = largeTo l D K := by rw [Hlt.out, if_neg hsz]; rfl
                  have Hl1 := Lib.hid hl1
                  clear hl1
                  go_wp2_with fail
                  go_roundw
                  case rel => exact ⟨K + 1, by omega, by go_num, by rw [Hl1.out], SX.out⟩
                  case measure => simp [intOf]; omega
            · obtain rfl : K = n1 := by omega
              have hlarge : dg = (largeTo l D K : Nat) := by
                have hlt2 : l.take K = l := List.take_of_length_le (by rw [Hln1.out]; exact Nat.le_refl _)
                rw [HDG.out]
                unfold largeTo
                rw [hlt2]
                by_cases hl0 : l.length = 0
                · have hl1 : l = [] := List.eq_nil_of_length_eq_zero hl0
                  have : topTo (isFace l) 64 = 0 := by rw [hl1]; decide +kernel
                  have hf0 : f.length = 0 := by rw [Hfl.out, HTn.out, this]
                  rw [hf0, hl1]; rfl
                · have htop := topTo_last Hsrt.out Hl64.out (by omega)
                  rw [← HTn.out] at htop
                  rw [h_sum f (by rw [Hfl.out]; omega) (by rw [Hfl.out]; exact hT7), Hfl.out, Hfe.out, ← HD.out]
                  rw [large_top Hl64.out (Hsrt.out.imp (fun h e => by subst e; omega)) (D := D) (by rw [← HTn.out, HD.out]; omega)]
              have HLG := Lib.hid hlarge
              have hlb : largeTo l D K ≤ 1101 := by have h1 : largeTo l D K ≤ l.length := by unfold largeTo; exact Nat.le_trans (List.length_filter_le _ _) (by rw [List.length_take]; omega)
                                                    have h2 := hxl; rw [up_len] at h2; omega
              obtain ⟨LG, hLG⟩ : ∃ LG, LG = largeTo l D K := ⟨_, rfl⟩
              rw [← hLG] at HLG hlb
              rw [← hLG]
              have hdl : (dg != (LG : Int)) = false := by rw [HLG.out]; simp
              have hN1 := HN1.out HA.out
              have hfb : ∀ x ∈ f, x ≤ 64 := by rw [Hfe.out]; exact cnt_le _
              have hf0 : 0 < f.length → nthN f 0 = 1 := by rw [Hfe.out]; exact cnt_zero
              have hfm : f.length ≤ m + 1 := cnt_pts (p := m) (m := m) rfl HF.out
              have HNb : Hid (∀ j, -15680000000000 ≤ nth N j ∧ nth N j ≤ 15680000000000) := Lib.hid (fun j => by
                rw [hN1, Int.toNat_natCast]
                have h1 := lnI_bd hfb hm6 f.length (Nat.le_refl _) j
                have h2 : f.length ≤ 7 := by omega
                omega)
              have HTb : Hid (∀ j, -15680000000000 ≤ nth T j ∧ nth T j ≤ 15680000000000) := Lib.hid (fun j => by
                rw [HT.out, nth_topOf]
                by_cases h : j < (hOf f).length
                · have := hOf_bd hfb (by omega) _ (nth_mem h); omega
                · have : nth (hOf f) j = 0 := by unfold nth; rw [List.getD_eq_getElem?_getD, List.getElem?_eq_none (by omega)]; rfl
                  omega)
              have HCL : Hid (∀ i : Nat, i ≤ 6 → ∀ W ad n c, IntsAt W ad n (up l) → n ≤ c → Calls Try.prog 19 #[.agg #[.int .i64 m, .slice ad n c], .int .i64 i] W fun e W' => e = .returned (.int .i64 (leftN f i : Nat)) ∧ Below W.heap.size W W') := Lib.hid (fun i hi W ad n c hx hc => by
                rw [Hfe.out]; exact iLeft_yes m ad n c l i W hx hc HA.out Hl64.out (by omega))
              have HSN : Hid (∀ i, i ≤ 6 → sm (fun j => nth N j * (monN m (i - j) : Int)) (i + 1) = (leftN f i : Int)) := Lib.hid (fun i hi => by
                rw [hN1, Int.toNat_natCast]; exact long_left f m i hm1 hm6 hfm hf0 hi)
              have HST : Hid (2 ≤ Tn → ∀ i, i ≤ 6 → sm (fun j => nth T j * (monN D (i - j) : Int)) (i + 1) = (leftN f i : Int)) := Lib.hid (fun h2 i hi => by
                have e : (fun j => nth T j * (monN D (i - j) : Int)) = fun j => nth (hOf f) j * (monN (f.length - 1) (i - j) : Int) := funext fun j => by rw [HT.out, nth_topOf, HD.out, Hfl.out]
                rw [e]; exact h_left f i (by rw [Hfl.out]; exact h2) (by rw [Hfl.out]; exact hT7) hf0 hi)
              clear hlarge hLG hN1 hfb hf0 hfm SC
              go_wp2_with fail
              refine (HDi.out wr a1 K c1 SR.out.i1 SR.out.f1).mono ?_
              rintro e w11 ⟨rfl, hb11⟩
              have S11 := Lib.hid (SR.out.keep hb11)
              clear hb11 SR b0 b1
              go_wp2_with fail
              go_loopw [12, 13, 14, 15, 16] (fun i _ _ _ _ wr => ∃ I : Nat, I ≤ 7 ∧ i = .int .i64 I ∧ St w G1 m a1 K c1 (up l) G2 q a2 n2 c2 ys aL nL cL L aN nN cN N aT nT cT T wr) (fun i _ _ _ _ _ => 7 - (intOf i).toNat)
              case atStart => exact ⟨0, Nat.zero_le _, rfl, S11.out⟩
              case round =>
                obtain ⟨wo, rfl⟩ : ∃ x : World, x = wr := ⟨_, rfl⟩
                obtain ⟨I, hI, rfl, hst⟩ := hrel
                have SO := Lib.hid hst
                clear hst
                by_cases hI6 : I ≤ 6
                · have hIi : (I : Int) ≤ 6 := by omega
                  go_wp2_with fail
                  go_loopw [13, 14] (fun s j wr => ∃ J : Nat, J ≤ I + 1 ∧ j = .int .i64 J ∧ s = .int .i64 (sm (fun j => nth N j * (monN m (I - j) : Int)) J) ∧ St w G1 m a1 K c1 (up l) G2 q a2 n2 c2 ys aL nL cL L aN nN cN N aT nT cT T wr) (fun _ j _ => I + 1 - (intOf j).toNat)
                  case atStart => exact ⟨0, Nat.zero_le _, rfl, rfl, SO.out⟩
                  case round =>
                    obtain ⟨J, hJ, rfl, rfl, hst⟩ := hrel
                    have SR := Lib.hid hst
                    clear hst
                    by_cases hJI : J ≤ I
                    · have hJi : (J : Int) ≤ I := by omega
                      have hij : IntKind.i64.wrap ((I : Int) - (J : Int)) = ((I - J : Nat) : Int) := by rw [show (I : Int) - (J : Int) = ((I - J : Nat) : Int) by omega]; exact IntWalk.i64_in _ (by omega)
                      obtain ⟨hw1, hw2⟩ := sum_step hm6 hI6 HNb.out J hJI
                      have HAt : Hid (∀ W, IntsAt W aN nN N → Calls Try.prog 29 #[.slice aN nN cN, .int .i64 J] W fun e w' => e = .returned (.int .i64 (nth N J)) ∧ W = w') := Lib.hid (fun W hW => at22_any aN nN cN J N W hW)
                      have HMo : Hid (∀ W, Calls Try.prog 30 #[.int .i64 m, .int .i64 ((I - J : Nat) : Int)] W fun e w' => e = .returned (.int .i64 (monN m (I - J) : Int)) ∧ W = w') := Lib.hid (fun W => mons_any m (I - J) W hm1 hm6 (by omega))
                      obtain ⟨S1, hS1⟩ : ∃ S1, S1 = sm (fun j => nth N j * (monN m (I - j) : Int)) J := ⟨_, rfl⟩
                      obtain ⟨S2, hS2⟩ : ∃ S2, S2 = sm (fun j => nth N j * (monN m (I - j) : Int)) (J + 1) := ⟨_, rfl⟩
                      obtain ⟨A, hA⟩ : ∃ A, A = nth N J := ⟨_, rfl⟩
                      obtain ⟨B, hB⟩ : ∃ B : Int, B = (monN m (I - J) : Int) := ⟨_, rfl⟩
                      rw [← hS1, ← hS2, ← hA, ← hB] at hw2
                      rw [← hA, ← hB] at hw1
                      rw [← hA] at HAt
                      rw [← hB] at HMo
                      rw [← hS1]
                      have HS2 := Lib.hid hS2
                      have SW := Lib.hid (SR.out.keep (W' := wr.drew) (Below.refl _ _).drew)
                      have hcells : wr.cell? ⟨G1, 0, none⟩ = some (.int .i64 m) := SR.out.x1.c0
                      obtain ⟨q9, hq9⟩ : ∃ q9 : Nat, q9 = I - J := ⟨_, rfl⟩
                      rw [← hq9] at hij HMo
                      clear hS1 hS2 hA hB hq9
                      go_wp2_with fail
                      go_region_held3 (fun W => W.cell? ⟨G1, 0, none⟩ = some (.int .i64 m)) (first | exact hcells | exact SW.out.x1.c0 | go_keep) (first
                        | (go_simp; go_at_call 29; (with_reducible refine (HAt.out _ SW.out.n).mono ?_); rintro e w' ⟨rfl, rfl⟩)
                        | (go_simp; go_at_call 30; (with_reducible refine (HMo.out _).mono ?_); rintro e w' ⟨rfl, rfl⟩))
                      all_goals (
                        go_wp2_with fail
                        go_roundw
                        case rel => exact ⟨J + 1, by omega, by go_num, by rw [HS2.out], SW.out⟩
                        case measure => simp [intOf]; omega)
                    · obtain rfl : J = I + 1 := by omega
                      have hJi : ¬ (((I + 1 : Nat) : Int) ≤ I) := by omega
                      rw [HSN.out I hI6]
                      obtain ⟨V, hV⟩ : ∃ V : Int, V = (leftN f I : Int) := ⟨_, rfl⟩
                      rw [← hV]
                      have HVe := Lib.hid hV
                      have hvv : (V != V) = false := by simp
                      clear hV
                      obtain ⟨wp, rfl⟩ : ∃ x : World, x = wr := ⟨_, rfl⟩
                      by_cases hT2 : 2 ≤ Tn
                      · have hDVi : (0 : Int) ≤ DV := by rw [HDV.out]; omega
                        have HSTI := Lib.hid (HST.out hT2 I hI6)
                        have hD1 : 1 ≤ D := by rw [HD.out]; omega
                        go_wp2_with fail
                        go_loopw [15, 16] (fun s j wr => ∃ J : Nat, J ≤ I + 1 ∧ j = .int .i64 J ∧ s = .int .i64 (sm (fun j => nth T j * (monN D (I - j) : Int)) J) ∧ St w G1 m a1 K c1 (up l) G2 q a2 n2 c2 ys aL nL cL L aN nN cN N aT nT cT T wr) (fun _ j _ => I + 1 - (intOf j).toNat)
                        case atStart => exact ⟨0, Nat.zero_le _, rfl, rfl, SR.out⟩
                        case round =>
                          clear SR
                          obtain ⟨J, hJ, rfl, rfl, hst⟩ := hrel
                          have SR := Lib.hid hst
                          clear hst
                          by_cases hJI : J ≤ I
                          · have hJi2 : (J : Int) ≤ I := by omega
                            have hij : IntKind.i64.wrap ((I : Int) - (J : Int)) = ((I - J : Nat) : Int) := by rw [show (I : Int) - (J : Int) = ((I - J : Nat) : Int) by omega]; exact IntWalk.i64_in _ (by omega)
                            have hdv1 : IntKind.i64.wrap (DV + 1) = (D : Int) := by rw [HDV.out, HD.out, show (Tn : Int) - 2 + 1 = ((Tn - 1 : Nat) : Int) by omega]; exact IntWalk.i64_in _ (by omega)
                            obtain ⟨hw1, hw2⟩ := sum_step hD6 hI6 HTb.out J hJI
                            have HAt : Hid (∀ W, IntsAt W aT nT T → Calls Try.prog 29 #[.slice aT nT cT, .int .i64 J] W fun e w' => e = .returned (.int .i64 (nth T J)) ∧ W = w') := Lib.hid (fun W hW => at22_any aT nT cT J T W hW)
                            have HMo : Hid (∀ W, Calls Try.prog 30 #[.int .i64 D, .int .i64 ((I - J : Nat) : Int)] W fun e w' => e = .returned (.int .i64 (monN D (I - J) : Int)) ∧ W = w') := Lib.hid (fun W => mons_any D (I - J) W hD1 hD6 (by omega))
                            obtain ⟨S1, hS1⟩ : ∃ S1, S1 = sm (fun j => nth T j * (monN D (I - j) : Int)) J := ⟨_, rfl⟩
                            obtain ⟨S2, hS2⟩ : ∃ S2, S2 = sm (fun j => nth T j * (monN D (I - j) : Int)) (J + 1) := ⟨_, rfl⟩
                            obtain ⟨A, hA⟩ : ∃ A, A = nth T J := ⟨_, rfl⟩
                            obtain ⟨B, hB⟩ : ∃ B : Int, B = (monN D (I - J) : Int) := ⟨_, rfl⟩
                            rw [← hS1, ← hS2, ← hA, ← hB] at hw2
                            rw [← hA, ← hB] at hw1
                            rw [← hA] at HAt
                            rw [← hB] at HMo
                            rw [← hS1]
                            have HS2 := Lib.hid hS2
                            obtain ⟨q9, hq9⟩ : ∃ q9 : Nat, q9 = I - J := ⟨_, rfl⟩
                            rw [← hq9] at hij HMo
                            clear hS1 hS2 hA hB hq9
                            obtain ⟨b0, b1, _, _, _⟩ := SR.out.x1
                            go_wp2_with fail
                            refine (HDim.out wr a1 K c1 SR.out.i1).mono ?_
                            rintro e w31 ⟨rfl, hb31⟩
                            have S31 := Lib.hid (SR.out.keep hb31)
                            clear hb31 SR b0 b1
                            have SW := Lib.hid (S31.out.keep (W' := w31.drew) (Below.refl _ _).drew)
                            have hcells : w31.cell? ⟨G1, 0, none⟩ = some (.int .i64 m) ∧ w31.cell? ⟨G1, 1, none⟩ = some (.slice a1 K c1) := ⟨S31.out.x1.c0, S31.out.x1.c1⟩
                            go_wp2_with fail
                            go_region_held3 (fun W => W.cell? ⟨G1, 0, none⟩ = some (.int .i64 m) ∧ W.cell? ⟨G1, 1, none⟩ = some (.slice a1 K c1)) (first | exact hcells | exact ⟨SW.out.x1.c0, SW.out.x1.c1⟩ | go_keep) (first
                              | (go_simp; go_at_call 29; (with_reducible refine (HAt.out _ SW.out.t).mono ?_); rintro e w' ⟨rfl, rfl⟩)
                              | (go_simp; go_at_call 28; (with_reducible refine (HDim.out _ _ _ _ SW.out.i1).mono ?_); rintro e w6 ⟨rfl, hb6⟩; have SW := Lib.hid (SW.out.keep hb6); clear hb6)
                              | (go_simp; go_at_call 30; (with_reducible refine (HMo.out _).mono ?_); rintro e w' ⟨rfl, rfl⟩))
                            all_goals (
                              go_wp2_with fail
                              go_roundw
                              case rel => exact ⟨J + 1, by omega, by go_num, by rw [HS2.out], SW.out⟩
                              case measure => simp [intOf]; omega)
                          · obtain rfl : J = I + 1 := by omega
                            rw [HSTI.out, ← HVe.out]
                            obtain ⟨b0, b1, _, _, _⟩ := SR.out.x1
                            go_wp2_with fail
                            refine (HCL.out I hI6 wr a1 K c1 SR.out.i1 SR.out.f1).mono ?_
                            rw [← HVe.out]
                            rintro e w21 ⟨rfl, hb21⟩
                            have S21 := Lib.hid (SR.out.keep hb21)
                            obtain ⟨b0, b1, _, _, _⟩ := S21.out.x1
                            clear hb21
                            go_wp2_with fail
                            refine (HDim.out w21 a1 K c1 S21.out.i1).mono ?_
                            rintro e w22 ⟨rfl, hb22⟩
                            have S22 := Lib.hid (S21.out.keep hb22)
                            clear hb22 b0 b1 S21
                            go_wp2_with fail
                            go_roundw
                            case rel => exact ⟨I + 1, by omega, by go_num, S22.out⟩
                            case measure => simp [intOf]; omega
                      · have hDVi : ¬ ((0 : Int) ≤ DV) := by rw [HDV.out]; omega
                        go_wp2_with fail
                        go_loopw [15, 16] (fun s j wr => j = .int .i64 0 ∧ s = .int .i64 0 ∧ St w G1 m a1 K c1 (up l) G2 q a2 n2 c2 ys aL nL cL L aN nN cN N aT nT cT T wr) (fun _ j _ => 0)
                        case atStart => exact ⟨rfl, rfl, SR.out⟩
                        case round =>
                          clear SR
                          obtain ⟨rfl, rfl, hst⟩ := hrel
                          have SR0 := Lib.hid hst
                          clear hst
                          obtain ⟨b0, b1, _, _, _⟩ := SR0.out.x1
                          go_wp2_with fail
                          refine (HDim.out wr a1 K c1 SR0.out.i1).mono ?_
                          rintro e w31 ⟨rfl, hb31⟩
                          have S31 := Lib.hid (SR0.out.keep hb31)
                          clear hb31 b0 b1 SR0
                          obtain ⟨wr, rfl⟩ : ∃ x : World, x = w31 := ⟨_, rfl⟩
                          have SR := S31
                          clear S31
                          obtain ⟨b0, b1, _, _, _⟩ := SR.out.x1
                          go_wp2_with fail
                          refine (HCL.out I hI6 wr a1 K c1 SR.out.i1 SR.out.f1).mono ?_
                          rw [← HVe.out]
                          rintro e w21 ⟨rfl, hb21⟩
                          have S21 := Lib.hid (SR.out.keep hb21)
                          obtain ⟨b0, b1, _, _, _⟩ := S21.out.x1
                          clear hb21
                          go_wp2_with fail
                          refine (HDim.out w21 a1 K c1 S21.out.i1).mono ?_
                          rintro e w22 ⟨rfl, hb22⟩
                          have S22 := Lib.hid (S21.out.keep hb22)
                          clear hb22 b0 b1 S21
                          go_wp2_with fail
                          go_roundw
                          case rel => exact ⟨I + 1, by omega, by go_num, S22.out⟩
                          case measure => simp [intOf]; omega
                · obtain rfl : I = 7 := by omega
                  have hIi : ¬ (((7 : Nat) : Int) ≤ 6) := by omega
                  go_wp2_with fail
                  go_ret
                  exact ⟨rfl, SO.out.below⟩
      · have hN0 := HN0.out hA
        have hn0 : nN = 0 := by rw [← SC.out.n.len, hN0]; rfl
        subst hn0
        go_wp2_with fail
        refine (sIsComplex_any p a1 n1 c1 xs wc SC.out.i1 false (by simp [hA])).mono ?_
        rintro e w9 ⟨rfl, hb9⟩
        have HB9 := Lib.hid (SC.out.keep hb9).below
        clear hb9
        go_wp2_with fail
        go_ret
        exact ⟨rfl, HB9.out⟩
  · have hbig : 1048576 < n := by omega
    go_enter Try.func4, Try.ntmps4
    go_wp2_with (go_at_call 11; (with_reducible refine (big_yes ad n c _ hbig hnm).mono ?_); rintro e w' ⟨rfl, rfl⟩)
    go_ret
    exact ⟨rfl, Below.refl _ _⟩

set_option maxRecDepth 100000 in
theorem lifted (os : Os) (started : os.Started) (H : Type) (enc : TypeId × Value → H) :
    ReturnsInHanded {} Try.checked os 4 .any (Rows.fnLeftSpec.pre6 enc Try.prog Try.f4 Rows.fnLeftRow.domain false) (Rows.fnLeftSpec.post enc Try.prog Try.f4 false true false false) := by
  refine returnsInHanded_of_change (C := Try.checked) own started (by kernel_rfl) Try.func4
    (ChangeSpec.witness6 (enc := enc) (C := Try.checked) false ⟨#[], #[.slice none 0 0], []⟩ 8 (by kernel_rfl) (by kernel_rfl) (by kernel_rfl) (by kernel_rfl)) ?_
  intro W base args ds gs before hval0 hW hcnd _
  have hval : ∀ (j : Nat) t v, Try.f4.params[j]? = some t → args[j]? = some v → Value.okWide Try.prog W .any base t v := hval0
  have hW2 := hW
  obtain ⟨p, q, hA0, hV, hpq, hfz, hnd⟩ := hW
  have hA : DataW.TrodAll enc Try.prog W 0 (fun _ => true) true Try.f4.params.toList args.toList ds p := hA0
  rw [Try.params4] at hA hval
  obtain ⟨v0, vs0, d0, ds0, p0, q0, hargs, rfl, hp0, h0, r0⟩ := trodAll_cons hA
  obtain ⟨rfl, rfl, _⟩ := trodAll_nil r0
  obtain rfl : args = #[v0] := by cases args; simp_all
  have hgs : gs = [] := (trodVars_none hV).1
  subst hgs
  obtain ⟨ad0, n0, c0, rfl⟩ := okWide_slice Try.underlying30 (hval 0 30 v0 rfl rfl)
  obtain ⟨fuel0, hf0⟩ := h0
  obtain ⟨ad0, n0, c0, e0, hs0⟩ := open_code hf0
  rw [e0]
  rw [e0] at hW2
  refine (walk W ad0 n0 c0 hs0).mono fun e W2 ⟨he, hb⟩ => ?_
  subst he
  exact ⟨_, rfl, law_post rfl hW2 (by kernel_rfl) rfl rfl rfl rfl hb⟩

theorem over : Rows.fnLeftRow.holds Try.pinned (OpenSpec.ofChange Rows.fnLeftSpec) :=
  OpenClaim.holds_of_wide 4 Try.f4 rfl rfl rfl rfl rfl rfl rfl ⟨rfl, rfl, rfl, rfl, rfl⟩ rfl rfl rfl rfl rfl (by kernel_rfl) Try.func4 (by kernel_rfl)
    (of_decide_eq_true (by kernel_rfl)) (by unfold Func.isWrapper; first | (rw [if_pos (by decide +kernel)]; kernel_rfl) | (rw [if_neg (by decide +kernel)]; exact ⟨rfl, rfl⟩))
    (fun os started H enc _ => lifted os started H enc)

/-- THE STATEMENT -/
theorem proved : Rows.FnLeftSaid := over
end Go.Proofs.Ytpoolkmcbeghjaa.lawFnLeft

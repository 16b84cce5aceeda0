/- The law FnColors: finer counts add up to counts, also of the h numbers of balanced complexes. No condition. -/
import Derived.Deep.RegionHeld3
import Derived.StillTailTactics
import Derived.Test.YtbdnlncpamandaaDrw6
import Derived.Test.YtbdnlncpamandaaDrw7
import Derived.Test.YtbdnlncpamandaaLeft
import Derived.Test.YtbdnlncpamandaaSameCol
namespace Go.Proofs.Ytbdnlncpamandaa.lawFnColors
set_option maxRecDepth 20000
open Go.ChangeShapes Go.WideShapes Go.ChangeAt Go.RowKit
set_option linter.unusedVariables false
set_option linter.unusedSimpArgs false

/-- what lies in memory while the law runs -/
structure St (wb : World) (G1 : Nat) (p : Int) (a1 : Option Addr) (n1 c1 : Nat) (xs : List Int) (a0 : Option Addr) (n0 c0 : Nat) (cs : List Int) (aF : Option Addr) (nF cF : Nat) (Fy : List Int) (aH : Option Addr) (nH cH : Nat) (Hy : List Int) (G2 : Nat) (q : Int) (a2 : Option Addr) (n2 c2 : Nat) (ys : List Int) (aX : Option Addr) (nX cX : Nat) (X : List Int) (aW : Option Addr) (nW cW : Nat) (G3 : Nat) (r3 : Int) (a3 : Option Addr) (n3 c3 : Nat) (zs : List Int) (W : World) : Prop where
  below : Below wb.heap.size wb W
  x1 : BoxF W G1 (.int .i64 p) (.slice a1 n1 c1)
  i1 : IntsAt W a1 n1 xs
  f1 : n1 ≤ c1
  i0 : IntsAt W a0 n0 cs
  f0 : n0 ≤ c0
  iF : IntsAt W aF nF Fy
  iH : IntsAt W aH nH Hy
  x2 : BoxF W G2 (.int .i64 q) (.slice a2 n2 c2)
  i2 : IntsAt W a2 n2 ys
  f2 : n2 ≤ c2
  iX : IntsAt W aX nX X
  fX : nX ≤ cX
  iW : IntsAt W aW nW X
  x3 : BoxF W G3 (.int .i64 r3) (.slice a3 n3 c3)
  i3 : IntsAt W a3 n3 zs
  f3 : n3 ≤ c3
theorem St.keep {wb : World} {G1 : Nat} {p : Int} {a1 : Option Addr} {n1 c1 : Nat} {xs : List Int} {a0 : Option Addr} {n0 c0 : Nat} {cs : List Int} {aF : Option Addr} {nF cF : Nat} {Fy : List Int} {aH : Option Addr} {nH cH : Nat} {Hy : List Int} {G2 : Nat} {q : Int} {a2 : Option Addr} {n2 c2 : Nat} {ys : List Int} {aX : Option Addr} {nX cX : Nat} {X : List Int} {aW : Option Addr} {nW cW : Nat} {G3 : Nat} {r3 : Int} {a3 : Option Addr} {n3 c3 : Nat} {zs : List Int} {W W' : World} (h : St wb G1 p a1 n1 c1 xs a0 n0 c0 cs aF nF cF Fy aH nH cH Hy G2 q a2 n2 c2 ys aX nX cX X aW nW cW G3 r3 a3 n3 c3 zs W) (hb : Below W.heap.size W W') : St wb G1 p a1 n1 c1 xs a0 n0 c0 cs aF nF cF Fy aH nH cH Hy G2 q a2 n2 c2 ys aX nX cX X aW nW cW G3 r3 a3 n3 c3 zs W' :=
  ⟨h.below.trans (hb.mono h.below.size), h.x1.keep hb h.x1.lt, h.i1.keep hb, h.f1, h.i0.keep hb, h.f0, h.iF.keep hb, h.iH.keep hb, h.x2.keep hb h.x2.lt, h.i2.keep hb, h.f2, h.iX.keep hb, h.fX, h.iW.keep hb, h.x3.keep hb h.x3.lt, h.i3.keep hb, h.f3⟩

set_option maxRecDepth 100000 in
set_option maxHeartbeats 20000000 in
theorem walk (w : World) (ad : Option Addr) (n c : Nat) (hs : CodeAt w ad n) :
    Calls Try.prog 3 #[.slice ad n c] w fun e w' => e = .returned (.bool true) ∧ Below w.heap.size w w' := by
  have HS := Lib.hid hs
  have hnm := hs.1
  clear hs
  by_cases hn : n ≤ 1048576
  · go_enter Try.func3, Try.ntmps3
    go_wp2_with (go_at_call 6; (with_reducible refine (big_no ad n c _ hn).mono ?_); rintro e w' ⟨rfl, rfl⟩)
    have HS0 := HS
    refine (drawColors_any ad n c w HS.out hn).mono ?_
    rintro e w1 ⟨p, a1, n1, c1, xs, a0, n0, c0, cs, rfl, own1, hxl, own0, hcl, hb1⟩
    have HB1 : Hid (Below w.heap.size w w1) := Lib.hid hb1
    have I1_1 : Hid (IntsAt w1 a1 n1 xs) := Lib.hid (own1.reads)
    have I0_1 : Hid (IntsAt w1 a0 n0 cs) := Lib.hid (own0.reads)
    have F1 := own1.cap; have F0 := own0.cap
    clear hb1 own1 own0
    obtain ⟨W2, hW2⟩ : ∃ W, W = w1.alloc (.cells #[.int .i64 p, .slice a1 n1 c1] 26) := ⟨_, rfl⟩
    obtain ⟨G1, hG2⟩ : ∃ G, G = w1.heap.size := ⟨_, rfl⟩
    have hbx : Below w1.heap.size w1 W2 := by rw [hW2]; exact (by repeat (first | exact Below.refl _ _ | assumption | refine Below.setCell ?_ (by first | omega | (simp; done) | (simp; omega)) _ | refine Below.alloc ?_ (by first | omega | (simp; done) | (simp; omega)) _ | apply Below.drew))
    have HW2 := Lib.hid hW2; have HG2 := Lib.hid hG2
    have HB2 : Hid (Below w.heap.size w W2) := Lib.hid (HB1.out.trans (hbx.mono HB1.out.size))
    have I1_2 := Lib.hid (I1_1.out.keep hbx)
    have I0_2 := Lib.hid (I0_1.out.keep hbx)
    have X1_2 : Hid (BoxF W2 G1 (.int .i64 p) (.slice a1 n1 c1)) := Lib.hid (by rw [hW2, hG2]; exact BoxF.new _ _ _ _)
    clear hbx hW2 hG2 HB1 I1_1 I0_1
    obtain ⟨b, Fy, Hy, hcs, hci, hfs, hfi, hhs, hhi, hyes, hno⟩ := col3 p xs cs
    have HCS := Lib.hid hcs; have HCI := Lib.hid hci; have HFS := Lib.hid hfs; have HFI := Lib.hid hfi; have HHS := Lib.hid hhs; have HHI := Lib.hid hhi; have HYES := Lib.hid hyes; have HNO := Lib.hid hno
    clear hcs hci hfs hfi hhs hhi hyes hno
    go_wp2_with fail
    rw [← HG2.out, ← HW2.out]
    refine (HFI.out _ a1 n1 c1 I1_2.out F1 a0 n0 c0 I0_2.out F0).mono ?_
    rintro e w3 ⟨aF, nF, cF, rfl, ownF, hb⟩
    have HB3 : Hid (Below w.heap.size w w3) := Lib.hid (HB2.out.trans (hb.mono HB2.out.size))
    have I1_3 := Lib.hid (I1_2.out.keep hb)
    have I0_3 := Lib.hid (I0_2.out.keep hb)
    have X1_3 := Lib.hid (X1_2.out.keep hb X1_2.out.lt)
    have IV_3 : Hid (IntsAt w3 aF nF Fy) := Lib.hid (ownF.reads)
    clear hb HB2 I1_2 I0_2 X1_2
    clear ownF
    obtain ⟨q0X1, q1X1, _, _, _⟩ := X1_3.out
    go_wp2_with fail
    refine (HHI.out _ a1 n1 c1 I1_3.out F1 a0 n0 c0 I0_3.out F0).mono ?_
    rintro e w4 ⟨aH, nH, cH, rfl, ownH, hb⟩
    have HB4 : Hid (Below w.heap.size w w4) := Lib.hid (HB3.out.trans (hb.mono HB3.out.size))
    have I1_4 := Lib.hid (I1_3.out.keep hb)
    have I0_4 := Lib.hid (I0_3.out.keep hb)
    have X1_4 := Lib.hid (X1_3.out.keep hb X1_3.out.lt)
    have IV_4 := Lib.hid (IV_3.out.keep hb)
    have IH_4 : Hid (IntsAt w4 aH nH Hy) := Lib.hid (ownH.reads)
    clear hb HB3 I1_3 I0_3 X1_3 IV_3 q0X1 q1X1
    clear ownH
    go_wp2_with fail
    refine (drawFirstColoring_any ad n c w4 (HS.out.keep HB4.out) hn).mono ?_
    rintro e w5 ⟨q, a2, n2, c2, ys, k2, rfl, own2, hyl, hb⟩
    have HB5 : Hid (Below w.heap.size w w5) := Lib.hid (HB4.out.trans (hb.mono HB4.out.size))
    have I1_5 := Lib.hid (I1_4.out.keep hb)
    have I0_5 := Lib.hid (I0_4.out.keep hb)
    have X1_5 := Lib.hid (X1_4.out.keep hb X1_4.out.lt)
    have IV_5 := Lib.hid (IV_4.out.keep hb)
    have IH_5 := Lib.hid (IH_4.out.keep hb)
    have I2_5 : Hid (IntsAt w5 a2 n2 ys) := Lib.hid (own2.reads)
    clear hb HB4 I1_4 I0_4 X1_4 IV_4 IH_4
    have F2 := own2.cap
    clear own2
    obtain ⟨W6, hW6⟩ : ∃ W, W = w5.alloc (.cells #[.int .i64 q, .slice a2 n2 c2] 26) := ⟨_, rfl⟩
    obtain ⟨G2, hG6⟩ : ∃ G, G = w5.heap.size := ⟨_, rfl⟩
    have hbx : Below w5.heap.size w5 W6 := by rw [hW6]; exact (by repeat (first | exact Below.refl _ _ | assumption | refine Below.setCell ?_ (by first | omega | (simp; done) | (simp; omega)) _ | refine Below.alloc ?_ (by first | omega | (simp; done) | (simp; omega)) _ | apply Below.drew))
    have HW6 := Lib.hid hW6; have HG6 := Lib.hid hG6
    have HB6 : Hid (Below w.heap.size w W6) := Lib.hid (HB5.out.trans (hbx.mono HB5.out.size))
    have I1_6 := Lib.hid (I1_5.out.keep hbx)
    have I0_6 := Lib.hid (I0_5.out.keep hbx)
    have X1_6 := Lib.hid (X1_5.out.keep hbx X1_5.out.lt)
    have IV_6 := Lib.hid (IV_5.out.keep hbx)
    have IH_6 := Lib.hid (IH_5.out.keep hbx)
    have I2_6 := Lib.hid (I2_5.out.keep hbx)
    have X2_6 : Hid (BoxF W6 G2 (.int .i64 q) (.slice a2 n2 c2)) := Lib.hid (by rw [hW6, hG6]; exact BoxF.new _ _ _ _)
    clear hbx hW6 hG6 HB5 I1_5 I0_5 X1_5 IV_5 IH_5 I2_5
    obtain ⟨X, ok, rl, hxs, hxi, hll, hok, hle⟩ := first3 q ys k2
    have HXS := Lib.hid hxs; have HXI := Lib.hid hxi; have HLL := Lib.hid hll; have HOK := Lib.hid hok; have HLE := Lib.hid hle
    clear hxs hxi hll hok hle
    go_wp2_with fail
    rw [← HG6.out, ← HW6.out]
    refine (HXI.out _ a2 n2 c2 I2_6.out F2).mono ?_
    rintro e w7 ⟨aX, nX, cX, rfl, ownX, hb⟩
    have HB7 : Hid (Below w.heap.size w w7) := Lib.hid (HB6.out.trans (hb.mono HB6.out.size))
    have I1_7 := Lib.hid (I1_6.out.keep hb)
    have I0_7 := Lib.hid (I0_6.out.keep hb)
    have X1_7 := Lib.hid (X1_6.out.keep hb X1_6.out.lt)
    have IV_7 := Lib.hid (IV_6.out.keep hb)
    have IH_7 := Lib.hid (IH_6.out.keep hb)
    have I2_7 := Lib.hid (I2_6.out.keep hb)
    have X2_7 := Lib.hid (X2_6.out.keep hb X2_6.out.lt)
    have IX_7 : Hid (IntsAt w7 aX nX X) := Lib.hid (ownX.reads)
    clear hb HB6 I1_6 I0_6 X1_6 IV_6 IH_6 I2_6 X2_6
    have FX := ownX.cap
    clear ownX
    obtain ⟨q0X2, q1X2, _, _, _⟩ := X2_7.out
    go_wp2_with fail
    refine (HXS.out _ a2 n2 c2 I2_7.out F2).mono ?_
    rintro e w8 ⟨aW, nW, cW, rfl, ownW, hb⟩
    have HB8 : Hid (Below w.heap.size w w8) := Lib.hid (HB7.out.trans (hb.mono HB7.out.size))
    have I1_8 := Lib.hid (I1_7.out.keep hb)
    have I0_8 := Lib.hid (I0_7.out.keep hb)
    have X1_8 := Lib.hid (X1_7.out.keep hb X1_7.out.lt)
    have IV_8 := Lib.hid (IV_7.out.keep hb)
    have IH_8 := Lib.hid (IH_7.out.keep hb)
    have I2_8 := Lib.hid (I2_7.out.keep hb)
    have X2_8 := Lib.hid (X2_7.out.keep hb X2_7.out.lt)
    have IX_8 := Lib.hid (IX_7.out.keep hb)
    have IW_8 : Hid (IntsAt w8 aW nW X) := Lib.hid (ownW.reads)
    clear hb HB7 I1_7 I0_7 X1_7 IV_7 IH_7 I2_7 X2_7 IX_7 q0X2 q1X2
    clear ownW
    go_wp2_with fail
    refine (drawIsBalanced_any ad n c w8 (HS.out.keep HB8.out) hn).mono ?_
    rintro e w9 ⟨r3, a3, n3, c3, zs, rfl, own3, hzl, hb⟩
    have HB9 : Hid (Below w.heap.size w w9) := Lib.hid (HB8.out.trans (hb.mono HB8.out.size))
    have I1_9 := Lib.hid (I1_8.out.keep hb)
    have I0_9 := Lib.hid (I0_8.out.keep hb)
    have X1_9 := Lib.hid (X1_8.out.keep hb X1_8.out.lt)
    have IV_9 := Lib.hid (IV_8.out.keep hb)
    have IH_9 := Lib.hid (IH_8.out.keep hb)
    have I2_9 := Lib.hid (I2_8.out.keep hb)
    have X2_9 := Lib.hid (X2_8.out.keep hb X2_8.out.lt)
    have IX_9 := Lib.hid (IX_8.out.keep hb)
    have IW_9 := Lib.hid (IW_8.out.keep hb)
    have I3_9 : Hid (IntsAt w9 a3 n3 zs) := Lib.hid (own3.reads)
    clear hb HB8 I1_8 I0_8 X1_8 IV_8 IH_8 I2_8 X2_8 IX_8 IW_8
    have F3 := own3.cap
    clear own3
    obtain ⟨W10, hW10⟩ : ∃ W, W = w9.alloc (.cells #[.int .i64 r3, .slice a3 n3 c3] 26) := ⟨_, rfl⟩
    obtain ⟨G3, hG10⟩ : ∃ G, G = w9.heap.size := ⟨_, rfl⟩
    have hbx : Below w9.heap.size w9 W10 := by rw [hW10]; exact (by repeat (first | exact Below.refl _ _ | assumption | refine Below.setCell ?_ (by first | omega | (simp; done) | (simp; omega)) _ | refine Below.alloc ?_ (by first | omega | (simp; done) | (simp; omega)) _ | apply Below.drew))
    have HW10 := Lib.hid hW10; have HG10 := Lib.hid hG10
    have HB10 : Hid (Below w.heap.size w W10) := Lib.hid (HB9.out.trans (hbx.mono HB9.out.size))
    have I1_10 := Lib.hid (I1_9.out.keep hbx)
    have I0_10 := Lib.hid (I0_9.out.keep hbx)
    have X1_10 := Lib.hid (X1_9.out.keep hbx X1_9.out.lt)
    have IV_10 := Lib.hid (IV_9.out.keep hbx)
    have IH_10 := Lib.hid (IH_9.out.keep hbx)
    have I2_10 := Lib.hid (I2_9.out.keep hbx)
    have X2_10 := Lib.hid (X2_9.out.keep hbx X2_9.out.lt)
    have IX_10 := Lib.hid (IX_9.out.keep hbx)
    have IW_10 := Lib.hid (IW_9.out.keep hbx)
    have I3_10 := Lib.hid (I3_9.out.keep hbx)
    have X3_10 : Hid (BoxF W10 G3 (.int .i64 r3) (.slice a3 n3 c3)) := Lib.hid (by rw [hW10, hG10]; exact BoxF.new _ _ _ _)
    clear hbx hW10 hG10 HB9 I1_9 I0_9 X1_9 IV_9 IH_9 I2_9 X2_9 IX_9 IW_9 I3_9
    have S0 : Hid (St w G1 p a1 n1 c1 xs a0 n0 c0 cs aF nF cF Fy aH nH cH Hy G2 q a2 n2 c2 ys aX nX cX X aW nW cW G3 r3 a3 n3 c3 zs W10) := Lib.hid ⟨HB10.out, X1_10.out, I1_10.out, F1, I0_10.out, F0, IV_10.out, IH_10.out, X2_10.out, I2_10.out, F2, IX_10.out, FX, IW_10.out, X3_10.out, I3_10.out, F3⟩
    clear I1_10 I0_10 X1_10 IV_10 IH_10 I2_10 X2_10 IX_10 IW_10 I3_10 X3_10 HB10
    go_wp2_with fail
    rw [← HG10.out, ← HW10.out]
    obtain ⟨le, hls, hli, _⟩ := least2 r3 zs
    obtain ⟨bb, hbs, hbi⟩ := bal2 r3 zs
    have HLS := Lib.hid hls; have HLI := Lib.hid hli; have HBS := Lib.hid hbs; have HBI := Lib.hid hbi
    have hoo : (ok != ok) = false := by simp
    have hbb : (b != b) = false := by simp
    have hb2 : (bb != bb) = false := by simp
    have hll : (le != le) = false := by simp
    have SW := Lib.hid (S0.out.keep (W' := W10.drew) (Below.refl _ _).drew)
    have hcells : W10.cell? ⟨G1, 0, none⟩ = some (.int .i64 p) ∧ W10.cell? ⟨G1, 1, none⟩ = some (.slice a1 n1 c1) ∧ W10.cell? ⟨G3, 0, none⟩ = some (.int .i64 r3) ∧ W10.cell? ⟨G3, 1, none⟩ = some (.slice a3 n3 c3) := ⟨S0.out.x1.c0, S0.out.x1.c1, S0.out.x3.c0, S0.out.x3.c1⟩
    clear hls hli hbs hbi
    go_cut [103] (fun v W => v = .bool false ∧ St w G1 p a1 n1 c1 xs a0 n0 c0 cs aF nF cF Fy aH nH cH Hy G2 q a2 n2 c2 ys aX nX cX X aW nW cW G3 r3 a3 n3 c3 zs W)
    case first =>
      as_aux_lemma =>
        go_region_held3 (fun W => W.cell? ⟨G1, 0, none⟩ = some (.int .i64 p) ∧ W.cell? ⟨G1, 1, none⟩ = some (.slice a1 n1 c1) ∧ W.cell? ⟨G3, 0, none⟩ = some (.int .i64 r3) ∧ W.cell? ⟨G3, 1, none⟩ = some (.slice a3 n3 c3)) (first | exact hcells | exact ⟨SW.out.x1.c0, SW.out.x1.c1, SW.out.x3.c0, SW.out.x3.c1⟩ | go_keep) (first
          | (go_simp; go_at_call 15; (with_reducible refine (HFS.out _ a1 n1 c1 SW.out.i1 SW.out.f1 a0 n0 c0 SW.out.i0 SW.out.f0).mono ?_); rintro e w9 ⟨aP, nP, cP, rfl, ownP, hb9⟩; have SW := Lib.hid (SW.out.keep hb9); have HP := Lib.hid ownP.reads; clear ownP; clear hb9)
          | (go_simp; go_at_call 14; (with_reducible refine (sameInts_yes aF aP nF nP cF cP Fy Fy _ SW.out.iF HP.out rfl).mono ?_); rintro e w9 ⟨rfl, hb9⟩; have SW := Lib.hid (SW.out.keep hb9); clear HP; clear hb9)
          | (go_simp; go_at_call 16; (with_reducible refine (HHS.out _ a1 n1 c1 SW.out.i1 SW.out.f1 a0 n0 c0 SW.out.i0 SW.out.f0).mono ?_); rintro e w9 ⟨aQ, nQ, cQ, rfl, ownQ, hb9⟩; have SW := Lib.hid (SW.out.keep hb9); have HQ := Lib.hid ownQ.reads; clear ownQ; clear hb9)
          | (go_simp; go_at_call 14; (with_reducible refine (sameInts_yes aH aQ nH nQ cH cQ Hy Hy _ SW.out.iH HQ.out rfl).mono ?_); rintro e w9 ⟨rfl, hb9⟩; have SW := Lib.hid (SW.out.keep hb9); clear HQ; clear hb9)
          | (go_simp; go_at_call 14; (with_reducible refine (sameInts_yes aX aW nX nW cX cW X X _ SW.out.iX SW.out.iW rfl).mono ?_); rintro e w9 ⟨rfl, hb9⟩; have SW := Lib.hid (SW.out.keep hb9); clear hb9)
          | (go_simp; go_at_call 17; (with_reducible refine (HLI.out _ a3 n3 c3 SW.out.i3 SW.out.f3).mono ?_); rintro e w9 ⟨rfl, hb9⟩; have SW := Lib.hid (SW.out.keep hb9); clear hb9)
          | (go_simp; go_at_call 18; (with_reducible refine (HLS.out _ a3 n3 c3 SW.out.i3 SW.out.f3).mono ?_); rintro e w9 ⟨rfl, hb9⟩; have SW := Lib.hid (SW.out.keep hb9); clear hb9)
          | (go_simp; go_at_call 19; (with_reducible refine (HBI.out _ a3 n3 c3 SW.out.i3 SW.out.f3).mono ?_); rintro e w9 ⟨rfl, hb9⟩; have SW := Lib.hid (SW.out.keep hb9); clear hb9)
          | (go_simp; go_at_call 20; (with_reducible refine (HBS.out _ a3 n3 c3 SW.out.i3 SW.out.f3).mono ?_); rintro e w9 ⟨rfl, hb9⟩; have SW := Lib.hid (SW.out.keep hb9); clear hb9)
          | (go_simp; go_at_call 21; (with_reducible refine (HCI.out _ a1 n1 c1 SW.out.i1 SW.out.f1 a0 n0 c0 SW.out.i0 SW.out.f0).mono ?_); rintro e w9 ⟨rfl, hb9⟩; have SW := Lib.hid (SW.out.keep hb9); clear hb9)
          | (go_simp; go_at_call 22; (with_reducible refine (HCS.out _ a1 n1 c1 SW.out.i1 SW.out.f1 a0 n0 c0 SW.out.i0 SW.out.f0).mono ?_); rintro e w9 ⟨rfl, hb9⟩; have SW := Lib.hid (SW.out.keep hb9); clear hb9))
        all_goals (go_wp2_with fail; go_meet)
        all_goals exact ⟨rfl, SW.out⟩
    case rest =>
      obtain ⟨rfl, hst⟩ := hcut
      have SC := Lib.hid hst
      clear hst hcells SW S0 HLS HLI HBS HBI HFS HFI HHS HHI HXS HXI HCS
      obtain ⟨d0, d1, _, _, _⟩ := SC.out.x2
      go_upto_region 12 with fail
      go_cut [110] (fun v W => v = .bool false ∧ St w G1 p a1 n1 c1 xs a0 n0 c0 cs aF nF cF Fy aH nH cH Hy G2 q a2 n2 c2 ys aX nX cX X aW nW cW G3 r3 a3 n3 c3 zs W)
      case first =>
        have hout : St w G1 p a1 n1 c1 xs a0 n0 c0 cs aF nF cF Fy aH nH cH Hy G2 q a2 n2 c2 ys aX nX cX X aW nW cW G3 r3 a3 n3 c3 zs wc := SC.out
        cases ok
        · go_wp2_with fail
          go_meet
          exact ⟨rfl, hout⟩
        · go_wp2_with fail
          refine (HOK.out (by simp) _ a2 n2 c2 SC.out.i2 SC.out.f2 aX nX cX SC.out.iX SC.out.fX).mono ?_
          rintro e w9 ⟨rfl, hb9⟩
          have S9 := Lib.hid (SC.out.keep hb9)
          clear hb9
          go_wp2_with fail
          go_meet
          exact ⟨rfl, S9.out⟩
      case rest =>
        clear SC d0 d1 HOK
        obtain ⟨rfl, hst⟩ := hcut
        have SC := Lib.hid hst
        clear hst
        obtain ⟨d0, d1, _, _, _⟩ := SC.out.x2
        go_upto_region 14 with fail
        go_cut [128] (fun v W => v = .bool false ∧ St w G1 p a1 n1 c1 xs a0 n0 c0 cs aF nF cF Fy aH nH cH Hy G2 q a2 n2 c2 ys aX nX cX X aW nW cW G3 r3 a3 n3 c3 zs W)
        case first =>
          as_aux_lemma =>
            obtain ⟨bc, hbc⟩ : ∃ bc : Bool, bc = true ↔ Anti q ys := by
              by_cases h : Anti q ys
              · exact ⟨true, by simp [h]⟩
              · exact ⟨false, by simp [h]⟩
            have HBC := Lib.hid hbc
            clear hbc
            go_wp2_with fail
            refine (sIsComplex_any q a2 n2 c2 ys _ SC.out.i2 bc HBC.out).mono ?_
            rintro e w9 ⟨rfl, hb9⟩
            have S9 := Lib.hid (SC.out.keep hb9)
            have hout : St w G1 p a1 n1 c1 xs a0 n0 c0 cs aF nF cF Fy aH nH cH Hy G2 q a2 n2 c2 ys aX nX cX X aW nW cW G3 r3 a3 n3 c3 zs w9 := S9.out
            obtain ⟨e0, e1, _, _, _⟩ := S9.out.x2
            clear hb9 d0 d1
            cases bc
            · go_wp2_with fail
              go_meet
              exact ⟨rfl, hout⟩
            · by_cases h1 : 1 ≤ k2
              · by_cases h6 : k2 ≤ 6
                · have hle := HLE.out (HBC.out.1 rfl) h1 h6
                  have hne : (ok != decide (rl ≤ k2)) = false := by rw [hle]; simp
                  have hne2 : (ok == decide (rl ≤ k2)) = true := by rw [hle]; simp
                  clear hle
                  go_wp2_with fail
                  refine (HLL.out _ a2 n2 c2 S9.out.i2 S9.out.f2).mono ?_
                  rintro e w10 ⟨rfl, hb10⟩
                  have S10 := Lib.hid (S9.out.keep hb10)
                  clear hb10
                  go_wp2_with fail
                  go_meet
                  exact ⟨by first | rfl | simp [hne2], S10.out⟩
                · go_wp2_with fail
                  go_meet
                  exact ⟨rfl, hout⟩
              · go_wp2_with fail
                go_meet
                exact ⟨rfl, hout⟩
        case rest =>
          clear SC d0 d1 HLE HLL
          obtain ⟨rfl, hst⟩ := hcut
          have SC := Lib.hid hst
          clear hst
          obtain ⟨d0, d1, _, _, _⟩ := SC.out.x1
          cases b
          · obtain ⟨hF, hH⟩ := HNO.out rfl
            have hnF : nF = 0 := by rw [← SC.out.iF.len, hF]; rfl
            have hnH : nH = 0 := by rw [← SC.out.iH.len, hH]; rfl
            subst hnF; subst hnH
            go_wp2_with fail
            refine (HCI.out _ a1 n1 c1 SC.out.i1 SC.out.f1 a0 n0 c0 SC.out.i0 SC.out.f0).mono ?_
            rintro e w9 ⟨rfl, hb9⟩
            have HB9 := Lib.hid (SC.out.keep hb9).below
            clear hb9
            go_wp2_with fail
            go_ret
            exact ⟨rfl, HB9.out⟩
          · as_aux_lemma =>
              obtain ⟨l, hxe, hA, hQ0, hFe, hHe⟩ := HYES.out (by simp)
              subst hxe; subst hFe; subst hHe
              obtain ⟨m, rfl⟩ := Int.eq_ofNat_of_zero_le (show 0 ≤ p by have := hA.1; omega)
              rw [Int.toNat_natCast] at hQ0
              have hm6 : m ≤ 6 := by have := hA.2.1; omega
              obtain ⟨l', hle', hl2, hsrt, _⟩ := hA.nat
              obtain rfl := up_inj hle'
              have hl64 : ∀ t ∈ l, t < 64 := fun t ht => (hl2 t ht).2
              have hlm : ∀ t ∈ l, t < 2 ^ m := fun t ht => by have := (hl2 t ht).1; simpa using this
              have hnF : nF = 64 := by rw [← SC.out.iF.len, up_len]; exact tly_len _ _
              have hnH : nH = 64 := by rw [← SC.out.iH.len, chTo_len]
              subst hnF; subst hnH
              obtain ⟨f, hf⟩ : ∃ f, f = cntOf (isFace l) := ⟨_, rfl⟩
              have hC : Cnts m (up l) f := .inr ⟨l, rfl, hA, hl64, hf⟩
              have HC := Lib.hid hC; have HQ := Lib.hid hQ0; have Hf := Lib.hid hf; have HA := Lib.hid hA; have Hl64 := Lib.hid hl64; have Hlm := Lib.hid hlm; have Hsrt := Lib.hid hsrt
              have hln1 : l.length = n1 := by have := SC.out.i1.len; rwa [up_len] at this
              have Hln1 := Lib.hid hln1
              have hn0m : n0 = m := by rw [← SC.out.i0.len]; exact hQ0.1.1
              have hn06 : n0 ≤ 6 := by omega
              have Hn0m := Lib.hid hn0m
              have Hcl : Hid (cs.length = n0) := Lib.hid SC.out.i0.len
              clear hC hQ0 hf hA hl64 hlm hsrt hln1 hn0m hle' hl2
              go_wp2_with fail
              refine (sCounts_any m a1 n1 c1 (up l) f _ SC.out.i1 HC.out).mono ?_
              rintro e w9 ⟨aK, nK, cK, rfl, ownK, hb9⟩
              have S9 := Lib.hid (SC.out.keep hb9)
              have HK := Lib.hid ownK.reads
              clear hb9 ownK d0 d1 SC
              go_wp2_with (at_make; refine mk_ints rfl _ _ rfl 7 rfl rfl 7 rfl (by omega) ?_; intro gs w10 hown10 hb10; have HO10 := Lib.hid hown10; have HB10 := Lib.hid hb10; clear hown10 hb10)
              have hz9 : w9.heap.size ≤ w10.heap.size := HB10.out.size
              go_loopw [17] (fun i wr => ∃ S : Nat, S ≤ 64 ∧ i = .int .i64 S ∧ Below w9.heap.size w9 wr ∧ Own 3 wr w9.heap.size (some ⟨gs, 0, none⟩) 7 7 (szRow (nth (up (colC l cs))) S)) (fun i _ => 64 - (intOf i).toNat)
              case atStart => exact ⟨0, by omega, rfl, HB10.out, by rw [szRow_zero]; exact HO10.out⟩
              case round =>
                obtain ⟨S, hS, rfl, hbr, hown⟩ := hrel
                have HBr := Lib.hid hbr; have HO := Lib.hid hown
                have SR := Lib.hid (S9.out.keep hbr)
                clear hbr hown
                by_cases hlt : S < 64
                · have hSi : (S : Int) < 64 := by omega
                  have hS0 : (0 : Int) ≤ S := by omega
                  obtain ⟨bf, of, hbf, hcf⟩ := SR.out.iF.cells (by omega)
                  subst hbf
                  have hcS := hcf S hlt
                  obtain ⟨gq, hgq, hgB, hgl, hcell, hfro⟩ := Row.cells HO.out (by omega)
                  simp only [Option.some.injEq, Addr.mk.injEq, and_true] at hgq
                  subst hgq
                  have hs6 := sz_le S
                  have hcz := HO.out.reads.cellAt (sz S) (by omega)
                  rw [szRow_at _ _ (by omega), Nat.zero_add] at hcz
                  have hfz := hfro (sz S)
                  have hsz0 : (0 : Int) ≤ (sz S : Int) := by omega
                  have hsz7 : (sz S : Int) < 7 := by omega
                  have hv := colC_bd l cs S
                  have hu := szSum_bd (by omega) (colC_bd l cs) (sz S) S
                  have hset := szRow_succ (nth (up (colC l cs))) S
                  obtain ⟨v, hve⟩ : ∃ v, v = nth (up (colC l cs)) S := ⟨_, rfl⟩
                  obtain ⟨u, hue⟩ : ∃ u, u = szSum (nth (up (colC l cs))) (sz S) S := ⟨_, rfl⟩
                  rw [← hve] at hcS hv hset
                  rw [← hue] at hcz hu hset
                  have hwadd : IntKind.i64.wrap (u + v) = u + v := IntWalk.i64_in _ (by omega)
                  have hwadd2 : wrap64 (u + v) = u + v := IntWalk.wrap64_in _ (by omega)
                  have hO1 := HO.out.set (sz S) (u + v)
                  rw [hset] at hO1
                  have hB1 : Below w9.heap.size w9 (wr.setCell ⟨gs, sz S, none⟩ (.int .i64 (u + v))) := HBr.out.setCell hgB _
                  have HO1 := Lib.hid hO1; have HB1 := Lib.hid hB1; have Hw2 := Lib.hid hwadd2
                  clear hcf hcell hfro hset hve hue hO1 hB1 hwadd2 hu hv
                  have HZ : Hid (∀ W, Calls Try.prog 25 #[.int .i64 S] W fun e w' => e = .returned (.int .i64 (sz S)) ∧ w' = W) := Lib.hid fun W => (sSize_any S W hlt).mono fun e w' h => ⟨h.1, h.2.symm⟩
                  have HBd : Hid (Below w9.heap.size w9 (wr.drew.setCell ⟨gs, sz S, none⟩ (.int .i64 (u + v)))) := Lib.hid (by rw [World.setCell_drew]; exact HB1.out.drew)
                  have HOd : Hid (Own 3 (wr.drew.setCell ⟨gs, sz S, none⟩ (.int .i64 (u + v))) w9.heap.size (some ⟨gs, 0, none⟩) 7 7 (szRow (nth (up (colC l cs))) (S + 1))) := Lib.hid (by rw [World.setCell_drew]; exact HO1.out.drew)
                  go_wp2_with fail
                  go_still_tail 14, (by kernel_rfl)
                  still_call (HZ.out _)
                  repeat still_step
                  still_call (HZ.out _)
                  repeat still_step
                  refine wpStill_nil ?_
                  change wpList _ _ _ _ _ wr.drew
                  have hfz2 : wr.drew.frozen? ⟨gs, sz S, none⟩ = false := hfz
                  have hcz2 : wr.drew.cell? ⟨gs, sz S, none⟩ = some (.int .i64 u) := hcz
                  go_wp2_with fail
                  go_roundw
                  case rel => exact ⟨S + 1, by omega, by go_num, HBd.out, HOd.out⟩
                  case measure => simp [intOf]; omega
                · obtain rfl : S = 64 := by omega
                  go_wp2_with fail
                  go_loop [16, 18] (fun u i => ∃ K : Nat, K ≤ n0 ∧ i = .int .i64 K ∧ u = .int .i64 (useTo cs K : Nat)) (fun _ i => n0 - (intOf i).toNat)
                  case atStart => exact ⟨0, Nat.zero_le _, rfl, rfl⟩
                  case round =>
                    obtain ⟨K, hK, rfl, rfl⟩ := hrel
                    by_cases hKn : K < n0
                    · obtain ⟨b2, o2, hae, hc⟩ := SR.out.i0.cells (by omega)
                      subst hae
                      have hcj := hc K hKn
                      obtain ⟨Y, hY, hY5⟩ := nat_col (HQ.out.1.2 K (by rw [Hcl.out]; exact hKn))
                      rw [hY] at hcj
                      have HY9 : Hid ((nth cs K).toNat = Y) := Lib.hid (by omega)
                      have hJ0 : (0 : Int) ≤ K := by omega
                      have hJn : (K : Int) < n0 := by omega
                      have hwX : IntKind.u64.wrap (Y : Int) = (Y : Int) := by rw [IntKind.wrap_u64]; omega
                      have hmX : min Y 64 = Y := by omega
                      have hX6 : Y < 6 := by omega
                      have hX8 : Y < 8 := by omega
                      obtain ⟨R, hR⟩ : ∃ R, R = useTo cs K := ⟨_, rfl⟩
                      have hR64 : R < 64 := by rw [hR]; exact useTo_lt HQ.out.1.2 K (by rw [Hcl.out]; omega)
                      have HR1 : Hid (useTo cs (K + 1) = R ||| 2 ^ Y) := Lib.hid (by rw [useTo, ← hR, HY9.out])
                      rw [← hR]
                      have hor := w_or6bit R Y hR64 hX6
                      clear hc hY hR
                      go_wp2_with fail
                      go_round
                      case rel => exact ⟨K + 1, by omega, by go_num, by rw [HR1.out]⟩
                      case measure => simp [intOf]; omega
                    · obtain rfl : K = n0 := by omega
                      obtain ⟨U, hUe⟩ : ∃ U, U = useTo cs K := ⟨_, rfl⟩
                      have hU64 : U < 64 := by rw [hUe]; exact useTo_lt HQ.out.1.2 K (by rw [Hcl.out]; omega)
                      rw [← hUe]
                      have HUe := Lib.hid hUe
                      have HSum : Hid (∀ i, szSum (nth (up (colC l cs))) i 64 = nth (up f) i) := Lib.hid (fun i => by rw [Hf.out]; exact sums_are hm6 HQ.out Hlm.out i)
                      have HBs := Lib.hid HBr.out; have HOs := Lib.hid HO.out; have HIs := Lib.hid (HK.out.keep HBr.out)
                      clear hUe HO HBr SR
                      go_wp2_with fail
                      go_loopw [19] (fun i wr => ∃ I : Nat, I ≤ 7 ∧ i = .int .i64 I ∧ Below w9.heap.size w9 wr ∧ Own 3 wr w9.heap.size (some ⟨gs, 0, none⟩) 7 7 (szRow (nth (up (colC l cs))) 64) ∧ IntsAt wr aK nK (up f)) (fun i _ => 7 - (intOf i).toNat)
                      case atStart => exact ⟨0, by omega, rfl, HBs.out, HOs.out, HIs.out⟩
                      case round =>
                        clear HBs HOs HIs
                        obtain ⟨I, hI, rfl, hbr, hown, hiv⟩ := hrel
                        have HBr := Lib.hid hbr; have HO := Lib.hid hown; have HV := Lib.hid hiv
                        clear hbr hown hiv
                        by_cases hlt : I < 7
                        · have hIi : (I : Int) < 7 := by omega
                          have hI0 : (0 : Int) ≤ I := by omega
                          have hcz := HO.out.reads.cellAt I hlt
                          rw [Nat.zero_add, szRow_at _ _ hlt, HSum.out I] at hcz
                          obtain ⟨y, hy⟩ : ∃ y, y = nth (up f) I := ⟨_, rfl⟩
                          have Hat : Hid (∀ W, IntsAt W aK nK (up f) → Calls Try.prog 26 #[.slice aK nK cK, .int .i64 I] W fun e w' => e = .returned (.int .i64 y) ∧ W = w') := Lib.hid (fun W hW => by rw [hy]; exact at22_any _ _ _ I _ W hW)
                          rw [← hy] at hcz
                          have hyy : (y != y) = false := by simp
                          have HVd := Lib.hid HV.out.drew
                          have hgl9 : gs < wr.heap.size := (HO.out.lt gs rfl).2
                          clear hy
                          go_wp2_with fail
                          go_region_held3 (fun W => W.cell? ⟨gs, I, none⟩ = some (.int .i64 y)) (first | exact hcz | go_keep) (first
                            | (go_simp; go_at_call 26; (with_reducible refine (Hat.out _ HVd.out).mono ?_); rintro e w' ⟨rfl, rfl⟩))
                          all_goals (
                            go_wp2_with fail
                            go_roundw
                            case rel => exact ⟨I + 1, by omega, by go_num, HBr.out.drew, HO.out.drew, HV.out.drew⟩
                            case measure => simp [intOf]; omega)
                        · obtain rfl : I = 7 := by omega
                          obtain ⟨Tn, hTn⟩ : ∃ Tn, Tn = topTo (isFace l) 64 := ⟨_, rfl⟩
                          have hT7 : Tn ≤ 7 := by rw [hTn]; exact topTo_le _ _
                          have hfl : f.length = Tn := by rw [Hf.out, cntOf_len, hTn]
                          obtain ⟨DV, hDV⟩ : ∃ DV : Int, DV = (Tn : Int) - 2 := ⟨_, rfl⟩
                          obtain ⟨E, hE⟩ : ∃ E : Int, E = (Tn : Int) - 1 := ⟨_, rfl⟩
                          have hdv1 : IntKind.i64.wrap (DV + 1) = E := by rw [hDV, hE, show (Tn : Int) - 2 + 1 = (Tn : Int) - 1 by omega]; exact IntWalk.i64_in _ (by omega)
                          have hdim : ∀ W ad n c, IntsAt W ad n (up l) → Calls Try.prog 27 #[.agg #[.int .i64 m, .slice ad n c]] W fun e W' => e = .returned (.int .i64 DV) ∧ Below W.heap.size W W' := by
                            intro W ad n c hx
                            rw [hDV, hTn]
                            by_cases h0 : 0 < n
                            · exact sDim_yes m ad n c l W hx HA.out Hl64.out Hsrt.out h0
                            · have hn0 : l.length = 0 := by have := hx.len; rw [up_len] at this; omega
                              have hl0 : l = [] := List.eq_nil_of_length_eq_zero hn0
                              have : topTo (isFace l) 64 = 0 := by rw [hl0]; decide +kernel
                              rw [this]
                              exact sDim_no m ad n c (up l) W hx (fun h => by have := h.2; rw [up_len] at this; omega)
                          have HDim := Lib.hid hdim; have HE := Lib.hid hE; have Hfl := Lib.hid hfl
                          clear hdim hE hfl hDV hTn
                          have SR := Lib.hid (S9.out.keep HBr.out)
                          have SW := Lib.hid (SR.out.keep (W' := wr.drew) (Below.refl _ _).drew)
                          have HBd : Hid (Below w9.heap.size w9 wr.drew) := Lib.hid HBr.out.drew
                          have hcells : wr.cell? ⟨G1, 0, none⟩ = some (.int .i64 m) ∧ wr.cell? ⟨G1, 1, none⟩ = some (.slice a1 n1 c1) := ⟨SR.out.x1.c0, SR.out.x1.c1⟩
                          have hz1 : w9.heap.size ≤ wr.heap.size := HBr.out.size
                          go_wp2_with fail
                          go_cut [201] (fun v W => v = .bool ((sz U : Int) != E) ∧ Below w9.heap.size w9 W)
                          case first =>
                            as_aux_lemma =>
                              go_region_held3 (fun W => W.cell? ⟨G1, 0, none⟩ = some (.int .i64 m) ∧ W.cell? ⟨G1, 1, none⟩ = some (.slice a1 n1 c1)) (first | exact hcells | exact ⟨SW.out.x1.c0, SW.out.x1.c1⟩ | go_keep) (first
                                | (go_simp; go_at_call 25; (with_reducible refine (sSize_any U _ hU64).mono ?_); rintro e w' ⟨rfl, rfl⟩)
                                | (go_simp; go_at_call 27; (with_reducible refine (HDim.out _ _ _ _ SW.out.i1).mono ?_); rintro e w6 ⟨rfl, hb6⟩; have HBd : Hid (Below w9.heap.size w9 w6) := Lib.hid (HBd.out.trans (hb6.mono hz1)); have SW := Lib.hid (SW.out.keep hb6); clear hb6))
                              all_goals (go_wp2_with fail; go_meet)
                              all_goals exact ⟨rfl, HBd.out⟩
                          case rest =>
                            obtain ⟨rfl, hbw⟩ := hcut
                            have HBw := Lib.hid hbw
                            clear hbw hcells SW HBd SR HO HBr hz1
                            by_cases hEq : (sz U : Int) = E
                            · have hne : ((sz U : Int) != E) = false := by simp [hEq]
                              have HszU : Hid (sz U = f.length - 1) := Lib.hid (by have := HE.out; rw [Hfl.out]; omega)
                              clear hEq
                              go_wp2_with (at_make; refine mk_ints rfl _ _ rfl 7 rfl rfl 7 rfl (by omega) ?_; intro g2 w12 hown12 hb12; have HO12 := Lib.hid (Own.mono hown12 HBw.out.size); have HB12 := Lib.hid (HBw.out.trans (hb12.mono HBw.out.size)); clear hown12 hb12)
                              go_loopw [21] (fun i wr => ∃ S : Nat, S ≤ 64 ∧ i = .int .i64 S ∧ Below w9.heap.size w9 wr ∧ Own 3 wr w9.heap.size (some ⟨g2, 0, none⟩) 7 7 (szRow (onU (nth (chTo (colC l cs) 64)) U) S)) (fun i _ => 64 - (intOf i).toNat)
                              case atStart => exact ⟨0, by omega, rfl, HB12.out, by rw [szRow_zero]; exact HO12.out⟩
                              case round =>
                                obtain ⟨S, hS, rfl, hbr, hown⟩ := hrel
                                have HBr := Lib.hid hbr; have HO := Lib.hid hown
                                have SR := Lib.hid (S9.out.keep hbr)
                                clear hbr hown
                                by_cases hlt : S < 64
                                · have hSi : (S : Int) < 64 := by omega
                                  have hS0 : (0 : Int) ≤ S := by omega
                                  have hand := w_and S U hlt hU64
                                  cases hsub : sub S U
                                  · have hcond : (((S &&& U : Nat) : Int) == (S : Int)) = false := by rw [castBeq]; exact hsub
                                    have Hsk := Lib.hid (szRow_skip (h := nth (chTo (colC l cs) 64)) hsub)
                                    clear hsub
                                    go_wp2_with fail
                                    go_roundw
                                    case rel => exact ⟨S + 1, by omega, by go_num, HBr.out, by rw [Hsk.out]; exact HO.out⟩
                                    case measure => simp [intOf]; omega
                                  · have hcond : (((S &&& U : Nat) : Int) == (S : Int)) = true := by rw [castBeq]; exact hsub
                                    obtain ⟨bf, of, hbf, hcf⟩ := SR.out.iH.cells (by omega)
                                    subst hbf
                                    have hcS := hcf S hlt
                                    obtain ⟨gq, hgq, hgB, hgl, hcell, hfro⟩ := Row.cells HO.out (by omega)
                                    simp only [Option.some.injEq, Addr.mk.injEq, and_true] at hgq
                                    subst hgq
                                    have hs6 := sz_le S
                                    have hcz := HO.out.reads.cellAt (sz S) (by omega)
                                    rw [szRow_at _ _ (by omega), Nat.zero_add] at hcz
                                    have hfz := hfro (sz S)
                                    have hsz0 : (0 : Int) ≤ (sz S : Int) := by omega
                                    have hsz7 : (sz S : Int) < 7 := by omega
                                    have hv := chTo_bd l cs S
                                    have hu := szSum_bd (by omega) (onU_bd (by omega) (chTo_bd l cs) U) (sz S) S
                                    have hset := szRow_succ (onU (nth (chTo (colC l cs) 64)) U) S
                                    have hon : onU (nth (chTo (colC l cs) 64)) U S = nth (chTo (colC l cs) 64) S := by unfold onU; rw [hsub]; rfl
                                    rw [hon] at hset
                                    obtain ⟨v, hve⟩ : ∃ v, v = nth (chTo (colC l cs) 64) S := ⟨_, rfl⟩
                                    obtain ⟨u, hue⟩ : ∃ u, u = szSum (onU (nth (chTo (colC l cs) 64)) U) (sz S) S := ⟨_, rfl⟩
                                    rw [← hve] at hcS hv hset
                                    rw [← hue] at hcz hu hset
                                    have hwadd : IntKind.i64.wrap (u + v) = u + v := IntWalk.i64_in _ (by omega)
                                    have hO1 := HO.out.set (sz S) (u + v)
                                    rw [hset] at hO1
                                    have hB1 : Below w9.heap.size w9 (wr.setCell ⟨g2, sz S, none⟩ (.int .i64 (u + v))) := HBr.out.setCell hgB _
                                    have HO1 := Lib.hid hO1; have HB1 := Lib.hid hB1
                                    clear hcf hcell hfro hset hve hue hO1 hB1 hu hv hon hsub
                                    have HZ : Hid (∀ W, Calls Try.prog 25 #[.int .i64 S] W fun e w' => e = .returned (.int .i64 (sz S)) ∧ w' = W) := Lib.hid fun W => (sSize_any S W hlt).mono fun e w' h => ⟨h.1, h.2.symm⟩
                                    have HBd : Hid (Below w9.heap.size w9 (wr.drew.setCell ⟨g2, sz S, none⟩ (.int .i64 (u + v)))) := Lib.hid (by rw [World.setCell_drew]; exact HB1.out.drew)
                                    have HOd : Hid (Own 3 (wr.drew.setCell ⟨g2, sz S, none⟩ (.int .i64 (u + v))) w9.heap.size (some ⟨g2, 0, none⟩) 7 7 (szRow (onU (nth (chTo (colC l cs) 64)) U) (S + 1))) := Lib.hid (by rw [World.setCell_drew]; exact HO1.out.drew)
                                    go_wp2_with fail
                                    go_still_tail 14, (by kernel_rfl)
                                    still_call (HZ.out _)
                                    repeat still_step
                                    still_call (HZ.out _)
                                    repeat still_step
                                    refine wpStill_nil ?_
                                    change wpList _ _ _ _ _ wr.drew
                                    have hfz2 : wr.drew.frozen? ⟨g2, sz S, none⟩ = false := hfz
                                    have hcz2 : wr.drew.cell? ⟨g2, sz S, none⟩ = some (.int .i64 u) := hcz
                                    go_wp2_with fail
                                    go_roundw
                                    case rel => exact ⟨S + 1, by omega, by go_num, HBd.out, HOd.out⟩
                                    case measure => simp [intOf]; omega
                                · obtain rfl : S = 64 := by omega
                                  obtain ⟨d0, d1, _, _, _⟩ := SR.out.x1
                                  go_wp2_with fail
                                  refine (sH_any m a1 n1 c1 (up l) f wr SR.out.i1 HC.out).mono ?_
                                  rintro e w14 ⟨aM, nM, cM, rfl, ownM, hb14⟩
                                  have HBs : Hid (Below w9.heap.size w9 w14) := Lib.hid (HBr.out.trans (hb14.mono HBr.out.size))
                                  have HOs : Hid (Own 3 w14 w9.heap.size (some ⟨g2, 0, none⟩) 7 7 (szRow (onU (nth (chTo (colC l cs) 64)) (useTo cs K)) 64)) := Lib.hid (by have := HO.out.keep hb14; rwa [HUe.out] at this)
                                  have HIs := Lib.hid ownM.reads
                                  have HFine : Hid (∀ i, i < 7 → fineSum (nth (chTo (colC l cs) 64)) (useTo cs K) i 64 = nth (hOf f) i) := Lib.hid (fun i hi => by
                                    have h := fine_are hm6 HQ.out Hlm.out (by rw [Hcl.out, ← HUe.out, ← Hf.out]; exact HszU.out) hi
                                    rw [Hcl.out, ← Hf.out] at h
                                    exact h)
                                  clear hb14 ownM d0 d1 HO HBr
                                  go_wp2_with fail
                                  go_loopw [23] (fun i wr => ∃ I : Nat, I ≤ 7 ∧ i = .int .i64 I ∧ Below w9.heap.size w9 wr ∧ Own 3 wr w9.heap.size (some ⟨g2, 0, none⟩) 7 7 (szRow (onU (nth (chTo (colC l cs) 64)) (useTo cs K)) 64) ∧ IntsAt wr aM nM (hOf f)) (fun i _ => 7 - (intOf i).toNat)
                                  case atStart => exact ⟨0, by omega, rfl, HBs.out, HOs.out, HIs.out⟩
                                  case round =>
                                    clear HBs HOs HIs
                                    obtain ⟨I, hI, rfl, hbr, hown, hiv⟩ := hrel
                                    have HBr := Lib.hid hbr; have HO := Lib.hid hown; have HV := Lib.hid hiv
                                    clear hbr hown hiv
                                    by_cases hlt : I < 7
                                    · have hIi : (I : Int) < 7 := by omega
                                      have hI0 : (0 : Int) ≤ I := by omega
                                      have hcz := HO.out.reads.cellAt I hlt
                                      rw [Nat.zero_add, szRow_at _ _ hlt, fine_onU, HFine.out I hlt] at hcz
                                      obtain ⟨y, hy⟩ : ∃ y, y = nth (hOf f) I := ⟨_, rfl⟩
                                      have Hat : Hid (∀ W, IntsAt W aM nM (hOf f) → Calls Try.prog 26 #[.slice aM nM cM, .int .i64 I] W fun e w' => e = .returned (.int .i64 y) ∧ W = w') := Lib.hid (fun W hW => by rw [hy]; exact at22_any _ _ _ I _ W hW)
                                      rw [← hy] at hcz
                                      have hyy : (y != y) = false := by simp
                                      have HVd := Lib.hid HV.out.drew
                                      have hgl9 : g2 < wr.heap.size := (HO.out.lt g2 rfl).2
                                      clear hy
                                      go_wp2_with fail
                                      go_region_held3 (fun W => W.cell? ⟨g2, I, none⟩ = some (.int .i64 y)) (first | exact hcz | go_keep) (first
                                        | (go_simp; go_at_call 26; (with_reducible refine (Hat.out _ HVd.out).mono ?_); rintro e w' ⟨rfl, rfl⟩))
                                      all_goals (
                                        go_wp2_with fail
                                        go_roundw
                                        case rel => exact ⟨I + 1, by omega, by go_num, HBr.out.drew, HO.out.drew, HV.out.drew⟩
                                        case measure => simp [intOf]; omega)
                                    · obtain rfl : I = 7 := by omega
                                      go_wp2_with fail
                                      go_ret
                                      exact ⟨rfl, S9.out.below.trans (HBr.out.mono S9.out.below.size)⟩
                            · have hne : ((sz U : Int) != E) = true := by simp [hEq]
                              clear hEq
                              go_wp2_with fail
                              go_ret
                              exact ⟨rfl, S9.out.below.trans (HBw.out.mono S9.out.below.size)⟩
  · have hbig : 1048576 < n := by omega
    go_enter Try.func3, Try.ntmps3
    go_wp2_with (go_at_call 6; (with_reducible refine (big_yes ad n c _ hbig hnm).mono ?_); rintro e w' ⟨rfl, rfl⟩)
    go_ret
    exact ⟨rfl, Below.refl _ _⟩

set_option maxRecDepth 100000 in
theorem lifted (os : Os) (started : os.Started) (H : Type) (enc : TypeId × Value → H) :
    ReturnsInHanded {} Try.checked os 3 .any (Rows.fnColorsSpec.pre6 enc Try.prog Try.f3 Rows.fnColorsRow.domain false) (Rows.fnColorsSpec.post enc Try.prog Try.f3 false true false false) := by
  refine returnsInHanded_of_change (C := Try.checked) own started (by kernel_rfl) Try.func3
    (ChangeSpec.witness6 (enc := enc) (C := Try.checked) false ⟨#[], #[.slice none 0 0], []⟩ 8 (by kernel_rfl) (by kernel_rfl) (by kernel_rfl) (by kernel_rfl)) ?_
  intro W base args ds gs before hval0 hW hcnd _
  have hval : ∀ (j : Nat) t v, Try.f3.params[j]? = some t → args[j]? = some v → Value.okWide Try.prog W .any base t v := hval0
  have hW2 := hW
  obtain ⟨p, q, hA0, hV, hpq, hfz, hnd⟩ := hW
  have hA : DataW.TrodAll enc Try.prog W 0 (fun _ => true) true Try.f3.params.toList args.toList ds p := hA0
  rw [Try.params3] at hA hval
  obtain ⟨v0, vs0, d0, ds0, p0, q0, hargs, rfl, hp0, h0, r0⟩ := trodAll_cons hA
  obtain ⟨rfl, rfl, _⟩ := trodAll_nil r0
  obtain rfl : args = #[v0] := by cases args; simp_all
  have hgs : gs = [] := (trodVars_none hV).1
  subst hgs
  obtain ⟨ad0, n0, c0, rfl⟩ := okWide_slice Try.underlying22 (hval 0 22 v0 rfl rfl)
  obtain ⟨fuel0, hf0⟩ := h0
  obtain ⟨ad0, n0, c0, e0, hs0⟩ := open_code hf0
  rw [e0]
  rw [e0] at hW2
  refine (walk W ad0 n0 c0 hs0).mono fun e W2 ⟨he, hb⟩ => ?_
  subst he
  exact ⟨_, rfl, law_post rfl hW2 (by kernel_rfl) rfl rfl rfl rfl hb⟩

theorem over : Rows.fnColorsRow.holds Try.pinned (OpenSpec.ofChange Rows.fnColorsSpec) :=
  OpenClaim.holds_of_wide 3 Try.f3 rfl rfl rfl rfl rfl rfl rfl ⟨rfl, rfl, rfl, rfl, rfl⟩ rfl rfl rfl rfl rfl (by kernel_rfl) Try.func3 (by kernel_rfl)
    (of_decide_eq_true (by kernel_rfl)) (by unfold Func.isWrapper; first | (rw [if_pos (by decide +kernel)]; kernel_rfl) | (rw [if_neg (by decide +kernel)]; exact ⟨rfl, rfl⟩))
    (fun os started H enc _ => lifted os started H enc)

/-- THE STATEMENT -/
theorem proved : Rows.FnColorsSaid := over
end Go.Proofs.Ytbdnlncpamandaa.lawFnColors

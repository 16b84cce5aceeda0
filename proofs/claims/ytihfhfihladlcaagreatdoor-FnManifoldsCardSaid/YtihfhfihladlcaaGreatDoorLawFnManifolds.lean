/- The law FnManifolds: closed complexes have no edge, and the edge of an edge is nothing. No condition. -/
import Derived.Deep.RegionHeld3
import Derived.Deep.RegionWith
import Derived.Deep.DeepCutAuto
import Derived.Deep.QuietTactic
import Derived.BigQuiet
import Derived.Test.YtihfhfihladlcaaGreatDoorCore
import Derived.Test.YtihfhfihladlcaaGreatDoorDrw5
import Derived.Test.YtihfhfihladlcaaGreatDoorDrwM
import Derived.Test.YtihfhfihladlcaaGreatDoorEuler
import Derived.Test.YtihfhfihladlcaaGreatDoorLeft
import Derived.Test.YtihfhfihladlcaaGreatDoorSurfX
namespace Go.Proofs.YtihfhfihladlcaaGreatDoor.lawFnManifolds
set_option maxRecDepth 20000
open Go.ChangeShapes Go.WideShapes Go.ChangeAt Go.RowKit
set_option linter.unusedVariables false
set_option linter.unusedSimpArgs false

/-- what lies in memory while the law runs -/
structure St (wb : World) (G1 : Nat) (p : Int) (a1 : Option Addr) (n1 c1 : Nat) (xs : List Int) (G2 : Nat) (P : Int) (a2 : Option Addr) (n2 c2 : Nat) (zs : List Int) (G3 : Nat) (a3 : Option Addr) (n3 c3 : Nat) (a4 : Option Addr) (n4 : Nat) (rs : List Int) (W : World) : Prop where
  below : Below wb.heap.size wb W
  x1 : BoxF W G1 (.int .i64 p) (.slice a1 n1 c1)
  i1 : IntsAt W a1 n1 xs
  x2 : BoxF W G2 (.int .i64 P) (.slice a2 n2 c2)
  i2 : IntsAt W a2 n2 zs
  x3 : BoxF W G3 (.int .i64 P) (.slice a3 n3 c3)
  i3 : IntsAt W a3 n3 zs
  i4 : IntsAt W a4 n4 rs
theorem St.keep {wb : World} {G1 : Nat} {p : Int} {a1 : Option Addr} {n1 c1 : Nat} {xs : List Int} {G2 : Nat} {P : Int} {a2 : Option Addr} {n2 c2 : Nat} {zs : List Int} {G3 : Nat} {a3 : Option Addr} {n3 c3 : Nat} {a4 : Option Addr} {n4 : Nat} {rs : List Int} {W W' : World}
    (h : St wb G1 p a1 n1 c1 xs G2 P a2 n2 c2 zs G3 a3 n3 c3 a4 n4 rs W) (hb : Below W.heap.size W W') : St wb G1 p a1 n1 c1 xs G2 P a2 n2 c2 zs G3 a3 n3 c3 a4 n4 rs W' :=
  ⟨h.below.trans (hb.mono h.below.size), h.x1.keep hb h.x1.lt, h.i1.keep hb, h.x2.keep hb h.x2.lt, h.i2.keep hb, h.x3.keep hb h.x3.lt, h.i3.keep hb, h.i4.keep hb⟩

set_option maxRecDepth 100000 in
set_option maxHeartbeats 8000000 in
theorem walk (w : World) (ad : Option Addr) (n c : Nat) (hs : CodeAt w ad n) :
    Calls Tryz.prog 6 #[.slice ad n c] w fun e w' => e = .returned (.bool true) ∧ Below w.heap.size w w' := by
  have HS := Lib.hid hs
  have hnm := hs.1
  clear hs
  by_cases hn : n ≤ 1048576
  · go_enter Tryz.func6, Tryz.ntmps6
    go_wp2_with (go_at_call 7; (with_reducible refine (big_no ad n c _ hn).mono ?_); rintro e w' ⟨rfl, rfl⟩)
    refine (drawEdgeComplex_any ad n c w HS.out hn).mono ?_
    rintro e w1 ⟨p, a1, n1, c1, xs, rfl, own1, _, hb1⟩
    have HB1 : Hid (Below w.heap.size w w1) := Lib.hid hb1
    have i1_1 : Hid (IntsAt w1 a1 n1 xs) := Lib.hid (own1.reads)
    have F1 := own1.cap
    clear hb1 own1
    obtain ⟨W2, hW2⟩ : ∃ W, W = w1.alloc (.cells #[.int .i64 p, .slice a1 n1 c1] 32) := ⟨_, rfl⟩
    obtain ⟨G1, hG2⟩ : ∃ G, G = w1.heap.size := ⟨_, rfl⟩
    have hbx : Below w1.heap.size w1 W2 := by rw [hW2]; exact (by repeat (first | exact Below.refl _ _ | assumption | refine Below.setCell ?_ (by first | omega | (simp; done) | (simp; omega)) _ | refine Below.alloc ?_ (by first | omega | (simp; done) | (simp; omega)) _ | apply Below.drew))
    have HW2 := Lib.hid hW2; have HG2 := Lib.hid hG2
    have HB2 : Hid (Below w.heap.size w W2) := Lib.hid (HB1.out.trans (hbx.mono HB1.out.size))
    have i1_2 := Lib.hid (i1_1.out.keep hbx)
    have x1_2 : Hid (BoxF W2 G1 (.int .i64 p) (.slice a1 n1 c1)) := Lib.hid (by rw [hW2, hG2]; exact BoxF.new _ _ _ _)
    clear hbx hW2 hG2 HB1 i1_1
    obtain ⟨P, zs, b, rs, ch, cl, su, ot, T, D, hC, hCl, hSu, hEd⟩ := mani p xs
    have HC := Lib.hid hC; have HCl := Lib.hid hCl; have HSu := Lib.hid hSu; have HEd := Lib.hid hEd
    clear hC hCl hSu hEd
    go_wp2_with fail
    rw [← HG2.out, ← HW2.out]
    refine (HC.out.ei _ a1 n1 c1 i1_2.out F1).mono ?_
    rintro e w3 ⟨a2, n2, c2, rfl, own2, hb2⟩
    have HB3 : Hid (Below w.heap.size w w3) := Lib.hid (HB2.out.trans (hb2.mono HB2.out.size))
    have i1_3 := Lib.hid (i1_2.out.keep hb2)
    have x1_3 := Lib.hid (x1_2.out.keep hb2 x1_2.out.lt)
    have i2_3 : Hid (IntsAt w3 a2 n2 zs) := Lib.hid (own2.reads)
    have F2 := own2.cap
    clear hb2 HB2 i1_2 x1_2 own2
    obtain ⟨W4, hW4⟩ : ∃ W, W = w3.alloc (.cells #[.int .i64 P, .slice a2 n2 c2] 32) := ⟨_, rfl⟩
    obtain ⟨G2, hG4⟩ : ∃ G, G = w3.heap.size := ⟨_, rfl⟩
    have hbx : Below w3.heap.size w3 W4 := by rw [hW4]; exact (by repeat (first | exact Below.refl _ _ | assumption | refine Below.setCell ?_ (by first | omega | (simp; done) | (simp; omega)) _ | refine Below.alloc ?_ (by first | omega | (simp; done) | (simp; omega)) _ | apply Below.drew))
    have HW4 := Lib.hid hW4; have HG4 := Lib.hid hG4
    have HB4 : Hid (Below w.heap.size w W4) := Lib.hid (HB3.out.trans (hbx.mono HB3.out.size))
    have i1_4 := Lib.hid (i1_3.out.keep hbx)
    have x1_4 := Lib.hid (x1_3.out.keep hbx x1_3.out.lt)
    have i2_4 := Lib.hid (i2_3.out.keep hbx)
    have x2_4 : Hid (BoxF W4 G2 (.int .i64 P) (.slice a2 n2 c2)) := Lib.hid (by rw [hW4, hG4]; exact BoxF.new _ _ _ _)
    clear hbx hW4 hG4 HB3 i1_3 x1_3 i2_3
    obtain ⟨q0x1, q1x1, _, _, _⟩ := x1_4.out
    rw [HW4.out] at q0x1 q1x1
    go_wp2_with fail
    rw [← HG4.out, ← HW4.out]
    refine (HC.out.es _ a1 n1 c1 i1_4.out).mono ?_
    rintro e w5 ⟨a3, n3, c3, rfl, own3, hb3⟩
    have HB5 : Hid (Below w.heap.size w w5) := Lib.hid (HB4.out.trans (hb3.mono HB4.out.size))
    have i1_5 := Lib.hid (i1_4.out.keep hb3)
    have x1_5 := Lib.hid (x1_4.out.keep hb3 x1_4.out.lt)
    have i2_5 := Lib.hid (i2_4.out.keep hb3)
    have x2_5 := Lib.hid (x2_4.out.keep hb3 x2_4.out.lt)
    have i3_5 : Hid (IntsAt w5 a3 n3 zs) := Lib.hid (own3.reads)
    clear hb3 HB4 i1_4 x1_4 i2_4 x2_4 q0x1 q1x1 own3
    obtain ⟨W6, hW6⟩ : ∃ W, W = w5.alloc (.cells #[.int .i64 P, .slice a3 n3 c3] 32) := ⟨_, rfl⟩
    obtain ⟨G3, hG6⟩ : ∃ G, G = w5.heap.size := ⟨_, rfl⟩
    have hbx : Below w5.heap.size w5 W6 := by rw [hW6]; exact (by repeat (first | exact Below.refl _ _ | assumption | refine Below.setCell ?_ (by first | omega | (simp; done) | (simp; omega)) _ | refine Below.alloc ?_ (by first | omega | (simp; done) | (simp; omega)) _ | apply Below.drew))
    have HW6 := Lib.hid hW6; have HG6 := Lib.hid hG6
    have HB6 : Hid (Below w.heap.size w W6) := Lib.hid (HB5.out.trans (hbx.mono HB5.out.size))
    have i1_6 := Lib.hid (i1_5.out.keep hbx)
    have x1_6 := Lib.hid (x1_5.out.keep hbx x1_5.out.lt)
    have i2_6 := Lib.hid (i2_5.out.keep hbx)
    have x2_6 := Lib.hid (x2_5.out.keep hbx x2_5.out.lt)
    have i3_6 := Lib.hid (i3_5.out.keep hbx)
    have x3_6 : Hid (BoxF W6 G3 (.int .i64 P) (.slice a3 n3 c3)) := Lib.hid (by rw [hW6, hG6]; exact BoxF.new _ _ _ _)
    clear hbx hW6 hG6 HB5 i1_5 x1_5 i2_5 x2_5 i3_5
    obtain ⟨q0x1, q1x1, _, _, _⟩ := x1_6.out
    rw [HW6.out] at q0x1 q1x1
    go_wp2_with fail
    rw [← HG6.out, ← HW6.out]
    refine (HC.out.ri _ a1 n1 c1 i1_6.out F1).mono ?_
    rintro e w7 ⟨a4, n4, c4, rfl, own4, hb4⟩
    have HB7 : Hid (Below w.heap.size w w7) := Lib.hid (HB6.out.trans (hb4.mono HB6.out.size))
    have i1_7 := Lib.hid (i1_6.out.keep hb4)
    have x1_7 := Lib.hid (x1_6.out.keep hb4 x1_6.out.lt)
    have i2_7 := Lib.hid (i2_6.out.keep hb4)
    have x2_7 := Lib.hid (x2_6.out.keep hb4 x2_6.out.lt)
    have i3_7 := Lib.hid (i3_6.out.keep hb4)
    have x3_7 := Lib.hid (x3_6.out.keep hb4 x3_6.out.lt)
    have i4_7 : Hid (IntsAt w7 a4 n4 rs) := Lib.hid (own4.reads)
    clear hb4 HB6 i1_6 x1_6 i2_6 x2_6 i3_6 x3_6 q0x1 q1x1 own4
    have S0 : Hid (St w G1 p a1 n1 c1 xs G2 P a2 n2 c2 zs G3 a3 n3 c3 a4 n4 rs w7) := Lib.hid ⟨HB7.out, x1_7.out, i1_7.out, x2_7.out, i2_7.out, x3_7.out, i3_7.out, i4_7.out⟩
    clear i1_7 x1_7 i2_7 x2_7 i3_7 x3_7 i4_7 HB7
    have hbb : (b != b) = false := by cases b <;> rfl
    have hch : (ch != ch) = false := by cases ch <;> rfl
    have hcl : (cl != cl) = false := by cases cl <;> rfl
    have hsu : (su != su) = false := by cases su <;> rfl
    have hot : (ot != ot) = false := by cases ot <;> rfl
    go_upto_region 7 with fail
    go_cut [79] (fun v W => v = .bool false ∧ St w G1 p a1 n1 c1 xs G2 P a2 n2 c2 zs G3 a3 n3 c3 a4 n4 rs W)
    case first =>
      as_aux_lemma =>
        have hcells : w7.cell? ⟨G1, 0, none⟩ = some (.int .i64 p) ∧ w7.cell? ⟨G1, 1, none⟩ = some (.slice a1 n1 c1) ∧ w7.cell? ⟨G2, 0, none⟩ = some (.int .i64 P) ∧ w7.cell? ⟨G2, 1, none⟩ = some (.slice a2 n2 c2) ∧ w7.cell? ⟨G3, 0, none⟩ = some (.int .i64 P) ∧ w7.cell? ⟨G3, 1, none⟩ = some (.slice a3 n3 c3) := ⟨S0.out.x1.c0, S0.out.x1.c1, S0.out.x2.c0, S0.out.x2.c1, S0.out.x3.c0, S0.out.x3.c1⟩
        have SW := Lib.hid (S0.out.keep (W' := w7.drew) (Below.refl _ _).drew)
        clear S0
        go_region_held3 (fun W => W.cell? ⟨G1, 0, none⟩ = some (.int .i64 p) ∧ W.cell? ⟨G1, 1, none⟩ = some (.slice a1 n1 c1) ∧ W.cell? ⟨G2, 0, none⟩ = some (.int .i64 P) ∧ W.cell? ⟨G2, 1, none⟩ = some (.slice a2 n2 c2) ∧ W.cell? ⟨G3, 0, none⟩ = some (.int .i64 P) ∧ W.cell? ⟨G3, 1, none⟩ = some (.slice a3 n3 c3)) (first | exact hcells | exact ⟨SW.out.x1.c0, SW.out.x1.c1, SW.out.x2.c0, SW.out.x2.c1, SW.out.x3.c0, SW.out.x3.c1⟩ | go_keep) (first
          | (go_simp; go_at_call 25; (with_reducible refine (sameComplex_yes P a2 a3 n2 n3 c2 c3 zs _ SW.out.i2 SW.out.i3).mono ?_); rintro e w6 ⟨rfl, hb6⟩; have SW := Lib.hid (SW.out.keep hb6); clear hb6)
          | (go_simp; go_at_call 69; (with_reducible refine (HC.out.rr _ a1 n1 c1 SW.out.i1).mono ?_); rintro e w6 ⟨aB, nB, cB, rfl, ownB, hb6⟩; have SW := Lib.hid (SW.out.keep hb6); have HB := Lib.hid ownB.reads; clear ownB; clear hb6)
          | (go_simp; go_at_call 26; (with_reducible refine (sameInts_yes a4 aB n4 nB c4 cB rs rs _ SW.out.i4 HB.out rfl).mono ?_); rintro e w6 ⟨rfl, hb6⟩; have SW := Lib.hid (SW.out.keep hb6); clear hb6)
          | (go_simp; go_at_call 70; (with_reducible refine (HC.out.ci _ a1 n1 c1 SW.out.i1 F1).mono ?_); rintro e w6 ⟨rfl, hb6⟩; have SW := Lib.hid (SW.out.keep hb6); clear hb6)
          | (go_simp; go_at_call 71; (with_reducible refine (HC.out.cs _ a1 n1 c1 SW.out.i1).mono ?_); rintro e w6 ⟨rfl, hb6⟩; have SW := Lib.hid (SW.out.keep hb6); clear hb6)
          | (go_simp; go_at_call 72; (with_reducible refine (HC.out.li _ a1 n1 c1 SW.out.i1 F1).mono ?_); rintro e w6 ⟨rfl, hb6⟩; have SW := Lib.hid (SW.out.keep hb6); clear hb6)
          | (go_simp; go_at_call 73; (with_reducible refine (HC.out.ls _ a1 n1 c1 SW.out.i1).mono ?_); rintro e w6 ⟨rfl, hb6⟩; have SW := Lib.hid (SW.out.keep hb6); clear hb6)
          | (go_simp; go_at_call 74; (with_reducible refine (HC.out.si _ a1 n1 c1 SW.out.i1 F1).mono ?_); rintro e w6 ⟨rfl, hb6⟩; have SW := Lib.hid (SW.out.keep hb6); clear hb6)
          | (go_simp; go_at_call 75; (with_reducible refine (HC.out.ss _ a1 n1 c1 SW.out.i1).mono ?_); rintro e w6 ⟨rfl, hb6⟩; have SW := Lib.hid (SW.out.keep hb6); clear hb6)
          | (go_simp; go_at_call 76; (with_reducible refine (HC.out.oi _ a1 n1 c1 SW.out.i1 F1).mono ?_); rintro e w6 ⟨rfl, hb6⟩; have SW := Lib.hid (SW.out.keep hb6); clear hb6)
          | (go_simp; go_at_call 77; (with_reducible refine (HC.out.os _ a1 n1 c1 SW.out.i1).mono ?_); rintro e w6 ⟨rfl, hb6⟩; have SW := Lib.hid (SW.out.keep hb6); clear hb6)
          | (go_simp; go_at_call 40; (with_reducible refine (HC.out.ti _ a1 n1 c1 SW.out.i1 F1).mono ?_); rintro e w6 ⟨rfl, hb6⟩; have SW := Lib.hid (SW.out.keep hb6); clear hb6)
          | (go_simp; go_at_call 38; (with_reducible refine (HC.out.ts _ a1 n1 c1 SW.out.i1).mono ?_); rintro e w6 ⟨rfl, hb6⟩; have SW := Lib.hid (SW.out.keep hb6); clear hb6))
        all_goals (go_wp2_with fail; go_meet)
        all_goals exact ⟨rfl, SW.out⟩
    case rest =>
      obtain ⟨rfl, hst⟩ := hcut
      have S1 := Lib.hid hst
      clear hst S0 hbb hch hcl hsu hot
      go_upto_region 9 with fail
      go_cut [91] (fun v W => v = .bool false ∧ St w G1 p a1 n1 c1 xs G2 P a2 n2 c2 zs G3 a3 n3 c3 a4 n4 rs W)
      case first =>
        as_aux_lemma =>
          obtain ⟨x10, x11, _, _, _⟩ := S1.out.x1
          go_wp2_with fail
          refine (HC.out.li _ a1 n1 c1 S1.out.i1 F1).mono ?_
          rintro e v1 ⟨rfl, hb⟩
          have S2 := Lib.hid (S1.out.keep hb)
          clear hb x10 x11 S1
          obtain ⟨x20, x21, _, _, _⟩ := S2.out.x2
          cases cl
          · go_wp2_with fail
            go_meet
            exact ⟨rfl, S2.out⟩
          · obtain ⟨rfl, rfl⟩ := HCl.out rfl
            obtain rfl : n2 = 0 := by have := S2.out.i2.len; simpa using this.symm
            go_wp2_with fail
            go_meet
            exact ⟨rfl, S2.out⟩
      case rest =>
        obtain ⟨rfl, hst⟩ := hcut
        have S2 := Lib.hid hst
        clear hst S1 HCl
        obtain ⟨x10, x11, _, _, _⟩ := S2.out.x1
        go_wp2_with fail
        refine (HC.out.si _ a1 n1 c1 S2.out.i1 F1).mono ?_
        rintro e v2 ⟨rfl, hb⟩
        have S3 := Lib.hid (S2.out.keep hb)
        clear hb x10 x11 S2
        go_upto_if 93 with fail
        go_cut [93] (fun _ W => St w G1 p a1 n1 c1 xs G2 P a2 n2 c2 zs G3 a3 n3 c3 a4 n4 rs W)
        case first =>
          cases su
          · go_wp2_with fail
            go_meet
            exact S3.out
          · obtain ⟨f, h5, h2, E, hf4, h54, h24, h32, ⟨hp3, hq3, hp2, hq2⟩, hoe, h21, hEo, hcF, hc5, hc2, hcE⟩ := HSu.out rfl
            obtain ⟨f2, he2⟩ : ∃ x, x = nth f 2 := ⟨_, rfl⟩
            obtain ⟨f3, he3⟩ : ∃ x, x = nth f 3 := ⟨_, rfl⟩
            obtain ⟨u5, he5⟩ : ∃ x, x = nth h5 3 := ⟨_, rfl⟩
            rw [← he2, ← he3] at h32
            rw [← he3] at hp3 hq3
            rw [← he2] at hp2 hq2
            rw [← he5] at hoe
            obtain ⟨M, hM⟩ : ∃ M, M = 3 * f3 := ⟨_, rfl⟩
            have hm3 : IntKind.i64.wrap (3 * f3) = M := by rw [hM]; exact IntWalk.i64_in _ (by omega)
            have hm2 : IntKind.i64.wrap (2 * f2) = M := by rw [hM, h32]; exact IntWalk.i64_in _ (by omega)
            have hk3 : wrap64 (3 * f3) = M := by rw [hM]; unfold wrap64; omega
            have hk2 : wrap64 (2 * f2) = M := by rw [hM, h32]; unfold wrap64; omega
            have hMM : (M != M) = false := by simp
            have HcF := Lib.hid hcF; have Hc5 := Lib.hid hc5; have Hc2 := Lib.hid hc2; have HcE := Lib.hid hcE
            have HEo := Lib.hid hEo; obtain ⟨u2, hu2⟩ : ∃ x, x = nth h2 3 := ⟨_, rfl⟩
            have HU21 : Hid (u2 = 1) := Lib.hid (hu2.trans h21); have H21 := Lib.hid hu2
            clear hu2
            obtain ⟨o5, ho5⟩ : ∃ o5, o5 = (u5 == 1) := ⟨_, rfl⟩
            rw [← ho5] at hoe
            subst hoe
            have hoo : (ot != ot) = false := by cases ot <;> rfl
            have Ho5 := Lib.hid ho5
            clear hcF hc5 hc2 hcE hEo h21 hM h32 hp3 hq3 hp2 hq2 ho5
            have He2 := Lib.hid he2; have He3 := Lib.hid he3; have He5 := Lib.hid he5
            clear he2 he3 he5
            obtain ⟨x10, x11, _, _, _⟩ := S3.out.x1
            go_wp2_with fail
            refine (HcF.out _ a1 n1 c1 S3.out.i1).mono ?_
            rintro e v3 ⟨aF, nF, cF, rfl, ownF, hb⟩
            have S4 := Lib.hid (S3.out.keep hb)
            have hk : nF = 4 := by have := ownF.len; omega
            subst hk
            obtain ⟨bF, oF, rfl, hcF⟩ := ownF.reads.cells (by omega)
            have zf2 := hcF 2 (by omega)
            have zf3 := hcF 3 (by omega)
            rw [← He2.out] at zf2
            rw [← He3.out] at zf3
            have hfl2 := World.block_lt_of_cell? v3 _ zf2
            have hfl3 := World.block_lt_of_cell? v3 _ zf3
            clear hb x10 x11 S3 ownF hcF HcF
            go_upto_region 13 with fail
            go_cut [121] (fun v W => v = .bool false ∧ St w G1 p a1 n1 c1 xs G2 P a2 n2 c2 zs G3 a3 n3 c3 a4 n4 rs W)
            case first =>
              as_aux_lemma =>
                have hcells : v3.cell? ⟨G1, 0, none⟩ = some (.int .i64 p) ∧ v3.cell? ⟨G1, 1, none⟩ = some (.slice a1 n1 c1) ∧ v3.cell? ⟨bF, oF + 2, none⟩ = some (.int .i64 f2) ∧ v3.cell? ⟨bF, oF + 3, none⟩ = some (.int .i64 f3) := ⟨S4.out.x1.c0, S4.out.x1.c1, zf2, zf3⟩
                have SW := Lib.hid (S4.out.keep (W' := v3.drew) (Below.refl _ _).drew)
                refine wp_region_held_drew (S := fun W => W.cell? ⟨G1, 0, none⟩ = some (.int .i64 p) ∧ W.cell? ⟨G1, 1, none⟩ = some (.slice a1 n1 c1) ∧ W.cell? ⟨bF, oF + 2, none⟩ = some (.int .i64 f2) ∧ W.cell? ⟨bF, oF + 3, none⟩ = some (.int .i64 f3)) (by kernel_rfl) hcells (fun hHeld => ?_)
                refine wpAnyH_take (i := 0) (oi := { dst := some 96, op := Op.move (Operand.tmp 9), type := 24, pos := "laws.go:932", after := #[], guard := none }) (v := ?_) rfl (by kernel_rfl) (by kernel_rfl) (by kernel_rfl) (fun _ _ _ h => h) (Or.inl ⟨by rfl, ?_⟩) (by assumption) ?_
                rotate_left
                · intro w hSw
                  try dsimp only at hSw
                  go_simp
                  try (with_reducible rfl)
                try simp only [Act.put, List.setIfInBounds_toArray, List.set_cons_zero, List.set_cons_succ]
                refine wpAnyH_take (i := 1) (oi := { dst := some 97, op := Op.indexAddr 24 (Operand.tmp 96) (Operand.const (Value.int IntKind.i64 3)), type := 0, pos := "laws.go:932", after := #[{ on := 0, ground := Ground.data }], guard := none }) (v := ?_) rfl (by kernel_rfl) (by kernel_rfl) (by kernel_rfl) (fun _ _ _ h => h) (Or.inl ⟨by rfl, ?_⟩) (by assumption) ?_
                rotate_left
                · intro w hSw
                  try dsimp only at hSw
                  go_simp
                  try (with_reducible rfl)
                try simp only [Act.put, List.setIfInBounds_toArray, List.set_cons_zero, List.set_cons_succ]
                refine wpAnyH_take (i := 2) (oi := { dst := some 98, op := Op.load 3 (Operand.tmp 97), type := 3, pos := "laws.go:932", after := #[{ on := 1, ground := Ground.data }], guard := none }) (v := ?_) rfl (by kernel_rfl) (by kernel_rfl) (by kernel_rfl) (fun _ _ _ h => h) (Or.inl ⟨by rfl, ?_⟩) (by assumption) ?_
                rotate_left
                · intro w hSw
                  try dsimp only at hSw
                  go_simp
                  try (with_reducible rfl)
                try simp only [Act.put, List.setIfInBounds_toArray, List.set_cons_zero, List.set_cons_succ]
                refine wpAnyH_take (i := 3) (oi := { dst := some 99, op := Op.binOp BinOp.mul 3 (Operand.const (Value.int IntKind.i64 3)) (Operand.tmp 98) 3, type := 3, pos := "laws.go:932", after := #[{ on := 2, ground := Ground.data }], guard := none }) (v := ?_) rfl (by kernel_rfl) (by kernel_rfl) (by kernel_rfl) (fun _ _ _ h => h) (Or.inl ⟨by rfl, ?_⟩) (by assumption) ?_
                rotate_left
                · intro w hSw
                  try dsimp only at hSw
                  go_simp
                  try (with_reducible rfl)
                try simp only [Act.put, List.setIfInBounds_toArray, List.set_cons_zero, List.set_cons_succ]
                refine wpAnyH_take (i := 4) (oi := { dst := some 100, op := Op.move (Operand.tmp 9), type := 24, pos := "laws.go:932", after := #[], guard := none }) (v := ?_) rfl (by kernel_rfl) (by kernel_rfl) (by kernel_rfl) (fun _ _ _ h => h) (Or.inl ⟨by rfl, ?_⟩) (by assumption) ?_
                rotate_left
                · intro w hSw
                  try dsimp only at hSw
                  go_simp
                  try (with_reducible rfl)
                try simp only [Act.put, List.setIfInBounds_toArray, List.set_cons_zero, List.set_cons_succ]
                refine wpAnyH_take (i := 5) (oi := { dst := some 101, op := Op.indexAddr 24 (Operand.tmp 100) (Operand.const (Value.int IntKind.i64 2)), type := 0, pos := "laws.go:932", after := #[{ on := 4, ground := Ground.data }], guard := none }) (v := ?_) rfl (by kernel_rfl) (by kernel_rfl) (by kernel_rfl) (fun _ _ _ h => h) (Or.inl ⟨by rfl, ?_⟩) (by assumption) ?_
                rotate_left
                · intro w hSw
                  try dsimp only at hSw
                  go_simp
                  try (with_reducible rfl)
                try simp only [Act.put, List.setIfInBounds_toArray, List.set_cons_zero, List.set_cons_succ]
                refine wpAnyH_take (i := 6) (oi := { dst := some 102, op := Op.load 3 (Operand.tmp 101), type := 3, pos := "laws.go:932", after := #[{ on := 5, ground := Ground.data }], guard := none }) (v := ?_) rfl (by kernel_rfl) (by kernel_rfl) (by kernel_rfl) (fun _ _ _ h => h) (Or.inl ⟨by rfl, ?_⟩) (by assumption) ?_
                rotate_left
                · intro w hSw
                  try dsimp only at hSw
                  go_simp
                  try (with_reducible rfl)
                try simp only [Act.put, List.setIfInBounds_toArray, List.set_cons_zero, List.set_cons_succ]
                refine wpAnyH_take (i := 7) (oi := { dst := some 103, op := Op.binOp BinOp.mul 3 (Operand.const (Value.int IntKind.i64 2)) (Operand.tmp 102) 3, type := 3, pos := "laws.go:932", after := #[{ on := 6, ground := Ground.data }], guard := none }) (v := ?_) rfl (by kernel_rfl) (by kernel_rfl) (by kernel_rfl) (fun _ _ _ h => h) (Or.inl ⟨by rfl, ?_⟩) (by assumption) ?_
                rotate_left
                · intro w hSw
                  try dsimp only at hSw
                  go_simp
                  try (with_reducible rfl)
                try simp only [Act.put, List.setIfInBounds_toArray, List.set_cons_zero, List.set_cons_succ]
                refine wpAnyH_take (i := 8) (oi := { dst := some 104, op := Op.binOp BinOp.neq 3 (Operand.tmp 99) (Operand.tmp 103) 3, type := 4, pos := "laws.go:932", after := #[{ on := 3, ground := Ground.data }, { on := 7, ground := Ground.data }], guard := none }) (v := ?_) rfl (by kernel_rfl) (by kernel_rfl) (by kernel_rfl) (fun _ _ _ h => h) (Or.inl ⟨by rfl, ?_⟩) (by assumption) ?_
                rotate_left
                · intro w hSw
                  try dsimp only at hSw
                  go_simp
                  try (with_reducible rfl)
                try simp only [Act.put, List.setIfInBounds_toArray, List.set_cons_zero, List.set_cons_succ]
                refine wpAnyH_take (i := 9) (oi := { dst := some 105, op := Op.move (Operand.tmp 104), type := 4, pos := "laws.go:932", after := #[{ on := 8, ground := Ground.data }], guard := none }) (v := ?_) rfl (by kernel_rfl) (by kernel_rfl) (by kernel_rfl) (fun _ _ _ h => h) (Or.inl ⟨by rfl, ?_⟩) (by assumption) ?_
                rotate_left
                · intro w hSw
                  try dsimp only at hSw
                  go_simp
                  try (with_reducible rfl)
                try simp only [Act.put, List.setIfInBounds_toArray, List.set_cons_zero, List.set_cons_succ]
                refine wpAnyH_take (i := 10) (oi := { dst := some 106, op := Op.load 32 (Operand.tmp 3), type := 32, pos := "laws.go:932", after := #[{ on := 9, ground := Ground.guard }], guard := some (9, false) }) (v := ?_) rfl (by kernel_rfl) (by kernel_rfl) (by kernel_rfl) (fun _ _ _ h => h) (Or.inl ⟨by rfl, ?_⟩) (by assumption) ?_
                rotate_left
                · intro w hSw
                  try dsimp only at hSw
                  go_simp
                  try (with_reducible rfl)
                try simp only [Act.put, List.setIfInBounds_toArray, List.set_cons_zero, List.set_cons_succ]
                refine wpAnyH_take (i := 12) (oi := { dst := some 108, op := Op.load 32 (Operand.tmp 3), type := 32, pos := "laws.go:932", after := #[{ on := 9, ground := Ground.guard }], guard := some (9, false) }) (v := ?_) rfl (by kernel_rfl) (by kernel_rfl) (by kernel_rfl) (fun _ _ _ h => h) (Or.inl ⟨by rfl, ?_⟩) (by assumption) ?_
                rotate_left
                · intro w hSw
                  try dsimp only at hSw
                  go_simp
                  try (with_reducible rfl)
                try simp only [Act.put, List.setIfInBounds_toArray, List.set_cons_zero, List.set_cons_succ]
                refine wpAnyH_ready (rs := [11]) (by kernel_rfl) (by simp) ?_
                refine AllReadyH.cons (o := { dst := some 107, op := Op.call { callee := Callee.value (Operand.func 76), args := #[Operand.tmp 106], argTypes := #[32] }, type := 4, pos := "laws.go:932", after := #[{ on := 10, ground := Ground.data }, { on := 9, ground := Ground.chain }, { on := 9, ground := Ground.guard }], guard := some (9, false) }) rfl (fun K hK => ?_) ?_
                · go_simp
                  go_simp; go_at_call 76; (with_reducible refine (HC.out.oi _ a1 n1 c1 SW.out.i1 F1).mono ?_); rintro e w6 ⟨rfl, hb6⟩; have SW := Lib.hid (SW.out.keep hb6); have zf2 := (hb6.cell hfl2).trans zf2; have zf3 := (hb6.cell hfl3).trans zf3; have hfl2 := Nat.lt_of_lt_of_le hfl2 hb6.size; have hfl3 := Nat.lt_of_lt_of_le hfl3 hb6.size; clear hb6
                  try (go_wp2_with fail)
                  refine hK.out _ _ ?_ (fun hHeld => ?_)
                  · exact ⟨SW.out.x1.c0, SW.out.x1.c1, zf2, zf3⟩
                  clear hK K
                  try simp only [Act.put, List.setIfInBounds_toArray, List.set_cons_zero, List.set_cons_succ]
                  refine wpAnyH_ready (rs := [13]) (by kernel_rfl) (by simp) ?_
                  refine AllReadyH.cons (o := { dst := some 109, op := Op.call { callee := Callee.value (Operand.func 62), args := #[Operand.tmp 108, Operand.const (Value.int IntKind.i64 5)], argTypes := #[32, 3] }, type := 24, pos := "laws.go:932", after := #[{ on := 12, ground := Ground.data }, { on := 11, ground := Ground.chain }, { on := 9, ground := Ground.guard }], guard := some (9, false) }) rfl (fun K hK => ?_) ?_
                  · go_simp
                    go_simp; go_at_call 62; (with_reducible refine (Hc5.out _ a1 n1 c1 SW.out.i1).mono ?_); rintro e w6 ⟨aA, nA, cA, rfl, ownA, hb6⟩; have SW := Lib.hid (SW.out.keep hb6); have zf2 := (hb6.cell hfl2).trans zf2; have zf3 := (hb6.cell hfl3).trans zf3; have hfl2 := Nat.lt_of_lt_of_le hfl2 hb6.size; have hfl3 := Nat.lt_of_lt_of_le hfl3 hb6.size; have hk : nA = 4 := (by have := ownA.len; omega); subst hk; obtain ⟨bA, oA, rfl, hcA⟩ := ownA.reads.cells (by omega); have zA := hcA 3 (by omega); rw [← He5.out] at zA; clear hcA ownA; have hu5 := Ho5.out.symm; clear hb6
                    try (go_wp2_with fail)
                    refine hK.out _ _ ?_ (fun hHeld => ?_)
                    · exact ⟨SW.out.x1.c0, SW.out.x1.c1, zf2, zf3⟩
                    clear hK K
                    try simp only [Act.put, List.setIfInBounds_toArray, List.set_cons_zero, List.set_cons_succ]
                    refine wpAnyH_take (i := 14) (oi := { dst := some 110, op := Op.indexAddr 24 (Operand.tmp 109) (Operand.const (Value.int IntKind.i64 3)), type := 0, pos := "laws.go:932", after := #[{ on := 13, ground := Ground.data }, { on := 9, ground := Ground.guard }], guard := some (9, false) }) (v := ?_) rfl (by kernel_rfl) (by kernel_rfl) (by kernel_rfl) (fun _ _ _ h => h) (Or.inl ⟨by rfl, ?_⟩) (by assumption) ?_
                    rotate_left
                    · intro w hSw
                      try dsimp only at hSw
                      go_simp
                      try (with_reducible rfl)
                    try simp only [Act.put, List.setIfInBounds_toArray, List.set_cons_zero, List.set_cons_succ]
                    refine wpAnyH_ready (rs := [15]) (by kernel_rfl) (by simp) ?_
                    refine AllReadyH.cons (o := { dst := some 111, op := Op.load 3 (Operand.tmp 110), type := 3, pos := "laws.go:932", after := #[{ on := 14, ground := Ground.data }, { on := 9, ground := Ground.guard }], guard := some (9, false) }) rfl (fun K hK => ?_) ?_
                    · go_simp
                      refine hK.out _ _ ?_ (fun hHeld => ?_)
                      · exact ⟨SW.out.x1.c0, SW.out.x1.c1, zf2, zf3⟩
                      clear hK K
                      try simp only [Act.put, List.setIfInBounds_toArray, List.set_cons_zero, List.set_cons_succ]
                      refine wpAnyH_take (i := 16) (oi := { dst := some 112, op := Op.binOp BinOp.eql 3 (Operand.tmp 111) (Operand.const (Value.int IntKind.i64 1)) 3, type := 4, pos := "laws.go:932", after := #[{ on := 15, ground := Ground.data }, { on := 9, ground := Ground.guard }], guard := some (9, false) }) (v := ?_) rfl (by kernel_rfl) (by kernel_rfl) (by kernel_rfl) (fun _ _ _ h => h) (Or.inl ⟨by rfl, ?_⟩) (by assumption) ?_
                      rotate_left
                      · intro w hSw
                        try dsimp only at hSw
                        go_simp
                        try (with_reducible rfl)
                      try simp only [Act.put, List.setIfInBounds_toArray, List.set_cons_zero, List.set_cons_succ]
                      refine wpAnyH_take (i := 17) (oi := { dst := some 113, op := Op.binOp BinOp.neq 4 (Operand.tmp 107) (Operand.tmp 112) 4, type := 4, pos := "laws.go:932", after := #[{ on := 11, ground := Ground.data }, { on := 16, ground := Ground.data }, { on := 9, ground := Ground.guard }], guard := some (9, false) }) (v := ?_) rfl (by kernel_rfl) (by kernel_rfl) (by kernel_rfl) (fun _ _ _ h => h) (Or.inl ⟨by rfl, ?_⟩) (by assumption) ?_
                      rotate_left
                      · intro w hSw
                        try dsimp only at hSw
                        go_simp
                        try (with_reducible rfl)
                      try simp only [Act.put, List.setIfInBounds_toArray, List.set_cons_zero, List.set_cons_succ]
                      refine wpAnyH_take (i := 18) (oi := { dst := some 114, op := Op.pick (Operand.tmp 105) (Operand.const (Value.bool true)) (Operand.tmp 113), type := 4, pos := "laws.go:932", after := #[{ on := 9, ground := Ground.data }, { on := 17, ground := Ground.data }], guard := none }) (v := ?_) rfl (by kernel_rfl) (by kernel_rfl) (by kernel_rfl) (fun _ _ _ h => h) (Or.inl ⟨by rfl, ?_⟩) (by assumption) ?_
                      rotate_left
                      · intro w hSw
                        try dsimp only at hSw
                        go_simp
                        try (with_reducible rfl)
                      try simp only [Act.put, List.setIfInBounds_toArray, List.set_cons_zero, List.set_cons_succ]
                      refine wpAnyH_take (i := 19) (oi := { dst := some 115, op := Op.move (Operand.tmp 114), type := 4, pos := "laws.go:932", after := #[{ on := 18, ground := Ground.data }, { on := 13, ground := Ground.chain }], guard := none }) (v := ?_) rfl (by kernel_rfl) (by kernel_rfl) (by kernel_rfl) (fun _ _ _ h => h) (Or.inl ⟨by rfl, ?_⟩) (by assumption) ?_
                      rotate_left
                      · intro w hSw
                        try dsimp only at hSw
                        go_simp
                        try (with_reducible rfl)
                      try simp only [Act.put, List.setIfInBounds_toArray, List.set_cons_zero, List.set_cons_succ]
                      refine wpAnyH_take (i := 20) (oi := { dst := some 116, op := Op.load 32 (Operand.tmp 3), type := 32, pos := "laws.go:932", after := #[{ on := 19, ground := Ground.guard }], guard := some (19, false) }) (v := ?_) rfl (by kernel_rfl) (by kernel_rfl) (by kernel_rfl) (fun _ _ _ h => h) (Or.inl ⟨by rfl, ?_⟩) (by assumption) ?_
                      rotate_left
                      · intro w hSw
                        try dsimp only at hSw
                        go_simp
                        try (with_reducible rfl)
                      try simp only [Act.put, List.setIfInBounds_toArray, List.set_cons_zero, List.set_cons_succ]
                      refine wpAnyH_ready (rs := [21]) (by kernel_rfl) (by simp) ?_
                      refine AllReadyH.cons (o := { dst := some 117, op := Op.call { callee := Callee.value (Operand.func 62), args := #[Operand.tmp 116, Operand.const (Value.int IntKind.i64 2)], argTypes := #[32, 3] }, type := 24, pos := "laws.go:932", after := #[{ on := 20, ground := Ground.data }, { on := 19, ground := Ground.chain }, { on := 19, ground := Ground.guard }], guard := some (19, false) }) rfl (fun K hK => ?_) ?_
                      · go_simp
                        go_simp; go_at_call 62; (with_reducible refine (Hc2.out _ a1 n1 c1 SW.out.i1).mono ?_); rintro e w6 ⟨aA, nA, cA, rfl, ownA, hb6⟩; have SW := Lib.hid (SW.out.keep hb6); have zf2 := (hb6.cell hfl2).trans zf2; have zf3 := (hb6.cell hfl3).trans zf3; have hfl2 := Nat.lt_of_lt_of_le hfl2 hb6.size; have hfl3 := Nat.lt_of_lt_of_le hfl3 hb6.size; have hk : nA = 4 := (by have := ownA.len; omega); subst hk; obtain ⟨bA, oA, rfl, hcA⟩ := ownA.reads.cells (by omega); have zA := hcA 3 (by omega); rw [← H21.out] at zA; clear hcA ownA; have hq21 : (u2 != 1) = false := (by rw [HU21.out]; rfl); clear hb6
                        try (go_wp2_with fail)
                        refine hK.out _ _ ?_ (fun hHeld => ?_)
                        · exact ⟨SW.out.x1.c0, SW.out.x1.c1, zf2, zf3⟩
                        clear hK K
                        try simp only [Act.put, List.setIfInBounds_toArray, List.set_cons_zero, List.set_cons_succ]
                        refine wpAnyH_take (i := 22) (oi := { dst := some 118, op := Op.indexAddr 24 (Operand.tmp 117) (Operand.const (Value.int IntKind.i64 3)), type := 0, pos := "laws.go:932", after := #[{ on := 21, ground := Ground.data }, { on := 19, ground := Ground.guard }], guard := some (19, false) }) (v := ?_) rfl (by kernel_rfl) (by kernel_rfl) (by kernel_rfl) (fun _ _ _ h => h) (Or.inl ⟨by rfl, ?_⟩) (by assumption) ?_
                        rotate_left
                        · intro w hSw
                          try dsimp only at hSw
                          go_simp
                          try (with_reducible rfl)
                        try simp only [Act.put, List.setIfInBounds_toArray, List.set_cons_zero, List.set_cons_succ]
                        refine wpAnyH_ready (rs := [23]) (by kernel_rfl) (by simp) ?_
                        refine AllReadyH.cons (o := { dst := some 119, op := Op.load 3 (Operand.tmp 118), type := 3, pos := "laws.go:932", after := #[{ on := 22, ground := Ground.data }, { on := 19, ground := Ground.guard }], guard := some (19, false) }) rfl (fun K hK => ?_) ?_
                        · go_simp
                          refine hK.out _ _ ?_ (fun hHeld => ?_)
                          · exact ⟨SW.out.x1.c0, SW.out.x1.c1, zf2, zf3⟩
                          clear hK K
                          try simp only [Act.put, List.setIfInBounds_toArray, List.set_cons_zero, List.set_cons_succ]
                          refine wpAnyH_take (i := 24) (oi := { dst := some 120, op := Op.binOp BinOp.neq 3 (Operand.tmp 119) (Operand.const (Value.int IntKind.i64 1)) 3, type := 4, pos := "laws.go:932", after := #[{ on := 23, ground := Ground.data }, { on := 19, ground := Ground.guard }], guard := some (19, false) }) (v := ?_) rfl (by kernel_rfl) (by kernel_rfl) (by kernel_rfl) (fun _ _ _ h => h) (Or.inl ⟨by rfl, ?_⟩) (by assumption) ?_
                          rotate_left
                          · intro w hSw
                            try dsimp only at hSw
                            go_simp
                            try (with_reducible rfl)
                          try simp only [Act.put, List.setIfInBounds_toArray, List.set_cons_zero, List.set_cons_succ]
                          refine wpAnyH_take (i := 25) (oi := { dst := some 121, op := Op.pick (Operand.tmp 115) (Operand.const (Value.bool true)) (Operand.tmp 120), type := 4, pos := "laws.go:932", after := #[{ on := 19, ground := Ground.data }, { on := 24, ground := Ground.data }], guard := none }) (v := ?_) rfl (by kernel_rfl) (by kernel_rfl) (by kernel_rfl) (fun _ _ _ h => h) (Or.inl ⟨by rfl, ?_⟩) (by assumption) ?_
                          rotate_left
                          · intro w hSw
                            try dsimp only at hSw
                            go_simp
                            try (with_reducible rfl)
                          try simp only [Act.put, List.setIfInBounds_toArray, List.set_cons_zero, List.set_cons_succ]
                          refine wpAnyH_done (by kernel_rfl) ?_ _
                          go_wp2_with fail
                          go_meet
                          exact ⟨rfl, SW.out⟩
                        · exact AllReadyH.nil
                      · exact AllReadyH.nil
                    · exact AllReadyH.nil
                  · exact AllReadyH.nil
                · exact AllReadyH.nil
            case rest =>
              as_aux_lemma =>
                obtain ⟨rfl, hst⟩ := hcut
                have S5 := Lib.hid hst
                clear hst S4 zf2 zf3 hfl2 hfl3 hMM hoo hm3 hm2 hk3 hk2
                obtain ⟨x10, x11, _, _, _⟩ := S5.out.x1
                go_wp2_with fail
                refine (HcE.out _ a1 n1 c1 S5.out.i1).mono ?_
                rintro e v5 ⟨rfl, hb⟩
                have S6 := Lib.hid (S5.out.keep hb)
                clear hb x10 x11 S5
                obtain ⟨x10, x11, _, _, _⟩ := S6.out.x1
                by_cases hE : E = 1
                · obtain rfl := HEo.out hE
                  subst hE
                  go_wp2_with fail
                  refine (HC.out.oi _ a1 n1 c1 S6.out.i1 F1).mono ?_
                  rintro e v6 ⟨rfl, hb⟩
                  have S7 := Lib.hid (S6.out.keep hb)
                  clear hb x10 x11 S6
                  go_wp2_with fail
                  go_meet
                  exact S7.out
                · have hEb : (E == 1) = false := by simpa using hE
                  go_wp2_with fail
                  go_meet
                  exact S6.out
        case rest =>
          as_aux_lemma =>
            have S4 := Lib.hid hcut
            clear hcut S3 HSu
            have hn4 := S4.out.i4.small
            have Hl4 : Hid (rs.length = n4) := Lib.hid S4.out.i4.len
            go_wp2_with fail
            go_loopw [10] (fun k wr => ∃ K : Nat, K ≤ n4 ∧ k = .int .i64 K ∧ St w G1 p a1 n1 c1 xs G2 P a2 n2 c2 zs G3 a3 n3 c3 a4 n4 rs wr ∧ Hid (∀ j, j < K → nth rs j ≤ 2)) (fun k _ => n4 - (intOf k).toNat)
            case atStart => exact ⟨0, Nat.zero_le _, rfl, S4.out, Lib.hid fun j hj => absurd hj (by omega)⟩
            case round =>
              obtain ⟨K, hK, rfl, hst, hle⟩ := hrel
              have SR := Lib.hid hst
              clear hst S4
              by_cases hlt : K < n4
              · obtain ⟨b4, o4, rfl, hc4⟩ := SR.out.i4.cells (by omega)
                have z4 := hc4 K hlt
                obtain ⟨y, hy⟩ : ∃ y, y = nth rs K := ⟨_, rfl⟩
                rw [← hy] at z4
                have hK0 : (0 : Int) ≤ K := by omega
                have hKn : (K : Int) < n4 := by omega
                have HY := Lib.hid hy
                clear hy hc4
                by_cases hgt : 2 < y
                · go_wp2_with fail
                  go_ret
                  exact ⟨rfl, SR.out.below⟩
                · have Hgt := Lib.hid hgt
                  go_wp2_with fail
                  go_roundw
                  case rel => exact ⟨K + 1, by omega, by go_num, SR.out, Lib.hid fun j hj => by
                    by_cases e : j = K
                    · rw [e, ← HY.out]; have := Hgt.out; omega
                    · exact hle.out j (by omega)⟩
                  case measure => simp [intOf]; omega
              · obtain rfl : n4 = K := by omega
                have Hle : Hid (∀ x ∈ rs, x ≤ 2) := Lib.hid fun x hx => by
                  obtain ⟨j, hj, rfl⟩ := List.getElem_of_mem hx
                  have := hle.out j (by rw [← Hl4.out]; exact hj)
                  rwa [nth_eq hj] at this
                clear hle hlt hK hn4
                cases b
                · go_wp2_with fail
                  go_ret
                  exact ⟨rfl, SR.out.below⟩
                · have Hl2 : Hid (zs.length = n2) := Lib.hid SR.out.i2.len
                  obtain ⟨x10, x11, _, _, _⟩ := SR.out.x1
                  obtain ⟨x20, x21, _, _, _⟩ := SR.out.x2
                  by_cases hz : n2 = 0
                  · subst hz
                    go_wp2_with fail
                    go_ret
                    exact ⟨rfl, SR.out.below⟩
                  · have hz2 : ((n2 : Int) == 0) = false := by simp; omega
                    have Hne : Hid (zs ≠ []) := Lib.hid fun e => hz (by rw [← Hl2.out, e]; rfl)
                    have Hz := Lib.hid hz
                    clear hz
                    go_wp2_with fail
                    refine (HC.out.ds _ a1 n1 c1 SR.out.i1).mono ?_
                    rintro e v7 ⟨rfl, hb⟩
                    have S8 := Lib.hid (SR.out.keep hb)
                    clear hb x10 x11 x20 x21 SR
                    by_cases hD : D < 1
                    · go_wp2_with fail
                      go_ret
                      exact ⟨rfl, S8.out.below⟩
                    · obtain ⟨es, hev, hcE⟩ := HEd.out Hle.out rfl Hne.out (by omega)
                      have Hev := Lib.hid hev; have HcE := Lib.hid hcE
                      clear hev hcE
                      obtain ⟨x20, x21, _, _, _⟩ := S8.out.x2
                      go_wp2_with fail
                      refine (HcE.out _ a2 n2 c2 S8.out.i2 F2).mono ?_
                      rintro e v8 ⟨a9, n9, c9, rfl, own9, hb⟩
                      have S9 := Lib.hid (S8.out.keep hb)
                      have HI9 := Lib.hid own9.reads
                      have Hl9 : Hid (es.length = n9) := Lib.hid own9.len
                      clear hb own9 x20 x21 S8
                      have hn9 := HI9.out.small
                      go_wp2_with fail
                      go_loop [12] (fun k => ∃ K : Nat, K ≤ n9 ∧ k = .int .i64 K) (fun k => n9 - (intOf k).toNat)
                      case atStart => exact ⟨0, Nat.zero_le _, rfl⟩
                      case round =>
                        obtain ⟨K, hK, rfl⟩ := hrel
                        by_cases hlt : K < n9
                        · obtain ⟨b9, o9, rfl, hc9⟩ := HI9.out.cells (by omega)
                          have z9 := hc9 K hlt
                          obtain ⟨hy0, hy2⟩ := Hev.out (nth es K) (by rw [nth_eq (by rw [Hl9.out]; exact hlt)]; exact List.getElem_mem _)
                          obtain ⟨y, hy⟩ : ∃ y, y = nth es K := ⟨_, rfl⟩
                          rw [← hy] at z9 hy0 hy2
                          have hK0 : (0 : Int) ≤ K := by omega
                          have hKn : (K : Int) < n9 := by omega
                          have ht0 : y.tmod 2 = 0 := by rw [Int.tmod_eq_emod_of_nonneg hy0]; exact hy2
                          have hb0 : (y % 2 != 0) = false := by simp; exact hy2
                          clear hy hc9
                          go_wp2_with fail
                          go_round
                          case rel => exact ⟨K + 1, by omega, by go_num⟩
                          case measure => simp [intOf]; omega
                        · obtain rfl : n9 = K := by omega
                          go_wp2_with fail
                          go_ret
                          exact ⟨rfl, S9.out.below⟩
  · have hnn : 1048576 < n := by omega
    go_enter Tryz.func6, Tryz.ntmps6
    go_wp2_with (go_at_call 7; (with_reducible refine (big_yes ad n c _ hnn hnm).mono ?_); rintro e w' ⟨rfl, rfl⟩)
    go_ret
    exact ⟨rfl, Below.refl _ _⟩

end Go.Proofs.YtihfhfihladlcaaGreatDoor.lawFnManifolds

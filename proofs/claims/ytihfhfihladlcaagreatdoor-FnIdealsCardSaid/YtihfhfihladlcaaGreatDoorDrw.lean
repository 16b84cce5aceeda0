/- The cursor of the reference's drawing: what l1New, l1Byte, l1Below, l1Once and l1PickInt return, whatever the bytes are. -/
import Derived.Deep.RegionHeld3
import Derived.Deep.RegionWith
import Derived.Test.YtihfhfihladlcaaGreatDoorCore
import Derived.Test.YtihfhfihladlcaaGreatDoorSet3
namespace Go.Proofs.YtihfhfihladlcaaGreatDoor
set_option maxRecDepth 20000
open Go.RowKit
set_option linter.unusedSimpArgs false
set_option linter.unusedVariables false

structure CurF (W : World) (g : Nat) (a : Option Addr) (n c : Nat) (i : Nat) (h : Int) : Prop where
  c0 : W.cell? ⟨g, 0, none⟩ = some (.slice a n c)
  c1 : W.cell? ⟨g, 1, none⟩ = some (.int .i64 i)
  c2 : W.cell? ⟨g, 2, none⟩ = some (.int .i64 h)
  f0 : W.frozen? ⟨g, 0, none⟩ = false
  f1 : W.frozen? ⟨g, 1, none⟩ = false
  f2 : W.frozen? ⟨g, 2, none⟩ = false
  lt : g < W.heap.size
theorem CurF.other {W W' : World} {g : Nat} {a : Option Addr} {n c i : Nat} {h : Int} (k : CurF W g a n c i h) (hs : W.heap.size ≤ W'.heap.size) (hb : W'.heap[g]? = W.heap[g]?) : CurF W' g a n c i h :=
  ⟨(World.cell?_of_block (a := ⟨g, 0, none⟩) hb).trans k.c0, (World.cell?_of_block (a := ⟨g, 1, none⟩) hb).trans k.c1, (World.cell?_of_block (a := ⟨g, 2, none⟩) hb).trans k.c2,
   (World.frozen?_of_block (a := ⟨g, 0, none⟩) hb).trans k.f0, (World.frozen?_of_block (a := ⟨g, 1, none⟩) hb).trans k.f1, (World.frozen?_of_block (a := ⟨g, 2, none⟩) hb).trans k.f2, Nat.lt_of_lt_of_le k.lt hs⟩
theorem CurF.set1 {W : World} {g : Nat} {a : Option Addr} {n c i : Nat} {h : Int} (k : CurF W g a n c i h) (j : Nat) : CurF (W.setCell ⟨g, 1, none⟩ (.int .i64 j)) g a n c j h := by
  obtain ⟨c0, c1, c2, f0, f1, f2, lt⟩ := k
  exact ⟨(World.cell?_setCell_other W _ _ _ (by simp)).trans c0, World.cell?_setCell_same W _ _ c1, (World.cell?_setCell_other W _ _ _ (by simp)).trans c2, by rw [World.frozen?_setCell]; exact f0, by rw [World.frozen?_setCell]; exact f1, by rw [World.frozen?_setCell]; exact f2, by simpa using lt⟩
theorem CurF.set2 {W : World} {g : Nat} {a : Option Addr} {n c i : Nat} {h : Int} (k : CurF W g a n c i h) (j : Int) : CurF (W.setCell ⟨g, 2, none⟩ (.int .i64 j)) g a n c i j := by
  obtain ⟨c0, c1, c2, f0, f1, f2, lt⟩ := k
  exact ⟨(World.cell?_setCell_other W _ _ _ (by simp)).trans c0, (World.cell?_setCell_other W _ _ _ (by simp)).trans c1, World.cell?_setCell_same W _ _ c2, by rw [World.frozen?_setCell]; exact f0, by rw [World.frozen?_setCell]; exact f1, by rw [World.frozen?_setCell]; exact f2, by simpa using lt⟩
/-- bytes that lie outside of block g -/
def ByAt (W : World) (g : Nat) (a : Option Addr) (n : Nat) : Prop :=
  n ≤ 9223372036854775807 ∧ (0 < n → ∃ b off, a = some ⟨b, off, none⟩ ∧ b < g ∧ ∀ k, k < n → ∃ v : Nat, v < 256 ∧ W.cell? ⟨b, off + k, none⟩ = some (.int .u8 v))
theorem ByAt.other {W W' : World} {g : Nat} {a : Option Addr} {n : Nat} (h : ByAt W g a n) (hb : ∀ b, b < g → W'.heap[b]? = W.heap[b]?) : ByAt W' g a n := by
  refine ⟨h.1, fun hn => ?_⟩
  obtain ⟨b, off, ha, hlt, hc⟩ := h.2 hn
  refine ⟨b, off, ha, hlt, fun k hk => ?_⟩
  obtain ⟨v, hv, hcv⟩ := hc k hk
  exact ⟨v, hv, (World.cell?_of_block (a := ⟨b, off + k, none⟩) (hb b hlt)).trans hcv⟩
/-- A cursor lies in block g. -/
def Cur (W : World) (g : Nat) : Prop := ∃ a n c i h, CurF W g a n c i h ∧ ByAt W g a n ∧ i ≤ n
theorem Cur.lt {W : World} {g : Nat} (h : Cur W g) : g < W.heap.size := by obtain ⟨_, _, _, _, _, hf, _⟩ := h; exact hf.lt
theorem Cur.keep {W W' : World} {g : Nat} (h : Cur W g) (hb : Below (g + 1) W W') : Cur W' g := by
  obtain ⟨a, n, c, i, x, hf, hy, hi⟩ := h
  exact ⟨a, n, c, i, x, hf.other hb.size (hb.block g (by omega)), hy.other fun b hlt => hb.block b (by omega), hi⟩
theorem Cur.alloc {W : World} {g : Nat} (h : Cur W g) (o : Obj) : Cur (W.alloc o) g := h.keep ((Below.refl _ _).alloc h.lt _)
theorem Cur.setNew {W : World} {g : Nat} (h : Cur W g) (p : Addr) (v : Value) (hp : g < p.block) : Cur (W.setCell p v) g := h.keep ((Below.refl _ _).setCell hp _)
theorem Cur.drew {W : World} {g : Nat} (h : Cur W g) : Cur W.drew g := h.keep (Below.refl _ _).drew
theorem Chg.setNew {a b : World} {g : Nat} (h : Chg a b g none) (p : Addr) (v : Value) (hp : a.heap.size ≤ p.block) : Chg a (b.setCell p v) g none :=
  ⟨h.os, h.tape, h.output, by simpa using h.size, fun i hi hg hne => (Below.heap_setCell _ _ _ _ (by omega)).trans (h.block i hi hg hne)⟩
theorem and255 (z : Int) : ∃ y : Nat, y < 256 ∧ bits .and .i64 z 255 = y := by
  have hx : (BitVec.ofInt 64 z).toNat &&& 255 < 2 ^ 8 := Nat.and_lt_two_pow _ (by omega)
  refine ⟨(BitVec.ofInt 64 z).toNat &&& 255, by omega, ?_⟩
  show IntKind.i64.wrap ((BitVec.ofInt 64 z &&& BitVec.ofInt 64 255).toNat : Int) = _
  rw [BitVec.toNat_and, show (BitVec.ofInt 64 255).toNat = 255 by decide, IntKind.wrap_i64]
  omega
/-- what a drawing function leaves: a value with P, and only the cursor's block and new blocks are other than before -/
def RetD (g : Nat) (w : World) (P : Value → World → Prop) (e : Ending) (w' : World) : Prop :=
  ∃ v, e = .returned v ∧ P v w' ∧ Chg w w' g none ∧ Cur w' g

set_option maxHeartbeats 400000 in
theorem l1Byte_any (g : Nat) (w : World) (hc : Cur w g) :
    Calls Tryz.prog 183 #[.pointer (some ⟨g, 0, none⟩)] w (RetD g w fun v _ => ∃ x : Nat, x < 256 ∧ v = .int .i64 x) := by
  obtain ⟨a, n, c, i, h, hf, hy, hi⟩ := hc
  obtain ⟨c0, c1, c2, f0, f1, f2, lt⟩ := id hf
  have HF := Lib.hid hf; have HY := Lib.hid hy
  clear hf hy
  go_enter Tryz.func183, Tryz.ntmps183
  go_wp2_with fail
  obtain ⟨h1, hh1⟩ : ∃ h1, h1 = wrap64 (wrap64 (h * 6364136223846793005) + 1442695040888963407) := ⟨_, rfl⟩
  rw [← hh1]
  obtain ⟨w1, hw1⟩ : ∃ w1, w1 = w.setCell ⟨g, 2, none⟩ (.int .i64 h1) := ⟨_, rfl⟩
  rw [← hw1]
  have HF1 : Hid (CurF w1 g a n c i h1) := Lib.hid (by rw [hw1]; exact HF.out.set2 h1)
  have HG1 : Hid (Chg w w1 g none) := Lib.hid (by rw [hw1]; exact (Chg.refl w g none).setAny 2 _)
  have HY1 : Hid (ByAt w1 g a n) := Lib.hid (HY.out.other fun b hb => HG1.out.block b (by omega) (by omega) (by simp))
  clear c0 c1 c2 f0 f1 f2 hh1 hw1
  obtain ⟨c0, c1, c2, f0, f1, f2, lt1⟩ := HF1.out
  go_region
  obtain ⟨x, hx, ex⟩ := and255 (bits .xor .i64 (h1 / 8589934592) (h1 / 35184372088832))
  rw [ex]
  go_wp2_with fail
  go_region
  by_cases hlt : i < n
  · have hli : (i : Int) < n := by omega
    obtain ⟨b, off, rfl, hbl, hby⟩ := HY1.out.2 (by omega)
    obtain ⟨v, hv, hcv⟩ := hby i hlt
    clear hby
    go_wp2_with fail
    go_region
    obtain ⟨y, hy, ey⟩ := and255 ((x : Int) + v)
    go_wp2_with fail
    have e1 : wrap64 ((i : Int) + 1) = ((i + 1 : Nat) : Int) := by have := HY.out.1; unfold wrap64; omega
    rw [e1]
    obtain ⟨w2, hw2⟩ : ∃ w2, w2 = w1.setCell ⟨g, 1, none⟩ (.int .i64 ((i + 1 : Nat) : Int)) := ⟨_, rfl⟩
    rw [← hw2]
    have hg2 : Chg w w2 g none := by rw [hw2]; exact HG1.out.setAny 1 _
    have hf2 : CurF w2 g (some ⟨b, off, none⟩) n c (i + 1) h1 := by rw [hw2]; exact HF1.out.set1 (i + 1)
    have hy2 : ByAt w2 g (some ⟨b, off, none⟩) n := by rw [hw2]; exact HY1.out.other fun b hb => (Below.heap_setCell _ _ _ _ (by simp only; omega))
    clear hw2
    go_ret
    exact ⟨.int .i64 y, ret_int ey, ⟨y, hy, rfl⟩, hg2.drew.drew.drew, ⟨_, n, c, i + 1, h1, hf2.other (Nat.le_refl _) rfl, hy2.other fun _ _ => rfl, hlt⟩⟩
  · have hli : ¬ ((i : Int) < n) := by omega
    go_wp2_with fail
    go_ret
    exact ⟨_, rfl, ⟨x, hx, rfl⟩, HG1.out.drew.drew, ⟨_, n, c, i, h1, HF1.out.other (Nat.le_refl _) rfl, HY1.out.other fun _ _ => rfl, hi⟩⟩
theorem CurF.new (W : World) (a : Option Addr) (n c : Nat) (h : Int) (T : Nat) : CurF (W.alloc (.cells #[.slice a n c, .int .i64 0, .int .i64 h] T)) W.heap.size a n c 0 h := ⟨by simp, by simp, by simp, by simp, by simp, by simp, by simp⟩
theorem l1New_any (a : Option Addr) (n c : Nat) (w : World) (hy : ByAt w w.heap.size a n) (hn : n ≤ 1048576) :
    Calls Tryz.prog 85 #[.slice a n c] w fun e w' => e = .returned (.pointer (some ⟨w.heap.size, 0, none⟩)) ∧ Below w.heap.size w w' ∧ Cur w' w.heap.size := by
  have HY := Lib.hid hy; clear hy
  go_enter Tryz.func85, Tryz.ntmps85
  go_wp2_with fail
  go_loop [3, 4] (fun h i => ∃ (k : Nat) (x : Int), k ≤ n ∧ i = .int .i64 k ∧ h = .int .i64 x) (fun _ i => n - (intOf i).toNat)
  case atStart => exact ⟨0, _, Nat.zero_le _, rfl, rfl⟩
  case round =>
    obtain ⟨k, x, hk, rfl, rfl⟩ := hrel
    by_cases hlt : k < n
    · have hli : (k : Int) < n := by omega
      obtain ⟨b, off, rfl, hbl, hby⟩ := HY.out.2 (by omega)
      obtain ⟨v, hv, hcv⟩ := hby k hlt
      clear hby
      by_cases h4 : k < 4000
      · have h4i : (k : Int) < 4000 := by omega
        go_wp2_with fail
        go_round
        case rel => exact ⟨k + 1, _, by omega, by go_num, rfl⟩
        case measure => simp [intOf]; omega
      · have h4i : ¬ ((k : Int) < 4000) := by omega
        go_wp2_with fail
        go_ret
        refine ⟨rfl, (by repeat (first | exact Below.refl _ _ | assumption | refine Below.setCell ?_ (by first | omega | (simp; done) | (simp; omega)) _ | refine Below.alloc ?_ (by first | omega | (simp; done) | (simp; omega)) _ | apply Below.drew)), ⟨_, n, c, 0, _, CurF.new _ _ _ _ _ _, ?_, Nat.zero_le _⟩⟩
        exact HY.out.other fun b hb => Below.heap_alloc _ _ _ hb
    · have hli : ¬ ((k : Int) < n) := by omega
      go_wp2_with fail
      go_ret
      refine ⟨rfl, (by repeat (first | exact Below.refl _ _ | assumption | refine Below.setCell ?_ (by first | omega | (simp; done) | (simp; omega)) _ | refine Below.alloc ?_ (by first | omega | (simp; done) | (simp; omega)) _ | apply Below.drew)), ⟨_, n, c, 0, _, CurF.new _ _ _ _ _ _, ?_, Nat.zero_le _⟩⟩
      exact HY.out.other fun b hb => Below.heap_alloc _ _ _ hb
theorem l1Below_any (g : Nat) (n : Int) (w : World) (hc : Cur w g) (hn : n ≤ 256) :
    Calls Tryz.prog 132 #[.pointer (some ⟨g, 0, none⟩), .int .i64 n] w (RetD g w fun v _ => ∃ x : Nat, (0 < n → (x : Int) < n) ∧ (n ≤ 0 → x = 0) ∧ v = .int .i64 x) := by
  by_cases h0 : n ≤ 0
  · go_enter Tryz.func132, Tryz.ntmps132
    go_wp2_with fail
    go_ret
    exact ⟨_, rfl, ⟨0, by omega, fun _ => rfl, rfl⟩, Chg.refl _ _ _, hc⟩
  · obtain ⟨m, rfl⟩ := Int.eq_ofNat_of_zero_le (show 0 ≤ n by omega)
    have hm : 0 < m := by omega
    have HC := Lib.hid hc
    clear hc
    go_enter Tryz.func132, Tryz.ntmps132
    go_wp2_with fail
    refine (l1Byte_any g w HC.out).mono ?_
    rintro e w1 ⟨v, rfl, ⟨x, hx, rfl⟩, hg1, hc1⟩
    have hmod : Int.tmod (x : Int) m = ((x % m : Nat) : Int) := by rw [Int.ofNat_tmod]
    have hne : (m : Int) ≠ 0 := by omega
    have HG1 := Lib.hid hg1; have HC1 := Lib.hid hc1
    clear hg1 hc1
    go_wp2_with fail
    go_ret
    refine ⟨.int .i64 ((x % m : Nat) : Int), ret_int (by simp), ⟨x % m, fun _ => by have := Nat.mod_lt x hm; omega, fun h => by omega, rfl⟩, HG1.out, HC1.out⟩
theorem l1Once_any (g : Nat) (n : Int) (w : World) (hc : Cur w g) (hn : n ≤ 256) :
    Calls Tryz.prog 130 #[.pointer (some ⟨g, 0, none⟩), .int .i64 n] w (RetD g w fun v _ => ∃ b : Bool, v = .bool b) := by
  have HC := Lib.hid hc
  clear hc
  go_enter Tryz.func130, Tryz.ntmps130
  go_wp2_with fail
  refine (l1Below_any g n w HC.out hn).mono ?_
  rintro e w1 ⟨v, rfl, ⟨x, hx, hx0, rfl⟩, hg1, hc1⟩
  have HG1 := Lib.hid hg1; have HC1 := Lib.hid hc1
  clear hg1 hc1 hx hx0
  go_wp2_with fail
  go_ret
  exact ⟨_, rfl, ⟨_, rfl⟩, HG1.out, HC1.out⟩
theorem l1PickInt_any (g : Nat) (a : Option Addr) (n c : Nat) (xs : List Int) (w : World) (hc : Cur w g) (hx : IntsAt w a n xs) (hne : ∀ b, a = some b → b.block ≠ g) (h0 : 0 < n) (hn : n ≤ 256) :
    Calls Tryz.prog 167 #[.pointer (some ⟨g, 0, none⟩), .slice a n c] w (RetD g w fun v _ => ∃ x, x ∈ xs ∧ v = .int .i64 x) := by
  have HC := Lib.hid hc; have HX := Lib.hid hx; have HN := Lib.hid hne
  clear hc hx hne
  go_enter Tryz.func167, Tryz.ntmps167
  go_wp2_with fail
  refine (l1Below_any g n w HC.out (by omega)).mono ?_
  rintro e w1 ⟨v, rfl, ⟨x, hx, hx0, rfl⟩, hg1, hc1⟩
  have hxn : x < n := by have := hx (by omega); omega
  obtain ⟨b, off, rfl, hcell⟩ := (HX.out.chg hg1 fun b hb => ⟨HN.out b hb, by simp⟩).cells h0
  have hcx := hcell x hxn
  have hxi : (x : Int) < n := by omega
  have HG1 := Lib.hid hg1; have HC1 := Lib.hid hc1
  clear hg1 hc1 hx hx0 hcell
  go_wp2_with fail
  go_ret
  exact ⟨_, rfl, ⟨nth xs x, nth_mem (by rw [HX.out.len]; exact hxn), rfl⟩, HG1.out, HC1.out⟩
theorem l1Pick_any (g B : Nat) (a : Option Addr) (n c : Nat) (S : List ByteArray) (w : World) (hc : Cur w g) (hx : Row 9 w B a n c (S.map Value.string)) (hg : g < B) (h0 : 0 < n) (hn : n ≤ 256) :
    Calls Tryz.prog 180 #[.pointer (some ⟨g, 0, none⟩), .slice a n c] w (RetD g w fun v _ => ∃ x, x ∈ S ∧ v = .string x) := by
  have HC := Lib.hid hc; have HX := Lib.hid hx
  clear hc hx
  go_enter Tryz.func180, Tryz.ntmps180
  go_wp2_with fail
  refine (l1Below_any g n w HC.out (by omega)).mono ?_
  rintro e w1 ⟨v, rfl, ⟨x, hx, hx0, rfl⟩, hg1, hc1⟩
  have hxn : x < n := by have := hx (by omega); omega
  have hl : S.length = n := by have := HX.out.len; simpa using this
  obtain ⟨b, rfl, hB, hlt, hcell, _⟩ := (hg1.row HX.out fun k hk => by have := (HX.out.lt k hk).1; omega).cells h0
  have hcx := hcell x hxn
  rw [List.getElem?_map, List.getElem?_eq_getElem (by omega)] at hcx
  simp only [Option.map_some] at hcx
  have hxi : (x : Int) < n := by omega
  have HG1 := Lib.hid hg1; have HC1 := Lib.hid hc1
  obtain ⟨y, hy⟩ : ∃ y, y = S[x] := ⟨_, rfl⟩
  rw [← hy] at hcx
  have hyS : y ∈ S := by rw [hy]; exact List.getElem_mem _
  clear hg1 hc1 hx hx0 hcell hy
  go_wp2_with fail
  go_ret
  exact ⟨_, rfl, ⟨y, hyS, rfl⟩, HG1.out, HC1.out⟩
end Go.Proofs.YtihfhfihladlcaaGreatDoor

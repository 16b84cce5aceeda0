/- Contracts on ideals and complexes made of families of sets. -/
import Derived.Test.YtihfhfihladlcaaGreatDoorBase
import Derived.Test.YtihfhfihladlcaaGreatDoorIdeal
import Derived.Test.YtihfhfihladlcaaGreatDoorPick
namespace Go.Proofs.YtihfhfihladlcaaGreatDoor
set_option maxRecDepth 20000
open Go.RowKit
set_option linter.unusedSimpArgs false
set_option linter.unusedVariables false

theorem complexOf_any (p : Int) (F : Nat) (w : World) (hF : Fam F) :
    Calls Tryz.prog 120 #[.int .i64 p, .int .u64 F] w (RetBox w p (up (maxL F.testBit))) := by
  go_enter Tryz.func120, Tryz.ntmps120
  go_wp2_with fail
  refine (maximalIn_any F _ hF).mono ?_
  rintro e w1 ⟨ad, m, d, rfl, hown, hb⟩
  obtain ⟨hc, hf⟩ := bcell hb
  have hz : w.heap.size + 1 ≤ w1.heap.size := by have := hb.size; simp at this; omega
  have hbl : Below w.heap.size w w1 := Below.trans (by repeat (first | exact Below.refl _ _ | assumption | refine Below.setCell ?_ (by first | omega | (simp; done) | (simp; omega)) _ | refine Below.alloc ?_ (by first | omega | (simp; done) | (simp; omega)) _ | apply Below.drew)) (hb.mono (by simp))
  have ho : Own 3 w1 (w.heap.size + 1) ad m d _ := hown.mono (by simp)
  go_wp2_with fail
  refine bodyPost_ret (v := .agg #[.int .i64 p, .slice ad m d]) (by simp [results, Tryz.results120, go_sem, hc, hz]) rfl ⟨ad, m, d, rfl, ?_, (by repeat (first | exact Below.refl _ _ | assumption | refine Below.setCell ?_ (by first | omega | (simp; done) | (simp; omega)) _ | refine Below.alloc ?_ (by first | omega | (simp; done) | (simp; omega)) _ | apply Below.drew))⟩
  exact ((ho.setBelow _ (by omega)).setBelow _ (by omega)).mono (by omega)
theorem idealOfSets_any (p : Int) (F : Nat) (w : World) (hF : Fam F) :
    Calls Tryz.prog 80 #[.int .i64 p, .int .u64 F] w (RetBox w p (up (minL F.testBit))) := by
  go_enter Tryz.func80, Tryz.ntmps80
  go_wp2_with fail
  refine (minimalIn_any F _ hF).mono ?_
  rintro e w1 ⟨ad, m, d, rfl, hown, hb⟩
  obtain ⟨hc, hf⟩ := bcell hb
  have hz : w.heap.size + 1 ≤ w1.heap.size := by have := hb.size; simp at this; omega
  have hbl : Below w.heap.size w w1 := Below.trans (by repeat (first | exact Below.refl _ _ | assumption | refine Below.setCell ?_ (by first | omega | (simp; done) | (simp; omega)) _ | refine Below.alloc ?_ (by first | omega | (simp; done) | (simp; omega)) _ | apply Below.drew)) (hb.mono (by simp))
  have ho : Own 3 w1 (w.heap.size + 1) ad m d _ := hown.mono (by simp)
  go_wp2_with fail
  refine bodyPost_ret (v := .agg #[.int .i64 p, .slice ad m d]) (by simp [results, Tryz.results80, go_sem, hc, hz]) rfl ⟨ad, m, d, rfl, ?_, (by repeat (first | exact Below.refl _ _ | assumption | refine Below.setCell ?_ (by first | omega | (simp; done) | (simp; omega)) _ | refine Below.alloc ?_ (by first | omega | (simp; done) | (simp; omega)) _ | apply Below.drew))⟩
  exact ((ho.setBelow _ (by omega)).setBelow _ (by omega)).mono (by omega)

/-- what lies in an ideal -/
def inN (l : List Nat) (N : Nat) : Nat := pickN (fun s => l.any (sub · s)) N
theorem inN_Fam (l : List Nat) (N : Nat) : Fam (inN l N) := by unfold inN pickN; exact fam_Fam _
theorem inN_bit {l : List Nat} {N s : Nat} (hs : s < 64) : (inN l N).testBit s = above l N s := by
  unfold inN pickN above; rw [fam_at hs]
theorem idealFn_any (p : Int) (g s : Nat) (a : Option Addr) (n c : Nat) (l : List Nat) (w : World) (hs : s < 64) (hb : BoxF w g (.int .i64 p) (.slice a n c)) (h : IntsAt w a n (up l)) (hl : ∀ t ∈ l, t < 64) :
    Calls Tryz.prog 164 #[.int .i64 s, .pointer (some ⟨g, 0, none⟩)] w fun e w' => e = .returned (.bool (l.any (sub · s))) ∧ w = w' := by
  obtain ⟨c0, c1, _, _, _⟩ := hb
  obtain ⟨b, hb⟩ : ∃ b, b = l.any (sub · s) := ⟨_, rfl⟩
  have Hb := Lib.hid hb.symm
  rw [← hb]
  have Hh := Lib.hid h; have Hl := Lib.hid hl
  clear hb h hl
  go_enter Tryz.func164, Tryz.ntmps164
  go_wp2_with (go_at_call 96; (with_reducible refine (iAvoids_any s a n c l _ Hh.out hs Hl.out b Hb.out).mono ?_); rintro e w' ⟨rfl, rfl⟩)
  go_ret
  exact ⟨ret_bool (by simp), rfl⟩
set_option maxRecDepth 100000 in
theorem idealIn_any (m : Nat) (a : Option Addr) (n c : Nat) (l : List Nat) (w : World) (h : IntsAt w a n (up l)) (hm : m ≤ 6) (hl : ∀ t ∈ l, t < 64) :
    Calls Tryz.prog 81 #[.agg #[.int .i64 m, .slice a n c]] w fun e w' => e = .returned (.int .u64 (inN l (2 ^ m))) ∧ Below w.heap.size w w' := by
  have hx : IntsAt (w.alloc (.cells #[.int .i64 m, .slice a n c] 26)) a n (up l) := h.keep (by repeat (first | exact Below.refl _ _ | assumption | refine Below.setCell ?_ (by first | omega | (simp; done) | (simp; omega)) _ | refine Below.alloc ?_ (by first | omega | (simp; done) | (simp; omega)) _ | apply Below.drew))
  have Hx := Lib.hid hx; have Hl := Lib.hid hl
  have Hbx := Lib.hid (BoxF.new w (.int .i64 m) (.slice a n c) 26)
  clear h hx hl
  go_enter Tryz.func81, Tryz.ntmps81
  go_wp2_with fail
  refine (pickSets_any 164 #[.pointer (some ⟨w.heap.size, 0, none⟩)] (fun s => l.any (sub · s)) m _ hm (fun _ _ => rfl) (fun s hs => idealFn_any m w.heap.size s a n c l _ hs Hbx.out Hx.out Hl.out)).mono ?_
  rintro e we ⟨rfl, rfl⟩
  go_wp2_with fail
  go_ret
  exact ⟨rfl, (by repeat (first | exact Below.refl _ _ | assumption | refine Below.setCell ?_ (by first | omega | (simp; done) | (simp; omega)) _ | refine Below.alloc ?_ (by first | omega | (simp; done) | (simp; omega)) _ | apply Below.drew))⟩
end Go.Proofs.YtihfhfihladlcaaGreatDoor

/- Small contracts of the law of orders: samePoset, DrawParsePoset, GreatestMissing and IsFlag of the reference. -/
import Derived.Test.YtihfhfihladlcaaGreatDoorDrwM
import Derived.Test.YtihfhfihladlcaaGreatDoorFlip
import Derived.Test.YtihfhfihladlcaaGreatDoorLeft
import Derived.Test.YtihfhfihladlcaaGreatDoorMissing
import Derived.Test.YtihfhfihladlcaaGreatDoorPosText
import Derived.Test.YtihfhfihladlcaaGreatDoorPosTx
namespace Go.Proofs.YtihfhfihladlcaaGreatDoor
set_option maxRecDepth 20000
open Go.RowKit
set_option linter.unusedSimpArgs false
set_option linter.unusedVariables false

theorem samePoset_yes (p : Int) (a b : Option Addr) (n m c d : Nat) (xs : List Int) (w : World) (h : IntsAt w a n xs) (h' : IntsAt w b m xs) :
    Calls Tryz.prog 53 #[.agg #[.int .i64 p, .slice a n c], .agg #[.int .i64 p, .slice b m d]] w fun e w' => e = .returned (.bool true) ∧ Below w.heap.size w w' := by
  obtain ⟨W0, hW0⟩ : ∃ W0, W0 = (w.alloc (.cells #[.int .i64 p, .slice a n c] 59)).alloc (.cells #[.int .i64 p, .slice b m d] 59) := ⟨_, rfl⟩
  have Hx : Hid (IntsAt W0 a n xs) := Lib.hid (by rw [hW0]; exact h.keep (by repeat (first | exact Below.refl _ _ | assumption | refine Below.setCell ?_ (by first | omega | (simp; done) | (simp; omega)) _ | refine Below.alloc ?_ (by first | omega | (simp; done) | (simp; omega)) _ | apply Below.drew)))
  have Hy : Hid (IntsAt W0 b m xs) := Lib.hid (by rw [hW0]; exact h'.keep (by repeat (first | exact Below.refl _ _ | assumption | refine Below.setCell ?_ (by first | omega | (simp; done) | (simp; omega)) _ | refine Below.alloc ?_ (by first | omega | (simp; done) | (simp; omega)) _ | apply Below.drew)))
  have HB : Hid (Below w.heap.size w W0) := Lib.hid (by rw [hW0]; exact (by repeat (first | exact Below.refl _ _ | assumption | refine Below.setCell ?_ (by first | omega | (simp; done) | (simp; omega)) _ | refine Below.alloc ?_ (by first | omega | (simp; done) | (simp; omega)) _ | apply Below.drew)))
  have HW0 := Lib.hid hW0
  clear h h' hW0
  have hpp : (p == p) = true := by simp
  go_enter Tryz.func53, Tryz.ntmps53
  go_wp2_with fail
  rw [← HW0.out]
  refine (sameInts_yes a b n m c d xs xs W0 Hx.out Hy.out rfl).mono ?_
  rintro e w1 ⟨rfl, hb⟩
  have HB1 := Lib.hid (HB.out.trans (hb.mono HB.out.size))
  clear hb
  go_wp2_with fail
  go_ret
  exact ⟨rfl, HB1.out⟩
theorem Row.litStr6 (w : World) (B : Nat) (hB : B ≤ w.heap.size) (s0 s1 s2 s3 s4 s5 : ByteArray) :
    Row 9 (w.alloc (.cells #[.string s0, .string s1, .string s2, .string s3, .string s4, .string s5] 9)) B (some ⟨w.heap.size, 0, none⟩) 6 6 ([s0, s1, s2, s3, s4, s5].map Value.string) :=
  ⟨rfl, World.ownsRow_lit w #[.string s0, .string s1, .string s2, .string s3, .string s4, .string s5] 6 hB (by decide) (by simp)⟩
theorem sPosText_any (p : Int) (a : Option Addr) (n c : Nat) (xs : List Int) (w : World) (h : IntsAt w a n xs) (hl : xs.length ≤ 6) :
    ∃ T : ByteArray, T.size ≤ 200 ∧ Calls Tryz.prog 59 #[.agg #[.int .i64 p, .slice a n c]] w fun e w' => e = .returned (.string T) ∧ Below w.heap.size w w' := by
  by_cases hP : PosetP p xs
  · refine ⟨_, ?_, sPosetText_yes p a n c xs w h hP⟩
    have h6 : (nats xs).length ≤ 6 := by rw [nats_len]; exact hl
    have := posText_len (m := n) h6
    omega
  · exact ⟨_, by simp [str, ByteArray.size], sPosetText_no p a n c xs w h hP⟩
theorem drawParsePoset_any (a : Option Addr) (n c : Nat) (w : World) (hy : CodeAt w a n) (hn : n ≤ 1048576) :
    Calls Tryz.prog 47 #[.slice a n c] w fun e w' => ∃ t : ByteArray, e = .returned (.string t) ∧ t.size ≤ 201 ∧ Below w.heap.size w w' := by
  have HY := Lib.hid hy
  clear hy
  go_enter Tryz.func47, Tryz.ntmps47
  go_wp2_with fail
  refine (l1New_any a n c w HY.out hn).mono ?_
  rintro e w1 ⟨rfl, hb1, hc1⟩
  have HB1 : Hid (Below w.heap.size w w1) := Lib.hid hb1
  obtain ⟨g, hg⟩ : ∃ g, g = w.heap.size := ⟨_, rfl⟩
  rw [← hg] at hc1
  rw [← hg]
  have hgw : w.heap.size ≤ g := by omega
  have HC1 := Lib.hid hc1
  have hz1 : w.heap.size ≤ w1.heap.size := hb1.size
  clear hb1 hc1 hg
  go_wp2_with fail
  refine (l26Draw_any g w1 HC1.out).mono ?_
  rintro e w2 ⟨v, rfl, ⟨m, b, d, xs, rfl, hown, hm1, hm6⟩, hg2, hc2⟩
  have HB2 := Lib.hid (HB1.out.trans (hg2.belowNew hgw hz1))
  have HC2 := Lib.hid hc2
  have hz2 : w.heap.size ≤ w2.heap.size := HB2.out.size
  obtain ⟨T, hT, hcT⟩ := sPosText_any m (some ⟨b, 0, none⟩) m d xs w2 hown.reads (by rw [hown.len]; exact hm6)
  have HcT := Lib.hid hcT
  clear hg2 hc2 hown hcT
  go_wp2_with fail
  refine (HcT.out).mono ?_
  rintro e w3 ⟨rfl, hb3⟩
  have HB3 := Lib.hid (HB2.out.trans (hb3.mono hz2))
  have HC3 := Lib.hid (HC2.out.keep (hb3.mono (by have := HC2.out.lt; omega)))
  have hz3 : w.heap.size ≤ w3.heap.size := HB3.out.size
  have hgl3 := HC3.out.lt
  clear hb3
  have HS := Lib.hid (Row.litStr6 w3 w3.heap.size (Nat.le_refl _))
  go_wp2_with fail
  refine (l1Turned_any g w3.heap.size T _ 6 6 _ _ (HC3.out.alloc _) (HS.out _ _ _ _ _ _) hgl3 (by omega) (by omega) hT (fun x hx => ?_)).mono ?_
  · simp only [List.mem_cons, List.not_mem_nil, or_false] at hx
    rcases hx with rfl | rfl | rfl | rfl | rfl | rfl <;> rfl
  rintro e w4 ⟨v, rfl, ⟨x, hx, rfl⟩, hg4, hc4⟩
  have HB4 := Lib.hid (((HB3.out.alloc hz3 _).trans (hg4.belowNew hgw (by simp; omega))) : Below w.heap.size w w4)
  clear hg4 hc4 HS
  go_wp2_with fail
  go_ret
  exact ⟨x, rfl, hx, HB4.out⟩
theorem sGreat_two (m : Nat) (a : Option Addr) (n c : Nat) (l : List Nat) (w : World) (h : IntsAt w a n (up l)) (hC : Cpx m l) (hf : ∀ s ∈ minL (missB l (2 ^ m)), sz s ≤ 2) :
    Calls Tryz.prog 143 #[.agg #[.int .i64 m, .slice a n c]] w fun e w' => ∃ k : Int, e = .returned (.int .i64 k) ∧ k ≤ 2 ∧ Below w.heap.size w w' := by
  obtain ⟨W0, hW0⟩ : ∃ W0, W0 = (w.alloc (.cells #[.int .i64 m, .slice a n c] 32)) := ⟨_, rfl⟩
  have Hx : Hid (IntsAt W0 a n (up l)) := Lib.hid (by rw [hW0]; exact h.keep (by repeat (first | exact Below.refl _ _ | assumption | refine Below.setCell ?_ (by first | omega | (simp; done) | (simp; omega)) _ | refine Below.alloc ?_ (by first | omega | (simp; done) | (simp; omega)) _ | apply Below.drew)))
  have HB : Hid (Below w.heap.size w W0) := Lib.hid (by rw [hW0]; exact (by repeat (first | exact Below.refl _ _ | assumption | refine Below.setCell ?_ (by first | omega | (simp; done) | (simp; omega)) _ | refine Below.alloc ?_ (by first | omega | (simp; done) | (simp; omega)) _ | apply Below.drew)))
  have HW0 := Lib.hid hW0
  have HF := Lib.hid hf
  clear h hW0 hf
  go_enter Tryz.func143, Tryz.ntmps143
  go_wp2_with fail
  rw [← HW0.out]
  refine (sMissing_yes m a n c l W0 Hx.out hC.one hC.six hC.anti hC.lt64).mono ?_
  rintro e w1 ⟨aM, nM, cM, rfl, own, hb⟩
  have HB1 := Lib.hid (HB.out.trans (hb.mono HB.out.size))
  have HI := Lib.hid own.reads
  obtain ⟨L, hL⟩ : ∃ L, L = minL (missB l (2 ^ m)) := ⟨_, rfl⟩
  rw [← hL] at HI HF
  have hll : L.length = nM := by have := HI.out.len; rwa [up_len] at this
  have hl64 : L.length ≤ 64 := by rw [hL]; exact ord_len _
  have H64 : Hid (∀ s ∈ L, s < 64) := Lib.hid fun s hs => by rw [hL] at hs; unfold minL at hs; exact ord_lt s hs
  clear own hb hL
  by_cases h0 : nM = 0
  · subst h0
    go_wp2_with fail
    go_ret
    exact ⟨_, rfl, by omega, HB1.out⟩
  · have h0b : ((nM : Int) == 0) = false := by simp; omega
    obtain ⟨k, hk⟩ : ∃ k, nM = k + 1 := ⟨nM - 1, by omega⟩
    subst hk
    obtain ⟨b, o, rfl, hc⟩ := HI.out.cells (by omega)
    have hck := hc k (by omega)
    rw [nth_up] at hck
    have hm := nthN_mem (xs := L) (k := k) (by omega)
    obtain ⟨s, hs⟩ : ∃ s, s = nthN L k := ⟨_, rfl⟩
    rw [← hs] at hck hm
    have hs64 := H64.out s hm
    have hs2 := HF.out s hm
    have hk1 : ((k + 1 : Nat) : Int) - 1 = k := by omega
    have hk2 : (k : Int) + 1 - 1 = k := by omega
    have hk0 : (0 : Int) ≤ k := by omega
    have hkn : (k : Int) < (k : Int) + 1 := by omega
    have hkn2 : (k : Int) < ((k + 1 : Nat) : Int) := by omega
    clear hc hs
    go_wp2_with fail
    refine (l2Size_any s _ hs64).mono ?_
    rintro e w2 ⟨rfl, rfl⟩
    go_wp2_with fail
    go_ret
    exact ⟨_, rfl, by omega, HB1.out⟩
theorem sIsFlag_yes (m : Nat) (a : Option Addr) (n c : Nat) (l : List Nat) (w : World) (h : IntsAt w a n (up l)) (hC : Cpx m l) (hf : ∀ s ∈ minL (missB l (2 ^ m)), sz s ≤ 2) :
    Calls Tryz.prog 64 #[.agg #[.int .i64 m, .slice a n c]] w fun e w' => e = .returned (.bool true) ∧ Below w.heap.size w w' := by
  obtain ⟨W0, hW0⟩ : ∃ W0, W0 = (w.alloc (.cells #[.int .i64 m, .slice a n c] 32)) := ⟨_, rfl⟩
  have Hx : Hid (IntsAt W0 a n (up l)) := Lib.hid (by rw [hW0]; exact h.keep (by repeat (first | exact Below.refl _ _ | assumption | refine Below.setCell ?_ (by first | omega | (simp; done) | (simp; omega)) _ | refine Below.alloc ?_ (by first | omega | (simp; done) | (simp; omega)) _ | apply Below.drew)))
  have HB : Hid (Below w.heap.size w W0) := Lib.hid (by rw [hW0]; exact (by repeat (first | exact Below.refl _ _ | assumption | refine Below.setCell ?_ (by first | omega | (simp; done) | (simp; omega)) _ | refine Below.alloc ?_ (by first | omega | (simp; done) | (simp; omega)) _ | apply Below.drew)))
  have XB : Hid (BoxF W0 w.heap.size (.int .i64 m) (.slice a n c)) := Lib.hid (by rw [hW0]; exact BoxF.new _ _ _ _)
  have HW0 := Lib.hid hW0
  have HF := Lib.hid hf
  have hlt : w.heap.size < W0.heap.size := by rw [hW0]; simp
  clear h hW0 hf
  go_enter Tryz.func64, Tryz.ntmps64
  go_wp2_with fail
  rw [← HW0.out]
  refine (sIsComplex_any m a n c (up l) W0 Hx.out true (by simp [hC.anti])).mono ?_
  rintro e w1 ⟨rfl, hb⟩
  have HB1 := Lib.hid (HB.out.trans (hb.mono HB.out.size))
  have Hx1 := Lib.hid (Hx.out.keep hb)
  obtain ⟨b0, b1, _, _, _⟩ := XB.out.keep hb hlt
  clear hb
  go_wp2_with fail
  refine (sGreat_two m a n c l w1 Hx1.out hC HF.out).mono ?_
  rintro e w2 ⟨k, rfl, hk, hb⟩
  have HB2 := Lib.hid (HB1.out.trans (hb.mono HB1.out.size))
  clear hb
  go_wp2_with fail
  go_ret
  exact ⟨rfl, HB2.out⟩
end Go.Proofs.YtihfhfihladlcaaGreatDoor

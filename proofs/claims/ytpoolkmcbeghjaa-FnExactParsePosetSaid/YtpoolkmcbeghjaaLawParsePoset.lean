/- The law FnExactParsePoset: for all arguments the program's ParsePoset returns what the reference's returns. No condition. -/
import Derived.Test.YtpoolkmcbeghjaaStr7
import Derived.Test.YtpoolkmcbeghjaaHelpS
import Derived.Test.YtpoolkmcbeghjaaFrame
import Derived.ChangeMaps5
namespace Go.Proofs.Ytpoolkmcbeghjaa.lawParsePoset
set_option maxRecDepth 20000
open Go.ChangeShapes Go.WideShapes Go.ChangeAt Go.RowKit
set_option linter.unusedVariables false
set_option linter.unusedSimpArgs false

theorem digit_bytes {m : Nat} (h1 : 1 ≤ m) (h6 : m ≤ 6) : UInt8.ofNat (48 + m) ≠ 58 := by
  match m, h1, h6 with
  | 1, _, _ | 2, _, _ | 3, _, _ | 4, _, _ | 5, _, _ | 6, _, _ => decide
theorem spl_head {m : Nat} (h1 : 1 ≤ m) (h6 : m ≤ 6) (r : List UInt8) : spl 58 [] (UInt8.ofNat (48 + m) :: 58 :: r) = [UInt8.ofNat (48 + m)] :: spl 58 [] r := by
  have h : spl 58 [] (UInt8.ofNat (48 + m) :: 58 :: r) = if UInt8.ofNat (48 + m) = 58 then [] :: spl 58 [] (58 :: r) else spl 58 ([] ++ [UInt8.ofNat (48 + m)]) (58 :: r) := by rw [spl]
  rw [h, if_neg (digit_bytes h1 h6)]
  have h2 : spl 58 ([] ++ [UInt8.ofNat (48 + m)]) (58 :: r) = if (58 : UInt8) = 58 then ([] ++ [UInt8.ofNat (48 + m)]) :: spl 58 [] r else spl 58 (([] ++ [UInt8.ofNat (48 + m)]) ++ [58]) r := by rw [spl]
  rw [h2, if_pos rfl]; rfl

theorem same (t : ByteArray) (ht : t.size ≤ 1048576) : ∃ (p : Int) (ys : List Int) (b : Bool),
    (∀ W, Calls Try.prog 6 #[.string t] W (RetBox2 W p ys b)) ∧
    (∀ W, Calls Try.prog 7 #[.string t] W (RetBox2 W p ys b)) ∧ ys.length ≤ 1048576 := by
  by_cases hh : ∃ m r, HeadP (byt t) m r
  · obtain ⟨m, r, h⟩ := hh
    obtain ⟨h1, h6, hl⟩ := id h
    obtain ⟨V, hV⟩ : ∃ V, V = allP (spl 44 [] r) := ⟨_, rfl⟩
    have hb : ∃ b : Bool, b = true ↔ True ∧ ∃ L, V = some L ∧ PosetP m (up L) := by
      by_cases hp : True ∧ ∃ L, V = some L ∧ PosetP m (up L)
      · exact ⟨true, by simp only [true_iff]; exact hp⟩
      · exact ⟨false, by simp only [Bool.false_eq_true, false_iff]; exact hp⟩
    obtain ⟨b, hb⟩ := hb
    have hi := fun W => iPP_head t m r V b W ht h hV hb
    refine ⟨_, _, b, fun W => ?_, hi, ?_⟩
    · by_cases h58 : (58 : UInt8) ∈ r
      · have hVn : V = none := by
          cases hc : V with
          | none => rfl
          | some l => exact absurd h58 (allP_bytes (by rw [← hV]; exact hc))
        have hbf : b = false := poset_none hb hVn
        subst hbf
        refine sPP_parts t W ht ?_
        rw [hl, spl_head h1 h6, List.length_cons]
        have := spl_more r [] h58
        omega
      · refine sPP_two t [UInt8.ofNat (48 + m)] r V b _ _ (fun n ok => n = m ∧ ok = true) W ht ?_ hV ?_ ?_ ?_ ?_ ?_
        · rw [hl, spl_head h1 h6, spl_none r [] h58]; rfl
        · intro a W ha
          refine (sPint_digit a m W h1 (by omega) ha).mono ?_
          rintro e w' ⟨rfl, hb'⟩
          exact ⟨m, true, rfl, ⟨rfl, rfl⟩, hb'⟩
        · rintro n ok ⟨rfl, rfl⟩
          rw [hb]; simp
        · rintro n ok ⟨rfl, rfl⟩ hbt
          rw [hbt]; rfl
        · intro hbf
          rw [hbf]; exact ⟨rfl, rfl⟩
        · intro hbt l hl'
          rw [hbt, hl']; rfl
    · cases hbb : b
      · simp
      · obtain ⟨_, L, hL, hP⟩ := hb.1 hbb
        rw [hL]
        simp only [if_true, Option.getD_some]
        have := hP.2.2.1
        have h2 := hP.2.1
        omega
  · have hn : ∀ m r, ¬ HeadP (byt t) m r := fun m r h => hh ⟨m, r, h⟩
    refine ⟨0, [], false, fun W => ?_, fun W => iPP_no t W ht hn, by simp⟩
    by_cases h2 : (spl 58 [] (byt t)).length = 2
    · obtain ⟨A, C, hAC⟩ : ∃ A C, spl 58 [] (byt t) = [A, C] := by
        match spl 58 [] (byt t), h2 with
        | [a, b], _ => exact ⟨a, b, rfl⟩
      obtain ⟨A', hA', hAC'⟩ := spl_two (byt t) [] hAC
      simp only [List.nil_append] at hA'
      subst hA'
      have hAs : A.length ≤ 1048576 := by
        have := congrArg List.length hAC'
        rw [byt_len] at this; simp at this; omega
      refine sPP_two t A C _ false 0 [] (fun n ok => ok = true → 1 ≤ n → n ≤ 9 → A = [UInt8.ofNat (48 + n.toNat)]) W ht hAC rfl ?_ ?_ (fun _ _ _ h => by cases h) (fun _ => ⟨rfl, rfl⟩) (fun h => by cases h)
      · intro a W ha
        refine (sPint_any a W (by rw [← byt_len, ha]; exact hAs)).mono ?_
        rintro e w' ⟨n, ok, rfl, hq, hb'⟩
        exact ⟨n, ok, rfl, fun h1 h2 h3 => by rw [← ha]; exact hq h1 h2 h3, hb'⟩
      · intro n ok hq
        constructor
        · intro h; cases h
        · rintro ⟨hok, L, _, hP⟩
          exfalso
          have h1 := hP.1
          have h6 := hP.2.1
          have hA := hq hok h1 (by omega)
          exact hn n.toNat C ⟨by omega, by omega, by rw [hAC', hA]; rfl⟩
    · exact sPP_parts t W ht h2

set_option maxRecDepth 100000 in
set_option maxHeartbeats 4000000 in
theorem walk (w : World) (s0 : ByteArray) (hs0 : s0.size ≤ maxLen) :
    Calls Try.prog 3 #[.string s0] w fun e w' => e = .returned (.bool true) ∧ Below w.heap.size w w' := by
  have Hs0 := Lib.hid hs0; clear hs0
  by_cases hn0 : s0.size ≤ 1048576
  · have hl0 : s0.size ≤ 1048576 := by omega
    obtain ⟨p, ys, b, hS, hI, hbd⟩ := same s0 hl0
    have HS := Lib.hid hS; have HI := Lib.hid hI
    clear hS hI
    have hbb : (b != b) = false := by simp
    have Hbd := Lib.hid hbd; clear hbd
    go_enter Try.func3, Try.ntmps3
    go_wp2_with fail
    refine (HS.out _ ).mono ?_
    rintro e w1 ⟨adW, nW, cW, rfl, ownW, hb⟩
    have ST1 : Hid (Below w.heap.size w w1) := Lib.hid (Below.trans (Below.refl _ _) (hb.mono (by first | exact Nat.le_refl _ | (simp; done) | (simp; omega))))
    have SZ1 : Hid (w.heap.size + 0 ≤ w1.heap.size) := Lib.hid (Nat.le_trans (by simp) hb.size)
    have HB1 : Hid (Below w.heap.size w w1) := ST1
    have BX1 := Lib.hid ((Boxes.nil w).keep hb)
    have bx1 := BX1.out
    simp only [Boxes, and_true, World.size_alloc] at bx1
    have LTW : Hid (∀ k, (Value.slice adW nW cW).ownBlock = some k → w.heap.size + 0 ≤ k ∧ k < w1.heap.size) := Lib.hid (fun k hk => ⟨Nat.le_trans (by simp) (ownW.lt k hk).1, (ownW.lt k hk).2⟩)
    have OWW_1 := Lib.hid ownW
    clear ownW
    clear hb
    go_wp2_with fail
    refine (HI.out _ ).mono ?_
    rintro e w2 ⟨adG, nG, cG, rfl, ownG, hb⟩
    have ST2 : Hid (Below w1.heap.size w1 w2) := Lib.hid (Below.trans (Below.alloc (Below.refl _ _) (by first | exact Nat.le_refl _ | (simp; done) | (simp; omega)) _) (hb.mono (by first | exact Nat.le_refl _ | (simp; done) | (simp; omega))))
    have SZ2 : Hid (w1.heap.size + 1 ≤ w2.heap.size) := Lib.hid (Nat.le_trans (by simp) hb.size)
    have HB2 : Hid (Below w.heap.size w w2) := Lib.hid (HB1.out.trans (ST2.out.mono HB1.out.size))
    have BX2 := Lib.hid ((BX1.out.alloc _ _ _).keep hb)
    have bx2 := BX2.out
    simp only [Boxes, and_true, World.size_alloc] at bx2
    have OWW_2 := Lib.hid (OWW_1.out.keep ST2.out)
    have LTG : Hid (∀ k, (Value.slice adG nG cG).ownBlock = some k → w1.heap.size + 1 ≤ k ∧ k < w2.heap.size) := Lib.hid (fun k hk => ⟨Nat.le_trans (by simp) (ownG.lt k hk).1, (ownG.lt k hk).2⟩)
    have OWG_2 := Lib.hid ownG
    clear ownG
    clear hb bx1
    go_wp2_with fail
    refine (eqPoset_yes p p adG adW nG nW cG cW ys ys _ (OWG_2.out.reads.keep (Below.alloc (Below.refl _ _) (by first | exact Nat.le_refl _ | (simp; done) | (simp; omega)) _)) (OWW_2.out.reads.keep (Below.alloc (Below.refl _ _) (by first | exact Nat.le_refl _ | (simp; done) | (simp; omega)) _)) rfl rfl).mono ?_
    rintro e w3 ⟨rfl, hb⟩
    have ST3 : Hid (Below w2.heap.size w2 w3) := Lib.hid (Below.trans (Below.alloc (Below.refl _ _) (by first | exact Nat.le_refl _ | (simp; done) | (simp; omega)) _) (hb.mono (by first | exact Nat.le_refl _ | (simp; done) | (simp; omega))))
    have SZ3 : Hid (w2.heap.size + 1 ≤ w3.heap.size) := Lib.hid (Nat.le_trans (by simp) hb.size)
    have HB3 : Hid (Below w.heap.size w w3) := Lib.hid (HB2.out.trans (ST3.out.mono HB2.out.size))
    have BX3 := Lib.hid ((BX2.out.alloc _ _ _).keep hb)
    have bx3 := BX3.out
    simp only [Boxes, and_true, World.size_alloc] at bx3
    have OWW_3 := Lib.hid (OWW_2.out.keep ST3.out)
    have OWG_3 := Lib.hid (OWG_2.out.keep ST3.out)
    clear hb bx2
    have Hng := Lib.hid (show nG ≤ 1099511627776 by have h1 := OWG_3.out.len; have h2 := Hbd.out; omega)
    go_wp2_with fail
    refine (markPoset_any _ p adG nG cG 1 ys _ OWG_3.out (by omega) Hng.out).mono ?_
    rintro e w4 ⟨rfl, ownG, hg⟩
    have HB4 : Hid (Below w.heap.size w w4) := Lib.hid (HB3.out.grown hg HB3.out.size (fun k hk => by have h1 := LTG.out k hk; have z1 := SZ1.out; have z2 := SZ2.out; have z3 := SZ3.out; omega))
    have BX4 := Lib.hid (BX3.out.grown hg (fun k hk b hb => by have h1 := LTG.out k hk; have z1 := SZ1.out; have z2 := SZ2.out; have z3 := SZ3.out;  simp only [List.mem_cons, List.not_mem_nil, or_false] at hb; rcases hb with rfl | rfl <;> simp only [World.size_alloc] <;> omega))
    have bx4 := BX4.out
    simp only [Boxes, and_true, World.size_alloc] at bx4
    have OWW_4 := Lib.hid (OWW_3.out.grownNe hg (fun k hk k2 hk2 => by have h1 := LTG.out k hk; have h2 := LTW.out k2 hk2; have z1 := SZ1.out; have z2 := SZ2.out; have z3 := SZ3.out;  omega))
    have OWG_4 := Lib.hid ownG
    have SZ4 : Hid (w3.heap.size ≤ w4.heap.size) := Lib.hid hg.size
    clear hg ownG bx3
    go_wp2_with fail
    refine (heldPoset_yes p adG nG cG 1 _ _ (OWG_4.out.reads.keep (Below.refl _ _)) rfl (by omega) Hng.out).mono ?_
    rintro e w5 ⟨rfl, hb⟩
    have ST5 : Hid (Below w4.heap.size w4 w5) := Lib.hid (Below.trans (Below.refl _ _) (hb.mono (by first | exact Nat.le_refl _ | (simp; done) | (simp; omega))))
    have SZ5 : Hid (w4.heap.size + 0 ≤ w5.heap.size) := Lib.hid (Nat.le_trans (by simp) hb.size)
    have HB5 : Hid (Below w.heap.size w w5) := Lib.hid (HB4.out.trans (ST5.out.mono HB4.out.size))
    have BX5 := Lib.hid (BX4.out.keep hb)
    have bx5 := BX5.out
    simp only [Boxes, and_true, World.size_alloc] at bx5
    have OWW_5 := Lib.hid (OWW_4.out.keep ST5.out)
    have OWG_5 := Lib.hid (OWG_4.out.keep ST5.out)
    clear hb bx4
    go_wp2_with fail
    refine (HI.out _ ).mono ?_
    rintro e w6 ⟨adH, nH, cH, rfl, ownH, hb⟩
    have ST6 : Hid (Below w5.heap.size w5 w6) := Lib.hid (Below.trans (Below.refl _ _) (hb.mono (by first | exact Nat.le_refl _ | (simp; done) | (simp; omega))))
    have SZ6 : Hid (w5.heap.size + 0 ≤ w6.heap.size) := Lib.hid (Nat.le_trans (by simp) hb.size)
    have HB6 : Hid (Below w.heap.size w w6) := Lib.hid (HB5.out.trans (ST6.out.mono HB5.out.size))
    have BX6 := Lib.hid (BX5.out.keep hb)
    have bx6 := BX6.out
    simp only [Boxes, and_true, World.size_alloc] at bx6
    have OWW_6 := Lib.hid (OWW_5.out.keep ST6.out)
    have OWG_6 := Lib.hid (OWG_5.out.keep ST6.out)
    have LTH : Hid (∀ k, (Value.slice adH nH cH).ownBlock = some k → w5.heap.size + 0 ≤ k ∧ k < w6.heap.size) := Lib.hid (fun k hk => ⟨Nat.le_trans (by simp) (ownH.lt k hk).1, (ownH.lt k hk).2⟩)
    have OWH_6 := Lib.hid ownH
    clear ownH
    clear hb bx5
    go_wp2_with fail
    refine (eqPoset_yes p p adH adW nH nW cH cW ys ys _ (OWH_6.out.reads.keep (Below.alloc (Below.refl _ _) (by first | exact Nat.le_refl _ | (simp; done) | (simp; omega)) _)) (OWW_6.out.reads.keep (Below.alloc (Below.refl _ _) (by first | exact Nat.le_refl _ | (simp; done) | (simp; omega)) _)) rfl rfl).mono ?_
    rintro e w7 ⟨rfl, hb⟩
    have ST7 : Hid (Below w6.heap.size w6 w7) := Lib.hid (Below.trans (Below.alloc (Below.refl _ _) (by first | exact Nat.le_refl _ | (simp; done) | (simp; omega)) _) (hb.mono (by first | exact Nat.le_refl _ | (simp; done) | (simp; omega))))
    have SZ7 : Hid (w6.heap.size + 1 ≤ w7.heap.size) := Lib.hid (Nat.le_trans (by simp) hb.size)
    have HB7 : Hid (Below w.heap.size w w7) := Lib.hid (HB6.out.trans (ST7.out.mono HB6.out.size))
    have BX7 := Lib.hid ((BX6.out.alloc _ _ _).keep hb)
    have bx7 := BX7.out
    simp only [Boxes, and_true, World.size_alloc] at bx7
    have OWW_7 := Lib.hid (OWW_6.out.keep ST7.out)
    have OWG_7 := Lib.hid (OWG_6.out.keep ST7.out)
    have OWH_7 := Lib.hid (OWH_6.out.keep ST7.out)
    clear hb bx6
    go_wp2_with fail
    refine (heldPoset_yes p adG nG cG 1 _ _ (OWG_7.out.reads.keep (Below.refl _ _)) rfl (by omega) Hng.out).mono ?_
    rintro e w8 ⟨rfl, hb⟩
    have ST8 : Hid (Below w7.heap.size w7 w8) := Lib.hid (Below.trans (Below.refl _ _) (hb.mono (by first | exact Nat.le_refl _ | (simp; done) | (simp; omega))))
    have SZ8 : Hid (w7.heap.size + 0 ≤ w8.heap.size) := Lib.hid (Nat.le_trans (by simp) hb.size)
    have HB8 : Hid (Below w.heap.size w w8) := Lib.hid (HB7.out.trans (ST8.out.mono HB7.out.size))
    have BX8 := Lib.hid (BX7.out.keep hb)
    have bx8 := BX8.out
    simp only [Boxes, and_true, World.size_alloc] at bx8
    have OWW_8 := Lib.hid (OWW_7.out.keep ST8.out)
    have OWG_8 := Lib.hid (OWG_7.out.keep ST8.out)
    have OWH_8 := Lib.hid (OWH_7.out.keep ST8.out)
    clear hb bx7
    go_wp2_with fail
    go_ret
    exact ⟨rfl, HB8.out⟩
  · have hbig0 : 1048576 < s0.size := by omega
    clear hn0
    have hsm0 := Hs0.out; unfold maxLen at hsm0
    go_enter Try.func3, Try.ntmps3
    go_wp2_with fail
    go_ret
    exact ⟨rfl, (by repeat (first | exact Below.refl _ _ | assumption | refine Below.setCell ?_ (by first | omega | (simp; done) | (simp; omega)) _ | refine Below.alloc ?_ (by first | omega | (simp; done) | (simp; omega)) _ | apply Below.drew))⟩

set_option maxRecDepth 100000 in
theorem lifted (os : Os) (started : os.Started) (H : Type) (enc : TypeId × Value → H) :
    ReturnsInHanded {} Try.checked os 3 .any (Rows.fnExactParsePosetSpec.pre6 enc Try.prog Try.f3 Rows.fnExactParsePosetRow.domain false) (Rows.fnExactParsePosetSpec.post enc Try.prog Try.f3 false true false false) := by
  refine returnsInHanded_of_change (C := Try.checked) own started (by kernel_rfl) Try.func3
    (ChangeSpec.witness6 (enc := enc) (C := Try.checked) false ⟨#[], #[.string ⟨#[]⟩], []⟩ 8 (by kernel_rfl) (by kernel_rfl) (by kernel_rfl) (by kernel_rfl)) ?_
  intro W base args ds gs before hval0 hW hcnd _
  have hval : ∀ (j : Nat) t v, Try.f3.params[j]? = some t → args[j]? = some v → Value.okWide Try.prog W .any base t v := hval0
  have hW2 := hW
  obtain ⟨p, q, hA0, hV, hpq, hfz, hnd⟩ := hW
  have hA : DataW.TrodAll enc Try.prog W 0 (fun _ => true) true Try.f3.params.toList args.toList ds p := hA0
  rw [Try.params3] at hA hval
  obtain ⟨v0, vs0, d0, ds0, p0, q0, hargs, rfl, hp0, h0, r0⟩ := trodAll_cons hA
  obtain ⟨rfl, rfl, _⟩ := trodAll_nil r0
  obtain rfl : args = #[v0] := by cases args; simp_all
  have hgs : gs = [] := (trodVars_none hV).1
  subst hgs
  obtain ⟨s0, rfl, rfl, _, hs0⟩ := Go.ChangeMaps.open_string Try.underlying9 (hval 0 9 v0 rfl rfl) h0
  refine (walk W s0 hs0).mono fun e W2 ⟨he, hb⟩ => ?_
  subst he
  exact ⟨_, rfl, law_post rfl hW2 (by kernel_rfl) rfl rfl rfl rfl hb⟩

theorem over : Rows.fnExactParsePosetRow.holds Try.pinned (OpenSpec.ofChange Rows.fnExactParsePosetSpec) :=
  OpenClaim.holds_of_wide 3 Try.f3 rfl rfl rfl rfl rfl rfl rfl ⟨rfl, rfl, rfl, rfl, rfl⟩ rfl rfl rfl rfl rfl (by kernel_rfl) Try.func3 (by kernel_rfl)
    (of_decide_eq_true (by kernel_rfl)) (by unfold Func.isWrapper; first | (rw [if_pos (by decide +kernel)]; kernel_rfl) | (rw [if_neg (by decide +kernel)]; exact ⟨rfl, rfl⟩))
    (fun os started H enc _ => lifted os started H enc)

/-- THE STATEMENT -/
theorem proved : Rows.FnExactParsePosetSaid := over
end Go.Proofs.Ytpoolkmcbeghjaa.lawParsePoset

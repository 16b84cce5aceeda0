/- What the law of orders asks, for any drawn order, text and complex: the contracts of both sides joined with the plain facts. -/
import Derived.Test.YtihfhfihladlcaaGreatDoorCore
import Derived.Test.YtihfhfihladlcaaGreatDoorCounts2
import Derived.Test.YtihfhfihladlcaaGreatDoorEuler
import Derived.Test.YtihfhfihladlcaaGreatDoorHoles
import Derived.Test.YtihfhfihladlcaaGreatDoorPosH
import Derived.Test.YtihfhfihladlcaaGreatDoorPosText
import Derived.Test.YtihfhfihladlcaaGreatDoorPosW
import Derived.Test.YtihfhfihladlcaaGreatDoorStr6
namespace Go.Proofs.YtihfhfihladlcaaGreatDoor
set_option maxRecDepth 20000
open Go.RowKit
set_option linter.unusedSimpArgs false
set_option linter.unusedVariables false

theorem digit_bytes {m : Nat} (h1 : 1 ≤ m) (h6 : m ≤ 6) : UInt8.ofNat (48 + m) ≠ 58 := by
  match m, h1, h6 with
  | 1, _, _ | 2, _, _ | 3, _, _ | 4, _, _ | 5, _, _ | 6, _, _ => decide
theorem spl_head {m : Nat} (h1 : 1 ≤ m) (h6 : m ≤ 6) (r : List UInt8) : spl 58 [] (UInt8.ofNat (48 + m) :: 58 :: r) = [UInt8.ofNat (48 + m)] :: spl 58 [] r := by
  have h : spl 58 [] (UInt8.ofNat (48 + m) :: 58 :: r) = if UInt8.ofNat (48 + m) = 58 then [] :: spl 58 [] (58 :: r) else spl 58 ([] ++ [UInt8.ofNat (48 + m)]) (58 :: r) := by rw [spl]
  rw [h, if_neg (digit_bytes h1 h6)]
  have h2 : spl 58 ([] ++ [UInt8.ofNat (48 + m)]) (58 :: r) = if (58 : UInt8) = 58 then ([] ++ [UInt8.ofNat (48 + m)]) :: spl 58 [] r else spl 58 (([] ++ [UInt8.ofNat (48 + m)]) ++ [58]) r := by rw [spl]
  rw [h2, if_pos rfl]; rfl

theorem parse_same (t : ByteArray) (ht : t.size ≤ 1048576) : ∃ (p : Int) (ys : List Int) (b : Bool),
    (∀ W, Calls Tryz.prog 49 #[.string t] W (RetBox2 W p ys b)) ∧
    (∀ W, Calls Tryz.prog 48 #[.string t] W (RetBox2 W p ys b)) ∧ ys.length ≤ 1048576 := by
  by_cases hh : ∃ m r, HeadP (byt t) m r
  · obtain ⟨m, r, h⟩ := hh
    obtain ⟨h1, h6, hl⟩ := id h
    obtain ⟨V, hV⟩ : ∃ V, V = allP (spl 44 [] r) := ⟨_, rfl⟩
    have hb : ∃ b : Bool, b = true ↔ True ∧ ∃ L, V = some L ∧ PosetP m (up L) := by
      by_cases hp : True ∧ ∃ L, V = some L ∧ PosetP m (up L)
      · exact ⟨true, by simp only [true_iff]; exact hp⟩
      · exact ⟨false, by simp only [Bool.false_eq_true, false_iff]; exact hp⟩
    obtain ⟨b, hb⟩ := hb
    have hi := fun W => iPP_head t m r V b W ht h hV hb
    refine ⟨_, _, b, fun W => ?_, hi, ?_⟩
    · by_cases h58 : (58 : UInt8) ∈ r
      · have hVn : V = none := by
          cases hc : V with
          | none => rfl
          | some l => exact absurd h58 (allP_bytes (by rw [← hV]; exact hc))
        have hbf : b = false := poset_none hb hVn
        subst hbf
        refine sPP_parts t W ht ?_
        rw [hl, spl_head h1 h6, List.length_cons]
        have := spl_more r [] h58
        omega
      · refine sPP_two t [UInt8.ofNat (48 + m)] r V b _ _ (fun n ok => n = m ∧ ok = true) W ht ?_ hV ?_ ?_ ?_ ?_ ?_
        · rw [hl, spl_head h1 h6, spl_none r [] h58]; rfl
        · intro a W ha
          refine (sPint_digit a m W h1 (by omega) ha).mono ?_
          rintro e w' ⟨rfl, hb'⟩
          exact ⟨m, true, rfl, ⟨rfl, rfl⟩, hb'⟩
        · rintro n ok ⟨rfl, rfl⟩
          rw [hb]; simp
        · rintro n ok ⟨rfl, rfl⟩ hbt
          rw [hbt]; rfl
        · intro hbf
          rw [hbf]; exact ⟨rfl, rfl⟩
        · intro hbt l hl'
          rw [hbt, hl']; rfl
    · cases hbb : b
      · simp
      · obtain ⟨_, L, hL, hP⟩ := hb.1 hbb
        rw [hL]
        simp only [if_true, Option.getD_some]
        have := hP.2.2.1
        have h2 := hP.2.1
        omega
  · have hn : ∀ m r, ¬ HeadP (byt t) m r := fun m r h => hh ⟨m, r, h⟩
    refine ⟨0, [], false, fun W => ?_, fun W => iPP_no t W ht hn, by simp⟩
    by_cases h2 : (spl 58 [] (byt t)).length = 2
    · obtain ⟨A, C, hAC⟩ : ∃ A C, spl 58 [] (byt t) = [A, C] := by
        match spl 58 [] (byt t), h2 with
        | [a, b], _ => exact ⟨a, b, rfl⟩
      obtain ⟨A', hA', hAC'⟩ := spl_two (byt t) [] hAC
      simp only [List.nil_append] at hA'
      subst hA'
      have hAs : A.length ≤ 1048576 := by
        have := congrArg List.length hAC'
        rw [byt_len] at this; simp at this; omega
      refine sPP_two t A C _ false 0 [] (fun n ok => ok = true → 1 ≤ n → n ≤ 9 → A = [UInt8.ofNat (48 + n.toNat)]) W ht hAC rfl ?_ ?_ (fun _ _ _ h => by cases h) (fun _ => ⟨rfl, rfl⟩) (fun h => by cases h)
      · intro a W ha
        refine (sPint_any a W (by rw [← byt_len, ha]; exact hAs)).mono ?_
        rintro e w' ⟨n, ok, rfl, hq, hb'⟩
        exact ⟨n, ok, rfl, fun h1 h2 h3 => by rw [← ha]; exact hq h1 h2 h3, hb'⟩
      · intro n ok hq
        constructor
        · intro h; cases h
        · rintro ⟨hok, L, _, hP⟩
          exfalso
          have h1 := hP.1
          have h6 := hP.2.1
          have hA := hq hok h1 (by omega)
          exact hn n.toNat C ⟨by omega, by omega, by rw [hAC', hA]; rfl⟩
    · exact sPP_parts t W ht h2


/-- what holds of a drawn order -/
structure PJ (p : Int) (xs : List Int) (P : Int) (fs : List Int) (b : Bool) (Q : Int) (ds : List Int) (M : Int) (T : ByteArray) : Prop where
  oi : ∀ W ad n c, IntsAt W ad n xs → Fit ad n c → Calls Tryz.prog 43 #[.agg #[.int .i64 p, .slice ad n c]] W (RetBox2 W P fs b)
  os : ∀ W ad n c, IntsAt W ad n xs → Calls Tryz.prog 44 #[.agg #[.int .i64 p, .slice ad n c]] W (RetBox2 W P fs b)
  di : ∀ W ad n c, IntsAt W ad n xs → Calls Tryz.prog 45 #[.agg #[.int .i64 p, .slice ad n c]] W (RetBox2 W Q ds b)
  dx : ∀ W ad n c, IntsAt W ad n xs → Calls Tryz.prog 46 #[.agg #[.int .i64 p, .slice ad n c]] W (RetBox2 W Q ds b)
  mi : ∀ W ad n c, IntsAt W ad n xs → Calls Tryz.prog 54 #[.agg #[.int .i64 p, .slice ad n c]] W fun e w' => e = .returned (.int .i64 M) ∧ Below W.heap.size W w'
  ms : ∀ W ad n c, IntsAt W ad n xs → Calls Tryz.prog 55 #[.agg #[.int .i64 p, .slice ad n c]] W fun e w' => e = .returned (.int .i64 M) ∧ Below W.heap.size W w'
  pi : ∀ W ad n c, IntsAt W ad n xs → Calls Tryz.prog 56 #[.agg #[.int .i64 p, .slice ad n c]] W fun e w' => e = .returned (.bool b) ∧ Below W.heap.size W w'
  ps : ∀ W ad n c, IntsAt W ad n xs → Calls Tryz.prog 57 #[.agg #[.int .i64 p, .slice ad n c]] W fun e w' => e = .returned (.bool b) ∧ Below W.heap.size W w'
  ti : ∀ W ad n c, IntsAt W ad n xs → Calls Tryz.prog 58 #[.agg #[.int .i64 p, .slice ad n c]] W fun e w' => e = .returned (.string T) ∧ Below W.heap.size W w'
  ts : ∀ W ad n c, IntsAt W ad n xs → Calls Tryz.prog 59 #[.agg #[.int .i64 p, .slice ad n c]] W fun e w' => e = .returned (.string T) ∧ Below W.heap.size W w'
  rd : ∀ W, Calls Tryz.prog 48 #[.string T] W (RetBox2 W (if b then p else 0) (if b then xs else []) b)
  no : b = false → M = 0
  o2 : b = true → ∀ W ad n c, IntsAt W ad n ds → Fit ad n c → Calls Tryz.prog 43 #[.agg #[.int .i64 Q, .slice ad n c]] W (RetBox2 W P fs true)
  d2 : b = true → ∀ W ad n c, IntsAt W ad n ds → Calls Tryz.prog 45 #[.agg #[.int .i64 Q, .slice ad n c]] W (RetBox2 W p xs true)
  eu : b = true → ∀ W ad n c, IntsAt W ad n fs → Calls Tryz.prog 63 #[.agg #[.int .i64 P, .slice ad n c]] W fun e w' => e = .returned (.int .i64 M) ∧ Below W.heap.size W w'
  fl : b = true → ∀ W ad n c, IntsAt W ad n fs → Calls Tryz.prog 64 #[.agg #[.int .i64 P, .slice ad n c]] W fun e w' => e = .returned (.bool true) ∧ Below W.heap.size W w'
theorem ch_list {l : List Nat} {m : Nat} (h : l.length = m) : (fun s => decide (s < 2 ^ m) && ordQ l m s) = chF l := by
  subst h; rfl
theorem posL_lt {l : List Nat} (h : PosL l) : (∀ t ∈ l, t < 64) ∧ ∀ t ∈ l, t < 2 ^ l.length := by
  refine ⟨fun t ht => ?_, fun t ht => ?_⟩ <;>
  · obtain ⟨j, hj, rfl⟩ := List.mem_iff_getElem.1 ht
    have := h.2.1 j hj
    rw [nthN_eq hj] at this
    first | exact this.2.1 | exact this.1
theorem sOrderL {l : List Nat} (h : PosL l) (h1 : 1 ≤ l.length) (W : World) (ad : Option Addr) (n c : Nat) (hx : IntsAt W ad n (up l)) : Calls Tryz.prog 44 #[.agg #[.int .i64 (l.length : Nat), .slice ad n c]] W (RetBox2 W (l.length : Nat) (up (maxL (chF l))) true) := by
  rw [← ch_list (l := l) rfl]
  exact sOrder_yes l.length ad n c l W hx (h.back h1) h.1 (by have := hx.len; rw [up_len] at this; exact this.symm) (posL_lt h).1
theorem iOrderL {l : List Nat} (h : PosL l) (h1 : 1 ≤ l.length) (W : World) (ad : Option Addr) (n c : Nat) (hx : IntsAt W ad n (up l)) (hf : Fit ad n c) : Calls Tryz.prog 43 #[.agg #[.int .i64 (l.length : Nat), .slice ad n c]] W (RetBox2 W (l.length : Nat) (up (maxL (chF l))) true) := by
  rw [← ch_list (l := l) rfl]
  exact iOrder_yes l.length ad n c l W hx hf (h.back h1) h1 h.1 (by have := hx.len; rw [up_len] at this; exact this.symm) (posL_lt h).1 (posL_lt h).2
theorem posAll (p : Int) (xs : List Int) : ∃ P fs b Q ds M T, PJ p xs P fs b Q ds M T := by
  by_cases h : PosetP p xs
  · obtain ⟨hL, hx, hp⟩ := posL_of h
    obtain ⟨l, hl⟩ : ∃ l, l = nats xs := ⟨_, rfl⟩
    rw [← hl] at hL hx hp
    subst hx
    subst hp
    clear hl
    have h1 : 1 ≤ l.length := by have := h.1; omega
    have hD := dual_pos hL
    have hDl := dualL_len l
    have hDD := dual_dual hL
    have hC := ch_cpx hL h1
    have hn := nats_up l
    have hlen : ∀ {W : World} {ad : Option Addr} {n : Nat}, IntsAt W ad n (up l) → n = l.length := fun hx => by have := hx.len; rw [up_len] at this; exact this.symm
    refine ⟨(l.length : Nat), up (maxL (chF l)), true, (l.length : Nat), up (dualL l), -(tot l fun _ => true), str (posText l.length l), ?_⟩
    refine ⟨fun W ad n c hx hf => iOrderL hL h1 W ad n c hx hf, fun W ad n c hx => sOrderL hL h1 W ad n c hx, fun W ad n c hx => ?_, fun W ad n c hx => ?_, fun W ad n c hx => ?_, fun W ad n c hx => ?_, fun W ad n c hx => ?_, fun W ad n c hx => ?_, fun W ad n c hx => ?_, fun W ad n c hx => ?_, fun W => ?_, fun h => by (cases h), fun _ W ad n c hx hf => ?_, fun _ W ad n c hx => ?_, fun _ W ad n c hx => ?_, fun _ W ad n c hx => ?_⟩
    · have := iDualPoset_yes _ ad n c (up l) W hx h
      rwa [hn] at this
    · have := sDualPoset_yes _ ad n c (up l) W hx h
      rwa [hn] at this
    · obtain rfl := hlen hx
      exact iMobius_yes ad _ c l W hx hL h
    · obtain rfl := hlen hx
      exact sMobius_yes ad _ c l W hx hL h
    · exact iIsPoset_any _ ad n c _ W hx true (by simp [h])
    · exact sIsPoset_any _ ad n c _ W hx true (by simp [h])
    · obtain rfl := hlen hx
      have := iPosetText_yes _ ad _ c (up l) W hx h
      rwa [hn] at this
    · obtain rfl := hlen hx
      have := sPosetText_yes _ ad _ c (up l) W hx h
      rwa [hn] at this
    · have hne : l ≠ [] := fun e => by rw [e] at h1; simp at h1
      have := iPP_head (str (posText l.length l)) l.length (setsText l) (some l) true W (posText_size hL.1) (posText_head h1 hL.1) (posText_all hne (posL_lt hL).1).symm ⟨fun _ => ⟨trivial, l, rfl, h⟩, fun _ => rfl⟩
      exact this
    · have := iOrderL hD (by rw [hDl]; exact h1) W ad n c hx hf
      rwa [dual_ch hL.1, hDl] at this
    · have hP2 := hD.back (by rw [hDl]; exact h1)
      have := iDualPoset_yes _ ad n c (up (dualL l)) W hx hP2
      rwa [nats_up, hDD, hDl] at this
    · have := sEuler_yes (l.length : Nat) ad n c (maxL (chF l)) W hx hC.anti hC.lt64
      rwa [mobius_euler hL] at this
    · exact sIsFlag_yes l.length ad n c (maxL (chF l)) W hx hC (ch_flag hL h1)
  · refine ⟨0, [], false, 0, [], 0, str [], ?_⟩
    refine ⟨fun W ad n c hx hf => iOrder_no p ad n c xs W hx h, fun W ad n c hx => sOrder_no p ad n c xs W hx h, fun W ad n c hx => iDualPoset_no p ad n c xs W hx h, fun W ad n c hx => sDualPoset_no p ad n c xs W hx h, fun W ad n c hx => iMobius_no p ad n c xs W hx h, fun W ad n c hx => sMobius_no p ad n c xs W hx h, fun W ad n c hx => iIsPoset_any p ad n c _ W hx false (by simp [h]), fun W ad n c hx => sIsPoset_any p ad n c _ W hx false (by simp [h]), fun W ad n c hx => iPosetText_no p ad n c xs W hx h, fun W ad n c hx => sPosetText_no p ad n c xs W hx h, fun W => ?_, fun _ => rfl, fun h => (by cases h), fun h => (by cases h), fun h => (by cases h), fun h => (by cases h)⟩
    have := iPP_no (str []) W (by decide) (fun m r => no_head)
    exact this

/-- what holds of a drawn complex' face order -/
structure FJ (q : Int) (ys : List Int) (R : Int) (gs : List Int) (b : Bool) : Prop where
  gi : ∀ W ad n c, IntsAt W ad n ys → n ≤ c → Calls Tryz.prog 51 #[.agg #[.int .i64 q, .slice ad n c]] W (RetBox2 W R gs b)
  gx : ∀ W ad n c, IntsAt W ad n ys → n ≤ c → Calls Tryz.prog 52 #[.agg #[.int .i64 q, .slice ad n c]] W (RetBox2 W R gs b)
  yes : b = true → ∃ (A : Int) (hs cs us : List Int), (∀ W ad n c, IntsAt W ad n gs → Fit ad n c → Calls Tryz.prog 43 #[.agg #[.int .i64 R, .slice ad n c]] W (RetBox2 W A hs true)) ∧
    (∀ W ad n c, IntsAt W ad n hs → Calls Tryz.prog 60 #[.agg #[.int .i64 A, .slice ad n c]] W (RetInts W cs)) ∧
    (∀ W ad n c, IntsAt W ad n ys → Calls Tryz.prog 61 #[.agg #[.int .i64 q, .slice ad n c]] W (RetInts W cs)) ∧
    (∀ W ad n c, IntsAt W ad n hs → Calls Tryz.prog 62 #[.agg #[.int .i64 A, .slice ad n c], .int .i64 2] W (RetInts W us)) ∧
    (∀ W ad n c, IntsAt W ad n ys → Calls Tryz.prog 62 #[.agg #[.int .i64 q, .slice ad n c], .int .i64 2] W (RetInts W us))
theorem faceAll (q : Int) (ys : List Int) : ∃ R gs b, FJ q ys R gs b := by
  by_cases h : Anti q ys
  · obtain ⟨l, rfl, hl2, _⟩ := h.nat
    have hl64 : ∀ t ∈ l, t < 64 := fun t ht => (hl2 t ht).2
    by_cases hF : FaP l
    · obtain ⟨hPL, hbl, hcnt, hhol⟩ := face_chains hF
      have h1 : 1 ≤ (belAll (faceL l)).length := by rw [hbl]; exact hF.1
      have hC := ch_cpx hPL h1
      refine ⟨_, _, _, fun W ad n c hx hc => (iFacePo_any q ad n c l W hx hc h hl64).1 hF, fun W ad n c hx hc => sFacePo_yes q ad n c l W hx h hl64 hF, fun _ => ?_⟩
      refine ⟨((belAll (faceL l)).length : Nat), up (maxL (chF (belAll (faceL l)))), up (chainL (cntOf (isFace l))), holesL 2 (isFace l), fun W ad n c hx hf => ?_, fun W ad n c hx => ?_, fun W ad n c hx => ?_, fun W ad n c hx => ?_, fun W ad n c hx => ?_⟩
      · have := iOrderL hPL h1 W ad n c hx hf
        rw [hbl] at this ⊢
        exact this
      · have := sCounts_yes ((belAll (faceL l)).length : Nat) ad n c (maxL (chF (belAll (faceL l)))) W hx hC.anti hC.lt64
        rwa [hcnt] at this
      · exact sChain_any q ad n c (up l) _ W hx (.inr ⟨l, rfl, h, hl64, rfl⟩)
      · have := sHoles_yes ((belAll (faceL l)).length : Nat) ad n c (maxL (chF (belAll (faceL l)))) 2 W hx hC.anti hC.lt64 (.inl rfl)
        rwa [hhol] at this
      · exact sHoles_yes q ad n c l 2 W hx h hl64 (.inl rfl)
    · exact ⟨0, [], false, fun W ad n c hx hc => (iFacePo_any q ad n c l W hx hc h hl64).2 hF, fun W ad n c hx hc => sFacePo_bad q ad n c _ (ord (isFace l)) W hx (fun W' hx' => sFacesOf_yes q ad n c l W' hx' h hl64) (faP_no hF), fun h => by cases h⟩
  · exact ⟨0, [], false, fun W ad n c hx hc => iFacePo_no q ad n c ys W hx hc h, fun W ad n c hx hc => sFacePo_bad q ad n c ys [] W hx (fun W' hx' => sFacesOf_no q ad n c ys W' hx' h) (by simp), fun h => by cases h⟩
end Go.Proofs.YtihfhfihladlcaaGreatDoor

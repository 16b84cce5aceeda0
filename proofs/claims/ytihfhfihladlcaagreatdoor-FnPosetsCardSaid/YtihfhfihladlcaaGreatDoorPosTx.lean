/- Texts of this claim, one behind the other: what each says stands at its head. -/
import Derived.Test.YtihfhfihladlcaaGreatDoorSetsI
import Derived.Test.YtihfhfihladlcaaGreatDoorStr2
import Derived.Test.YtihfhfihladlcaaGreatDoorStr3
/- Numbers of one digit as texts; a family of sets with its number of points as text. -/
namespace Go.Proofs.YtihfhfihladlcaaGreatDoor
set_option maxRecDepth 20000
open Go.RowKit
set_option linter.unusedSimpArgs false
set_option linter.unusedVariables false

/-- a poset as text -/
def posText (p : Nat) (l : List Nat) : List UInt8 := [UInt8.ofNat (48 + p)] ++ [58] ++ setsText l
theorem dec_one (n : Nat) (h : n ≤ 9) : (⟨(Lib.decDigits n).toArray⟩ : ByteArray) = str [UInt8.ofNat (48 + n)] := by
  unfold Lib.decDigits
  rw [dif_pos (by omega)]; rfl
theorem posText_cat (p : Nat) (l : List Nat) : str [UInt8.ofNat (48 + p)] ++ (⟨#[58]⟩ : ByteArray) ++ str (setsText l) = str (posText p l) := by
  have : (⟨#[58]⟩ : ByteArray) = str [58] := rfl
  rw [this, str_append, str_append]; rfl
theorem byt_str (l : List UInt8) : byt (str l) = l := by simp [byt, str]

theorem iFormat_one (n : Nat) (w : World) (h9 : n ≤ 9) :
    Calls Tryz.prog 104 #[.int .i64 n] w fun e w' => e = .returned (.string (str [UInt8.ofNat (48 + n)])) ∧ Below w.heap.size w w' := by
  have hF := Tryz.strconv_Itoa_small n (by omega) w
  rw [dec_one n h9] at hF
  obtain ⟨D, hD⟩ : ∃ D, D = str [UInt8.ofNat (48 + n)] := ⟨_, rfl⟩
  rw [← hD] at hF ⊢
  have HF := Lib.hid hF; clear hF hD
  go_enter Tryz.func104, Tryz.ntmps104
  go_wp2_with fail
  refine HF.out.mono ?_
  rintro e w1 ⟨rfl, rfl⟩
  go_wp2_with fail
  go_ret
  exact ⟨rfl, Below.refl _ _⟩
theorem sFormat_one (n : Nat) (w : World) (h1 : 1 ≤ n) (h9 : n ≤ 9) :
    Calls Tryz.prog 112 #[.int .i64 n] w fun e w' => e = .returned (.string (str [UInt8.ofNat (48 + n)])) ∧ Below w.heap.size w w' := by
  refine (sFormat_small n w h1 h9).mono ?_
  rintro e w' ⟨t, rfl, ht, hb⟩
  refine ⟨?_, hb⟩
  rw [byt_inj (ht.trans (byt_str _).symm)]

end Go.Proofs.YtihfhfihladlcaaGreatDoor

/- A poset's text is parsed back to it. Plain, no condition beyond those named. -/
namespace Go.Proofs.YtihfhfihladlcaaGreatDoor
set_option maxRecDepth 20000
set_option linter.unusedSimpArgs false
set_option linter.unusedVariables false

theorem spl_app {b : UInt8} (x : List UInt8) : ∀ (A cur : List UInt8), spl b cur (A ++ b :: x) = spl b cur A ++ spl b [] x
  | [], cur => by simp [spl]
  | a :: A, cur => by
    rw [List.cons_append, spl, spl]
    by_cases h : a = b
    · rw [if_pos h, if_pos h, spl_app x A []]; rfl
    · rw [if_neg h, if_neg h, spl_app x A _]
theorem text_bytes : ∀ s, s < 64 → (44 : UInt8) ∉ setText s ∧ psv (setText s) = some s := by decide +kernel
theorem spl_sets : ∀ (n : Nat) (l : List Nat), l.length = n + 1 → (∀ s ∈ l, s < 64) → spl 44 [] (setsText l) = l.map setText ∧ allP (l.map setText) = some l := by
  intro n
  induction n with
  | zero =>
    intro l hl h
    obtain ⟨s, rfl⟩ := List.length_eq_one_iff.1 hl
    obtain ⟨h1, h2⟩ := text_bytes s (h s (by simp))
    refine ⟨?_, ?_⟩
    · unfold setsText
      rw [List.map_cons, List.map_nil, comma_one, spl_none _ _ h1]; rfl
    · rw [List.map_cons, List.map_nil, ← List.nil_append [setText s], allP_snoc, allP_nil, h2]; rfl
  | succ n ih =>
    intro l hl h
    rcases List.eq_nil_or_concat l with rfl | ⟨L, s, rfl⟩
    · simp at hl
    rw [List.concat_eq_append] at *
    have hL : L.length = n + 1 := by simpa using hl
    obtain ⟨e1, e2⟩ := ih L hL fun t ht => h t (by simp [ht])
    obtain ⟨h1, h2⟩ := text_bytes s (h s (by simp))
    have hne : L.map setText ≠ [] := fun e => by have := congrArg List.length e; simp at this; rw [this] at hL; simp at hL
    refine ⟨?_, ?_⟩
    · unfold setsText at e1 ⊢
      rw [List.map_append, List.map_cons, List.map_nil, comma_snoc hne, List.append_assoc, List.singleton_append, spl_app, e1, spl_none _ _ h1]; rfl
    · rw [List.map_append, List.map_cons, List.map_nil, allP_snoc, e2, h2]; rfl
theorem posText_head {m : Nat} {l : List Nat} (h1 : 1 ≤ m) (h6 : m ≤ 6) : HeadP (byt (str (posText m l))) m (setsText l) := by
  rw [byt_str]; exact ⟨h1, h6, rfl⟩
theorem posText_all {l : List Nat} (h1 : l ≠ []) (h : ∀ s ∈ l, s < 64) : allP (spl 44 [] (setsText l)) = some l := by
  obtain ⟨n, hn⟩ : ∃ n, l.length = n + 1 := ⟨l.length - 1, by have := List.length_pos_iff.2 h1; omega⟩
  obtain ⟨e1, e2⟩ := spl_sets n l hn h
  rw [e1, e2]
theorem no_head {m : Nat} {r : List UInt8} : ¬ HeadP (byt (str [])) m r := fun h => by
  have := h.2.2
  rw [byt_str] at this; cases this
theorem posText_len {m : Nat} {l : List Nat} (hl : l.length ≤ 6) : (str (posText m l)).size ≤ 44 := by
  have : ∀ L : List (List UInt8), L.length ≤ 6 → (∀ x ∈ L, x.length ≤ 6) → (comma L).length ≤ 7 * L.length := by
    intro L
    induction hL : L.length generalizing L with
    | zero => intro _ _; have : L = [] := List.eq_nil_of_length_eq_zero hL; subst this; simp [comma, Lib.join_nil]
    | succ n ih =>
      intro h6 hx
      rcases List.eq_nil_or_concat L with rfl | ⟨K, x, rfl⟩
      · simp at hL
      rw [List.concat_eq_append] at *
      have hK : K.length = n := by simpa using hL
      have hxl := hx x (by simp)
      by_cases hn : K = []
      · subst hn; rw [List.nil_append, comma_one]; omega
      · have := ih K hK (by omega) fun y hy => hx y (by simp [hy])
        rw [comma_snoc hn]; simp; omega
  have h := this (l.map setText) (by simpa using hl) (fun x hx => by obtain ⟨s, _, rfl⟩ := List.mem_map.1 hx; exact setText_len s)
  have e : (str (posText m l)).size = (posText m l).length := by simp [str, ByteArray.size]
  rw [e]
  unfold posText setsText
  simp at h ⊢
  omega
theorem posText_size {m : Nat} {l : List Nat} (hl : l.length ≤ 6) : (str (posText m l)).size ≤ 1048576 := by
  have := posText_len (m := m) hl
  omega
end Go.Proofs.YtihfhfihladlcaaGreatDoor

/- Texts of this claim, one behind the other: what each says stands at its head. -/
import Derived.Test.YtbdnlncpamandaaColor2
import Derived.Test.YtbdnlncpamandaaFaces4
/- Contracts of FirstColoring and LeastColors, the program's and the reference's. -/
namespace Go.Proofs.Ytbdnlncpamandaa
set_option maxRecDepth 20000
open Go.RowKit
set_option linter.unusedSimpArgs false
set_option linter.unusedVariables false

def adjB (l : List Nat) (i j : Nat) : Bool := isFace l (pr i j)
theorem adj_nbs {l : List Nat} {m i j : Nat} (hm : m ≤ 6) (hi : i < m) (hj : j < i) : (nbs (ofSize l 2) i).testBit j = adjB l i j := by
  have hE : ∀ t ∈ ofSize l 2, t < 64 ∧ isFace l t = true ∧ sz t = 2 := fun t ht => by
    unfold ofSize at ht
    rw [if_neg (by omega)] at ht
    exact mem_lvl.1 ht
  have h := nbs_pr (l := ofSize l 2) (i := i) (j := j) (by omega) (by omega) (fun t ht => (hE t ht).1) (fun t ht => (hE t ht).2.2)
  rw [Bool.eq_iff_iff, h]
  unfold adjB
  constructor
  · intro h; exact (hE _ h.2).2.1
  · intro h'
    refine ⟨by omega, ?_⟩
    unfold ofSize
    rw [if_neg (by omega)]
    exact mem_lvl.2 ⟨pr_lt (by omega) (by omega), h', pr_sz i (by omega) j (by omega) (by omega)⟩
theorem ofSize_lt {l : List Nat} : ∀ t ∈ ofSize l 2, t < 64 := fun t ht => by
  unfold ofSize at ht
  rw [if_neg (by omega)] at ht
  exact (mem_lvl.1 ht).1
/-- what FirstColoring hands back -/
def RetL2 (w : World) (ys : List Int) (b : Bool) (e : Ending) (w' : World) : Prop :=
  ∃ ad n c, e = .returned (.tuple #[.slice ad n c, .bool b]) ∧ Own 3 w' w.heap.size ad n c ys ∧ Below w.heap.size w w'
def FirP (p : Int) (xs : List Int) (k : Int) : Prop := Anti p xs ∧ 1 ≤ k ∧ k ≤ 6

theorem sFirst_no (p : Int) (a : Option Addr) (n c : Nat) (xs : List Int) (k : Int) (w : World) (h : IntsAt w a n xs) (hno : ¬ FirP p xs k) :
    Calls Try.prog 12 #[.agg #[.int .i64 p, .slice a n c], .int .i64 k] w (RetL2 w [] false) := by
  have hx : IntsAt (w.alloc (.cells #[.int .i64 p, .slice a n c] 26)) a n xs := h.keep (by repeat (first | exact Below.refl _ _ | assumption | refine Below.setCell ?_ (by first | omega | (simp; done) | (simp; omega)) _ | refine Below.alloc ?_ (by first | omega | (simp; done) | (simp; omega)) _ | apply Below.drew))
  have Hx := Lib.hid hx; clear hx h
  by_cases hA : Anti p xs
  · have hk : ¬ (1 ≤ k ∧ k ≤ 6) := fun h => hno ⟨hA, h.1, h.2⟩
    have HA := Lib.hid hA; have Hk := Lib.hid hk; clear hA hk hno
    go_enter Try.func12, Try.ntmps12
    go_wp2_with fail
    refine (sIsComplex_any p a n c xs _ Hx.out true (by simp [HA.out])).mono ?_
    rintro e w1 ⟨rfl, hb⟩
    have HB : Hid (Below w.heap.size w w1) := Lib.hid (Below.trans (by repeat (first | exact Below.refl _ _ | assumption | refine Below.setCell ?_ (by first | omega | (simp; done) | (simp; omega)) _ | refine Below.alloc ?_ (by first | omega | (simp; done) | (simp; omega)) _ | apply Below.drew)) (hb.mono (by simp <;> omega)))
    clear hb
    go_wp2_with (go_at_call 72; (with_reducible refine (l1In_no k 1 6 _ Hk.out).mono ?_); rintro e w' ⟨rfl, rfl⟩)
    refine bodyPost_ret (v := .tuple #[.slice (some ⟨w1.heap.size, 0, none⟩) 0 0, .bool false]) (by simp [results, Try.results12, go_sem]) rfl ⟨_, 0, 0, rfl, Own.empty _ _ _ HB.out.size, HB.out.alloc HB.out.size _⟩
  · have HA := Lib.hid hA; clear hA hno
    go_enter Try.func12, Try.ntmps12
    go_wp2_with fail
    refine (sIsComplex_any p a n c xs _ Hx.out false (by simp [HA.out])).mono ?_
    rintro e w1 ⟨rfl, hb⟩
    have HB : Hid (Below w.heap.size w w1) := Lib.hid (Below.trans (by repeat (first | exact Below.refl _ _ | assumption | refine Below.setCell ?_ (by first | omega | (simp; done) | (simp; omega)) _ | refine Below.alloc ?_ (by first | omega | (simp; done) | (simp; omega)) _ | apply Below.drew)) (hb.mono (by simp <;> omega)))
    clear hb
    go_wp2_with fail
    refine bodyPost_ret (v := .tuple #[.slice (some ⟨w1.heap.size, 0, none⟩) 0 0, .bool false]) (by simp [results, Try.results12, go_sem]) rfl ⟨_, 0, 0, rfl, Own.empty _ _ _ HB.out.size, HB.out.alloc HB.out.size _⟩
theorem sFirst_yes (m : Nat) (a : Option Addr) (n c : Nat) (l : List Nat) (k : Nat) (w : World) (h : IntsAt w a n (up l)) (hm : m ≤ 6) (h1 : 1 ≤ k) (h6 : k ≤ 6) (hA : Anti m (up l)) (hl : ∀ t ∈ l, t < 64) :
    Calls Try.prog 12 #[.agg #[.int .i64 m, .slice a n c], .int .i64 k] w (RetL2 w (up ((cfind (adjB l) k m []).getD [])) (cfind (adjB l) k m []).isSome) := by
  have hx : IntsAt (w.alloc (.cells #[.int .i64 m, .slice a n c] 26)) a n (up l) := h.keep (by repeat (first | exact Below.refl _ _ | assumption | refine Below.setCell ?_ (by first | omega | (simp; done) | (simp; omega)) _ | refine Below.alloc ?_ (by first | omega | (simp; done) | (simp; omega)) _ | apply Below.drew))
  have Hx := Lib.hid hx; have HA := Lib.hid hA; have Hl := Lib.hid hl
  have XA := Lib.hid (BoxF.new w (.int .i64 m) (.slice a n c) 26)
  clear hx h hA hl
  obtain ⟨res, hres⟩ : ∃ res, res = cfind (adjB l) k m [] := ⟨_, rfl⟩
  rw [← hres]
  have Hres := Lib.hid hres; clear hres
  have hk1 : (1 : Int) ≤ k := by omega
  have hk6 : (k : Int) ≤ 6 := by omega
  go_enter Try.func12, Try.ntmps12
  go_wp2_with fail
  refine (sIsComplex_any m a n c _ _ Hx.out true (by simp [HA.out])).mono ?_
  rintro e w1 ⟨rfl, hb⟩
  have HB : Hid (Below w.heap.size w w1) := Lib.hid (Below.trans (by repeat (first | exact Below.refl _ _ | assumption | refine Below.setCell ?_ (by first | omega | (simp; done) | (simp; omega)) _ | refine Below.alloc ?_ (by first | omega | (simp; done) | (simp; omega)) _ | apply Below.drew)) (hb.mono (by simp <;> omega)))
  have Hx1 := Lib.hid (Hx.out.keep hb)
  obtain ⟨p0, p1, _, _, _⟩ := XA.out.keep hb (by simp)
  have hz : w.heap.size + 1 ≤ w1.heap.size := by have := hb.size; simp at this; omega
  clear hb
  have Hx2 := Lib.hid (Hx1.out.keep (w' := w1.alloc (.cells #[] 3)) (by repeat (first | exact Below.refl _ _ | assumption | refine Below.setCell ?_ (by first | omega | (simp; done) | (simp; omega)) _ | refine Below.alloc ?_ (by first | omega | (simp; done) | (simp; omega)) _ | apply Below.drew)))
  have HO := Lib.hid (Own.empty 3 w1 w1.heap.size (Nat.le_refl _))
  go_wp2_with (first | (go_at_call 72; (with_reducible refine (l1In_yes k 1 6 _ hk1 hk6).mono ?_); rintro e w' ⟨rfl, rfl⟩) | (go_at_call 73; refine (l28Find_any m a n c l k hm h6 Hl.out m [] _ 0 0 w1.heap.size _ Hx2.out HO.out (by simp) (by simp)).mono ?_; rw [show (fun i j => isFace l (pr i j)) = adjB l from rfl, ← Hres.out]; rintro e w2 ⟨ad, n2, c2, rfl, hown, hb⟩; have HO2 := Lib.hid hown; have HB2 := Lib.hid ((HB.out.alloc HB.out.size (.cells #[] 3)).trans (hb.mono (by simp; omega))); clear hown hb))
  refine bodyPost_ret (v := .tuple #[.slice ad n2 c2, .bool res.isSome]) (by simp [results, Try.results12, go_sem]) rfl ⟨ad, n2, c2, rfl, HO2.out.mono (by omega), HB2.out⟩

set_option maxRecDepth 100000 in
set_option maxHeartbeats 1000000 in
theorem iFirst_no (p : Int) (a : Option Addr) (n c : Nat) (xs : List Int) (k : Int) (w : World) (h : IntsAt w a n xs) (hcap : n ≤ c) (hno : ¬ FirP p xs k) :
    Calls Try.prog 11 #[.agg #[.int .i64 p, .slice a n c], .int .i64 k] w (RetL2 w [] false) := by
  have hx : IntsAt (w.alloc (.cells #[.int .i64 p, .slice a n c] 26)) a n xs := h.keep (by repeat (first | exact Below.refl _ _ | assumption | refine Below.setCell ?_ (by first | omega | (simp; done) | (simp; omega)) _ | refine Below.alloc ?_ (by first | omega | (simp; done) | (simp; omega)) _ | apply Below.drew))
  have Hx := Lib.hid hx; have Hcap := Lib.hid hcap; clear hx h hcap
  by_cases hA : Anti p xs
  · obtain ⟨l, rfl, hl2, _⟩ := hA.nat
    have hk : k < 1 ∨ 6 < k := by
      by_cases h1 : k < 1
      · exact .inl h1
      · refine .inr ?_
        by_cases h2 : 6 < k
        · exact h2
        · exact absurd ⟨hA, by omega, by omega⟩ hno
    have HA := Lib.hid hA; have Hl := Lib.hid (fun t ht => (hl2 t ht).2 : ∀ t ∈ l, t < 64)
    clear hA hno hl2
    rcases hk with hk | hk
    · go_enter Try.func11, Try.ntmps11
      go_wp2_with fail
      refine (iGraphOf_yes p a n c l _ Hx.out Hcap.out HA.out Hl.out).mono ?_
      rintro e w1 ⟨ad, d, r, rfl, hown, hb⟩
      have HB : Hid (Below w.heap.size w w1) := Lib.hid (Below.trans (by repeat (first | exact Below.refl _ _ | assumption | refine Below.setCell ?_ (by first | omega | (simp; done) | (simp; omega)) _ | refine Below.alloc ?_ (by first | omega | (simp; done) | (simp; omega)) _ | apply Below.drew)) (hb.mono (by simp <;> omega)))
      clear hb hown
      go_wp2_with fail
      refine bodyPost_ret (v := .tuple #[.slice none 0 0, .bool false]) (by simp [results, Try.results11, go_sem]) rfl ⟨none, 0, 0, rfl, Own.nil _ _ _, HB.out.alloc HB.out.size _⟩
    · have hk1 : ¬ k < 1 := by omega
      go_enter Try.func11, Try.ntmps11
      go_wp2_with fail
      refine (iGraphOf_yes p a n c l _ Hx.out Hcap.out HA.out Hl.out).mono ?_
      rintro e w1 ⟨ad, d, r, rfl, hown, hb⟩
      have HB : Hid (Below w.heap.size w w1) := Lib.hid (Below.trans (by repeat (first | exact Below.refl _ _ | assumption | refine Below.setCell ?_ (by first | omega | (simp; done) | (simp; omega)) _ | refine Below.alloc ?_ (by first | omega | (simp; done) | (simp; omega)) _ | apply Below.drew)) (hb.mono (by simp <;> omega)))
      clear hb hown
      go_wp2_with fail
      refine bodyPost_ret (v := .tuple #[.slice none 0 0, .bool false]) (by simp [results, Try.results11, go_sem]) rfl ⟨none, 0, 0, rfl, Own.nil _ _ _, HB.out.alloc HB.out.size _⟩
  · have HA := Lib.hid hA; clear hA hno
    go_enter Try.func11, Try.ntmps11
    go_wp2_with fail
    refine (iGraphOf_no p a n c xs _ Hx.out Hcap.out HA.out).mono ?_
    rintro e w1 ⟨ad, d, r, rfl, hown, hb⟩
    have HB : Hid (Below w.heap.size w w1) := Lib.hid (Below.trans (by repeat (first | exact Below.refl _ _ | assumption | refine Below.setCell ?_ (by first | omega | (simp; done) | (simp; omega)) _ | refine Below.alloc ?_ (by first | omega | (simp; done) | (simp; omega)) _ | apply Below.drew)) (hb.mono (by simp <;> omega)))
    clear hb hown
    go_wp2_with fail
    refine bodyPost_ret (v := .tuple #[.slice none 0 0, .bool false]) (by simp [results, Try.results11, go_sem]) rfl ⟨none, 0, 0, rfl, Own.nil _ _ _, HB.out.alloc HB.out.size _⟩
set_option maxRecDepth 100000 in
set_option maxHeartbeats 2000000 in
theorem iFirst_yes (m : Nat) (a : Option Addr) (n c : Nat) (l : List Nat) (k : Nat) (w : World) (h : IntsAt w a n (up l)) (hcap : n ≤ c) (hm1 : 1 ≤ m) (hm : m ≤ 6) (h1 : 1 ≤ k) (h6 : k ≤ 6) (hA : Anti m (up l)) (hl : ∀ t ∈ l, t < 64) :
    Calls Try.prog 11 #[.agg #[.int .i64 m, .slice a n c], .int .i64 k] w (RetL2 w (up ((cfind (adjB l) k m []).getD [])) (cfind (adjB l) k m []).isSome) := by
  have hx : IntsAt (w.alloc (.cells #[.int .i64 m, .slice a n c] 26)) a n (up l) := h.keep (by repeat (first | exact Below.refl _ _ | assumption | refine Below.setCell ?_ (by first | omega | (simp; done) | (simp; omega)) _ | refine Below.alloc ?_ (by first | omega | (simp; done) | (simp; omega)) _ | apply Below.drew))
  have Hx := Lib.hid hx; have HA := Lib.hid hA; have Hl := Lib.hid hl; have Hcap := Lib.hid hcap
  clear hx h hA hl hcap
  obtain ⟨res, hres⟩ : ∃ res, res = cfind (adjB l) k m [] := ⟨_, rfl⟩
  rw [← hres]
  have Hres := Lib.hid hres; clear hres
  have hk1 : ¬ (k : Int) < 1 := by omega
  have hk6 : ¬ (6 : Int) < k := by omega
  have hE := ofSize_lt (l := l)
  obtain ⟨E, hEe⟩ : ∃ E, E = ofSize l 2 := ⟨_, rfl⟩
  have hadj : ∀ i j, i < m → j < i → (nbs E i).testBit j = adjB l i j := fun i j hi hj => by rw [hEe]; exact adj_nbs hm hi hj
  rw [← hEe] at hE
  have HE := Lib.hid hE; have HEe := Lib.hid hEe; have Hadj := Lib.hid hadj
  clear hE hEe hadj
  go_enter Try.func11, Try.ntmps11
  go_wp2_with fail
  refine (iGraphOf_yes m a n c l _ Hx.out Hcap.out HA.out Hl.out).mono ?_
  rw [← HEe.out]
  rintro e w1 ⟨ad, d, r, rfl, hown, hb⟩
  have HB : Hid (Below w.heap.size w w1) := Lib.hid (Below.trans (by repeat (first | exact Below.refl _ _ | assumption | refine Below.setCell ?_ (by first | omega | (simp; done) | (simp; omega)) _ | refine Below.alloc ?_ (by first | omega | (simp; done) | (simp; omega)) _ | apply Below.drew)) (hb.mono (by simp <;> omega)))
  have XG := Lib.hid (BoxF.new w1 (.int .i64 m) (.slice ad d r) 71)
  have HOE := Lib.hid (hown.reads.keep (w' := w1.alloc (.cells #[.int .i64 m, .slice ad d r] 71)) (by repeat (first | exact Below.refl _ _ | assumption | refine Below.setCell ?_ (by first | omega | (simp; done) | (simp; omega)) _ | refine Below.alloc ?_ (by first | omega | (simp; done) | (simp; omega)) _ | apply Below.drew)))
  have HB1 := Lib.hid (HB.out.alloc HB.out.size (.cells #[.int .i64 m, .slice ad d r] 71))
  have hz1 : w.heap.size ≤ w1.heap.size := HB.out.size
  clear hb hown
  go_wp2_with (at_make; refine mk_ints rfl _ _ rfl _ rfl rfl m rfl (by omega) ?_; intro g w2 hown2 hb2; have HOc := Lib.hid hown2; have HB2 := Lib.hid (HB1.out.trans (hb2.mono HB1.out.size)); have XG2 := Lib.hid (XG.out.keep hb2 (by simp)); have HOE2 := Lib.hid (HOE.out.keep hb2); obtain ⟨g0, g1, _, _, _⟩ := XG2.out; clear hown2 hb2)
  refine (neighborsIn_any m ad d r E _ HOE2.out hm HE.out).mono ?_
  rintro e w3 ⟨na, nn, nc, rfl, hown3, hb3⟩
  have HN : Hid (IntsAt w3 na nn (up (nbRow E m))) := Lib.hid hown3.reads
  have hnn : nn = m := by have := HN.out.len; rw [up_len] at this; unfold nbRow at this; simpa using this.symm
  subst hnn
  have hgl := (HOc.out.lt g rfl).2
  have hne : ∀ b, na = some b → b.block ≠ g := fun b hb => by
    have := (hown3.lt b.block (by rw [hb]; rfl)).1
    omega
  have Hne := Lib.hid hne
  have hrep : List.replicate nn (0 : Int) = up (List.replicate nn 0) := by unfold up; simp
  have HOc3 : Hid (Own 3 w3 (w1.heap.size + 1) (some ⟨g, 0, none⟩) nn nn (up (List.replicate nn 0))) := Lib.hid (by
    have := (HOc.out.keep hb3).mono (show w1.heap.size + 1 ≤ _ by simp)
    rw [hrep] at this; exact this)
  have HB3 := Lib.hid (HB2.out.trans (hb3.mono HB2.out.size))
  clear hown3 hb3 hne hrep hgl
  have hcall := colorFrom_any nn E (adjB l) na nc g nn k hm h6 HE.out Hadj.out Hne.out nn 0 (List.replicate nn 0) w3 (w1.heap.size + 1) HN.out HOc3.out (by omega)
  rw [List.take_zero, ← Hres.out] at hcall
  have Hcall := Lib.hid hcall
  clear hcall
  cases res with
  | none =>
    go_wp2_with (go_at_call 70; refine Hcall.out.mono ?_; rintro e w5 ⟨rfl, hb5, hx5, cs5, hO5, htk5, hL5⟩; have HB5 := Lib.hid (HB3.out.trans (hb5.mono (by omega))); clear hb5 hx5 hO5 htk5 hL5)
    refine bodyPost_ret (v := .tuple #[.slice none 0 0, .bool false]) (by simp [results, Try.results11, go_sem]) rfl ⟨none, 0, 0, rfl, Own.nil _ _ _, HB5.out⟩
  | some L =>
    go_wp2_with (go_at_call 70; refine Hcall.out.mono ?_; rintro e w5 ⟨rfl, hb5, hx5, cs5, hO5, htk5, hL5⟩; have HB5 := Lib.hid (HB3.out.trans (hb5.mono (by omega))); have hL := hL5 L rfl; subst hL; have HO5 := Lib.hid hO5; clear hb5 hx5 hO5 htk5 hL5)
    refine bodyPost_ret (v := .tuple #[.slice (some ⟨g, 0, none⟩) nn nn, .bool true]) (by simp [results, Try.results11, go_sem]) rfl ⟨_, nn, nn, rfl, HO5.out.mono (by omega), HB5.out⟩
end Go.Proofs.Ytbdnlncpamandaa

/- Contracts of LeastColors, the program's and the reference's. -/
namespace Go.Proofs.Ytbdnlncpamandaa
set_option maxRecDepth 20000
open Go.RowKit
set_option linter.unusedSimpArgs false
set_option linter.unusedVariables false

/-- the least number from 1 to 6 with f; 0 for none -/
def leastN (f : Nat → Bool) : Nat := ((List.range 6).find? fun i => f (i + 1)).elim 0 (· + 1)
theorem least_at {f : Nat → Bool} {K : Nat} (h0 : ∀ j, 1 ≤ j → j < K → f j = false) (h1 : 1 ≤ K) (h6 : K ≤ 6) (h : f K = true) : leastN f = K := by
  have : (List.range 6).find? (fun i => f (i + 1)) = some (K - 1) := by
    rw [List.find?_range_eq_some]
    refine ⟨by rw [show K - 1 + 1 = K by omega]; exact h, by simp; omega, fun j hj => by rw [h0 (j + 1) (by omega) (by omega)]; rfl⟩
  unfold leastN
  rw [this]; simp; omega
theorem least_none {f : Nat → Bool} (h0 : ∀ j, 1 ≤ j → j ≤ 6 → f j = false) : leastN f = 0 := by
  have : (List.range 6).find? (fun i => f (i + 1)) = none := by
    rw [List.find?_eq_none]
    intro j hj
    rw [h0 (j + 1) (by omega) (by have := List.mem_range.1 hj; omega)]; simp
  unfold leastN
  rw [this]; rfl

theorem implLeast_any (p : Int) (a : Option Addr) (n c : Nat) (xs : List Int) (w : World) (h : IntsAt w a n xs) (f : Nat → Bool) (ys : Nat → List Int)
    (hc : ∀ k : Nat, 1 ≤ k → k ≤ 6 → ∀ W, IntsAt W a n xs → Calls Try.prog 11 #[.agg #[.int .i64 p, .slice a n c], .int .i64 k] W (RetL2 W (ys k) (f k))) :
    Calls Try.prog 17 #[.agg #[.int .i64 p, .slice a n c]] w fun e w' => e = .returned (.int .i64 (leastN f : Nat)) ∧ Below w.heap.size w w' := by
  have hx : IntsAt (w.alloc (.cells #[.int .i64 p, .slice a n c] 26)) a n xs := h.keep (by repeat (first | exact Below.refl _ _ | assumption | refine Below.setCell ?_ (by first | omega | (simp; done) | (simp; omega)) _ | refine Below.alloc ?_ (by first | omega | (simp; done) | (simp; omega)) _ | apply Below.drew))
  have Hx := Lib.hid hx; have Hc := Lib.hid hc
  clear hx h hc
  go_enter Try.func17, Try.ntmps17
  go_wp2_with fail
  go_loopw [3, 4, 5] (fun kv _ _ wr => ∃ K : Nat, 1 ≤ K ∧ K ≤ 7 ∧ kv = .int .i64 K ∧ Below (w.heap.size + 1) (w.alloc (.cells #[.int .i64 p, .slice a n c] 26)) wr ∧ Hid (∀ j, 1 ≤ j → j < K → f j = false)) (fun kv _ _ _ => 7 - (intOf kv).toNat)
  case atStart => exact ⟨1, by omega, by omega, rfl, Below.refl _ _, Lib.hid fun j h1 h2 => by omega⟩
  case round =>
    obtain ⟨K, hK1, hK7, rfl, hb, hnone⟩ := hrel
    obtain ⟨hc0, hc1⟩ := box2 hb
    have HB := Lib.hid hb
    have Hx1 := Lib.hid (Hx.out.keep (by simpa using hb))
    have hz : w.heap.size + 1 ≤ wr.heap.size := by have := hb.size; simpa using this
    clear hb
    by_cases hK : K ≤ 6
    · have hcall := Hc.out K hK1 hK wr Hx1.out
      obtain ⟨b, hbf⟩ : ∃ b, f K = b := ⟨_, rfl⟩
      rw [hbf] at hcall
      have Hcall := Lib.hid hcall; have Hbf := Lib.hid hbf
      clear hcall hbf
      cases b
      · go_wp2_with (go_at_call 11; refine Hcall.out.mono ?_; rintro e w2 ⟨ad, n2, c2, rfl, hown, hb2⟩; have HB2 := Lib.hid (HB.out.trans (hb2.mono hz)); clear hown hb2)
        go_roundw
        case rel =>
          refine ⟨K + 1, by omega, by omega, by go_num, HB2.out, Lib.hid fun j h1 h2 => ?_⟩
          rcases Nat.lt_or_ge j K with h | h
          · exact hnone.out j h1 h
          · obtain rfl : j = K := by omega
            exact Hbf.out
        case measure => simp [intOf]; omega
      · go_wp2_with (go_at_call 11; refine Hcall.out.mono ?_; rintro e w2 ⟨ad, n2, c2, rfl, hown, hb2⟩; have HB2 := Lib.hid (HB.out.trans (hb2.mono hz)); clear hown hb2)
        go_ret
        exact ⟨by rw [least_at hnone.out hK1 hK Hbf.out]; rfl, box_below HB2.out⟩
    · obtain rfl : K = 7 := by omega
      go_wp2_with fail
      go_ret
      exact ⟨by rw [least_none (fun j h1 h2 => hnone.out j h1 (by omega))]; rfl, box_below HB.out⟩
theorem specLeast_any (p : Int) (a : Option Addr) (n c : Nat) (xs : List Int) (w : World) (h : IntsAt w a n xs) (f : Nat → Bool) (ys : Nat → List Int)
    (hc : ∀ k : Nat, 1 ≤ k → k ≤ 6 → ∀ W, IntsAt W a n xs → Calls Try.prog 12 #[.agg #[.int .i64 p, .slice a n c], .int .i64 k] W (RetL2 W (ys k) (f k))) :
    Calls Try.prog 18 #[.agg #[.int .i64 p, .slice a n c]] w fun e w' => e = .returned (.int .i64 (leastN f : Nat)) ∧ Below w.heap.size w w' := by
  have hx : IntsAt (w.alloc (.cells #[.int .i64 p, .slice a n c] 26)) a n xs := h.keep (by repeat (first | exact Below.refl _ _ | assumption | refine Below.setCell ?_ (by first | omega | (simp; done) | (simp; omega)) _ | refine Below.alloc ?_ (by first | omega | (simp; done) | (simp; omega)) _ | apply Below.drew))
  have Hx := Lib.hid hx; have Hc := Lib.hid hc
  clear hx h hc
  go_enter Try.func18, Try.ntmps18
  go_wp2_with fail
  go_loopw [3, 4, 5] (fun kv _ _ wr => ∃ K : Nat, 1 ≤ K ∧ K ≤ 7 ∧ kv = .int .i64 K ∧ Below (w.heap.size + 1) (w.alloc (.cells #[.int .i64 p, .slice a n c] 26)) wr ∧ Hid (∀ j, 1 ≤ j → j < K → f j = false)) (fun kv _ _ _ => 7 - (intOf kv).toNat)
  case atStart => exact ⟨1, by omega, by omega, rfl, Below.refl _ _, Lib.hid fun j h1 h2 => by omega⟩
  case round =>
    obtain ⟨K, hK1, hK7, rfl, hb, hnone⟩ := hrel
    obtain ⟨hc0, hc1⟩ := box2 hb
    have HB := Lib.hid hb
    have Hx1 := Lib.hid (Hx.out.keep (by simpa using hb))
    have hz : w.heap.size + 1 ≤ wr.heap.size := by have := hb.size; simpa using this
    clear hb
    by_cases hK : K ≤ 6
    · have hcall := Hc.out K hK1 hK wr Hx1.out
      obtain ⟨b, hbf⟩ : ∃ b, f K = b := ⟨_, rfl⟩
      rw [hbf] at hcall
      have Hcall := Lib.hid hcall; have Hbf := Lib.hid hbf
      clear hcall hbf
      cases b
      · go_wp2_with (go_at_call 12; refine Hcall.out.mono ?_; rintro e w2 ⟨ad, n2, c2, rfl, hown, hb2⟩; have HB2 := Lib.hid (HB.out.trans (hb2.mono hz)); clear hown hb2)
        go_roundw
        case rel =>
          refine ⟨K + 1, by omega, by omega, by go_num, HB2.out, Lib.hid fun j h1 h2 => ?_⟩
          rcases Nat.lt_or_ge j K with h | h
          · exact hnone.out j h1 h
          · obtain rfl : j = K := by omega
            exact Hbf.out
        case measure => simp [intOf]; omega
      · go_wp2_with (go_at_call 12; refine Hcall.out.mono ?_; rintro e w2 ⟨ad, n2, c2, rfl, hown, hb2⟩; have HB2 := Lib.hid (HB.out.trans (hb2.mono hz)); clear hown hb2)
        go_ret
        exact ⟨by rw [least_at hnone.out hK1 hK Hbf.out]; rfl, box_below HB2.out⟩
    · obtain rfl : K = 7 := by omega
      go_wp2_with fail
      go_ret
      exact ⟨by rw [least_none (fun j h1 h2 => hnone.out j h1 (by omega))]; rfl, box_below HB.out⟩
end Go.Proofs.Ytbdnlncpamandaa

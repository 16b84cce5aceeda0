/- The Moebius function of an order on points, in plain terms. -/
import Derived.Test.YthijccgbkmappaaMath2
namespace Go.Proofs.Ythijccgbkmappaa

/-- an order on at most six points, as sets below -/
def PosL (l : List Nat) : Prop :=
  l.length ≤ 6 ∧ (∀ i, i < l.length → nthN l i < 2 ^ l.length ∧ nthN l i < 64 ∧ (nthN l i).testBit i = false) ∧
    ∀ i, i < l.length → ∀ k, k < l.length → (nthN l k).testBit i = true → sub (nthN l i) (nthN l k) = true

def muN (l : List Nat) : Nat → Nat → Int
  | 0, _ => 0
  | f + 1, i => -(1 + ((pts (nthN l i)).map (muN l f)).sum)
def mu (l : List Nat) (i : Nat) : Int := muN l 6 i

theorem sum_bd {L : List Nat} {f : Nat → Int} {B : Int} (h : ∀ x ∈ L, -B ≤ f x ∧ f x ≤ B) : -((L.length : Int) * B) ≤ (L.map f).sum ∧ (L.map f).sum ≤ (L.length : Int) * B := by
  induction L with
  | nil => simp
  | cons a L ih =>
    have h1 := h a (by simp)
    have h2 := ih fun x hx => h x (by simp [hx])
    simp only [List.map_cons, List.sum_cons, List.length_cons]
    have e : ((L.length + 1 : Nat) : Int) * B = (L.length : Int) * B + B := by push_cast; rw [Int.add_mul, Int.one_mul]
    omega
theorem pts_len (s : Nat) : (pts s).length ≤ 6 := ptsTo_len s 6
theorem muN_bd (l : List Nat) : ∀ f i, -((7 : Int) ^ f) ≤ muN l f i ∧ muN l f i ≤ 7 ^ f := by
  intro f
  induction f with
  | zero => intro i; simp [muN]
  | succ f ih =>
    intro i
    have h := sum_bd (L := pts (nthN l i)) (f := muN l f) (B := 7 ^ f) fun x _ => ih x
    have hl := pts_len (nthN l i)
    have hp : (1 : Int) ≤ 7 ^ f := by
      have : (0 : Int) < 7 ^ f := Int.pow_pos (by omega)
      omega
    have h6 : ((pts (nthN l i)).length : Int) * 7 ^ f ≤ 6 * 7 ^ f := Int.mul_le_mul_of_nonneg_right (by omega) (by omega)
    rw [Int.pow_succ]
    unfold muN
    omega
theorem mu_bd (l : List Nat) (i : Nat) : -117649 ≤ mu l i ∧ mu l i ≤ 117649 := by
  have := muN_bd l 6 i
  unfold mu
  have e : (7 : Int) ^ 6 = 117649 := by decide
  rw [e] at this; exact this

theorem PosL.down {l : List Nat} (h : PosL l) {i k : Nat} (hi : i < l.length) (hk : (nthN l i).testBit k = true) : k < l.length ∧ sz (nthN l k) < sz (nthN l i) := by
  have hi2 := h.2.1 i hi
  have hkl : k < l.length := by
    rcases Nat.lt_or_ge k l.length with h' | h'
    · exact h'
    · have := Nat.testBit_lt_two_pow (Nat.lt_of_lt_of_le hi2.1 (Nat.pow_le_pow_right (n := 2) (by omega) h'))
      rw [this] at hk; cases hk
  have hs := h.2.2 k hkl i hi hk
  obtain ⟨h1, h2⟩ := sub_sz hi2.2.1 hs
  refine ⟨hkl, ?_⟩
  rcases Nat.lt_or_ge (sz (nthN l k)) (sz (nthN l i)) with h' | h'
  · exact h'
  · have e := h2 (by omega)
    have := (h.2.1 k hkl).2.2
    rw [e, hk] at this; cases this

theorem muN_stable {l : List Nat} (h : PosL l) : ∀ f i, i < l.length → sz (nthN l i) < f → muN l f i = muN l (f + 1) i := by
  intro f
  induction f with
  | zero => intro i _ hs; omega
  | succ f ih =>
    intro i hi hs
    unfold muN
    have : (pts (nthN l i)).map (muN l f) = (pts (nthN l i)).map (muN l (f + 1)) := by
      apply List.map_congr_left
      intro k hk
      obtain ⟨_, hk2⟩ := mem_pts.1 hk
      obtain ⟨h1, h2⟩ := h.down hi hk2
      exact ih k h1 (by omega)
    rw [this]

theorem PosL.sz_lt {l : List Nat} (h : PosL l) {i : Nat} (hi : i < l.length) : sz (nthN l i) < l.length := by
  have h2 := h.2.1 i hi
  have h6 := h.1
  have aux : ∀ n, n ≤ 6 → ∀ i, i < n → ∀ s, s < 2 ^ n → s.testBit i = false → sz s < n := by
    intro n hn
    have : ∀ n, n < 7 → ∀ i, i < n → ∀ s, s < 2 ^ n → s.testBit i = false → sz s < n := by decide +kernel
    exact this n (by omega)
  exact aux _ h6 i hi _ h2.1 h2.2.2
theorem mu_eq {l : List Nat} (h : PosL l) {i : Nat} (hi : i < l.length) : mu l i = -(1 + ((pts (nthN l i)).map (mu l)).sum) := by
  have h1 := muN_stable h 6 i hi (by have := h.sz_lt hi; have := h.1; omega)
  unfold mu
  rw [h1]
  show -(1 + ((pts (nthN l i)).map (muN l 6)).sum) = _
  rfl

/-- a list of numbers by its entries -/
def tab (p : Nat) (f : Nat → Int) : List Int := (List.range p).map f
theorem tab_len (p : Nat) (f : Nat → Int) : (tab p f).length = p := by simp [tab]
theorem tab_at {p : Nat} {f : Nat → Int} {i : Nat} (h : i < p) : nth (tab p f) i = f i := by
  rw [nth_eq (by rw [tab_len]; exact h)]; simp [tab]
theorem tab_set (p : Nat) (f : Nat → Int) (i : Nat) (v : Int) : (tab p f).set i v = tab p fun j => if j = i then v else f j := by
  apply List.ext_getElem (by simp [tab])
  intro k h1 h2
  rw [List.getElem_set]
  by_cases hk : i = k
  · subst hk; simp [tab]
  · have : ¬ k = i := fun e => hk e.symm
    simp [tab, hk, this]
theorem tab_congr {p : Nat} {f g : Nat → Int} (h : ∀ i, i < p → f i = g i) : tab p f = tab p g := by
  unfold tab; apply List.map_congr_left; intro i hi; exact h i (by simpa using hi)
theorem tab_zero (p : Nat) : List.replicate p (0 : Int) = tab p fun _ => 0 := by
  apply List.ext_getElem (by simp [tab])
  intro k h1 h2; simp [tab]
/-- .. of truths -/
def tabB (p : Nat) (D : Nat → Bool) : List Value := (List.range p).map fun i => .bool (D i)
theorem tabB_at {p : Nat} {D : Nat → Bool} {i : Nat} (h : i < p) : (tabB p D)[i]? = some (.bool (D i)) := by
  unfold tabB; rw [List.getElem?_map, List.getElem?_range h]; rfl
theorem tabB_set (p : Nat) (D : Nat → Bool) (i : Nat) : (tabB p D).set i (.bool true) = tabB p fun j => D j || j == i := by
  apply List.ext_getElem (by simp [tabB])
  intro k h1 h2
  rw [List.getElem_set]
  by_cases hk : i = k
  · subst hk; simp [tabB]
  · have : ¬ k = i := fun e => hk e.symm
    simp [tabB, hk, this]
theorem tabB_zero (p : Nat) : List.replicate p (Value.bool false) = tabB p fun _ => false := by
  apply List.ext_getElem (by simp [tabB])
  intro k h1 h2; simp [tabB]

/-- the values of the points that are done -/
def dv (l : List Nat) (D : Nat → Bool) (j : Nat) : Int := if D j then mu l j else 0
theorem dv_bd (l : List Nat) (D : Nat → Bool) (j : Nat) : -117649 ≤ dv l D j ∧ dv l D j ≤ 117649 := by
  have := mu_bd l j
  unfold dv
  split <;> omega
/-- one and the values done -/
def tot (l : List Nat) (D : Nat → Bool) : Int := 1 + ((List.range l.length).map (dv l D)).sum
theorem tot_bd {l : List Nat} (h : l.length ≤ 6) (D : Nat → Bool) : -1000000 ≤ tot l D ∧ tot l D ≤ 1000000 := by
  have := sum_bd (L := List.range l.length) (f := dv l D) (B := 117649) fun x _ => dv_bd l D x
  rw [List.length_range] at this
  unfold tot
  omega
theorem tot_congr {l : List Nat} {D E : Nat → Bool} (h : ∀ j, j < l.length → D j = E j) : tot l D = tot l E := by
  unfold tot
  have : (List.range l.length).map (dv l D) = (List.range l.length).map (dv l E) := by
    apply List.map_congr_left
    intro j hj
    unfold dv; rw [h j (by simpa using hj)]
  rw [this]
theorem sum_upd (f : Nat → Int) (i : Nat) (a : Int) : ∀ p, i < p → ((List.range p).map fun j => if j = i then a else f j).sum = ((List.range p).map f).sum + (a - f i) := by
  intro p
  induction p with
  | zero => intro h; omega
  | succ p ih =>
    intro h
    rw [List.range_succ, List.map_append, List.map_append, List.sum_append, List.sum_append]
    by_cases hp : p = i
    · subst hp
      have : ((List.range p).map fun j => if j = p then a else f j) = (List.range p).map f := by
        apply List.map_congr_left
        intro j hj
        have : j < p := by simpa using hj
        have : ¬ j = p := by omega
        simp [this]
      rw [this]; simp; omega
    · rw [ih (by omega)]; simp [hp]; omega
theorem dv_add (l : List Nat) (D : Nat → Bool) (i : Nat) : (fun j => if j = i then mu l i else dv l D j) = dv l fun j => D j || j == i := by
  funext j
  unfold dv
  by_cases h : j = i
  · subst h; simp
  · simp [h]
theorem tot_add {l : List Nat} {D : Nat → Bool} {i : Nat} (hi : i < l.length) (h : D i = false) : tot l (fun j => D j || j == i) = tot l D + mu l i := by
  unfold tot
  rw [← dv_add, sum_upd _ _ _ _ hi]
  have : dv l D i = 0 := by unfold dv; simp [h]
  omega
theorem tot_zero (l : List Nat) : tot l (fun _ => false) = 1 := by
  unfold tot
  have : ((List.range l.length).map (dv l fun _ => false)).sum = 0 := by
    have := sum_bd (L := List.range l.length) (f := dv l fun _ => false) (B := 0) fun x _ => by simp [dv]
    omega
  omega

/-- one and the values of the first k of some points -/
def part (f : Nat → Int) (L : List Nat) (k : Nat) : Int := 1 + ((L.take k).map f).sum
theorem part_zero (f : Nat → Int) (L : List Nat) : part f L 0 = 1 := by simp [part]
theorem part_succ {f : Nat → Int} {L : List Nat} {k : Nat} (h : k < L.length) : part f L (k + 1) = part f L k + f (nthN L k) := by
  unfold part; rw [nthN_take L k h, List.map_append, List.sum_append]; simp; omega
theorem part_bd {f : Nat → Int} (L : List Nat) (hL : L.length ≤ 6) (hf : ∀ x ∈ L, -117649 ≤ f x ∧ f x ≤ 117649) (k : Nat) : -1000000 ≤ part f L k ∧ part f L k ≤ 1000000 := by
  have := sum_bd (L := L.take k) (f := f) (B := 117649) fun x hx => hf x (List.mem_of_mem_take hx)
  have h2 : (L.take k).length ≤ 6 := by rw [List.length_take]; omega
  unfold part
  omega
/-- .. of the points of a set below k -/
def partTo (f : Nat → Int) (s k : Nat) : Int := 1 + ((ptsTo s k).map f).sum
theorem partTo_zero (f : Nat → Int) (s : Nat) : partTo f s 0 = 1 := by simp [partTo, ptsTo]
theorem partTo_yes {f : Nat → Int} {s k : Nat} (h : s.testBit k = true) : partTo f s (k + 1) = partTo f s k + f k := by
  unfold partTo; rw [ptsTo_yes h, List.map_append, List.sum_append]; simp; omega
theorem partTo_no {f : Nat → Int} {s k : Nat} (h : s.testBit k = false) : partTo f s (k + 1) = partTo f s k := by
  unfold partTo; rw [ptsTo_no h]
theorem partTo_bd {f : Nat → Int} (s k : Nat) (hk : k ≤ 6) (hf : ∀ x, -117649 ≤ f x ∧ f x ≤ 117649) : -1000000 ≤ partTo f s k ∧ partTo f s k ≤ 1000000 := by
  have := sum_bd (L := ptsTo s k) (f := f) (B := 117649) fun x _ => hf x
  have h2 := ptsTo_len s k
  unfold partTo
  omega
theorem ptsTo_all {s p : Nat} (hs : s < 2 ^ p) (hp : p ≤ 6) : ptsTo s p = pts s := by
  have aux : ∀ d, ptsTo s (p + d) = ptsTo s p := by
    intro d
    induction d with
    | zero => rfl
    | succ d ih =>
      rw [← Nat.add_assoc, ptsTo_no (Nat.testBit_lt_two_pow (Nat.lt_of_lt_of_le hs (Nat.pow_le_pow_right (n := 2) (by omega) (by omega)))), ih]
  have := aux (6 - p)
  rw [show p + (6 - p) = 6 by omega] at this
  exact this.symm
/-- all the points of a set below k are done -/
def doneTo (D : Nat → Bool) (s k : Nat) : Bool := (ptsTo s k).all D
theorem doneTo_yes {D : Nat → Bool} {s k : Nat} (h : s.testBit k = true) : doneTo D s (k + 1) = (doneTo D s k && D k) := by
  unfold doneTo; rw [ptsTo_yes h, List.all_append]; simp
theorem doneTo_no {D : Nat → Bool} {s k : Nat} (h : s.testBit k = false) : doneTo D s (k + 1) = doneTo D s k := by
  unfold doneTo; rw [ptsTo_no h]
theorem mu_part {l : List Nat} (h : PosL l) {i : Nat} (hi : i < l.length) {f : Nat → Int} (hf : ∀ k, (nthN l i).testBit k = true → f k = mu l k) : mu l i = -(part f (pts (nthN l i)) (pts (nthN l i)).length) := by
  rw [mu_eq h hi]
  unfold part
  rw [List.take_length]
  have : (pts (nthN l i)).map f = (pts (nthN l i)).map (mu l) := List.map_congr_left fun k hk => hf k (mem_pts.1 hk).2
  rw [this]
theorem mu_partTo {l : List Nat} (h : PosL l) {i : Nat} (hi : i < l.length) {f : Nat → Int} (hf : ∀ k, (nthN l i).testBit k = true → f k = mu l k) : mu l i = -(partTo f (nthN l i) l.length) := by
  rw [mu_eq h hi]
  unfold partTo
  rw [ptsTo_all (h.2.1 i hi).1 h.1]
  have : (pts (nthN l i)).map f = (pts (nthN l i)).map (mu l) := List.map_congr_left fun k hk => hf k (mem_pts.1 hk).2
  rw [this]
end Go.Proofs.Ythijccgbkmappaa

/- Texts of this claim, one behind the other: what each says stands at its head. -/
import Derived.Deep.RegionWith
import Derived.Deep.RegionHeld3
import Derived.Deep.DeepCutAuto
import Derived.Test.YtihfhfihladlcaaGreatDoorAnti
import Derived.Test.YtihfhfihladlcaaGreatDoorBase
import Derived.Test.YtihfhfihladlcaaGreatDoorCore
import Derived.Test.YtihfhfihladlcaaGreatDoorIdeal
/- Contracts of what lists the faces of a complex: subsetFamily, facesIn, l3Has, FacesOf, topSize, bySize, FacesOfSize. -/
namespace Go.Proofs.YtihfhfihladlcaaGreatDoor
set_option maxRecDepth 20000
open Go.RowKit
set_option linter.unusedSimpArgs false
set_option linter.unusedVariables false

/-- the next subset below u -/
def nextOk (t u : Nat) : Bool := !(sub u t) || u == 0 || (sub ((u - 1) &&& t) t && decide ((u - 1) &&& t < u) && (List.range 64).all fun s => !(sub s t) || decide (u ≤ s) || decide (s ≤ (u - 1) &&& t))
theorem nextOk_all : ((List.range 64).all fun t => (List.range 64).all fun u => nextOk t u) = true := by decide +kernel
theorem next_sub (t : Nat) (ht : t < 64) (u : Nat) (hu : u < 64) (hut : sub u t = true) (h0 : 0 < u) : sub ((u - 1) &&& t) t = true ∧ (u - 1) &&& t < u ∧ ∀ s : Nat, s < 64 → sub s t = true → s < u → s ≤ (u - 1) &&& t := by
  have h := List.all_eq_true.1 (List.all_eq_true.1 nextOk_all t (List.mem_range.2 ht)) u (List.mem_range.2 hu)
  unfold nextOk at h
  have hu0 : (u == 0) = false := by simp; omega
  rw [hut, hu0] at h
  simp only [Bool.not_true, Bool.false_or, Bool.and_eq_true, decide_eq_true_eq, List.all_eq_true, List.mem_range, Bool.or_eq_true, Bool.not_eq_true'] at h
  refine ⟨h.1.1, h.1.2, fun s hs h1 h2 => ?_⟩
  rcases h.2 s hs with (h3 | h3) | h3
  · rw [h1] at h3; cases h3
  · omega
  · exact h3
theorem sub_step {t u s : Nat} (ht : t < 64) (hu : u < 64) (hut : sub u t = true) (h0 : 0 < u) (hs : s < 64) :
    ((sub s t && decide (u < s)) || s == u) = (sub s t && decide ((u - 1) &&& t < s)) := by
  obtain ⟨_, h2, h3⟩ := next_sub t ht u hu hut h0
  have h4 := h3 s hs
  rw [Bool.eq_iff_iff]
  simp only [Bool.or_eq_true, Bool.and_eq_true, decide_eq_true_eq, beq_iff_eq]
  constructor
  · rintro (⟨h, h'⟩ | rfl)
    · exact ⟨h, by omega⟩
    · exact ⟨hut, h2⟩
  · rintro ⟨h, h'⟩
    by_cases hsu : s < u
    · have := h4 h hsu; omega
    · by_cases e : s = u
      · exact .inr e
      · exact .inl ⟨h, by omega⟩
theorem sub_lastStep {t s : Nat} : ((sub s t && decide (0 < s)) || s == 0) = sub s t := by
  rw [Bool.eq_iff_iff]
  simp only [Bool.or_eq_true, Bool.and_eq_true, decide_eq_true_eq, beq_iff_eq]
  constructor
  · rintro (h | rfl)
    · exact h.1
    · unfold sub; simp
  · intro h
    by_cases e : s = 0
    · exact .inr e
    · exact .inl ⟨h, by omega⟩

/-- the faces of the complex with these facets -/
def isFace (l : List Nat) (s : Nat) : Bool := l.any fun t => sub s t

theorem subsetFamily_any (t : Nat) (w : World) (ht : t < 64) :
    Calls Tryz.prog 148 #[.int .i64 t] w fun e w' => e = .returned (.int .u64 (fam (sub · t))) ∧ w = w' := by
  go_enter Tryz.func148, Tryz.ntmps148
  go_wp2_with fail
  go_loop [3, 4] (fun F u => ∃ (x G : Nat), u = .int .i64 x ∧ F = .int .u64 G ∧ x < 64 ∧ sub x t = true ∧ G = fam fun s => sub s t && decide (x < s)) (fun _ u => (intOf u).toNat)
  case atStart =>
    refine ⟨t, 0, rfl, rfl, ht, sub_refl t, ?_⟩
    rw [← fam_zero]
    refine fam_congr fun s hs => ?_
    cases h : sub s t
    · rfl
    · have := sub_le h
      have h' : ¬ t < s := by omega
      simp [h']
  case round =>
    obtain ⟨x, G, rfl, rfl, hx, hxt, hG⟩ := hrel
    have hFG : Fam G := by rw [hG]; exact fam_Fam _
    have hor := w_or64bit G x hFG hx
    have hshl := w_shl64 x hx
    have HG := Lib.hid hG; clear hG
    have Hxt := Lib.hid hxt; clear hxt
    by_cases h0 : 0 < x
    · obtain ⟨y, hy⟩ : ∃ y, y = x - 1 := ⟨_, rfl⟩
      have hym : (x : Int) - 1 = (y : Int) := by omega
      have hand := w_and y t (by omega) ht
      have hnext := next_sub t ht x hx Hxt.out h0
      rw [← hy] at hnext
      have hne : ((x : Int) == 0) = false := by simp; omega
      have hx1 : (1 : Int) ≤ x := by omega
      have HY := Lib.hid hy; clear hy
      have HN := Lib.hid hnext; clear hnext
      go_wp2_with fail
      go_round
      case rel =>
        refine ⟨y &&& t, G ||| 2 ^ x, rfl, by first | rfl | (congr 1; push_cast; rfl), and_lt64 (by omega), HN.out.1, ?_⟩
        rw [HG.out, fam_or_bit _ hx]
        refine fam_congr fun s hs => ?_
        rw [HY.out]
        exact sub_step ht hx Hxt.out h0 hs
      case measure => have := HN.out.2.1; simp [intOf]; omega
    · obtain rfl : x = 0 := by omega
      go_wp2_with fail
      go_ret
      refine ⟨?_, rfl⟩
      have e : G ||| 2 ^ 0 = fam (sub · t) := by
        rw [HG.out, fam_or_bit _ hx]
        exact fam_congr fun s hs => sub_lastStep
      rw [← e]
      have hor' : bits .or .u64 (G : Int) 1 = ((G ||| 1 : Nat) : Int) := by simpa using hor
      simp [hor']
end Go.Proofs.YtihfhfihladlcaaGreatDoor

/- Plain laws of the flips and of the subdivision: what the program's families and the reference's lists have in common. -/
namespace Go.Proofs.YtihfhfihladlcaaGreatDoor
set_option maxRecDepth 20000
open Go.RowKit
set_option linter.unusedSimpArgs false
set_option linter.unusedVariables false

theorem isFace_iff {l : List Nat} {s : Nat} : isFace l s = true ↔ ∃ f ∈ l, sub s f = true := by unfold isFace; exact List.any_eq_true
theorem disj_bit {a b : Nat} (h : a &&& b = 0) (i : Nat) (ha : a.testBit i = true) : b.testBit i = false := by
  cases hb : b.testBit i with
  | false => rfl
  | true =>
    have : (a &&& b).testBit i = true := by rw [Nat.testBit_and, ha, hb]; rfl
    rw [h] at this; simp at this
theorem disj_of {a b : Nat} (h : ∀ i, a.testBit i = true → b.testBit i = false) : a &&& b = 0 := by
  apply Nat.eq_of_testBit_eq
  intro i
  rw [Nat.testBit_and]
  cases ha : a.testBit i with
  | false => simp
  | true => rw [h i ha]; simp
theorem sub_lt {a b N : Nat} (h : sub a b = true) (hb : b < N) : a < N := Nat.lt_of_le_of_lt (sub_le h) hb

/-- the faces of the link of s -/
def linkB (l : List Nat) (s x : Nat) : Bool := x &&& s == 0 && isFace l (x ||| s)
/-- the proper subsets of t -/
def propB (t x : Nat) : Bool := sub x t && x != t
/-- the facets around s without s -/
def linkL (l : List Nat) (s : Nat) : List Nat := (l.filter fun f => sub s f).map fun f => sdiff f s
def propL (t : Nat) : List Nat := (ord fun x => sub x t).filter fun x => x != t
theorem mem_linkL {l : List Nat} {s x : Nat} : x ∈ linkL l s ↔ ∃ f ∈ l, sub s f = true ∧ sdiff f s = x := by
  unfold linkL; simp [List.mem_map, List.mem_filter, and_assoc]
theorem mem_propL {t x : Nat} (ht : t < 64) : x ∈ propL t ↔ propB t x = true := by
  unfold propL propB
  rw [List.mem_filter, mem_ord, Bool.and_eq_true]
  exact ⟨fun ⟨⟨_, h⟩, h2⟩ => ⟨h, h2⟩, fun ⟨h, h2⟩ => ⟨⟨sub_lt h ht, h⟩, h2⟩⟩
theorem linkL_lt {l : List Nat} {s : Nat} (hl : ∀ f ∈ l, f < 64) : ∀ x ∈ linkL l s, x < 64 := fun x hx => by
  obtain ⟨f, hf, _, rfl⟩ := mem_linkL.1 hx
  exact sdiff_lt (hl f hf)
theorem propL_lt {t : Nat} : ∀ x ∈ propL t, x < 64 := fun x hx => ord_lt x (List.mem_filter.1 hx).1
/-- a face of the link lies in a facet of s without s -/
theorem link_up {l : List Nat} {s x : Nat} (hl : ∀ f ∈ l, f < 64) (hs : s < 64) (h : linkB l s x = true) : ∃ y, y ∈ linkL l s ∧ sub x y = true := by
  unfold linkB at h
  rw [Bool.and_eq_true, beq_iff_eq, isFace_iff] at h
  obtain ⟨h0, f, hf, hsub⟩ := h
  refine ⟨sdiff f s, mem_linkL.2 ⟨f, hf, sub_trans (sub_or_right x s) hsub, rfl⟩, ?_⟩
  rw [sub_iff]
  intro i hi
  rw [sdiff_testBit (hl f hf) hs, sub_iff.1 (sub_trans (sub_or_left x s) hsub) i hi, disj_bit h0 i hi]; rfl
theorem link_in {l : List Nat} {s x y : Nat} (hl : ∀ f ∈ l, f < 64) (hs : s < 64) (hy : y ∈ linkL l s) (h : sub x y = true) : linkB l s x = true := by
  obtain ⟨f, hf, hsf, rfl⟩ := mem_linkL.1 hy
  unfold linkB
  rw [Bool.and_eq_true, beq_iff_eq, isFace_iff]
  have hb : ∀ i, x.testBit i = true → f.testBit i = true ∧ s.testBit i = false := fun i hi => by
    have := sub_iff.1 h i hi
    rw [sdiff_testBit (hl f hf) hs] at this
    simpa using this
  exact ⟨disj_of fun i hi => (hb i hi).2, f, hf, or_sub (sub_iff.2 fun i hi => (hb i hi).1) hsf⟩
theorem prop_in {t x y : Nat} (hy : propB t y = true) (h : sub x y = true) : propB t x = true := by
  unfold propB at *
  rw [Bool.and_eq_true, bne_iff_ne] at *
  refine ⟨sub_trans h hy.1, fun e => hy.2 ?_⟩
  subst e
  exact sub_antisymm hy.1 h
theorem flip_same {l : List Nat} {s t : Nat} (hl : ∀ f ∈ l, f < 64) (hs : s < 64) (ht : t < 64) :
    maxL (linkL l s).contains = maxL (propL t).contains ↔ ∀ x, x < 64 → linkB l s x = propB t x := by
  constructor
  · intro h x hx
    rw [Bool.eq_iff_iff]
    constructor
    · intro hp
      obtain ⟨y, hy, hxy⟩ := link_up hl hs hp
      obtain ⟨z, hz, hyz⟩ := max_above (p := (linkL l s).contains) y (linkL_lt hl y hy) (by simpa using hy)
      rw [h] at hz
      have := (mem_maxL.1 hz).2.1
      rw [List.contains_iff_mem, mem_propL ht] at this
      exact prop_in this (sub_trans hxy hyz)
    · intro hq
      have hm := (mem_propL ht).2 hq
      obtain ⟨z, hz, hyz⟩ := max_above (p := (propL t).contains) x hx (by simpa using hm)
      rw [← h] at hz
      have := (mem_maxL.1 hz).2.1
      rw [List.contains_iff_mem] at this
      exact link_in hl hs this hyz
  · intro h
    refine maxL_eq (fun x hx hm => ?_) (fun x hx hm => ?_)
    · rw [List.contains_iff_mem] at hm
      have := link_in hl hs hm (sub_refl x)
      rw [h x hx] at this
      exact ⟨x, hx, by rw [List.contains_iff_mem, mem_propL ht]; exact this, sub_refl x⟩
    · rw [List.contains_iff_mem, mem_propL ht] at hm
      rw [← h x hx] at hm
      obtain ⟨y, hy, hxy⟩ := link_up hl hs hm
      exact ⟨y, linkL_lt hl y hy, by rw [List.contains_iff_mem]; exact hy, hxy⟩

/-- the flip may be made, but for purity and the sets being sets of the complex -/
def flipB (l : List Nat) (s t : Nat) : Bool := s != 0 && t != 0 && s &&& t == 0 && isFace l s && !isFace l t && (List.range 64).all fun x => linkB l s x == propB t x
theorem flipB_same {l : List Nat} {s t : Nat} : ((List.range 64).all fun x => linkB l s x == propB t x) = true ↔ ∀ x, x < 64 → linkB l s x = propB t x := by
  rw [List.all_eq_true]
  exact ⟨fun h x hx => eq_of_beq (h x (List.mem_range.2 hx)), fun h x hx => by rw [h x (List.mem_range.1 hx)]; exact beq_self_eq_true _⟩

/-- the faces after a flip, as the program makes them -/
def flipFam (l : List Nat) (m s t x : Nat) : Bool := (isFace l x && !sub s x) || (decide (x < 2 ^ m) && (sub x (s ||| t) && !sub s x))
/-- .. and the reference's sets -/
def flipL (l : List Nat) (s t : Nat) : List Nat := (ord (isFace l)).filter (fun f => !sub s f) ++ (propL s).map (· ||| t)
theorem flip_max {l : List Nat} {m s t : Nat} (hm : m ≤ 6) (hl : ∀ f ∈ l, f < 64) (hs : s < 2 ^ m) (ht : t < 2 ^ m) (hd : s &&& t = 0) : maxL (flipFam l m s t) = maxL (flipL l s t).contains := by
  have hs64 : s < 64 := Nat.lt_of_lt_of_le hs (pow_le64 hm)
  have ht64 : t < 64 := Nat.lt_of_lt_of_le ht (pow_le64 hm)
  refine maxL_eq (fun x hx hp => ?_) (fun x hx hp => ?_)
  · unfold flipFam at hp
    rw [Bool.or_eq_true, Bool.and_eq_true, Bool.and_eq_true, Bool.and_eq_true, decide_eq_true_eq] at hp
    rcases hp with ⟨h1, h2⟩ | ⟨h1, h2, h3⟩
    · refine ⟨x, hx, ?_, sub_refl x⟩
      rw [List.contains_iff_mem]; unfold flipL
      rw [List.mem_append, List.mem_filter, mem_ord]
      exact Or.inl ⟨⟨hx, h1⟩, h2⟩
    · refine ⟨(x &&& s) ||| t, or_lt64 (Nat.lt_of_le_of_lt Nat.and_le_right hs64) ht64, ?_, ?_⟩
      · rw [List.contains_iff_mem]; unfold flipL
        rw [List.mem_append, List.mem_map]
        refine Or.inr ⟨x &&& s, (mem_propL hs64).2 ?_, rfl⟩
        unfold propB
        rw [Bool.and_eq_true, bne_iff_ne]
        refine ⟨sub_iff.2 fun i hi => by rw [Nat.testBit_and] at hi; simp at hi; exact hi.2, fun e => ?_⟩
        have : sub s x = true := sub_iff.2 fun i hi => by rw [← e, Nat.testBit_and] at hi; simp at hi; exact hi.1
        rw [this] at h3; simp at h3
      · rw [sub_iff]
        intro i hi
        have := sub_iff.1 h2 i hi
        rw [Nat.testBit_or] at this
        rw [Nat.testBit_or, Nat.testBit_and, hi]
        simpa using this
  · rw [List.contains_iff_mem] at hp
    unfold flipL at hp
    rw [List.mem_append, List.mem_filter, mem_ord, List.mem_map] at hp
    refine ⟨x, hx, ?_, sub_refl x⟩
    unfold flipFam
    rw [Bool.or_eq_true, Bool.and_eq_true, Bool.and_eq_true, Bool.and_eq_true, decide_eq_true_eq]
    rcases hp with ⟨⟨_, h1⟩, h2⟩ | ⟨a, ha, rfl⟩
    · exact Or.inl ⟨h1, h2⟩
    · have hp := (mem_propL hs64).1 ha
      unfold propB at hp
      rw [Bool.and_eq_true, bne_iff_ne] at hp
      refine Or.inr ⟨or_lt_pow (sub_lt hp.1 hs) ht, ?_, ?_⟩
      · exact or_sub (sub_trans hp.1 (sub_or_left s t)) (sub_or_right s t)
      · rw [Bool.not_eq_true']
        cases h : sub s (a ||| t) with
        | false => rfl
        | true =>
          exfalso
          apply hp.2
          refine sub_antisymm hp.1 (sub_iff.2 fun i hi => ?_)
          have := sub_iff.1 h i hi
          rw [Nat.testBit_or, disj_bit hd i hi] at this
          simpa using this

/-! ### The subdivision -/
/-- the reference's sets for one facet: itself, or with the points of s below k one by one taken away -/
def starL (s v f k : Nat) : List Nat := (List.range k).flatMap fun i => if s.testBit i then [sdiff f (2 ^ i), sdiff f (2 ^ i) ||| v] else []
def divL (s v f : Nat) : List Nat := if sub s f then starL s v f 6 else [f]
def divAll (l : List Nat) (s v : Nat) : List Nat := l.flatMap (divL s v)
/-- the program's family -/
def divFam (l : List Nat) (s v x : Nat) : Bool := (isFace l x && !sub s x) || ((ord (linkB l s)).any fun b => (ord fun a => sub a s).any fun a => a != s && x == v ||| a ||| b)
theorem mem_starL {s v f k x : Nat} : x ∈ starL s v f k ↔ ∃ i, i < k ∧ s.testBit i = true ∧ (x = sdiff f (2 ^ i) ∨ x = sdiff f (2 ^ i) ||| v) := by
  unfold starL
  simp only [List.mem_flatMap, List.mem_range]
  constructor
  · rintro ⟨i, hi, h⟩
    split at h
    · rename_i hb
      exact ⟨i, hi, hb, by simpa using h⟩
    · cases h
  · rintro ⟨i, hi, hb, h⟩
    exact ⟨i, hi, by rw [if_pos hb]; simpa using h⟩
theorem bit_low {s i : Nat} (hs : s < 64) (h : s.testBit i = true) : i < 6 := by
  apply Classical.byContradiction
  intro hn
  have : s < 2 ^ i := Nat.lt_of_lt_of_le hs (Nat.pow_le_pow_right (n := 2) (by omega) (show 6 ≤ i by omega))
  rw [Nat.testBit_lt_two_pow this] at h; cases h
theorem sdiff_bit {f i j : Nat} (hf : f < 64) (hi : i < 6) : (sdiff f (2 ^ i)).testBit j = (f.testBit j && decide (i ≠ j)) := by
  rw [sdiff_testBit hf (bit_lt64 hi), Nat.testBit_two_pow]; simp
theorem not_sub {a b : Nat} (h : sub a b = false) : ∃ i, a.testBit i = true ∧ b.testBit i = false := by
  apply Classical.byContradiction
  intro hn
  have : sub a b = true := sub_iff.2 fun i hi => by
    cases hb : b.testBit i with
    | true => rfl
    | false => exact absurd ⟨i, hi, hb⟩ hn
  rw [this] at h; cases h
theorem div_max {l : List Nat} {m s : Nat} (hm : m ≤ 5) (hl : ∀ f ∈ l, f < 2 ^ m) (hs : s < 2 ^ m) : maxL (divFam l s (2 ^ m)) = maxL (divAll l s (2 ^ m)).contains := by
  have hm64 : 2 ^ m ≤ 64 := pow_le64 (by omega)
  have hv64 : 2 ^ m < 64 := Nat.lt_of_le_of_lt (Nat.pow_le_pow_right (n := 2) (by omega) hm) (by omega)
  have hs64 : s < 64 := by omega
  have hl64 : ∀ f ∈ l, f < 64 := fun f hf => by have := hl f hf; omega
  have hin : ∀ f ∈ l, ∀ x, x ∈ divL s (2 ^ m) f → (divAll l s (2 ^ m)).contains x = true := fun f hf x hx => by
    rw [List.contains_iff_mem]; exact List.mem_flatMap.2 ⟨f, hf, hx⟩
  refine maxL_eq (fun x hx hp => ?_) (fun x hx hp => ?_)
  · unfold divFam at hp
    rw [Bool.or_eq_true] at hp
    rcases hp with h | h
    · rw [Bool.and_eq_true, isFace_iff, Bool.not_eq_true'] at h
      obtain ⟨⟨f, hf, hxf⟩, hns⟩ := h
      by_cases hsf : sub s f = true
      · obtain ⟨i, hi, hxi⟩ := not_sub hns
        have hi6 := bit_low hs64 hi
        refine ⟨sdiff f (2 ^ i), sdiff_lt (hl64 f hf), hin f hf _ ?_, ?_⟩
        · unfold divL; rw [if_pos hsf]; exact mem_starL.2 ⟨i, hi6, hi, Or.inl rfl⟩
        · rw [sub_iff]
          intro j hj
          rw [sdiff_bit (hl64 f hf) hi6, sub_iff.1 hxf j hj]
          have : i ≠ j := fun e => by subst e; rw [hxi] at hj; cases hj
          simp [this]
      · exact ⟨f, hl64 f hf, hin f hf f (by unfold divL; rw [if_neg hsf]; simp), hxf⟩
    · obtain ⟨b, hb, h⟩ := List.any_eq_true.1 h
      obtain ⟨a, ha, h⟩ := List.any_eq_true.1 h
      rw [Bool.and_eq_true, bne_iff_ne, beq_iff_eq] at h
      obtain ⟨hne, rfl⟩ := h
      have hb := (mem_ord.1 hb).2
      have ha := (mem_ord.1 ha).2
      unfold linkB at hb
      rw [Bool.and_eq_true, beq_iff_eq, isFace_iff] at hb
      obtain ⟨h0, f, hf, hbf⟩ := hb
      have hns : sub s a = false := by
        cases h : sub s a with
        | false => rfl
        | true => exact absurd (sub_antisymm ha h) hne
      obtain ⟨i, hi, hai⟩ := not_sub hns
      have hi6 := bit_low hs64 hi
      have hsf : sub s f = true := sub_trans (sub_or_right b s) hbf
      refine ⟨sdiff f (2 ^ i) ||| 2 ^ m, or_lt64 (sdiff_lt (hl64 f hf)) hv64, hin f hf _ ?_, ?_⟩
      · unfold divL; rw [if_pos hsf]; exact mem_starL.2 ⟨i, hi6, hi, Or.inr rfl⟩
      · refine or_sub (or_sub (sub_or_right _ _) (sub_trans ?_ (sub_or_left _ _))) (sub_trans ?_ (sub_or_left _ _))
        · rw [sub_iff]
          intro j hj
          rw [sdiff_bit (hl64 f hf) hi6, sub_iff.1 hsf j (sub_iff.1 ha j hj)]
          have : i ≠ j := fun e => by subst e; rw [hai] at hj; cases hj
          simp [this]
        · rw [sub_iff]
          intro j hj
          rw [sdiff_bit (hl64 f hf) hi6, sub_iff.1 hbf j (by rw [Nat.testBit_or, hj]; rfl)]
          have : i ≠ j := fun e => by
            subst e
            have := disj_bit h0 i hj
            rw [hi] at this; cases this
          simp [this]
  · refine ⟨x, hx, ?_, sub_refl x⟩
    rw [List.contains_iff_mem] at hp
    obtain ⟨f, hf, hxf⟩ := List.mem_flatMap.1 hp
    unfold divFam
    rw [Bool.or_eq_true]
    unfold divL at hxf
    by_cases hsf : sub s f = true
    · rw [if_pos hsf] at hxf
      obtain ⟨i, hi6, hi, hx'⟩ := mem_starL.1 hxf
      rcases hx' with rfl | rfl
      · left
        rw [Bool.and_eq_true, isFace_iff, Bool.not_eq_true']
        refine ⟨⟨f, hf, sub_iff.2 fun j hj => ?_⟩, ?_⟩
        · rw [sdiff_bit (hl64 f hf) hi6] at hj; simp at hj; exact hj.1
        · cases h : sub s (sdiff f (2 ^ i)) with
          | false => rfl
          | true =>
            have := sub_iff.1 h i hi
            rw [sdiff_bit (hl64 f hf) hi6] at this
            simp at this
      · right
        refine List.any_eq_true.2 ⟨sdiff f s, mem_ord.2 ⟨sdiff_lt (hl64 f hf), link_in hl64 hs64 (mem_linkL.2 ⟨f, hf, hsf, rfl⟩) (sub_refl _)⟩, List.any_eq_true.2 ⟨sdiff s (2 ^ i), mem_ord.2 ⟨sdiff_lt hs64, ?_⟩, ?_⟩⟩
        · rw [sub_iff]; intro j hj; rw [sdiff_bit hs64 hi6] at hj; simp at hj; exact hj.1
        · rw [Bool.and_eq_true, bne_iff_ne, beq_iff_eq]
          refine ⟨fun e => ?_, ?_⟩
          · have := sdiff_bit (j := i) hs64 hi6
            rw [e, hi] at this; simp at this
          · apply Nat.eq_of_testBit_eq
            intro j
            rw [Nat.testBit_or, Nat.testBit_or, Nat.testBit_or, sdiff_bit (hl64 f hf) hi6, sdiff_bit hs64 hi6, sdiff_testBit (hl64 f hf) hs64]
            have h1 := sub_iff.1 hsf j
            cases hfj : f.testBit j <;> cases hsj : s.testBit j <;> by_cases hij : i = j <;> simp_all
    · rw [if_neg hsf, List.mem_singleton] at hxf
      subst hxf
      left
      rw [Bool.and_eq_true, isFace_iff, Bool.not_eq_true']
      exact ⟨⟨x, hf, sub_refl x⟩, by simpa using hsf⟩
end Go.Proofs.YtihfhfihladlcaaGreatDoor

/- Contracts of facesIn, l3Has, FacesOf. -/
namespace Go.Proofs.YtihfhfihladlcaaGreatDoor
set_option maxRecDepth 20000
open Go.RowKit
set_option linter.unusedSimpArgs false
set_option linter.unusedVariables false

/-- the family of the faces -/
def faceSet (l : List Nat) : Nat := fam (isFace l)
theorem faceSet_Fam (l : List Nat) : Fam (faceSet l) := fam_Fam _
theorem faceSet_bit {l : List Nat} {s : Nat} (hs : s < 64) : (faceSet l).testBit s = isFace l s := fam_at hs

theorem facesIn_any (p : Int) (a : Option Addr) (n c : Nat) (l : List Nat) (w : World) (h : IntsAt w a n (up l)) (hl : ∀ t ∈ l, t < 64) :
    Calls Tryz.prog 134 #[.agg #[.int .i64 p, .slice a n c]] w fun e w' => e = .returned (.int .u64 (faceSet l)) ∧ Below w.heap.size w w' := by
  have hn := h.small
  have hlen : l.length = n := by rw [← h.len, up_len]
  have Hlen := Lib.hid hlen; clear hlen
  have Hl := Lib.hid hl; clear hl
  have hx : IntsAt (w.alloc (.cells #[.int .i64 p, .slice a n c] 32)) a n (up l) := h.keep (by repeat (first | exact Below.refl _ _ | assumption | refine Below.setCell ?_ (by first | omega | (simp; done) | (simp; omega)) _ | refine Below.alloc ?_ (by first | omega | (simp; done) | (simp; omega)) _ | apply Below.drew))
  have Hx := Lib.hid hx; clear hx h
  go_enter Tryz.func134, Tryz.ntmps134
  go_wp2_with fail
  go_loop [3, 5, 9] (fun F _ i => ∃ k G : Nat, k ≤ n ∧ i = .int .i64 k ∧ F = .int .u64 G ∧ G = fam (isFace (l.take k))) (fun _ _ i => n - (intOf i).toNat)
  case atStart => exact ⟨0, 0, Nat.zero_le _, rfl, rfl, by rw [← fam_zero]; rfl⟩
  case round =>
    obtain ⟨k, G, hk, rfl, rfl, hG⟩ := hrel
    by_cases hlt : k < n
    · obtain ⟨b1, o1, rfl, hc⟩ := Hx.out.cells (by omega)
      have hck := hc k hlt
      rw [nth_up] at hck
      have ht := Hl.out _ (nthN_mem (xs := l) (k := k) (by rw [Hlen.out]; exact hlt))
      have htk : l.take (k + 1) = l.take k ++ [nthN l k] := nthN_take l k (by rw [Hlen.out]; exact hlt)
      obtain ⟨t, hte⟩ : ∃ t, t = nthN l k := ⟨_, rfl⟩
      rw [← hte] at hck ht htk
      have hFG : Fam G := by rw [hG]; exact fam_Fam _
      have hor := w_or64 G (fam (sub · t)) hFG (fam_Fam _)
      have hnew : G ||| fam (sub · t) = fam (isFace (l.take (k + 1))) := by
        rw [hG, fam_or]
        refine fam_congr fun s _ => ?_
        unfold isFace
        rw [htk, List.any_append]; simp
      obtain ⟨S, hS⟩ : ∃ S, S = fam (sub · t) := ⟨_, rfl⟩
      rw [← hS] at hor hnew
      have HS := Lib.hid hS; have Hnew := Lib.hid hnew
      clear hc hte htk hG hS hnew
      go_wp2_with (go_at_call 148; refine (subsetFamily_any t _ ht).mono ?_; rw [← HS.out]; rintro e we ⟨rfl, rfl⟩)
      go_round
      case rel => exact ⟨k + 1, G ||| S, by omega, by go_num, rfl, Hnew.out⟩
      case measure => simp [intOf]; omega
    · obtain rfl : k = n := by omega
      have hGe : G = faceSet l := by rw [hG, ← Hlen.out, List.take_length]; rfl
      have HG := Lib.hid hGe
      clear hG hGe
      go_wp2_with fail
      go_ret
      exact ⟨by rw [HG.out]; rfl, (by repeat (first | exact Below.refl _ _ | assumption | refine Below.setCell ?_ (by first | omega | (simp; done) | (simp; omega)) _ | refine Below.alloc ?_ (by first | omega | (simp; done) | (simp; omega)) _ | apply Below.drew))⟩

theorem l3Has_any (p : Int) (s : Nat) (a : Option Addr) (n c : Nat) (l : List Nat) (w : World) (h : IntsAt w a n (up l)) (hs : s < 64) (hl : ∀ t ∈ l, t < 64) (b : Bool) (hb : isFace l s = b) :
    Calls Tryz.prog 156 #[.agg #[.int .i64 p, .slice a n c], .int .i64 s] w fun e w' => e = .returned (.bool b) ∧ Below w.heap.size w w' := by
  have hn := h.small
  have hlen : l.length = n := by rw [← h.len, up_len]
  have Hlen := Lib.hid hlen; clear hlen
  have Hl := Lib.hid hl; clear hl
  have Hb := Lib.hid hb; clear hb
  have hx : IntsAt (w.alloc (.cells #[.int .i64 p, .slice a n c] 32)) a n (up l) := h.keep (by repeat (first | exact Below.refl _ _ | assumption | refine Below.setCell ?_ (by first | omega | (simp; done) | (simp; omega)) _ | refine Below.alloc ?_ (by first | omega | (simp; done) | (simp; omega)) _ | apply Below.drew))
  have Hx := Lib.hid hx; clear hx h
  go_enter Tryz.func156, Tryz.ntmps156
  go_wp2_with fail
  go_loop [5] (fun i => ∃ k : Nat, k ≤ n ∧ i = .int .i64 k ∧ Hid (∀ j, j < k → sub s (nthN l j) = false)) (fun i => n - (intOf i).toNat)
  case atStart => exact ⟨0, Nat.zero_le _, rfl, Lib.hid fun j hj => absurd hj (Nat.not_lt_zero _)⟩
  case round =>
    obtain ⟨k, hk, rfl, hok⟩ := hrel
    by_cases hlt : k < n
    · obtain ⟨b1, o1, rfl, hc⟩ := Hx.out.cells (by omega)
      have hck := hc k hlt
      rw [nth_up] at hck
      have ht := Hl.out _ (nthN_mem (xs := l) (k := k) (by rw [Hlen.out]; exact hlt))
      obtain ⟨t, hte⟩ : ∃ t, t = nthN l k := ⟨_, rfl⟩
      rw [← hte] at hck ht
      have Hte := Lib.hid hte
      have hand := w_and t s ht hs
      have hst : (((t &&& s : Nat) : Int) == (s : Int)) = sub s t := by rw [castBeq]; unfold sub; rw [Nat.and_comm]
      clear hc hte
      cases hsb : sub s t
      · rw [hsb] at hst
        have Hsb := Lib.hid hsb; clear hsb
        go_wp2_with fail
        go_round
        case rel =>
          refine ⟨k + 1, by omega, by go_num, Lib.hid fun j hj => ?_⟩
          rcases Nat.lt_or_ge j k with h | h
          · exact hok.out j h
          · obtain rfl : j = k := by omega
            rw [← Hte.out]; exact Hsb.out
        case measure => simp [intOf]; omega
      · rw [hsb] at hst
        have hbt : b = true := by
          rw [← Hb.out]; exact any_yes (j := k) (by rw [Hlen.out]; exact hlt) (by rw [← Hte.out]; exact hsb)
        clear hsb
        subst hbt
        go_wp2_with fail
        go_ret
        exact ⟨rfl, (by repeat (first | exact Below.refl _ _ | assumption | refine Below.setCell ?_ (by first | omega | (simp; done) | (simp; omega)) _ | refine Below.alloc ?_ (by first | omega | (simp; done) | (simp; omega)) _ | apply Below.drew))⟩
    · obtain rfl : k = n := by omega
      have hkk : ¬ ((k : Int) < k) := by omega
      have hbt : b = false := by rw [← Hb.out]; exact any_no fun j hj => hok.out j (by rw [← Hlen.out]; exact hj)
      subst hbt
      go_wp2_with fail
      go_ret
      exact ⟨rfl, (by repeat (first | exact Below.refl _ _ | assumption | refine Below.setCell ?_ (by first | omega | (simp; done) | (simp; omega)) _ | refine Below.alloc ?_ (by first | omega | (simp; done) | (simp; omega)) _ | apply Below.drew))⟩

theorem sFacesOf_no (p : Int) (a : Option Addr) (n c : Nat) (xs : List Int) (w : World) (h : IntsAt w a n xs) (hno : ¬ Anti p xs) :
    Calls Tryz.prog 135 #[.agg #[.int .i64 p, .slice a n c]] w (RetInts w []) := by
  have Hx := Lib.hid h; clear h
  have Hno := Lib.hid hno; clear hno
  go_enter Tryz.func135, Tryz.ntmps135
  go_wp2_with fail
  go_loopw [3, 4] (fun f i wr => i = .int .i64 0 ∧ Below (w.heap.size + 1) (w.alloc (.cells #[.int .i64 p, .slice a n c] 32)) wr ∧ ∃ ad d, f = .slice ad 0 d ∧ Own 3 wr (w.heap.size + 1) ad 0 d (up [])) (fun _ _ _ => 0)
  case atStart => exact ⟨rfl, (by repeat (first | exact Below.refl _ _ | assumption | refine Below.setCell ?_ (by first | omega | (simp; done) | (simp; omega)) _ | refine Below.alloc ?_ (by first | omega | (simp; done) | (simp; omega)) _ | apply Below.drew)), _, 0, rfl, by have := Own.empty 3 (w.alloc (.cells #[.int .i64 p, .slice a n c] 32)) (w.heap.size + 1) (by simp); simp only [World.size_alloc] at this; exact this⟩
  case round =>
    obtain ⟨rfl, hb, ad, d, rfl, hown⟩ := hrel
    obtain ⟨hc0, hc1⟩ := box2 hb
    have hz : w.heap.size + 1 ≤ wr.heap.size := by have := hb.size; simpa using this
    have HB := Lib.hid hb; have HO := Lib.hid hown
    clear hb hown
    go_wp2_with fail
    refine (sIsComplex_any p a n c xs _ (Hx.out.box HB.out) false (by simp [Hno.out])).mono ?_
    rintro e w1 ⟨rfl, hb⟩
    have HO1 := Lib.hid (HO.out.keep hb)
    have HB1 := Lib.hid (HB.out.trans (hb.mono hz))
    have hz1 : w.heap.size + 1 ≤ w1.heap.size := by have := hb.size; omega
    clear hb
    go_wp2_with fail
    refine (l2Order_any ad 0 d [] _ HO1.out.reads (by simp)).mono ?_
    rintro e w2 ⟨ad2, m2, d2, rfl, hown, hb⟩
    have HB2 := Lib.hid (HB1.out.trans (hb.mono hz1)); have HO2 := Lib.hid (hown.mono (show w.heap.size ≤ _ by omega))
    clear hb hown
    go_wp2_with fail
    go_ret
    refine ⟨ad2, m2, d2, rfl, ?_, box_below HB2.out⟩
    have e : up (ord (List.contains [])) = [] := by
      have : ord (List.contains ([] : List Nat)) = [] := by rw [ord_filter]; simp
      rw [this]; rfl
    rw [← e]; exact HO2.out
set_option maxHeartbeats 1000000 in
theorem sFacesOf_yes (p : Int) (a : Option Addr) (n c : Nat) (l : List Nat) (w : World) (h : IntsAt w a n (up l)) (hA : Anti p (up l)) (hl : ∀ t ∈ l, t < 64) :
    Calls Tryz.prog 135 #[.agg #[.int .i64 p, .slice a n c]] w (RetInts w (up (ord (isFace l)))) := by
  have hx : IntsAt (w.alloc (.cells #[.int .i64 p, .slice a n c] 32)) a n (up l) := h.keep (by repeat (first | exact Below.refl _ _ | assumption | refine Below.setCell ?_ (by first | omega | (simp; done) | (simp; omega)) _ | refine Below.alloc ?_ (by first | omega | (simp; done) | (simp; omega)) _ | apply Below.drew))
  have Hx := Lib.hid hx; clear hx h
  have HA := Lib.hid hA; clear hA
  have Hl := Lib.hid hl; clear hl
  go_enter Tryz.func135, Tryz.ntmps135
  go_wp2_with fail
  go_loopw [3, 4] (fun f i wr => ∃ I : Nat, I ≤ 64 ∧ i = .int .i64 I ∧ Below (w.heap.size + 1) (w.alloc (.cells #[.int .i64 p, .slice a n c] 32)) wr ∧ ∃ ad k d, f = .slice ad k d ∧ k ≤ I ∧ Own 3 wr (w.heap.size + 1) ad k d (up (lst (isFace l) I))) (fun _ i _ => 64 - (intOf i).toNat)
  case atStart => exact ⟨0, by omega, rfl, (by repeat (first | exact Below.refl _ _ | assumption | refine Below.setCell ?_ (by first | omega | (simp; done) | (simp; omega)) _ | refine Below.alloc ?_ (by first | omega | (simp; done) | (simp; omega)) _ | apply Below.drew)), _, 0, 0, rfl, by omega, by have := Own.empty 3 (w.alloc (.cells #[.int .i64 p, .slice a n c] 32)) (w.heap.size + 1) (by simp); simp only [World.size_alloc] at this; exact this⟩
  case round =>
    obtain ⟨I, hI, rfl, hb, ad, k, d, rfl, hk, hown⟩ := hrel
    obtain ⟨hc0, hc1⟩ := box2 hb
    have hz : w.heap.size + 1 ≤ wr.heap.size := by have := hb.size; simpa using this
    have HB := Lib.hid hb; have HO := Lib.hid hown
    have Hx1 := Lib.hid (Hx.out.keep (by simpa using hb))
    clear hb hown
    by_cases hlt : I < 64
    · go_wp2_with fail
      refine (sIsComplex_any p a n c _ _ Hx1.out true (by simp [HA.out])).mono ?_
      rintro e w1 ⟨rfl, hb⟩
      have HO1 := Lib.hid (HO.out.keep hb)
      have HB1 := Lib.hid (HB.out.trans (hb.mono hz))
      have hz1 : w.heap.size + 1 ≤ w1.heap.size := by have := hb.size; omega
      have Hx2 := Lib.hid (Hx1.out.keep hb)
      obtain ⟨hd0, hd1⟩ := box2 HB1.out
      clear hb hc0 hc1
      obtain ⟨b, hbe⟩ : ∃ b, isFace l I = b := ⟨_, rfl⟩
      have Hbe := Lib.hid hbe; clear hbe
      go_wp2_with fail
      refine (l3Has_any p I a n c l _ Hx2.out hlt Hl.out b Hbe.out).mono ?_
      rintro e w2 ⟨rfl, hb⟩
      have HO2 := Lib.hid (HO1.out.keep hb)
      have HB2 := Lib.hid (HB1.out.trans (hb.mono hz1))
      have hz2 : w.heap.size + 1 ≤ w2.heap.size := by have := hb.size; omega
      clear hb
      cases b
      · go_wp2_with fail
        go_roundw
        case rel => exact ⟨I + 1, by omega, by go_num, HB2.out, ad, k, d, rfl, by omega, by rw [lst_no Hbe.out]; exact HO2.out⟩
        case measure => simp [intOf]; omega
      · go_wp2_with (at_builtin; refine ap rfl _ _ rfl (w.heap.size + 1) _ _ _ _ _ rfl HO2.out rfl (by omega) hz2 ?_; intro ad' d' w' hown' hb'; have HO3 := Lib.hid hown'; have HB3 := Lib.hid hb'; clear hown' hb')
        go_roundw
        case rel => exact ⟨I + 1, by omega, by go_num, HB2.out.trans HB3.out, ad', k + 1, d', rfl, by omega, by rw [lst_yes Hbe.out, up_append]; exact HO3.out⟩
        case measure => simp [intOf]; omega
    · obtain rfl : I = 64 := by omega
      go_wp2_with fail
      refine (l2Order_any ad k d (lst (isFace l) 64) _ HO.out.reads (fun s hs => (mem_lst.1 hs).1)).mono ?_
      rintro e w2 ⟨ad2, m2, d2, rfl, hown, hb⟩
      have HB2 := Lib.hid (HB.out.trans (hb.mono hz)); have HO2 := Lib.hid (hown.mono (show w.heap.size ≤ _ by omega))
      clear hb hown
      go_wp2_with fail
      go_ret
      refine ⟨ad2, m2, d2, rfl, ?_, box_below HB2.out⟩
      have e : ord (isFace l) = ord (lst (isFace l) 64).contains := ord_congr fun s hs => by rw [lst_has]; simp [hs]
      rw [e]; exact HO2.out

end Go.Proofs.YtihfhfihladlcaaGreatDoor

/- Plain laws of LeftMonomials: the lists of exponents, their support, and a choice out of a list of lists. -/
namespace Go.Proofs.YtihfhfihladlcaaGreatDoor
set_option maxRecDepth 20000
open Go.RowKit
set_option linter.unusedSimpArgs false
set_option linter.unusedVariables false

/-- all lists that go on from h with r + 1 exponents of sum d -/
def monoL : Nat → List Int → Nat → List (List Int)
  | 0, h, d => [h ++ [(d : Int)]]
  | r + 1, h, d => (List.range (d + 1)).flatMap fun i => monoL r (h ++ [((d - i : Nat) : Int)]) i
/-- .. with the first k choices for the next exponent -/
def monoTo (r : Nat) (h : List Int) (d k : Nat) : List (List Int) := (List.range k).flatMap fun i => monoL r (h ++ [((d - i : Nat) : Int)]) i
theorem monoTo_succ (r : Nat) (h : List Int) (d k : Nat) : monoTo r h d (k + 1) = monoTo r h d k ++ monoL r (h ++ [((d - k : Nat) : Int)]) k := by
  unfold monoTo; rw [List.range_succ, List.flatMap_append]; simp
theorem monoTo_all (r : Nat) (h : List Int) (d : Nat) : monoTo r h d (d + 1) = monoL (r + 1) h d := rfl
theorem monoTo_up (r : Nat) (h : List Int) (d : Nat) : ∀ k j, k ≤ j → (monoTo r h d k).length ≤ (monoTo r h d j).length := by
  intro k j hkj
  induction hkj with
  | refl => exact Nat.le_refl _
  | @step m _ ih =>
    show _ ≤ (monoTo r h d (m + 1)).length
    rw [monoTo_succ, List.length_append]; omega
theorem monoL_each {r : Nat} : ∀ {h : List Int} {d : Nat}, (∀ i, 0 ≤ nth h i ∧ nth h i ≤ 5) → d ≤ 5 → ∀ e ∈ monoL r h d, e.length = h.length + r + 1 ∧ ∀ i, 0 ≤ nth e i ∧ nth e i ≤ 5 := by
  have snoc : ∀ {h : List Int} {x : Int}, (∀ i, 0 ≤ nth h i ∧ nth h i ≤ 5) → 0 ≤ x → x ≤ 5 → ∀ i, 0 ≤ nth (h ++ [x]) i ∧ nth (h ++ [x]) i ≤ 5 := by
    intro h x hh h0 h5 i
    by_cases hi : i < h.length
    · have e : nth (h ++ [x]) i = nth h i := by rw [nth_eq (by simp; omega), nth_eq hi, List.getElem_append_left hi]
      rw [e]; exact hh i
    · by_cases hi2 : i = h.length
      · subst hi2
        have e : nth (h ++ [x]) h.length = x := by rw [nth_eq (by simp)]; simp
        rw [e]; omega
      · have e : nth (h ++ [x]) i = 0 := by
          unfold nth
          rw [List.getD_eq_getElem?_getD, List.getElem?_eq_none (by simp; omega)]; rfl
        rw [e]; omega
  induction r with
  | zero =>
    intro h d hh hd e he
    unfold monoL at he
    rw [List.mem_singleton] at he
    subst he
    exact ⟨by simp, snoc hh (by omega) (by omega)⟩
  | succ r ih =>
    intro h d hh hd e he
    unfold monoL at he
    obtain ⟨i, hi, he⟩ := List.mem_flatMap.1 he
    have hi := List.mem_range.1 hi
    obtain ⟨h1, h2⟩ := ih (snoc hh (by omega) (by omega)) (by omega) e he
    exact ⟨by rw [h1]; simp; omega, h2⟩
theorem monoL_len : ∀ r, r ≤ 5 → ∀ d, d ≤ 5 → ∀ h : List Int, (monoL r h d).length ≤ 6 ^ r := by
  intro r
  induction r with
  | zero => intro _ d _ h; simp [monoL]
  | succ r ih =>
    intro hr d hd h
    unfold monoL
    have key : ∀ k, k ≤ d + 1 → ((List.range k).flatMap fun i => monoL r (h ++ [((d - i : Nat) : Int)]) i).length ≤ k * 6 ^ r := by
      intro k
      induction k with
      | zero => intro _; simp
      | succ k ihk =>
        intro hk
        rw [List.range_succ, List.flatMap_append, List.length_append, Nat.succ_mul]
        have h1 := ihk (by omega)
        have h2 := ih (by omega) k (by omega) (h ++ [((d - k : Nat) : Int)])
        simp only [List.flatMap_cons, List.flatMap_nil, List.append_nil]
        omega
    have h1 := key (d + 1) (Nat.le_refl _)
    have h2 : (d + 1) * 6 ^ r ≤ 6 * 6 ^ r := Nat.mul_le_mul_right _ (by omega)
    rw [Nat.pow_succ, Nat.mul_comm]
    omega

/-- the points with an exponent above 0, below k -/
def suppTo (e : List Int) : Nat → Nat
  | 0 => 0
  | k + 1 => if 0 < nth e k then suppTo e k ||| 2 ^ k else suppTo e k
theorem suppTo_yes {e : List Int} {k : Nat} (h : 0 < nth e k) : suppTo e (k + 1) = suppTo e k ||| 2 ^ k := by simp [suppTo, h]
theorem suppTo_no {e : List Int} {k : Nat} (h : ¬ 0 < nth e k) : suppTo e (k + 1) = suppTo e k := by simp [suppTo, h]
theorem suppTo_lt (e : List Int) : ∀ k, suppTo e k < 2 ^ k := by
  intro k
  induction k with
  | zero => simp [suppTo]
  | succ k ih =>
    have h2 : 2 ^ (k + 1) = 2 * 2 ^ k := by rw [Nat.pow_succ]; omega
    by_cases h : 0 < nth e k
    · rw [suppTo_yes h]
      exact Nat.or_lt_two_pow (Nat.lt_of_lt_of_le ih (by omega)) (by omega)
    · rw [suppTo_no h]; omega
def suppOf (e : List Int) : Nat := suppTo e e.length

/-! ### A choice out of a list of lists -/
def pickI (P : List Int → Bool) (L : List (List Int)) (k : Nat) : List Nat := (List.range k).filter fun i => P (nthL L i)
theorem pickI_yes {P : List Int → Bool} {L : List (List Int)} {k : Nat} (h : P (nthL L k) = true) : pickI P L (k + 1) = pickI P L k ++ [k] := by
  unfold pickI; rw [List.range_succ, List.filter_append]; simp [h]
theorem pickI_no {P : List Int → Bool} {L : List (List Int)} {k : Nat} (h : P (nthL L k) = false) : pickI P L (k + 1) = pickI P L k := by
  unfold pickI; rw [List.range_succ, List.filter_append]; simp [h]
theorem pickI_lt {P : List Int → Bool} {L : List (List Int)} {k : Nat} : ∀ i ∈ pickI P L k, i < k := fun i hi => List.mem_range.1 (List.mem_filter.1 hi).1
theorem pickI_len (P : List Int → Bool) (L : List (List Int)) (k : Nat) : (pickI P L k).length ≤ k := by unfold pickI; exact Nat.le_trans (List.length_filter_le _ _) (by simp)
theorem pickI_nodup (P : List Int → Bool) (L : List (List Int)) (k : Nat) : (pickI P L k).Nodup := by unfold pickI; exact List.Pairwise.filter _ List.nodup_range
/-- the lists chosen out of all -/
def pickL (P : List Int → Bool) (L : List (List Int)) : List (List Int) := (pickI P L L.length).map (nthL L)
theorem pickL_mem {P : List Int → Bool} {L : List (List Int)} : ∀ e ∈ pickL P L, e ∈ L := fun e he => by
  obtain ⟨i, hi, rfl⟩ := List.mem_map.1 he
  have := pickI_lt i hi
  rw [nthL_at this]; exact List.getElem_mem this
theorem pickL_congr {P Q : List Int → Bool} {L : List (List Int)} (h : ∀ e ∈ L, P e = Q e) : pickL P L = pickL Q L := by
  unfold pickL pickI
  congr 1
  exact List.filter_congr fun i hi => h _ (by rw [nthL_at (List.mem_range.1 hi)]; exact List.getElem_mem _)
/-- rows chosen out of a list of lists, handed out in an outer row of its own -/
theorem O2.choose {w : World} {B U U' : Nat} {a a' : Option Addr} {n c n' c' : Nat} {f : Nat → Sl} {L : List (List Int)} (h : O2 w B U a n c f L) (I : List Nat) (hI : ∀ i ∈ I, i < n) (hnd : I.Nodup)
    (hrow : Row 24 w B a' n' c' (I.map fun i => (f i).val)) (hfar : ∀ i, i < n → ∀ b d, (f i).1 = some b → a' = some d → b.block ≠ d.block) (hU : U ≤ U') (ha : ∀ d, a' = some d → d.block < U') :
    Own2 w B U' a' n' c' (I.map (nthL L)) := by
  have hl : I.length = n' := by have := hrow.len; simpa using this
  have hat : ∀ j, j < n' → nthN I j ∈ I := fun j hj => nthN_mem (by omega)
  refine ⟨fun j => f (nthN I j), by simpa using hl, ?_, fun j hj => ?_, fun j hj b d hb hd => hfar _ (hI _ (hat j hj)) b d hb hd, fun i j hi hj hij b d hb hd => ?_, ha, fun j hj b hb => Nat.lt_of_lt_of_le (h.his _ (hI _ (hat j hj)) b hb) hU⟩
  · have e : (List.range n').map (fun j => (f (nthN I j)).val) = I.map fun i => (f i).val := by
      apply List.ext_getElem (by simp [hl])
      intro j h1 h2
      have hj : j < I.length := by simpa using h2
      simp [nthN_eq hj]
    rw [e]; exact hrow
  · have e : nthL (I.map (nthL L)) j = nthL L (nthN I j) := by
      rw [nthL_at (by simpa [hl] using hj), List.getElem_map, ← nthN_eq (by omega)]
    rw [e]; exact h.own _ (hI _ (hat j hj))
  · refine h.apart _ _ (hI _ (hat i hi)) (hI _ (hat j hj)) (fun e => hij ?_) b d hb hd
    rw [nthN_eq (by omega), nthN_eq (by omega)] at e
    exact (List.getElem_inj hnd).1 e
end Go.Proofs.YtihfhfihladlcaaGreatDoor

/- The append of an owned list to a list of lists, in a plain region and in one that draws its order; the reference's l12Fill. -/
namespace Go.Proofs.YtihfhfihladlcaaGreatDoor
set_option maxRecDepth 20000
open Go.RowKit
set_option linter.unusedSimpArgs false
set_option linter.unusedVariables false

theorem Own2.up' {w : World} {B U U' : Nat} {a : Option Addr} {n c : Nat} {L : List (List Int)} (h : Own2 w B U a n c L) (hU : U ≤ U') : Own2 w B U' a n c L := by
  obtain ⟨f, h⟩ := h
  exact ⟨f, h.up hU⟩
theorem run_ap_l {W : World} (B ty : Nat) (ad : Option Addr) (n c : Nat) (vs : List Value) (hown : Row 24 W B ad n c vs) (g : Addr) (y : Value) (hcell : W.cell? g = some y) (hy : y.oneCell' = true)
    (hn : n < 1099511627776) (hB : B ≤ W.heap.size) :
    ∃ ad' c' w', (Builtin.append_ #[113, 113] ty #[.slice ad n c, .slice (some g) 1 1]).run Tryz.prog W = .ok (.slice ad' (n + 1 : Nat) c') w' ∧ Row 24 w' B ad' (n + 1) c' (vs ++ [y]) ∧ W.grownBy w' (Value.slice ad n c).ownBlock ∧
      (∀ b, ad' = some b → (∃ d, ad = some d ∧ b.block = d.block) ∨ W.heap.size ≤ b.block) := by
  obtain ⟨i0, hi, hz0, hz1, hz2⟩ := info_parts infoInts
  obtain ⟨v', w', hr, h2, h3, h4, h5⟩ := run_append_own_at (P := Tryz.prog) W B 113 ty 24 i0 (.slice none 0 0) 1 24 Tryz.underlying113 hi hz0 hz1 hz2 rfl (by decide) (.slice ad n c) n _ hown.row g 1 1 [y] (by simp)
    (fun j u hj => by
      match j, hj with
      | 0, hj => simp at hj; subst hj; simpa [Addr.add] using hcell) (fun u hu => by simp at hu; subst hu; exact hy) (by unfold maxLen; omega) (by omega) hB
  have hv : ∃ ad' c', v' = .slice ad' (n + 1) c' := by
    rcases h2.2 with ⟨_, h0⟩ | ⟨g, cap, cur, hv, _⟩
    · omega
    · exact ⟨_, _, hv⟩
  obtain ⟨ad', c', rfl⟩ := hv
  refine ⟨ad', c', w', hr, ⟨by simp [hown.len], h2⟩, h3, fun b hb => ?_⟩
  subst hb
  rcases h5 with h5 | h5
  · obtain ⟨d, hd, hdb⟩ := ownBlock_some h5.symm
    exact .inl ⟨d, hd, hdb.symm⟩
  · right
    have : b.block = W.heap.size := by simpa [Value.ownBlock] using h5
    omega
/-- what an append of an owned row leaves of a list of lists -/
theorem O2.snoc {w0 W w' : World} {B : Nat} {ad ad' : Option Addr} {n c c' : Nat} {f : Nat → Sl} {L : List (List Int)} (h : O2 w0 B w0.heap.size ad n c f L) (hB : B ≤ w0.heap.size) (x : Sl) (xs : List Int)
    (hsz : w0.heap.size ≤ W.heap.size) (hW : ∀ k, k < w0.heap.size → W.heap[k]? = w0.heap[k]?) (hx : Own 3 W B x.1 x.2.1 x.2.2 xs) (hnew : ∀ b, x.1 = some b → w0.heap.size ≤ b.block)
    (hrow : Row 24 w' B ad' (n + 1) c' (((List.range n).map fun i => (f i).val) ++ [x.val])) (hg : W.grownBy w' (Value.slice ad n c).ownBlock) (hloc : ∀ b, ad' = some b → (∃ d, ad = some d ∧ b.block = d.block) ∨ W.heap.size ≤ b.block) :
    Own2 w' B w'.heap.size ad' (n + 1) c' (L ++ [xs]) := by
  have hll := h.len
  have hout : ∀ k, (Value.slice ad n c).ownBlock = some k → k < w0.heap.size := fun k hk => (h.row.lt k hk).2
  have hxl : ∀ b, x.1 = some b → b.block < W.heap.size := fun b hb => (hx.lt b.block (by rw [hb]; rfl)).2
  have hold : ∀ i, i < n → Own 3 w' B (f i).1 (f i).2.1 (f i).2.2 (nthL L i) := fun i hi => by
    have h1 : Own 3 W B (f i).1 (f i).2.1 (f i).2.2 (nthL L i) := Row.other (h.own i hi) fun g hag hl => hW g hl
    refine h1.grownNe hg fun k hk k2 hk2 e => ?_
    obtain ⟨b, hb1, hb2⟩ := ownBlock_some hk2
    obtain ⟨d, hd1, hd2⟩ := ownBlock_some hk
    exact h.far i hi b d hb1 hd1 (by omega)
  have hxn : Own 3 w' B x.1 x.2.1 x.2.2 xs := hx.grownNe hg fun k hk k2 hk2 e => by
    obtain ⟨b, hb1, hb2⟩ := ownBlock_some hk2
    have h1 := hnew b hb1
    have h2 := hout k hk
    omega
  have hin : ∀ i, i < n → ∀ b, (f i).1 = some b → b.block < w0.heap.size := fun i hi b hb => h.his i hi b hb
  have hfn : ∀ i, i < n → (if i < n then f i else x) = f i := fun i hi => if_pos hi
  have hfl : (if n < n then f n else x) = x := if_neg (Nat.lt_irrefl _)
  have hsz' : W.heap.size ≤ w'.heap.size := hg.size
  refine ⟨fun i => if i < n then f i else x, ?_⟩
  refine ⟨by rw [List.length_append, h.len]; rfl, ?_, ?_, ?_, ?_, ?_, ?_⟩
  · have e : (List.range (n + 1)).map (fun i => (if i < n then f i else x).val) = (List.range n).map (fun i => (f i).val) ++ [x.val] := by
      rw [List.range_succ, List.map_append]
      congr 1
      · exact List.map_congr_left fun i hi => by rw [hfn i (List.mem_range.1 hi)]
      · simp only [List.map_cons, List.map_nil]; rw [hfl]
    rw [e]; exact hrow
  · intro i hi
    by_cases hi2 : i < n
    · simp only [hfn i hi2]
      rw [nthL_left (by omega)]; exact hold i hi2
    · obtain rfl : i = n := by omega
      simp only [hfl]
      have : nthL (L ++ [xs]) i = xs := by rw [← hll]; exact nthL_last L _
      rw [this]; exact hxn
  · intro i hi b d hb' hd'
    by_cases hi2 : i < n
    · simp only [hfn i hi2] at hb'
      have h1 := hin i hi2 b hb'
      rcases hloc d hd' with ⟨d0, hd0, hdb⟩ | hge
      · rw [hdb]; exact h.far i hi2 b d0 hb' hd0
      · omega
    · obtain rfl : i = n := by omega
      simp only [hfl] at hb'
      have h1 := hnew b hb'
      have h2 := hxl b hb'
      rcases hloc d hd' with ⟨d0, hd0, hdb⟩ | hge
      · have := h.hi d0 hd0
        omega
      · omega
  · intro i j hi hj hij b d hb' hd'
    by_cases hi2 : i < n
    · simp only [hfn i hi2] at hb'
      have h1 := hin i hi2 b hb'
      by_cases hj2 : j < n
      · simp only [hfn j hj2] at hd'
        exact h.apart i j hi2 hj2 hij b d hb' hd'
      · obtain rfl : j = n := by omega
        simp only [hfl] at hd'
        have := hnew d hd'
        omega
    · obtain rfl : i = n := by omega
      simp only [hfl] at hb'
      have h3 := hnew b hb'
      have hj2 : j < i := by omega
      simp only [hfn j hj2] at hd'
      have h1 := hin j hj2 d hd'
      omega
  · intro d hd
    exact (hrow.lt d.block (by rw [hd]; rfl)).2
  · intro i hi b hb'
    by_cases hi2 : i < n
    · simp only [hfn i hi2] at hb'
      have h1 := hin i hi2 b hb'
      omega
    · obtain rfl : i = n := by omega
      simp only [hfl] at hb'
      have := hxl b hb'
      omega
/-- the append of a row, laid in a block of its own ahead, to a list of lists -/
theorem list_apl {ops : Array Oper} {rest : List Oper} {o : Oper} {a : Act} {Q : Exit → Act → World → Prop} {W : World} (hgd : o.guard = none) (s x : Operand)
    (ho : o.op = .call { callee := .builtin .append, args := #[s, x], argTypes := #[113, 113] })
    (B : Nat) (ad : Option Addr) (n c : Nat) (vs : List Value) (y : Value) (hs : a.eval s = .slice ad n c) (hown : Row 24 W B ad n c vs) (hy : y.oneCell' = true)
    (hx : a.eval x = .slice (some ⟨W.heap.size, 0, none⟩) 1 1) (hn : n < 1099511627776) (hB : B ≤ W.heap.size)
    (h : ∀ ad' c' w', Row 24 w' B ad' (n + 1) c' (vs ++ [y]) → (W.alloc (.cells #[y] 24)).grownBy w' (Value.slice ad n c).ownBlock → (∀ b, ad' = some b → (∃ d, ad = some d ∧ b.block = d.block) ∨ (W.alloc (.cells #[y] 24)).heap.size ≤ b.block) → wpList Tryz.prog ops Q rest (a.put o.dst (.slice ad' (n + 1 : Nat) c')) w') :
    wpList Tryz.prog ops Q (o :: rest) a (W.alloc (.cells #[y] 24)) := by
  refine wpList_plain hgd fun K hK => ?_
  obtain ⟨ad', c', w', hrun, h1, h2, h3⟩ := run_ap_l (W := W.alloc (.cells #[y] 24)) B o.type ad n c vs (hown.alloc _) ⟨W.heap.size, 0, none⟩ y (by rw [World.cell?_alloc_at _ _ _ _ rfl]; rfl) hy hn (by simp; omega)
  unfold Oper.wp execOp
  simp only [ho, resolve, invoke, builtin, Sem.run_bind, Sem.run_pure, Result.andThen_ok, List.map_toArray, List.map_cons, List.map_nil, hs, hx, hrun]
  exact hK _ _ (h _ _ _ h1 h2 h3)
theorem grown_trans {a b c : World} {r : Option Nat} (h : a.grownBy b r) (k : b.grownBy c r) : a.grownBy c r :=
  ⟨k.os.trans h.os, k.tape.trans h.tape, k.output.trans h.output, Nat.le_trans h.size k.size, fun i hi hne => (k.block i (Nat.lt_of_lt_of_le hi h.size) hne).trans (h.block i hi hne)⟩
/-- first a row of old, then one that is the old one or new -/
theorem grown_then {a b c : World} {r q : Option Nat} (h : a.grownBy b r) (k : b.grownBy c q) (hq : ∀ j, q = some j → some j = r ∨ a.heap.size ≤ j) : a.grownBy c r :=
  ⟨k.os.trans h.os, k.tape.trans h.tape, k.output.trans h.output, Nat.le_trans h.size k.size, fun i hi hne => (k.block i (Nat.lt_of_lt_of_le hi h.size) (fun e => by
    rcases hq i e.symm with h1 | h1
    · exact hne h1
    · omega)).trans (h.block i hi hne)⟩
theorem grown_of {a b : World} {r : Option Nat} (h : Below a.heap.size a b) : a.grownBy b r := ⟨h.os, h.tape, h.output, h.size, fun i hi _ => h.block i hi⟩

end Go.Proofs.YtihfhfihladlcaaGreatDoor

/- Contracts of IsPure, the program's and the reference's. -/
namespace Go.Proofs.YtihfhfihladlcaaGreatDoor
set_option maxRecDepth 20000
open Go.RowKit
set_option linter.unusedSimpArgs false
set_option linter.unusedVariables false

/-- all sets have the first one's size -/
def pureB (l : List Nat) : Bool := l.all fun s => sz s == sz (nthN l 0)
theorem pure_no {l : List Nat} {k : Nat} (hk : k < l.length) (h : sz (nthN l k) ≠ sz (nthN l 0)) : pureB l = false := by
  unfold pureB
  rw [List.all_eq_false]
  exact ⟨nthN l k, nthN_mem hk, by simpa using h⟩
theorem pure_yes {l : List Nat} (h : ∀ j, j < l.length → sz (nthN l j) = sz (nthN l 0)) : pureB l = true := by
  unfold pureB
  rw [List.all_eq_true]
  intro s hs
  obtain ⟨j, hj, rfl⟩ := List.mem_iff_getElem.1 hs
  rw [← nthN_eq hj, h j hj]; simp

theorem iPure_no (p : Int) (a : Option Addr) (n c : Nat) (xs : List Int) (w : World) (h : IntsAt w a n xs) (hcap : n ≤ c) (hno : ¬ Anti p xs) :
    Calls Tryz.prog 145 #[.agg #[.int .i64 p, .slice a n c]] w fun e w' => e = .returned (.bool false) ∧ Below w.heap.size w w' := by
  have hx : IntsAt (w.alloc (.cells #[.int .i64 p, .slice a n c] 32)) a n xs := h.keep (by repeat (first | exact Below.refl _ _ | assumption | refine Below.setCell ?_ (by first | omega | (simp; done) | (simp; omega)) _ | refine Below.alloc ?_ (by first | omega | (simp; done) | (simp; omega)) _ | apply Below.drew))
  have Hx := Lib.hid hx; have Hcap := Lib.hid hcap; have Hno := Lib.hid hno
  clear hx h hcap hno
  go_enter Tryz.func145, Tryz.ntmps145
  go_wp2_with fail
  refine (iIsComplex_any p a n c xs _ Hx.out Hcap.out false (by simp [Hno.out])).mono ?_
  rintro e w1 ⟨rfl, hb⟩
  have HB : Hid (Below w.heap.size w w1) := Lib.hid (Below.trans (by repeat (first | exact Below.refl _ _ | assumption | refine Below.setCell ?_ (by first | omega | (simp; done) | (simp; omega)) _ | refine Below.alloc ?_ (by first | omega | (simp; done) | (simp; omega)) _ | apply Below.drew)) (hb.mono (by simp <;> omega)))
  clear hb
  go_wp2_with fail
  go_ret
  exact ⟨rfl, HB.out⟩
set_option maxRecDepth 100000 in
set_option maxHeartbeats 600000 in
theorem iPure_yes (p : Int) (a : Option Addr) (n c : Nat) (l : List Nat) (w : World) (h : IntsAt w a n (up l)) (hcap : n ≤ c) (hA : Anti p (up l)) (hl : ∀ t ∈ l, t < 64) (b : Bool) (hb : pureB l = b) :
    Calls Tryz.prog 145 #[.agg #[.int .i64 p, .slice a n c]] w fun e w' => e = .returned (.bool b) ∧ Below w.heap.size w w' := by
  have hx : IntsAt (w.alloc (.cells #[.int .i64 p, .slice a n c] 32)) a n (up l) := h.keep (by repeat (first | exact Below.refl _ _ | assumption | refine Below.setCell ?_ (by first | omega | (simp; done) | (simp; omega)) _ | refine Below.alloc ?_ (by first | omega | (simp; done) | (simp; omega)) _ | apply Below.drew))
  have Hx := Lib.hid hx; have Hcap := Lib.hid hcap; have HA := Lib.hid hA; have Hl := Lib.hid hl; have Hb := Lib.hid hb
  have XA := Lib.hid (BoxF.new w (.int .i64 p) (.slice a n c) 32)
  have hln : l.length = n := by have := h.len; rwa [up_len] at this
  have Hln := Lib.hid hln
  have hsm := h.small
  clear hx h hcap hA hl hb hln
  go_enter Tryz.func145, Tryz.ntmps145
  go_wp2_with fail
  refine (iIsComplex_any p a n c _ _ Hx.out Hcap.out true (by simp [HA.out])).mono ?_
  rintro e w1 ⟨rfl, hb⟩
  have HB : Hid (Below w.heap.size w w1) := Lib.hid (Below.trans (by repeat (first | exact Below.refl _ _ | assumption | refine Below.setCell ?_ (by first | omega | (simp; done) | (simp; omega)) _ | refine Below.alloc ?_ (by first | omega | (simp; done) | (simp; omega)) _ | apply Below.drew)) (hb.mono (by simp <;> omega)))
  have XA1 := Lib.hid (XA.out.keep hb (by simp))
  obtain ⟨p0, p1, _, _, _⟩ := XA1.out
  have Hx1 := Lib.hid (Hx.out.keep hb)
  have hz : w.heap.size + 1 ≤ w1.heap.size := by have := hb.size; simp at this; omega
  clear hb
  go_wp2_with fail
  clear p0 p1
  go_loopw [4, 11] (fun _ i wr => ∃ I : Nat, I ≤ n ∧ i = .int .i64 I ∧ Below w1.heap.size w1 wr ∧ Hid (∀ j, j < I → sz (nthN l j) = sz (nthN l 0))) (fun _ i _ => n - (intOf i).toNat)
  case atStart => exact ⟨0, Nat.zero_le _, rfl, Below.refl _ _, Lib.hid fun j hj => absurd hj (Nat.not_lt_zero _)⟩
  case round =>
    obtain ⟨I, hI, rfl, hbr, hok⟩ := hrel
    have HBr := Lib.hid hbr; have Hxr := Lib.hid (Hx1.out.keep hbr); have XAr := Lib.hid (XA1.out.keep hbr (by omega))
    clear hbr
    by_cases hlt : I < n
    · obtain ⟨p0, p1, _, _, _⟩ := XAr.out
      obtain ⟨b1, o1, rfl, hc⟩ := Hxr.out.cells (by omega)
      have hck := hc I hlt
      have hc0 := hc 0 (by omega)
      rw [nth_up] at hck hc0
      rw [Nat.add_zero] at hc0
      have ht64 := Hl.out _ (nthN_mem (xs := l) (k := I) (by rw [Hln.out]; exact hlt))
      have hu64 := Hl.out _ (nthN_mem (xs := l) (k := 0) (by rw [Hln.out]; omega))
      obtain ⟨t, ht⟩ : ∃ t, t = nthN l I := ⟨_, rfl⟩
      obtain ⟨u, hu⟩ : ∃ u, u = nthN l 0 := ⟨_, rfl⟩
      rw [← ht] at hck ht64
      rw [← hu] at hc0 hu64
      have Ht := Lib.hid ht; have Hu := Lib.hid hu
      have hn0 : (0 : Int) < n := by omega
      obtain ⟨x, hx⟩ : ∃ x, x = sz t := ⟨_, rfl⟩
      obtain ⟨y, hy⟩ : ∃ y, y = sz u := ⟨_, rfl⟩
      have Hx9 := Lib.hid hx; have Hy9 := Lib.hid hy
      have HCt : Hid (∀ W, Calls Tryz.prog 136 #[.int .i64 t] W fun e w' => e = .returned (.int .i64 x) ∧ W = w') := Lib.hid (fun W => by rw [hx]; exact SizeOf_any t W ht64)
      have HCu : Hid (∀ W, Calls Tryz.prog 136 #[.int .i64 u] W fun e w' => e = .returned (.int .i64 y) ∧ W = w') := Lib.hid (fun W => by rw [hy]; exact SizeOf_any u W hu64)
      clear hc ht hu hx hy
      by_cases he : x = y
      · have hne : ((x : Int) != (y : Int)) = false := by simp [he]
        have He := Lib.hid he
        clear he
        go_wp2_with fail
        go_quiet (first | (go_at_call 136; with_reducible exact ql (HCt.out _)) | (go_at_call 136; with_reducible exact ql (HCu.out _)))
        go_wp2_with fail
        go_roundw
        case rel =>
          refine ⟨I + 1, by omega, by go_num, below_drewN HBr.out _, Lib.hid fun j hj => ?_⟩
          rcases Nat.lt_or_ge j I with h | h
          · exact hok.out j h
          · obtain rfl : j = I := by omega
            rw [← Ht.out, ← Hu.out, ← Hx9.out, ← Hy9.out]; exact He.out
        case measure => simp [intOf]; omega
      · have hne : ((x : Int) != (y : Int)) = true := by simp; omega
        have hbf : b = false := by
          rw [← Hb.out]
          exact pure_no (k := I) (by rw [Hln.out]; exact hlt) (by rw [← Ht.out, ← Hu.out, ← Hx9.out, ← Hy9.out]; exact he)
        subst hbf
        clear he
        go_wp2_with fail
        go_quiet (first | (go_at_call 136; with_reducible exact ql (HCt.out _)) | (go_at_call 136; with_reducible exact ql (HCu.out _)))
        go_wp2_with fail
        go_ret
        exact ⟨rfl, below_drewN (HB.out.trans (HBr.out.mono HB.out.size)) _⟩
    · obtain rfl : I = n := by omega
      have hbt : b = true := by
        rw [← Hb.out]
        exact pure_yes fun j hj => hok.out j (by rw [← Hln.out]; exact hj)
      subst hbt
      go_wp2_with fail
      go_ret
      exact ⟨rfl, HB.out.trans (HBr.out.mono HB.out.size)⟩

/-- l2Size of any number comes back with a number -/
theorem l2Size_all (x : Int) (w : World) :
    Calls Tryz.prog 138 #[.int .i64 x] w fun e w' => (∃ v : Int, e = .returned (.int .i64 v)) ∧ w = w' := by
  go_enter Tryz.func138, Tryz.ntmps138
  go_wp2
  go_loop [0, 3] (fun t n => ∃ m k : Int, t = .int .i64 m ∧ n = .int .i64 k) (fun t _ => (intOf t).toNat)
  case atStart => exact ⟨x, 0, rfl, rfl⟩
  case round =>
    obtain ⟨m, k, rfl, rfl⟩ := hrel
    by_cases h0 : 0 < m
    · go_wp2
      go_round
      case rel => exact ⟨_, _, rfl, rfl⟩
      case measure => simp [intOf]; omega
    · go_wp2
      go_ret
      exact ⟨⟨_, rfl⟩, rfl⟩
set_option maxRecDepth 100000 in
set_option maxHeartbeats 600000 in
theorem sPure_no (p : Int) (a : Option Addr) (n c : Nat) (xs : List Int) (w : World) (h : IntsAt w a n xs) (hno : ¬ Anti p xs) :
    Calls Tryz.prog 149 #[.agg #[.int .i64 p, .slice a n c]] w fun e w' => e = .returned (.bool false) ∧ Below w.heap.size w w' := by
  have hx : IntsAt (w.alloc (.cells #[.int .i64 p, .slice a n c] 32)) a n xs := h.keep (by repeat (first | exact Below.refl _ _ | assumption | refine Below.setCell ?_ (by first | omega | (simp; done) | (simp; omega)) _ | refine Below.alloc ?_ (by first | omega | (simp; done) | (simp; omega)) _ | apply Below.drew))
  have Hx := Lib.hid hx; have Hno := Lib.hid hno
  have XA := Lib.hid (BoxF.new w (.int .i64 p) (.slice a n c) 32)
  have hsm := h.small
  clear hx h hno
  obtain ⟨w0, hw0⟩ : ∃ w0, w0 = w.alloc (.cells #[.int .i64 p, .slice a n c] 32) := ⟨_, rfl⟩
  have hB0 : Below w.heap.size w w0 := by rw [hw0]; exact (by repeat (first | exact Below.refl _ _ | assumption | refine Below.setCell ?_ (by first | omega | (simp; done) | (simp; omega)) _ | refine Below.alloc ?_ (by first | omega | (simp; done) | (simp; omega)) _ | apply Below.drew))
  have hz : w.heap.size + 1 ≤ w0.heap.size := by rw [hw0]; simp
  have HW0 := Lib.hid hw0; have HB0 := Lib.hid hB0
  rw [← hw0] at Hx XA
  clear hw0 hB0
  go_enter Tryz.func149, Tryz.ntmps149
  go_wp2_with fail
  rw [← HW0.out]
  go_loopw [3] (fun i wr => ∃ I : Nat, 1 ≤ I ∧ (I ≤ n ∨ I = 1) ∧ i = .int .i64 I ∧ Below w0.heap.size w0 wr) (fun i _ => n - (intOf i).toNat)
  case atStart => exact ⟨1, by omega, .inr rfl, rfl, Below.refl _ _⟩
  case round =>
    obtain ⟨wo, rfl⟩ : ∃ x : World, x = wr := ⟨_, rfl⟩
    obtain ⟨I, h1, hI, rfl, hbr⟩ := hrel
    have H1I := Lib.hid h1; have HII := Lib.hid hI
    clear h1 hI
    have HBr := Lib.hid hbr; have Hxr := Lib.hid (Hx.out.keep hbr); have XAr := Lib.hid (XA.out.keep hbr (by omega))
    clear hbr
    obtain ⟨p0, p1, _, _, _⟩ := XAr.out
    by_cases hlt : I < n
    · obtain ⟨b1, o1, rfl, hc⟩ := Hxr.out.cells (by omega)
      have hck := hc I hlt
      have hc0 := hc 0 (by omega)
      rw [Nat.add_zero] at hc0
      obtain ⟨t, ht⟩ : ∃ t, t = nth xs I := ⟨_, rfl⟩
      obtain ⟨u, hu⟩ : ∃ u, u = nth xs 0 := ⟨_, rfl⟩
      rw [← ht] at hck
      rw [← hu] at hc0
      have hn0 : (0 : Int) < n := by omega
      have hnN : 0 < n := by omega
      have hi0 : (0 : Int) ≤ I := by omega
      have hin : (I : Int) < n := by omega
      clear hc ht hu
      go_wp2_with fail
      go_cut [22] (fun v W => (∃ b, v = .bool b) ∧ Below w0.heap.size w0 W)
      case first =>
        go_region_held3 (fun W => W.cell? ⟨w.heap.size, 1, none⟩ = some (.slice (some ⟨b1, o1, none⟩) n c) ∧ W.cell? ⟨b1, o1 + I, none⟩ = some (.int .i64 t) ∧ W.cell? ⟨b1, o1, none⟩ = some (.int .i64 u)) (first | exact ⟨p1, hck, hc0⟩ | go_keep) (first | (go_simp; go_at_call 138; (with_reducible refine (l2Size_all _ _).mono ?_); rintro e w' ⟨⟨v, rfl⟩, rfl⟩))
        all_goals (go_wp2_with fail; go_meet; exact ⟨⟨_, rfl⟩, HBr.out.drew⟩)
      case rest =>
        obtain ⟨⟨b, rfl⟩, hbc⟩ := hcut
        have HBc := Lib.hid hbc
        clear hbc
        cases b
        · go_wp2_with fail
          go_roundw
          case rel => exact ⟨I + 1, by omega, by omega, by go_num, HBc.out⟩
          case measure => simp [intOf]; omega
        · go_wp2_with fail
          go_ret
          exact ⟨rfl, HB0.out.trans (HBc.out.mono HB0.out.size)⟩
    · have hii : ¬ ((I : Int) < n) := by omega
      go_wp2_with fail
      refine (sIsComplex_any p a n c xs _ Hxr.out false (by simp [Hno.out])).mono ?_
      rintro e w1 ⟨rfl, hb⟩
      have HB : Hid (Below w.heap.size w w1) := Lib.hid ((HB0.out.trans (HBr.out.mono HB0.out.size)).trans (hb.mono (HB0.out.trans (HBr.out.mono HB0.out.size)).size))
      clear hb
      go_wp2_with fail
      go_ret
      exact ⟨rfl, HB.out⟩
set_option maxRecDepth 100000 in
set_option maxHeartbeats 600000 in
theorem sPure_yes (p : Int) (a : Option Addr) (n c : Nat) (l : List Nat) (w : World) (h : IntsAt w a n (up l)) (hA : Anti p (up l)) (hl : ∀ t ∈ l, t < 64) (b : Bool) (hb : pureB l = b) :
    Calls Tryz.prog 149 #[.agg #[.int .i64 p, .slice a n c]] w fun e w' => e = .returned (.bool b) ∧ Below w.heap.size w w' := by
  have hx : IntsAt (w.alloc (.cells #[.int .i64 p, .slice a n c] 32)) a n (up l) := h.keep (by repeat (first | exact Below.refl _ _ | assumption | refine Below.setCell ?_ (by first | omega | (simp; done) | (simp; omega)) _ | refine Below.alloc ?_ (by first | omega | (simp; done) | (simp; omega)) _ | apply Below.drew))
  have Hx := Lib.hid hx; have HA := Lib.hid hA; have Hl := Lib.hid hl; have Hb := Lib.hid hb
  have XA := Lib.hid (BoxF.new w (.int .i64 p) (.slice a n c) 32)
  have hln : l.length = n := by have := h.len; rwa [up_len] at this
  have Hln := Lib.hid hln
  have hsm := h.small
  clear hx h hA hl hb hln
  obtain ⟨w0, hw0⟩ : ∃ w0, w0 = w.alloc (.cells #[.int .i64 p, .slice a n c] 32) := ⟨_, rfl⟩
  have hB0 : Below w.heap.size w w0 := by rw [hw0]; exact (by repeat (first | exact Below.refl _ _ | assumption | refine Below.setCell ?_ (by first | omega | (simp; done) | (simp; omega)) _ | refine Below.alloc ?_ (by first | omega | (simp; done) | (simp; omega)) _ | apply Below.drew))
  have hz : w.heap.size + 1 ≤ w0.heap.size := by rw [hw0]; simp
  have HW0 := Lib.hid hw0; have HB0 := Lib.hid hB0
  rw [← hw0] at Hx XA
  clear hw0 hB0
  go_enter Tryz.func149, Tryz.ntmps149
  go_wp2_with fail
  rw [← HW0.out]
  go_loopw [3] (fun i wr => ∃ I : Nat, 1 ≤ I ∧ (I ≤ n ∨ I = 1) ∧ i = .int .i64 I ∧ Below w0.heap.size w0 wr ∧ Hid (∀ j, j < I → sz (nthN l j) = sz (nthN l 0))) (fun i _ => n - (intOf i).toNat)
  case atStart => exact ⟨1, by omega, .inr rfl, rfl, Below.refl _ _, Lib.hid fun j hj => by (obtain rfl : j = 0 := by omega); rfl⟩
  case round =>
    obtain ⟨wo, rfl⟩ : ∃ x : World, x = wr := ⟨_, rfl⟩
    obtain ⟨I, h1, hI, rfl, hbr, hok⟩ := hrel
    have H1I := Lib.hid h1; have HII := Lib.hid hI
    clear h1 hI
    have HBr := Lib.hid hbr; have Hxr := Lib.hid (Hx.out.keep hbr); have XAr := Lib.hid (XA.out.keep hbr (by omega))
    clear hbr
    obtain ⟨p0, p1, _, _, _⟩ := XAr.out
    by_cases hlt : I < n
    · obtain ⟨b1, o1, rfl, hc⟩ := Hxr.out.cells (by omega)
      have hck := hc I hlt
      have hc0 := hc 0 (by omega)
      rw [nth_up] at hck hc0
      rw [Nat.add_zero] at hc0
      have ht64 := Hl.out _ (nthN_mem (xs := l) (k := I) (by rw [Hln.out]; exact hlt))
      have hu64 := Hl.out _ (nthN_mem (xs := l) (k := 0) (by rw [Hln.out]; omega))
      obtain ⟨t, ht⟩ : ∃ t, t = nthN l I := ⟨_, rfl⟩
      obtain ⟨u, hu⟩ : ∃ u, u = nthN l 0 := ⟨_, rfl⟩
      rw [← ht] at hck ht64
      rw [← hu] at hc0 hu64
      have Ht := Lib.hid ht; have Hu := Lib.hid hu
      have hn0 : (0 : Int) < n := by omega
      have hi0 : (0 : Int) ≤ I := by omega
      have hin : (I : Int) < n := by omega
      obtain ⟨x, hx⟩ : ∃ x, x = sz t := ⟨_, rfl⟩
      obtain ⟨y, hy⟩ : ∃ y, y = sz u := ⟨_, rfl⟩
      have Hx9 := Lib.hid hx; have Hy9 := Lib.hid hy
      have HCt : Hid (∀ W, Calls Tryz.prog 138 #[.int .i64 t] W fun e w' => e = .returned (.int .i64 x) ∧ W = w') := Lib.hid (fun W => by rw [hx]; exact l2Size_any t W ht64)
      have HCu : Hid (∀ W, Calls Tryz.prog 138 #[.int .i64 u] W fun e w' => e = .returned (.int .i64 y) ∧ W = w') := Lib.hid (fun W => by rw [hy]; exact l2Size_any u W hu64)
      clear hc ht hu hx hy
      by_cases he : x = y
      · have hne : ((x : Int) != (y : Int)) = false := by simp [he]
        have He := Lib.hid he
        clear he
        go_wp2_with fail
        go_quiet (first | (go_at_call 138; with_reducible exact ql (HCt.out _)) | (go_at_call 138; with_reducible exact ql (HCu.out _)))
        go_wp2_with fail
        go_roundw
        case rel =>
          refine ⟨I + 1, by omega, by omega, by go_num, below_drewN HBr.out _, Lib.hid fun j hj => ?_⟩
          rcases Nat.lt_or_ge j I with h | h
          · exact hok.out j h
          · obtain rfl : j = I := by omega
            rw [← Ht.out, ← Hu.out, ← Hx9.out, ← Hy9.out]; exact He.out
        case measure => simp [intOf]; omega
      · have hne : ((x : Int) != (y : Int)) = true := by simp; omega
        have hbf : b = false := by
          rw [← Hb.out]
          exact pure_no (k := I) (by rw [Hln.out]; exact hlt) (by rw [← Ht.out, ← Hu.out, ← Hx9.out, ← Hy9.out]; exact he)
        subst hbf
        clear he
        go_wp2_with fail
        go_quiet (first | (go_at_call 138; with_reducible exact ql (HCt.out _)) | (go_at_call 138; with_reducible exact ql (HCu.out _)))
        go_wp2_with fail
        go_ret
        exact ⟨rfl, below_drewN (HB0.out.trans (HBr.out.mono HB0.out.size)) _⟩
    · have hii : ¬ ((I : Int) < n) := by omega
      have hbt : b = true := by
        rw [← Hb.out]
        exact pure_yes fun j hj => hok.out j (by rw [Hln.out] at hj; have := HII.out; have := H1I.out; omega)
      subst hbt
      go_wp2_with fail
      refine (sIsComplex_any p a n c _ _ Hxr.out true (by simp [HA.out])).mono ?_
      rintro e w1 ⟨rfl, hb⟩
      have HB : Hid (Below w.heap.size w w1) := Lib.hid ((HB0.out.trans (HBr.out.mono HB0.out.size)).trans (hb.mono (HB0.out.trans (HBr.out.mono HB0.out.size)).size))
      clear hb
      go_wp2_with fail
      go_ret
      exact ⟨rfl, HB.out⟩
end Go.Proofs.YtihfhfihladlcaaGreatDoor

/- Contracts of the reference's l5Set, l5Link, SubsetsOf, l2Same and EqualComplex. -/
namespace Go.Proofs.YtihfhfihladlcaaGreatDoor
set_option maxRecDepth 20000
open Go.RowKit
set_option linter.unusedSimpArgs false
set_option linter.unusedVariables false


theorem sub_and {f s : Nat} (h : sub s f = true) : f &&& s = s := by
  unfold sub at h; rw [Nat.and_comm]; simpa using h
theorem sub_and_no {f s : Nat} (h : sub s f = false) : f &&& s ≠ s := fun e => by
  unfold sub at h
  rw [Nat.and_comm, e] at h; simp at h
theorem linkL_yes {l : List Nat} {s I : Nat} (hI : I < l.length) (h : sub s (nthN l I) = true) : linkL (l.take (I + 1)) s = linkL (l.take I) s ++ [sdiff (nthN l I) s] := by
  unfold linkL; rw [nthN_take l I hI, List.filter_append, List.map_append]; simp [h]
theorem linkL_no {l : List Nat} {s I : Nat} (hI : I < l.length) (h : sub s (nthN l I) = false) : linkL (l.take (I + 1)) s = linkL (l.take I) s := by
  unfold linkL; rw [nthN_take l I hI, List.filter_append, List.map_append]; simp [h]
theorem w_less : ∀ g : Nat, g < 64 → ∀ s : Nat, s < 64 → sub s g = true → IntKind.i64.wrap ((g : Int) - (s : Int)) = ((sdiff g s : Nat) : Int) := by decide +kernel
set_option maxRecDepth 100000 in
set_option maxHeartbeats 1000000 in
theorem sLink_any (p : Int) (a : Option Addr) (n c : Nat) (l : List Nat) (s : Nat) (w : World) (h : IntsAt w a n (up l)) (hn : n ≤ 64) (hs : s < 64) (hl : ∀ t ∈ l, t < 64) :
    Calls Tryz.prog 157 #[.agg #[.int .i64 p, .slice a n c], .int .i64 s] w (RetBox w p (up (maxL (linkL l s).contains))) := by
  have hx : IntsAt ((w.alloc (.cells #[.int .i64 p, .slice a n c] 32)).alloc (.cells #[.int .i64 0, .slice none 0 0] 32)) a n (up l) := h.keep (by repeat (first | exact Below.refl _ _ | assumption | refine Below.setCell ?_ (by first | omega | (simp; done) | (simp; omega)) _ | refine Below.alloc ?_ (by first | omega | (simp; done) | (simp; omega)) _ | apply Below.drew))
  have Hx := Lib.hid hx
  have xA := (BoxF.new w (.int .i64 p) (.slice a n c) 32).alloc (.cells #[.int .i64 0, .slice none 0 0] 32)
  have xR := BoxF.new (w.alloc (.cells #[.int .i64 p, .slice a n c] 32)) (.int .i64 0) (.slice none 0 0) 32
  have e2 : (w.alloc (.cells #[.int .i64 p, .slice a n c] 32)).heap.size = w.heap.size + 1 := by simp
  rw [e2] at xR
  have XR := Lib.hid xR; have XA := Lib.hid xA; have Hl := Lib.hid hl
  have hll := h.len
  rw [up_len] at hll
  have Hll := Lib.hid hll
  obtain ⟨w1, hw1⟩ : ∃ w1, w1 = (w.alloc (.cells #[.int .i64 p, .slice a n c] 32)).alloc (.cells #[.int .i64 0, .slice none 0 0] 32) := ⟨_, rfl⟩
  have HB : Hid (Below w.heap.size w w1) := Lib.hid (by rw [hw1]; exact (by repeat (first | exact Below.refl _ _ | assumption | refine Below.setCell ?_ (by first | omega | (simp; done) | (simp; omega)) _ | refine Below.alloc ?_ (by first | omega | (simp; done) | (simp; omega)) _ | apply Below.drew)))
  have hz : w1.heap.size = w.heap.size + 2 := by rw [hw1]; simp
  have HW1 := Lib.hid hw1
  rw [← hw1] at Hx XA XR
  clear hx h xR xA hl e2 hll hw1
  go_enter Tryz.func157, Tryz.ntmps157
  go_wp2_with fail
  rw [← HW1.out]
  go_loopw [5, 6] (fun f i wr => ∃ I : Nat, I ≤ n ∧ i = .int .i64 I ∧ Below w1.heap.size w1 wr ∧ ∃ ad K d, f = .slice ad K d ∧ K ≤ I ∧ Own 3 wr w1.heap.size ad K d (up (linkL (l.take I) s))) (fun _ i _ => n - (intOf i).toNat)
  case atStart => exact ⟨0, Nat.zero_le _, rfl, (by repeat (first | exact Below.refl _ _ | assumption | refine Below.setCell ?_ (by first | omega | (simp; done) | (simp; omega)) _ | refine Below.alloc ?_ (by first | omega | (simp; done) | (simp; omega)) _ | apply Below.drew)), some ⟨w.heap.size + 2, 0, none⟩, 0, 0, (by first | rfl | simp), by omega, by rw [← hz]; exact Own.empty _ _ _ (by first | exact Nat.le_refl _ | simp)⟩
  case round =>
    obtain ⟨I, hI, rfl, hb, ad, K, d, rfl, hK, hown⟩ := hrel
    have HBO := Lib.hid hb; have HO := Lib.hid hown
    have XA2 := Lib.hid (XA.out.keep hb (by omega))
    have XR2 := Lib.hid (XR.out.keep hb (by omega))
    have Hx2 := Lib.hid (Hx.out.keep hb)
    obtain ⟨p0, p1, _, _, _⟩ := XA2.out
    have hzr : w1.heap.size ≤ wr.heap.size := hb.size
    clear hb hown
    by_cases hlt : I < n
    · obtain ⟨b1, o1, rfl, hc1⟩ := Hx2.out.cells (by omega)
      have hci := hc1 I hlt
      rw [nth_up] at hci
      have ht := Hl.out _ (nthN_mem (xs := l) (k := I) (by rw [Hll.out]; omega))
      have hyes := linkL_yes (s := s) (l := l) (I := I) (by rw [Hll.out]; omega)
      have hno := linkL_no (s := s) (l := l) (I := I) (by rw [Hll.out]; omega)
      obtain ⟨f, hf⟩ : ∃ f, f = nthN l I := ⟨_, rfl⟩
      rw [← hf] at hci ht hyes hno
      have Hyes := Lib.hid hyes; have Hno := Lib.hid hno
      have hI0 : (0 : Int) ≤ I := by omega
      have hIn : (I : Int) < n := by omega
      clear hc1 hf hyes hno
      have hand := w_and f s ht hs
      cases hsub : sub s f
      · have hne : (((f &&& s : Nat) : Int) == (s : Int)) = false := by rw [castBeq]; simpa using sub_and_no hsub
        have Hsub := Lib.hid hsub; clear hsub
        go_wp2_with fail
        go_roundw
        case rel => exact ⟨I + 1, by omega, by go_num, HBO.out, ad, K, d, rfl, by omega, by rw [Hno.out Hsub.out]; exact HO.out⟩
        case measure => simp [intOf]; omega
      · have hne : (((f &&& s : Nat) : Int) == (s : Int)) = true := by rw [castBeq]; simpa using sub_and hsub
        have hless := w_less f ht s hs hsub
        have Hsub := Lib.hid hsub; clear hsub
        go_wp2_with (at_builtin; refine ap rfl _ _ rfl w1.heap.size _ _ _ _ _ rfl HO.out rfl (by omega) hzr ?_; intro ad' d' w' hown' hb'; have HO3 := Lib.hid hown'; have HB3 := Lib.hid hb'; clear hown' hb')
        go_roundw
        case rel => exact ⟨I + 1, by omega, by go_num, HBO.out.trans HB3.out, ad', K + 1, d', rfl, by omega, by rw [Hyes.out Hsub.out, up_append]; first | exact HO3.out | (have := HO3.out; rw [hless] at this; exact this)⟩
        case measure => simp [intOf]; omega
    · obtain rfl : I = n := by omega
      have hii : ¬ ((I : Int) < I) := by omega
      have HOf : Hid (Own 3 wr w1.heap.size ad K d (up (linkL l s))) := Lib.hid (by have := HO.out; rw [← Hll.out, List.take_length] at this; exact this)
      go_wp2_with fail
      refine (l3Make_any p ad K d _ _ HOf.out.reads (linkL_lt Hl.out)).mono ?_
      rintro e w5 ⟨ad5, d5, r5, rfl, hown, hb5⟩
      have XR5 := Lib.hid (XR2.out.keep hb5 (by omega))
      have HO5 := Lib.hid hown; have HB5 := Lib.hid (HBO.out.trans (hb5.mono hzr))
      have hz5 : wr.heap.size ≤ w5.heap.size := hb5.size
      obtain ⟨q0, q1, qf0, qf1, qlt⟩ := XR5.out
      clear hown hb5
      go_wp2_with fail
      refine bodyPost_ret (v := .agg #[.int .i64 p, .slice ad5 d5 r5]) (by simp [results, Tryz.results157, go_sem, q0, q1]) rfl ⟨ad5, d5, r5, rfl, ?_, ?_⟩
      · refine ((HO5.out.setBelow _ ?_).setBelow _ ?_).mono ?_ <;> omega
      · exact ((HB.out.trans (HB5.out.mono (by omega))).setCell (by simp) _).setCell (by simp) _


end Go.Proofs.YtihfhfihladlcaaGreatDoor

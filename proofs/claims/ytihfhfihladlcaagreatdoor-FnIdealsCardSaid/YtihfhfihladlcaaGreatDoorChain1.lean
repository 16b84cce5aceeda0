/- Chains on families of sets of six points: signs, borders, cycles; what a border's border is; and how cycles change where a family grows by sets that go in pairs. Plain. -/
import Derived.Test.YtihfhfihladlcaaGreatDoorBase
import Derived.Test.YtihfhfihladlcaaGreatDoorFaces2
namespace Go.Proofs.YtihfhfihladlcaaGreatDoor
set_option maxRecDepth 20000
set_option linter.unusedSimpArgs false
set_option linter.unusedVariables false

/-- the number of a set in the border of another one -/
def sgnF (u t : Nat) : Int := if sub u t && sz t == sz u + 1 then 1 - 2 * ((sz (t &&& (t - u - 1)) % 2 : Nat) : Int) else 0
def bnd (x : Nat → Int) (u : Nat) : Int := sm (fun t => sgnF u t * x t) 64
structure Chn (p : Nat) (A : Nat → Bool) (k : Nat) (x : Nat → Int) : Prop where
  bd : ∀ t, 0 ≤ x t ∧ x t < p
  off : ∀ t, ¬ (t < 64 ∧ A t = true ∧ sz t = k) → x t = 0
structure Cyc (p : Nat) (A : Nat → Bool) (k : Nat) (x : Nat → Int) : Prop extends Chn p A k x where
  cyc : ∀ u, u < 64 → bnd x u % p = 0
def Dn (A : Nat → Bool) : Prop := ∀ t, t < 64 → A t = true → ∀ u, sub u t = true → A u = true

set_option maxRecDepth 100000 in
theorem bnd_bnd0 : ∀ u, u < 64 → ∀ q, q < 64 → sm (fun t => sgnF u t * sgnF t q) 64 = 0 := by decide +kernel
theorem sgn_zero {u t : Nat} (h : sgnF u t ≠ 0) : sub u t = true ∧ sz t = sz u + 1 := by
  unfold sgnF at h
  by_cases e : (sub u t && sz t == sz u + 1) = true
  · simpa using e
  · rw [if_neg e] at h; exact absurd rfl h
theorem bitA : ∀ s, s < 64 → ∀ i, i < 6 → s.testBit i = false → (s ||| 2 ^ i) < 64 ∧ sz (s ||| 2 ^ i) = sz s + 1 ∧ sub s (s ||| 2 ^ i) = true ∧ sgnF s (s ||| 2 ^ i) * sgnF s (s ||| 2 ^ i) = 1 ∧ s ^^^ 2 ^ i = s ||| 2 ^ i ∧ (s ||| 2 ^ i).testBit i = true ∧ (s ||| 2 ^ i) ^^^ 2 ^ i = s := by decide +kernel
theorem bitB : ∀ t, t < 64 → ∀ i, i < 6 → t.testBit i = true → t ^^^ 2 ^ i < 64 ∧ (t ^^^ 2 ^ i).testBit i = false ∧ sz t = sz (t ^^^ 2 ^ i) + 1 ∧ (t ^^^ 2 ^ i) ||| 2 ^ i = t := by decide +kernel
theorem bitC (i : Nat) (hi : i < 6) (s : Nat) (hs : s < 64) (hb : s.testBit i = false) (t : Nat) (ht : t < 64) (htb : t.testBit i = false) (h : sz t = sz s) (h2 : sub t (s ||| 2 ^ i) = true) : t = s :=
  (show ∀ i, i < 6 → ∀ s, s < 64 → ∀ t, t < 64 → (s.testBit i = false ∧ t.testBit i = false ∧ sz t = sz s ∧ sub t (s ||| 2 ^ i) = true) → t = s by decide +kernel) i hi s hs t ht ⟨hb, htb, h, h2⟩
theorem bitD (i : Nat) (hi : i < 6) (s : Nat) (hs : s < 64) (hb : s.testBit i = false) (t : Nat) (ht : t < 64) (htb : t.testBit i = true) (h : sz t = sz s + 1) (h2 : sub s t = true) : t = s ||| 2 ^ i :=
  (show ∀ i, i < 6 → ∀ s, s < 64 → ∀ t, t < 64 → (s.testBit i = false ∧ t.testBit i = true ∧ sz t = sz s + 1 ∧ sub s t = true) → t = s ||| 2 ^ i by decide +kernel) i hi s hs t ht ⟨hb, htb, h, h2⟩
theorem nthN_mem2 {S : List Nat} {i : Nat} (h : i < S.length) : nthN S i ∈ S := by
  unfold nthN; rw [List.getD_eq_getElem?_getD, List.getElem?_eq_getElem h]; exact List.getElem_mem _
theorem nthN_at2 {S : List Nat} {i : Nat} (h : i < S.length) : nthN S i = S[i] := by
  unfold nthN; rw [List.getD_eq_getElem?_getD, List.getElem?_eq_getElem h]; rfl

/-- the chain of borders of s + point, over the s of S with factors u -/
def tail1 (S : List Nat) (i : Nat) (u : Nat → Int) (t : Nat) : Int := sm (fun j => u j * (sgnF (nthN S j) (nthN S j ||| 2 ^ i) * sgnF t (nthN S j ||| 2 ^ i))) S.length
theorem bnd_tail {S : List Nat} {i : Nat} (hi : i < 6) (hS : ∀ s ∈ S, s < 64 ∧ s.testBit i = false) (u : Nat → Int) (v : Nat) (hv : v < 64) : bnd (tail1 S i u) v = 0 := by
  unfold bnd tail1
  have e : ∀ t, sgnF v t * sm (fun j => u j * (sgnF (nthN S j) (nthN S j ||| 2 ^ i) * sgnF t (nthN S j ||| 2 ^ i))) S.length = sm (fun j => (u j * sgnF (nthN S j) (nthN S j ||| 2 ^ i)) * (sgnF v t * sgnF t (nthN S j ||| 2 ^ i))) S.length := fun t => by
    rw [← sm_mul]
    refine sm_congr _ fun j _ => ?_
    rw [← Int.mul_assoc, ← Int.mul_assoc, ← Int.mul_assoc, Int.mul_comm (sgnF v t) (u j), Int.mul_assoc (u j) (sgnF v t), Int.mul_comm (sgnF v t) (sgnF (nthN S j) _), ← Int.mul_assoc (u j)]
  rw [sm_congr 64 (fun t _ => e t), sm_swap]
  rw [sm_congr S.length (h := fun _ => 0) (fun j hj => by
    rw [sm_mul, bnd_bnd0 v hv _ (bitA _ (hS _ (nthN_mem2 hj)).1 i hi (hS _ (nthN_mem2 hj)).2).1, Int.mul_zero]), sm_zero]
theorem bnd_sub (x y : Nat → Int) (u : Nat) : bnd (fun t => x t - y t) u = bnd x u - bnd y u := by
  unfold bnd
  rw [← sm_sub]
  exact sm_congr _ fun t _ => by rw [Int.mul_sub]
theorem bnd_add (x y : Nat → Int) (u : Nat) : bnd (fun t => x t + y t) u = bnd x u + bnd y u := by
  unfold bnd
  rw [← sm_add]
  exact sm_congr _ fun t _ => by rw [Int.mul_add]
theorem bnd_mod (p : Int) (x : Nat → Int) (u : Nat) : bnd (fun t => x t % p) u % p = bnd x u % p := by
  refine mod_of_dvd (sm_dvd _ _ _ (fun t => ?_) 64)
  obtain ⟨k, hk⟩ := emod_dvd (x t) p
  exact ⟨sgnF u t * k, by rw [← Int.mul_sub, hk, ← Int.mul_assoc, Int.mul_comm (sgnF u t), Int.mul_assoc]⟩

/-- the sets that are new, have k points, and not the point i -/
def newS (W A : Nat → Bool) (i k : Nat) : List Nat := (List.range 64).filter fun s => W s && !A s && sz s == k && !s.testBit i
theorem mem_newS {W A : Nat → Bool} {i k s : Nat} : s ∈ newS W A i k ↔ s < 64 ∧ W s = true ∧ A s = false ∧ sz s = k ∧ s.testBit i = false := by
  unfold newS
  rw [List.mem_filter, List.mem_range]
  simp [and_assoc]
theorem newS_nodup (W A : Nat → Bool) (i k : Nat) : (newS W A i k).Nodup := (List.nodup_range).filter _
theorem sgn_new {i : Nat} (hi : i < 6) {s t : Nat} (hs : s < 64) (hb : s.testBit i = false) (ht : t < 64) (htb : t.testBit i = false) : sgnF t (s ||| 2 ^ i) = if t = s then sgnF s (s ||| 2 ^ i) else 0 := by
  by_cases e : t = s
  · rw [e, if_pos rfl]
  · rw [if_neg e]
    by_cases h : sgnF t (s ||| 2 ^ i) = 0
    · exact h
    · obtain ⟨h1, h2⟩ := sgn_zero h
      have := (bitA s hs i hi hb).2.1
      exact absurd (bitC i hi s hs hb t ht htb (by omega) h1) e
/-- at a set without the point, of the list, the tail is its factor -/
theorem tail_at {S : List Nat} {i : Nat} (hi : i < 6) (hnd : S.Nodup) (hS : ∀ s ∈ S, s < 64 ∧ s.testBit i = false) (u : Nat → Int) {j : Nat} (hj : j < S.length) : tail1 S i u (nthN S j) = u j := by
  unfold tail1
  have hsj := hS _ (nthN_mem2 hj)
  rw [sm_congr S.length (h := fun k => if k = j then u j else 0) (fun k hk => by
    have hsk := hS _ (nthN_mem2 hk)
    rw [sgn_new hi hsk.1 hsk.2 hsj.1 hsj.2]
    by_cases e : k = j
    · subst e; rw [if_pos rfl, if_pos rfl, (bitA _ hsk.1 i hi hsk.2).2.2.2.1, Int.mul_one]
    · rw [if_neg e, if_neg, Int.mul_zero, Int.mul_zero]
      intro h
      rw [nthN_at2 hj, nthN_at2 hk] at h
      exact e ((List.getElem_inj hnd).1 h).symm), sm_single, if_pos hj]
theorem tail_off {W A : Nat → Bool} {i k : Nat} (hi : i < 6) (hd : Dn W) (hW : ∀ s, s ∈ newS W A i k → W (s ||| 2 ^ i) = true) (u : Nat → Int) {t : Nat} (ht : ¬ (t < 64 ∧ W t = true ∧ sz t = k)) : tail1 (newS W A i k) i u t = 0 := by
  unfold tail1
  rw [sm_congr _ (h := fun _ => 0) (fun j hj => by
    have hm := nthN_mem2 hj
    obtain ⟨h1, h2, h3, h4, h5⟩ := mem_newS.1 hm
    by_cases e : sgnF t (nthN (newS W A i k) j ||| 2 ^ i) = 0
    · rw [e, Int.mul_zero, Int.mul_zero]
    · exfalso
      obtain ⟨e1, e2⟩ := sgn_zero e
      obtain ⟨b1, b2, _⟩ := bitA _ h1 i hi h5
      have hle : t ≤ nthN (newS W A i k) j ||| 2 ^ i := by
        unfold sub at e1
        have e1 := beq_iff_eq.1 e1
        have := Nat.and_le_right (n := t) (m := nthN (newS W A i k) j ||| 2 ^ i)
        omega
      exact ht ⟨by omega, hd _ b1 (hW _ hm) _ e1, by omega⟩), sm_zero]
theorem tail_none {S : List Nat} {i : Nat} (u : Nat → Int) (hu : ∀ j, j < S.length → u j = 0) (t : Nat) : tail1 S i u t = 0 := by
  unfold tail1
  rw [sm_congr _ (h := fun _ => 0) (fun j hj => by rw [hu j hj, Int.zero_mul]), sm_zero]

/-- new sets that go in pairs: each without the point adds one to the cycles -/
theorem cyc_pairs {p : Nat} (hp : Prm p) {W A : Nat → Bool} (hAW : ∀ t, t < 64 → A t = true → W t = true) (hdW : Dn W) (hdA : Dn A) {i : Nat} (hi : i < 6)
    (htog : ∀ t, t < 64 → W t = true → A t = false → W (t ^^^ 2 ^ i) = true ∧ A (t ^^^ 2 ^ i) = false) (k z : Nat) (h : Dim p (Cyc p A k) z) :
    Dim p (Cyc p W k) (z + (newS W A i k).length) := by
  have hp2 := prm_pos hp
  have hpp : (0 : Int) < p := by omega
  obtain ⟨S, hSe⟩ : ∃ S, S = newS W A i k := ⟨_, rfl⟩
  have hmem : ∀ s, s ∈ S ↔ s < 64 ∧ W s = true ∧ A s = false ∧ sz s = k ∧ s.testBit i = false := fun s => by rw [hSe]; exact mem_newS
  have hnd : S.Nodup := by rw [hSe]; exact newS_nodup _ _ _ _
  have hS : ∀ s ∈ S, s < 64 ∧ s.testBit i = false := fun s hs => ⟨((hmem s).1 hs).1, ((hmem s).1 hs).2.2.2.2⟩
  have hWq : ∀ s, s ∈ S → W (s ||| 2 ^ i) = true := fun s hs => by
    obtain ⟨h1, h2, h3, h4, h5⟩ := (hmem s).1 hs
    rw [← (bitA s h1 i hi h5).2.2.2.2.1]
    exact (htog s h1 h2 h3).1
  have hoff : ∀ (u : Nat → Int) {t : Nat}, ¬ (t < 64 ∧ W t = true ∧ sz t = k) → tail1 S i u t = 0 := fun u {t} ht => by
    rw [hSe]; exact tail_off hi hdW (fun s hs => hWq s (by rw [hSe]; exact hs)) u ht
  rw [← hSe]
  refine Dim.prod h (fun x t => (x t - tail1 S i (fun j => x (nthN S j)) t) % p) (fun x => S.map x) (fun a u t => (a t + tail1 S i (nth u) t) % p) ?_ ?_
  · intro x hx
    have hvx : S.map x ∈ vecs p S.length := (vecs_mem _ _ _).2 ⟨by simp, fun y hy => by obtain ⟨s, _, rfl⟩ := List.mem_map.1 hy; exact hx.bd s⟩
    have hb : ∀ v, v < 64 → bnd (fun t => (x t - tail1 S i (fun j => x (nthN S j)) t) % p) v % p = 0 := fun v hv => by
      rw [bnd_mod, bnd_sub, bnd_tail hi hS _ v hv, Int.sub_zero]; exact hx.cyc v hv
    -- sets without the point
    have h0 : ∀ t, ¬ (t < 64 ∧ A t = true ∧ sz t = k) → t.testBit i = false → (x t - tail1 S i (fun j => x (nthN S j)) t) % p = 0 := fun t ht htb => by
      by_cases hw : t < 64 ∧ W t = true ∧ sz t = k
      · have hA0 : A t = false := by
          cases e : A t with
          | false => rfl
          | true => exact absurd ⟨hw.1, e, hw.2.2⟩ ht
        have hts : t ∈ S := (hmem t).2 ⟨hw.1, hw.2.1, hA0, hw.2.2, htb⟩
        obtain ⟨j, hj, rfl⟩ := List.mem_iff_getElem.1 hts
        rw [← nthN_at2 hj, tail_at hi hnd hS _ hj, Int.sub_self, Int.zero_emod]
      · rw [hx.off t hw, hoff _ hw]; simp
    refine ⟨⟨⟨fun t => ⟨Int.emod_nonneg _ (by omega), Int.emod_lt_of_pos _ hpp⟩, fun t ht => ?_⟩, hb⟩, hvx, ?_⟩
    · cases htb : t.testBit i with
      | false => exact h0 t ht htb
      | true =>
        by_cases hw : t < 64 ∧ W t = true ∧ sz t = k
        · have hA0 : A t = false := by
            cases e : A t with
            | false => rfl
            | true => exact absurd ⟨hw.1, e, hw.2.2⟩ ht
          obtain ⟨b1, b2, b3, b4⟩ := bitB t hw.1 i hi htb
          obtain ⟨w1, w2⟩ := htog t hw.1 hw.2.1 hA0
          have hbv := hb _ b1
          have e1 : bnd (fun t => (x t - tail1 S i (fun j => x (nthN S j)) t) % p) (t ^^^ 2 ^ i) = sgnF (t ^^^ 2 ^ i) t * ((x t - tail1 S i (fun j => x (nthN S j)) t) % p) := by
            unfold bnd
            rw [sm_congr 64 (h := fun r => if r = t then sgnF (t ^^^ 2 ^ i) t * ((x t - tail1 S i (fun j => x (nthN S j)) t) % p) else 0) (fun r hr => by
              by_cases e : r = t
              · subst e; rw [if_pos rfl]
              · rw [if_neg e]
                by_cases es : sgnF (t ^^^ 2 ^ i) r = 0
                · rw [es, Int.zero_mul]
                · obtain ⟨e1, e2⟩ := sgn_zero es
                  have hrA : ¬ (r < 64 ∧ A r = true ∧ sz r = k) := fun hh => by
                    have := hdA r hr hh.2.1 _ e1
                    rw [w2] at this; cases this
                  cases hrb : r.testBit i with
                  | false =>
                    show _ * ((x r - tail1 S i (fun j => x (nthN S j)) r) % p) = 0
                    rw [h0 r hrA hrb, Int.mul_zero]
                  | true =>
                    exact absurd ((bitD i hi _ b1 b2 r hr hrb (by omega) e1).trans b4) e), sm_single, if_pos hw.1]
          rw [e1] at hbv
          have hu := (bitA _ b1 i hi b2).2.2.2.1
          rw [b4] at hu
          have hu1 : (sgnF (t ^^^ 2 ^ i) t * sgnF (t ^^^ 2 ^ i) t) % (p : Int) = 1 := by rw [hu]; exact Int.emod_eq_of_lt (by omega) (by omega)
          have := dvd_unit hu1 hbv
          rwa [Int.emod_emod] at this
        · rw [hx.off t hw, hoff _ hw]; simp
    · funext t
      have e : tail1 S i (nth (S.map x)) t = tail1 S i (fun j => x (nthN S j)) t := by
        unfold tail1
        exact sm_congr _ fun j hj => by
          show _ = x (nthN S j) * _
          rw [nth_map (α := Nat) _ _ hj, nthN_at2 hj]
      show ((x t - tail1 S i (fun j => x (nthN S j)) t) % p + tail1 S i (nth (S.map x)) t) % p = x t
      rw [e, Int.emod_add_emod, Int.sub_add_cancel]
      exact Int.emod_eq_of_lt (hx.bd t).1 (hx.bd t).2
  · intro a u ha hu
    have hul := ((vecs_mem _ _ _).1 hu).1
    have hGs : ∀ j, j < S.length → (a (nthN S j) + tail1 S i (nth u) (nthN S j)) % p = nth u j := fun j hj => by
      have hm := (hmem _).1 (nthN_mem2 hj)
      rw [tail_at hi hnd hS _ hj, ha.off _ (fun hh => by rw [hm.2.2.1] at hh; cases hh.2.1), Int.zero_add]
      exact Int.emod_eq_of_lt (nth_bd hu hj).1 (nth_bd hu hj).2
    refine ⟨⟨⟨fun t => ⟨Int.emod_nonneg _ (by omega), Int.emod_lt_of_pos _ hpp⟩, fun t ht => ?_⟩, fun v hv => ?_⟩, ?_, ?_⟩
    · show (a t + tail1 S i (nth u) t) % p = 0
      rw [hoff _ ht, ha.off t (fun hh => ht ⟨hh.1, hAW t hh.1 hh.2.1, hh.2.2⟩)]; simp
    · rw [bnd_mod, bnd_add, bnd_tail hi hS _ v hv, Int.add_zero]; exact ha.cyc v hv
    · funext t
      show ((a t + tail1 S i (nth u) t) % p - tail1 S i (fun j => (a (nthN S j) + tail1 S i (nth u) (nthN S j)) % p) t) % p = a t
      have e : tail1 S i (fun j => (a (nthN S j) + tail1 S i (nth u) (nthN S j)) % p) t = tail1 S i (nth u) t := by
        unfold tail1
        exact sm_congr _ fun j hj => by
          have := hGs j hj
          unfold tail1 at this
          show (a (nthN S j) + _) % (p : Int) * _ = _
          rw [this]
      rw [e, Int.sub_eq_add_neg, Int.emod_add_emod]
      rw [show a t + tail1 S i (nth u) t + -tail1 S i (nth u) t = a t by omega]
      exact Int.emod_eq_of_lt (ha.bd t).1 (ha.bd t).2
    · refine nth_ext (by simp [hul]) fun j hj => ?_
      rw [List.length_map] at hj
      rw [nth_map (α := Nat) _ _ hj, ← nthN_at2 hj]
      exact hGs j hj
end Go.Proofs.YtihfhfihladlcaaGreatDoor

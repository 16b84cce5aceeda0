/- Contracts of LongNumbers, the program's and the reference's. -/
import Derived.Deep.RegionWith
import Derived.Test.YtpoolkmcbeghjaaLong
namespace Go.Proofs.Ytpoolkmcbeghjaa
set_option maxRecDepth 20000
open Go.RowKit
set_option linter.unusedSimpArgs false
set_option linter.unusedVariables false

/-- v more at k -/
def addAt (xs : List Int) (k : Nat) (v : Int) : List Int := xs.set k (nth xs k + v)
theorem addAt_len (xs : List Int) (k : Nat) (v : Int) : (addAt xs k v).length = xs.length := by simp [addAt]
/-- row i's first j terms -/
def lnJ (f : List Nat) (p i : Nat) (xs : List Int) : Nat → List Int
  | 0 => xs
  | j + 1 => addAt (lnJ f p i xs j) (i + j) (sgn j (nthN f i * chz (p - i) j))
/-- the first i rows -/
def lnI (f : List Nat) (p : Nat) : Nat → List Int
  | 0 => List.replicate (p + 1) 0
  | i + 1 => lnJ f p i (lnI f p i) (p + 1 - i)
theorem lnJ_len (f : List Nat) (p i : Nat) (xs : List Int) : ∀ j, (lnJ f p i xs j).length = xs.length := by
  intro j
  induction j with
  | zero => rfl
  | succ j ih => unfold lnJ; rw [addAt_len, ih]
theorem lnI_len (f : List Nat) (p : Nat) : ∀ i, (lnI f p i).length = p + 1 := by
  intro i
  induction i with
  | zero => simp [lnI]
  | succ i ih => unfold lnI; rw [lnJ_len, ih]
theorem addAt_bd {xs : List Int} {B v C : Int} {k : Nat} (h : ∀ i, -B ≤ nth xs i ∧ nth xs i ≤ B) (hv : -C ≤ v ∧ v ≤ C) (hB : 0 ≤ B) (i : Nat) : -(B + C) ≤ nth (addAt xs k v) i ∧ nth (addAt xs k v) i ≤ B + C := by
  have h1 := h i
  have h2 := h k
  by_cases hi : i < xs.length
  · have e : nth (addAt xs k v) i = if k = i then nth xs k + v else nth xs i := by
      rw [nth_eq (by rw [addAt_len]; exact hi)]
      unfold addAt
      rw [List.getElem_set]
      split
      · rfl
      · rw [nth_eq hi]
    rw [e]
    split <;> omega
  · have e : nth (addAt xs k v) i = 0 := by
      unfold nth
      rw [List.getD_eq_getElem?_getD, List.getElem?_eq_none (by rw [addAt_len]; omega)]; rfl
    rw [e]; omega
theorem lterm {f : List Nat} (hf : ∀ x ∈ f, x ≤ 64) {p i j : Nat} (hp : p ≤ 6) (hj : j ≤ 6) (hi : i < f.length) : nthN f i * chz (p - i) j ≤ 320000000000 := by
  have h1 : nthN f i ≤ 64 := hf _ (nthN_mem hi)
  have h2 := chz_bd (n := p - i) (k := j) (by omega) (by omega)
  have : nthN f i * chz (p - i) j ≤ 64 * 5000000000 := Nat.mul_le_mul h1 h2
  omega
theorem lnJ_bd {f : List Nat} (hf : ∀ x ∈ f, x ≤ 64) {p i : Nat} (hp : p ≤ 6) (hi : i < f.length) {xs : List Int} {B : Int} (hB : 0 ≤ B) (h : ∀ i, -B ≤ nth xs i ∧ nth xs i ≤ B) :
    ∀ j : Nat, j ≤ 7 → ∀ t, -(B + 320000000000 * (j : Int)) ≤ nth (lnJ f p i xs j) t ∧ nth (lnJ f p i xs j) t ≤ B + 320000000000 * (j : Int) := by
  intro j
  induction j with
  | zero => intro _ t; simpa [lnJ] using h t
  | succ j ih =>
    intro hj t
    have h1 := lterm hf hp (show j ≤ 6 by omega) hi
    have h2 := sgn_bd j (nthN f i * chz (p - i) j)
    have h3 := addAt_bd (k := i + j) (v := sgn j (nthN f i * chz (p - i) j)) (C := 320000000000) (ih (by omega)) (by omega) (by omega) t
    unfold lnJ
    omega
theorem lnI_bd {f : List Nat} (hf : ∀ x ∈ f, x ≤ 64) {p : Nat} (hp : p ≤ 6) : ∀ i : Nat, i ≤ f.length → ∀ t, -(2240000000000 * (i : Int)) ≤ nth (lnI f p i) t ∧ nth (lnI f p i) t ≤ 2240000000000 * (i : Int) := by
  intro i
  induction i with
  | zero =>
    intro _ t
    have e : nth (lnI f p 0) t = 0 := by
      unfold nth lnI
      rw [List.getD_eq_getElem?_getD, List.getElem?_replicate]
      split <;> rfl
    rw [e]; omega
  | succ i ih =>
    intro hi t
    have := lnJ_bd hf hp (show i < f.length by omega) (B := 2240000000000 * (i : Int)) (by omega) (ih (by omega)) (p + 1 - i) (by omega) t
    unfold lnI
    omega

/-- a set of points below m has at most m of them -/
theorem sz_pow : ∀ m, m < 7 → ∀ s, s < 2 ^ m → sz s ≤ m := by decide +kernel
theorem cnt_pts {p : Int} {xs : List Int} {f : List Nat} {m : Nat} (hm : p = m) (h : Cnts p xs f) : f.length ≤ m + 1 := by
  rcases h with ⟨_, rfl⟩ | ⟨l, rfl, hA, hl, rfl⟩
  · simp
  · obtain ⟨l', he, hl2, _⟩ := hA.nat
    have := up_inj he; subst this
    have hm6 : m ≤ 6 := by have := hA.2.1; omega
    have hface : ∀ s, isFace l s = true → sz s ≤ m := fun s hs => by
      unfold isFace at hs
      obtain ⟨t, ht, hst⟩ := List.any_eq_true.1 hs
      have h1 : t < 2 ^ m := by have := (hl2 t ht).1; rw [hm] at this; simpa using this
      have h2 : s ≤ t := by
        unfold sub at hst
        have h3 : s &&& t = s := by simpa using hst
        rw [← h3]; exact Nat.and_le_right
      exact sz_pow m (by omega) s (by omega)
    have key : ∀ k, topTo (isFace l) k ≤ m + 1 := by
      intro k
      induction k with
      | zero => simp [topTo]
      | succ k ih =>
        rw [topTo_succ]
        split
        · rename_i h
          rw [Bool.and_eq_true] at h
          have := hface k h.1
          omega
        · exact ih
    unfold cntOf
    simpa using key 64

theorem iLong_no (p : Int) (a : Option Addr) (n c : Nat) (xs : List Int) (w : World) (h : IntsAt w a n xs) (hcap : n ≤ c) (hno : ¬ Anti p xs) :
    Calls Try.prog 15 #[.agg #[.int .i64 p, .slice a n c]] w (RetInts w []) := by
  have hx : IntsAt (w.alloc (.cells #[.int .i64 p, .slice a n c] 33)) a n xs := h.keep (by repeat (first | exact Below.refl _ _ | assumption | refine Below.setCell ?_ (by first | omega | (simp; done) | (simp; omega)) _ | refine Below.alloc ?_ (by first | omega | (simp; done) | (simp; omega)) _ | apply Below.drew))
  have Hx := Lib.hid hx; clear hx h
  have Hno := Lib.hid hno; clear hno
  have Hcap := Lib.hid hcap; clear hcap
  go_enter Try.func15, Try.ntmps15
  go_wp2_with fail
  refine (iIsComplex_any p a n c xs _ Hx.out Hcap.out false (by simp [Hno.out])).mono ?_
  rintro e w1 ⟨rfl, hb⟩
  have HB : Hid (Below w.heap.size w w1) := Lib.hid (Below.trans (by repeat (first | exact Below.refl _ _ | assumption | refine Below.setCell ?_ (by first | omega | (simp; done) | (simp; omega)) _ | refine Below.alloc ?_ (by first | omega | (simp; done) | (simp; omega)) _ | apply Below.drew)) (hb.mono (by simp <;> omega)))
  clear hb
  go_wp2_with fail
  go_ret
  exact ⟨none, 0, 0, rfl, Own.nil _ _ _, HB.out⟩
set_option maxRecDepth 100000 in
set_option maxHeartbeats 2000000 in
theorem iLong_yes (m : Nat) (a : Option Addr) (n c : Nat) (xs : List Int) (f : List Nat) (w : World) (h : IntsAt w a n xs) (hcap : n ≤ c) (hA : Anti m xs) (hC : Cnts m xs f) :
    Calls Try.prog 15 #[.agg #[.int .i64 m, .slice a n c]] w (RetInts w (lnI f m f.length)) := by
  have hx : IntsAt (w.alloc (.cells #[.int .i64 m, .slice a n c] 33)) a n xs := h.keep (by repeat (first | exact Below.refl _ _ | assumption | refine Below.setCell ?_ (by first | omega | (simp; done) | (simp; omega)) _ | refine Below.alloc ?_ (by first | omega | (simp; done) | (simp; omega)) _ | apply Below.drew))
  have Hx := Lib.hid hx; have Hcap := Lib.hid hcap; have HC := Lib.hid hC; have HA := Lib.hid hA
  have hm6 : m ≤ 6 := by have := hA.2.1; omega
  have hfm := cnt_pts rfl hC
  have hf7 := hC.len
  have Hf := Lib.hid hC.le
  obtain ⟨M, hM⟩ : ∃ M, M = m + 1 := ⟨_, rfl⟩
  have hM1 : (m : Int) + 1 = (M : Int) := by omega
  have HM := Lib.hid hM
  have hM7 : M ≤ 7 := by omega
  clear hx h hcap hC hA hM
  obtain ⟨V, hV⟩ : ∃ V, V = lnI f m f.length := ⟨_, rfl⟩
  rw [← hV]
  have HV := Lib.hid hV
  clear hV
  go_enter Try.func15, Try.ntmps15
  go_wp2_with fail
  refine (iIsComplex_any m a n c xs _ Hx.out Hcap.out true (by simp [HA.out])).mono ?_
  rintro e w1 ⟨rfl, hb⟩
  have HB : Hid (Below w.heap.size w w1) := Lib.hid (Below.trans (by repeat (first | exact Below.refl _ _ | assumption | refine Below.setCell ?_ (by first | omega | (simp; done) | (simp; omega)) _ | refine Below.alloc ?_ (by first | omega | (simp; done) | (simp; omega)) _ | apply Below.drew)) (hb.mono (by simp <;> omega)))
  obtain ⟨hc, hf⟩ := bcell hb
  have hz : w.heap.size + 1 ≤ w1.heap.size := by have := hb.size; simp at this; omega
  have q0 : w1.cell? ⟨w.heap.size, 0, none⟩ = some (.int .i64 m) := by rw [hc _ _ (by simp)]; simp
  have q1 : w1.cell? ⟨w.heap.size, 1, none⟩ = some (.slice a n c) := by rw [hc _ _ (by simp)]; simp
  have Hx1 := Lib.hid (Hx.out.keep hb)
  clear hb hc hf
  have Q0 := Lib.hid q0; have Q1 := Lib.hid q1
  go_wp2_with (at_make; refine mk_ints rfl _ _ rfl _ rfl rfl M rfl (by omega) ?_; intro g w2 hown2 hb2; have HO2 := Lib.hid hown2; have HB2 := Lib.hid hb2; have q2 := hb2.cell (p := ⟨w.heap.size, 0, none⟩) hz; have q3 := hb2.cell (p := ⟨w.heap.size, 1, none⟩) hz; rw [Q0.out] at q2; rw [Q1.out] at q3; clear hown2 hb2)
  have Hx2 := Lib.hid (Hx1.out.keep HB2.out)
  have hgB := HO2.out.lt g rfl
  refine (iCounts_any m a n c xs f _ Hx2.out Hcap.out HC.out).mono ?_
  rintro e w3 ⟨ad, k, d, rfl, hown, hb⟩
  have HO3 := Lib.hid (HO2.out.keep hb)
  have HB3 := Lib.hid (HB2.out.trans (hb.mono HB2.out.size))
  have hfl : f.length = k := by have := hown.len; rwa [up_len] at this
  have Hfl := Lib.hid hfl
  have HX := Lib.hid hown
  have hne : ad ≠ some ⟨g, 0, none⟩ := fun e => by subst e; have := hown.lt g rfl; omega
  have Hne := Lib.hid hne
  clear hb hown hne
  rw [hfl] at hfm hf7
  clear hfl
  go_wp2_with fail
  go_loopw [4, 5, 6, 7, 18] (fun _ _ _ _ i wr => ∃ I : Nat, I ≤ k ∧ i = .int .i64 I ∧ Below w1.heap.size w1 wr ∧ Own 3 wr w1.heap.size (some ⟨g, 0, none⟩) M M (lnI f m I) ∧ Own 3 wr w2.heap.size ad k d (up f)) (fun _ _ _ _ i _ => k - (intOf i).toNat)
  case atStart => exact ⟨0, Nat.zero_le _, rfl, HB3.out, by unfold lnI; rw [← HM.out]; exact HO3.out, HX.out⟩
  case round =>
    obtain ⟨I, hI, rfl, hbr, hor, hxr⟩ := hrel
    obtain ⟨wo, rfl⟩ : ∃ x : World, x = wr := ⟨_, rfl⟩
    have HBr := Lib.hid hbr; have HOr := Lib.hid hor; have HXr := Lib.hid hxr
    clear hbr hor hxr
    by_cases hlt : I < k
    · have hlt' : (I : Int) < k := by omega
      have hI0 : (0 : Int) ≤ I := by omega
      obtain ⟨b1, o1, had, hcc⟩ := HXr.out.reads.cells (by omega)
      subst had
      have hck := hcc I (by omega)
      rw [nth_up] at hck
      have hf64 := Hf.out _ (nthN_mem (xs := f) (k := I) (by rw [Hfl.out]; omega))
      obtain ⟨x, hxe⟩ : ∃ x, x = nthN f I := ⟨_, rfl⟩
      rw [← hxe] at hck hf64
      have Hxe := Lib.hid hxe
      obtain ⟨q, hq⟩ : ∃ q, q = m - I := ⟨_, rfl⟩
      have hqi : (m : Int) - I = (q : Int) := by omega
      have Hq := Lib.hid hq
      have HIl := Lib.hid (lnI_bd Hf.out hm6 I (by rw [Hfl.out]; omega))
      clear hcc hxe hq
      go_wp2_with fail
      go_loopw [6, 7] (fun j _ wr => ∃ J : Nat, J ≤ q + 1 ∧ j = .int .i64 J ∧ Below w1.heap.size w1 wr ∧ Own 3 wr w1.heap.size (some ⟨g, 0, none⟩) M M (lnJ f m I (lnI f m I) J) ∧ Own 3 wr w2.heap.size (some ⟨b1, o1, none⟩) k d (up f)) (fun j _ _ => q + 1 - (intOf j).toNat)
      case atStart => exact ⟨0, Nat.zero_le _, rfl, HBr.out, HOr.out, HXr.out⟩
      case round =>
        obtain ⟨J, hJ, rfl, hbi, hoi, hxi⟩ := hrel
        have HBi := Lib.hid hbi; have HOi := Lib.hid hoi; have HXi := Lib.hid hxi
        have z0 := (hbi.cell (p := ⟨w.heap.size, 0, none⟩) hz).trans Q0.out
        have z1 := (hbi.cell (p := ⟨w.heap.size, 1, none⟩) hz).trans Q1.out
        by_cases hjq : J ≤ q
        · have hjq' : (J : Int) ≤ q := by omega
          obtain ⟨t, ht⟩ : ∃ t, t = I + J := ⟨_, rfl⟩
          have hti : (I : Int) + J = (t : Int) := by omega
          have hMq := HM.out; have hqq := Hq.out
          have htM : (t : Int) < M := by omega
          have ht0 : (0 : Int) ≤ t := by omega
          have htn : t < M := by omega
          have hcg := hoi.reads.cellAt t htn
          rw [Nat.zero_add] at hcg
          have hfro : wr.frozen? ⟨g, t, none⟩ = false := by
            obtain ⟨g', hg', _, _, _, hf⟩ := Row.cells hoi (by omega)
            cases hg'; exact hf t
          have hck2 := hxi.reads.cellAt I (by omega)
          rw [nth_up, ← Hxe.out] at hck2
          have hbd := lnJ_bd Hf.out hm6 (i := I) (by rw [Hfl.out]; omega) (by omega) HIl.out J (by omega) t
          have htm := lterm Hf.out hm6 (i := I) (j := J) (by omega) (by rw [Hfl.out]; omega)
          have hS : lnJ f m I (lnI f m I) (J + 1) = (lnJ f m I (lnI f m I) J).set t (nth (lnJ f m I (lnI f m I) J) t + sgn J (x * chz q J)) := by rw [ht, Hq.out, Hxe.out]; rfl
          have hcb := chz_bd (n := q) (k := J) (by omega) (by omega)
          rw [← Hq.out, ← Hxe.out] at htm
          obtain ⟨y, hy⟩ : ∃ y, y = chz q J := ⟨_, rfl⟩
          rw [← hy] at htm hcb hS
          obtain ⟨z, hze⟩ : ∃ z, z = x * y := ⟨_, rfl⟩
          rw [← hze] at htm hS
          obtain ⟨u, hu⟩ : ∃ u, u = nth (lnJ f m I (lnI f m I) J) t := ⟨_, rfl⟩
          rw [← hu] at hcg hbd hS
          have hmul : IntKind.i64.wrap ((x : Int) * (y : Int)) = (z : Int) := mul_i64 rfl rfl hze.symm (by omega)
          have hmul2 : (x : Int) * (y : Int) = (z : Int) := by rw [hze]; norm_cast
          have hu1 : -20000000000000 ≤ u := by omega
          have hu2 : u ≤ 20000000000000 := by omega
          have HS := Lib.hid hS
          have Hy := Lib.hid hy
          have hq30 : q ≤ 30 := by omega
          have hJ30 : J ≤ 30 := by omega
          clear hbi hoi hxi hy hze hu hS hbd ht hcb hMq hqq
          rcases Nat.mod_two_eq_zero_or_one J with hpar | hpar
          · have hpi : (J : Int) % 2 = 0 := by omega
            have HSg : Hid (sgn J z = (z : Int)) := Lib.hid (by unfold sgn; rw [if_neg (by omega)])
            clear hpar
            go_wp2_with (go_at_call 68; refine (iChoose_any q J _ hq30 hJ30).mono ?_; rintro e we ⟨rfl, rfl⟩; rw [← Hy.out])
            go_roundw
            case rel => exact ⟨J + 1, by omega, by go_num, HBi.out.setCell (by simp; omega) _, by rw [HS.out, HSg.out]; exact HOi.out.set t (u + z), HXi.out.setOther _ Hne.out⟩
            case measure => simp [intOf]; omega
          · have hpi : (J : Int) % 2 = 1 := by omega
            have HSg : Hid (sgn J z = -(z : Int)) := Lib.hid (by unfold sgn; rw [if_pos hpar])
            clear hpar
            go_wp2_with (go_at_call 68; refine (iChoose_any q J _ hq30 hJ30).mono ?_; rintro e we ⟨rfl, rfl⟩; rw [← Hy.out])
            go_roundw
            case rel => exact ⟨J + 1, by omega, by go_num, HBi.out.setCell (by simp; omega) _, by rw [HS.out, HSg.out]; exact HOi.out.set t (u + -z), HXi.out.setOther _ Hne.out⟩
            case measure => simp [intOf]; omega
        · obtain rfl : J = q + 1 := by omega
          have hgt : ¬ ((q : Int) + 1 ≤ q) := by omega
          have HL := Lib.hid (show lnI f m (I + 1) = lnJ f m I (lnI f m I) (q + 1) by rw [show q + 1 = m + 1 - I by have := Hq.out; have := HM.out; omega]; rfl)
          clear hbi hoi hxi
          go_wp2_with fail
          go_roundw
          case rel => exact ⟨I + 1, by omega, by go_num, HBi.out, by rw [HL.out]; exact HOi.out, HXi.out⟩
          case measure => simp [intOf]; omega
    · obtain rfl : I = k := by omega
      have hii : ¬ ((I : Int) < I) := by omega
      have Hend : Hid (V = lnI f m I) := Lib.hid (by rw [HV.out, Hfl.out])
      go_wp2_with fail
      go_ret
      exact ⟨_, M, M, rfl, by rw [Hend.out]; exact HOr.out.mono (by omega), HB.out.trans (HBr.out.mono (by omega))⟩
theorem sLong_no (p : Int) (a : Option Addr) (n c : Nat) (xs : List Int) (w : World) (h : IntsAt w a n xs) (hno : ¬ Anti p xs) :
    Calls Try.prog 22 #[.agg #[.int .i64 p, .slice a n c]] w (RetInts w []) := by
  have hx : IntsAt (w.alloc (.cells #[.int .i64 p, .slice a n c] 33)) a n xs := h.keep (by repeat (first | exact Below.refl _ _ | assumption | refine Below.setCell ?_ (by first | omega | (simp; done) | (simp; omega)) _ | refine Below.alloc ?_ (by first | omega | (simp; done) | (simp; omega)) _ | apply Below.drew))
  have Hx := Lib.hid hx; clear hx h
  have Hno := Lib.hid hno; clear hno
  go_enter Try.func22, Try.ntmps22
  go_wp2_with fail
  refine (sIsComplex_any p a n c xs _ Hx.out false (by simp [Hno.out])).mono ?_
  rintro e w1 ⟨rfl, hb⟩
  have HB : Hid (Below w.heap.size w w1) := Lib.hid (Below.trans (by repeat (first | exact Below.refl _ _ | assumption | refine Below.setCell ?_ (by first | omega | (simp; done) | (simp; omega)) _ | refine Below.alloc ?_ (by first | omega | (simp; done) | (simp; omega)) _ | apply Below.drew)) (hb.mono (by simp <;> omega)))
  clear hb
  go_wp2_with fail
  go_ret
  exact ⟨_, 0, 0, rfl, Own.empty 3 _ _ HB.out.size, by have := HB.out.alloc HB.out.size (.cells #[] 3); exact this⟩
set_option maxRecDepth 100000 in
set_option maxHeartbeats 2000000 in
theorem sLong_yes (m : Nat) (a : Option Addr) (n c : Nat) (xs : List Int) (f : List Nat) (w : World) (h : IntsAt w a n xs) (hA : Anti m xs) (hC : Cnts m xs f) :
    Calls Try.prog 22 #[.agg #[.int .i64 m, .slice a n c]] w (RetInts w (lnI f m f.length)) := by
  have hx : IntsAt (w.alloc (.cells #[.int .i64 m, .slice a n c] 33)) a n xs := h.keep (by repeat (first | exact Below.refl _ _ | assumption | refine Below.setCell ?_ (by first | omega | (simp; done) | (simp; omega)) _ | refine Below.alloc ?_ (by first | omega | (simp; done) | (simp; omega)) _ | apply Below.drew))
  have Hx := Lib.hid hx; have HC := Lib.hid hC; have HA := Lib.hid hA
  have hm6 : m ≤ 6 := by have := hA.2.1; omega
  have hfm := cnt_pts rfl hC
  have hf7 := hC.len
  have Hf := Lib.hid hC.le
  obtain ⟨M, hM⟩ : ∃ M, M = m + 1 := ⟨_, rfl⟩
  have hM1 : (m : Int) + 1 = (M : Int) := by omega
  have HM := Lib.hid hM
  have hM7 : M ≤ 7 := by omega
  clear hx h hC hA hM
  obtain ⟨V, hV⟩ : ∃ V, V = lnI f m f.length := ⟨_, rfl⟩
  rw [← hV]
  have HV := Lib.hid hV
  clear hV
  go_enter Try.func22, Try.ntmps22
  go_wp2_with fail
  refine (sIsComplex_any m a n c xs _ Hx.out true (by simp [HA.out])).mono ?_
  rintro e w1 ⟨rfl, hb⟩
  have HB : Hid (Below w.heap.size w w1) := Lib.hid (Below.trans (by repeat (first | exact Below.refl _ _ | assumption | refine Below.setCell ?_ (by first | omega | (simp; done) | (simp; omega)) _ | refine Below.alloc ?_ (by first | omega | (simp; done) | (simp; omega)) _ | apply Below.drew)) (hb.mono (by simp <;> omega)))
  obtain ⟨hc, hf⟩ := bcell hb
  have hz : w.heap.size + 1 ≤ w1.heap.size := by have := hb.size; simp at this; omega
  have q0 : w1.cell? ⟨w.heap.size, 0, none⟩ = some (.int .i64 m) := by rw [hc _ _ (by simp)]; simp
  have q1 : w1.cell? ⟨w.heap.size, 1, none⟩ = some (.slice a n c) := by rw [hc _ _ (by simp)]; simp
  have Hx1 := Lib.hid (Hx.out.keep hb)
  clear hb hc hf
  have Q0 := Lib.hid q0; have Q1 := Lib.hid q1
  go_wp2_with (at_make; refine mk_ints rfl _ _ rfl _ rfl rfl M rfl (by omega) ?_; intro g w2 hown2 hb2; have HO2 := Lib.hid hown2; have HB2 := Lib.hid hb2; have q2 := hb2.cell (p := ⟨w.heap.size, 0, none⟩) hz; have q3 := hb2.cell (p := ⟨w.heap.size, 1, none⟩) hz; rw [Q0.out] at q2; rw [Q1.out] at q3; clear hown2 hb2)
  have Hx2 := Lib.hid (Hx1.out.keep HB2.out)
  have hgB := HO2.out.lt g rfl
  refine (sCounts_any m a n c xs f _ Hx2.out HC.out).mono ?_
  rintro e w3 ⟨ad, k, d, rfl, hown, hb⟩
  have HO3 := Lib.hid (HO2.out.keep hb)
  have HB3 := Lib.hid (HB2.out.trans (hb.mono HB2.out.size))
  have hfl : f.length = k := by have := hown.len; rwa [up_len] at this
  have Hfl := Lib.hid hfl
  have HX := Lib.hid hown
  have hne : ad ≠ some ⟨g, 0, none⟩ := fun e => by subst e; have := hown.lt g rfl; omega
  have Hne := Lib.hid hne
  clear hb hown hne
  rw [hfl] at hfm hf7
  clear hfl
  go_wp2_with fail
  go_loopw [5, 6] (fun i _ wr => ∃ I : Nat, I ≤ k ∧ i = .int .i64 I ∧ Below w1.heap.size w1 wr ∧ Own 3 wr w1.heap.size (some ⟨g, 0, none⟩) M M (lnI f m I) ∧ Own 3 wr w2.heap.size ad k d (up f)) (fun i _ _ => k - (intOf i).toNat)
  case atStart => exact ⟨0, Nat.zero_le _, rfl, HB3.out, by unfold lnI; rw [← HM.out]; exact HO3.out, HX.out⟩
  case round =>
    obtain ⟨I, hI, rfl, hbr, hor, hxr⟩ := hrel
    obtain ⟨wo, rfl⟩ : ∃ x : World, x = wr := ⟨_, rfl⟩
    have HBr := Lib.hid hbr; have HOr := Lib.hid hor; have HXr := Lib.hid hxr
    clear hbr hor hxr
    by_cases hlt : I < k
    · have hlt' : (I : Int) < k := by omega
      have hI0 : (0 : Int) ≤ I := by omega
      obtain ⟨b1, o1, had, hcc⟩ := HXr.out.reads.cells (by omega)
      subst had
      have hck := hcc I (by omega)
      rw [nth_up] at hck
      have hf64 := Hf.out _ (nthN_mem (xs := f) (k := I) (by rw [Hfl.out]; omega))
      obtain ⟨x, hxe⟩ : ∃ x, x = nthN f I := ⟨_, rfl⟩
      rw [← hxe] at hck hf64
      have Hxe := Lib.hid hxe
      obtain ⟨q, hq⟩ : ∃ q, q = m - I := ⟨_, rfl⟩
      have hqi : (m : Int) - I = (q : Int) := by omega
      have Hq := Lib.hid hq
      have HIl := Lib.hid (lnI_bd Hf.out hm6 I (by rw [Hfl.out]; omega))
      clear hcc hxe hq
      go_wp2_with fail
      go_loopw [6] (fun j wr => ∃ J : Nat, J ≤ q + 1 ∧ j = .int .i64 J ∧ Below w1.heap.size w1 wr ∧ Own 3 wr w1.heap.size (some ⟨g, 0, none⟩) M M (lnJ f m I (lnI f m I) J) ∧ Own 3 wr w2.heap.size (some ⟨b1, o1, none⟩) k d (up f)) (fun j _ => q + 1 - (intOf j).toNat)
      case atStart => exact ⟨0, Nat.zero_le _, rfl, HBr.out, HOr.out, HXr.out⟩
      case round =>
        obtain ⟨J, hJ, rfl, hbi, hoi, hxi⟩ := hrel
        have HBi := Lib.hid hbi; have HOi := Lib.hid hoi; have HXi := Lib.hid hxi
        have z0 := (hbi.cell (p := ⟨w.heap.size, 0, none⟩) hz).trans Q0.out
        have z1 := (hbi.cell (p := ⟨w.heap.size, 1, none⟩) hz).trans Q1.out
        by_cases hjq : J ≤ q
        · have hjq' : (J : Int) ≤ q := by omega
          obtain ⟨t, ht⟩ : ∃ t, t = I + J := ⟨_, rfl⟩
          have hti : (I : Int) + J = (t : Int) := by omega
          have hMq := HM.out; have hqq := Hq.out
          have htM : (t : Int) < M := by omega
          have ht0 : (0 : Int) ≤ t := by omega
          have htn : t < M := by omega
          have hcg := hoi.reads.cellAt t htn
          rw [Nat.zero_add] at hcg
          have hfro : wr.frozen? ⟨g, t, none⟩ = false := by
            obtain ⟨g', hg', _, _, _, hf⟩ := Row.cells hoi (by omega)
            cases hg'; exact hf t
          have hck2 := hxi.reads.cellAt I (by omega)
          rw [nth_up, ← Hxe.out] at hck2
          have hbd := lnJ_bd Hf.out hm6 (i := I) (by rw [Hfl.out]; omega) (by omega) HIl.out J (by omega) t
          have htm := lterm Hf.out hm6 (i := I) (j := J) (by omega) (by rw [Hfl.out]; omega)
          have hS : lnJ f m I (lnI f m I) (J + 1) = (lnJ f m I (lnI f m I) J).set t (nth (lnJ f m I (lnI f m I) J) t + sgn J (x * chz q J)) := by rw [ht, Hq.out, Hxe.out]; rfl
          have hcb := chz_bd (n := q) (k := J) (by omega) (by omega)
          rw [← Hq.out, ← Hxe.out] at htm
          obtain ⟨y, hy⟩ : ∃ y, y = chz q J := ⟨_, rfl⟩
          rw [← hy] at htm hcb hS
          obtain ⟨z, hze⟩ : ∃ z, z = x * y := ⟨_, rfl⟩
          rw [← hze] at htm hS
          obtain ⟨u, hu⟩ : ∃ u, u = nth (lnJ f m I (lnI f m I) J) t := ⟨_, rfl⟩
          rw [← hu] at hcg hbd hS
          have hmul : IntKind.i64.wrap ((x : Int) * (y : Int)) = (z : Int) := mul_i64 rfl rfl hze.symm (by omega)
          have hmul2 : (x : Int) * (y : Int) = (z : Int) := by rw [hze]; norm_cast
          have hu1 : -20000000000000 ≤ u := by omega
          have hu2 : u ≤ 20000000000000 := by omega
          have HS := Lib.hid hS
          have Hy := Lib.hid hy
          have hq30 : q ≤ 30 := by omega
          have hJ30 : J ≤ 30 := by omega
          clear hbi hoi hxi hy hze hu hS hbd ht hcb hMq hqq
          have HSg : Hid (sgn J z = (z : Int) * (1 - 2 * ((J : Int) % 2))) := Lib.hid (by
            unfold sgn
            rcases Nat.mod_two_eq_zero_or_one J with hpar | hpar
            · rw [if_neg (by omega), show (J : Int) % 2 = 0 by omega]; omega
            · rw [if_pos hpar, show (J : Int) % 2 = 1 by omega]; omega)
          have hsb := sgn_bd J z
          have HV6 : Hid (wrap64 (u + wrap64 ((z : Int) * (1 - 2 * ((J : Int) % 2)))) = u + sgn J z) := Lib.hid (by rw [← HSg.out]; unfold wrap64; omega)
          have hmj : 0 ≤ (J : Int) % 2 ∧ (J : Int) % 2 ≤ 1 := by omega
          obtain ⟨v, hv⟩ : ∃ v, v = u + sgn J z := ⟨_, rfl⟩
          have Hv := Lib.hid hv
          clear hsb hv
          have HCall : Hid (∀ W, Calls Try.prog 75 #[.int .i64 q, .int .i64 J] W fun e w' => e = .returned (.int .i64 y) ∧ W = w') := Lib.hid (fun W => by rw [Hy.out]; exact sChoose_any q J W hq30 hJ30)
          have hw1 : IntKind.i64.wrap ((I : Int) + J) = (t : Int) := by rw [hti]; exact IntWalk.i64_in _ (by omega)
          have hw3 : IntKind.i64.wrap (t : Int) = t := IntWalk.i64_in _ (by omega)
          have hw4 : IntKind.i64.wrap (q : Int) = q := IntWalk.i64_in _ (by omega)
          have hw5 : IntKind.i64.wrap (z : Int) = z := IntWalk.i64_in _ (by omega)
          have hn0 : IntKind.i64.wrap 0 = 0 := rfl
          have hn1 : IntKind.i64.wrap 1 = 1 := rfl
          have hn2 : IntKind.i64.wrap 2 = 2 := rfl
          have hn3 : IntKind.i64.wrap (-1) = -1 := rfl
          have hw2 : IntKind.i64.wrap ((m : Int) - I) = (q : Int) := by rw [hqi]; exact IntWalk.i64_in _ (by omega)
          have HO5 : Hid (Own 3 (wr.setCell ⟨g, t, none⟩ (.int .i64 v)) w1.heap.size (some ⟨g, 0, none⟩) M M (lnJ f m I (lnI f m I) (J + 1))) := Lib.hid (by rw [HS.out, Hv.out]; exact HOi.out.set t (u + sgn J z))
          have HX5 := Lib.hid (HXi.out.setOther (g := g) (i := t) (.int .i64 v) Hne.out)
          have HB5 := Lib.hid (HBi.out.setCell (p := ⟨g, t, none⟩) (by simp; omega) (.int .i64 v))
          go_wp2_with fail
          clear hw1 hw2
          go_region_with (go_at_call 75; (with_reducible refine (HCall.out _).mono ?_); rintro e w' ⟨rfl, rfl⟩)
          all_goals (
            go_wp2_with fail
            go_roundw
            case rel =>
              try rw [HV6.out, ← Hv.out]
              first
                | exact ⟨J + 1, by omega, by go_num, HB5.out.drew, HO5.out.drew, HX5.out.drew⟩
                | (rw [World.setCell_drew]; exact ⟨J + 1, by omega, by go_num, HB5.out.drew, HO5.out.drew, HX5.out.drew⟩)
                | (rw [← World.setCell_drew]; exact ⟨J + 1, by omega, by go_num, HB5.out.drew, HO5.out.drew, HX5.out.drew⟩)
            case measure => simp [intOf]; omega)
        · obtain rfl : J = q + 1 := by omega
          have hgt : ¬ ((q : Int) + 1 ≤ q) := by omega
          have HL := Lib.hid (show lnI f m (I + 1) = lnJ f m I (lnI f m I) (q + 1) by rw [show q + 1 = m + 1 - I by have := Hq.out; have := HM.out; omega]; rfl)
          clear hbi hoi hxi
          go_wp2_with fail
          go_roundw
          case rel => exact ⟨I + 1, by omega, by go_num, HBi.out, by rw [HL.out]; exact HOi.out, HXi.out⟩
          case measure => simp [intOf]; omega
    · obtain rfl : I = k := by omega
      have hii : ¬ ((I : Int) < I) := by omega
      have Hend : Hid (V = lnI f m I) := Lib.hid (by rw [HV.out, Hfl.out])
      go_wp2_with fail
      go_ret
      exact ⟨_, M, M, rfl, by rw [Hend.out]; exact HOr.out.mono (by omega), HB.out.trans (HBr.out.mono (by omega))⟩
end Go.Proofs.Ytpoolkmcbeghjaa

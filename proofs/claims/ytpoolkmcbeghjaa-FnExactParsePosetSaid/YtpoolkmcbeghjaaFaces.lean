/- Contracts of what lists the faces of a complex: subsetFamily, facesIn, l3Has, FacesOf, topSize, bySize, FacesOfSize. -/
import Derived.Test.YtpoolkmcbeghjaaGrid
import Derived.Test.YtpoolkmcbeghjaaFrom
import Derived.Test.YtpoolkmcbeghjaaAnti2
namespace Go.Proofs.Ytpoolkmcbeghjaa
set_option maxRecDepth 20000
open Go.RowKit
set_option linter.unusedSimpArgs false
set_option linter.unusedVariables false

/-- the next subset below u -/
def nextOk (t u : Nat) : Bool := !(sub u t) || u == 0 || (sub ((u - 1) &&& t) t && decide ((u - 1) &&& t < u) && (List.range 64).all fun s => !(sub s t) || decide (u ≤ s) || decide (s ≤ (u - 1) &&& t))
theorem nextOk_all : ((List.range 64).all fun t => (List.range 64).all fun u => nextOk t u) = true := by decide +kernel
theorem next_sub (t : Nat) (ht : t < 64) (u : Nat) (hu : u < 64) (hut : sub u t = true) (h0 : 0 < u) : sub ((u - 1) &&& t) t = true ∧ (u - 1) &&& t < u ∧ ∀ s : Nat, s < 64 → sub s t = true → s < u → s ≤ (u - 1) &&& t := by
  have h := List.all_eq_true.1 (List.all_eq_true.1 nextOk_all t (List.mem_range.2 ht)) u (List.mem_range.2 hu)
  unfold nextOk at h
  have hu0 : (u == 0) = false := by simp; omega
  rw [hut, hu0] at h
  simp only [Bool.not_true, Bool.false_or, Bool.and_eq_true, decide_eq_true_eq, List.all_eq_true, List.mem_range, Bool.or_eq_true, Bool.not_eq_true'] at h
  refine ⟨h.1.1, h.1.2, fun s hs h1 h2 => ?_⟩
  rcases h.2 s hs with (h3 | h3) | h3
  · rw [h1] at h3; cases h3
  · omega
  · exact h3
theorem sub_step {t u s : Nat} (ht : t < 64) (hu : u < 64) (hut : sub u t = true) (h0 : 0 < u) (hs : s < 64) :
    ((sub s t && decide (u < s)) || s == u) = (sub s t && decide ((u - 1) &&& t < s)) := by
  obtain ⟨_, h2, h3⟩ := next_sub t ht u hu hut h0
  have h4 := h3 s hs
  rw [Bool.eq_iff_iff]
  simp only [Bool.or_eq_true, Bool.and_eq_true, decide_eq_true_eq, beq_iff_eq]
  constructor
  · rintro (⟨h, h'⟩ | rfl)
    · exact ⟨h, by omega⟩
    · exact ⟨hut, h2⟩
  · rintro ⟨h, h'⟩
    by_cases hsu : s < u
    · have := h4 h hsu; omega
    · by_cases e : s = u
      · exact .inr e
      · exact .inl ⟨h, by omega⟩
theorem sub_lastStep {t s : Nat} : ((sub s t && decide (0 < s)) || s == 0) = sub s t := by
  rw [Bool.eq_iff_iff]
  simp only [Bool.or_eq_true, Bool.and_eq_true, decide_eq_true_eq, beq_iff_eq]
  constructor
  · rintro (h | rfl)
    · exact h.1
    · unfold sub; simp
  · intro h
    by_cases e : s = 0
    · exact .inr e
    · exact .inl ⟨h, by omega⟩

/-- the faces of the complex with these facets -/
def isFace (l : List Nat) (s : Nat) : Bool := l.any fun t => sub s t

theorem subsetFamily_any (t : Nat) (w : World) (ht : t < 64) :
    Calls Try.prog 100 #[.int .i64 t] w fun e w' => e = .returned (.int .u64 (fam (sub · t))) ∧ w = w' := by
  go_enter Try.func100, Try.ntmps100
  go_wp2_with fail
  go_loop [3, 4] (fun F u => ∃ (x G : Nat), u = .int .i64 x ∧ F = .int .u64 G ∧ x < 64 ∧ sub x t = true ∧ G = fam fun s => sub s t && decide (x < s)) (fun _ u => (intOf u).toNat)
  case atStart =>
    refine ⟨t, 0, rfl, rfl, ht, sub_refl t, ?_⟩
    rw [← fam_zero]
    refine fam_congr fun s hs => ?_
    cases h : sub s t
    · rfl
    · have := sub_le h
      have h' : ¬ t < s := by omega
      simp [h']
  case round =>
    obtain ⟨x, G, rfl, rfl, hx, hxt, hG⟩ := hrel
    have hFG : Fam G := by rw [hG]; exact fam_Fam _
    have hor := w_or64bit G x hFG hx
    have hshl := w_shl64 x hx
    have HG := Lib.hid hG; clear hG
    have Hxt := Lib.hid hxt; clear hxt
    by_cases h0 : 0 < x
    · obtain ⟨y, hy⟩ : ∃ y, y = x - 1 := ⟨_, rfl⟩
      have hym : (x : Int) - 1 = (y : Int) := by omega
      have hand := w_and y t (by omega) ht
      have hnext := next_sub t ht x hx Hxt.out h0
      rw [← hy] at hnext
      have hne : ((x : Int) == 0) = false := by simp; omega
      have hx1 : (1 : Int) ≤ x := by omega
      have HY := Lib.hid hy; clear hy
      have HN := Lib.hid hnext; clear hnext
      go_wp2_with fail
      go_round
      case rel =>
        refine ⟨y &&& t, G ||| 2 ^ x, rfl, by first | rfl | (congr 1; push_cast; rfl), and_lt64 (by omega), HN.out.1, ?_⟩
        rw [HG.out, fam_or_bit _ hx]
        refine fam_congr fun s hs => ?_
        rw [HY.out]
        exact sub_step ht hx Hxt.out h0 hs
      case measure => have := HN.out.2.1; simp [intOf]; omega
    · obtain rfl : x = 0 := by omega
      go_wp2_with fail
      go_ret
      refine ⟨?_, rfl⟩
      have e : G ||| 2 ^ 0 = fam (sub · t) := by
        rw [HG.out, fam_or_bit _ hx]
        exact fam_congr fun s hs => sub_lastStep
      rw [← e]
      have hor' : bits .or .u64 (G : Int) 1 = ((G ||| 1 : Nat) : Int) := by simpa using hor
      simp [hor']
end Go.Proofs.Ytpoolkmcbeghjaa

/- Contracts of topSize, bySize, FacesOfSize. -/
import Derived.Deep.RegionHeld3
import Derived.Test.YtpoolkmcbeghjaaFaces2
namespace Go.Proofs.Ytpoolkmcbeghjaa
set_option maxRecDepth 20000
open Go.RowKit
set_option linter.unusedSimpArgs false
set_option linter.unusedVariables false

/-- the number of points of the largest set with p below k, and one more; 0 for none -/
def topTo (p : Nat → Bool) (k : Nat) : Nat := (List.range k).foldl (fun m s => if p s && decide (m ≤ sz s) then sz s + 1 else m) 0
theorem topTo_succ (p : Nat → Bool) (k : Nat) : topTo p (k + 1) = if p k && decide (topTo p k ≤ sz k) then sz k + 1 else topTo p k := by
  unfold topTo; rw [List.range_succ, List.foldl_append]; rfl
theorem topTo_le (p : Nat → Bool) (k : Nat) : topTo p k ≤ 7 := by
  induction k with
  | zero => unfold topTo; simp
  | succ k ih =>
    rw [topTo_succ]
    split
    · have := sz_le k; omega
    · exact ih
theorem topTo_ge {p : Nat → Bool} {s : Nat} (hs : p s = true) : ∀ k, s < k → sz s < topTo p k := by
  intro k
  induction k with
  | zero => intro h; omega
  | succ k ih =>
    intro h
    rw [topTo_succ]
    by_cases hsk : s = k
    · subst hsk
      rw [hs]
      split <;> simp_all
    · have := ih (by omega)
      split
      · simp_all; omega
      · exact this
/-- the sets of k points with p, below S -/
def lvlTo (p : Nat → Bool) (S k : Nat) : List Nat := (List.range S).filter fun s => p s && sz s == k
theorem lvl_no {p : Nat → Bool} {S : Nat} (h : p S = false) (k : Nat) : lvlTo p (S + 1) k = lvlTo p S k := by
  unfold lvlTo; rw [List.range_succ, List.filter_append]; simp [h]
theorem lvl_yes {p : Nat → Bool} {S : Nat} (h : p S = true) (k : Nat) : lvlTo p (S + 1) k = if k = sz S then lvlTo p S k ++ [S] else lvlTo p S k := by
  unfold lvlTo; rw [List.range_succ, List.filter_append]
  by_cases hk : k = sz S
  · simp [h, hk]
  · have : (sz S == k) = false := by simp; exact fun e => hk e.symm
    simp [h, hk, this]
theorem lvl_len (p : Nat → Bool) (S k : Nat) : (lvlTo p S k).length ≤ S := by
  unfold lvlTo; exact Nat.le_trans (List.length_filter_le _ _) (by simp)
theorem lvl_high {p : Nat → Bool} {k : Nat} (h : topTo p 64 ≤ k) : lvlTo p 64 k = [] := by
  unfold lvlTo
  rw [List.filter_eq_nil_iff]
  intro s hs
  have hs64 := List.mem_range.1 hs
  cases hp : p s
  · simp
  · have := topTo_ge hp 64 hs64
    simp; omega
theorem lvl_congr {p q : Nat → Bool} (h : ∀ s, s < 64 → p s = q s) (k : Nat) : lvlTo p 64 k = lvlTo q 64 k :=
  List.filter_congr fun s hs => by rw [h s (List.mem_range.1 hs)]
theorem mem_lvl {p : Nat → Bool} {k s : Nat} : s ∈ lvlTo p 64 k ↔ s < 64 ∧ p s = true ∧ sz s = k := by
  unfold lvlTo; simp
theorem ord_lvl (p : Nat → Bool) (k : Nat) : (ord p).filter (fun s => sz s == k) = lvlTo p 64 k := by
  unfold ord lvlTo
  rw [List.filter_flatMap]
  have e : ∀ j, ((List.range 64).filter fun t => p t && sz t == j).filter (fun s => sz s == k) = if j = k then (List.range 64).filter (fun t => p t && sz t == k) else [] := by
    intro j
    rw [List.filter_filter]
    by_cases hj : j = k
    · subst hj
      simp only [if_true]
      exact List.filter_congr fun t _ => by cases p t <;> simp
    · rw [if_neg hj, List.filter_eq_nil_iff]
      intro t _
      simp; omega
  rw [show (fun j => ((List.range 64).filter fun t => p t && sz t == j).filter (fun s => sz s == k)) = fun j => if j = k then (List.range 64).filter (fun t => p t && sz t == k) else [] from funext e]
  by_cases hk : k < 7
  · match k, hk with
    | 0, _ | 1, _ | 2, _ | 3, _ | 4, _ | 5, _ | 6, _ => simp [List.range_succ]
  · have h0 : (List.range 64).filter (fun t => p t && sz t == k) = [] := by
      rw [List.filter_eq_nil_iff]
      intro t _
      have := sz_le t
      simp; omega
    rw [h0]; simp

theorem topSize_any (F : Nat) (w : World) (hF : Fam F) :
    Calls Try.prog 111 #[.int .u64 F] w fun e w' => e = .returned (.int .i64 ((topTo F.testBit 64 : Int) - 1)) ∧ w = w' := by
  go_enter Try.func111, Try.ntmps111
  go_wp2_with fail
  go_loop [3, 4] (fun m i => ∃ (I : Nat) (M : Int), I ≤ 64 ∧ i = .int .i64 I ∧ m = .int .i64 M ∧ M = (topTo F.testBit I : Int) - 1) (fun _ i => 64 - (intOf i).toNat)
  case atStart => exact ⟨0, -1, by omega, rfl, rfl, by unfold topTo; simp⟩
  case round =>
    obtain ⟨I, M, hI, rfl, rfl, hM⟩ := hrel
    have Hs := Lib.hid (topTo_succ F.testBit I)
    have HM := Lib.hid hM; clear hM
    by_cases hlt : I < 64
    · cases hb : F.testBit I
      · have HI : Hid (topTo F.testBit (I + 1) = topTo F.testBit I) := Lib.hid (by rw [Hs.out, hb]; rfl)
        go_wp2_with (go_at_call 65; (with_reducible refine (hasSet_any F I _ hF hlt).mono ?_); rintro e w' ⟨rfl, rfl⟩)
        go_round
        case rel => exact ⟨I + 1, M, by omega, by go_num, rfl, by rw [HI.out]; exact HM.out⟩
        case measure => simp [intOf]; omega
      · by_cases hgt : M < (sz I : Int)
        · have HI : Hid (topTo F.testBit (I + 1) = sz I + 1) := Lib.hid (by
            have := HM.out
            rw [Hs.out, hb, if_pos]
            simp; omega)
          go_wp2_with (first | (go_at_call 65; (with_reducible refine (hasSet_any F I _ hF hlt).mono ?_); rintro e w' ⟨rfl, rfl⟩) | (go_at_call 84; (with_reducible refine (SizeOf_any I _ hlt).mono ?_); rintro e w' ⟨rfl, rfl⟩))
          go_round
          case rel => exact ⟨I + 1, sz I, by omega, by go_num, rfl, by rw [HI.out]; omega⟩
          case measure => simp [intOf]; omega
        · have HI : Hid (topTo F.testBit (I + 1) = topTo F.testBit I) := Lib.hid (by
            have := HM.out
            rw [Hs.out, hb, if_neg]
            simp; omega)
          go_wp2_with (first | (go_at_call 65; (with_reducible refine (hasSet_any F I _ hF hlt).mono ?_); rintro e w' ⟨rfl, rfl⟩) | (go_at_call 84; (with_reducible refine (SizeOf_any I _ hlt).mono ?_); rintro e w' ⟨rfl, rfl⟩))
          go_round
          case rel => exact ⟨I + 1, M, by omega, by go_num, rfl, by rw [HI.out]; exact HM.out⟩
          case measure => simp [intOf]; omega
    · obtain rfl : I = 64 := by omega
      go_wp2_with fail
      go_ret
      exact ⟨ret_int HM.out, rfl⟩

theorem Grid.congr {w : World} {B g n : Nat} {f f' : Nat → Sl} {L L' : Nat → List Int} (h : Grid w B g n f L) (hf : ∀ i, i < n → f i = f' i) (hL : ∀ i, i < n → L i = L' i) : Grid w B g n f' L' := by
  have e : (List.range n).map (fun i => (f i).val) = (List.range n).map fun i => (f' i).val := List.map_congr_left fun i hi => by rw [hf i (List.mem_range.1 hi)]
  refine ⟨by rw [← e]; exact h.row, fun i hi => by rw [← hf i hi, ← hL i hi]; exact h.own i hi, fun i hi => by rw [← hf i hi]; exact h.far i hi, fun i j hi hj => by rw [← hf i hi, ← hf j hj]; exact h.apart i j hi hj⟩
theorem Grid.grown {w w' : World} {B g n : Nat} {f : Nat → Sl} {L : Nat → List Int} (h : Grid w B g n f L) {k : Nat} (hk : k < n) (hg : w.grownBy w' (f k).val.ownBlock) :
    w'.cell? ⟨g, k, none⟩ = some (f k).val ∧ w'.frozen? ⟨g, k, none⟩ = false := by
  have e : w'.heap[g]? = w.heap[g]? := hg.block g h.glt.2 fun e => by
    obtain ⟨b, hb, hbg⟩ := ownBlock_some e.symm
    exact h.far k hk b hb hbg
  exact ⟨(World.cell?_of_block (a := ⟨g, k, none⟩) e).trans (h.cell hk), (World.frozen?_of_block (a := ⟨g, k, none⟩) e).trans (h.frozen hk)⟩

/-- the lists by size -/
def RetLvl (w : World) (F : Nat) (e : Ending) (w' : World) : Prop :=
  ∃ g f, e = .returned (.slice (some ⟨g, 0, none⟩) (topTo F.testBit 64) (topTo F.testBit 64)) ∧ Grid w' w.heap.size g (topTo F.testBit 64) f (fun k => up (lvlTo F.testBit 64 k)) ∧ Below w.heap.size w w'

set_option maxRecDepth 100000 in
set_option maxHeartbeats 2000000 in
theorem bySize_any (F : Nat) (w : World) (hF : Fam F) : Calls Try.prog 112 #[.int .u64 F] w (RetLvl w F) := by
  obtain ⟨n, hn⟩ : ∃ n, n = topTo F.testBit 64 := ⟨_, rfl⟩
  have hn7 : n ≤ 7 := by rw [hn]; exact topTo_le _ _
  have hge : ∀ s, s < 64 → F.testBit s = true → sz s < n := fun s hs h => by rw [hn]; exact topTo_ge h 64 hs
  have hsub : (n : Int) - 1 + 1 = n := by omega
  have Hge := Lib.hid hge
  have Hn := Lib.hid hn
  clear hge hn
  obtain ⟨B, hB⟩ : ∃ B, B = w.heap.size := ⟨_, rfl⟩
  have HB := Lib.hid hB; clear hB
  go_enter Try.func112, Try.ntmps112
  go_wp2_with (first
    | (go_at_call 111; refine (topSize_any F _ hF).mono ?_; rw [← Hn.out]; rintro e we ⟨rfl, rfl⟩)
    | (at_make; refine mk_grid rfl _ _ rfl _ rfl rfl n (by first | omega | simp) (by omega) ?_; intro g w1 hgrid hb1; have HG1 := Lib.hid hgrid; have HB1 := Lib.hid hb1; clear hgrid hb1))
  go_loopw [4, 5] (fun i _ wr => ∃ I : Nat, I ≤ 64 ∧ i = .int .i64 I ∧ Below B w wr ∧ ∃ f, (∀ k, k < n → (f k).2.1 ≤ I) ∧ Grid wr B g n f (fun k => up (lvlTo F.testBit I k))) (fun i _ _ => 64 - (intOf i).toNat)
  case atStart => exact ⟨0, by omega, rfl, by rw [HB.out]; exact HB1.out, _, fun k hk => Nat.le_refl _, by rw [HB.out]; exact HG1.out⟩
  case round =>
    obtain ⟨I, hI, rfl, hb, f, hf, hgrid⟩ := hrel
    have hz : B ≤ wr.heap.size := by have := HB.out; have := hb.size; omega
    have HG := Lib.hid hgrid; have HBr := Lib.hid hb
    have Hf := Lib.hid hf
    clear hgrid hb hf
    by_cases hlt : I < 64
    · cases hbI : F.testBit I
      · have HI := Lib.hid (lvl_no hbI)
        go_wp2_with (go_at_call 65; (with_reducible refine (hasSet_any F I _ hF hlt).mono ?_); rintro e w' ⟨rfl, rfl⟩)
        go_roundw
        case rel => exact ⟨I + 1, by omega, by go_num, HBr.out, f, fun k hk => by have := Hf.out k hk; omega, HG.out.congr (fun _ _ => rfl) fun k _ => by rw [HI.out k]⟩
        case measure => simp [intOf]; omega
      · have HI := Lib.hid (lvl_yes hbI)
        have hk := Hge.out I hlt hbI
        obtain ⟨k, hke⟩ : ∃ k, k = sz I := ⟨_, rfl⟩
        rw [← hke] at hk
        have Hke := Lib.hid hke; clear hke
        have hk0 : (0 : Int) ≤ k := by omega
        have hkn : (k : Int) < n := by omega
        have hcell := HG.out.cell hk
        have hfro := HG.out.frozen hk
        obtain ⟨⟨ad, m, d⟩, hfk⟩ : ∃ x : Sl, x = f k := ⟨_, rfl⟩
        have hm := Hf.out k hk
        have hown := HG.out.own k hk
        rw [← hfk] at hcell hm hown
        simp only [Sl.val] at hcell hm hown
        have HO := Lib.hid hown
        have Hfk := Lib.hid hfk
        clear hown hfk
        go_wp2_with (first
          | (go_at_call 65; (with_reducible refine (hasSet_any F I _ hF hlt).mono ?_); rintro e w' ⟨rfl, rfl⟩)
          | (go_at_call 84; refine (SizeOf_any I _ hlt).mono ?_; rw [← Hke.out]; rintro e we ⟨rfl, rfl⟩)
          | (at_builtin; refine ap_at rfl _ _ rfl B _ _ _ _ _ rfl HO.out rfl (by omega) hz ?_; intro ad' d' w' hown' hb' hg' hnew'; have HO' := Lib.hid hown'; have HB' := Lib.hid hb'; have hgw := HG.out.grown hk (by rw [← Hfk.out]; exact hg'); rw [← Hfk.out] at hgw; obtain ⟨gc, gf⟩ := hgw; simp only [Sl.val] at gc; have HG' := Lib.hid hg'; have HN' := Lib.hid hnew'; clear hown' hb' hg' hnew'))
        go_roundw
        case rel =>
          have hst := HG.out.step hk (x := (ad', m + 1, d')) (xs := _) HO'.out (by rw [← Hfk.out]; exact HG'.out) (by rw [← Hfk.out]; exact HN'.out)
          refine ⟨I + 1, by omega, by go_num, (HBr.out.trans HB'.out).setCell HG.out.glt.1 _, _, fun i hi => ?_, hst.congr (fun _ _ => rfl) fun i hi => ?_⟩
          · have := Hf.out i hi
            by_cases hik : i = k
            · simp only [hik, if_true]; omega
            · simp only [if_neg hik]; omega
          · rw [HI.out i]
            by_cases hik : i = k
            · rw [if_pos hik, if_pos (by rw [hik]; exact Hke.out), up_append, hik]; rfl
            · rw [if_neg hik, if_neg (by rw [← Hke.out]; exact hik)]
        case measure => simp [intOf]; omega
    · obtain rfl : I = 64 := by omega
      go_wp2_with fail
      go_ret
      rw [Hn.out] at HG
      exact ⟨g, f, by rw [Hn.out]; rfl, by rw [← HB.out]; exact HG.out, by rw [← HB.out]; exact HBr.out⟩
end Go.Proofs.Ytpoolkmcbeghjaa

/- Contracts of the laws' functions over lists of lists: compare, mark, read back. -/
import Derived.Test.YtikehbbggdmcfaaRows2
import Derived.Deep.DeepCutAuto
namespace Go.Proofs.Ytikehbbggdmcfaa
open Go.RowKit
set_option linter.unusedSimpArgs false
set_option linter.unusedVariables false

/-- how many numbers the first k lists hold -/
def totTo (L : List (List Int)) : Nat → Nat
  | 0 => 0
  | k + 1 => totTo L k + (nthL L k).length
theorem totTo_le {L : List (List Int)} {M : Nat} (h : ∀ x ∈ L, x.length ≤ M) : ∀ k, k ≤ L.length → totTo L k ≤ k * M := by
  intro k
  induction k with
  | zero => intro _; simp [totTo]
  | succ k ih =>
    intro hk
    have h1 := ih (by omega)
    have h2 : (nthL L k).length ≤ M := h _ (by rw [nthL_at (by omega)]; exact List.getElem_mem (by omega))
    unfold totTo
    rw [Nat.succ_mul]; omega
theorem totTo_up (L : List (List Int)) : ∀ k j, k ≤ j → totTo L k ≤ totTo L j := by
  intro k j h
  induction h with
  | refl => exact Nat.le_refl _
  | @step m _ ih =>
    show totTo L k ≤ totTo L m + (nthL L m).length
    omega
def tot2 (L : List (List Int)) : Nat := totTo L L.length
/-- the lists marked with the numbers from s on, up to the k-th -/
def mk2 (L : List (List Int)) (s k : Nat) : List (List Int) := (List.range L.length).map fun i => if i < k then marks (s + totTo L i) (nthL L i).length else nthL L i
theorem mk2_len (L : List (List Int)) (s k : Nat) : (mk2 L s k).length = L.length := by simp [mk2]
theorem mk2_at {L : List (List Int)} {s k i : Nat} (h : i < L.length) : nthL (mk2 L s k) i = if i < k then marks (s + totTo L i) (nthL L i).length else nthL L i := by
  rw [nthL_at (by rw [mk2_len]; exact h)]; simp [mk2]
theorem mk2_zero (L : List (List Int)) (s : Nat) : mk2 L s 0 = L := by
  apply List.ext_getElem (by rw [mk2_len])
  intro i h1 h2
  rw [← nthL_at h1, ← nthL_at h2, mk2_at h2, if_neg (Nat.not_lt_zero _)]

set_option maxRecDepth 100000 in
theorem eqIntSS_yes (a b : Option Addr) (n m c d : Nat) (B U B' U' : Nat) (L : List (List Int)) (w : World) (h : Own2 w B U a n c L) (h' : Own2 w B' U' b m d L) (hn : n ≤ 1099511627776) :
    Calls Try.prog 9 #[.slice a n c, .slice b m d] w fun e w' => e = .returned (.bool true) ∧ Below w.heap.size w w' := by
  obtain rfl : n = m := by rw [← h.len, ← h'.len]
  have Hh := Lib.hid h; have Hh' := Lib.hid h'
  have hne : ((n : Int) != (n : Int)) = false := by simp
  clear h h'
  go_enter Try.func9, Try.ntmps9
  go_wp2_with fail
  go_loopw [5] (fun i wr => ∃ I : Nat, I ≤ n ∧ i = .int .i64 I ∧ Below w.heap.size w wr) (fun i _ => n - (intOf i).toNat)
  case atStart => exact ⟨0, Nat.zero_le _, rfl, Below.refl _ _⟩
  case round =>
    obtain ⟨wo, rfl⟩ : ∃ x : World, x = wr := ⟨_, rfl⟩
    obtain ⟨I, hI, rfl, hbr⟩ := hrel
    have HBr := Lib.hid hbr
    by_cases hlt : I < n
    · obtain ⟨f, hf⟩ := Hh.out.keep hbr
      obtain ⟨f', hf'⟩ := Hh'.out.keep hbr
      have ho := hf.own I hlt
      have ho' := hf'.own I hlt
      obtain ⟨g, rfl, hcg⟩ := hf.cell hlt
      obtain ⟨g', rfl, hcg'⟩ := hf'.cell hlt
      obtain ⟨⟨a1, n1, c1⟩, hfe⟩ : ∃ x, x = f I := ⟨_, rfl⟩
      obtain ⟨⟨a2, n2, c2⟩, hfe'⟩ : ∃ x, x = f' I := ⟨_, rfl⟩
      rw [← hfe] at hcg ho
      rw [← hfe'] at hcg' ho'
      simp only [Sl.val] at hcg hcg' ho ho'
      have HE : Hid (∀ W, Below wo.heap.size wo W → Calls Try.prog 31 #[.slice a1 n1 c1, .slice a2 n2 c2] W fun e w' => e = .returned (.bool true) ∧ Below W.heap.size W w') := Lib.hid fun W hW => eqIntS_yes a1 a2 n1 n2 c1 c2 _ _ W (ho.reads.keep hW) (ho'.reads.keep hW) rfl
      have hI0 : (0 : Int) ≤ I := by omega
      have hIn : (I : Int) < n := by omega
      clear hbr hf hf' ho ho' hfe hfe'
      have HEd := Lib.hid (HE.out _ ((Below.refl _ wo).drew))
      go_wp2_with fail
      go_cut [26] (fun v W => v = .bool false ∧ Below w.heap.size w W)
      case first =>
        go_region_held3 (fun W => W.cell? ⟨g, I, none⟩ = some (.slice a1 n1 c1) ∧ W.cell? ⟨g', I, none⟩ = some (.slice a2 n2 c2)) (first | exact ⟨hcg, hcg'⟩ | exact ⟨y0, y1⟩ | go_keep) (first
          | (go_simp; go_at_call 31; (with_reducible refine HEd.out.mono ?_); rintro e w2 ⟨rfl, hb2⟩; have HB2 := Lib.hid hb2; have y0 := (hb2.cell (p := ⟨g, I, none⟩) (by have := World.block_lt_of_cell? wo _ hcg; simpa using this)).trans hcg; have y1 := (hb2.cell (p := ⟨g', I, none⟩) (by have := World.block_lt_of_cell? wo _ hcg'; simpa using this)).trans hcg'; clear hb2))
        all_goals (go_wp2_with fail; go_meet)
        all_goals exact ⟨rfl, HBr.out.drew.trans (HB2.out.mono (by have := HBr.out.size; simpa using this))⟩
      case rest =>
        obtain ⟨rfl, hbc⟩ := hcut
        have HBc := Lib.hid hbc
        clear hbc
        go_wp2_with fail
        go_roundw
        case rel => exact ⟨I + 1, by omega, by go_num, HBc.out⟩
        case measure => simp [intOf]; omega
    · obtain rfl : I = n := by omega
      have hii : ¬ ((I : Int) < I) := by omega
      go_wp2_with fail
      go_ret
      exact ⟨rfl, hbr⟩

set_option maxRecDepth 100000 in
theorem markIntSS_any (B U : Nat) (a : Option Addr) (n c s : Nat) (L : List (List Int)) (w : World) (h : Own2 w B U a n c L) (hs : s ≤ 2097152) (hm : tot2 L ≤ 1048576) (hn : n ≤ 1099511627776) :
    Calls Try.prog 12 #[.slice a n c, .int .i64 s] w fun e w' => e = .returned (.int .i64 ((s + tot2 L : Nat) : Int)) ∧ Own2 w' B U a n c (mk2 L s n) ∧ Within w w' B U := by
  obtain ⟨f, hf⟩ := h
  have hl := hf.len
  have Hl := Lib.hid hl
  have Hf := Lib.hid hf
  have Ht : Hid (∀ k, k ≤ n → totTo L k ≤ 1048576) := Lib.hid fun k hk => Nat.le_trans (totTo_up L k _ (by omega)) hm
  have He : Hid (tot2 L = totTo L n) := Lib.hid (by unfold tot2; rw [hl])
  clear hf hl hm
  go_enter Try.func12, Try.ntmps12
  go_wp2_with fail
  go_loopw [1, 5] (fun q i wr => ∃ I : Nat, I ≤ n ∧ i = .int .i64 I ∧ q = .int .i64 ((s + totTo L I : Nat) : Int) ∧ Within w wr B U ∧ O2 wr B U a n c f (mk2 L s I)) (fun _ i _ => n - (intOf i).toNat)
  case atStart => exact ⟨0, Nat.zero_le _, rfl, rfl, Within.refl _ _ _, by rw [mk2_zero]; exact Hf.out⟩
  case round =>
    obtain ⟨I, hI, rfl, rfl, hw, hr⟩ := hrel
    have HW := Lib.hid hw; have HR := Lib.hid hr
    clear hw
    by_cases hlt : I < n
    · have hlL : I < L.length := by rw [Hl.out]; exact hlt
      have ho := hr.own I hlt
      rw [mk2_at hlL, if_neg (Nat.lt_irrefl _)] at ho
      obtain ⟨g, rfl, hcg⟩ := hr.cell hlt
      obtain ⟨⟨a1, n1, c1⟩, hfe⟩ : ∃ x, x = f I := ⟨_, rfl⟩
      have Hfe := Lib.hid hfe
      rw [← hfe] at hcg ho
      simp only [Sl.val] at hcg ho
      have hn1 := ho.len
      have hlo := ho.lt
      have h1 := Ht.out (I + 1) (by omega)
      have h0 := Ht.out I (by omega)
      have hs1 : totTo L (I + 1) = totTo L I + n1 := by rw [← hn1]; rfl
      have Hs1 := Lib.hid hs1
      have HO := Lib.hid ho
      have Hlo := Lib.hid hlo
      have Hn1 := Lib.hid hn1
      have hn1b : n1 ≤ 1048576 := by omega
      obtain ⟨q, hq⟩ : ∃ q, q = s + totTo L I := ⟨_, rfl⟩
      have hqb : q ≤ 3145728 := by omega
      have Hq := Lib.hid hq
      rw [← hq]
      have hI0 : (0 : Int) ≤ I := by omega
      have hIn : (I : Int) < n := by omega
      clear hr ho hfe hn1 hlo hs1 hq h0 h1
      go_wp2_with fail
      refine (markIntS_any B a1 n1 c1 q _ _ HO.out (by omega) (by omega)).mono ?_
      rintro e w2 ⟨rfl, hown, hg⟩
      have HO2 := Lib.hid hown
      have HG := Lib.hid hg
      clear hown hg
      go_wp2_with fail
      go_roundw
      case rel =>
        have hbk : ∀ k, (Value.slice a1 n1 c1).ownBlock = some k → B ≤ k ∧ k < U := fun k hk => by
          obtain ⟨b, hb, hbk⟩ := ownBlock_some hk
          refine ⟨(Hlo.out k hk).1, ?_⟩
          rw [← hbk]; exact HR.out.his I hlt b (by rw [← Hfe.out]; exact hb)
        refine ⟨I + 1, by omega, by go_num, ?_, HW.out.grown HG.out hbk, ⟨by rw [mk2_len]; exact Hl.out, ?_, ?_, HR.out.far, HR.out.apart, HR.out.hi, HR.out.his⟩⟩
        · rw [Hs1.out, show s + (totTo L I + n1) = q + n1 by have := Hq.out; omega]; go_num
        · refine HR.out.row.other fun k hk hkl => HG.out.block k hkl fun e => ?_
          obtain ⟨b, hb, hbk⟩ := ownBlock_some e.symm
          exact HR.out.far I hlt b _ (by rw [← Hfe.out]; exact hb) hk hbk
        · intro j hj
          have hjL : j < L.length := by rw [Hl.out]; exact hj
          by_cases hjI : j = I
          · subst hjI
            rw [mk2_at hjL, if_pos (by omega), Hn1.out, ← Hfe.out, ← Hq.out]; exact HO2.out
          · have h3 := HR.out.own j hj
            rw [mk2_at hjL] at h3
            rw [mk2_at hjL]
            have e : (j < I + 1) = (j < I) := by apply propext; omega
            simp only [e]
            refine h3.grownNe HG.out fun k hk k2 hk2 e => ?_
            obtain ⟨b, hb, hbk⟩ := ownBlock_some hk
            obtain ⟨d, hd, hdk⟩ := ownBlock_some hk2
            exact HR.out.apart I j hlt hj (fun e => hjI e.symm) b d (by rw [← Hfe.out]; exact hb) hd (by omega)
      case measure => simp [intOf]; omega
    · obtain rfl : I = n := by omega
      have hii : ¬ ((I : Int) < I) := by omega
      go_wp2_with fail
      go_ret
      exact ⟨by simp [He.out], ⟨f, hr⟩, HW.out⟩
set_option maxRecDepth 100000 in
theorem heldIntSS_yes (B U : Nat) (a : Option Addr) (n c s : Nat) (L : List (List Int)) (w : World) (h : Own2 w B U a n c (mk2 L s n)) (hs : s ≤ 2097152) (hm : tot2 L ≤ 1048576) (hn : n ≤ 1099511627776) :
    Calls Try.prog 13 #[.slice a n c, .int .i64 s] w fun e w' => e = .returned (.int .i64 ((s + tot2 L : Nat) : Int)) ∧ w = w' := by
  obtain ⟨f, hf⟩ := h
  have hl := hf.len
  rw [mk2_len] at hl
  have Hl := Lib.hid hl
  have Hf := Lib.hid hf
  have Ht : Hid (∀ k, k ≤ n → totTo L k ≤ 1048576) := Lib.hid fun k hk => Nat.le_trans (totTo_up L k _ (by omega)) hm
  have He : Hid (tot2 L = totTo L n) := Lib.hid (by unfold tot2; rw [hl])
  clear hf hl hm
  go_enter Try.func13, Try.ntmps13
  go_wp2_with fail
  go_loop [1, 5] (fun q i => ∃ I : Nat, I ≤ n ∧ i = .int .i64 I ∧ q = .int .i64 ((s + totTo L I : Nat) : Int)) (fun _ i => n - (intOf i).toNat)
  case atStart => exact ⟨0, Nat.zero_le _, rfl, rfl⟩
  case round =>
    obtain ⟨I, hI, rfl, rfl⟩ := hrel
    by_cases hlt : I < n
    · have hlL : I < L.length := by rw [Hl.out]; exact hlt
      have ho := Hf.out.own I hlt
      rw [mk2_at hlL, if_pos hlt] at ho
      obtain ⟨g, hga, hcg⟩ := Hf.out.cell hlt
      subst hga
      obtain ⟨⟨a1, n1, c1⟩, hfe⟩ : ∃ x, x = f I := ⟨_, rfl⟩
      rw [← hfe] at hcg ho
      simp only [Sl.val] at hcg ho
      have hn1 := ho.len
      rw [marks_len] at hn1
      rw [hn1] at ho
      have h1 := Ht.out (I + 1) (by omega)
      have h0 := Ht.out I (by omega)
      have hs1 : totTo L (I + 1) = totTo L I + n1 := by rw [← hn1]; rfl
      have Hs1 := Lib.hid hs1
      have hn1b : n1 ≤ 1048576 := by omega
      obtain ⟨q, hq⟩ : ∃ q, q = s + totTo L I := ⟨_, rfl⟩
      have hqb : q ≤ 3145728 := by omega
      have Hq := Lib.hid hq
      rw [← hq] at ho
      rw [← hq]
      have HO := Lib.hid ho
      have hI0 : (0 : Int) ≤ I := by omega
      have hIn : (I : Int) < n := by omega
      have hq0 : ¬ (((q + n1 : Nat) : Int) < 0) := by omega
      clear ho hfe hn1 hs1 hq h0 h1
      go_wp2_with fail
      refine (heldIntS_yes a1 n1 c1 q _ _ HO.out.reads rfl (by omega) (by omega)).mono ?_
      rintro e w2 ⟨rfl, rfl⟩
      go_wp2_with fail
      go_round
      case rel => exact ⟨I + 1, by omega, by go_num, by rw [Hs1.out, show s + (totTo L I + n1) = q + n1 by have := Hq.out; omega]; go_num⟩
      case measure => simp [intOf]; omega
    · obtain rfl : I = n := by omega
      have hii : ¬ ((I : Int) < I) := by omega
      go_wp2_with fail
      go_ret
      exact ⟨by simp [He.out], rfl⟩
end Go.Proofs.Ytikehbbggdmcfaa

/- Texts of this claim, one behind the other: what each says stands at its head. -/
import Derived.Test.YtpoolkmcbeghjaaCore
import Derived.Test.YtpoolkmcbeghjaaFaces2
import Derived.Test.YtpoolkmcbeghjaaHelp
/- Plain laws of LeftMonomials: the lists of exponents, their support, and a choice out of a list of lists. -/
namespace Go.Proofs.Ytpoolkmcbeghjaa
set_option maxRecDepth 20000
open Go.RowKit
set_option linter.unusedSimpArgs false
set_option linter.unusedVariables false

/-- all lists that go on from h with r + 1 exponents of sum d -/
def monoL : Nat → List Int → Nat → List (List Int)
  | 0, h, d => [h ++ [(d : Int)]]
  | r + 1, h, d => (List.range (d + 1)).flatMap fun i => monoL r (h ++ [((d - i : Nat) : Int)]) i
/-- .. with the first k choices for the next exponent -/
def monoTo (r : Nat) (h : List Int) (d k : Nat) : List (List Int) := (List.range k).flatMap fun i => monoL r (h ++ [((d - i : Nat) : Int)]) i
theorem monoTo_succ (r : Nat) (h : List Int) (d k : Nat) : monoTo r h d (k + 1) = monoTo r h d k ++ monoL r (h ++ [((d - k : Nat) : Int)]) k := by
  unfold monoTo; rw [List.range_succ, List.flatMap_append]; simp
theorem monoTo_all (r : Nat) (h : List Int) (d : Nat) : monoTo r h d (d + 1) = monoL (r + 1) h d := rfl
theorem monoTo_up (r : Nat) (h : List Int) (d : Nat) : ∀ k j, k ≤ j → (monoTo r h d k).length ≤ (monoTo r h d j).length := by
  intro k j hkj
  induction hkj with
  | refl => exact Nat.le_refl _
  | @step m _ ih =>
    show _ ≤ (monoTo r h d (m + 1)).length
    rw [monoTo_succ, List.length_append]; omega
theorem monoL_each {r : Nat} : ∀ {h : List Int} {d : Nat}, (∀ i, 0 ≤ nth h i ∧ nth h i ≤ 5) → d ≤ 5 → ∀ e ∈ monoL r h d, e.length = h.length + r + 1 ∧ ∀ i, 0 ≤ nth e i ∧ nth e i ≤ 5 := by
  have snoc : ∀ {h : List Int} {x : Int}, (∀ i, 0 ≤ nth h i ∧ nth h i ≤ 5) → 0 ≤ x → x ≤ 5 → ∀ i, 0 ≤ nth (h ++ [x]) i ∧ nth (h ++ [x]) i ≤ 5 := by
    intro h x hh h0 h5 i
    by_cases hi : i < h.length
    · have e : nth (h ++ [x]) i = nth h i := by rw [nth_eq (by simp; omega), nth_eq hi, List.getElem_append_left hi]
      rw [e]; exact hh i
    · by_cases hi2 : i = h.length
      · subst hi2
        have e : nth (h ++ [x]) h.length = x := by rw [nth_eq (by simp)]; simp
        rw [e]; omega
      · have e : nth (h ++ [x]) i = 0 := by
          unfold nth
          rw [List.getD_eq_getElem?_getD, List.getElem?_eq_none (by simp; omega)]; rfl
        rw [e]; omega
  induction r with
  | zero =>
    intro h d hh hd e he
    unfold monoL at he
    rw [List.mem_singleton] at he
    subst he
    exact ⟨by simp, snoc hh (by omega) (by omega)⟩
  | succ r ih =>
    intro h d hh hd e he
    unfold monoL at he
    obtain ⟨i, hi, he⟩ := List.mem_flatMap.1 he
    have hi := List.mem_range.1 hi
    obtain ⟨h1, h2⟩ := ih (snoc hh (by omega) (by omega)) (by omega) e he
    exact ⟨by rw [h1]; simp; omega, h2⟩
theorem monoL_len : ∀ r, r ≤ 5 → ∀ d, d ≤ 5 → ∀ h : List Int, (monoL r h d).length ≤ 6 ^ r := by
  intro r
  induction r with
  | zero => intro _ d _ h; simp [monoL]
  | succ r ih =>
    intro hr d hd h
    unfold monoL
    have key : ∀ k, k ≤ d + 1 → ((List.range k).flatMap fun i => monoL r (h ++ [((d - i : Nat) : Int)]) i).length ≤ k * 6 ^ r := by
      intro k
      induction k with
      | zero => intro _; simp
      | succ k ihk =>
        intro hk
        rw [List.range_succ, List.flatMap_append, List.length_append, Nat.succ_mul]
        have h1 := ihk (by omega)
        have h2 := ih (by omega) k (by omega) (h ++ [((d - k : Nat) : Int)])
        simp only [List.flatMap_cons, List.flatMap_nil, List.append_nil]
        omega
    have h1 := key (d + 1) (Nat.le_refl _)
    have h2 : (d + 1) * 6 ^ r ≤ 6 * 6 ^ r := Nat.mul_le_mul_right _ (by omega)
    rw [Nat.pow_succ, Nat.mul_comm]
    omega

/-- the points with an exponent above 0, below k -/
def suppTo (e : List Int) : Nat → Nat
  | 0 => 0
  | k + 1 => if 0 < nth e k then suppTo e k ||| 2 ^ k else suppTo e k
theorem suppTo_yes {e : List Int} {k : Nat} (h : 0 < nth e k) : suppTo e (k + 1) = suppTo e k ||| 2 ^ k := by simp [suppTo, h]
theorem suppTo_no {e : List Int} {k : Nat} (h : ¬ 0 < nth e k) : suppTo e (k + 1) = suppTo e k := by simp [suppTo, h]
theorem suppTo_lt (e : List Int) : ∀ k, suppTo e k < 2 ^ k := by
  intro k
  induction k with
  | zero => simp [suppTo]
  | succ k ih =>
    have h2 : 2 ^ (k + 1) = 2 * 2 ^ k := by rw [Nat.pow_succ]; omega
    by_cases h : 0 < nth e k
    · rw [suppTo_yes h]
      exact Nat.or_lt_two_pow (Nat.lt_of_lt_of_le ih (by omega)) (by omega)
    · rw [suppTo_no h]; omega
def suppOf (e : List Int) : Nat := suppTo e e.length

/-! ### A choice out of a list of lists -/
def pickI (P : List Int → Bool) (L : List (List Int)) (k : Nat) : List Nat := (List.range k).filter fun i => P (nthL L i)
theorem pickI_yes {P : List Int → Bool} {L : List (List Int)} {k : Nat} (h : P (nthL L k) = true) : pickI P L (k + 1) = pickI P L k ++ [k] := by
  unfold pickI; rw [List.range_succ, List.filter_append]; simp [h]
theorem pickI_no {P : List Int → Bool} {L : List (List Int)} {k : Nat} (h : P (nthL L k) = false) : pickI P L (k + 1) = pickI P L k := by
  unfold pickI; rw [List.range_succ, List.filter_append]; simp [h]
theorem pickI_lt {P : List Int → Bool} {L : List (List Int)} {k : Nat} : ∀ i ∈ pickI P L k, i < k := fun i hi => List.mem_range.1 (List.mem_filter.1 hi).1
theorem pickI_len (P : List Int → Bool) (L : List (List Int)) (k : Nat) : (pickI P L k).length ≤ k := by unfold pickI; exact Nat.le_trans (List.length_filter_le _ _) (by simp)
theorem pickI_nodup (P : List Int → Bool) (L : List (List Int)) (k : Nat) : (pickI P L k).Nodup := by unfold pickI; exact List.Pairwise.filter _ List.nodup_range
/-- the lists chosen out of all -/
def pickL (P : List Int → Bool) (L : List (List Int)) : List (List Int) := (pickI P L L.length).map (nthL L)
theorem pickL_mem {P : List Int → Bool} {L : List (List Int)} : ∀ e ∈ pickL P L, e ∈ L := fun e he => by
  obtain ⟨i, hi, rfl⟩ := List.mem_map.1 he
  have := pickI_lt i hi
  rw [nthL_at this]; exact List.getElem_mem this
theorem pickL_congr {P Q : List Int → Bool} {L : List (List Int)} (h : ∀ e ∈ L, P e = Q e) : pickL P L = pickL Q L := by
  unfold pickL pickI
  congr 1
  exact List.filter_congr fun i hi => h _ (by rw [nthL_at (List.mem_range.1 hi)]; exact List.getElem_mem _)
/-- rows chosen out of a list of lists, handed out in an outer row of its own -/
theorem O2.choose {w : World} {B U U' : Nat} {a a' : Option Addr} {n c n' c' : Nat} {f : Nat → Sl} {L : List (List Int)} (h : O2 w B U a n c f L) (I : List Nat) (hI : ∀ i ∈ I, i < n) (hnd : I.Nodup)
    (hrow : Row 22 w B a' n' c' (I.map fun i => (f i).val)) (hfar : ∀ i, i < n → ∀ b d, (f i).1 = some b → a' = some d → b.block ≠ d.block) (hU : U ≤ U') (ha : ∀ d, a' = some d → d.block < U') :
    Own2 w B U' a' n' c' (I.map (nthL L)) := by
  have hl : I.length = n' := by have := hrow.len; simpa using this
  have hat : ∀ j, j < n' → nthN I j ∈ I := fun j hj => nthN_mem (by omega)
  refine ⟨fun j => f (nthN I j), by simpa using hl, ?_, fun j hj => ?_, fun j hj b d hb hd => hfar _ (hI _ (hat j hj)) b d hb hd, fun i j hi hj hij b d hb hd => ?_, ha, fun j hj b hb => Nat.lt_of_lt_of_le (h.his _ (hI _ (hat j hj)) b hb) hU⟩
  · have e : (List.range n').map (fun j => (f (nthN I j)).val) = I.map fun i => (f i).val := by
      apply List.ext_getElem (by simp [hl])
      intro j h1 h2
      have hj : j < I.length := by simpa using h2
      simp [nthN_eq hj]
    rw [e]; exact hrow
  · have e : nthL (I.map (nthL L)) j = nthL L (nthN I j) := by
      rw [nthL_at (by simpa [hl] using hj), List.getElem_map, ← nthN_eq (by omega)]
    rw [e]; exact h.own _ (hI _ (hat j hj))
  · refine h.apart _ _ (hI _ (hat i hi)) (hI _ (hat j hj)) (fun e => hij ?_) b d hb hd
    rw [nthN_eq (by omega), nthN_eq (by omega)] at e
    exact (List.getElem_inj hnd).1 e
end Go.Proofs.Ytpoolkmcbeghjaa

/- The append of an owned list to a list of lists, in a plain region and in one that draws its order; the reference's l12Fill. -/
namespace Go.Proofs.Ytpoolkmcbeghjaa
set_option maxRecDepth 20000
open Go.RowKit
set_option linter.unusedSimpArgs false
set_option linter.unusedVariables false

theorem Own2.up' {w : World} {B U U' : Nat} {a : Option Addr} {n c : Nat} {L : List (List Int)} (h : Own2 w B U a n c L) (hU : U ≤ U') : Own2 w B U' a n c L := by
  obtain ⟨f, h⟩ := h
  exact ⟨f, h.up hU⟩
theorem run_ap_l {W : World} (B ty : Nat) (ad : Option Addr) (n c : Nat) (vs : List Value) (hown : Row 22 W B ad n c vs) (g : Addr) (y : Value) (hcell : W.cell? g = some y) (hy : y.oneCell' = true)
    (hn : n < 1099511627776) (hB : B ≤ W.heap.size) :
    ∃ ad' c' w', (Builtin.append_ #[36, 36] ty #[.slice ad n c, .slice (some g) 1 1]).run Try.prog W = .ok (.slice ad' (n + 1 : Nat) c') w' ∧ Row 22 w' B ad' (n + 1) c' (vs ++ [y]) ∧ W.grownBy w' (Value.slice ad n c).ownBlock ∧
      (∀ b, ad' = some b → (∃ d, ad = some d ∧ b.block = d.block) ∨ W.heap.size ≤ b.block) := by
  obtain ⟨i0, hi, hz0, hz1, hz2⟩ := info_parts infoInts
  obtain ⟨v', w', hr, h2, h3, h4, h5⟩ := run_append_own_at (P := Try.prog) W B 36 ty 22 i0 (.slice none 0 0) 1 24 Try.underlying36 hi hz0 hz1 hz2 rfl (by decide) (.slice ad n c) n _ hown.row g 1 1 [y] (by simp)
    (fun j u hj => by
      match j, hj with
      | 0, hj => simp at hj; subst hj; simpa [Addr.add] using hcell) (fun u hu => by simp at hu; subst hu; exact hy) (by unfold maxLen; omega) (by omega) hB
  have hv : ∃ ad' c', v' = .slice ad' (n + 1) c' := by
    rcases h2.2 with ⟨_, h0⟩ | ⟨g, cap, cur, hv, _⟩
    · omega
    · exact ⟨_, _, hv⟩
  obtain ⟨ad', c', rfl⟩ := hv
  refine ⟨ad', c', w', hr, ⟨by simp [hown.len], h2⟩, h3, fun b hb => ?_⟩
  subst hb
  rcases h5 with h5 | h5
  · obtain ⟨d, hd, hdb⟩ := ownBlock_some h5.symm
    exact .inl ⟨d, hd, hdb.symm⟩
  · right
    have : b.block = W.heap.size := by simpa [Value.ownBlock] using h5
    omega
/-- what an append of an owned row leaves of a list of lists -/
theorem O2.snoc {w0 W w' : World} {B : Nat} {ad ad' : Option Addr} {n c c' : Nat} {f : Nat → Sl} {L : List (List Int)} (h : O2 w0 B w0.heap.size ad n c f L) (hB : B ≤ w0.heap.size) (x : Sl) (xs : List Int)
    (hsz : w0.heap.size ≤ W.heap.size) (hW : ∀ k, k < w0.heap.size → W.heap[k]? = w0.heap[k]?) (hx : Own 3 W B x.1 x.2.1 x.2.2 xs) (hnew : ∀ b, x.1 = some b → w0.heap.size ≤ b.block)
    (hrow : Row 22 w' B ad' (n + 1) c' (((List.range n).map fun i => (f i).val) ++ [x.val])) (hg : W.grownBy w' (Value.slice ad n c).ownBlock) (hloc : ∀ b, ad' = some b → (∃ d, ad = some d ∧ b.block = d.block) ∨ W.heap.size ≤ b.block) :
    Own2 w' B w'.heap.size ad' (n + 1) c' (L ++ [xs]) := by
  have hll := h.len
  have hout : ∀ k, (Value.slice ad n c).ownBlock = some k → k < w0.heap.size := fun k hk => (h.row.lt k hk).2
  have hxl : ∀ b, x.1 = some b → b.block < W.heap.size := fun b hb => (hx.lt b.block (by rw [hb]; rfl)).2
  have hold : ∀ i, i < n → Own 3 w' B (f i).1 (f i).2.1 (f i).2.2 (nthL L i) := fun i hi => by
    have h1 : Own 3 W B (f i).1 (f i).2.1 (f i).2.2 (nthL L i) := Row.other (h.own i hi) fun g hag hl => hW g hl
    refine h1.grownNe hg fun k hk k2 hk2 e => ?_
    obtain ⟨b, hb1, hb2⟩ := ownBlock_some hk2
    obtain ⟨d, hd1, hd2⟩ := ownBlock_some hk
    exact h.far i hi b d hb1 hd1 (by omega)
  have hxn : Own 3 w' B x.1 x.2.1 x.2.2 xs := hx.grownNe hg fun k hk k2 hk2 e => by
    obtain ⟨b, hb1, hb2⟩ := ownBlock_some hk2
    have h1 := hnew b hb1
    have h2 := hout k hk
    omega
  have hin : ∀ i, i < n → ∀ b, (f i).1 = some b → b.block < w0.heap.size := fun i hi b hb => h.his i hi b hb
  have hfn : ∀ i, i < n → (if i < n then f i else x) = f i := fun i hi => if_pos hi
  have hfl : (if n < n then f n else x) = x := if_neg (Nat.lt_irrefl _)
  have hsz' : W.heap.size ≤ w'.heap.size := hg.size
  refine ⟨fun i => if i < n then f i else x, ?_⟩
  refine ⟨by rw [List.length_append, h.len]; rfl, ?_, ?_, ?_, ?_, ?_, ?_⟩
  · have e : (List.range (n + 1)).map (fun i => (if i < n then f i else x).val) = (List.range n).map (fun i => (f i).val) ++ [x.val] := by
      rw [List.range_succ, List.map_append]
      congr 1
      · exact List.map_congr_left fun i hi => by rw [hfn i (List.mem_range.1 hi)]
      · simp only [List.map_cons, List.map_nil]; rw [hfl]
    rw [e]; exact hrow
  · intro i hi
    by_cases hi2 : i < n
    · simp only [hfn i hi2]
      rw [nthL_left (by omega)]; exact hold i hi2
    · obtain rfl : i = n := by omega
      simp only [hfl]
      have : nthL (L ++ [xs]) i = xs := by rw [← hll]; exact nthL_last L _
      rw [this]; exact hxn
  · intro i hi b d hb' hd'
    by_cases hi2 : i < n
    · simp only [hfn i hi2] at hb'
      have h1 := hin i hi2 b hb'
      rcases hloc d hd' with ⟨d0, hd0, hdb⟩ | hge
      · rw [hdb]; exact h.far i hi2 b d0 hb' hd0
      · omega
    · obtain rfl : i = n := by omega
      simp only [hfl] at hb'
      have h1 := hnew b hb'
      have h2 := hxl b hb'
      rcases hloc d hd' with ⟨d0, hd0, hdb⟩ | hge
      · have := h.hi d0 hd0
        omega
      · omega
  · intro i j hi hj hij b d hb' hd'
    by_cases hi2 : i < n
    · simp only [hfn i hi2] at hb'
      have h1 := hin i hi2 b hb'
      by_cases hj2 : j < n
      · simp only [hfn j hj2] at hd'
        exact h.apart i j hi2 hj2 hij b d hb' hd'
      · obtain rfl : j = n := by omega
        simp only [hfl] at hd'
        have := hnew d hd'
        omega
    · obtain rfl : i = n := by omega
      simp only [hfl] at hb'
      have h3 := hnew b hb'
      have hj2 : j < i := by omega
      simp only [hfn j hj2] at hd'
      have h1 := hin j hj2 d hd'
      omega
  · intro d hd
    exact (hrow.lt d.block (by rw [hd]; rfl)).2
  · intro i hi b hb'
    by_cases hi2 : i < n
    · simp only [hfn i hi2] at hb'
      have h1 := hin i hi2 b hb'
      omega
    · obtain rfl : i = n := by omega
      simp only [hfl] at hb'
      have := hxl b hb'
      omega
/-- the append of a row, laid in a block of its own ahead, to a list of lists -/
theorem list_apl {ops : Array Oper} {rest : List Oper} {o : Oper} {a : Act} {Q : Exit → Act → World → Prop} {W : World} (hgd : o.guard = none) (s x : Operand)
    (ho : o.op = .call { callee := .builtin .append, args := #[s, x], argTypes := #[36, 36] })
    (B : Nat) (ad : Option Addr) (n c : Nat) (vs : List Value) (y : Value) (hs : a.eval s = .slice ad n c) (hown : Row 22 W B ad n c vs) (hy : y.oneCell' = true)
    (hx : a.eval x = .slice (some ⟨W.heap.size, 0, none⟩) 1 1) (hn : n < 1099511627776) (hB : B ≤ W.heap.size)
    (h : ∀ ad' c' w', Row 22 w' B ad' (n + 1) c' (vs ++ [y]) → (W.alloc (.cells #[y] 22)).grownBy w' (Value.slice ad n c).ownBlock → (∀ b, ad' = some b → (∃ d, ad = some d ∧ b.block = d.block) ∨ (W.alloc (.cells #[y] 22)).heap.size ≤ b.block) → wpList Try.prog ops Q rest (a.put o.dst (.slice ad' (n + 1 : Nat) c')) w') :
    wpList Try.prog ops Q (o :: rest) a (W.alloc (.cells #[y] 22)) := by
  refine wpList_plain hgd fun K hK => ?_
  obtain ⟨ad', c', w', hrun, h1, h2, h3⟩ := run_ap_l (W := W.alloc (.cells #[y] 22)) B o.type ad n c vs (hown.alloc _) ⟨W.heap.size, 0, none⟩ y (by rw [World.cell?_alloc_at _ _ _ _ rfl]; rfl) hy hn (by simp; omega)
  unfold Oper.wp execOp
  simp only [ho, resolve, invoke, builtin, Sem.run_bind, Sem.run_pure, Result.andThen_ok, List.map_toArray, List.map_cons, List.map_nil, hs, hx, hrun]
  exact hK _ _ (h _ _ _ h1 h2 h3)
theorem grown_trans {a b c : World} {r : Option Nat} (h : a.grownBy b r) (k : b.grownBy c r) : a.grownBy c r :=
  ⟨k.os.trans h.os, k.tape.trans h.tape, k.output.trans h.output, Nat.le_trans h.size k.size, fun i hi hne => (k.block i (Nat.lt_of_lt_of_le hi h.size) hne).trans (h.block i hi hne)⟩
/-- first a row of old, then one that is the old one or new -/
theorem grown_then {a b c : World} {r q : Option Nat} (h : a.grownBy b r) (k : b.grownBy c q) (hq : ∀ j, q = some j → some j = r ∨ a.heap.size ≤ j) : a.grownBy c r :=
  ⟨k.os.trans h.os, k.tape.trans h.tape, k.output.trans h.output, Nat.le_trans h.size k.size, fun i hi hne => (k.block i (Nat.lt_of_lt_of_le hi h.size) (fun e => by
    rcases hq i e.symm with h1 | h1
    · exact hne h1
    · omega)).trans (h.block i hi hne)⟩
theorem grown_of {a b : World} {r : Option Nat} (h : Below a.heap.size a b) : a.grownBy b r := ⟨h.os, h.tape, h.output, h.size, fun i hi _ => h.block i hi⟩

/-- the list so far with what a call adds -/
def RetFill (W : World) (B : Nat) (ad : Option Addr) (n c : Nat) (L : List (List Int)) (e : Ending) (w' : World) : Prop :=
  ∃ ad' n' c', e = .returned (.slice ad' n' c') ∧ Own2 w' B w'.heap.size ad' n' c' L ∧ W.grownBy w' (Value.slice ad n c).ownBlock ∧ (∀ b, ad' = some b → (∃ d, ad = some d ∧ b.block = d.block) ∨ W.heap.size ≤ b.block)
set_option maxRecDepth 100000 in
set_option maxHeartbeats 2000000 in
theorem fill_any (N : Nat) (hN : N ≤ 6) : ∀ (r : Nat) (h : List Int) (d : Nat) (ah : Option Addr) (hn hc B : Nat) (ad : Option Addr) (k c : Nat) (L : List (List Int)) (W : World), h.length + r + 1 = N → d ≤ 5 → IntsAt W ah hn h → Fit ah hn hc → Own2 W B W.heap.size ad k c L → B ≤ W.heap.size → k + (monoL r h d).length ≤ 1000000 → (∀ b e, ah = some b → ad = some e → b.block ≠ e.block) →
    Calls Try.prog 105 #[.int .i64 N, .int .i64 d, .slice ah hn hc, .slice ad k c] W (RetFill W B ad k c (L ++ monoL r h d)) := by
  intro r
  induction r with
  | zero =>
    intro h d ah hn hc B ad k c L W hlen hd hh hf ho hB hk hne
    have hhn : hn + 1 = N := by have := hh.len; omega
    have hhi : (N : Int) - 1 = (hn : Int) := by omega
    obtain ⟨f, hO⟩ := ho
    have hHE : IntsAt (W.alloc (.cells #[] 3)) ah hn h := hh.keep (by repeat (first | exact Below.refl _ _ | assumption | refine Below.setCell ?_ (by first | omega | (simp; done) | (simp; omega)) _ | refine Below.alloc ?_ (by first | omega | (simp; done) | (simp; omega)) _ | apply Below.drew))
    have hE := Own.empty 3 W W.heap.size (Nat.le_refl _)
    have HH := Lib.hid hHE; have HF := Lib.hid hf; have HE := Lib.hid hE; have HO := Lib.hid hO
    have hk2 : k ≤ 1000000 := by omega
    have hhn6 : hn ≤ 6 := by omega
    clear hh hf hHE hE hO hne hlen hhn hk
    go_enter Try.func105, Try.ntmps105
    go_wp2_with (first
      | (at_builtin; refine list_ap rfl _ _ rfl W.heap.size _ _ _ _ rfl HE.out _ _ _ _ rfl HH.out HF.out (by omega) (by simp) ?_; intro ad1 d1 w1 hown1 hb1; rw [Nat.zero_add, List.nil_append] at hown1; have HO1 := Lib.hid hown1; have HB1 : Hid (Below W.heap.size W w1) := Lib.hid (((Below.refl _ W).alloc (Nat.le_refl _) _).trans hb1); clear hown1 hb1)
      | (at_builtin; refine ap rfl _ _ rfl W.heap.size _ _ _ _ _ rfl HO1.out rfl (by omega) HB1.out.size ?_; intro ad2 d2 w2 hown2 hb2; have HO2 := Lib.hid hown2; have HB2 : Hid (Below W.heap.size W w2) := Lib.hid (HB1.out.trans hb2); have HR2 := Lib.hid (HO.out.row.keep HB2.out); clear hown2 hb2)
      | (at_builtin; refine list_apl rfl _ _ rfl B _ _ _ _ _ rfl HR2.out rfl rfl (by omega) (Nat.le_trans hB HB2.out.size) ?_; intro ad3 d3 w3 hrow3 hg3 hl3; have HR3 := Lib.hid hrow3; have HG3 := Lib.hid hg3; have HL3 := Lib.hid hl3; clear hrow3 hg3 hl3))
    go_ret
    have hz2 : W.heap.size ≤ w2.heap.size := HB2.out.size
    have hbl : ∀ x : Obj, Below W.heap.size W (w2.alloc x) := fun x => HB2.out.alloc hz2 x
    refine ⟨ad3, k + 1, d3, rfl, ?_, grown_trans (grown_of (hbl _)) HG3.out, fun b hb => ?_⟩
    · have h1 := O2.snoc HO.out hB (ad2, hn + 1, d2) _ (hbl _).size (fun k hk => (hbl _).block k hk) ((HO2.out.alloc _).mono hB) (fun b hb => by
        have := (HO2.out.lt b.block (by simp only at hb; rw [hb]; rfl)).1
        exact this) HR3.out HG3.out HL3.out
      have e : monoL 0 h d = [h ++ [(d : Int)]] := rfl
      rw [e]; exact h1
    · rcases HL3.out b hb with h | h
      · exact .inl h
      · exact .inr (Nat.le_trans (hbl _).size h)
  | succ r ih =>
    intro h d ah hn hc B ad k c L W hlen hd hh hf ho hB hk hne
    have hhn : hn + r + 2 = N := by have := hh.len; omega
    have hneq : ((hn : Int) == (N : Int) - 1) = false := by simp; omega
    have hne2 : ¬ (hn : Int) = (N : Int) - 1 := by omega
    have HH := Lib.hid hh; have HF := Lib.hid hf; have HO := Lib.hid ho; have Hne := Lib.hid hne; have Hk := Lib.hid hk; have Hlen := Lib.hid hlen
    have hhn6 : hn ≤ 6 := by omega
    clear hh hf ho hne hlen hk hhn
    have hwN : IntKind.i64.wrap ((N : Int) - 1) = (N : Int) - 1 := by rw [IntKind.wrap_i64]; omega
    go_enter Try.func105, Try.ntmps105
    go_wp2_with fail
    go_loopw [3, 9] (fun o x wr => ∃ J : Nat, J ≤ d + 1 ∧ x = .int .i64 ((d : Int) - J) ∧ ∃ ad2 k2 c2, o = .slice ad2 k2 c2 ∧ Own2 wr B wr.heap.size ad2 k2 c2 (L ++ monoTo r h d J) ∧ W.grownBy wr (Value.slice ad k c).ownBlock ∧ (∀ b, ad2 = some b → (∃ e, ad = some e ∧ b.block = e.block) ∨ W.heap.size ≤ b.block)) (fun _ x _ => ((intOf x) + 1).toNat)
    case atStart => exact ⟨0, Nat.zero_le _, by simp, ad, k, c, rfl, by simpa [monoTo] using HO.out, World.grownBy.refl _ _, fun b hb => .inl ⟨b, hb, rfl⟩⟩
    case round =>
      obtain ⟨J, hJ, rfl, ad2, k2, c2, rfl, hown, hgr, hloc⟩ := hrel
      have HOr := Lib.hid hown; have HGr := Lib.hid hgr; have HLr := Lib.hid hloc
      have hHr := HH.out.grown hgr (fun b hb e => by
        obtain ⟨e1, he1, he2⟩ := ownBlock_some e
        exact Hne.out b e1 hb he1 he2.symm)
      have HHr : Hid (IntsAt (wr.alloc (.cells #[] 3)) ah hn h) := Lib.hid (hHr.keep (by repeat (first | exact Below.refl _ _ | assumption | refine Below.setCell ?_ (by first | omega | (simp; done) | (simp; omega)) _ | refine Below.alloc ?_ (by first | omega | (simp; done) | (simp; omega)) _ | apply Below.drew)))
      have hzr : W.heap.size ≤ wr.heap.size := hgr.size
      have HE := Lib.hid (Own.empty 3 wr wr.heap.size (Nat.le_refl _))
      clear hown hgr hloc hHr
      by_cases hJd : J ≤ d
      · obtain ⟨X, hX⟩ : ∃ X, X = d - J := ⟨_, rfl⟩
        have hXi : (d : Int) - J = (X : Int) := by omega
        have hJi : (d : Int) - X = (J : Int) := by omega
        have HX := Lib.hid hX
        rw [hXi]
        have hX5 : X ≤ 5 := by omega
        have hJ5 : J ≤ 5 := by omega
        have hmt := monoTo_up r h d (J + 1) (d + 1) (by omega)
        rw [monoTo_succ, monoTo_all, List.length_append, ← hX] at hmt
        have hk2l := HOr.out.len
        have hk0 := HO.out.len
        rw [List.length_append] at hk2l
        have Hkb : Hid (k2 + (monoL r (h ++ [(X : Int)]) J).length ≤ 1000000) := Lib.hid (by have := Hk.out; omega)
        have Hnext : Hid (monoTo r h d (J + 1) = monoTo r h d J ++ monoL r (h ++ [(X : Int)]) J) := Lib.hid (by rw [monoTo_succ, ← hX])
        clear hX hmt hk2l hk0
        go_wp2_with (first
          | (at_builtin; refine list_ap rfl _ _ rfl wr.heap.size _ _ _ _ rfl HE.out _ _ _ _ rfl HHr.out HF.out (by omega) (by simp) ?_; intro ad3 d3 w3 hown3 hb3; rw [Nat.zero_add, List.nil_append] at hown3; have HO3 := Lib.hid hown3; have HB3 : Hid (Below wr.heap.size wr w3) := Lib.hid (((Below.refl _ wr).alloc (Nat.le_refl _) _).trans hb3); clear hown3 hb3)
          | (at_builtin; refine ap rfl _ _ rfl wr.heap.size _ _ _ _ _ rfl HO3.out rfl (by omega) HB3.out.size ?_; intro ad4 d4 w4 hown4 hb4; have HO4 := Lib.hid hown4; have HB4 : Hid (Below wr.heap.size wr w4) := Lib.hid (HB3.out.trans hb4); clear hown4 hb4))
        have hz4 : wr.heap.size ≤ w4.heap.size := HB4.out.size
        have hrec := ih (h ++ [(X : Int)]) J ad4 (hn + 1) d4 B ad2 k2 c2 (L ++ monoTo r h d J) w4 (by have := Hlen.out; simp; omega) hJ5 HO4.out.reads HO4.out.fit ((HOr.out.keep HB4.out).up' hz4) (by omega) Hkb.out (fun b e hb he => by
          have h1 := (HO4.out.lt b.block (by rw [hb]; rfl)).1
          obtain ⟨f, hf2⟩ := HOr.out
          have h2 := hf2.hi e he
          omega)
        refine hrec.mono ?_
        rintro e w5 ⟨ad5, k5, c5, rfl, hown5, hg5, hl5⟩
        have HO5 := Lib.hid hown5; have HG5 := Lib.hid hg5; have HL5 := Lib.hid hl5
        clear hown5 hg5 hl5 hrec
        go_wp2_with fail
        go_roundw
        case rel =>
          refine ⟨J + 1, by omega, by go_num, ad5, k5, c5, rfl, ?_, ?_, fun b hb => ?_⟩
          · rw [Hnext.out, ← List.append_assoc]; exact HO5.out
          · refine grown_then (grown_trans HGr.out (grown_of HB4.out)) HG5.out fun j hj => ?_
            obtain ⟨b, hb, hbj⟩ := ownBlock_some hj
            rcases HLr.out b hb with ⟨e, he, hbe⟩ | h
            · left
              rw [he, ← hbj, hbe]; rfl
            · right; omega
          · rcases HL5.out b hb with ⟨e, he, hbe⟩ | h
            · rcases HLr.out e he with ⟨e2, he2, hbe2⟩ | h
              · exact .inl ⟨e2, he2, by rw [hbe, hbe2]⟩
              · exact .inr (by omega)
            · exact .inr (by omega)
        case measure => simp [intOf] <;> omega
      · obtain rfl : J = d + 1 := by omega
        have hxm : (d : Int) - ((d + 1 : Nat) : Int) = -1 := by omega
        rw [hxm]
        go_wp2_with fail
        go_ret
        exact ⟨ad2, k2, c2, rfl, by rw [← monoTo_all]; exact HOr.out, HGr.out, HLr.out⟩
end Go.Proofs.Ytpoolkmcbeghjaa

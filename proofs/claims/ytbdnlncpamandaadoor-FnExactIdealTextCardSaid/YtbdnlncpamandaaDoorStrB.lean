/- append of a text to a row of bytes of the call's own. -/
import Derived.Deep.AppendSrc
import Derived.Lib.Strings
import Derived.Test.YtbdnlncpamandaaDoorText
namespace Go.Proofs.YtbdnlncpamandaaDoor
set_option maxRecDepth 20000
open Go.RowKit
set_option linter.unusedSimpArgs false
set_option linter.unusedVariables false

/-- a row written over from o on -/
theorem Row.setCells {T B g n c : Nat} : ∀ (vs us : List Value) (o : Nat) (w : World), Row T w B (some ⟨g, 0, none⟩) n c us → o + vs.length ≤ n → Row T (w.setCells g o vs) B (some ⟨g, 0, none⟩) n c (us.take o ++ vs ++ us.drop (o + vs.length)) := by
  intro vs
  induction vs with
  | nil => intro us o w h _; simpa [World.setCells] using h
  | cons v vs ih =>
    intro us o w h hl
    rw [List.length_cons] at hl
    have h1 := ih (us.set o v) (o + 1) (w.setCell ⟨g, o, none⟩ v) (h.set o v) (by omega)
    have hul : us.length = n := h.len
    have e : (us.set o v).take (o + 1) ++ vs ++ (us.set o v).drop (o + 1 + vs.length) = us.take o ++ (v :: vs) ++ us.drop (o + (v :: vs).length) := by
      rw [List.take_succ_eq_append_getElem (by rw [List.length_set]; omega), List.getElem_set_self, List.take_set_of_le (Nat.le_refl _), List.drop_set_of_lt (by omega), List.length_cons, show o + 1 + vs.length = o + (vs.length + 1) by omega]
      simp
    rw [e] at h1
    exact h1
theorem byteCells_byt (t : ByteArray) : byteCells t = bval t.data.toList := by
  unfold byteCells bval
  rfl
theorem run_ap_text {W : World} (B ty g n c : Nat) (l : List UInt8) (hown : Row 5 W B (some ⟨g, 0, none⟩) n c (bval l)) (t : ByteArray) (hn : n + t.size < 1099511627776) (hB : B ≤ W.heap.size) :
    ∃ g' c' w', (Builtin.append_ #[46, 9] ty #[.slice (some ⟨g, 0, none⟩) n c, .string t]).run Tryd.prog W = .ok (.slice (some ⟨g', 0, none⟩) (n + t.size : Nat) c') w' ∧ Row 5 w' B (some ⟨g', 0, none⟩) (n + t.size) c' (bval (l ++ t.data.toList)) ∧ Below B W w' := by
  obtain ⟨i, hi, hz0, hz1, hz2⟩ := info_parts infoByte
  have hsrc : Src Tryd.prog i.size 9 (.string t) t.size (byteCells t) W := by rw [hz1]; exact Src.ofString W Tryd.underlying9 t
  have hll : (bval l).length = n := hown.len
  have hbl : (byteCells t).length = t.size := byteCells_length t
  rcases hown.row.2 with ⟨h0, _⟩ | ⟨g1, cap, cur, he, hbg, hg, hnc, hcm, hcs, htake⟩
  · cases h0
  · cases he
    rw [Nat.mul_one] at hcs htake
    by_cases hroom : n + t.size ≤ c
    · have hext : Row 5 W B (some ⟨g, 0, none⟩) (n + t.size) c (cur.toList.take (n + t.size)) :=
        ⟨by rw [List.length_take, Array.length_toList]; omega, by rw [List.length_take, Array.length_toList]; omega, .inr ⟨g, c, cur, rfl, hbg, hg, hroom, hcm, by rw [Nat.mul_one]; exact hcs, by rw [Nat.mul_one]⟩⟩
      have hset := Row.setCells (byteCells t) _ n W hext (by rw [hbl]; exact Nat.le_refl _)
      have e : (cur.toList.take (n + t.size)).take n ++ byteCells t ++ (cur.toList.take (n + t.size)).drop (n + (byteCells t).length) = bval (l ++ t.data.toList) := by
        rw [List.take_take, Nat.min_eq_left (by omega), htake, hbl, List.drop_eq_nil_of_le (by rw [List.length_take]; omega), List.append_nil, byteCells_byt]
        unfold bval
        rw [List.map_append]
      rw [e] at hset
      have hcells : ∀ j, j < (byteCells t).length → (W.cell? ⟨g, 0 + n * i.size + j, none⟩).isSome = true ∧ W.frozen? ⟨g, 0 + n * i.size + j, none⟩ = false := fun j hj => by
        rw [hbl] at hj
        obtain ⟨g9, hg9, _, _, hc, hf⟩ := hext.cells (by omega)
        cases hg9
        rw [hz1, Nat.mul_one, Nat.zero_add]
        refine ⟨?_, hf (n + j)⟩
        rw [hc (n + j) (by omega), List.getElem?_eq_getElem (by rw [List.length_take, Array.length_toList]; omega)]; rfl
      have hr := run_append_room_src (P := Tryd.prog) W 46 9 ty 5 i Tryd.underlying46 hi g 0 n c (.string t) t.size (byteCells t) hsrc hroom (fun j hj => (hcells j hj).1) (fun j hj => (hcells j hj).2)
      rw [hz1, Nat.mul_one, Nat.zero_add] at hr
      refine ⟨g, c, _, hr, hset, ?_⟩
      have hsz : (W.setCells g n (byteCells t)).heap.size = W.heap.size := by
        have : ∀ (vs : List Value) (o : Nat) (w : World), (w.setCells g o vs).heap.size = w.heap.size := by
          intro vs
          induction vs with
          | nil => intro o w; rfl
          | cons v vs ih => intro o w; simp [World.setCells, ih]
        exact this _ _ _
      have hbe : ∀ (vs : List Value) (o : Nat) (w : World), Below B W w → Below B W (w.setCells g o vs) := by
        intro vs
        induction vs with
        | nil => intro o w h; exact h
        | cons v vs ih => intro o w h; exact ih _ _ (h.setCell hbg _)
      exact hbe _ _ _ (Below.refl _ _)
    · have holds : ∀ j u, (bval l)[j]? = some u → W.drew.cell? ((⟨g, 0, none⟩ : Addr).add j) = some u := hown.drew.row.cells (g := g) rfl
      have hold : (Builtin.firstCells i.size n (.slice (some ⟨g, 0, none⟩) n c)).run Tryd.prog W.drew = .ok (bval l).toArray W.drew := by
        rw [hz1]
        exact run_firstCells_some W.drew 1 n ⟨g, 0, none⟩ n c (bval l) (by rw [hll, Nat.mul_one]) holds
      have hr := run_append_grow_src (P := Tryd.prog) W 46 9 ty 5 i (.int .u8 0) Tryd.underlying46 hi hz0 (some ⟨g, 0, none⟩) n c (bval l) hold (.string t) t.size (byteCells t) hsrc (by omega) (by omega) (growslice_fits (by omega) (by rw [hz2]; omega))
      refine ⟨W.heap.size, _, _, hr, ?_, ?_⟩
      · have hge := grownCap_ge W (n + t.size) c 5
        have hcm2 : grownCap W (n + t.size) c 5 ≤ maxLen := grownCap_le_maxLen W (n + t.size) c 5 (by unfold maxLen; omega)
        have hlen : (bval (l ++ t.data.toList)).length = n + t.size := by
          unfold bval at hll ⊢
          rw [List.map_append, List.length_append, hll, ← hbl, byteCells_byt]; rfl
        have happ : bval l ++ byteCells t = bval (l ++ t.data.toList) := by
          rw [byteCells_byt]; unfold bval; rw [List.map_append]
        refine ⟨hlen, by rw [hlen, Nat.mul_one], .inr ⟨W.heap.size, _, _, rfl, hB, heap_alloc_new W.drew _, hge, hcm2, ?_, ?_⟩⟩
        · rw [happ]
          simp only [Array.size_append, List.size_toArray, size_zeroCells]
          rw [hlen]
          simp [Value.cells]
          omega
        · rw [happ]
          simp only [Array.toList_append, Nat.mul_one]
          rw [← hlen]
          exact List.take_left
      · exact ((Below.refl _ _).drew).alloc hB _
end Go.Proofs.YtbdnlncpamandaaDoor

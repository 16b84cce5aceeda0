/- The reference's drawings for FnIdeals: two ideals. -/
import Derived.Deep.RegionHeld3
import Derived.Test.YtihfhfihladlcaaGreatDoorDrw13
namespace Go.Proofs.YtihfhfihladlcaaGreatDoor
set_option maxRecDepth 20000
open Go.RowKit
set_option linter.unusedSimpArgs false
set_option linter.unusedVariables false

/-- two drawn complexes or ideals -/
def RetCx2 (w : World) (e : Ending) (w' : World) : Prop := ∃ p ad n c xs q ad' n' c' ys, e = .returned (.tuple #[.agg #[.int .i64 p, .slice ad n c], .agg #[.int .i64 q, .slice ad' n' c']]) ∧ Own 3 w' w.heap.size ad n c xs ∧ xs.length ≤ 1101 ∧ Own 3 w' w.heap.size ad' n' c' ys ∧ ys.length ≤ 1101 ∧ Below w.heap.size w w'
theorem l1MinI_any (x y : Int) (w : World) : Calls Tryz.prog 162 #[.int .i64 x, .int .i64 y] w fun e w' => e = .returned (.int .i64 (min x y)) ∧ w = w' := by
  by_cases h : x < y
  · have e1 : min x y = x := by omega
    rw [e1]
    go_enter Tryz.func162, Tryz.ntmps162
    go_wp2_with fail
    go_ret
    exact ⟨ret_int (by simp), rfl⟩
  · have e1 : min x y = y := by omega
    rw [e1]
    go_enter Tryz.func162, Tryz.ntmps162
    go_wp2_with fail
    go_ret
    exact ⟨ret_int (by simp), rfl⟩
theorem l1MaxI_any (x y : Int) (w : World) : Calls Tryz.prog 161 #[.int .i64 x, .int .i64 y] w fun e w' => e = .returned (.int .i64 (max x y)) ∧ w = w' := by
  by_cases h : y < x
  · go_enter Tryz.func161, Tryz.ntmps161
    go_wp2_with fail
    go_ret
    exact ⟨ret_int (by omega), rfl⟩
  · go_enter Tryz.func161, Tryz.ntmps161
    go_wp2_with fail
    go_ret
    exact ⟨ret_int (by omega), rfl⟩
set_option maxHeartbeats 4000000 in
theorem l29Both_any (a : Option Addr) (n c : Nat) (w : World) (hy : CodeAt w a n) (hn : n ≤ 1048576) :
    Calls Tryz.prog 79 #[.slice a n c] w (RetCx2 w) := by
  obtain ⟨W0, hW0⟩ : ∃ W0, W0 = (w.alloc (.cells #[.int .i64 0, .slice none 0 0] 26)).alloc (.cells #[.int .i64 0, .slice none 0 0] 26) := ⟨_, rfl⟩
  have hz0 : W0.heap.size = w.heap.size + 2 := by rw [hW0]; simp
  have XA0 : Hid (BoxF W0 w.heap.size (.int .i64 0) (.slice none 0 0)) := Lib.hid (by rw [hW0]; exact (BoxF.new _ _ _ _).alloc _)
  have XB0 : Hid (BoxF W0 (w.heap.size + 1) (.int .i64 0) (.slice none 0 0)) := Lib.hid (by
    have := BoxF.new (w.alloc (.cells #[.int .i64 0, .slice none 0 0] 26)) (.int .i64 0) (.slice none 0 0) 26
    rw [World.size_alloc] at this
    rw [hW0]; exact this)
  have HB0 : Hid (Below w.heap.size w W0) := Lib.hid (by rw [hW0]; exact (by repeat (first | exact Below.refl _ _ | assumption | refine Below.setCell ?_ (by first | omega | (simp; done) | (simp; omega)) _ | refine Below.alloc ?_ (by first | omega | (simp; done) | (simp; omega)) _ | apply Below.drew)))
  have HY0 : Hid (CodeAt W0 a n) := Lib.hid (hy.keep HB0.out)
  have HW0 := Lib.hid hW0
  clear hy hW0
  go_enter Tryz.func79, Tryz.ntmps79
  go_wp2_with fail
  rw [← HW0.out]
  refine (l1New_any a n c W0 HY0.out hn).mono ?_
  rintro e w1 ⟨rfl, hb1, hc1⟩
  have hz1 : w.heap.size + 2 ≤ w1.heap.size := by have := hb1.size; omega
  have XA1 := Lib.hid (XA0.out.keep hb1 (by omega)); have XB1 := Lib.hid (XB0.out.keep hb1 (by omega))
  have HB1 : Hid (Below w.heap.size w w1) := Lib.hid (HB0.out.trans (hb1.mono (by omega)))
  obtain ⟨g, hg⟩ : ∃ g, g = W0.heap.size := ⟨_, rfl⟩
  rw [← hg] at hc1
  rw [← hg]
  have hgw : w.heap.size + 1 < g := by omega
  have HC1 := Lib.hid hc1
  clear hb1 hc1 hg
  go_wp2_with fail
  refine (l29Bent_any g w1 HC1.out).mono ?_
  rintro e w2 ⟨v, rfl, ⟨p, ad, k, d, xs, rfl, hown, hxl⟩, hg2, hc2⟩
  have XA2 := Lib.hid (XA1.out.chg hg2 (by omega)); have XB2 := Lib.hid (XB1.out.chg hg2 (by omega))
  have HB2 := Lib.hid (HB1.out.trans (hg2.belowNew (B := w.heap.size) (by omega) (by omega)))
  have hz2 : w1.heap.size ≤ w2.heap.size := hg2.size
  have hg1 : g < w1.heap.size := HC1.out.lt
  obtain ⟨G, hG⟩ : ∃ G, G = w2.heap.size := ⟨_, rfl⟩
  obtain ⟨W3, hW3⟩ : ∃ W3, W3 = w2.alloc (.cells #[.int .i64 p, .slice ad k d] 26) := ⟨_, rfl⟩
  have HG := Lib.hid hG; have HW3 := Lib.hid hW3
  have XG3 : Hid (BoxF W3 G (.int .i64 p) (.slice ad k d)) := Lib.hid (by rw [hW3, hG]; exact BoxF.new _ _ _ _)
  have XA3 : Hid (BoxF W3 w.heap.size (.int .i64 0) (.slice none 0 0)) := Lib.hid (by rw [hW3]; exact XA2.out.alloc _)
  have XB3 : Hid (BoxF W3 (w.heap.size + 1) (.int .i64 0) (.slice none 0 0)) := Lib.hid (by rw [hW3]; exact XB2.out.alloc _)
  have HC3 : Hid (Cur W3 g) := Lib.hid (by rw [hW3]; exact hc2.alloc _)
  have HO3 : Hid (Own 3 W3 w1.heap.size ad k d xs) := Lib.hid (by rw [hW3]; exact Own.alloc hown _)
  have HB3 : Hid (Below w.heap.size w W3) := Lib.hid (by rw [hW3]; exact HB2.out.alloc HB2.out.size _)
  have hz3 : G + 1 ≤ W3.heap.size := by rw [hW3, hG]; simp
  have hGw : w1.heap.size ≤ G := by omega
  clear hg2 hc2 hown hG hW3
  go_wp2_with fail
  rw [← HG.out, ← HW3.out]
  refine (l1Once_any g 8 W3 HC3.out (by omega)).mono ?_
  rintro e w5 ⟨v, rfl, ⟨b, rfl⟩, hg5, hc5⟩
  have XG5 := Lib.hid (XG3.out.chg hg5 (by omega)); have XA5 := Lib.hid (XA3.out.chg hg5 (by omega)); have XB5 := Lib.hid (XB3.out.chg hg5 (by omega))
  have HB5 : Hid (Below w.heap.size w w5) := Lib.hid (HB3.out.trans (hg5.belowNew (by omega) (by omega)))
  have HO5 := Lib.hid (Own.chgW HO3.out hg5 hg1); have HC5 := Lib.hid hc5
  have hz5 : G + 1 ≤ w5.heap.size := Nat.le_trans hz3 hg5.size
  clear hg5 hc5 XG3 XA3 XB3 HO3 HC3 HB3
  have HK : Hid (∀ (W : World) (v1 v2 v3 v4 : Value), BoxF W G (.int .i64 p) (.slice ad k d) → BoxF ((W.setCell ⟨w.heap.size, 0, none⟩ v1).setCell ⟨w.heap.size, 1, none⟩ v2) G (.int .i64 p) (.slice ad k d) ∧ BoxF ((W.setCell ⟨w.heap.size + 1, 0, none⟩ v3).setCell ⟨w.heap.size + 1, 1, none⟩ v4) G (.int .i64 p) (.slice ad k d)) := Lib.hid fun W v1 v2 v3 v4 h => ⟨(h.setOther _ _ (by simp only; omega)).setOther _ _ (by simp only; omega), (h.setOther _ _ (by simp only; omega)).setOther _ _ (by simp only; omega)⟩
  obtain ⟨b0, b1, _, _, _⟩ := XG5.out
  cases b
  · obtain ⟨K9, hK⟩ : ∃ K : Nat, K = (max 1 (min 6 p)).toNat := ⟨_, rfl⟩
    have hK1 : 1 ≤ K9 := by omega
    have hK6 : K9 ≤ 6 := by omega
    have HMn : Hid (∀ W, Calls Tryz.prog 162 #[.int .i64 6, .int .i64 p] W fun e w' => e = .returned (.int .i64 (min 6 p)) ∧ W = w') := Lib.hid fun W => l1MinI_any 6 p W
    have HMx : Hid (∀ W, Calls Tryz.prog 161 #[.int .i64 1, .int .i64 (min 6 p)] W fun e w' => e = .returned (.int .i64 (K9 : Int)) ∧ W = w') := Lib.hid fun W => by
      rw [show (K9 : Int) = max 1 (min 6 p) by omega]; exact l1MaxI_any 1 (min 6 p) W
    clear hK
    go_wp2_with fail
    refine wp_region_held_drew (S := fun W => W.cell? ⟨G, 0, none⟩ = some (.int .i64 p) ∧ W.cell? ⟨G, 1, none⟩ = some (.slice ad k d)) (by kernel_rfl) ⟨b0, b1⟩ (fun hHeld => ?_)
    refine wpAnyH_take (i := 0) (oi := { dst := some 15, op := Op.load 26 (Operand.tmp 5), type := 26, pos := "l29_ideal.go:142", after := #[], guard := none }) (v := ?_) rfl (by kernel_rfl) (by kernel_rfl) (by kernel_rfl) (fun _ _ _ h => h) (Or.inl ⟨by rfl, ?_⟩) (by assumption) ?_
    rotate_left
    · intro w hSw
      try dsimp only at hSw
      go_simp
      try (with_reducible rfl)
    try simp only [Act.put, List.setIfInBounds_toArray, List.set_cons_zero, List.set_cons_succ]
    refine wpAnyH_take (i := 1) (oi := { dst := some 16, op := Op.move (Operand.tmp 4), type := 81, pos := "l29_ideal.go:142", after := #[], guard := none }) (v := ?_) rfl (by kernel_rfl) (by kernel_rfl) (by kernel_rfl) (fun _ _ _ h => h) (Or.inl ⟨by rfl, ?_⟩) (by assumption) ?_
    rotate_left
    · intro w hSw
      try dsimp only at hSw
      go_simp
      try (with_reducible rfl)
    try simp only [Act.put, List.setIfInBounds_toArray, List.set_cons_zero, List.set_cons_succ]
    refine wpAnyH_take (i := 2) (oi := { dst := some 17, op := Op.fieldAddr 26 (Operand.tmp 5) 0, type := 0, pos := "l29_ideal.go:142", after := #[], guard := none }) (v := ?_) rfl (by kernel_rfl) (by kernel_rfl) (by kernel_rfl) (fun _ _ _ h => h) (Or.inl ⟨by rfl, ?_⟩) (by assumption) ?_
    rotate_left
    · intro w hSw
      try dsimp only at hSw
      go_simp
      try (with_reducible rfl)
    try simp only [Act.put, List.setIfInBounds_toArray, List.set_cons_zero, List.set_cons_succ]
    refine wpAnyH_take (i := 3) (oi := { dst := some 18, op := Op.load 3 (Operand.tmp 17), type := 3, pos := "l29_ideal.go:142", after := #[{ on := 2, ground := Ground.data }], guard := none }) (v := ?_) rfl (by kernel_rfl) (by kernel_rfl) (by kernel_rfl) (fun _ _ _ h => h) (Or.inl ⟨by rfl, ?_⟩) (by assumption) ?_
    rotate_left
    · intro w hSw
      try dsimp only at hSw
      go_simp
      try (with_reducible rfl)
    try simp only [Act.put, List.setIfInBounds_toArray, List.set_cons_zero, List.set_cons_succ]
    refine wpAnyH_ready (rs := [4]) (by kernel_rfl) (by simp) ?_
    refine AllReadyH.cons (o := { dst := some 19, op := Op.call { callee := Callee.value (Operand.func 162), args := #[Operand.const (Value.int IntKind.i64 6), Operand.tmp 18], argTypes := #[3, 3] }, type := 3, pos := "l29_ideal.go:142", after := #[{ on := 3, ground := Ground.data }], guard := none }) rfl (fun K hK => ?_) ?_
    · go_simp
      go_simp; go_at_call 162; (with_reducible refine (HMn.out _).mono ?_); rintro e w6 ⟨rfl, rfl⟩
      try (go_wp2_with fail)
      refine hK.out _ _ ?_ (fun hHeld => ?_)
      · first | exact ⟨b0, b1⟩ | exact ⟨z0, z1⟩
      clear hK K
      try simp only [Act.put, List.setIfInBounds_toArray, List.set_cons_zero, List.set_cons_succ]
      refine wpAnyH_ready (rs := [5]) (by kernel_rfl) (by simp) ?_
      refine AllReadyH.cons (o := { dst := some 20, op := Op.call { callee := Callee.value (Operand.func 161), args := #[Operand.const (Value.int IntKind.i64 1), Operand.tmp 19], argTypes := #[3, 3] }, type := 3, pos := "l29_ideal.go:142", after := #[{ on := 4, ground := Ground.data }, { on := 4, ground := Ground.chain }], guard := none }) rfl (fun K hK => ?_) ?_
      · go_simp
        go_simp; go_at_call 161; (with_reducible refine (HMx.out _).mono ?_); rintro e w6 ⟨rfl, rfl⟩
        try (go_wp2_with fail)
        refine hK.out _ _ ?_ (fun hHeld => ?_)
        · first | exact ⟨b0, b1⟩ | exact ⟨z0, z1⟩
        clear hK K
        try simp only [Act.put, List.setIfInBounds_toArray, List.set_cons_zero, List.set_cons_succ]
        refine wpAnyH_ready (rs := [6]) (by kernel_rfl) (by simp) ?_
        refine AllReadyH.cons (o := { dst := some 21, op := Op.call { callee := Callee.value (Operand.func 160), args := #[Operand.tmp 16, Operand.tmp 20], argTypes := #[81, 3] }, type := 26, pos := "l29_ideal.go:142", after := #[{ on := 1, ground := Ground.data }, { on := 5, ground := Ground.data }, { on := 5, ground := Ground.chain }], guard := none }) rfl (fun K hK => ?_) ?_
        · go_simp
          go_simp; go_at_call 160; (with_reducible refine (l29Draw_any g K9 _ HC5.out.drew hK1 hK6).mono ?_); rintro e w6 ⟨v, rfl, ⟨q, ad2, k2, d2, ys, rfl, own2, hyl⟩, hg6, hc6⟩
          have XG6 := Lib.hid (XG5.out.drew.chg hg6 (by omega)); have XA6 := Lib.hid (XA5.out.drew.chg hg6 (by omega)); have XB6 := Lib.hid (XB5.out.drew.chg hg6 (by omega))
          have HB6 : Hid (Below w.heap.size w w6) := Lib.hid (HB5.out.drew.trans (hg6.belowNew (by omega) HB5.out.size)); have HO6 := Lib.hid (Own.chgW (Own.drew HO5.out) hg6 hg1); have hs6 : w5.heap.size ≤ w5.drew.heap.size := Nat.le_refl _; have HY6 := Lib.hid own2
          obtain ⟨z0, z1, _, _, _⟩ := XG6.out; obtain ⟨r0, r1, rf0, rf1, _⟩ := XA6.out; obtain ⟨s0, s1, sf0, sf1, _⟩ := XB6.out; clear hg6 hc6 own2
          try (go_wp2_with fail)
          refine hK.out _ _ ?_ (fun hHeld => ?_)
          · first | exact ⟨b0, b1⟩ | exact ⟨z0, z1⟩
          clear hK K
          try simp only [Act.put, List.setIfInBounds_toArray, List.set_cons_zero, List.set_cons_succ]
          refine wpAnyH_ready (rs := [7]) (by kernel_rfl) (by simp) ?_
          refine AllReadyH.cons (o := { dst := none, op := Op.store 26 (Operand.tmp 2) (Operand.tmp 15), type := 0, pos := "l29_ideal.go:142", after := #[{ on := 0, ground := Ground.data }, { on := 6, ground := Ground.chain }, { on := 0, ground := Ground.phase }, { on := 1, ground := Ground.textOnly Departure.lateStores }, { on := 2, ground := Ground.textOnly Departure.lateStores }, { on := 3, ground := Ground.textOnly Departure.lateStores }, { on := 4, ground := Ground.textOnly Departure.lateStoresUnsure }, { on := 5, ground := Ground.textOnly Departure.lateStoresUnsure }, { on := 6, ground := Ground.textOnly Departure.lateStoresUnsure }], guard := none }) rfl (fun K hK => ?_) ?_
          · go_simp
            try (go_wp2_with fail)
            refine hK.out _ _ ?_ (fun hHeld => ?_)
            · have hh := HK.out _ (.int .i64 p) (.slice ad k d) (.int .i64 q) (.slice ad2 k2 d2) XG6.out; have h2 := HK.out _ (.int .i64 p) (.slice ad k d) (.int .i64 q) (.slice ad2 k2 d2) hh.1; first | exact ⟨hh.1.c0, hh.1.c1⟩ | exact ⟨hh.2.c0, hh.2.c1⟩ | exact ⟨h2.2.c0, h2.2.c1⟩
            clear hK K
            try simp only [Act.put, List.setIfInBounds_toArray, List.set_cons_zero, List.set_cons_succ]
            refine wpAnyH_ready (rs := [8]) (by kernel_rfl) (by simp) ?_
            refine AllReadyH.cons (o := { dst := none, op := Op.store 26 (Operand.tmp 3) (Operand.tmp 21), type := 0, pos := "l29_ideal.go:142", after := #[{ on := 6, ground := Ground.data }, { on := 7, ground := Ground.chain }, { on := 0, ground := Ground.phase }, { on := 1, ground := Ground.phase }, { on := 2, ground := Ground.phase }, { on := 3, ground := Ground.phase }, { on := 4, ground := Ground.phase }, { on := 5, ground := Ground.phase }, { on := 6, ground := Ground.phase }, { on := 7, ground := Ground.phase }], guard := none }) rfl (fun K hK => ?_) ?_
            · go_simp
              try (go_wp2_with fail)
              refine hK.out _ _ ?_ (fun hHeld => ?_)
              · have hh := HK.out _ (.int .i64 p) (.slice ad k d) (.int .i64 q) (.slice ad2 k2 d2) XG6.out; have h2 := HK.out _ (.int .i64 p) (.slice ad k d) (.int .i64 q) (.slice ad2 k2 d2) hh.1; first | exact ⟨hh.1.c0, hh.1.c1⟩ | exact ⟨hh.2.c0, hh.2.c1⟩ | exact ⟨h2.2.c0, h2.2.c1⟩
              clear hK K
              try simp only [Act.put, List.setIfInBounds_toArray, List.set_cons_zero, List.set_cons_succ]
              refine wpAnyH_done (by kernel_rfl) ?_ _
              go_wp2_with fail
              refine bodyPost_ret (v := .tuple #[.agg #[.int .i64 p, .slice ad k d], .agg #[.int .i64 q, .slice ad2 k2 d2]]) (by simp [results, Tryz.results79, go_sem, r0, r1, s0, s1]) rfl ⟨p, ad, k, d, xs, q, ad2, k2, d2, ys, rfl, ?_, by omega, ?_, by omega, ?_⟩
              · exact Row.mono (Row.setBelow (Row.setBelow (Row.setBelow (Row.setBelow HO6.out _ (by omega)) _ (by omega)) _ (by omega)) _ (by omega)) (by omega)
              · exact Row.mono (Row.setBelow (Row.setBelow (Row.setBelow (Row.setBelow HY6.out _ (by omega)) _ (by omega)) _ (by omega)) _ (by omega)) (by omega)
              · exact (((HB6.out.setCell (by simp) _).setCell (by simp) _).setCell (by simp) _).setCell (by simp) _
            · exact AllReadyH.nil
          · exact AllReadyH.nil
        · exact AllReadyH.nil
      · exact AllReadyH.nil
    · exact AllReadyH.nil
  · go_wp2_with fail
    refine wp_region_held_drew (S := fun W => W.cell? ⟨G, 0, none⟩ = some (.int .i64 p) ∧ W.cell? ⟨G, 1, none⟩ = some (.slice ad k d)) (by kernel_rfl) ⟨b0, b1⟩ (fun hHeld => ?_)
    refine wpAnyH_take (i := 0) (oi := { dst := some 12, op := Op.load 26 (Operand.tmp 5), type := 26, pos := "l29_ideal.go:140", after := #[], guard := none }) (v := ?_) rfl (by kernel_rfl) (by kernel_rfl) (by kernel_rfl) (fun _ _ _ h => h) (Or.inl ⟨by rfl, ?_⟩) (by assumption) ?_
    rotate_left
    · intro w hSw
      try dsimp only at hSw
      go_simp
      try (with_reducible rfl)
    try simp only [Act.put, List.setIfInBounds_toArray, List.set_cons_zero, List.set_cons_succ]
    refine wpAnyH_take (i := 1) (oi := { dst := some 13, op := Op.move (Operand.tmp 4), type := 81, pos := "l29_ideal.go:140", after := #[], guard := none }) (v := ?_) rfl (by kernel_rfl) (by kernel_rfl) (by kernel_rfl) (fun _ _ _ h => h) (Or.inl ⟨by rfl, ?_⟩) (by assumption) ?_
    rotate_left
    · intro w hSw
      try dsimp only at hSw
      go_simp
      try (with_reducible rfl)
    try simp only [Act.put, List.setIfInBounds_toArray, List.set_cons_zero, List.set_cons_succ]
    refine wpAnyH_ready (rs := [2]) (by kernel_rfl) (by simp) ?_
    refine AllReadyH.cons (o := { dst := some 14, op := Op.call { callee := Callee.value (Operand.func 159), args := #[Operand.tmp 13], argTypes := #[81] }, type := 26, pos := "l29_ideal.go:140", after := #[{ on := 1, ground := Ground.data }], guard := none }) rfl (fun K hK => ?_) ?_
    · go_simp
      go_simp; go_at_call 159; (with_reducible refine (l29Bent_any g _ HC5.out.drew).mono ?_); rintro e w6 ⟨v, rfl, ⟨q, ad2, k2, d2, ys, rfl, own2, hyl⟩, hg6, hc6⟩
      have XG6 := Lib.hid (XG5.out.drew.chg hg6 (by omega)); have XA6 := Lib.hid (XA5.out.drew.chg hg6 (by omega)); have XB6 := Lib.hid (XB5.out.drew.chg hg6 (by omega))
      have HB6 : Hid (Below w.heap.size w w6) := Lib.hid (HB5.out.drew.trans (hg6.belowNew (by omega) HB5.out.size)); have HO6 := Lib.hid (Own.chgW (Own.drew HO5.out) hg6 hg1); have hs6 : w5.heap.size ≤ w5.drew.heap.size := Nat.le_refl _; have HY6 := Lib.hid own2
      obtain ⟨z0, z1, _, _, _⟩ := XG6.out; obtain ⟨r0, r1, rf0, rf1, _⟩ := XA6.out; obtain ⟨s0, s1, sf0, sf1, _⟩ := XB6.out; clear hg6 hc6 own2
      try (go_wp2_with fail)
      refine hK.out _ _ ?_ (fun hHeld => ?_)
      · first | exact ⟨b0, b1⟩ | exact ⟨z0, z1⟩
      clear hK K
      try simp only [Act.put, List.setIfInBounds_toArray, List.set_cons_zero, List.set_cons_succ]
      refine wpAnyH_ready (rs := [3]) (by kernel_rfl) (by simp) ?_
      refine AllReadyH.cons (o := { dst := none, op := Op.store 26 (Operand.tmp 2) (Operand.tmp 12), type := 0, pos := "l29_ideal.go:140", after := #[{ on := 0, ground := Ground.data }, { on := 2, ground := Ground.chain }, { on := 0, ground := Ground.phase }, { on := 1, ground := Ground.textOnly Departure.lateStores }, { on := 2, ground := Ground.textOnly Departure.lateStoresUnsure }], guard := none }) rfl (fun K hK => ?_) ?_
      · go_simp
        try (go_wp2_with fail)
        refine hK.out _ _ ?_ (fun hHeld => ?_)
        · have hh := HK.out _ (.int .i64 p) (.slice ad k d) (.int .i64 q) (.slice ad2 k2 d2) XG6.out; have h2 := HK.out _ (.int .i64 p) (.slice ad k d) (.int .i64 q) (.slice ad2 k2 d2) hh.1; first | exact ⟨hh.1.c0, hh.1.c1⟩ | exact ⟨hh.2.c0, hh.2.c1⟩ | exact ⟨h2.2.c0, h2.2.c1⟩
        clear hK K
        try simp only [Act.put, List.setIfInBounds_toArray, List.set_cons_zero, List.set_cons_succ]
        refine wpAnyH_ready (rs := [4]) (by kernel_rfl) (by simp) ?_
        refine AllReadyH.cons (o := { dst := none, op := Op.store 26 (Operand.tmp 3) (Operand.tmp 14), type := 0, pos := "l29_ideal.go:140", after := #[{ on := 2, ground := Ground.data }, { on := 3, ground := Ground.chain }, { on := 0, ground := Ground.phase }, { on := 1, ground := Ground.phase }, { on := 2, ground := Ground.phase }, { on := 3, ground := Ground.phase }], guard := none }) rfl (fun K hK => ?_) ?_
        · go_simp
          try (go_wp2_with fail)
          refine hK.out _ _ ?_ (fun hHeld => ?_)
          · have hh := HK.out _ (.int .i64 p) (.slice ad k d) (.int .i64 q) (.slice ad2 k2 d2) XG6.out; have h2 := HK.out _ (.int .i64 p) (.slice ad k d) (.int .i64 q) (.slice ad2 k2 d2) hh.1; first | exact ⟨hh.1.c0, hh.1.c1⟩ | exact ⟨hh.2.c0, hh.2.c1⟩ | exact ⟨h2.2.c0, h2.2.c1⟩
          clear hK K
          try simp only [Act.put, List.setIfInBounds_toArray, List.set_cons_zero, List.set_cons_succ]
          refine wpAnyH_done (by kernel_rfl) ?_ _
          go_wp2_with fail
          refine bodyPost_ret (v := .tuple #[.agg #[.int .i64 p, .slice ad k d], .agg #[.int .i64 q, .slice ad2 k2 d2]]) (by simp [results, Tryz.results79, go_sem, r0, r1, s0, s1]) rfl ⟨p, ad, k, d, xs, q, ad2, k2, d2, ys, rfl, ?_, by omega, ?_, by omega, ?_⟩
          · exact Row.mono (Row.setBelow (Row.setBelow (Row.setBelow (Row.setBelow HO6.out _ (by omega)) _ (by omega)) _ (by omega)) _ (by omega)) (by omega)
          · exact Row.mono (Row.setBelow (Row.setBelow (Row.setBelow (Row.setBelow HY6.out _ (by omega)) _ (by omega)) _ (by omega)) _ (by omega)) (by omega)
          · exact (((HB6.out.setCell (by simp) _).setCell (by simp) _).setCell (by simp) _).setCell (by simp) _
        · exact AllReadyH.nil
      · exact AllReadyH.nil
    · exact AllReadyH.nil
end Go.Proofs.YtihfhfihladlcaaGreatDoor

/- Contracts of the program's addMonomials and of MonomialsOf, the program's and the reference's. -/
import Derived.Deep.RegionHeld3
import Derived.Deep.RegionLaw
import Derived.Test.YtpoolkmcbeghjaaHelp
import Derived.Test.YtpoolkmcbeghjaaIdeal3
import Derived.Test.YtpoolkmcbeghjaaMonoM
namespace Go.Proofs.Ytpoolkmcbeghjaa
set_option maxRecDepth 20000
open Go.RowKit
set_option linter.unusedSimpArgs false
set_option linter.unusedVariables false

theorem Own2.set {w : World} {B U g : Nat} {a : Option Addr} {n c : Nat} {L : List (List Int)} (h : Own2 w B U a n c L) (hg : g < B) (v : Value) : Own2 (w.setCell ⟨g, 0, none⟩ v) B U a n c L := by
  obtain ⟨f, h⟩ := h
  exact ⟨f, h.pres fun k h1 _ _ => Below.heap_setCell _ _ _ _ (fun e => by simp only at e; omega)⟩

/-- the append of a row to a list of lists, as a step in a region that draws its order -/
theorem step_apl {ops : Array Oper} {o : Oper} {a : Act} {W : World} {K : Act → World → Prop} {Q : Exit → Act → World → Prop} {E : Prop} (hgd : o.guard = none) (s x : Operand)
    (ho : o.op = .call { callee := .builtin .append, args := #[s, x], argTypes := #[36, 36] })
    (B : Nat) (ad : Option Addr) (n c : Nat) (vs : List Value) (y : Value) (hs : a.eval s = .slice ad n c) (hown : Row 22 W B ad n c vs) (hy : y.oneCell' = true)
    (hx : a.eval x = .slice (some ⟨W.heap.size, 0, none⟩) 1 1) (hn : n < 1099511627776) (hB : B ≤ W.heap.size)
    (hK : ∀ ad' c' w', Row 22 w' B ad' (n + 1) c' (vs ++ [y]) → (W.alloc (.cells #[y] 22)).grownBy w' (Value.slice ad n c).ownBlock → (∀ b, ad' = some b → (∃ d, ad = some d ∧ b.block = d.block) ∨ (W.alloc (.cells #[y] 22)).heap.size ≤ b.block) → K (a.put o.dst (.slice ad' (n + 1 : Nat) c')) w') :
    if Region.wanted o (yielded ops a.tmps) = true then Oper.wp Try.prog o a (W.alloc (.cells #[y] 22)) K Q else E := by
  have hw : Region.wanted o (yielded ops a.tmps) = true := by simp [Region.wanted, hgd]
  rw [if_pos hw]
  obtain ⟨ad', c', w', hrun, h1, h2, h3⟩ := run_ap_l (W := W.alloc (.cells #[y] 22)) B o.type ad n c vs (hown.alloc _) ⟨W.heap.size, 0, none⟩ y (by rw [World.cell?_alloc_at _ _ _ _ rfl]; rfl) hy hn (by simp; omega)
  unfold Oper.wp
  simp only [execOp, ho, resolve, invoke, builtin, Sem.run_bind, Sem.run_pure, Result.andThen_ok, List.map_toArray, List.map_cons, List.map_nil, hs, hx, hrun]
  exact hK _ _ _ h1 h2 h3

def RetAdd (W : World) (g B : Nat) (ad : Option Addr) (n c : Nat) (L : List (List Int)) (e : Ending) (w' : World) : Prop :=
  (∃ v, e = .returned v) ∧ ∃ ad' n' c', w'.cell? ⟨g, 0, none⟩ = some (.slice ad' n' c') ∧ w'.frozen? ⟨g, 0, none⟩ = false ∧ Own2 w' B w'.heap.size ad' n' c' L ∧ Chg W w' g (Value.slice ad n c).ownBlock ∧ (∀ b, ad' = some b → (∃ d, ad = some d ∧ b.block = d.block) ∨ W.heap.size ≤ b.block)
set_option maxRecDepth 100000 in
set_option maxHeartbeats 4000000 in
theorem add_any : ∀ (r : Nat) (h : List Int) (d : Nat) (ah : Option Addr) (hn hc g B : Nat) (ad : Option Addr) (k c : Nat) (L : List (List Int)) (W : World) (n : Nat), n = r + 1 → r ≤ 5 → d ≤ 5 → hn + r ≤ 6 → IntsAt W ah hn h → Fit ah hn hc → W.cell? ⟨g, 0, none⟩ = some (.slice ad k c) → W.frozen? ⟨g, 0, none⟩ = false → g < B → Own2 W B W.heap.size ad k c L → B ≤ W.heap.size → k + (monoL r h d).length ≤ 1000000 → (∀ b, ah = some b → b.block ≠ g ∧ ∀ e, ad = some e → b.block ≠ e.block) →
    Calls Try.prog 101 #[.pointer (some ⟨g, 0, none⟩), .slice ah hn hc, .int .i64 n, .int .i64 d] W (RetAdd W g B ad k c (L ++ monoL r h d)) := by
  intro r
  induction r with
  | zero =>
    intro h d ah hn hc g B ad k c L W n hn1 hr hd hlen hh hf hcell hfro hgB ho hB hk hne
    obtain rfl : n = 1 := by omega
    clear hn1
    obtain ⟨f, hO⟩ := ho
    have hWd : Below W.heap.size W (W.alloc (.cells #[.int .i64 d] 3)).drew := (by repeat (first | exact Below.refl _ _ | assumption | refine Below.setCell ?_ (by first | omega | (simp; done) | (simp; omega)) _ | refine Below.alloc ?_ (by first | omega | (simp; done) | (simp; omega)) _ | apply Below.drew))
    have HH : Hid (∀ V, Below W.heap.size W V → IntsAt V ah hn h) := Lib.hid fun V hV => hh.keep hV
    have HW := Lib.hid hWd; have HF := Lib.hid hf; have HO := Lib.hid hO
    have hk2 : k ≤ 1000000 := by omega
    have hgW : g < W.heap.size := by omega
    have hlh := hh.len
    clear hh hf hO hne hk hWd
    go_enter Try.func101, Try.ntmps101
    have HC := Lib.hid hcell; have Hfr := Lib.hid hfro
    have Hck : Hid (∀ W', Below W.heap.size W W' → W'.cell? ⟨g, 0, none⟩ = some (.slice ad k c) ∧ W'.frozen? ⟨g, 0, none⟩ = false) := Lib.hid fun W' hW' => ⟨(hW'.cell (p := ⟨g, 0, none⟩) hgW).trans hcell, ((bcell hW').2 g 0 hgW).trans hfro⟩
    go_wp2_with fail
    go_region_law (first
      | (go_simp; go_at_call 120; (with_reducible refine (clone_any ah hn hc h _ (HH.out _ (by first | exact (Below.refl _ _).drew | exact HW.out)) HF.out (by omega)).mono ?_); rintro e w1 ⟨ad1, n1, d1, rfl, hown1, hb1⟩; have hl1 := hown1.len; have HB1 : Hid (Below W.heap.size W w1) := Lib.hid (by first | exact (Below.refl _ W).drew.trans hb1 | exact HW.out.trans (hb1.mono HW.out.size)); have HO1 : Hid (Own 3 w1 W.heap.size ad1 n1 d1 h) := Lib.hid (by first | exact hown1 | exact hown1.mono HW.out.size); (first | have HX1 := Lib.hid ((IntsAt.one W (d : Int) 3).keep (w' := w1) (show Below (W.alloc (.cells #[.int .i64 d] 3)).heap.size (W.alloc (.cells #[.int .i64 d] 3)) w1 from ((Below.refl _ _).drew).trans hb1)) | skip); have y1 := (Hck.out _ HB1.out).1; have hg1 : g < w1.heap.size := Nat.lt_of_lt_of_le hgW HB1.out.size; clear hown1 hb1)
      | (refine step_ap rfl _ _ rfl W.heap.size _ _ _ _ rfl HO1.out _ _ _ _ rfl HX1.out (Fit.one _) (by omega) HB1.out.size ?_; intro ad2 d2 w2 hown2 hb2; have HO2 := Lib.hid hown2; have HB2 : Hid (Below W.heap.size W w2) := Lib.hid (HB1.out.trans hb2); have HR2 := Lib.hid (HO.out.row.keep HB2.out); have y2 := (Hck.out _ HB2.out).1; have hg2 : g < w2.heap.size := Nat.lt_of_lt_of_le hgW HB2.out.size; clear hown2 hb2)
      | (refine step_ap rfl _ _ rfl W.heap.size _ _ _ _ rfl (HO1.out.alloc (.cells #[.int .i64 d] 3)) _ _ _ _ rfl (IntsAt.one w1 (d : Int) 3) (Fit.one _) (by omega) (by have := HB1.out.size; simp; omega) ?_; intro ad2 d2 w2 hown2 hb2; have HO2 := Lib.hid hown2; have HB2 : Hid (Below W.heap.size W w2) := Lib.hid ((HB1.out.alloc HB1.out.size _).trans hb2); have HR2 := Lib.hid (HO.out.row.keep HB2.out); have y2 := (Hck.out _ HB2.out).1; have hg2 : g < w2.heap.size := Nat.lt_of_lt_of_le hgW HB2.out.size; clear hown2 hb2)
      | (refine step_apl rfl _ _ rfl B _ _ _ _ _ rfl HR2.out rfl rfl (by omega) (Nat.le_trans hB HB2.out.size) ?_; intro ad3 d3 w3 hrow3 hg3 hl3; have HR3 := Lib.hid hrow3; have HG3 := Lib.hid hg3; have HL3 := Lib.hid hl3; have hgb : w3.heap[g]? = W.heap[g]? := (hg3.block g (by simp; omega) (fun e => by have := (HO.out.row.lt g e.symm).1; omega)).trans ((Below.heap_alloc _ _ _ hg2).trans (HB2.out.block g hgW)); have y3 := (World.cell?_of_block (a := ⟨g, 0, none⟩) hgb).trans HC.out; have yf := (World.frozen?_of_block (a := ⟨g, 0, none⟩) hgb).trans Hfr.out; clear hgb; clear hrow3 hg3 hl3))
    all_goals go_wp2_with fail
    all_goals (
      have hz2 : W.heap.size ≤ w2.heap.size := HB2.out.size
      have hbl : ∀ x : Obj, Below W.heap.size W (w2.alloc x) := fun x => HB2.out.alloc hz2 x
      refine bodyPost_ret (v := .tuple #[]) (by simp [results, Try.results101, go_sem]) rfl ⟨⟨_, rfl⟩, ad3, k + 1, d3, World.cell?_setCell_same w3 _ _ y3, by rw [World.frozen?_setCell]; exact yf, ?_, ((Chg.of (hbl _)).grown HG3.out).set _, fun b hb => ?_⟩
      · have h1 := O2.snoc HO.out hB (ad2, n1 + 1, d2) _ (hbl _).size (fun k hk => (hbl _).block k hk) ((HO2.out.alloc _).mono hB) (fun b hb => (HO2.out.lt b.block (by simp only at hb; rw [hb]; rfl)).1) HR3.out HG3.out HL3.out
        have h2 := h1.set hgB (.slice ad3 (k + 1) d3)
        simpa [monoL] using h2
      · rcases HL3.out b hb with h | h
        · exact .inl h
        · exact .inr (Nat.le_trans (hbl _).size h))
  | succ r ih =>
    intro h d ah hn hc g B ad k c L W n hn1 hr hd hlen hh hf hcell hfro hgB ho hB hk hne
    obtain ⟨n', hn'⟩ : ∃ n', n' = r + 1 := ⟨_, rfl⟩
    have hni : (n : Int) - 1 = (n' : Int) := by omega
    have hneq : ((n : Int) == 1) = false := by simp; omega
    have hne1 : ¬ (n : Int) = 1 := by omega
    have Hwn : Hid (wrap64 (n' : Int) = (n' : Int)) := Lib.hid (by unfold wrap64; omega)
    have Hlh := Lib.hid hh.len
    have HH := Lib.hid hh; have HF := Lib.hid hf; have HO := Lib.hid ho; have Hne := Lib.hid hne; have Hk := Lib.hid hk; have Hn' := Lib.hid hn'; have Hlen := Lib.hid hlen
    have HC := Lib.hid hcell; have Hfr := Lib.hid hfro
    have hhn6 : hn ≤ 6 := by omega
    clear hh hf ho hne hk hn' hn1 hcell hfro hlen
    go_enter Try.func101, Try.ntmps101
    go_wp2_with fail
    go_loopw [8] (fun x wr => ∃ J : Nat, J ≤ d + 1 ∧ x = .int .i64 ((d : Int) - J) ∧ ∃ ad2 k2 c2, wr.cell? ⟨g, 0, none⟩ = some (.slice ad2 k2 c2) ∧ wr.frozen? ⟨g, 0, none⟩ = false ∧ Own2 wr B wr.heap.size ad2 k2 c2 (L ++ monoTo r h d J) ∧ Chg W wr g (Value.slice ad k c).ownBlock ∧ (∀ b, ad2 = some b → (∃ e, ad = some e ∧ b.block = e.block) ∨ W.heap.size ≤ b.block)) (fun x _ => ((intOf x) + 1).toNat)
    case atStart => exact ⟨0, Nat.zero_le _, by simp, ad, k, c, HC.out, Hfr.out, by simpa [monoTo] using HO.out, Chg.refl _ _ _, fun b hb => .inl ⟨b, hb, rfl⟩⟩
    case round =>
      obtain ⟨J, hJ, rfl, ad2, k2, c2, hcell, hfro, hown, hgr, hloc⟩ := hrel
      have HOr := Lib.hid hown; have HGr := Lib.hid hgr; have HLr := Lib.hid hloc; have HCr := Lib.hid hcell; have HFr := Lib.hid hfro
      have HHr : Hid (IntsAt wr ah hn h) := Lib.hid (HH.out.chg hgr (fun b hb => ⟨(Hne.out b hb).1, fun e => by
        obtain ⟨e1, he1, he2⟩ := ownBlock_some e
        exact (Hne.out b hb).2 e1 he1 he2.symm⟩))
      have hzr : W.heap.size ≤ wr.heap.size := hgr.size
      have hgr2 : g < wr.heap.size := by omega
      clear hown hgr hloc hcell hfro
      by_cases hJd : J ≤ d
      · obtain ⟨X, hX⟩ : ∃ X, X = d - J := ⟨_, rfl⟩
        have hXi : (d : Int) - J = (X : Int) := by omega
        have hJi : (d : Int) - X = (J : Int) := by omega
        rw [hXi]
        have hX5 : X ≤ 5 := by omega
        have hJ5 : J ≤ 5 := by omega
        have hmt := monoTo_up r h d (J + 1) (d + 1) (by omega)
        rw [monoTo_succ, monoTo_all, List.length_append, ← hX] at hmt
        have hk2l := HOr.out.len
        have hk0 := HO.out.len
        rw [List.length_append] at hk2l
        have Hkb : Hid (k2 + (monoL r (h ++ [(X : Int)]) J).length ≤ 1000000) := Lib.hid (by have := Hk.out; omega)
        have Hnext : Hid (monoTo r h d (J + 1) = monoTo r h d J ++ monoL r (h ++ [(X : Int)]) J) := Lib.hid (by rw [monoTo_succ, ← hX])
        clear hX hmt hk2l hk0
        go_wp2_with fail
        refine (clone_any ah hn hc h _ HHr.out HF.out (by omega)).mono ?_
        rintro e w3 ⟨ad3, n3, d3, rfl, hown3, hb3⟩
        obtain rfl : n3 = hn := by have := hown3.len; have := Hlh.out; omega
        have HO3 := Lib.hid hown3; have HB3 := Lib.hid hb3
        clear hown3 hb3
        go_wp2_with (at_builtin; refine ap rfl _ _ rfl wr.heap.size _ _ _ _ _ rfl HO3.out rfl (by omega) HB3.out.size ?_; intro ad4 d4 w4 hown4 hb4; have HO4 := Lib.hid hown4; have HB4 : Hid (Below wr.heap.size wr w4) := Lib.hid (HB3.out.trans hb4); clear hown4 hb4)
        have hz4 : wr.heap.size ≤ w4.heap.size := HB4.out.size
        have hrec := ih (h ++ [(X : Int)]) J ad4 (n3 + 1) d4 g B ad2 k2 c2 (L ++ monoTo r h d J) w4 n' Hn'.out (by omega) hJ5 (by have := Hlen.out; omega) HO4.out.reads HO4.out.fit ((HB4.out.cell (p := ⟨g, 0, none⟩) hgr2).trans HCr.out) (((bcell HB4.out).2 g 0 hgr2).trans HFr.out) hgB ((HOr.out.keep HB4.out).up' hz4) (by omega) Hkb.out (fun b hb => by
          have h1 := (HO4.out.lt b.block (by rw [hb]; rfl)).1
          refine ⟨by omega, fun e he => ?_⟩
          obtain ⟨f, hf2⟩ := HOr.out
          have h2 := hf2.hi e he
          omega)
        rw [Hwn.out]
        with_reducible refine hrec.mono ?_
        rintro e w5 ⟨⟨v, rfl⟩, ad5, k5, c5, hcell5, hfro5, hown5, hg5, hl5⟩
        have HO5 := Lib.hid hown5; have HG5 := Lib.hid hg5; have HL5 := Lib.hid hl5; have HC5 := Lib.hid hcell5; have HF5 := Lib.hid hfro5
        clear hown5 hg5 hl5 hrec hcell5 hfro5
        go_wp2_with fail
        go_roundw
        case rel =>
          refine ⟨J + 1, by omega, by go_num, ad5, k5, c5, HC5.out, HF5.out, ?_, ?_, fun b hb => ?_⟩
          · rw [Hnext.out, ← List.append_assoc]; exact HO5.out
          · refine (HGr.out.then (Chg.of (r := none) HB4.out) (fun j hj => by cases hj)).then HG5.out fun j hj => ?_
            obtain ⟨b, hb, hbj⟩ := ownBlock_some hj
            rcases HLr.out b hb with ⟨e, he, hbe⟩ | h
            · left
              rw [he, ← hbj, hbe]; rfl
            · right; omega
          · rcases HL5.out b hb with ⟨e, he, hbe⟩ | h
            · rcases HLr.out e he with ⟨e2, he2, hbe2⟩ | h
              · exact .inl ⟨e2, he2, by rw [hbe, hbe2]⟩
              · exact .inr (by omega)
            · exact .inr (by omega)
        case measure => simp [intOf] <;> omega
      · obtain rfl : J = d + 1 := by omega
        have hxm : (d : Int) - ((d + 1 : Nat) : Int) = -1 := by omega
        rw [hxm]
        go_wp2_with fail
        exact bodyPost_ret (v := .tuple #[]) (by simp [results, Try.results101, go_sem]) rfl ⟨⟨_, rfl⟩, ad2, k2, c2, HCr.out, HFr.out, by rw [← monoTo_all]; exact HOr.out, HGr.out, HLr.out⟩
end Go.Proofs.Ytpoolkmcbeghjaa

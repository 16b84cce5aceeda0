/- Texts of this claim, one behind the other: what each says stands at its head. -/
import Derived.Test.YtbdnlncpamandaaDrw10
import Derived.Test.YtbdnlncpamandaaRunM
/- The reference's DrawRunFlips. -/
namespace Go.Proofs.Ytbdnlncpamandaa
set_option maxRecDepth 20000
open Go.RowKit
set_option linter.unusedSimpArgs false
set_option linter.unusedVariables false

/-- a drawn complex with a list of lists -/
def RetCxM (w : World) (e : Ending) (w' : World) : Prop := ∃ p ad n c xs ao no co L, e = .returned (.tuple #[.agg #[.int .i64 p, .slice ad n c], .slice ao no co]) ∧ Own 3 w' w.heap.size ad n c xs ∧ xs.length ≤ 1101 ∧ Own2 w' w.heap.size w'.heap.size ao no co L ∧ no ≤ 8 ∧ (∀ x ∈ L, x.length = 2) ∧ Below w.heap.size w w'
/-- the block N is a complex's box -/
def BoxT (W : World) (N : Nat) : Prop := ∃ cs, W.heap[N]? = some (.cells cs 26 (0, 0))
theorem BoxT.new (W : World) (x y : Value) : BoxT (W.alloc (.cells #[x, y] 26)) W.heap.size := ⟨#[x, y], by show (W.heap.push _)[W.heap.size]? = _; rw [Array.getElem?_push_size]⟩
theorem BoxT.set {W : World} {N : Nat} (h : BoxT W N) (g i : Nat) (v : Value) : BoxT (W.setCell ⟨g, i, none⟩ v) N := by
  obtain ⟨cs, h⟩ := h
  by_cases e : N = g
  · subst e
    refine ⟨cs.setIfInBounds i v, ?_⟩
    simp only [World.setCell, Array.getElem?_modify, if_true, h, Option.map_some]
    try rfl
  · exact ⟨cs, (Below.heap_setCell W ⟨g, i, none⟩ v N e).trans h⟩
theorem BoxT.other {W W' : World} {N : Nat} (h : BoxT W N) (hb : W'.heap[N]? = W.heap[N]?) : BoxT W' N := by
  obtain ⟨cs, h⟩ := h
  exact ⟨cs, hb.trans h⟩
theorem Row.neBox {T : Nat} {W : World} {N B : Nat} {a : Option Addr} {n c : Nat} {vs : List Value} (h : Row T W B a n c vs) (hN : BoxT W N) (hT : T ≠ 26) : ∀ k, (Value.slice a n c).ownBlock = some k → k ≠ N := by
  intro k hk e
  subst e
  obtain ⟨cs, hN⟩ := hN
  rcases Row.cur h with ⟨h0, _⟩ | ⟨g, cur, ha, _, hh, _⟩
  · subst h0; cases hk
  · subst ha
    have : g = k := by simpa [Value.ownBlock] using hk
    subst this
    rw [hN] at hh
    injection hh with hh
    injection hh with _ h2 _
    exact hT h2.symm
theorem Row.neRow {T T' : Nat} {W : World} {B B' : Nat} {a a' : Option Addr} {n c n' c' : Nat} {vs vs' : List Value} (h : Row T W B a n c vs) (h' : Row T' W B' a' n' c' vs') (hT : T ≠ T') : ∀ k, (Value.slice a n c).ownBlock = some k → ∀ k2, (Value.slice a' n' c').ownBlock = some k2 → k2 ≠ k := by
  intro k hk k2 hk2 e
  subst e
  rcases Row.cur h with ⟨h0, _⟩ | ⟨g, cur, ha, _, hh, _⟩
  · subst h0; cases hk
  · rcases Row.cur h' with ⟨h0, _⟩ | ⟨g', cur', ha', _, hh', _⟩
    · subst h0; cases hk2
    · subst ha; subst ha'
      have e1 : g = k2 := by simpa [Value.ownBlock] using hk
      have e2 : g' = k2 := by simpa [Value.ownBlock] using hk2
      subst e1; subst e2
      rw [hh] at hh'
      injection hh' with hh'
      injection hh' with _ h2 _
      exact hT h2
theorem Row.setBox {T : Nat} {W : World} {N B i : Nat} {a : Option Addr} {n c : Nat} {vs : List Value} (h : Row T W B a n c vs) (hN : BoxT W N) (hT : T ≠ 26) (v : Value) : Row T (W.setCell ⟨N, i, none⟩ v) B a n c vs :=
  h.setOther v fun e => Row.neBox h hN hT N (by rw [e]; rfl) rfl
theorem Own2.setBox {W : World} {N B U i : Nat} {a : Option Addr} {n c : Nat} {L : List (List Int)} (h : Own2 W B U a n c L) (hN : BoxT W N) (v : Value) : Own2 (W.setCell ⟨N, i, none⟩ v) B U a n c L := by
  obtain ⟨f, h⟩ := h
  exact ⟨f, h.len, h.row.setBox hN (by decide) v, fun j hj => Row.setBox (h.own j hj) hN (by decide) v, h.far, h.apart, h.hi, h.his⟩

theorem Own2.setLow {W : World} {N B U i : Nat} {a : Option Addr} {n c : Nat} {L : List (List Int)} (h : Own2 W B U a n c L) (v : Value) (hN : N < B) : Own2 (W.setCell ⟨N, i, none⟩ v) B U a n c L := by
  obtain ⟨f, h⟩ := h
  exact ⟨f, h.pres fun k h1 _ _ => Below.heap_setCell _ _ _ _ (by simp only; omega)⟩

/-- what lies in memory at a round of DrawRunFlips -/
structure RF (w0 : World) (R G g N BO U B1 : Nat) (p : Int) (ad : Option Addr) (n c : Nat) (xs : List Int) (p1 : Int) (a1 : Option Addr) (n1 c1 : Nat) (ys : List Int) (ao : Option Addr) (no co : Nat) (L : List (List Int)) (W : World) : Prop where
  hb : Below w0.heap.size w0 W
  xr : BoxF W R (.int .i64 0) (.slice none 0 0)
  xg : BoxF W G (.int .i64 p) (.slice ad n c)
  own : Own 3 W B1 ad n c xs
  og : ∀ k, (Value.slice ad n c).ownBlock = some k → k < g
  cur : Cur W g
  xn : BoxF W N (.int .i64 p1) (.slice a1 n1 c1)
  now : Own 3 W 0 a1 n1 c1 ys
  ng : ∀ k, (Value.slice a1 n1 c1).ownBlock = some k → k ≠ g
  typ : BoxT W N
  out : Own2 W BO U ao no co L
section
variable {w0 : World} {R G g N BO U B1 : Nat} {p : Int} {ad : Option Addr} {n c : Nat} {xs : List Int} {p1 : Int} {a1 : Option Addr} {n1 c1 : Nat} {ys : List Int} {ao : Option Addr} {no co : Nat} {L : List (List Int)} {W W' : World}
theorem RF.keep (h : RF w0 R G g N BO U B1 p ad n c xs p1 a1 n1 c1 ys ao no co L W) (hb : Below W.heap.size W W') : RF w0 R G g N BO U B1 p ad n c xs p1 a1 n1 c1 ys ao no co L W' := by
  have hz := h.hb.size
  exact ⟨h.hb.trans (hb.mono hz), h.xr.keep hb h.xr.lt, h.xg.keep hb h.xg.lt, h.own.keep hb, h.og, h.cur.keep (hb.mono h.cur.lt), h.xn.keep hb h.xn.lt, h.now.keep hb, h.ng, h.typ.other (hb.block _ h.xn.lt), h.out.keep hb⟩
theorem RF.chg (h : RF w0 R G g N BO U B1 p ad n c xs p1 a1 n1 c1 ys ao no co L W) (hg : Chg W W' g none) (hc : Cur W' g) (h0 : w0.heap.size ≤ g) (hR : R < G) (hG : G < g) (hN : g < N) (hO : g < BO) : RF w0 R G g N BO U B1 p ad n c xs p1 a1 n1 c1 ys ao no co L W' := by
  have hz := h.hb.size
  exact ⟨h.hb.trans (hg.belowNew h0 hz), h.xr.chg hg (by omega), h.xg.chg hg (by omega), hg.row h.own (fun k hk => by have := h.og k hk; omega), h.og, hc, h.xn.chg hg (by omega), hg.row h.now h.ng, h.ng, h.typ.other (hg.block _ h.xn.lt (by omega) (by simp)), h.out.chgW hg hO⟩
theorem RF.drew (h : RF w0 R G g N BO U B1 p ad n c xs p1 a1 n1 c1 ys ao no co L W) : RF w0 R G g N BO U B1 p ad n c xs p1 a1 n1 c1 ys ao no co L W.drew := h.keep (Below.refl _ _).drew
theorem RF.upU (h : RF w0 R G g N BO U B1 p ad n c xs p1 a1 n1 c1 ys ao no co L W) {U' : Nat} (hU : U ≤ U') : RF w0 R G g N BO U' B1 p ad n c xs p1 a1 n1 c1 ys ao no co L W := { h with out := h.out.up hU }
theorem RF.app (h : RF w0 R G g N BO U B1 p ad n c xs p1 a1 n1 c1 ys ao no co L W) {a2 : Option Addr} {n2 c2 U2 : Nat} {L2 : List (List Int)} (hO : Own2 W' BO U2 a2 n2 c2 L2) (hb : Below BO W W') (hg : W.grownBy W' (Value.slice ao no co).ownBlock) (h0 : w0.heap.size ≤ BO) (hR : R < G) (hG : G < g) (hgO : g < BO) : RF w0 R G g N BO U2 B1 p ad n c xs p1 a1 n1 c1 ys a2 n2 c2 L2 W' := by
  obtain ⟨f, hf⟩ := h.out
  have hne : ∀ k, (Value.slice ao no co).ownBlock = some k → k ≠ N := Row.neBox hf.row h.typ (by decide)
  have hN : W'.heap[N]? = W.heap[N]? := hg.block N h.xn.lt fun e => hne N e.symm rfl
  exact ⟨h.hb.trans (hb.mono h0), h.xr.keep hb (by omega), h.xg.keep hb (by omega), h.own.grownNe hg (Row.neRow hf.row h.own (by decide)), h.og, h.cur.keep (hb.mono (by omega)), h.xn.other hg.size hN, h.now.grownNe hg (Row.neRow hf.row h.now (by decide)), h.ng, h.typ.other hN, hO⟩
/-- .. after the rounds -/
structure RT (w0 : World) (R G g BO U B1 : Nat) (p : Int) (ad : Option Addr) (n c : Nat) (xs : List Int) (ao : Option Addr) (no co : Nat) (L : List (List Int)) (W : World) : Prop where
  hb : Below w0.heap.size w0 W
  xr : BoxF W R (.int .i64 0) (.slice none 0 0)
  xg : BoxF W G (.int .i64 p) (.slice ad n c)
  own : Own 3 W B1 ad n c xs
  og : ∀ k, (Value.slice ad n c).ownBlock = some k → k < g
  out : Own2 W BO U ao no co L
theorem RF.tail (h : RF w0 R G g N BO U B1 p ad n c xs p1 a1 n1 c1 ys ao no co L W) : RT w0 R G g BO U B1 p ad n c xs ao no co L W := ⟨h.hb, h.xr, h.xg, h.own, h.og, h.out⟩
theorem RT.app (h : RT w0 R G g BO U B1 p ad n c xs ao no co L W) {a2 : Option Addr} {n2 c2 U2 : Nat} {L2 : List (List Int)} (hO : Own2 W' BO U2 a2 n2 c2 L2) (hb : Below BO W W') (h0 : w0.heap.size ≤ BO) (hR : R < G) (hG : G < g) (hgO : g < BO) : RT w0 R G g BO U2 B1 p ad n c xs a2 n2 c2 L2 W' :=
  ⟨h.hb.trans (hb.mono h0), h.xr.keep hb (by omega), h.xg.keep hb (by omega), Row.other h.own fun k hk _ => hb.block k (by have := h.og k (by rw [hk]; rfl); omega), h.og, hO⟩
theorem RT.fin (h : RT w0 R G g BO U B1 p ad n c xs ao no co L W) (hx : xs.length ≤ 1101) (h2 : ∀ x ∈ L, x.length = 2) (hn : no ≤ 8) (hR : R = w0.heap.size) (hB1 : B1 = w0.heap.size + 1) (hBO : w0.heap.size < BO) (hU : U ≤ W.heap.size) {e : Ending} (he : e = .returned (.tuple #[.agg #[.int .i64 p, .slice ad n c], .slice ao no co])) :
    RetCxM w0 e ((W.setCell ⟨R, 0, none⟩ (.int .i64 p)).setCell ⟨R, 1, none⟩ (.slice ad n c)) := by
  refine ⟨p, ad, n, c, xs, ao, no, co, L, he, ((h.own.setBelow _ (by omega)).setBelow _ (by omega)).mono (by omega), hx, (((h.out.setLow _ (by omega)).setLow _ (by omega)).mono (by omega)).up (by simpa using hU), hn, h2, (h.hb.setCell (by simp only; omega) _).setCell (by simp only; omega) _⟩
theorem RF.put (h : RF w0 R G g N BO U B1 p ad n c xs p1 a1 n1 c1 ys ao no co L W) {p2 : Int} {a2 : Option Addr} {n2 c2 : Nat} {zs : List Int} (hz : Own 3 W 0 a2 n2 c2 zs) (hz2 : ∀ k, (Value.slice a2 n2 c2).ownBlock = some k → k ≠ g) (h0 : w0.heap.size ≤ N) (hR : R < G) (hG : G < g) (hN : g < N) : RF w0 R G g N BO U B1 p ad n c xs p2 a2 n2 c2 zs ao no co L ((W.setCell ⟨N, 0, none⟩ (.int .i64 p2)).setCell ⟨N, 1, none⟩ (.slice a2 n2 c2)) := by
  have ht := h.typ.set N 0 (.int .i64 p2)
  exact ⟨(h.hb.setCell h0 _).setCell h0 _, (h.xr.setOther _ _ (by simp only; omega)).setOther _ _ (by simp only; omega), (h.xg.setOther _ _ (by simp only; omega)).setOther _ _ (by simp only; omega),
    Row.setBox (Row.setBox h.own h.typ (by decide) _) ht (by decide) _, h.og, (h.cur.setNew _ _ hN).setNew _ _ hN, (h.xn.set0 _).set1 _, Row.setBox (Row.setBox hz h.typ (by decide) _) ht (by decide) _, hz2, ht.set N 1 _, (h.out.setBox h.typ _).setBox ht _⟩
end
end Go.Proofs.Ytbdnlncpamandaa

/- The reference's DrawRunFlips: its walk. -/
namespace Go.Proofs.Ytbdnlncpamandaa
set_option maxRecDepth 20000
open Go.RowKit
set_option linter.unusedSimpArgs false
set_option linter.unusedVariables false

theorem sFlipAt_all (p : Int) (xs : List Int) (s t : Int) : ∃ (p' : Int) (zs : List Int) (b : Bool), ∀ W ad n c, IntsAt W ad n xs → Calls Try.prog 49 #[.agg #[.int .i64 p, .slice ad n c], .int .i64 s, .int .i64 t] W (RetBox2 W p' zs b) := by
  by_cases h : Anti p xs
  · obtain ⟨m, hm⟩ : ∃ m : Nat, p = m := ⟨p.toNat, by have := h.1; omega⟩
    subst hm
    obtain ⟨l, rfl, _⟩ := h.nat
    have hC := Cpx.of h
    cases hst : step1 m l s t with
    | none => exact ⟨0, [], false, fun W ad n c hx => sFlipAt_none hx hC hst⟩
    | some l' => exact ⟨m, up l', true, fun W ad n c hx => sFlipAt_some hx hC hst⟩
  · exact ⟨0, [], false, fun W ad n c hx => sFlipAt_no p ad n c xs s t W hx fun W' hx' => sFlip_no p ad n c xs s t W' hx' h⟩
set_option maxHeartbeats 8000000 in
theorem drawRunFlips_any (a : Option Addr) (n c : Nat) (w : World) (hy : CodeAt w a n) (hn : n ≤ 1048576) :
    Calls Try.prog 52 #[.slice a n c] w (RetCxM w) := by
  have XR0 := Lib.hid (BoxF.new w (.int .i64 0) (.slice none 0 0) 26)
  obtain ⟨W0, hW0⟩ : ∃ W0, W0 = w.alloc (.cells #[.int .i64 0, .slice none 0 0] 26) := ⟨_, rfl⟩
  rw [← hW0] at XR0
  have hz0 : W0.heap.size = w.heap.size + 1 := by rw [hW0]; simp
  have HB0 : Hid (Below w.heap.size w W0) := Lib.hid (by rw [hW0]; exact (by repeat (first | exact Below.refl _ _ | assumption | refine Below.setCell ?_ (by first | omega | (simp; done) | (simp; omega)) _ | refine Below.alloc ?_ (by first | omega | (simp; done) | (simp; omega)) _ | apply Below.drew)))
  have HY0 : Hid (CodeAt W0 a n) := Lib.hid (hy.keep HB0.out)
  have HW0 := Lib.hid hW0
  clear hy hW0
  go_enter Try.func52, Try.ntmps52
  go_wp2_with fail
  rw [← HW0.out]
  refine (l24Case_any a n c W0 HY0.out hn).mono ?_
  rintro e w1 ⟨p, ad, k, d, xs, s, t, rfl, hown, hxl, hst, hb1⟩
  obtain ⟨W1, hW1⟩ : ∃ W1, W1 = w1.alloc (.cells #[.int .i64 p, .slice ad k d] 26) := ⟨_, rfl⟩
  obtain ⟨G, hG⟩ : ∃ G, G = w1.heap.size := ⟨_, rfl⟩
  have hz1 : w.heap.size + 1 ≤ G := by rw [hG, ← hz0]; exact hb1.size
  have XG : Hid (BoxF W1 G (.int .i64 p) (.slice ad k d)) := Lib.hid (by rw [hW1, hG]; exact BoxF.new _ _ _ _)
  have XR : Hid (BoxF W1 w.heap.size (.int .i64 0) (.slice none 0 0)) := Lib.hid (by rw [hW1]; exact (XR0.out.keep hb1 (by omega)).alloc _)
  have hog : ∀ j, (Value.slice ad k d).ownBlock = some j → j < G := fun j hj => by rw [hG]; exact (hown.lt j hj).2
  have HO : Hid (Own 3 W1 W0.heap.size ad k d xs) := Lib.hid (by rw [hW1]; exact Own.alloc hown _)
  have HB : Hid (Below w.heap.size w W1) := Lib.hid (by rw [hW1]; exact (HB0.out.trans (hb1.mono HB0.out.size)).alloc (by have := hb1.size; omega) _)
  have HY1 : Hid (CodeAt W1 a n) := Lib.hid (by rw [hW1]; exact (HY0.out.keep hb1).keep (by repeat (first | exact Below.refl _ _ | assumption | refine Below.setCell ?_ (by first | omega | (simp; done) | (simp; omega)) _ | refine Below.alloc ?_ (by first | omega | (simp; done) | (simp; omega)) _ | apply Below.drew)))
  have hz2 : W1.heap.size = G + 1 := by rw [hW1, hG]; simp
  have HW1 := Lib.hid hW1; have HG := Lib.hid hG; have HOG := Lib.hid hog
  clear hb1 hown hW1 hG hst hog
  go_wp2_with fail
  rw [← HG.out, ← HW1.out]
  refine (l1New_any a n c W1 HY1.out hn).mono ?_
  rintro e w2 ⟨rfl, hb2, hc2⟩
  obtain ⟨g, hg⟩ : ∃ g, g = W1.heap.size := ⟨_, rfl⟩
  rw [← hg] at hc2
  rw [← hg]
  have hgG : g = G + 1 := by omega
  clear hg
  subst hgG
  have hgl : G + 1 < w2.heap.size := hc2.lt
  obtain ⟨BO, hBO⟩ : ∃ BO, BO = w2.heap.size := ⟨_, rfl⟩
  have hgB : G + 1 < BO := by omega
  obtain ⟨W3, hW3⟩ : ∃ W3, W3 = (w2.alloc (.cells #[] 24)).alloc (.cells #[.int .i64 p, .slice ad k d] 26) := ⟨_, rfl⟩
  have h3 : RF w w.heap.size G (G + 1) (BO + 1) BO (BO + 1) W0.heap.size p ad k d xs p ad k d xs (some ⟨BO, 0, none⟩) 0 0 [] W3 := by
    have hE := O2.empty w2 BO (by omega)
    have hB2 : Below w.heap.size w w2 := HB.out.trans (hb2.mono (by omega))
    have hsz : (w2.alloc (.cells #[] 24)).heap.size = BO + 1 := by rw [hBO]; simp
    have hR2 := XR.out.keep hb2 (by omega)
    have hG2 := XG.out.keep hb2 (by omega)
    have hO2 := HO.out.keep hb2
    rw [hW3, ← hsz]
    have := hE.mono (B' := BO) (Nat.le_refl _)
    rw [← hBO] at this
    refine ⟨(hB2.alloc (by omega) _).alloc (by simp; omega) _, (hR2.alloc _).alloc _, (hG2.alloc _).alloc _, Own.alloc (Own.alloc hO2 _) _, fun j hj => by have := HOG.out j hj; omega, (hc2.alloc _).alloc _, BoxF.new _ _ _ _, (Own.alloc (Own.alloc hO2 _) _).mono (Nat.zero_le _), fun j hj => by have := HOG.out j hj; omega, BoxT.new _ _ _, ?_⟩
    rw [hsz]
    exact ⟨_, this.pres fun j _ _ hj => Below.heap_alloc _ _ _ hj⟩
  have H3 := Lib.hid h3
  have hz3 : W3.heap.size = BO + 2 := by rw [hW3, hBO]; simp
  have HW3 := Lib.hid hW3
  have HBO := Lib.hid hBO
  have q1 := ((XG.out.keep hb2 (by omega)).alloc (.cells #[] 24)).c0
  have q2 := ((XG.out.keep hb2 (by omega)).alloc (.cells #[] 24)).c1
  clear hb2 hc2 hW3 hBO h3
  go_wp2_with fail
  rw [← HBO.out, ← HW3.out]
  refine (l1Below_any (G + 1) 4 W3 H3.out.cur (by omega)).mono ?_
  rintro e w4 ⟨v, rfl, ⟨y, hy, _, rfl⟩, hg4, hc4⟩
  have hy4 : y < 4 := by have := hy (by omega); omega
  have H4 := Lib.hid (H3.out.chg hg4 hc4 (by omega) (by omega) (by omega) (by omega) (by omega))
  have hz4 : BO + 2 ≤ w4.heap.size := by rw [← hz3]; exact hg4.size
  clear hg4 hc4 hy q1 q2
  obtain ⟨B1, hB1⟩ : ∃ B1, B1 = W0.heap.size := ⟨_, rfl⟩
  rw [← hB1] at H4
  go_wp2_with fail
  go_loopw [8, 11, 12, 13] (fun o i _ _ wr => ∃ I : Nat, I ≤ y ∧ i = .int .i64 I ∧ ∃ p1 a1 n1 c1 ys ao co L, o = .slice ao I co ∧ RF w w.heap.size G (G + 1) (BO + 1) BO wr.heap.size B1 p ad k d xs p1 a1 n1 c1 ys ao I co L wr ∧ BO + 2 ≤ wr.heap.size ∧ ∀ x ∈ L, x.length = 2) (fun _ i _ _ _ => y - (intOf i).toNat)
  case atStart => exact ⟨0, by omega, rfl, p, ad, k, d, xs, _, 0, [], rfl, H4.out.upU (by omega), hz4, by simp⟩
  case round =>
    obtain ⟨I, hI, rfl, p1, a1, n1, c1, ys, ao, co, L, rfl, hrf, hzr, hL2⟩ := hrel
    have HR := Lib.hid hrf; have HL2 := Lib.hid hL2
    clear hrf hL2 H4 H3
    by_cases hlt : I < y
    · have hlt' : (I : Int) < y := by omega
      obtain ⟨M, hM4, hMp, hF⟩ := flipsOf_all p1 ys
      have HF := Lib.hid hF; have HMp := Lib.hid hMp
      clear hF hMp
      obtain ⟨q0, q1, _, _, _⟩ := HR.out.xn
      go_wp2_with fail
      refine (HF.out wr a1 n1 c1 HR.out.now.reads).mono ?_
      rintro e w5 ⟨aF, nF, cF, rfl, ownF, hb5⟩
      have H5 := Lib.hid (HR.out.keep hb5)
      have HO5 := Lib.hid ownF
      have HnF : Hid (M.length = nF) := Lib.hid ownF.len
      have hnF : nF ≤ 4096 := by have := HnF.out; omega
      have hz5 : wr.heap.size ≤ w5.heap.size := hb5.size
      clear ownF hb5 q0 q1
      by_cases h0 : 0 < nF
      · have h0i : ¬ ((nF : Int) = 0) := by omega
        have h0j : ((nF : Int) == 0) = false := by simp; omega
        go_wp2_with fail
        refine (l1Big_any (G + 1) nF w5 H5.out.cur h0 hnF).mono ?_
        rintro e w6 ⟨v, rfl, ⟨x, hx, rfl⟩, hg6, hc6⟩
        have H6 := Lib.hid (H5.out.chg hg6 hc6 (by omega) (by omega) (by omega) (by omega) (by omega))
        have hz6 : w5.heap.size ≤ w6.heap.size := hg6.size
        have HO6 := Lib.hid (HO5.out.chgW hg6 (by omega))
        clear hg6 hc6 H5 HO5
        have hx0 : (0 : Int) ≤ x := by omega
        have hxi : (x : Int) < nF := by omega
        obtain ⟨f, hO2⟩ := HO6.out
        obtain ⟨gF, hgF, hcF⟩ := hO2.cell hx
        have hrow := hO2.own x hx
        obtain ⟨hl2, hm0, hm1⟩ := HMp.out (nthL M x) (by rw [nthL_at (by rw [HnF.out]; exact hx)]; exact List.getElem_mem _)
        obtain ⟨⟨aM, nM, cM⟩, hfe⟩ : ∃ y, y = f x := ⟨_, rfl⟩
        rw [← hfe] at hcF hrow
        simp only [Sl.val] at hcF hrow
        have hnM : nM = 2 := by have := hrow.len; omega
        subst hnM
        subst hgF
        obtain ⟨gM, hgM, _, hgMl, _, _⟩ := Row.cells hrow (by omega)
        subst hgM
        have HM := Lib.hid hrow
        have Hl2 := Lib.hid hl2
        clear hO2 hrow hl2 hfe hm0 hm1 HO6
        go_wp2_with (at_builtin; refine ap_own rfl _ _ rfl BO wr.heap.size _ _ _ _ _ _ _ _ rfl H6.out.out HM.out rfl (by omega) (by omega) (by omega) ?_; intro ad' d' w' hown' hb' hg' hnew; (have HM7 : Hid (Own 3 w' wr.heap.size (some ⟨gM, 0, none⟩) 2 cM (nthL M x)) := Lib.hid (by (obtain ⟨fo, hfo⟩ := H6.out.out); exact HM.out.grownNe hg' (Row.neRow hfo.row HM.out (by decide)))); have H7 := Lib.hid (H6.out.app hown' hb' hg' (by omega) (by omega) (by omega) (by omega)); have hz7 := hg'.size; clear hown' hb' hg' hnew)
        obtain ⟨q0, q1, qf0, qf1, _⟩ := H7.out.xn
        obtain ⟨u0, hu0⟩ : ∃ u0, u0 = nth (nthL M x) 0 := ⟨_, rfl⟩
        obtain ⟨u1, hu1⟩ : ∃ u1, u1 = nth (nthL M x) 1 := ⟨_, rfl⟩
        have hc0 : w'.cell? ⟨gM, 0, none⟩ = some (.int .i64 u0) ∧ w'.cell? ⟨gM, 1, none⟩ = some (.int .i64 u1) ∧ gM < w'.heap.size ∧ wr.heap.size ≤ gM := by
          obtain ⟨g2, hg2, hge, hgl, hcM, _⟩ := Row.cells HM7.out (by omega)
          cases hg2
          have h2 := Hl2.out
          have e0 : ((nthL M x).map (Value.int .i64))[0]? = some (.int .i64 u0) := by rw [List.getElem?_map, List.getElem?_eq_getElem (by omega), hu0, nth_eq (by omega)]; rfl
          have e1 : ((nthL M x).map (Value.int .i64))[1]? = some (.int .i64 u1) := by rw [List.getElem?_map, List.getElem?_eq_getElem (by omega), hu1, nth_eq (by omega)]; rfl
          exact ⟨(hcM 0 (by omega)).trans e0, (hcM 1 (by omega)).trans e1, hgl, hge⟩
        obtain ⟨m0, m1, hgMl', hgMr⟩ := hc0
        obtain ⟨p8, zs, b8, hFl⟩ := sFlipAt_all p1 ys u0 u1
        have HFl := Lib.hid hFl
        clear hu0 hu1 hFl HMp HM
        have HK : Hid (∀ (W : World) (v1 v2 : Value), W.cell? ⟨gM, 0, none⟩ = some (.int .i64 u0) ∧ W.cell? ⟨gM, 1, none⟩ = some (.int .i64 u1) → ((W.setCell ⟨BO + 1, 0, none⟩ v1).setCell ⟨BO + 1, 1, none⟩ v2).cell? ⟨gM, 0, none⟩ = some (.int .i64 u0) ∧ ((W.setCell ⟨BO + 1, 0, none⟩ v1).setCell ⟨BO + 1, 1, none⟩ v2).cell? ⟨gM, 1, none⟩ = some (.int .i64 u1)) := Lib.hid fun W v1 v2 h => by
          have ne : ∀ i j : Nat, (⟨gM, i, none⟩ : Addr) ≠ ⟨BO + 1, j, none⟩ := fun i j e => by injection e with e1 _ _; omega
          exact ⟨(World.cell?_setCell_other _ _ _ _ (ne _ _).symm).trans ((World.cell?_setCell_other _ _ _ _ (ne _ _).symm).trans h.1), (World.cell?_setCell_other _ _ _ _ (ne _ _).symm).trans ((World.cell?_setCell_other _ _ _ _ (ne _ _).symm).trans h.2)⟩
        go_wp2_with fail
        -- region 13
        refine wp_region_held_drew (S := fun W => W.cell? ⟨gM, 0, none⟩ = some (.int .i64 u0) ∧ W.cell? ⟨gM, 1, none⟩ = some (.int .i64 u1)) (by kernel_rfl) ⟨m0, m1⟩ (fun hHeld => ?_)
        refine wpAnyH_take (i := 1) (oi := { dst := some 49, op := Op.move (Operand.tmp 13), type := 24, pos := "l24_flip.go:124", after := #[], guard := none }) (v := ?_) rfl (by kernel_rfl) (by kernel_rfl) (by kernel_rfl) (fun _ _ _ h => h) (Or.inl ⟨by rfl, ?_⟩) (by assumption) ?_
        rotate_left
        · intro w hSw
          try dsimp only at hSw
          go_simp
          try (with_reducible rfl)
        try simp only [Act.put, List.setIfInBounds_toArray, List.set_cons_zero, List.set_cons_succ]
        refine wpAnyH_take (i := 2) (oi := { dst := some 50, op := Op.indexAddr 24 (Operand.tmp 49) (Operand.const (Value.int IntKind.i64 0)), type := 0, pos := "l24_flip.go:124", after := #[{ on := 1, ground := Ground.data }], guard := none }) (v := ?_) rfl (by kernel_rfl) (by kernel_rfl) (by kernel_rfl) (fun _ _ _ h => h) (Or.inl ⟨by rfl, ?_⟩) (by assumption) ?_
        rotate_left
        · intro w hSw
          try dsimp only at hSw
          go_simp
          try (with_reducible rfl)
        try simp only [Act.put, List.setIfInBounds_toArray, List.set_cons_zero, List.set_cons_succ]
        refine wpAnyH_take (i := 3) (oi := { dst := some 51, op := Op.load 3 (Operand.tmp 50), type := 3, pos := "l24_flip.go:124", after := #[{ on := 2, ground := Ground.data }], guard := none }) (v := ?_) rfl (by kernel_rfl) (by kernel_rfl) (by kernel_rfl) (fun _ _ _ h => h) (Or.inl ⟨by rfl, ?_⟩) (by assumption) ?_
        rotate_left
        · intro w hSw
          try dsimp only at hSw
          go_simp
          try (with_reducible rfl)
        try simp only [Act.put, List.setIfInBounds_toArray, List.set_cons_zero, List.set_cons_succ]
        refine wpAnyH_take (i := 4) (oi := { dst := some 52, op := Op.move (Operand.tmp 13), type := 24, pos := "l24_flip.go:124", after := #[], guard := none }) (v := ?_) rfl (by kernel_rfl) (by kernel_rfl) (by kernel_rfl) (fun _ _ _ h => h) (Or.inl ⟨by rfl, ?_⟩) (by assumption) ?_
        rotate_left
        · intro w hSw
          try dsimp only at hSw
          go_simp
          try (with_reducible rfl)
        try simp only [Act.put, List.setIfInBounds_toArray, List.set_cons_zero, List.set_cons_succ]
        refine wpAnyH_take (i := 5) (oi := { dst := some 53, op := Op.indexAddr 24 (Operand.tmp 52) (Operand.const (Value.int IntKind.i64 1)), type := 0, pos := "l24_flip.go:124", after := #[{ on := 4, ground := Ground.data }], guard := none }) (v := ?_) rfl (by kernel_rfl) (by kernel_rfl) (by kernel_rfl) (fun _ _ _ h => h) (Or.inl ⟨by rfl, ?_⟩) (by assumption) ?_
        rotate_left
        · intro w hSw
          try dsimp only at hSw
          go_simp
          try (with_reducible rfl)
        try simp only [Act.put, List.setIfInBounds_toArray, List.set_cons_zero, List.set_cons_succ]
        refine wpAnyH_take (i := 6) (oi := { dst := some 54, op := Op.load 3 (Operand.tmp 53), type := 3, pos := "l24_flip.go:124", after := #[{ on := 5, ground := Ground.data }], guard := none }) (v := ?_) rfl (by kernel_rfl) (by kernel_rfl) (by kernel_rfl) (fun _ _ _ h => h) (Or.inl ⟨by rfl, ?_⟩) (by assumption) ?_
        rotate_left
        · intro w hSw
          try dsimp only at hSw
          go_simp
          try (with_reducible rfl)
        try simp only [Act.put, List.setIfInBounds_toArray, List.set_cons_zero, List.set_cons_succ]
        refine wpAnyH_ready (rs := [0]) (by kernel_rfl) (by simp) ?_
        refine AllReadyH.cons (o := { dst := some 48, op := Op.load 26 (Operand.tmp 9), type := 26, pos := "l24_flip.go:124", after := #[], guard := none }) rfl (fun K hK => ?_) ?_
        · go_simp
          try (go_wp2_with fail)
          refine hK.out _ _ ?_ (fun hHeld => ?_)
          · exact hHeld
          clear hK K
          try simp only [Act.put, List.setIfInBounds_toArray, List.set_cons_zero, List.set_cons_succ]
          refine wpAnyH_ready (rs := [7]) (by kernel_rfl) (by simp) ?_
          refine AllReadyH.cons (o := { dst := some 55, op := Op.call { callee := Callee.value (Operand.func 49), args := #[Operand.tmp 48, Operand.tmp 51, Operand.tmp 54], argTypes := #[26, 3, 3] }, type := 43, pos := "l24_flip.go:124", after := #[{ on := 0, ground := Ground.data }, { on := 3, ground := Ground.data }, { on := 6, ground := Ground.data }], guard := none }) rfl (fun K hK => ?_) ?_
          · go_simp
            go_simp; go_at_call 49; (with_reducible refine (HFl.out _ _ _ _ H7.out.drew.now.reads).mono ?_); rintro e w8 ⟨a8, n8, c8, rfl, own8, hb8⟩; have hz8 : w'.heap.size ≤ w8.heap.size := hb8.size; have y0 := (hb8.cell (p := ⟨gM, 0, none⟩) hgMl').trans m0; have y1 := (hb8.cell (p := ⟨gM, 1, none⟩) hgMl').trans m1; have H8 := Lib.hid (H7.out.drew.keep hb8); have HZ := Lib.hid own8; (obtain ⟨z0, z1, zf0, zf1, _⟩ := H8.out.xn); clear own8 hb8
            try (go_wp2_with fail)
            refine hK.out _ _ ?_ (fun hHeld => ?_)
            · exact ⟨y0, y1⟩
            clear hK K
            try simp only [Act.put, List.setIfInBounds_toArray, List.set_cons_zero, List.set_cons_succ]
            refine wpAnyH_take (i := 8) (oi := { dst := some 47, op := Op.move (Operand.tmp 55), type := 43, pos := "l24_flip.go:124", after := #[{ on := 7, ground := Ground.data }], guard := none }) (v := ?_) rfl (by kernel_rfl) (by kernel_rfl) (by kernel_rfl) (fun _ _ _ h => h) (Or.inl ⟨by rfl, ?_⟩) (by assumption) ?_
            rotate_left
            · intro w hSw
              try dsimp only at hSw
              go_simp
              try (with_reducible rfl)
            try simp only [Act.put, List.setIfInBounds_toArray, List.set_cons_zero, List.set_cons_succ]
            refine wpAnyH_take (i := 9) (oi := { dst := some 56, op := Op.extract (Operand.tmp 47) 0, type := 26, pos := "l24_flip.go:124", after := #[{ on := 8, ground := Ground.data }], guard := none }) (v := ?_) rfl (by kernel_rfl) (by kernel_rfl) (by kernel_rfl) (fun _ _ _ h => h) (Or.inl ⟨by rfl, ?_⟩) (by assumption) ?_
            rotate_left
            · intro w hSw
              try dsimp only at hSw
              go_simp
              try (with_reducible rfl)
            try simp only [Act.put, List.setIfInBounds_toArray, List.set_cons_zero, List.set_cons_succ]
            refine wpAnyH_take (i := 10) (oi := { dst := some 57, op := Op.extract (Operand.tmp 47) 1, type := 4, pos := "l24_flip.go:124", after := #[{ on := 8, ground := Ground.data }, { on := 11, ground := Ground.gcOnly Departure.lateStores }], guard := none }) (v := ?_) rfl (by kernel_rfl) (by kernel_rfl) (by kernel_rfl) (fun _ _ _ h => h) (Or.inl ⟨by rfl, ?_⟩) (by assumption) ?_
            rotate_left
            · intro w hSw
              try dsimp only at hSw
              go_simp
              try (with_reducible rfl)
            try simp only [Act.put, List.setIfInBounds_toArray, List.set_cons_zero, List.set_cons_succ]
            refine wpAnyH_ready (rs := [11]) (by kernel_rfl) (by simp) ?_
            refine AllReadyH.cons (o := { dst := none, op := Op.store 26 (Operand.tmp 9) (Operand.tmp 56), type := 0, pos := "l24_flip.go:124", after := #[{ on := 9, ground := Ground.data }, { on := 7, ground := Ground.chain }, { on := 0, ground := Ground.phase }, { on := 1, ground := Ground.phase }, { on := 2, ground := Ground.phase }, { on := 3, ground := Ground.phase }, { on := 4, ground := Ground.phase }, { on := 5, ground := Ground.phase }, { on := 6, ground := Ground.phase }, { on := 7, ground := Ground.phase }, { on := 8, ground := Ground.phase }, { on := 9, ground := Ground.phase }, { on := 10, ground := Ground.textOnly Departure.lateStores }], guard := none }) rfl (fun K hK => ?_) ?_
            · go_simp
              try (go_wp2_with fail)
              refine hK.out _ _ ?_ (fun hHeld => ?_)
              · exact HK.out _ _ _ ⟨y0, y1⟩
              clear hK K
              try simp only [Act.put, List.setIfInBounds_toArray, List.set_cons_zero, List.set_cons_succ]
              refine wpAnyH_done (by kernel_rfl) ?_ _
              go_wp2_with fail
              go_roundw
              case rel =>
                refine ⟨I + 1, by omega, by go_num, p8, a8, n8, c8, zs, ad', d', L ++ [nthL M x], rfl, (H8.out.put (HZ.out.mono (Nat.zero_le _)) (fun j hj => ?_) (by omega) (by omega) (by omega) (by omega)).upU (by simp; omega), by simp; omega, fun z hz => ?_⟩
                · have := (HZ.out.lt j hj).1
                  have e1 : w'.drew.heap.size = w'.heap.size := rfl
                  omega
                · rcases List.mem_append.1 hz with h | h
                  · exact HL2.out z h
                  · simp only [List.mem_singleton] at h; subst h; exact Hl2.out
              case measure => simp [intOf]; omega
            · exact AllReadyH.nil
          · exact AllReadyH.nil
        · exact AllReadyH.nil
      · obtain rfl : nF = 0 := by omega
        have h00 : ((0 : Int) == 0) = true := rfl
        go_wp2_with fail
        refine (l1Once_any (G + 1) 8 _ H5.out.cur (by omega)).mono ?_
        rintro e w8 ⟨v, rfl, ⟨b8, rfl⟩, hg8, hc8⟩
        have H8 := Lib.hid (H5.out.chg hg8 hc8 (by omega) (by omega) (by omega) (by omega) (by omega))
        have hz8 : w5.heap.size ≤ w8.heap.size := hg8.size
        clear hg8 hc8
        cases b8
        · obtain ⟨q0, q1, _, _, _⟩ := H8.out.xg
          obtain ⟨r0, r1, rf0, rf1, _⟩ := H8.out.xr
          go_wp2_with fail
          refine bodyPost_ret (v := .tuple #[.agg #[.int .i64 p, .slice ad k d], .slice ao I co]) (by simp [results, Try.results52, go_sem, r0, r1]) rfl (H8.out.tail.fin hxl HL2.out (by omega) rfl (by omega) (by omega) (by omega) rfl)
        · go_wp2_with fail
          refine (l1Below_any (G + 1) 64 _ H8.out.cur (by omega)).mono ?_
          rintro e w9 ⟨v, rfl, ⟨y9, hy9, _, rfl⟩, hg9, hc9⟩
          have H9 := Lib.hid ((H8.out.chg hg9 hc9 (by omega) (by omega) (by omega) (by omega) (by omega)).upU (U' := w9.heap.size) (by have := hg9.size; omega))
          have hz9 : w8.heap.size ≤ w9.heap.size := hg9.size
          clear hg9 hc9 hy9
          go_wp2_with (at_builtin; refine ap_pair rfl _ _ rfl BO _ _ _ _ _ _ rfl H9.out.out rfl (by omega) (by omega) ?_; intro ad' d' w' hown' hb'; have H10 := Lib.hid (H9.out.tail.app hown' hb' (by omega) (by omega) (by omega) (by omega)); have hz10 := hb'.size; clear hown' hb'; (obtain ⟨q0, q1, _, _, _⟩ := H10.out.xg); (obtain ⟨r0, r1, rf0, rf1, _⟩ := H10.out.xr))
          refine bodyPost_ret (v := .tuple #[.agg #[.int .i64 p, .slice ad k d], .slice ad' (I + 1) d']) (by simp [results, Try.results52, go_sem, r0, r1]) rfl (H10.out.fin hxl (fun z hz => ?_) (by omega) rfl (by omega) (by omega) (by omega) rfl)
          rcases List.mem_append.1 hz with h | h
          · exact HL2.out z h
          · simp only [List.mem_singleton] at h; subst h; rfl
    · obtain rfl : I = y := by omega
      go_wp2_with fail
      refine (l1Once_any (G + 1) 8 _ HR.out.cur (by omega)).mono ?_
      rintro e w8 ⟨v, rfl, ⟨b8, rfl⟩, hg8, hc8⟩
      have H8 := Lib.hid (HR.out.chg hg8 hc8 (by omega) (by omega) (by omega) (by omega) (by omega))
      have hz8 : wr.heap.size ≤ w8.heap.size := hg8.size
      clear hg8 hc8
      cases b8
      · obtain ⟨q0, q1, _, _, _⟩ := H8.out.xg
        obtain ⟨r0, r1, rf0, rf1, _⟩ := H8.out.xr
        go_wp2_with fail
        refine bodyPost_ret (v := .tuple #[.agg #[.int .i64 p, .slice ad k d], .slice ao I co]) (by simp [results, Try.results52, go_sem, r0, r1]) rfl (H8.out.tail.fin hxl HL2.out (by omega) rfl (by omega) (by omega) (by omega) rfl)
      · go_wp2_with fail
        refine (l1Below_any (G + 1) 64 _ H8.out.cur (by omega)).mono ?_
        rintro e w9 ⟨v, rfl, ⟨y9, hy9, _, rfl⟩, hg9, hc9⟩
        have H9 := Lib.hid ((H8.out.chg hg9 hc9 (by omega) (by omega) (by omega) (by omega) (by omega)).upU (U' := w9.heap.size) (by have := hg9.size; omega))
        have hz9 : w8.heap.size ≤ w9.heap.size := hg9.size
        clear hg9 hc9 hy9
        go_wp2_with (at_builtin; refine ap_pair rfl _ _ rfl BO _ _ _ _ _ _ rfl H9.out.out rfl (by omega) (by omega) ?_; intro ad' d' w' hown' hb'; have H10 := Lib.hid (H9.out.tail.app hown' hb' (by omega) (by omega) (by omega) (by omega)); have hz10 := hb'.size; clear hown' hb'; (obtain ⟨q0, q1, _, _, _⟩ := H10.out.xg); (obtain ⟨r0, r1, rf0, rf1, _⟩ := H10.out.xr))
        refine bodyPost_ret (v := .tuple #[.agg #[.int .i64 p, .slice ad k d], .slice ad' (I + 1) d']) (by simp [results, Try.results52, go_sem, r0, r1]) rfl (H10.out.fin hxl (fun z hz => ?_) (by omega) rfl (by omega) (by omega) (by omega) rfl)
        rcases List.mem_append.1 hz with h | h
        · exact HL2.out z h
        · simp only [List.mem_singleton] at h; subst h; rfl
end Go.Proofs.Ytbdnlncpamandaa

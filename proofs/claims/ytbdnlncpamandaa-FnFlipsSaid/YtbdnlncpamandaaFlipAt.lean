/- Contracts of FlipAt, the program's and the reference's. -/
import Derived.Test.YtbdnlncpamandaaFlipS2
namespace Go.Proofs.Ytbdnlncpamandaa
set_option maxRecDepth 20000
open Go.RowKit
set_option linter.unusedSimpArgs false
set_option linter.unusedVariables false

/-- the program's deletionIn -/
def delB (F s x : Nat) : Bool := F.testBit x && !sub s x
def delN (F s : Nat) : Nat := pickN (delB F s) (2 ^ 6)
theorem delFam (F s : Nat) : Fam (delN F s) := pickN_Fam _ _
theorem delBit {F s x : Nat} (hx : x < 64) : (delN F s).testBit x = delB F s x := by
  unfold delN; rw [pickN_bit hx]
  have : x < 2 ^ 6 := hx
  simp [this]
theorem sdiff_nz {a b : Nat} (ha : a < 64) (hb : b < 64) : (((sdiff a b : Nat) : Int) != 0) = !sub a b := by
  unfold bne; rw [sdiff_zero ha hb]
theorem delFn_any (g1 g2 x s F : Nat) (w : World) (hx : x < 64) (hs : s < 64) (hF : Fam F) (h1 : w.cell? ⟨g1, 0, none⟩ = some (.int .u64 F)) (h2 : w.cell? ⟨g2, 0, none⟩ = some (.int .i64 s)) :
    Calls Try.prog 122 #[.int .i64 x, .pointer (some ⟨g1, 0, none⟩), .pointer (some ⟨g2, 0, none⟩)] w fun e w' => e = .returned (.bool (delB F s x)) ∧ w = w' := by
  have hnz := sdiff_nz hs hx
  have hand := w_andNot s x hs hx
  have HX : Hid (∀ W, Calls Try.prog 108 #[.int .u64 F, .int .i64 x] W fun e w' => e = .returned (.bool (F.testBit x)) ∧ W = w') := Lib.hid (fun W => hasSet_any F x W hF hx)
  unfold delB
  obtain ⟨y, hy⟩ : ∃ y, y = F.testBit x := ⟨_, rfl⟩
  obtain ⟨z, hz⟩ : ∃ z, z = sub s x := ⟨_, rfl⟩
  rw [← hz] at hnz
  rw [← hy] at HX
  rw [← hy, ← hz]
  clear hy hz
  cases y
  · go_enter Try.func122, Try.ntmps122
    go_wp2_with (go_at_call 108; (with_reducible refine (HX.out _).mono ?_); rintro e w' ⟨rfl, rfl⟩)
    go_ret
    exact ⟨rfl, rfl⟩
  · go_enter Try.func122, Try.ntmps122
    go_wp2_with (go_at_call 108; (with_reducible refine (HX.out _).mono ?_); rintro e w' ⟨rfl, rfl⟩)
    go_ret
    exact ⟨ret_bool (by simp), rfl⟩
set_option maxRecDepth 100000 in
theorem deletionIn_any (F s : Nat) (w : World) (hF : Fam F) (hs : s < 64) :
    Calls Try.prog 89 #[.int .u64 F, .int .i64 s] w fun e w' => e = .returned (.int .u64 (delN F s)) ∧ Below w.heap.size w w' := by
  go_enter Try.func89, Try.ntmps89
  go_wp2_with fail
  refine (pickSets_any 122 #[.pointer (some ⟨w.heap.size, 0, none⟩), .pointer (some ⟨w.heap.size + 1, 0, none⟩)] (delB F s) 6 _ (by omega) (fun _ _ => rfl) (fun x hx => delFn_any w.heap.size (w.heap.size + 1) x s F _ hx hs hF (by rw [World.cell?_alloc_lt _ _ _ (by simp), World.cell?_alloc_at _ _ _ _ rfl]; rfl) (by rw [show w.heap.size + 1 = (w.alloc (.cells #[.int .u64 F] 82)).heap.size by simp, World.cell?_alloc_at _ _ _ _ rfl]; rfl))).mono ?_
  rintro e we ⟨rfl, rfl⟩
  go_wp2_with fail
  go_ret
  exact ⟨rfl, (by repeat (first | exact Below.refl _ _ | assumption | refine Below.setCell ?_ (by first | omega | (simp; done) | (simp; omega)) _ | refine Below.alloc ?_ (by first | omega | (simp; done) | (simp; omega)) _ | apply Below.drew))⟩

/-- the new faces of a flip -/
def newB (s t x : Nat) : Bool := sub x (s ||| t) && !sub s x
theorem flipFam_eq {l : List Nat} {m s t x : Nat} (hx : x < 64) : (delN (faceSet l) s ||| pickN (newB s t) (2 ^ m)).testBit x = flipFam l m s t x := by
  rw [Nat.testBit_or, delBit hx, pickN_bit hx]
  unfold delB flipFam newB
  rw [faceSet_bit hx]
theorem newFn_any (g1 g2 x s t : Nat) (w : World) (hx : x < 64) (hs : s < 64) (ht : t < 64) (h1 : w.cell? ⟨g1, 0, none⟩ = some (.int .i64 s)) (h2 : w.cell? ⟨g2, 0, none⟩ = some (.int .i64 t)) :
    Calls Try.prog 104 #[.int .i64 x, .pointer (some ⟨g1, 0, none⟩), .pointer (some ⟨g2, 0, none⟩)] w fun e w' => e = .returned (.bool (newB s t x)) ∧ w = w' := by
  have hst := or_lt64 hs ht
  have hor := w_or s t hs ht
  have hand := w_andNot x (s ||| t) hx hst
  have hand2 := w_andNot s x hs hx
  have hz := sdiff_zero hx hst
  have hnz := sdiff_nz hs hx
  unfold newB
  obtain ⟨y, hy⟩ : ∃ y, y = sub x (s ||| t) := ⟨_, rfl⟩
  obtain ⟨z, hz2⟩ : ∃ z, z = sub s x := ⟨_, rfl⟩
  rw [← hz2] at hnz
  rw [← hy] at hz
  rw [← hy, ← hz2]
  clear hy hz2
  cases y
  · go_enter Try.func104, Try.ntmps104
    go_wp2_with fail
    go_ret
    exact ⟨rfl, rfl⟩
  · go_enter Try.func104, Try.ntmps104
    go_wp2_with fail
    go_ret
    exact ⟨ret_bool (by simp), rfl⟩
theorem iFlipAt_no (p : Int) (a : Option Addr) (n c : Nat) (xs : List Int) (s t : Int) (w : World) (h : IntsAt w a n xs) (hF : ∀ W, IntsAt W a n xs → Calls Try.prog 60 #[.agg #[.int .i64 p, .slice a n c], .int .i64 s, .int .i64 t] W fun e w' => e = .returned (.bool false) ∧ Below W.heap.size W w') :
    Calls Try.prog 48 #[.agg #[.int .i64 p, .slice a n c], .int .i64 s, .int .i64 t] w (RetBox2 w 0 [] false) := by
  obtain ⟨w0, hw0⟩ : ∃ w0, w0 = (((w.alloc (.cells #[.int .i64 p, .slice a n c] 26)).alloc (.cells #[.int .i64 s] 3)).alloc (.cells #[.int .i64 t] 3)).alloc (.cells #[.int .i64 0, .slice none 0 0] 26) := ⟨_, rfl⟩
  have hx : IntsAt w0 a n xs := by rw [hw0]; exact h.keep (by repeat (first | exact Below.refl _ _ | assumption | refine Below.setCell ?_ (by first | omega | (simp; done) | (simp; omega)) _ | refine Below.alloc ?_ (by first | omega | (simp; done) | (simp; omega)) _ | apply Below.drew))
  have hB : Below w.heap.size w w0 := by rw [hw0]; exact (by repeat (first | exact Below.refl _ _ | assumption | refine Below.setCell ?_ (by first | omega | (simp; done) | (simp; omega)) _ | refine Below.alloc ?_ (by first | omega | (simp; done) | (simp; omega)) _ | apply Below.drew))
  have hz0 : w0.heap.size = w.heap.size + 4 := by rw [hw0]; simp
  have xR : BoxF w0 (w.heap.size + 3) (.int .i64 0) (.slice none 0 0) := by
    rw [hw0, show w.heap.size + 3 = (((w.alloc (.cells #[.int .i64 p, .slice a n c] 26)).alloc (.cells #[.int .i64 s] 3)).alloc (.cells #[.int .i64 t] 3)).heap.size by simp]
    exact BoxF.new _ _ _ _
  have Hx := Lib.hid hx; have HB := Lib.hid hB; have XR := Lib.hid xR; have HF := Lib.hid hF; have HW0 := Lib.hid hw0
  clear hx hB xR hF hw0 h
  go_enter Try.func48, Try.ntmps48
  go_wp2_with fail
  rw [← HW0.out]
  refine (HF.out _ Hx.out).mono ?_
  rintro e w1 ⟨rfl, hb⟩
  obtain ⟨r0, r1, f0, f1, _⟩ := XR.out.keep hb (by omega)
  have hbl : Below w.heap.size w w1 := HB.out.trans (hb.mono (by omega))
  clear hb
  go_wp2_with fail
  refine bodyPost_ret (v := .tuple #[.agg #[.int .i64 0, .slice none 0 0], .bool false]) (by simp [results, Try.results48, go_sem, r0, r1]) rfl ⟨none, 0, 0, rfl, Own.nil _ _ _, (by repeat (first | exact Below.refl _ _ | assumption | refine Below.setCell ?_ (by first | omega | (simp; done) | (simp; omega)) _ | refine Below.alloc ?_ (by first | omega | (simp; done) | (simp; omega)) _ | apply Below.drew))⟩
set_option maxRecDepth 100000 in
set_option maxHeartbeats 1000000 in
theorem iFlipAt_yes (m : Nat) (a : Option Addr) (n c : Nat) (l : List Nat) (s t : Nat) (w : World) (h : IntsAt w a n (up l)) (hm : m ≤ 6) (hl : ∀ t ∈ l, t < 64) (hs : s < 64) (ht : t < 64) (hF : ∀ W, IntsAt W a n (up l) → Calls Try.prog 60 #[.agg #[.int .i64 m, .slice a n c], .int .i64 s, .int .i64 t] W fun e w' => e = .returned (.bool true) ∧ Below W.heap.size W w') :
    Calls Try.prog 48 #[.agg #[.int .i64 m, .slice a n c], .int .i64 s, .int .i64 t] w (RetBox2 w m (up (maxL (flipFam l m s t))) true) := by
  obtain ⟨w0, hw0⟩ : ∃ w0, w0 = (((w.alloc (.cells #[.int .i64 m, .slice a n c] 26)).alloc (.cells #[.int .i64 s] 3)).alloc (.cells #[.int .i64 t] 3)).alloc (.cells #[.int .i64 0, .slice none 0 0] 26) := ⟨_, rfl⟩
  have hx : IntsAt w0 a n (up l) := by rw [hw0]; exact h.keep (by repeat (first | exact Below.refl _ _ | assumption | refine Below.setCell ?_ (by first | omega | (simp; done) | (simp; omega)) _ | refine Below.alloc ?_ (by first | omega | (simp; done) | (simp; omega)) _ | apply Below.drew))
  have hB : Below w.heap.size w w0 := by rw [hw0]; exact (by repeat (first | exact Below.refl _ _ | assumption | refine Below.setCell ?_ (by first | omega | (simp; done) | (simp; omega)) _ | refine Below.alloc ?_ (by first | omega | (simp; done) | (simp; omega)) _ | apply Below.drew))
  have hz0 : w0.heap.size = w.heap.size + 4 := by rw [hw0]; simp
  have xR : BoxF w0 (w.heap.size + 3) (.int .i64 0) (.slice none 0 0) := by
    rw [hw0, show w.heap.size + 3 = (((w.alloc (.cells #[.int .i64 m, .slice a n c] 26)).alloc (.cells #[.int .i64 s] 3)).alloc (.cells #[.int .i64 t] 3)).heap.size by simp]
    exact BoxF.new _ _ _ _
  have xA : BoxF w0 w.heap.size (.int .i64 m) (.slice a n c) := by
    rw [hw0]
    exact (((BoxF.new w (.int .i64 m) (.slice a n c) 26).alloc (.cells #[.int .i64 s] 3)).alloc (.cells #[.int .i64 t] 3)).alloc _
  have cS : w0.cell? ⟨w.heap.size + 1, 0, none⟩ = some (.int .i64 s) := by
    rw [hw0, World.cell?_alloc_lt _ _ _ (by simp), World.cell?_alloc_lt _ _ _ (by simp), show w.heap.size + 1 = (w.alloc (.cells #[.int .i64 m, .slice a n c] 26)).heap.size by simp, World.cell?_alloc_at _ _ _ _ rfl]; rfl
  have cT : w0.cell? ⟨w.heap.size + 2, 0, none⟩ = some (.int .i64 t) := by
    rw [hw0, World.cell?_alloc_lt _ _ _ (by simp), show w.heap.size + 2 = ((w.alloc (.cells #[.int .i64 m, .slice a n c] 26)).alloc (.cells #[.int .i64 s] 3)).heap.size by simp, World.cell?_alloc_at _ _ _ _ rfl]; rfl
  have hcong := maxL_congr (p := (delN (faceSet l) s ||| pickN (newB s t) (2 ^ m)).testBit) (q := flipFam l m s t) (fun x hx => flipFam_eq hx)
  have hPF := pickN_Fam (newB s t) (2 ^ m)
  have hDF := delFam (faceSet l) s
  have hFF := faceSet_Fam l
  have hfc := fun W hW => facesIn_any m a n c l W hW hl
  have hdl := fun W => deletionIn_any (faceSet l) s W hFF hs
  obtain ⟨F, hFe⟩ : ∃ F, F = faceSet l := ⟨_, rfl⟩
  rw [← hFe] at hcong hDF hFF hfc hdl
  obtain ⟨G, hGe⟩ : ∃ G, G = delN F s := ⟨_, rfl⟩
  rw [← hGe] at hcong hDF hdl
  obtain ⟨H, hHe⟩ : ∃ H, H = pickN (newB s t) (2 ^ m) := ⟨_, rfl⟩
  rw [← hHe] at hcong hPF
  have HHe := Lib.hid hHe; have Hcong := Lib.hid hcong; have Hfc := Lib.hid hfc; have Hdl := Lib.hid hdl
  have HcF : Hid (∀ W, Calls Try.prog 92 #[.int .i64 m, .int .u64 ((G ||| H : Nat) : Int)] W (RetBox W m (up (maxL (flipFam l m s t))))) := Lib.hid fun W => by rw [← Hcong.out]; exact complexOf_any m _ W (hDF.or hPF)
  have Hx := Lib.hid hx; have HB := Lib.hid hB; have XR := Lib.hid xR; have XA := Lib.hid xA; have CS := Lib.hid cS; have CT := Lib.hid cT; have HF := Lib.hid hF; have HW0 := Lib.hid hw0
  clear hx hB xR xA cS cT hF hw0 h hFe hGe hHe hcong hfc hdl
  go_enter Try.func48, Try.ntmps48
  go_wp2_with fail
  rw [← HW0.out]
  refine (HF.out _ Hx.out).mono ?_
  rintro e w1 ⟨rfl, hb⟩
  have HB1 := Lib.hid (HB.out.trans (hb.mono (by omega)))
  have XR1 := Lib.hid (XR.out.keep hb (by omega)); have XA1 := Lib.hid (XA.out.keep hb (by omega)); have Hx1 := Lib.hid (Hx.out.keep hb)
  have CS1 := Lib.hid ((hb.cell (p := ⟨w.heap.size + 1, 0, none⟩) (by simp; omega)).trans CS.out)
  have CT1 := Lib.hid ((hb.cell (p := ⟨w.heap.size + 2, 0, none⟩) (by simp; omega)).trans CT.out)
  have hz1 : w.heap.size + 4 ≤ w1.heap.size := by have := hb.size; omega
  clear hb
  obtain ⟨p0, p1, _, _, _⟩ := XA1.out
  have c1 := CS1.out
  have Hxd := Lib.hid (Hx1.out.keep (Below.drew (Below.refl _ _)))
  have XAd := Lib.hid XA1.out.drew
  have CSd : Hid (w1.drew.cell? ⟨w.heap.size + 1, 0, none⟩ = some (.int .i64 s)) := Lib.hid ((Below.cell (Below.refl w1.heap.size w1).drew (p := ⟨w.heap.size + 1, 0, none⟩) (by simp; omega)).trans CS1.out)
  go_wp2_with fail
  go_cut [8] (fun q W => q = .int .u64 G ∧ Below w1.heap.size w1 W)
  case first =>
    go_region_held3 (fun W => W.cell? ⟨w.heap.size, 0, none⟩ = some (.int .i64 m) ∧ W.cell? ⟨w.heap.size, 1, none⟩ = some (.slice a n c) ∧ W.cell? ⟨w.heap.size + 1, 0, none⟩ = some (.int .i64 s)) (first | exact ⟨p0, p1, c1⟩ | exact ⟨y0, y1, y2⟩ | go_keep) (first
      | (go_simp; go_at_call 88; (with_reducible refine (Hfc.out _ Hxd.out).mono ?_); rintro e w2 ⟨rfl, hb2⟩; have HB2 := Lib.hid hb2; have XA2 := Lib.hid (XAd.out.keep HB2.out (by simp; omega)); have y2 := (hb2.cell (p := ⟨w.heap.size + 1, 0, none⟩) (by simp; omega)).trans CSd.out; obtain ⟨y0, y1, _, _, _⟩ := XA2.out; clear hb2)
      | (go_simp; go_at_call 89; (with_reducible refine (Hdl.out _).mono ?_); rintro e w3 ⟨rfl, hb3⟩; have HB3 := Lib.hid (HB2.out.trans (hb3.mono HB2.out.size)); have XA3 := Lib.hid (XAd.out.keep HB3.out (by simp; omega)); have y2 := (HB3.out.cell (p := ⟨w.heap.size + 1, 0, none⟩) (by simp; omega)).trans CSd.out; obtain ⟨y0, y1, _, _, _⟩ := XA3.out; clear hb3))
    all_goals (go_wp2_with fail; go_meet)
    all_goals exact ⟨rfl, ((Below.refl _ w1).drew).trans (HB3.out.mono (by simp))⟩
  case rest =>
    obtain ⟨rfl, hbc⟩ := hcut
    have HBc := Lib.hid hbc
    have XRc := Lib.hid (XR1.out.keep hbc (by omega))
    have CSc := Lib.hid ((hbc.cell (p := ⟨w.heap.size + 1, 0, none⟩) (by simp; omega)).trans CS1.out)
    have CTc := Lib.hid ((hbc.cell (p := ⟨w.heap.size + 2, 0, none⟩) (by simp; omega)).trans CT1.out)
    have hzc : w1.heap.size ≤ wc.heap.size := hbc.size
    obtain ⟨x0, x1, _, _, _⟩ := XA1.out.keep hbc (by omega)
    clear hbc p0 p1 c1
    go_wp2_with fail
    refine (pickSets_any 104 #[.pointer (some ⟨w.heap.size + 1, 0, none⟩), .pointer (some ⟨w.heap.size + 2, 0, none⟩)] (newB s t) m _ hm (fun _ _ => rfl) (fun x hx => newFn_any (w.heap.size + 1) (w.heap.size + 2) x s t _ hx hs ht CSc.out CTc.out)).mono ?_
    rw [← HHe.out]
    rintro e we ⟨rfl, rfl⟩
    go_wp2_with fail
    refine (HcF.out _).mono ?_
    rintro e w5 ⟨ad5, d5, r5, rfl, hown, hb5⟩
    have XR5 := Lib.hid (XRc.out.keep hb5 (by omega))
    have HO5 := Lib.hid hown; have HB5 := Lib.hid (HBc.out.trans (hb5.mono hzc))
    obtain ⟨r0, r1, _, _, _⟩ := XR5.out
    clear hown hb5
    go_wp2_with fail
    refine bodyPost_ret (v := .tuple #[.agg #[.int .i64 m, .slice ad5 d5 r5], .bool true]) (by simp [results, Try.results48, go_sem, r0, r1]) rfl ⟨ad5, d5, r5, rfl, ?_, ?_⟩
    · exact ((HO5.out.setBelow _ (by omega)).setBelow _ (by omega)).mono (by omega)
    · exact ((HB1.out.trans (HB5.out.mono (by omega))).setCell (by first | (simp; done) | (simp; omega)) _).setCell (by first | (simp; done) | (simp; omega)) _
theorem sFlipAt_no (p : Int) (a : Option Addr) (n c : Nat) (xs : List Int) (s t : Int) (w : World) (h : IntsAt w a n xs) (hF : ∀ W, IntsAt W a n xs → Calls Try.prog 105 #[.agg #[.int .i64 p, .slice a n c], .int .i64 s, .int .i64 t] W fun e w' => e = .returned (.bool false) ∧ Below W.heap.size W w') :
    Calls Try.prog 49 #[.agg #[.int .i64 p, .slice a n c], .int .i64 s, .int .i64 t] w (RetBox2 w 0 [] false) := by
  obtain ⟨w0, hw0⟩ : ∃ w0, w0 = (w.alloc (.cells #[.int .i64 p, .slice a n c] 26)).alloc (.cells #[.int .i64 0, .slice none 0 0] 26) := ⟨_, rfl⟩
  have hx : IntsAt w0 a n xs := by rw [hw0]; exact h.keep (by repeat (first | exact Below.refl _ _ | assumption | refine Below.setCell ?_ (by first | omega | (simp; done) | (simp; omega)) _ | refine Below.alloc ?_ (by first | omega | (simp; done) | (simp; omega)) _ | apply Below.drew))
  have hB : Below w.heap.size w w0 := by rw [hw0]; exact (by repeat (first | exact Below.refl _ _ | assumption | refine Below.setCell ?_ (by first | omega | (simp; done) | (simp; omega)) _ | refine Below.alloc ?_ (by first | omega | (simp; done) | (simp; omega)) _ | apply Below.drew))
  have hz0 : w0.heap.size = w.heap.size + 2 := by rw [hw0]; simp
  have xR : BoxF w0 (w.heap.size + 1) (.int .i64 0) (.slice none 0 0) := by
    rw [hw0, show w.heap.size + 1 = (w.alloc (.cells #[.int .i64 p, .slice a n c] 26)).heap.size by simp]
    exact BoxF.new _ _ _ _
  have Hx := Lib.hid hx; have HB := Lib.hid hB; have XR := Lib.hid xR; have HF := Lib.hid hF; have HW0 := Lib.hid hw0
  clear hx hB xR hF hw0 h
  go_enter Try.func49, Try.ntmps49
  go_wp2_with fail
  rw [← HW0.out]
  refine (HF.out _ Hx.out).mono ?_
  rintro e w1 ⟨rfl, hb⟩
  obtain ⟨r0, r1, f0, f1, _⟩ := XR.out.keep hb (by omega)
  have hbl : Below w.heap.size w w1 := HB.out.trans (hb.mono (by omega))
  clear hb
  go_wp2_with fail
  refine bodyPost_ret (v := .tuple #[.agg #[.int .i64 0, .slice none 0 0], .bool false]) (by simp [results, Try.results49, go_sem, r0, r1]) rfl ⟨none, 0, 0, rfl, Own.nil _ _ _, (by repeat (first | exact Below.refl _ _ | assumption | refine Below.setCell ?_ (by first | omega | (simp; done) | (simp; omega)) _ | refine Below.alloc ?_ (by first | omega | (simp; done) | (simp; omega)) _ | apply Below.drew))⟩
theorem farTo_yes {D : List Nat} {s I : Nat} (hI : I < D.length) (h : sub s (nthN D I) = false) : (D.take (I + 1)).filter (fun f => !sub s f) = (D.take I).filter (fun f => !sub s f) ++ [nthN D I] := by
  rw [nthN_take D I hI, List.filter_append]; simp [h]
theorem farTo_no {D : List Nat} {s I : Nat} (hI : I < D.length) (h : sub s (nthN D I) = true) : (D.take (I + 1)).filter (fun f => !sub s f) = (D.take I).filter (fun f => !sub s f) := by
  rw [nthN_take D I hI, List.filter_append]; simp [h]
set_option maxRecDepth 100000 in
set_option maxHeartbeats 2000000 in
theorem sFlipAt_yes (p : Int) (a : Option Addr) (n c : Nat) (l : List Nat) (s t : Nat) (w : World) (h : IntsAt w a n (up l)) (hA : Anti p (up l)) (hl : ∀ t ∈ l, t < 64) (hs : s < 64) (ht : t < 64) (hF : ∀ W, IntsAt W a n (up l) → Calls Try.prog 105 #[.agg #[.int .i64 p, .slice a n c], .int .i64 s, .int .i64 t] W fun e w' => e = .returned (.bool true) ∧ Below W.heap.size W w') :
    Calls Try.prog 49 #[.agg #[.int .i64 p, .slice a n c], .int .i64 s, .int .i64 t] w (RetBox2 w p (up (maxL (flipL l s t).contains)) true) := by
  obtain ⟨w0, hw0⟩ : ∃ w0, w0 = (w.alloc (.cells #[.int .i64 p, .slice a n c] 26)).alloc (.cells #[.int .i64 0, .slice none 0 0] 26) := ⟨_, rfl⟩
  have hx : IntsAt w0 a n (up l) := by rw [hw0]; exact h.keep (by repeat (first | exact Below.refl _ _ | assumption | refine Below.setCell ?_ (by first | omega | (simp; done) | (simp; omega)) _ | refine Below.alloc ?_ (by first | omega | (simp; done) | (simp; omega)) _ | apply Below.drew))
  have hB : Below w.heap.size w w0 := by rw [hw0]; exact (by repeat (first | exact Below.refl _ _ | assumption | refine Below.setCell ?_ (by first | omega | (simp; done) | (simp; omega)) _ | refine Below.alloc ?_ (by first | omega | (simp; done) | (simp; omega)) _ | apply Below.drew))
  have hz0 : w0.heap.size = w.heap.size + 2 := by rw [hw0]; simp
  have xR : BoxF w0 (w.heap.size + 1) (.int .i64 0) (.slice none 0 0) := by
    rw [hw0, show w.heap.size + 1 = (w.alloc (.cells #[.int .i64 p, .slice a n c] 26)).heap.size by simp]
    exact BoxF.new _ _ _ _
  have xA : BoxF w0 w.heap.size (.int .i64 p) (.slice a n c) := by
    rw [hw0]
    exact (BoxF.new w (.int .i64 p) (.slice a n c) 26).alloc _
  have Hx := Lib.hid hx; have HB := Lib.hid hB; have XR := Lib.hid xR; have XA := Lib.hid xA; have HF := Lib.hid hF; have HW0 := Lib.hid hw0; have HA := Lib.hid hA; have Hl := Lib.hid hl
  clear hx hB xR xA hF hw0 h hA hl
  obtain ⟨D1, hD1⟩ : ∃ D, D = ord (isFace l) := ⟨_, rfl⟩
  have H1 := Lib.hid hD1
  have H1l : Hid (∀ x ∈ D1, x < 64) := Lib.hid (by rw [hD1]; exact ord_lt)
  have H1n : Hid (D1.length ≤ 64) := Lib.hid (by rw [hD1]; exact ord_len _)
  obtain ⟨D2, hD2⟩ : ∃ D, D = ord fun x => sub x s := ⟨_, rfl⟩
  have H2 := Lib.hid hD2
  have H2l : Hid (∀ x ∈ D2, x < 64) := Lib.hid (by rw [hD2]; exact ord_lt)
  have H2n : Hid (D2.length ≤ 64) := Lib.hid (by rw [hD2]; exact ord_len _)
  have HL : Hid (∀ x ∈ flipL l s t, x < 64) := Lib.hid fun x hx => by
    unfold flipL at hx
    rcases List.mem_append.1 hx with h | h
    · exact ord_lt x (List.mem_filter.1 h).1
    · obtain ⟨y, hy, rfl⟩ := List.mem_map.1 h
      exact or_lt64 (propL_lt y hy) ht
  have HLe : Hid (flipL l s t = D1.filter (fun f => !sub s f) ++ ((D2.filter fun x => x != s).map (· ||| t))) := Lib.hid (by rw [hD1, hD2]; rfl)
  clear hD1 hD2
  go_enter Try.func49, Try.ntmps49
  go_wp2_with fail
  rw [← HW0.out]
  refine (HF.out _ Hx.out).mono ?_
  rintro e w1 ⟨rfl, hb⟩
  have HB1 := Lib.hid (HB.out.trans (hb.mono (by omega)))
  have hP0 := Own.empty 3 w1 w1.heap.size (Nat.le_refl _)
  have XR1 := Lib.hid ((XR.out.keep hb (by omega)).alloc (.cells #[] 3)); have XA1 := Lib.hid ((XA.out.keep hb (by omega)).alloc (.cells #[] 3)); have Hx1 := Lib.hid ((Hx.out.keep hb).keep (w' := w1.alloc (.cells #[] 3)) (by repeat (first | exact Below.refl _ _ | assumption | refine Below.setCell ?_ (by first | omega | (simp; done) | (simp; omega)) _ | refine Below.alloc ?_ (by first | omega | (simp; done) | (simp; omega)) _ | apply Below.drew)))
  have HP0 := Lib.hid hP0
  have hz1 : w.heap.size + 2 ≤ w1.heap.size := by have := hb.size; omega
  clear hP0
  obtain ⟨p0, p1, _, _, _⟩ := XA.out.keep hb (by omega)
  clear hb
  go_wp2_with fail
  refine (sFacesOf_yes p a n c l _ Hx1.out HA.out Hl.out).mono ?_
  rw [← H1.out]
  rintro e w2 ⟨ad2, k2, c2, rfl, hown, hb⟩
  have hz2 : w1.heap.size + 1 ≤ w2.heap.size := by have := hb.size; simp at this; omega
  have XR2 := Lib.hid (XR1.out.keep hb (by simp; omega)); have XA2 := Lib.hid (XA1.out.keep hb (by simp; omega)); have HP2 := Lib.hid (HP0.out.keep hb)
  have HR2 : Hid (Own 3 w2 (w1.heap.size + 1) ad2 k2 c2 (up D1)) := Lib.hid (by have := hown; simp only [World.size_alloc] at this; exact this)
  have Hlt2 : Hid (∀ k, (Value.slice ad2 k2 c2).ownBlock = some k → w1.heap.size + 1 ≤ k ∧ k < w2.heap.size) := Lib.hid fun k hk => by have := hown.lt k hk; simp at this; omega
  have HB2 : Hid (Below w.heap.size w w2) := Lib.hid ((HB1.out.alloc HB1.out.size (.cells #[] 3)).trans (hb.mono (by simp; omega)))
  have hdl : D1.length = k2 := by have := hown.len; rwa [up_len] at this
  have Hdl := Lib.hid hdl
  have hk64 : k2 ≤ 64 := by have := H1n.out; omega
  clear hb hown hdl p0 p1
  go_wp2_with fail
  go_loopw [8, 10] (fun f i wr => ∃ I : Nat, I ≤ k2 ∧ i = .int .i64 I ∧ Below w1.heap.size w2 wr ∧ ∃ ad K d, f = .slice ad K d ∧ K ≤ I ∧ Own 3 wr w1.heap.size ad K d (up ((D1.take I).filter fun f => !sub s f)) ∧ Own 3 wr (w1.heap.size + 1) ad2 k2 c2 (up D1) ∧ (∀ b, ad = some b → b.block = w1.heap.size ∨ w2.heap.size ≤ b.block)) (fun _ i _ => k2 - (intOf i).toNat)
  case atStart => exact ⟨0, Nat.zero_le _, rfl, Below.refl _ _, _, 0, 0, rfl, by omega, HP2.out, HR2.out, fun b hb => .inl (by cases hb; rfl)⟩
  case round =>
    obtain ⟨I, hI, rfl, hbr, ad, K, d, rfl, hK, hown, hR, hloc⟩ := hrel
    have HBr := Lib.hid hbr; have HO := Lib.hid hown; have HRr := Lib.hid hR; have Hloc := Lib.hid hloc
    have hzr : w2.heap.size ≤ wr.heap.size := hbr.size
    clear hbr hown hR hloc
    by_cases hlt : I < k2
    · obtain ⟨b1, o1, rfl, hc⟩ := HRr.out.reads.cells (by omega)
      have hck := hc I hlt
      rw [nth_up] at hck
      have hx64 := H1l.out _ (nthN_mem (xs := D1) (k := I) (by rw [Hdl.out]; omega))
      have hyes := farTo_yes (D := D1) (s := s) (I := I) (by rw [Hdl.out]; omega)
      have hno := farTo_no (D := D1) (s := s) (I := I) (by rw [Hdl.out]; omega)
      obtain ⟨x, hx⟩ : ∃ x, x = nthN D1 I := ⟨_, rfl⟩
      rw [← hx] at hck hyes hno hx64
      have Hyes := Lib.hid hyes; have Hno := Lib.hid hno
      have hI0 : (0 : Int) ≤ I := by omega
      have hIn : (I : Int) < k2 := by omega
      have hand := w_and x s hx64 hs
      clear hc hx hyes hno
      cases hsub : sub s x
      · have hne : (((x &&& s : Nat) : Int) != (s : Int)) = true := by rw [castBne]; simpa using sub_and_no hsub
        have Hsub := Lib.hid hsub; clear hsub
        go_wp2_with (at_builtin; refine ap_at rfl _ _ rfl w1.heap.size _ _ _ _ _ rfl HO.out rfl (by omega) (by omega) ?_; intro ad' d' w' hown' hb' hg' hnew'; have HO' := Lib.hid hown'; have HB' := Lib.hid hb'; have HG' := Lib.hid hg'; have HN' := Lib.hid hnew'; clear hown' hb' hg' hnew')
        go_roundw
        case rel =>
          refine ⟨I + 1, by omega, by go_num, HBr.out.trans HB'.out, ad', K + 1, d', rfl, by omega, by rw [Hyes.out Hsub.out, up_append]; exact HO'.out, ?_, fun b hb => ?_⟩
          · refine HRr.out.grownNe HG'.out fun q1 h1 q2 h2 e => ?_
            obtain ⟨b, hb, hbq⟩ := ownBlock_some h1
            have h3 := Hlt2.out q2 h2
            rcases Hloc.out b hb with h4 | h4 <;> omega
          · rcases HN'.out b hb with ⟨c, hc, hbc⟩ | h
            · rw [hbc]; exact Hloc.out c hc
            · exact .inr (by omega)
        case measure => simp [intOf]; omega
      · have hne : (((x &&& s : Nat) : Int) != (s : Int)) = false := by rw [castBne]; simpa using sub_and hsub
        have Hsub := Lib.hid hsub; clear hsub
        go_wp2_with fail
        go_roundw
        case rel => exact ⟨I + 1, by omega, by go_num, HBr.out, ad, K, d, rfl, by omega, by rw [Hno.out Hsub.out]; exact HO.out, HRr.out, Hloc.out⟩
        case measure => simp [intOf]; omega
    · obtain rfl : I = k2 := by omega
      have hii : ¬ ((I : Int) < I) := by omega
      obtain ⟨L1, hL1⟩ : ∃ L, L = D1.filter fun f => !sub s f := ⟨_, rfl⟩
      have HO3 : Hid (Own 3 wr w1.heap.size ad K d (up L1)) := Lib.hid (by have := HO.out; rw [← Hdl.out, List.take_length, ← hL1] at this; exact this)
      have HL1 := Lib.hid hL1
      have XRr := Lib.hid (XR2.out.keep HBr.out (by omega)); have XAr := Lib.hid (XA2.out.keep HBr.out (by omega))
      have HB3 : Hid (Below w.heap.size w wr) := Lib.hid (HB2.out.trans (HBr.out.mono (by omega)))
      have Hlt3 : Hid (∀ b, ad = some b → b.block < wr.heap.size) := Lib.hid fun b hb => by subst hb; exact (HO3.out.lt b.block rfl).2
      clear hL1
      go_wp2_with fail
      refine (sSub_any s _ hs).mono ?_
      rw [← H2.out]
      rintro e w4 ⟨ad4, k4, c4, rfl, hown, hb⟩
      have hz4 : wr.heap.size ≤ w4.heap.size := hb.size
      have XR4 := Lib.hid (XRr.out.keep hb (by omega)); have XA4 := Lib.hid (XAr.out.keep hb (by omega)); have HP4 := Lib.hid (HO3.out.keep hb)
      have HR4 := Lib.hid hown
      have Hlt4 : Hid (∀ k, (Value.slice ad4 k4 c4).ownBlock = some k → wr.heap.size ≤ k ∧ k < w4.heap.size) := Lib.hid fun k hk => hown.lt k hk
      have HB4 : Hid (Below w.heap.size w w4) := Lib.hid (HB3.out.trans (hb.mono (by omega)))
      have hdl : D2.length = k4 := by have := hown.len; rwa [up_len] at this
      have Hdl2 := Lib.hid hdl
      have hk64' : k4 ≤ 64 := by have := H2n.out; omega
      have hlo : ∀ b, ad = some b → w1.heap.size ≤ b.block := fun b hb => by subst hb; exact (HO3.out.lt b.block rfl).1
      have Hlo := Lib.hid hlo
      clear hb hown hdl hlo HO HRr Hloc
      obtain ⟨wo, rfl⟩ : ∃ x : World, x = wr := ⟨_, rfl⟩
      go_wp2_with fail
      go_loopw [8, 12] (fun f i wr => ∃ J : Nat, J ≤ k4 ∧ i = .int .i64 J ∧ Below w1.heap.size w4 wr ∧ ∃ ad5 K5 d5, f = .slice ad5 K5 d5 ∧ K5 ≤ K + J ∧ Own 3 wr w1.heap.size ad5 K5 d5 (up (L1 ++ ((D2.take J).filter fun x => x != s).map (· ||| t))) ∧ Own 3 wr wo.heap.size ad4 k4 c4 (up D2) ∧ (∀ b, ad5 = some b → b.block < wo.heap.size ∨ w4.heap.size ≤ b.block)) (fun _ i _ => k4 - (intOf i).toNat)
      case atStart => exact ⟨0, Nat.zero_le _, rfl, Below.refl _ _, ad, K, d, rfl, by omega, by simpa using HP4.out, HR4.out, fun b hb => .inl (Hlt3.out b hb)⟩
      case round =>
        obtain ⟨J, hJ, rfl, hbr, ad5, K5, d5, rfl, hK5, hown, hR, hloc⟩ := hrel
        have HBr2 := Lib.hid hbr; have HO := Lib.hid hown; have HRr := Lib.hid hR; have Hloc := Lib.hid hloc
        have hzr2 : w4.heap.size ≤ wr.heap.size := hbr.size
        clear hbr hown hR hloc
        by_cases hlt2 : J < k4
        · obtain ⟨b1, o1, rfl, hc⟩ := HRr.out.reads.cells (by omega)
          have hck := hc J hlt2
          rw [nth_up] at hck
          have hx64 := H2l.out _ (nthN_mem (xs := D2) (k := J) (by rw [Hdl2.out]; omega))
          have hyes := propTo_yes (D := D2) (t := s) (I := J) (by rw [Hdl2.out]; omega)
          have hno := propTo_no (D := D2) (t := s) (I := J) (by rw [Hdl2.out]; omega)
          obtain ⟨x, hx⟩ : ∃ x, x = nthN D2 J := ⟨_, rfl⟩
          rw [← hx] at hck hyes hno hx64
          have Hyes := Lib.hid hyes; have Hno := Lib.hid hno
          have hI0 : (0 : Int) ≤ J := by omega
          have hIn : (J : Int) < k4 := by omega
          have hor := w_or x t hx64 ht
          clear hc hx hyes hno
          by_cases hxv : x = s
          · have hne : ((x : Int) != (s : Int)) = false := by rw [castBne]; simp [hxv]
            have Hxv := Lib.hid hxv; clear hxv
            go_wp2_with fail
            go_roundw
            case rel => exact ⟨J + 1, by omega, by go_num, HBr2.out, ad5, K5, d5, rfl, by omega, by rw [Hno.out Hxv.out]; exact HO.out, HRr.out, Hloc.out⟩
            case measure => simp [intOf]; omega
          · have hne : ((x : Int) != (s : Int)) = true := by rw [castBne]; simp [hxv]
            have Hxv := Lib.hid hxv; clear hxv
            go_wp2_with (at_builtin; refine ap_at rfl _ _ rfl w1.heap.size _ _ _ _ _ rfl HO.out rfl (by omega) (by omega) ?_; intro ad' d' w' hown' hb' hg' hnew'; have HO' := Lib.hid hown'; have HB' := Lib.hid hb'; have HG' := Lib.hid hg'; have HN' := Lib.hid hnew'; clear hown' hb' hg' hnew')
            go_roundw
            case rel =>
              refine ⟨J + 1, by omega, by go_num, HBr2.out.trans HB'.out, ad', K5 + 1, d', rfl, by omega, ?_, ?_, fun b hb => ?_⟩
              · rw [Hyes.out Hxv.out, List.map_append, ← List.append_assoc, up_append]; exact HO'.out
              · refine HRr.out.grownNe HG'.out fun q1 h1 q2 h2 e => ?_
                obtain ⟨b, hb, hbq⟩ := ownBlock_some h1
                have h3 := Hlt4.out q2 h2
                rcases Hloc.out b hb with h4 | h4 <;> omega
              · rcases HN'.out b hb with ⟨c, hc, hbc⟩ | h
                · rw [hbc]; exact Hloc.out c hc
                · exact .inr (by omega)
            case measure => simp [intOf]; omega
        · obtain rfl : J = k4 := by omega
          have hjj : ¬ ((J : Int) < J) := by omega
          have HOf : Hid (Own 3 wr w1.heap.size ad5 K5 d5 (up (flipL l s t))) := Lib.hid (by have := HO.out; rw [← Hdl2.out, List.take_length, HL1.out, ← HLe.out] at this; exact this)
          have XRf := Lib.hid (XR4.out.keep HBr2.out (by omega))
          have HBf : Hid (Below w.heap.size w wr) := Lib.hid (HB4.out.trans (HBr2.out.mono (by omega)))
          obtain ⟨p0, p1, _, _, _⟩ := XA4.out.keep HBr2.out (by omega)
          clear HO
          go_wp2_with fail
          refine (l3Make_any p ad5 K5 d5 _ _ HOf.out.reads HL.out).mono ?_
          rintro e w6 ⟨ad6, d6, r6, rfl, hown, hb6⟩
          have XR6 := Lib.hid (XRf.out.keep hb6 (by omega))
          have HO6 := Lib.hid hown; have HB6 := Lib.hid (HBf.out.trans (hb6.mono HBf.out.size))
          obtain ⟨r0, r1, _, _, _⟩ := XR6.out
          clear hown hb6
          go_wp2_with fail
          refine bodyPost_ret (v := .tuple #[.agg #[.int .i64 p, .slice ad6 d6 r6], .bool true]) (by simp [results, Try.results49, go_sem, r0, r1]) rfl ⟨ad6, d6, r6, rfl, ?_, ?_⟩
          · exact ((HO6.out.setBelow _ (by omega)).setBelow _ (by omega)).mono (by omega)
          · exact (HB6.out.setCell (by first | (simp; done) | (simp; omega)) _).setCell (by first | (simp; done) | (simp; omega)) _
end Go.Proofs.Ytbdnlncpamandaa

/- The law FnDivided: subdivisions keep all holes, and lists of faces have the same Euler number. No condition. -/
import Derived.Deep.RegionHeld3
import Derived.Deep.RegionWith
import Derived.Deep.DeepCutAuto
import Derived.Deep.QuietTactic
import Derived.BigQuiet
import Derived.Test.YtbdnlncpamandaaCore
import Derived.Test.YtbdnlncpamandaaDiv3
import Derived.Test.YtbdnlncpamandaaDrw5
import Derived.Test.YtbdnlncpamandaaDrw8
import Derived.Test.YtbdnlncpamandaaEuler
import Derived.Test.YtbdnlncpamandaaFaces3
import Derived.Test.YtbdnlncpamandaaFlipAt
namespace Go.Proofs.Ytbdnlncpamandaa.lawFnDivided
set_option maxRecDepth 20000
open Go.ChangeShapes Go.WideShapes Go.ChangeAt Go.RowKit
set_option linter.unusedVariables false
set_option linter.unusedSimpArgs false

/-- what lies in memory while the law runs -/
structure St (wb : World) (G1 : Nat) (p : Int) (a1 : Option Addr) (n1 c1 : Nat) (xs : List Int) (G2 : Nat) (P : Int) (a2 : Option Addr) (n2 c2 : Nat) (zs : List Int) (G3 : Nat) (a3 : Option Addr) (n3 c3 : Nat) (G4 : Nat) (q : Int) (a4 : Option Addr) (n4 c4 : Nat) (ys : List Int) (aL : Option Addr) (nL cL : Nat) (L : List Int) (aF : Option Addr) (nF cF : Nat) (F : List Int) (W : World) : Prop where
  below : Below wb.heap.size wb W
  x1 : BoxF W G1 (.int .i64 p) (.slice a1 n1 c1)
  i1 : IntsAt W a1 n1 xs
  x2 : BoxF W G2 (.int .i64 P) (.slice a2 n2 c2)
  i2 : IntsAt W a2 n2 zs
  x3 : BoxF W G3 (.int .i64 P) (.slice a3 n3 c3)
  i3 : IntsAt W a3 n3 zs
  x4 : BoxF W G4 (.int .i64 q) (.slice a4 n4 c4)
  i4 : IntsAt W a4 n4 ys
  l : IntsAt W aL nL L
  f : IntsAt W aF nF F
theorem St.keep {wb : World} {G1 : Nat} {p : Int} {a1 : Option Addr} {n1 c1 : Nat} {xs : List Int} {G2 : Nat} {P : Int} {a2 : Option Addr} {n2 c2 : Nat} {zs : List Int} {G3 : Nat} {a3 : Option Addr} {n3 c3 : Nat} {G4 : Nat} {q : Int} {a4 : Option Addr} {n4 c4 : Nat} {ys : List Int} {aL : Option Addr} {nL cL : Nat} {L : List Int} {aF : Option Addr} {nF cF : Nat} {F : List Int} {W W' : World}
    (h : St wb G1 p a1 n1 c1 xs G2 P a2 n2 c2 zs G3 a3 n3 c3 G4 q a4 n4 c4 ys aL nL cL L aF nF cF F W) (hb : Below W.heap.size W W') : St wb G1 p a1 n1 c1 xs G2 P a2 n2 c2 zs G3 a3 n3 c3 G4 q a4 n4 c4 ys aL nL cL L aF nF cF F W' :=
  ⟨h.below.trans (hb.mono h.below.size), h.x1.keep hb h.x1.lt, h.i1.keep hb, h.x2.keep hb h.x2.lt, h.i2.keep hb, h.x3.keep hb h.x3.lt, h.i3.keep hb, h.x4.keep hb h.x4.lt, h.i4.keep hb, h.l.keep hb, h.f.keep hb⟩

/-- what the subdivision is, and what it keeps -/
theorem divided (p : Int) (xs : List Int) (s : Int) : ∃ (P : Int) (zs : List Int) (b : Bool),
    (∀ W ad n c, IntsAt W ad n xs → n ≤ c → Calls Try.prog 31 #[.agg #[.int .i64 p, .slice ad n c], .int .i64 s] W (RetBox2 W P zs b)) ∧
    (∀ W ad n c, IntsAt W ad n xs → n ≤ c → Calls Try.prog 30 #[.agg #[.int .i64 p, .slice ad n c], .int .i64 s] W (RetBox2 W P zs b)) ∧
    (b = true → ∃ (H2 H3 : List Int) (B : Bool),
      (∀ W ad n c, IntsAt W ad n xs → Calls Try.prog 45 #[.agg #[.int .i64 p, .slice ad n c], .int .i64 2] W (RetInts W H2)) ∧
      (∀ W ad n c, IntsAt W ad n zs → Calls Try.prog 45 #[.agg #[.int .i64 P, .slice ad n c], .int .i64 2] W (RetInts W H2)) ∧
      (∀ W ad n c, IntsAt W ad n xs → Calls Try.prog 45 #[.agg #[.int .i64 p, .slice ad n c], .int .i64 3] W (RetInts W H3)) ∧
      (∀ W ad n c, IntsAt W ad n zs → Calls Try.prog 45 #[.agg #[.int .i64 P, .slice ad n c], .int .i64 3] W (RetInts W H3)) ∧
      (∀ W ad n c, IntsAt W ad n xs → Calls Try.prog 46 #[.agg #[.int .i64 p, .slice ad n c]] W fun e w' => e = .returned (.bool B) ∧ Below W.heap.size W w') ∧
      (∀ W ad n c, IntsAt W ad n zs → Calls Try.prog 46 #[.agg #[.int .i64 P, .slice ad n c]] W fun e w' => e = .returned (.bool B) ∧ Below W.heap.size W w')) := by
  by_cases h : DivP p xs s
  · obtain ⟨⟨l, u, rfl, hA, rfl, hu, hf⟩, h6, hs0⟩ := h
    obtain ⟨l', he, hl2, hs, hanti⟩ := hA.nat
    have := up_inj he; subst this
    obtain ⟨m, rfl⟩ := Int.eq_ofNat_of_zero_le (show 0 ≤ p by have := hA.1; omega)
    have hm : m ≤ 5 := by have := hA.2.1; omega
    have hl64 : ∀ t ∈ l, t < 64 := fun t ht => (hl2 t ht).2
    have hlm : ∀ t ∈ l, t < 2 ^ m := fun t ht => by simpa using (hl2 t ht).1
    have hll : l.length ≤ 64 := sorted_len hs hl64
    have hu0 : u ≠ 0 := by omega
    have hum := isFace_lt hf hlm
    have hD : DivH l u m := ⟨hm, hlm, hu0, hf⟩
    have hA2 : Anti ((m : Int) + 1) (up (maxL (divFam l u (2 ^ m)))) := by
      have := anti_maxL (m := m + 1) (p := divFam l u (2 ^ m)) (by omega) (by omega) (fun x hx hd => ?_)
      · simpa using this
      · rw [div_con hD hx, Bool.and_eq_true] at hd
        have hc := hd.1
        unfold conB at hc
        rw [Bool.or_eq_true, Bool.and_eq_true] at hc
        rw [Nat.pow_succ]
        rcases hc with hc | ⟨hb, hc⟩
        · have := hD.face hc; omega
        · have h1 := hD.face (isFace_dn hc (sub_or_left _ u))
          obtain ⟨b1, b2, b3, b4⟩ := bitB x hx m (by omega) hb
          have hp0 : 0 < 2 ^ m := Nat.two_pow_pos m
          have h5 : (x ^^^ 2 ^ m) ||| 2 ^ m < 2 ^ (m + 1) := Nat.or_lt_two_pow (by rw [Nat.pow_succ]; omega) (by rw [Nat.pow_succ]; omega)
          rw [b4, Nat.pow_succ] at h5
          exact h5
    have hz64 : ∀ t ∈ maxL (divFam l u (2 ^ m)), t < 64 := maxL_lt
    have hdn := dn_div hD
    have htop : topTo (isFace (maxL (divFam l u (2 ^ m)))) 64 = topTo (isFace l) 64 := by rw [top_congr (fun x hx => face_max hdn hx), div_top hD]
    have hH : ∀ pr, Prm pr → holesL pr (isFace (maxL (divFam l u (2 ^ m)))) = holesL pr (isFace l) := fun pr hpr =>
      holesL_congr htop fun k => by rw [holes_congr (fun x hx => face_max hdn hx), div_holes hpr hD]
    have hpu := div_pure hD (fun f hf g hg hfg => by
      obtain ⟨i, hi, rfl⟩ := List.mem_iff_getElem.1 hf
      obtain ⟨j, hj, rfl⟩ := List.mem_iff_getElem.1 hg
      rcases Nat.lt_trichotomy i j with hij | hij | hij
      · have := List.pairwise_iff_getElem.1 hanti i j hi hj hij
        rw [hfg] at this; cases this
      · subst hij; rfl
      · have h1 := List.pairwise_iff_getElem.1 hs j i hj hi hij
        have h2 := sub_rank (hl64 _ (List.getElem_mem hj)) hfg
        by_cases e : l[i] = l[j]
        · exact e
        · have := h2 e; omega)
    refine ⟨(m : Int) + 1, up (maxL (divFam l u (2 ^ m))), true, fun W ad n c hx hc => ?_, fun W ad n c hx hc => ?_, fun _ => ?_⟩
    · rw [div_max hm hlm hum]
      exact sDiv_yes m ad n c l u W hx (by have := hx.len; rw [up_len] at this; omega) hm hA hl64 hu hu0 hlm hf
    · exact iDiv_yes m ad n c l u W hx hc hm hA hl64 hu hum hu0 hlm hf
    · refine ⟨holesL 2 (isFace l), holesL 3 (isFace l), pureB l, fun W ad n c hx => sHoles_yes m ad n c l 2 W hx hA hl64 (.inl rfl), fun W ad n c hx => ?_, fun W ad n c hx => sHoles_yes m ad n c l 3 W hx hA hl64 (.inr (.inl rfl)), fun W ad n c hx => ?_, fun W ad n c hx => sPure_yes m ad n c l W hx hA hl64 _ rfl, fun W ad n c hx => sPure_yes _ ad n c _ W hx hA2 hz64 _ hpu⟩
      · rw [← hH 2 (.inl rfl)]; exact sHoles_yes _ ad n c _ 2 W hx hA2 hz64 (.inl rfl)
      · rw [← hH 3 (.inr (.inl rfl))]; exact sHoles_yes _ ad n c _ 3 W hx hA2 hz64 (.inr (.inl rfl))
  · exact ⟨0, [], false, fun W ad n c hx hc => sDiv_no p ad n c xs s W hx h, fun W ad n c hx hc => iDiv_no p ad n c xs s W hx hc h, fun h => by cases h⟩

theorem rep_bd {xs : List Int} (h : ∀ x ∈ xs, 0 ≤ x ∧ x ≤ 1000000) (k : Nat) : ∀ i, i ≤ xs.length → repTo xs k i ≤ i * 20000000000
  | 0, _ => by unfold repTo; simp
  | i + 1, hi => by
    rw [repTo_succ]
    have h1 := rep_bd h k i (by omega)
    have h2 := rep_mul (xs := xs) (i := i) (h _ (nth_mem (by omega))) k
    omega
/-- what the counts of chains are -/
theorem chained (q : Int) (ys : List Int) : ∃ (L : List Int) (E DV : Int) (fs : List Int),
    (∀ W ad n c, IntsAt W ad n ys → n ≤ c → Calls Try.prog 34 #[.agg #[.int .i64 q, .slice ad n c]] W (RetInts W L)) ∧
    (∀ W ad n c, IntsAt W ad n ys → Calls Try.prog 39 #[.agg #[.int .i64 q, .slice ad n c]] W (RetInts W L)) ∧
    L.length ≤ 7 ∧ (∀ i, i < L.length → -1000000000000 ≤ nth L i ∧ nth L i ≤ 1000000000000) ∧ (-100 ≤ E ∧ E ≤ 100) ∧ (-100 ≤ DV ∧ DV ≤ 100) ∧ fs.length ≤ 64 ∧
    (0 < L.length → (∀ W ad n c, IntsAt W ad n ys → Calls Try.prog 43 #[.agg #[.int .i64 q, .slice ad n c]] W fun e w' => e = .returned (.int .i64 E) ∧ Below W.heap.size W w') ∧ sgnS L L.length = E ∧
      (∀ W ad n c, IntsAt W ad n ys → Calls Try.prog 27 #[.agg #[.int .i64 q, .slice ad n c]] W fun e w' => e = .returned (.int .i64 DV) ∧ Below W.heap.size W w') ∧ (L.length : Int) = DV + 2 ∧
      (∀ W ad n c, IntsAt W ad n ys → Calls Try.prog 44 #[.agg #[.int .i64 q, .slice ad n c]] W (RetInts W fs)) ∧ (1 < L.length → nth L 1 = (fs.length : Int) - 1)) := by
  obtain ⟨f, hf⟩ := Cnts.is q ys
  have h7 := hf.len
  have hlen : (up (chainL f)).length = f.length := by rw [up_len, chain_len]
  have hbd : ∀ i, i < (up (chainL f)).length → -1000000000000 ≤ nth (up (chainL f)) i ∧ nth (up (chainL f)) i ≤ 1000000000000 := fun i hi => by
    rw [hlen] at hi
    rw [nth_up, chain_at hi]
    by_cases e : i = 0
    · rw [if_pos e]; decide
    · rw [if_neg e]
      have := rep_bd (xs := up f) (fun x hx => by
        unfold up at hx
        obtain ⟨y, hy, rfl⟩ := List.mem_map.1 hx
        have := hf.le y hy
        omega) i (up f).length (Nat.le_refl _)
      rw [up_len] at this
      rw [up_len]
      omega
  rcases id hf with ⟨hno, hf0⟩ | ⟨l, rfl, hA, hl, hfe⟩
  · refine ⟨_, 0, 0, [], fun W ad n c hx hc => iChain_any q ad n c ys f W hx hc hf, fun W ad n c hx => sChain_any q ad n c ys f W hx hf, by rw [hlen]; exact h7, hbd, by omega, by omega, by simp, fun h => ?_⟩
    rw [hlen, hf0] at h; exact absurd h (Nat.not_lt_zero _)
  · obtain ⟨l', he, hl2, hs, _⟩ := hA.nat
    have := up_inj he; subst this
    have he1 := eulTo_bd (ord (isFace l)) (ord (isFace l)).length
    have he2 := ord_len (isFace l)
    have ht := topTo_le (isFace l) 64
    refine ⟨_, eul (isFace l), (topTo (isFace l) 64 : Int) - 2, up (ord (isFace l)), fun W ad n c hx hc => iChain_any q ad n c _ f W hx hc hf, fun W ad n c hx => sChain_any q ad n c _ f W hx hf, by rw [hlen]; exact h7, hbd, by unfold eul; omega, by omega, by rw [up_len]; exact he2, fun h => ?_⟩
    rw [hlen, hfe, cnt_len2] at h
    have hln : l ≠ [] := fun e => by
      rw [e] at h
      exact absurd h (by decide +kernel)
    obtain ⟨hone, _⟩ := empty_one hln
    have hpos : ∀ n, l.length = n → 0 < n := fun n hn => by rw [← hn]; exact List.length_pos_iff.2 hln
    refine ⟨fun W ad n c hx => sEuler_yes q ad n c l W hx hA hl, ?_, fun W ad n c hx => sDim_yes q ad n c l W hx hA hl hs (hpos n (by have := hx.len; rwa [up_len] at this)), ?_, fun W ad n c hx => sFacesOf_yes q ad n c l W hx hA hl, fun h1 => ?_⟩
    · have := chain_euler (A := isFace l) h hone
      rw [hlen, hfe, cnt_len2]
      rw [chain_len, cnt_len2] at this
      exact this
    · rw [hlen, hfe, cnt_len2]; omega
    · rw [hlen, hfe, cnt_len2] at h1
      rw [nth_up, hfe, chain_one h1 hone, up_len]
theorem repeated (xs : List Int) : ∃ ys : List Int,
    (∀ W ad n c, IntsAt W ad n xs → Calls Try.prog 41 #[.slice ad n c] W (RetInts W ys)) ∧
    (∀ W ad n c, IntsAt W ad n xs → Calls Try.prog 40 #[.slice ad n c] W (RetInts W ys)) := by
  by_cases h : RepOk xs
  · exact ⟨up (repL xs xs.length), fun W ad n c hx => sRep_yes ad n c xs W hx h, fun W ad n c hx => iRep_yes ad n c xs W hx h⟩
  · exact ⟨[], fun W ad n c hx => sRep_no ad n c xs W hx h, fun W ad n c hx => iRep_no ad n c xs W hx h⟩
theorem onto_rec0 : ∀ n, n < 7 → 1 ≤ n → ∀ k, k < 7 → 1 ≤ k → onI (n + 1) k = k * (onI n k + onI n (k - 1)) := by decide +kernel
theorem onto_rec {n k : Int} (hn : 1 ≤ n ∧ n ≤ 6) (hk : 1 ≤ k ∧ k ≤ 6) : ((onto (n + 1) k : Nat) : Int) = k * ((onto n k : Nat) + (onto n (k - 1) : Nat)) := by
  obtain ⟨m, rfl⟩ := Int.eq_ofNat_of_zero_le (show 0 ≤ n by omega)
  obtain ⟨j, rfl⟩ := Int.eq_ofNat_of_zero_le (show 0 ≤ k by omega)
  have h := onto_rec0 m (by omega) (by omega) j (by omega) (by omega)
  rw [show ((m : Int) + 1) = ((m + 1 : Nat) : Int) by omega, show ((j : Int) - 1) = ((j - 1 : Nat) : Int) by omega, onto_in (by omega) (by omega), onto_in (by omega) (by omega), onto_in (by omega) (by omega), h]
  rw [Int.natCast_mul, Int.natCast_add]

set_option maxRecDepth 100000 in
set_option maxHeartbeats 8000000 in
theorem walk (w : World) (ad : Option Addr) (n c : Nat) (hs : CodeAt w ad n) :
    Calls Try.prog 4 #[.slice ad n c] w fun e w' => e = .returned (.bool true) ∧ Below w.heap.size w w' := by
  have HS := Lib.hid hs
  have hnm := hs.1
  clear hs
  by_cases hn : n ≤ 1048576
  · go_enter Try.func4, Try.ntmps4
    go_wp2_with (go_at_call 6; (with_reducible refine (big_no ad n c _ hn).mono ?_); rintro e w' ⟨rfl, rfl⟩)
    refine (drawSubdivide_any ad n c w HS.out hn).mono ?_
    rintro e w1 ⟨p, a1, n1, c1, xs, s, rfl, own1, hxl, hb1⟩
    obtain ⟨W1, hW1⟩ : ∃ W1, W1 = w1.alloc (.cells #[.int .i64 p, .slice a1 n1 c1] 26) := ⟨_, rfl⟩
    obtain ⟨G1, hG1⟩ : ∃ G1, G1 = w1.heap.size := ⟨_, rfl⟩
    have X1 : Hid (BoxF W1 G1 (.int .i64 p) (.slice a1 n1 c1)) := Lib.hid (by rw [hW1, hG1]; exact BoxF.new _ _ _ _)
    have HB1 : Hid (Below w.heap.size w W1) := Lib.hid (by rw [hW1]; exact hb1.alloc hb1.size _)
    have I1 : Hid (IntsAt W1 a1 n1 xs) := Lib.hid (by rw [hW1]; exact own1.reads.keep (by repeat (first | exact Below.refl _ _ | assumption | refine Below.setCell ?_ (by first | omega | (simp; done) | (simp; omega)) _ | refine Below.alloc ?_ (by first | omega | (simp; done) | (simp; omega)) _ | apply Below.drew)))
    have F1 := own1.cap
    have HW1 := Lib.hid hW1; have HG1 := Lib.hid hG1
    obtain ⟨P, zs, b, hDs, hDi, hDk⟩ := divided p xs s
    have HDs := Lib.hid hDs; have HDi := Lib.hid hDi; have HDk := Lib.hid hDk
    clear hDs hDi hDk hW1 hG1 own1 hb1
    go_wp2_with fail
    rw [← HG1.out, ← HW1.out]
    refine (HDi.out W1 a1 n1 c1 I1.out F1).mono ?_
    rintro e w2 ⟨a2, n2, c2, rfl, own2, hb2⟩
    obtain ⟨W2, hW2⟩ : ∃ W2, W2 = w2.alloc (.cells #[.int .i64 P, .slice a2 n2 c2] 26) := ⟨_, rfl⟩
    obtain ⟨G2, hG2⟩ : ∃ G2, G2 = w2.heap.size := ⟨_, rfl⟩
    have hb2a : Below W1.heap.size W1 W2 := by rw [hW2]; exact hb2.alloc hb2.size _
    have X2 : Hid (BoxF W2 G2 (.int .i64 P) (.slice a2 n2 c2)) := Lib.hid (by rw [hW2, hG2]; exact BoxF.new _ _ _ _)
    have I2 : Hid (IntsAt W2 a2 n2 zs) := Lib.hid (by rw [hW2]; exact own2.reads.keep (by repeat (first | exact Below.refl _ _ | assumption | refine Below.setCell ?_ (by first | omega | (simp; done) | (simp; omega)) _ | refine Below.alloc ?_ (by first | omega | (simp; done) | (simp; omega)) _ | apply Below.drew)))
    have HB2 : Hid (Below w.heap.size w W2) := Lib.hid (HB1.out.trans (hb2a.mono HB1.out.size))
    have X12 := Lib.hid (X1.out.keep hb2a X1.out.lt); have I12 := Lib.hid (I1.out.keep hb2a)
    have HW2 := Lib.hid hW2; have HG2 := Lib.hid hG2
    obtain ⟨b0, b1, _, _, _⟩ := X12.out.other (W' := W2) (Nat.le_refl _) rfl
    rw [HW2.out] at b0 b1
    clear hW2 hG2 own2 hb2 hb2a
    go_wp2_with fail
    rw [← HG2.out, ← HW2.out]
    refine (HDs.out W2 a1 n1 c1 I12.out F1).mono ?_
    rintro e w3 ⟨a3, n3, c3, rfl, own3, hb3⟩
    obtain ⟨W3, hW3⟩ : ∃ W3, W3 = w3.alloc (.cells #[.int .i64 P, .slice a3 n3 c3] 26) := ⟨_, rfl⟩
    obtain ⟨G3, hG3⟩ : ∃ G3, G3 = w3.heap.size := ⟨_, rfl⟩
    have hb3a : Below W2.heap.size W2 W3 := by rw [hW3]; exact hb3.alloc hb3.size _
    have X3 : Hid (BoxF W3 G3 (.int .i64 P) (.slice a3 n3 c3)) := Lib.hid (by rw [hW3, hG3]; exact BoxF.new _ _ _ _)
    have I3 : Hid (IntsAt W3 a3 n3 zs) := Lib.hid (by rw [hW3]; exact own3.reads.keep (by repeat (first | exact Below.refl _ _ | assumption | refine Below.setCell ?_ (by first | omega | (simp; done) | (simp; omega)) _ | refine Below.alloc ?_ (by first | omega | (simp; done) | (simp; omega)) _ | apply Below.drew)))
    have HB3 : Hid (Below w.heap.size w W3) := Lib.hid (HB2.out.trans (hb3a.mono HB2.out.size))
    have X13 := Lib.hid (X12.out.keep hb3a X12.out.lt); have I13 := Lib.hid (I12.out.keep hb3a)
    have X23 := Lib.hid (X2.out.keep hb3a X2.out.lt); have I23 := Lib.hid (I2.out.keep hb3a)
    have HW3 := Lib.hid hW3; have HG3 := Lib.hid hG3
    clear hW3 hG3 own3 hb3 hb3a b0 b1 X1 I1 HB1 X2 I2 X12 I12 HB2 HDs HDi
    go_wp2_with fail
    rw [← HG3.out, ← HW3.out]
    refine (drawOnto_any ad n c W3 (HS.out.keep HB3.out) hn).mono ?_
    rintro e w4 ⟨N, K, rfl, hNK, hb4⟩
    have HB4 : Hid (Below w.heap.size w w4) := Lib.hid (HB3.out.trans (hb4.mono HB3.out.size))
    have X14 := Lib.hid (X13.out.keep hb4 X13.out.lt); have I14 := Lib.hid (I13.out.keep hb4)
    have X24 := Lib.hid (X23.out.keep hb4 X23.out.lt); have I24 := Lib.hid (I23.out.keep hb4)
    have X34 := Lib.hid (X3.out.keep hb4 X3.out.lt); have I34 := Lib.hid (I3.out.keep hb4)
    clear hb4 X13 I13 X23 I23 X3 I3 HB3
    obtain ⟨hN1, hN2, hK1, hK2⟩ := hNK
    go_wp2_with fail
    refine (drawChainCounts_any ad n c w4 (HS.out.keep HB4.out) hn).mono ?_
    rintro e w5 ⟨q, a4, n4, c4, ys, rfl, own4, hyl, hb5⟩
    obtain ⟨W5, hW5⟩ : ∃ W5, W5 = w5.alloc (.cells #[.int .i64 q, .slice a4 n4 c4] 26) := ⟨_, rfl⟩
    obtain ⟨G4, hG4⟩ : ∃ G4, G4 = w5.heap.size := ⟨_, rfl⟩
    have hb5a : Below w4.heap.size w4 W5 := by rw [hW5]; exact hb5.alloc hb5.size _
    have X4 : Hid (BoxF W5 G4 (.int .i64 q) (.slice a4 n4 c4)) := Lib.hid (by rw [hW5, hG4]; exact BoxF.new _ _ _ _)
    have I4 : Hid (IntsAt W5 a4 n4 ys) := Lib.hid (by rw [hW5]; exact own4.reads.keep (by repeat (first | exact Below.refl _ _ | assumption | refine Below.setCell ?_ (by first | omega | (simp; done) | (simp; omega)) _ | refine Below.alloc ?_ (by first | omega | (simp; done) | (simp; omega)) _ | apply Below.drew)))
    have F4 := own4.cap
    have HB5 : Hid (Below w.heap.size w W5) := Lib.hid (HB4.out.trans (hb5a.mono HB4.out.size))
    have X15 := Lib.hid (X14.out.keep hb5a X14.out.lt); have I15 := Lib.hid (I14.out.keep hb5a)
    have X25 := Lib.hid (X24.out.keep hb5a X24.out.lt); have I25 := Lib.hid (I24.out.keep hb5a)
    have X35 := Lib.hid (X34.out.keep hb5a X34.out.lt); have I35 := Lib.hid (I34.out.keep hb5a)
    have HW5 := Lib.hid hW5; have HG5 := Lib.hid hG4
    obtain ⟨L, E, DV, fs, hLi, hLs, hL7, hLb, hEb, hDb, hfs, hLk⟩ := chained q ys
    have HLi := Lib.hid hLi; have HLs := Lib.hid hLs; have HLb := Lib.hid hLb; have HLk := Lib.hid hLk
    clear hW5 hG4 own4 hb5 hb5a X14 I14 X24 I24 X34 I34 HB4 hLi hLs hLb hLk
    go_wp2_with fail
    rw [← HG5.out, ← HW5.out]
    refine (HLi.out W5 a4 n4 c4 I4.out F4).mono ?_
    rintro e w6 ⟨aL, nL, cL, rfl, ownL, hb6⟩
    have HB6 : Hid (Below w.heap.size w w6) := Lib.hid (HB5.out.trans (hb6.mono HB5.out.size))
    have X16 := Lib.hid (X15.out.keep hb6 X15.out.lt); have I16 := Lib.hid (I15.out.keep hb6)
    have X26 := Lib.hid (X25.out.keep hb6 X25.out.lt); have I26 := Lib.hid (I25.out.keep hb6)
    have X36 := Lib.hid (X35.out.keep hb6 X35.out.lt); have I36 := Lib.hid (I35.out.keep hb6)
    have X46 := Lib.hid (X4.out.keep hb6 X4.out.lt); have I46 := Lib.hid (I4.out.keep hb6)
    have L6 := Lib.hid ownL.reads
    have HnL : Hid (L.length = nL) := Lib.hid ownL.len
    clear hb6 ownL X15 I15 X25 I25 X35 I35 X4 I4 HB5 HLi
    go_wp2_with fail
    refine (drawRepeated_any ad n c w6 (HS.out.keep HB6.out) hn).mono ?_
    rintro e w7 ⟨F, aF, nF, cF, rfl, ownF, hF7, hb7⟩
    have S7 : Hid (St w G1 p a1 n1 c1 xs G2 P a2 n2 c2 zs G3 a3 n3 c3 G4 q a4 n4 c4 ys aL nL cL L aF nF cF F w7) := Lib.hid ⟨HB6.out.trans (hb7.mono HB6.out.size), X16.out.keep hb7 X16.out.lt, I16.out.keep hb7, X26.out.keep hb7 X26.out.lt, I26.out.keep hb7, X36.out.keep hb7 X36.out.lt, I36.out.keep hb7, X46.out.keep hb7 X46.out.lt, I46.out.keep hb7, L6.out.keep hb7, ownF.reads⟩
    obtain ⟨R, hRs, hRi⟩ := repeated F
    have HRs := Lib.hid hRs; have HRi := Lib.hid hRi
    clear hb7 ownF hRs hRi X16 I16 X26 I26 X36 I36 X46 I46 L6 HB6 HW1 HG1 HW2 HG2 HW3 HG3 HW5 HG5
    have hbb : (b != b) = false := by cases b <;> rfl
    obtain ⟨o0, ho0⟩ : ∃ o0 : Nat, o0 = onto N K := ⟨_, rfl⟩
    have HOi : Hid (∀ W, Calls Try.prog 37 #[.int .i64 N, .int .i64 K] W fun e w' => e = .returned (.int .i64 (o0 : Int)) ∧ W = w') := Lib.hid fun W => by rw [ho0]; exact iOnto_any N K W
    have HOs : Hid (∀ W, Calls Try.prog 38 #[.int .i64 N, .int .i64 K] W fun e w' => e = .returned (.int .i64 (o0 : Int)) ∧ W = w') := Lib.hid fun W => by rw [ho0]; exact sOnto_any N K W
    have hoo : (((o0 : Nat) : Int) != ((o0 : Nat) : Int)) = false := by simp
    obtain ⟨x20, x21, _, _, _⟩ := S7.out.x2
    obtain ⟨x30, x31, _, _, _⟩ := S7.out.x3
    clear ho0
    go_wp2_with fail
    refine (sameComplex_yes P a2 a3 n2 n3 c2 c3 zs w7 S7.out.i2 S7.out.i3).mono ?_
    rintro e w8 ⟨rfl, hb8⟩
    have S8 := Lib.hid (S7.out.keep hb8)
    clear hb8 x20 x21 x30 x31 S7
    obtain ⟨x40, x41, _, _, _⟩ := S8.out.x4
    go_wp2_with (first | (go_at_call 37; (with_reducible refine (HOi.out _).mono ?_); rintro e w' ⟨rfl, rfl⟩) | (go_at_call 38; (with_reducible refine (HOs.out _).mono ?_); rintro e w' ⟨rfl, rfl⟩))
    refine (HLs.out w8 a4 n4 c4 S8.out.i4).mono ?_
    rintro e w9 ⟨aM, nM, cM, rfl, ownM, hb9⟩
    have S9 := Lib.hid (S8.out.keep hb9)
    have HM := Lib.hid ownM.reads
    clear hb9 ownM x40 x41 S8
    go_wp2_with fail
    refine (sameInts_yes aL aM nL nM cL cM L L w9 S9.out.l HM.out rfl).mono ?_
    rintro e w10 ⟨rfl, hb10⟩
    have S10 := Lib.hid (S9.out.keep hb10)
    clear hb10 S9 HM
    go_wp2_with fail
    refine (HRi.out w10 aF nF cF S10.out.f).mono ?_
    rintro e w11 ⟨aR, nR, cR, rfl, ownR, hb11⟩
    have S11 := Lib.hid (S10.out.keep hb11)
    have HR := Lib.hid ownR.reads
    clear hb11 ownR S10
    go_wp2_with fail
    refine (HRs.out w11 aF nF cF S11.out.f).mono ?_
    rintro e w12 ⟨aQ, nQ, cQ, rfl, ownQ, hb12⟩
    have S12 := Lib.hid (S11.out.keep hb12)
    have HR2 := Lib.hid (HR.out.keep hb12); have HQ := Lib.hid ownQ.reads
    clear hb12 ownQ S11 HR
    go_wp2_with fail
    refine (sameInts_yes aR aQ nR nQ cR cQ R R w12 HR2.out HQ.out rfl).mono ?_
    rintro e w13 ⟨rfl, hb13⟩
    have SC := Lib.hid (S12.out.keep hb13)
    clear hb13 S12 HR2 HQ
    have hnL7 : nL ≤ 7 := by have := HnL.out; omega
    -- the counts of chains
    go_upto_region 12 with fail
    go_cut [109] (fun v W => v = .bool false ∧ St w G1 p a1 n1 c1 xs G2 P a2 n2 c2 zs G3 a3 n3 c3 G4 q a4 n4 c4 ys aL nL cL L aF nF cF F W)
    case first =>
      have SW := Lib.hid (SC.out.keep (W' := w13.drew) (Below.refl _ _).drew)
      have hcells : w13.cell? ⟨G4, 0, none⟩ = some (.int .i64 q) ∧ w13.cell? ⟨G4, 1, none⟩ = some (.slice a4 n4 c4) := ⟨SC.out.x4.c0, SC.out.x4.c1⟩
      by_cases hL0 : nL = 0
      · subst hL0
        have h00 : decide ((0 : Int) > 0) = false := by simp
        go_quiet (fail)
        all_goals (go_wp2_with fail; go_meet)
        all_goals exact ⟨rfl, SC.out.keep (below_drewN (Below.refl _ _) _)⟩
      · have hLn : 0 < L.length := by have := HnL.out; omega
        obtain ⟨hEu, hsg, hDm, hlen, hFa, hone⟩ := HLk.out hLn
        rw [HnL.out] at hsg hlen hone
        have HEu := Lib.hid hEu; have HDm := Lib.hid hDm; have HFa := Lib.hid hFa
        have HSg : Hid (∀ W, IntsAt W aL nL L → Calls Try.prog 42 #[.slice aL nL cL] W fun e w' => e = .returned (.int .i64 E) ∧ W = w') := Lib.hid fun W hW => by
          rw [← hsg]
          exact signed_any aL nL cL L W hW (by omega) (fun i hi => HLb.out i (by rw [HnL.out]; exact hi))
        have hEE : (E != E) = false := by simp
        have hnn : (((nL : Nat) : Int) != ((nL : Nat) : Int)) = false := by simp
        have hL1 : (0 : Int) < nL := by omega
        have hL2 : 0 < nL := by omega
        have hdv : IntKind.i64.wrap (DV + 2) = (nL : Int) := by rw [← hlen]; exact IntWalk.i64_in _ (by omega)
        by_cases hL3 : 1 < nL
        · obtain ⟨bL, oL, rfl, hcL⟩ := SC.out.l.cells (by omega)
          have hy1 := hcL 1 hL3
          have h1 := hone hL3
          obtain ⟨y, hy⟩ : ∃ y, y = nth L 1 := ⟨_, rfl⟩
          rw [← hy] at hy1 h1
          have Hy := Lib.hid hy
          have hyy : (y != y) = false := by simp
          have hfy : IntKind.i64.wrap ((fs.length : Int) - 1) = y := by rw [h1]; exact IntWalk.i64_in _ (by omega)
          have hL4 : (1 : Int) < nL := by omega
          clear hEu hsg hDm hlen hFa hone hcL h1 hy hEb hDb
          go_region_held3 (fun W => W.cell? ⟨G4, 0, none⟩ = some (.int .i64 q) ∧ W.cell? ⟨G4, 1, none⟩ = some (.slice a4 n4 c4) ∧ W.cell? ⟨bL, oL + 1, none⟩ = some (.int .i64 y)) (first | exact ⟨hcells.1, hcells.2, hy1⟩ | exact ⟨SW.out.x4.c0, SW.out.x4.c1, by have h := SW.out.l.cellAt 1 (by omega); rw [← Hy.out] at h; exact h⟩ | go_keep) (first
            | (go_simp; go_at_call 42; (with_reducible refine (HSg.out _ SW.out.l).mono ?_); rintro e w6 ⟨rfl, rfl⟩)
            | (go_simp; go_at_call 43; (with_reducible refine (HEu.out _ a4 n4 c4 SW.out.i4).mono ?_); rintro e w6 ⟨rfl, hb6⟩; have SW := Lib.hid (SW.out.keep hb6); clear hb6)
            | (go_simp; go_at_call 27; (with_reducible refine (HDm.out _ a4 n4 c4 SW.out.i4).mono ?_); rintro e w6 ⟨rfl, hb6⟩; have SW := Lib.hid (SW.out.keep hb6); clear hb6)
            | (go_simp; go_at_call 44; (with_reducible refine (HFa.out _ a4 n4 c4 SW.out.i4).mono ?_); rintro e w6 ⟨aG, nG, cG, rfl, ownG, hb6⟩; have SW := Lib.hid (SW.out.keep hb6); (obtain rfl : fs.length = nG := ownG.len); clear hb6 ownG))
          all_goals (go_wp2_with fail; go_meet)
          all_goals exact ⟨rfl, SW.out⟩
        · obtain rfl : nL = 1 := by omega
          clear hEu hsg hDm hlen hFa hone hEb hDb
          refine wp_region_held_drew (S := fun W => W.cell? ⟨G4, 0, none⟩ = some (.int .i64 q) ∧ W.cell? ⟨G4, 1, none⟩ = some (.slice a4 n4 c4)) (by kernel_rfl) hcells (fun hHeld => ?_)
          refine wpAnyH_take (i := 0) (oi := { dst := some 77, op := Op.move (Operand.tmp 12), type := 24, pos := "laws.go:1005", after := #[], guard := none }) (v := ?_) rfl (by kernel_rfl) (by kernel_rfl) (by kernel_rfl) (fun _ _ _ h => h) (Or.inl ⟨by rfl, ?_⟩) (by assumption) ?_
          rotate_left
          · intro w hSw
            try dsimp only at hSw
            go_simp
            try (with_reducible rfl)
          try simp only [Act.put, List.setIfInBounds_toArray, List.set_cons_zero, List.set_cons_succ]
          refine wpAnyH_take (i := 1) (oi := { dst := some 78, op := Op.call { callee := Callee.builtin Builtin.len, args := #[Operand.tmp 77], argTypes := #[24] }, type := 3, pos := "laws.go:1005", after := #[{ on := 0, ground := Ground.data }], guard := none }) (v := ?_) rfl (by kernel_rfl) (by kernel_rfl) (by kernel_rfl) (fun _ _ _ h => h) (Or.inl ⟨by rfl, ?_⟩) (by assumption) ?_
          rotate_left
          · intro w hSw
            try dsimp only at hSw
            go_simp
            try (with_reducible rfl)
          try simp only [Act.put, List.setIfInBounds_toArray, List.set_cons_zero, List.set_cons_succ]
          refine wpAnyH_take (i := 2) (oi := { dst := some 79, op := Op.binOp BinOp.gtr 3 (Operand.tmp 78) (Operand.const (Value.int IntKind.i64 0)) 3, type := 4, pos := "laws.go:1005", after := #[{ on := 1, ground := Ground.data }], guard := none }) (v := ?_) rfl (by kernel_rfl) (by kernel_rfl) (by kernel_rfl) (fun _ _ _ h => h) (Or.inl ⟨by rfl, ?_⟩) (by assumption) ?_
          rotate_left
          · intro w hSw
            try dsimp only at hSw
            go_simp
            try (with_reducible rfl)
          try simp only [Act.put, List.setIfInBounds_toArray, List.set_cons_zero, List.set_cons_succ]
          refine wpAnyH_take (i := 3) (oi := { dst := some 80, op := Op.move (Operand.tmp 79), type := 4, pos := "laws.go:1005", after := #[{ on := 2, ground := Ground.data }], guard := none }) (v := ?_) rfl (by kernel_rfl) (by kernel_rfl) (by kernel_rfl) (fun _ _ _ h => h) (Or.inl ⟨by rfl, ?_⟩) (by assumption) ?_
          rotate_left
          · intro w hSw
            try dsimp only at hSw
            go_simp
            try (with_reducible rfl)
          try simp only [Act.put, List.setIfInBounds_toArray, List.set_cons_zero, List.set_cons_succ]
          refine wpAnyH_take (i := 4) (oi := { dst := some 81, op := Op.move (Operand.tmp 12), type := 24, pos := "laws.go:1005", after := #[{ on := 3, ground := Ground.guard }], guard := some (3, true) }) (v := ?_) rfl (by kernel_rfl) (by kernel_rfl) (by kernel_rfl) (fun _ _ _ h => h) (Or.inl ⟨by rfl, ?_⟩) (by assumption) ?_
          rotate_left
          · intro w hSw
            try dsimp only at hSw
            go_simp
            try (with_reducible rfl)
          try simp only [Act.put, List.setIfInBounds_toArray, List.set_cons_zero, List.set_cons_succ]
          refine wpAnyH_take (i := 6) (oi := { dst := some 83, op := Op.load 26 (Operand.tmp 11), type := 26, pos := "laws.go:1005", after := #[{ on := 3, ground := Ground.guard }], guard := some (3, true) }) (v := ?_) rfl (by kernel_rfl) (by kernel_rfl) (by kernel_rfl) (fun _ _ _ h => h) (Or.inl ⟨by rfl, ?_⟩) (by assumption) ?_
          rotate_left
          · intro w hSw
            try dsimp only at hSw
            go_simp
            try (with_reducible rfl)
          try simp only [Act.put, List.setIfInBounds_toArray, List.set_cons_zero, List.set_cons_succ]
          refine wpAnyH_ready (rs := [5]) (by kernel_rfl) (by simp) ?_
          refine AllReadyH.cons (o := { dst := some 82, op := Op.call { callee := Callee.value (Operand.func 42), args := #[Operand.tmp 81], argTypes := #[24] }, type := 3, pos := "laws.go:1005", after := #[{ on := 4, ground := Ground.data }, { on := 3, ground := Ground.chain }, { on := 3, ground := Ground.guard }], guard := some (3, true) }) rfl (fun K hK => ?_) ?_
          · go_simp
            go_simp; go_at_call 42; (with_reducible refine (HSg.out _ SW.out.l).mono ?_); rintro e w6 ⟨rfl, rfl⟩
            try (go_wp2_with fail)
            refine hK.out _ _ ?_ (fun hHeld => ?_)
            · exact ⟨SW.out.x4.c0, SW.out.x4.c1⟩
            clear hK K
            try simp only [Act.put, List.setIfInBounds_toArray, List.set_cons_zero, List.set_cons_succ]
            refine wpAnyH_ready (rs := [7]) (by kernel_rfl) (by simp) ?_
            refine AllReadyH.cons (o := { dst := some 84, op := Op.call { callee := Callee.value (Operand.func 43), args := #[Operand.tmp 83], argTypes := #[26] }, type := 3, pos := "laws.go:1005", after := #[{ on := 6, ground := Ground.data }, { on := 5, ground := Ground.chain }, { on := 3, ground := Ground.guard }], guard := some (3, true) }) rfl (fun K hK => ?_) ?_
            · go_simp
              go_simp; go_at_call 43; (with_reducible refine (HEu.out _ a4 n4 c4 SW.out.i4).mono ?_); rintro e w6 ⟨rfl, hb6⟩; have SW := Lib.hid (SW.out.keep hb6); clear hb6
              try (go_wp2_with fail)
              refine hK.out _ _ ?_ (fun hHeld => ?_)
              · exact ⟨SW.out.x4.c0, SW.out.x4.c1⟩
              clear hK K
              try simp only [Act.put, List.setIfInBounds_toArray, List.set_cons_zero, List.set_cons_succ]
              refine wpAnyH_take (i := 8) (oi := { dst := some 85, op := Op.binOp BinOp.neq 3 (Operand.tmp 82) (Operand.tmp 84) 3, type := 4, pos := "laws.go:1005", after := #[{ on := 5, ground := Ground.data }, { on := 7, ground := Ground.data }, { on := 3, ground := Ground.guard }], guard := some (3, true) }) (v := ?_) rfl (by kernel_rfl) (by kernel_rfl) (by kernel_rfl) (fun _ _ _ h => h) (Or.inl ⟨by rfl, ?_⟩) (by assumption) ?_
              rotate_left
              · intro w hSw
                try dsimp only at hSw
                go_simp
                try (with_reducible rfl)
              try simp only [Act.put, List.setIfInBounds_toArray, List.set_cons_zero, List.set_cons_succ]
              refine wpAnyH_take (i := 9) (oi := { dst := some 86, op := Op.move (Operand.tmp 85), type := 4, pos := "laws.go:1005", after := #[{ on := 8, ground := Ground.data }, { on := 7, ground := Ground.chain }, { on := 3, ground := Ground.guard }], guard := some (3, true) }) (v := ?_) rfl (by kernel_rfl) (by kernel_rfl) (by kernel_rfl) (fun _ _ _ h => h) (Or.inl ⟨by rfl, ?_⟩) (by assumption) ?_
              rotate_left
              · intro w hSw
                try dsimp only at hSw
                go_simp
                try (with_reducible rfl)
              try simp only [Act.put, List.setIfInBounds_toArray, List.set_cons_zero, List.set_cons_succ]
              refine wpAnyH_take (i := 10) (oi := { dst := some 87, op := Op.move (Operand.tmp 12), type := 24, pos := "laws.go:1005", after := #[{ on := 9, ground := Ground.guard }], guard := some (9, false) }) (v := ?_) rfl (by kernel_rfl) (by kernel_rfl) (by kernel_rfl) (fun _ _ _ h => h) (Or.inl ⟨by rfl, ?_⟩) (by assumption) ?_
              rotate_left
              · intro w hSw
                try dsimp only at hSw
                go_simp
                try (with_reducible rfl)
              try simp only [Act.put, List.setIfInBounds_toArray, List.set_cons_zero, List.set_cons_succ]
              refine wpAnyH_take (i := 11) (oi := { dst := some 88, op := Op.call { callee := Callee.builtin Builtin.len, args := #[Operand.tmp 87], argTypes := #[24] }, type := 3, pos := "laws.go:1005", after := #[{ on := 10, ground := Ground.data }, { on := 9, ground := Ground.guard }], guard := some (9, false) }) (v := ?_) rfl (by kernel_rfl) (by kernel_rfl) (by kernel_rfl) (fun _ _ _ h => h) (Or.inl ⟨by rfl, ?_⟩) (by assumption) ?_
              rotate_left
              · intro w hSw
                try dsimp only at hSw
                go_simp
                try (with_reducible rfl)
              try simp only [Act.put, List.setIfInBounds_toArray, List.set_cons_zero, List.set_cons_succ]
              refine wpAnyH_take (i := 12) (oi := { dst := some 89, op := Op.load 26 (Operand.tmp 11), type := 26, pos := "laws.go:1005", after := #[{ on := 9, ground := Ground.guard }], guard := some (9, false) }) (v := ?_) rfl (by kernel_rfl) (by kernel_rfl) (by kernel_rfl) (fun _ _ _ h => h) (Or.inl ⟨by rfl, ?_⟩) (by assumption) ?_
              rotate_left
              · intro w hSw
                try dsimp only at hSw
                go_simp
                try (with_reducible rfl)
              try simp only [Act.put, List.setIfInBounds_toArray, List.set_cons_zero, List.set_cons_succ]
              refine wpAnyH_ready (rs := [13]) (by kernel_rfl) (by simp) ?_
              refine AllReadyH.cons (o := { dst := some 90, op := Op.call { callee := Callee.value (Operand.func 27), args := #[Operand.tmp 89], argTypes := #[26] }, type := 3, pos := "laws.go:1005", after := #[{ on := 12, ground := Ground.data }, { on := 9, ground := Ground.chain }, { on := 9, ground := Ground.guard }], guard := some (9, false) }) rfl (fun K hK => ?_) ?_
              · go_simp
                go_simp; go_at_call 27; (with_reducible refine (HDm.out _ a4 n4 c4 SW.out.i4).mono ?_); rintro e w6 ⟨rfl, hb6⟩; have SW := Lib.hid (SW.out.keep hb6); clear hb6
                try (go_wp2_with fail)
                refine hK.out _ _ ?_ (fun hHeld => ?_)
                · exact ⟨SW.out.x4.c0, SW.out.x4.c1⟩
                clear hK K
                try simp only [Act.put, List.setIfInBounds_toArray, List.set_cons_zero, List.set_cons_succ]
                refine wpAnyH_take (i := 14) (oi := { dst := some 91, op := Op.binOp BinOp.add 3 (Operand.tmp 90) (Operand.const (Value.int IntKind.i64 2)) 3, type := 3, pos := "laws.go:1005", after := #[{ on := 13, ground := Ground.data }, { on := 9, ground := Ground.guard }], guard := some (9, false) }) (v := ?_) rfl (by kernel_rfl) (by kernel_rfl) (by kernel_rfl) (fun _ _ _ h => h) (Or.inl ⟨by rfl, ?_⟩) (by assumption) ?_
                rotate_left
                · intro w hSw
                  try dsimp only at hSw
                  go_simp
                  try (with_reducible rfl)
                try simp only [Act.put, List.setIfInBounds_toArray, List.set_cons_zero, List.set_cons_succ]
                refine wpAnyH_take (i := 15) (oi := { dst := some 92, op := Op.binOp BinOp.neq 3 (Operand.tmp 88) (Operand.tmp 91) 3, type := 4, pos := "laws.go:1005", after := #[{ on := 11, ground := Ground.data }, { on := 14, ground := Ground.data }, { on := 9, ground := Ground.guard }], guard := some (9, false) }) (v := ?_) rfl (by kernel_rfl) (by kernel_rfl) (by kernel_rfl) (fun _ _ _ h => h) (Or.inl ⟨by rfl, ?_⟩) (by assumption) ?_
                rotate_left
                · intro w hSw
                  try dsimp only at hSw
                  go_simp
                  try (with_reducible rfl)
                try simp only [Act.put, List.setIfInBounds_toArray, List.set_cons_zero, List.set_cons_succ]
                refine wpAnyH_take (i := 16) (oi := { dst := some 93, op := Op.pick (Operand.tmp 86) (Operand.const (Value.bool true)) (Operand.tmp 92), type := 4, pos := "laws.go:1005", after := #[{ on := 9, ground := Ground.data }, { on := 15, ground := Ground.data }, { on := 3, ground := Ground.guard }], guard := some (3, true) }) (v := ?_) rfl (by kernel_rfl) (by kernel_rfl) (by kernel_rfl) (fun _ _ _ h => h) (Or.inl ⟨by rfl, ?_⟩) (by assumption) ?_
                rotate_left
                · intro w hSw
                  try dsimp only at hSw
                  go_simp
                  try (with_reducible rfl)
                try simp only [Act.put, List.setIfInBounds_toArray, List.set_cons_zero, List.set_cons_succ]
                refine wpAnyH_take (i := 17) (oi := { dst := some 94, op := Op.move (Operand.tmp 93), type := 4, pos := "laws.go:1005", after := #[{ on := 16, ground := Ground.data }, { on := 13, ground := Ground.chain }, { on := 3, ground := Ground.guard }], guard := some (3, true) }) (v := ?_) rfl (by kernel_rfl) (by kernel_rfl) (by kernel_rfl) (fun _ _ _ h => h) (Or.inl ⟨by rfl, ?_⟩) (by assumption) ?_
                rotate_left
                · intro w hSw
                  try dsimp only at hSw
                  go_simp
                  try (with_reducible rfl)
                try simp only [Act.put, List.setIfInBounds_toArray, List.set_cons_zero, List.set_cons_succ]
                refine wpAnyH_take (i := 18) (oi := { dst := some 95, op := Op.move (Operand.tmp 12), type := 24, pos := "laws.go:1005", after := #[{ on := 17, ground := Ground.guard }], guard := some (17, false) }) (v := ?_) rfl (by kernel_rfl) (by kernel_rfl) (by kernel_rfl) (fun _ _ _ h => h) (Or.inl ⟨by rfl, ?_⟩) (by assumption) ?_
                rotate_left
                · intro w hSw
                  try dsimp only at hSw
                  go_simp
                  try (with_reducible rfl)
                try simp only [Act.put, List.setIfInBounds_toArray, List.set_cons_zero, List.set_cons_succ]
                refine wpAnyH_take (i := 19) (oi := { dst := some 96, op := Op.call { callee := Callee.builtin Builtin.len, args := #[Operand.tmp 95], argTypes := #[24] }, type := 3, pos := "laws.go:1005", after := #[{ on := 18, ground := Ground.data }, { on := 17, ground := Ground.guard }], guard := some (17, false) }) (v := ?_) rfl (by kernel_rfl) (by kernel_rfl) (by kernel_rfl) (fun _ _ _ h => h) (Or.inl ⟨by rfl, ?_⟩) (by assumption) ?_
                rotate_left
                · intro w hSw
                  try dsimp only at hSw
                  go_simp
                  try (with_reducible rfl)
                try simp only [Act.put, List.setIfInBounds_toArray, List.set_cons_zero, List.set_cons_succ]
                refine wpAnyH_take (i := 20) (oi := { dst := some 97, op := Op.binOp BinOp.gtr 3 (Operand.tmp 96) (Operand.const (Value.int IntKind.i64 1)) 3, type := 4, pos := "laws.go:1005", after := #[{ on := 19, ground := Ground.data }, { on := 17, ground := Ground.guard }], guard := some (17, false) }) (v := ?_) rfl (by kernel_rfl) (by kernel_rfl) (by kernel_rfl) (fun _ _ _ h => h) (Or.inl ⟨by rfl, ?_⟩) (by assumption) ?_
                rotate_left
                · intro w hSw
                  try dsimp only at hSw
                  go_simp
                  try (with_reducible rfl)
                try simp only [Act.put, List.setIfInBounds_toArray, List.set_cons_zero, List.set_cons_succ]
                refine wpAnyH_take (i := 21) (oi := { dst := some 98, op := Op.move (Operand.tmp 97), type := 4, pos := "laws.go:1005", after := #[{ on := 20, ground := Ground.data }, { on := 17, ground := Ground.chain }, { on := 17, ground := Ground.guard }], guard := some (17, false) }) (v := ?_) rfl (by kernel_rfl) (by kernel_rfl) (by kernel_rfl) (fun _ _ _ h => h) (Or.inl ⟨by rfl, ?_⟩) (by assumption) ?_
                rotate_left
                · intro w hSw
                  try dsimp only at hSw
                  go_simp
                  try (with_reducible rfl)
                try simp only [Act.put, List.setIfInBounds_toArray, List.set_cons_zero, List.set_cons_succ]
                refine wpAnyH_take (i := 22) (oi := { dst := some 99, op := Op.move (Operand.tmp 12), type := 24, pos := "laws.go:1005", after := #[{ on := 21, ground := Ground.guard }], guard := some (21, true) }) (v := undef) rfl (by kernel_rfl) (by kernel_rfl) (by kernel_rfl) (fun _ _ _ h => h) (Or.inr ⟨by rfl, rfl⟩) (by assumption) ?_
                try simp only [Act.put, List.setIfInBounds_toArray, List.set_cons_zero, List.set_cons_succ]
                refine wpAnyH_take (i := 23) (oi := { dst := some 100, op := Op.indexAddr 24 (Operand.tmp 99) (Operand.const (Value.int IntKind.i64 1)), type := 0, pos := "laws.go:1005", after := #[{ on := 22, ground := Ground.data }, { on := 21, ground := Ground.guard }], guard := some (21, true) }) (v := undef) rfl (by kernel_rfl) (by kernel_rfl) (by kernel_rfl) (fun _ _ _ h => h) (Or.inr ⟨by rfl, rfl⟩) (by assumption) ?_
                try simp only [Act.put, List.setIfInBounds_toArray, List.set_cons_zero, List.set_cons_succ]
                refine wpAnyH_take (i := 24) (oi := { dst := some 101, op := Op.load 3 (Operand.tmp 100), type := 3, pos := "laws.go:1005", after := #[{ on := 23, ground := Ground.data }, { on := 21, ground := Ground.guard }], guard := some (21, true) }) (v := undef) rfl (by kernel_rfl) (by kernel_rfl) (by kernel_rfl) (fun _ _ _ h => h) (Or.inr ⟨by rfl, rfl⟩) (by assumption) ?_
                try simp only [Act.put, List.setIfInBounds_toArray, List.set_cons_zero, List.set_cons_succ]
                refine wpAnyH_take (i := 25) (oi := { dst := some 102, op := Op.load 26 (Operand.tmp 11), type := 26, pos := "laws.go:1005", after := #[{ on := 21, ground := Ground.guard }], guard := some (21, true) }) (v := undef) rfl (by kernel_rfl) (by kernel_rfl) (by kernel_rfl) (fun _ _ _ h => h) (Or.inr ⟨by rfl, rfl⟩) (by assumption) ?_
                try simp only [Act.put, List.setIfInBounds_toArray, List.set_cons_zero, List.set_cons_succ]
                refine wpAnyH_take (i := 26) (oi := { dst := some 103, op := Op.call { callee := Callee.value (Operand.func 44), args := #[Operand.tmp 102], argTypes := #[26] }, type := 24, pos := "laws.go:1005", after := #[{ on := 25, ground := Ground.data }, { on := 21, ground := Ground.chain }, { on := 21, ground := Ground.guard }], guard := some (21, true) }) (v := undef) rfl (by kernel_rfl) (by kernel_rfl) (by kernel_rfl) (fun _ _ _ h => h) (Or.inr ⟨by rfl, rfl⟩) (by assumption) ?_
                try simp only [Act.put, List.setIfInBounds_toArray, List.set_cons_zero, List.set_cons_succ]
                refine wpAnyH_take (i := 27) (oi := { dst := some 104, op := Op.call { callee := Callee.builtin Builtin.len, args := #[Operand.tmp 103], argTypes := #[24] }, type := 3, pos := "laws.go:1005", after := #[{ on := 26, ground := Ground.data }, { on := 21, ground := Ground.guard }], guard := some (21, true) }) (v := undef) rfl (by kernel_rfl) (by kernel_rfl) (by kernel_rfl) (fun _ _ _ h => h) (Or.inr ⟨by rfl, rfl⟩) (by assumption) ?_
                try simp only [Act.put, List.setIfInBounds_toArray, List.set_cons_zero, List.set_cons_succ]
                refine wpAnyH_take (i := 28) (oi := { dst := some 105, op := Op.binOp BinOp.sub 3 (Operand.tmp 104) (Operand.const (Value.int IntKind.i64 1)) 3, type := 3, pos := "laws.go:1005", after := #[{ on := 27, ground := Ground.data }, { on := 21, ground := Ground.guard }], guard := some (21, true) }) (v := undef) rfl (by kernel_rfl) (by kernel_rfl) (by kernel_rfl) (fun _ _ _ h => h) (Or.inr ⟨by rfl, rfl⟩) (by assumption) ?_
                try simp only [Act.put, List.setIfInBounds_toArray, List.set_cons_zero, List.set_cons_succ]
                refine wpAnyH_take (i := 29) (oi := { dst := some 106, op := Op.binOp BinOp.neq 3 (Operand.tmp 101) (Operand.tmp 105) 3, type := 4, pos := "laws.go:1005", after := #[{ on := 24, ground := Ground.data }, { on := 28, ground := Ground.data }, { on := 21, ground := Ground.guard }], guard := some (21, true) }) (v := undef) rfl (by kernel_rfl) (by kernel_rfl) (by kernel_rfl) (fun _ _ _ h => h) (Or.inr ⟨by rfl, rfl⟩) (by assumption) ?_
                try simp only [Act.put, List.setIfInBounds_toArray, List.set_cons_zero, List.set_cons_succ]
                refine wpAnyH_take (i := 30) (oi := { dst := some 107, op := Op.pick (Operand.tmp 98) (Operand.tmp 106) (Operand.const (Value.bool false)), type := 4, pos := "laws.go:1005", after := #[{ on := 21, ground := Ground.data }, { on := 29, ground := Ground.data }, { on := 17, ground := Ground.guard }], guard := some (17, false) }) (v := ?_) rfl (by kernel_rfl) (by kernel_rfl) (by kernel_rfl) (fun _ _ _ h => h) (Or.inl ⟨by rfl, ?_⟩) (by assumption) ?_
                rotate_left
                · intro w hSw
                  try dsimp only at hSw
                  go_simp
                  try (with_reducible rfl)
                try simp only [Act.put, List.setIfInBounds_toArray, List.set_cons_zero, List.set_cons_succ]
                refine wpAnyH_take (i := 31) (oi := { dst := some 108, op := Op.pick (Operand.tmp 94) (Operand.const (Value.bool true)) (Operand.tmp 107), type := 4, pos := "laws.go:1005", after := #[{ on := 17, ground := Ground.data }, { on := 30, ground := Ground.data }, { on := 3, ground := Ground.guard }], guard := some (3, true) }) (v := ?_) rfl (by kernel_rfl) (by kernel_rfl) (by kernel_rfl) (fun _ _ _ h => h) (Or.inl ⟨by rfl, ?_⟩) (by assumption) ?_
                rotate_left
                · intro w hSw
                  try dsimp only at hSw
                  go_simp
                  try (with_reducible rfl)
                try simp only [Act.put, List.setIfInBounds_toArray, List.set_cons_zero, List.set_cons_succ]
                refine wpAnyH_take (i := 32) (oi := { dst := some 109, op := Op.pick (Operand.tmp 80) (Operand.tmp 108) (Operand.const (Value.bool false)), type := 4, pos := "laws.go:1005", after := #[{ on := 3, ground := Ground.data }, { on := 31, ground := Ground.data }], guard := none }) (v := ?_) rfl (by kernel_rfl) (by kernel_rfl) (by kernel_rfl) (fun _ _ _ h => h) (Or.inl ⟨by rfl, ?_⟩) (by assumption) ?_
                rotate_left
                · intro w hSw
                  try dsimp only at hSw
                  go_simp
                  try (with_reducible rfl)
                try simp only [Act.put, List.setIfInBounds_toArray, List.set_cons_zero, List.set_cons_succ]
                refine wpAnyH_done (by kernel_rfl) ?_ _
                go_wp2_with fail
                go_meet
                exact ⟨rfl, SW.out⟩
              · exact AllReadyH.nil
            · exact AllReadyH.nil
          · exact AllReadyH.nil
    case rest =>
      obtain ⟨rfl, hst⟩ := hcut
      have SD := Lib.hid hst
      clear hst SC HLs HRs HRi HLk HLb hEb hDb
      clear hbb hoo HOi HOs HnL hL7 hfs hF7 hnL7
      go_upto_region 14 with fail
      go_cut [140] (fun v W => v = .bool false ∧ W = wc)
      case first =>
        by_cases hN1' : 1 ≤ N
        · by_cases hN6 : N ≤ 6
          · by_cases hK1' : 1 ≤ K
            · by_cases hK6 : K ≤ 6
              · have hrec := onto_rec ⟨hN1', hN6⟩ ⟨hK1', hK6⟩
                have h1 := onto_le (N + 1) K; have h2 := onto_le N K; have h3 := onto_le N (K - 1)
                have HO1 : Hid (∀ W, Calls Try.prog 37 #[.int .i64 (N + 1), .int .i64 K] W fun e w' => e = .returned (.int .i64 ((onto (N + 1) K : Nat) : Int)) ∧ W = w') := Lib.hid fun W => iOnto_any (N + 1) K W
                have HO2 : Hid (∀ W, Calls Try.prog 37 #[.int .i64 N, .int .i64 K] W fun e w' => e = .returned (.int .i64 ((onto N K : Nat) : Int)) ∧ W = w') := Lib.hid fun W => iOnto_any N K W
                have HO3 : Hid (∀ W, Calls Try.prog 37 #[.int .i64 N, .int .i64 (K - 1)] W fun e w' => e = .returned (.int .i64 ((onto N (K - 1) : Nat) : Int)) ∧ W = w') := Lib.hid fun W => iOnto_any N (K - 1) W
                obtain ⟨o1, e1⟩ : ∃ o1, o1 = onto (N + 1) K := ⟨_, rfl⟩
                obtain ⟨o2, e2⟩ : ∃ o2, o2 = onto N K := ⟨_, rfl⟩
                obtain ⟨o3, e3⟩ : ∃ o3, o3 = onto N (K - 1) := ⟨_, rfl⟩
                rw [← e1] at hrec h1 HO1
                rw [← e2] at hrec h2 HO2
                rw [← e3] at hrec h3 HO3
                clear e1 e2 e3
                have hw : wrap64 (K * ((o2 : Int) + (o3 : Int))) = (o1 : Int) := by
                  rw [← hrec]; exact IntWalk.wrap64_in _ (by omega)
                have hoo : ((o1 : Int) != (o1 : Int)) = false := by simp
                clear hrec
                go_wp2_with (first | (go_at_call 37; (with_reducible refine (HO1.out _).mono ?_); rintro e w' ⟨rfl, rfl⟩) | (go_at_call 37; (with_reducible refine (HO2.out _).mono ?_); rintro e w' ⟨rfl, rfl⟩) | (go_at_call 37; (with_reducible refine (HO3.out _).mono ?_); rintro e w' ⟨rfl, rfl⟩))
                go_meet
                exact ⟨rfl, rfl⟩
              · go_wp2_with fail
                go_meet
                exact ⟨rfl, rfl⟩
            · go_wp2_with fail
              go_meet
              exact ⟨rfl, rfl⟩
          · go_wp2_with fail
            go_meet
            exact ⟨rfl, rfl⟩
        · go_wp2_with fail
          go_meet
          exact ⟨rfl, rfl⟩
      case rest =>
        obtain ⟨rfl, hwc⟩ := hcut
        subst hwc
        cases b
        · go_upto_region 16 with fail
          go_quiet (fail)
          go_wp2_with fail
          go_ret
          exact ⟨rfl, (SD.out.keep (below_drewN (Below.refl _ _) _)).below⟩
        · obtain ⟨H2, H3, B, h2c, h2x, h3c, h3x, hpc, hpx⟩ := HDk.out rfl
          have H2c := Lib.hid h2c; have H2x := Lib.hid h2x; have H3c := Lib.hid h3c; have H3x := Lib.hid h3x; have HPc := Lib.hid hpc; have HPx := Lib.hid hpx
          clear h2c h2x h3c h3x hpc hpx HDk
          have hBB : (B == B) = true := by cases B <;> rfl
          obtain ⟨we, hwe⟩ : ∃ we, we = wc := ⟨_, rfl⟩
          have SW := Lib.hid (SD.out.keep (W' := wc.drew) (Below.refl _ _).drew)
          have hcells : wc.cell? ⟨G2, 0, none⟩ = some (.int .i64 P) ∧ wc.cell? ⟨G2, 1, none⟩ = some (.slice a2 n2 c2) ∧ wc.cell? ⟨G1, 0, none⟩ = some (.int .i64 p) ∧ wc.cell? ⟨G1, 1, none⟩ = some (.slice a1 n1 c1) := ⟨SD.out.x2.c0, SD.out.x2.c1, SD.out.x1.c0, SD.out.x1.c1⟩
          clear hwe we
          go_upto_region 16 with fail
          go_region_held3 (fun W => W.cell? ⟨G2, 0, none⟩ = some (.int .i64 P) ∧ W.cell? ⟨G2, 1, none⟩ = some (.slice a2 n2 c2) ∧ W.cell? ⟨G1, 0, none⟩ = some (.int .i64 p) ∧ W.cell? ⟨G1, 1, none⟩ = some (.slice a1 n1 c1)) (first | exact hcells | exact ⟨SW.out.x2.c0, SW.out.x2.c1, SW.out.x1.c0, SW.out.x1.c1⟩ | go_keep) (first
            | (go_simp; go_at_call 45; (with_reducible refine (H2x.out _ a2 n2 c2 SW.out.i2).mono ?_); rintro e w6 ⟨aA, nA, cA, rfl, ownA, hb6⟩; have SW := Lib.hid (SW.out.keep hb6); have HA := Lib.hid ownA.reads; clear hb6 ownA)
            | (go_simp; go_at_call 45; (with_reducible refine (H2c.out _ a1 n1 c1 SW.out.i1).mono ?_); rintro e w6 ⟨aB, nB, cB, rfl, ownB, hb6⟩; have SW := Lib.hid (SW.out.keep hb6); have HA := Lib.hid (HA.out.keep hb6); have HB := Lib.hid ownB.reads; clear hb6 ownB)
            | (go_simp; go_at_call 14; (with_reducible refine (sameInts_yes aA aB nA nB cA cB H2 H2 _ HA.out HB.out rfl).mono ?_); rintro e w6 ⟨rfl, hb6⟩; have SW := Lib.hid (SW.out.keep hb6); clear hb6)
            | (go_simp; go_at_call 45; (with_reducible refine (H3x.out _ a2 n2 c2 SW.out.i2).mono ?_); rintro e w6 ⟨aC, nC, cC, rfl, ownC, hb6⟩; have SW := Lib.hid (SW.out.keep hb6); have HC := Lib.hid ownC.reads; clear hb6 ownC)
            | (go_simp; go_at_call 45; (with_reducible refine (H3c.out _ a1 n1 c1 SW.out.i1).mono ?_); rintro e w6 ⟨aE, nE, cE, rfl, ownE, hb6⟩; have SW := Lib.hid (SW.out.keep hb6); have HC := Lib.hid (HC.out.keep hb6); have HE := Lib.hid ownE.reads; clear hb6 ownE)
            | (go_simp; go_at_call 14; (with_reducible refine (sameInts_yes aC aE nC nE cC cE H3 H3 _ HC.out HE.out rfl).mono ?_); rintro e w6 ⟨rfl, hb6⟩; have SW := Lib.hid (SW.out.keep hb6); clear hb6)
            | (go_simp; go_at_call 46; (with_reducible refine (HPx.out _ a2 n2 c2 SW.out.i2).mono ?_); rintro e w6 ⟨rfl, hb6⟩; have SW := Lib.hid (SW.out.keep hb6); clear hb6)
            | (go_simp; go_at_call 46; (with_reducible refine (HPc.out _ a1 n1 c1 SW.out.i1).mono ?_); rintro e w6 ⟨rfl, hb6⟩; have SW := Lib.hid (SW.out.keep hb6); clear hb6))
          all_goals (
            go_wp2_with fail
            go_ret
            exact ⟨rfl, SW.out.below⟩)
  · have hnn : 1048576 < n := by omega
    go_enter Try.func4, Try.ntmps4
    go_wp2_with (go_at_call 6; (with_reducible refine (big_yes ad n c _ hnn hnm).mono ?_); rintro e w' ⟨rfl, rfl⟩)
    go_ret
    exact ⟨rfl, Below.refl _ _⟩

set_option maxRecDepth 100000 in
theorem lifted (os : Os) (started : os.Started) (H : Type) (enc : TypeId × Value → H) :
    ReturnsInHanded {} Try.checked os 4 .any (Rows.fnDividedSpec.pre6 enc Try.prog Try.f4 Rows.fnDividedRow.domain false) (Rows.fnDividedSpec.post enc Try.prog Try.f4 false true false false) := by
  refine returnsInHanded_of_change (C := Try.checked) own started (by kernel_rfl) Try.func4
    (ChangeSpec.witness6 (enc := enc) (C := Try.checked) false ⟨#[], #[.slice none 0 0], []⟩ 8 (by kernel_rfl) (by kernel_rfl) (by kernel_rfl) (by kernel_rfl)) ?_
  intro W base args ds gs before hval0 hW hcnd _
  have hval : ∀ (j : Nat) t v, Try.f4.params[j]? = some t → args[j]? = some v → Value.okWide Try.prog W .any base t v := hval0
  have hW2 := hW
  obtain ⟨p, q, hA0, hV, hpq, hfz, hnd⟩ := hW
  have hA : DataW.TrodAll enc Try.prog W 0 (fun _ => true) true Try.f4.params.toList args.toList ds p := hA0
  rw [Try.params4] at hA hval
  obtain ⟨v0, vs0, d0, ds0, p0, q0, hargs, rfl, hp0, h0, r0⟩ := trodAll_cons hA
  obtain ⟨rfl, rfl, _⟩ := trodAll_nil r0
  obtain rfl : args = #[v0] := by cases args; simp_all
  have hgs : gs = [] := (trodVars_none hV).1
  subst hgs
  obtain ⟨ad0, n0, c0, rfl⟩ := okWide_slice Try.underlying22 (hval 0 22 v0 rfl rfl)
  obtain ⟨fuel0, hf0⟩ := h0
  obtain ⟨ad0, n0, c0, e0, hs0⟩ := open_code hf0
  rw [e0]
  rw [e0] at hW2
  refine (walk W ad0 n0 c0 hs0).mono fun e W2 ⟨he, hb⟩ => ?_
  subst he
  exact ⟨_, rfl, law_post rfl hW2 (by kernel_rfl) rfl rfl rfl rfl hb⟩

theorem over : Rows.fnDividedRow.holds Try.pinned (OpenSpec.ofChange Rows.fnDividedSpec) :=
  OpenClaim.holds_of_wide 4 Try.f4 rfl rfl rfl rfl rfl rfl rfl ⟨rfl, rfl, rfl, rfl, rfl⟩ rfl rfl rfl rfl rfl (by kernel_rfl) Try.func4 (by kernel_rfl)
    (of_decide_eq_true (by kernel_rfl)) (by unfold Func.isWrapper; first | (rw [if_pos (by decide +kernel)]; kernel_rfl) | (rw [if_neg (by decide +kernel)]; exact ⟨rfl, rfl⟩))
    (fun os started H enc _ => lifted os started H enc)

/-- THE STATEMENT -/
theorem proved : Rows.FnDividedSaid := over
end Go.Proofs.Ytbdnlncpamandaa.lawFnDivided

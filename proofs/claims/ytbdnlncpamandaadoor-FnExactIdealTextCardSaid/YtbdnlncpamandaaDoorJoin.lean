/- Join of the reference, and SetsText of both. -/
import Derived.Lib.Join
import Derived.Test.YtbdnlncpamandaaDoorCore
import Derived.Test.YtbdnlncpamandaaDoorStrB
namespace Go.Proofs.YtbdnlncpamandaaDoor
set_option maxRecDepth 20000
open Go.RowKit
set_option linter.unusedSimpArgs false
set_option linter.unusedVariables false

theorem ap_text {ops : Array Oper} {rest : List Oper} {o : Oper} {a : Act} {Q : Exit → Act → World → Prop} {W : World} (hgd : o.guard = none) (s x : Operand)
    (ho : o.op = .call { callee := .builtin .append, args := #[s, x], argTypes := #[46, 9] })
    (B g n c : Nat) (l : List UInt8) (t : ByteArray) (hs : a.eval s = .slice (some ⟨g, 0, none⟩) n c) (hown : Row 5 W B (some ⟨g, 0, none⟩) n c (bval l))
    (hx : a.eval x = .string t) (hn : n + t.size < 1099511627776) (hB : B ≤ W.heap.size)
    (h : ∀ g' c' w', Row 5 w' B (some ⟨g', 0, none⟩) (n + t.size) c' (bval (l ++ t.data.toList)) → Below B W w' → wpList Tryd.prog ops Q rest (a.put o.dst (.slice (some ⟨g', 0, none⟩) (n + t.size : Nat) c')) w') :
    wpList Tryd.prog ops Q (o :: rest) a W := by
  refine wpList_plain hgd fun K hK => ?_
  obtain ⟨g', c', w', hr, h1, h2⟩ := run_ap_text B o.type g n c l hown t hn hB
  unfold Oper.wp execOp
  simp only [ho, resolve, invoke, builtin, Sem.run_bind, Sem.run_pure, Result.andThen_ok, List.map_toArray, List.map_cons, List.map_nil, hs, hx, hr]
  exact hK _ _ (h _ _ _ h1 h2)
theorem strs_at {w : World} {B : Nat} {a : Option Addr} {n c : Nat} {S : List ByteArray} (h : Row 9 w B a n c (S.map Value.string)) {i : Nat} (hi : i < n) :
    ∃ g, ∃ h : i < S.length, a = some ⟨g, 0, none⟩ ∧ w.cell? ⟨g, i, none⟩ = some (.string S[i]) := by
  obtain ⟨g, hg, _, _, hc, _⟩ := h.cells (by omega)
  have hl : S.length = n := by have := h.len; simpa using this
  refine ⟨g, by omega, hg, ?_⟩
  rw [hc i hi, List.getElem?_map, List.getElem?_eq_getElem (by omega)]; rfl
/-- the texts with commas between -/
def comma (L : List (List UInt8)) : List UInt8 := Lib.join L [44]
theorem comma_snoc {L : List (List UInt8)} (hL : L ≠ []) (x : List UInt8) : comma (L ++ [x]) = comma L ++ [44] ++ x := by
  cases L with
  | nil => exact absurd rfl hL
  | cons y r =>
    unfold comma
    rw [List.cons_append, Lib.join_cons, Lib.join_cons]
    unfold Lib.joinTail
    simp [List.append_assoc]
theorem comma_one (x : List UInt8) : comma [x] = x := Lib.join_one x _

set_option maxHeartbeats 400000 in
theorem sJoin_any (a : Option Addr) (n c B : Nat) (S : List ByteArray) (w : World) (h : Row 9 w B a n c (S.map Value.string)) (hn : n ≤ 1000) (hS : ∀ s ∈ S, s.size ≤ 6) :
    Calls Tryd.prog 27 #[.slice a n c, .string ⟨#[44]⟩] w fun e w' => e = .returned (.string ⟨(comma (S.map (·.data.toList))).toArray⟩) ∧ Below w.heap.size w w' := by
  have Hh := Lib.hid h
  have hlen : Hid (S.length = n) := Lib.hid (by have := h.len; simpa using this)
  have HS := Lib.hid hS
  have HE : Hid (Row 5 (w.alloc (.cells #[] 5)) w.heap.size (some ⟨w.heap.size, 0, none⟩) 0 0 (bval [])) := Lib.hid ⟨rfl, World.ownsRow_made w #[] 0 (Nat.le_refl _) (by decide) (by simp)⟩
  clear h hS
  go_enter Tryd.func27, Tryd.ntmps27
  go_wp2_with fail
  go_loopw [5, 6] (fun o i wr => ∃ (I g k d : Nat), I ≤ n ∧ i = .int .i64 I ∧ o = .slice (some ⟨g, 0, none⟩) k d ∧ k ≤ 7 * I ∧ Row 5 wr w.heap.size (some ⟨g, 0, none⟩) k d (bval (comma ((S.take I).map (·.data.toList)))) ∧ Below w.heap.size w wr) (fun _ i _ => n - (intOf i).toNat)
  case atStart => exact ⟨0, _, 0, 0, Nat.zero_le _, rfl, rfl, Nat.le_refl _, HE.out, (by repeat (first | exact Below.refl _ _ | assumption | refine Below.setCell ?_ (by first | omega | (simp; done) | (simp; omega)) _ | refine Below.alloc ?_ (by first | omega | (simp; done) | (simp; omega)) _ | apply Below.drew))⟩
  case round =>
    obtain ⟨I, g, k, d, hI, rfl, rfl, hk, hrow, hbr⟩ := hrel
    have HR := Lib.hid hrow; have HBr := Lib.hid hbr
    have hzr : w.heap.size ≤ wr.heap.size := hbr.size
    clear hrow hbr
    by_cases hlt : I < n
    · have hrs : Row 9 wr B a n c (S.map Value.string) := Hh.out.keep HBr.out
      obtain ⟨gp, hIS, hga, hcell⟩ := strs_at hrs hlt
      subst hga
      obtain ⟨x, hx⟩ : ∃ x, x = S[I] := ⟨_, rfl⟩
      rw [← hx] at hcell
      have hx6 : x.size ≤ 6 := by rw [hx]; exact HS.out _ (List.getElem_mem _)
      have htk : (S.take (I + 1)).map (·.data.toList) = (S.take I).map (·.data.toList) ++ [x.data.toList] := by
        rw [List.take_succ_eq_append_getElem hIS, List.map_append, hx]; rfl
      have Htk := Lib.hid htk
      have hIi : (I : Int) < n := by omega
      have Hlow : Hid (gp < w.heap.size) := Lib.hid (Hh.out.lt gp rfl).2
      clear hx htk hrs
      by_cases hI0 : I = 0
      · subst hI0
        have Hc : Hid (comma ((S.take (0 + 1)).map (·.data.toList)) = comma ((S.take 0).map (·.data.toList)) ++ x.data.toList) := Lib.hid (by rw [Htk.out]; simp [comma_one, comma, Lib.join_nil, Lib.join_one])
        go_wp2_with (at_builtin; refine ap_text rfl _ _ rfl w.heap.size _ _ _ _ _ rfl HR.out rfl (by omega) hzr ?_; intro g5 c5 w5 hrow5 hb5; have HR5 := Lib.hid hrow5; have HB5 := Lib.hid (HBr.out.trans hb5); clear hrow5 hb5)
        go_roundw
        case rel => exact ⟨1, g5, k + x.size, c5, by omega, by go_num, rfl, by omega, by rw [show (1 : Nat) = 0 + 1 from rfl, Hc.out]; exact HR5.out, HB5.out⟩
        case measure => simp [intOf]; omega
      · have hIp : (0 : Int) < I := by omega
        have Hc : Hid (comma ((S.take (I + 1)).map (·.data.toList)) = comma ((S.take I).map (·.data.toList)) ++ [44] ++ x.data.toList) := Lib.hid (by
          rw [Htk.out]
          exact comma_snoc (fun e => by have := congrArg List.length e; rw [List.length_map, List.length_take, List.length_nil] at this; omega) _)
        go_wp2_with (first
          | (at_builtin; refine ap_text rfl _ _ rfl w.heap.size _ _ _ _ ⟨#[44]⟩ rfl HR.out rfl (by have : (⟨#[44]⟩ : ByteArray).size = 1 := rfl; omega) hzr ?_; intro g5 c5 w5 hrow5 hb5; have HR5 : Hid (Row 5 w5 w.heap.size (some ⟨g5, 0, none⟩) (k + 1) c5 (bval (comma ((S.take I).map (·.data.toList)) ++ [44]))) := Lib.hid hrow5; have HB5 := Lib.hid (HBr.out.trans hb5); have hz5 : w.heap.size ≤ w5.heap.size := HB5.out.size; have hcell5 : w5.cell? ⟨gp, I, none⟩ = some (.string x) := (hb5.cell (p := ⟨gp, I, none⟩) (Hlow.out)).trans hcell; clear hrow5 hb5)
          | (at_builtin; refine ap_text rfl _ _ rfl w.heap.size _ _ _ _ x rfl HR5.out rfl (by have : (⟨#[44]⟩ : ByteArray).size = 1 := rfl; omega) hz5 ?_; intro g6 c6 w6 hrow6 hb6; have HR6 := Lib.hid hrow6; have HB6 := Lib.hid (HB5.out.trans hb6); clear hrow6 hb6))
        go_roundw
        case rel => exact ⟨I + 1, g6, k + 1 + x.size, c6, by omega, by go_num, rfl, by omega, by rw [Hc.out]; exact HR6.out, HB6.out⟩
        case measure => simp [intOf]; omega
    · obtain rfl : I = n := by omega
      have hIi : ¬ ((I : Int) < I) := by omega
      have hall : S.take I = S := List.take_of_length_le (by rw [hlen.out]; exact Nat.le_refl _)
      have hr := run_str HR.out
      rw [hall] at hr
      clear hall
      go_wp2_with fail
      go_ret
      exact ⟨rfl, HBr.out⟩

/-- the texts of sets, with commas -/
def setsText (l : List Nat) : List UInt8 := comma (l.map setText)
def setBA (s : Nat) : ByteArray := str (setText s)
theorem setBA_list (s : Nat) : (setBA s).data.toList = setText s := by simp [setBA, str]
theorem setBA_size (s : Nat) : (setBA s).size ≤ 6 := by unfold setBA; rw [str_size]; exact setText_len s
theorem setsBA (l : List Nat) : comma ((l.map setBA).map (·.data.toList)) = setsText l := by
  unfold setsText
  rw [List.map_map]
  exact congrArg comma (List.map_congr_left fun s _ => setBA_list s)

theorem infoText : (Tryd.prog.info? 9).map (fun i => (i.zero, i.size, i.bytes)) = some (some (.string ByteArray.empty), 1, 16) := by kernel_rfl
theorem ap_strs {ops : Array Oper} {rest : List Oper} {o : Oper} {a : Act} {Q : Exit → Act → World → Prop} {w0 : World} (hgd : o.guard = none) (s x : Operand)
    (ho : o.op = .call { callee := .builtin .append, args := #[s, x], argTypes := #[42, 42] })
    (B : Nat) (ad : Option Addr) (n c : Nat) (L : List ByteArray) (y : ByteArray) (hs : a.eval s = .slice ad n c) (hown : Row 9 w0 B ad n c (L.map Value.string))
    (hx : a.eval x = .slice (some ⟨w0.heap.size, 0, none⟩) 1 1) (hn : n < 1099511627776) (hB : B ≤ w0.heap.size)
    (h : ∀ ad' c' w', Row 9 w' B ad' (n + 1) c' ((L ++ [y]).map Value.string) → Below B w0 w' → wpList Tryd.prog ops Q rest (a.put o.dst (.slice ad' (n + 1 : Nat) c')) w') :
    wpList Tryd.prog ops Q (o :: rest) a (w0.alloc (.cells #[.string y] 9)) :=
  ap_row Tryd.underlying42 infoText rfl hgd s x ho B ad n c _ _ hs hown hx rfl hn (by omega) hB fun ad' c' w' h1 h2 h3 => h ad' c' w' (by rw [List.map_append]; exact h1) h2

set_option maxHeartbeats 400000 in
theorem sSetsText_any (a : Option Addr) (n c : Nat) (l : List Nat) (w : World) (h : IntsAt w a n (up l)) (hn : n ≤ 1000) (hl : ∀ t ∈ l, t < 64) :
    Calls Tryd.prog 18 #[.slice a n c] w fun e w' => e = .returned (.string (str (setsText l))) ∧ Below w.heap.size w w' := by
  have Hh := Lib.hid h
  have hlen : Hid (l.length = n) := Lib.hid (by have := h.len; rwa [up_len] at this)
  have Hl := Lib.hid hl
  have HE : Hid (Row 9 (w.alloc (.cells #[] 9)) w.heap.size (some ⟨w.heap.size, 0, none⟩) 0 0 (([] : List ByteArray).map Value.string)) := Lib.hid ⟨rfl, World.ownsRow_made w #[] 0 (Nat.le_refl _) (by decide) (by simp)⟩
  clear h hl
  go_enter Tryd.func18, Tryd.ntmps18
  go_wp2_with fail
  go_loopw [3, 4] (fun o i wr => ∃ (I k d : Nat) (ad : Option Addr), I ≤ n ∧ i = .int .i64 I ∧ o = .slice ad k d ∧ k = I ∧ Row 9 wr w.heap.size ad k d (((l.take I).map setBA).map Value.string) ∧ Below w.heap.size w wr) (fun _ i _ => n - (intOf i).toNat)
  case atStart => exact ⟨0, 0, 0, _, Nat.zero_le _, rfl, rfl, rfl, HE.out, (by repeat (first | exact Below.refl _ _ | assumption | refine Below.setCell ?_ (by first | omega | (simp; done) | (simp; omega)) _ | refine Below.alloc ?_ (by first | omega | (simp; done) | (simp; omega)) _ | apply Below.drew))⟩
  case round =>
    obtain ⟨I, k, d, ad, hI, rfl, rfl, hk, hrow, hbr⟩ := hrel
    subst hk
    have HR := Lib.hid hrow; have HBr := Lib.hid hbr
    have hzr : w.heap.size ≤ wr.heap.size := hbr.size
    clear hrow hbr
    by_cases hlt : k < n
    · obtain ⟨b, off, rfl, hc⟩ := (Hh.out.keep HBr.out).cells (by omega)
      have hck := hc k hlt
      rw [nth_up] at hck
      have hIl : k < l.length := by rw [hlen.out]; exact hlt
      obtain ⟨t, ht⟩ : ∃ t, t = nthN l k := ⟨_, rfl⟩
      rw [← ht] at hck
      have ht64 : t < 64 := by rw [ht]; exact Hl.out _ (nthN_mem hIl)
      have Htk : Hid ((l.take (k + 1)).map setBA = (l.take k).map setBA ++ [str (setText t)]) := Lib.hid (by rw [nthN_take _ _ hIl, List.map_append, ← ht]; rfl)
      have hIi : (k : Int) < n := by omega
      clear hc ht
      go_wp2_with (first | (go_at_call 26; (with_reducible refine (sSetText_yes t _ ht64).mono ?_); rintro e w' ⟨rfl, rfl⟩) | (at_builtin; refine ap_strs rfl _ _ rfl w.heap.size _ _ _ _ _ rfl HR.out rfl (by omega) hzr ?_; intro ad5 d5 w5 hrow5 hb5; have HR5 := Lib.hid hrow5; have HB5 := Lib.hid (HBr.out.trans hb5); clear hrow5 hb5))
      go_roundw
      case rel => exact ⟨k + 1, k + 1, d5, ad5, by omega, by go_num, rfl, rfl, by rw [Htk.out]; exact HR5.out, HB5.out⟩
      case measure => simp [intOf]; omega
    · obtain rfl : k = n := by omega
      have hIi : ¬ ((k : Int) < k) := by omega
      have hall : l.take k = l := List.take_of_length_le (by rw [hlen.out]; exact Nat.le_refl _)
      have hR := HR.out
      rw [hall] at hR
      have HRl := Lib.hid hR
      clear hall hR
      go_wp2_with fail
      refine (sJoin_any ad k d _ _ wr HRl.out hn (fun s hs => by obtain ⟨t, _, rfl⟩ := List.mem_map.1 hs; exact setBA_size t)).mono ?_
      rw [setsBA]
      rintro e w6 ⟨rfl, hb6⟩
      have HB6 := Lib.hid (HBr.out.trans (hb6.mono hzr))
      clear hb6
      go_wp2_with fail
      go_ret
      exact ⟨rfl, HB6.out⟩
end Go.Proofs.YtbdnlncpamandaaDoor

/-
  No cell of these rows narrows 'for every input' (looked for: loops, veiled, ifaces, maps, wideKeys, modest, calm, conditions, laid).
  DERIVED. THE GIVEN ROWS OF THIS SEAT. 12 by the template 'for every input the law returns true; each argument reads behind the call as it read before'; 0 by the template 'total and deterministic' (their statements: YtfhegdgpcjhoaaaTotals.lean).
  GIVEN WITH THE SEED: the statements are not yours to turn. If you find one false, say at which input.
  Laid BY PROGRAM, IN A SANDBOX (cutbox-rows.mjs): the forced cells as the released guide's own fill.sh prints them over the translation 00618bf7a9d822eb… (all of the seat's roots in one cut). By AI agents, Wed Nov 11 2026. No macro, syntax, notation, axiom, sorry.
-/
import Derived.Test.YtfhegdgpcjhoaaaChecked
import GoSem.Claim
import GoSem.ClaimJoined
import GoSem.ClaimMapViews
import Derived.JoinedTies
import Derived.KernelRfl
namespace Go.Proofs.Ytfhegdgpcjhoaaa
/- THE CELL 'sum', in the pinned program and in every row, IS THE sha256 OF THE DUMP (.gsa) THAT YtfhegdgpcjhoaaaProg.lean LOADS. Nothing in Lean hashes anything: it is a label: what it is worth is what the hold of that sum in a sandbox is worth. -/
noncomputable def Try.pinned : Pinned := { name := "ytfhegdgpcjhoaaa", sum := "00618bf7a9d822eb6834f1fd0add97abec7d30ac72bc3728c72a05fc8ac861f5", checked := Try.checked }
namespace Rows
def none {H : Type} : Left H := { results := [], args := [] }

/-- 'laws.FnExactIsChordal': WHATEVER THE INPUT: true; the input reads as it did. -/
def fnExactIsChordalSpec : ChangeSpec := { name := "fnExactIsChordal", fn := fun _ => fun
  | [d] => { results := [.lit (.bool true)], args := [d] }
  | _ => none }
def fnExactIsChordalRow : OpenClaim := { program := "ytfhegdgpcjhoaaa", sum := "00618bf7a9d822eb6834f1fd0add97abec7d30ac72bc3728c72a05fc8ac861f5", func := "loop.example/g03100/laws.FnExactIsChordal", spec := "fnExactIsChordal", apart := false }
def FnExactIsChordalSaid : Prop := fnExactIsChordalRow.holds Try.pinned (OpenSpec.ofChange fnExactIsChordalSpec)

/-- ITS FALSE NEIGHBOUR: 'it returns false'. Refute it at one input. -/
def fnExactIsChordalWrong : ChangeSpec := { name := "fnExactIsChordal", fn := fun _ => fun
  | [d] => { results := [.lit (.bool false)], args := [d] }
  | _ => none }
def FnExactIsChordalWrongFalsely : Prop := fnExactIsChordalRow.holds Try.pinned (OpenSpec.ofChange fnExactIsChordalWrong)

/-- 'laws.FnExactParsePoset': WHATEVER THE INPUT: true; the input reads as it did. -/
def fnExactParsePosetSpec : ChangeSpec := { name := "fnExactParsePoset", fn := fun _ => fun
  | [d] => { results := [.lit (.bool true)], args := [d] }
  | _ => none }
def fnExactParsePosetRow : OpenClaim := { program := "ytfhegdgpcjhoaaa", sum := "00618bf7a9d822eb6834f1fd0add97abec7d30ac72bc3728c72a05fc8ac861f5", func := "loop.example/g03100/laws.FnExactParsePoset", spec := "fnExactParsePoset", apart := false }
def FnExactParsePosetSaid : Prop := fnExactParsePosetRow.holds Try.pinned (OpenSpec.ofChange fnExactParsePosetSpec)

/-- ITS FALSE NEIGHBOUR: 'it returns false'. Refute it at one input. -/
def fnExactParsePosetWrong : ChangeSpec := { name := "fnExactParsePoset", fn := fun _ => fun
  | [d] => { results := [.lit (.bool false)], args := [d] }
  | _ => none }
def FnExactParsePosetWrongFalsely : Prop := fnExactParsePosetRow.holds Try.pinned (OpenSpec.ofChange fnExactParsePosetWrong)

/-- 'laws.FnExactIsColoring': WHATEVER THE INPUT: true; the input reads as it did. -/
def fnExactIsColoringSpec : ChangeSpec := { name := "fnExactIsColoring", fn := fun _ => fun
  | [d1, d2] => { results := [.lit (.bool true)], args := [d1, d2] }
  | _ => none }
def fnExactIsColoringRow : OpenClaim := { program := "ytfhegdgpcjhoaaa", sum := "00618bf7a9d822eb6834f1fd0add97abec7d30ac72bc3728c72a05fc8ac861f5", func := "loop.example/g03100/laws.FnExactIsColoring", spec := "fnExactIsColoring", apart := false }
def FnExactIsColoringSaid : Prop := fnExactIsColoringRow.holds Try.pinned (OpenSpec.ofChange fnExactIsColoringSpec)

/-- ITS FALSE NEIGHBOUR: 'it returns false'. Refute it at one input. -/
def fnExactIsColoringWrong : ChangeSpec := { name := "fnExactIsColoring", fn := fun _ => fun
  | [d1, d2] => { results := [.lit (.bool false)], args := [d1, d2] }
  | _ => none }
def FnExactIsColoringWrongFalsely : Prop := fnExactIsColoringRow.holds Try.pinned (OpenSpec.ofChange fnExactIsColoringWrong)

/-- 'laws.FnExactQuotientBy': WHATEVER THE INPUT: true; the input reads as it did. -/
def fnExactQuotientBySpec : ChangeSpec := { name := "fnExactQuotientBy", fn := fun _ => fun
  | [d1, d2] => { results := [.lit (.bool true)], args := [d1, d2] }
  | _ => none }
def fnExactQuotientByRow : OpenClaim := { program := "ytfhegdgpcjhoaaa", sum := "00618bf7a9d822eb6834f1fd0add97abec7d30ac72bc3728c72a05fc8ac861f5", func := "loop.example/g03100/laws.FnExactQuotientBy", spec := "fnExactQuotientBy", unfollowed := true, recurses := true, apart := false }
def FnExactQuotientBySaid : Prop := fnExactQuotientByRow.holds Try.pinned (OpenSpec.ofChange fnExactQuotientBySpec)

/-- ITS FALSE NEIGHBOUR: 'it returns false'. Refute it at one input. -/
def fnExactQuotientByWrong : ChangeSpec := { name := "fnExactQuotientBy", fn := fun _ => fun
  | [d1, d2] => { results := [.lit (.bool false)], args := [d1, d2] }
  | _ => none }
def FnExactQuotientByWrongFalsely : Prop := fnExactQuotientByRow.holds Try.pinned (OpenSpec.ofChange fnExactQuotientByWrong)

/-- 'laws.FnExactApartComplex': WHATEVER THE INPUT: true; the input reads as it did. -/
def fnExactApartComplexSpec : ChangeSpec := { name := "fnExactApartComplex", fn := fun _ => fun
  | [d] => { results := [.lit (.bool true)], args := [d] }
  | _ => none }
def fnExactApartComplexRow : OpenClaim := { program := "ytfhegdgpcjhoaaa", sum := "00618bf7a9d822eb6834f1fd0add97abec7d30ac72bc3728c72a05fc8ac861f5", func := "loop.example/g03100/laws.FnExactApartComplex", spec := "fnExactApartComplex", unfollowed := true, recurses := true, apart := false }
def FnExactApartComplexSaid : Prop := fnExactApartComplexRow.holds Try.pinned (OpenSpec.ofChange fnExactApartComplexSpec)

/-- ITS FALSE NEIGHBOUR: 'it returns false'. Refute it at one input. -/
def fnExactApartComplexWrong : ChangeSpec := { name := "fnExactApartComplex", fn := fun _ => fun
  | [d] => { results := [.lit (.bool false)], args := [d] }
  | _ => none }
def FnExactApartComplexWrongFalsely : Prop := fnExactApartComplexRow.holds Try.pinned (OpenSpec.ofChange fnExactApartComplexWrong)

/-- 'laws.FnExactSumIdeals': WHATEVER THE INPUT: true; the input reads as it did. -/
def fnExactSumIdealsSpec : ChangeSpec := { name := "fnExactSumIdeals", fn := fun _ => fun
  | [d1, d2] => { results := [.lit (.bool true)], args := [d1, d2] }
  | _ => none }
def fnExactSumIdealsRow : OpenClaim := { program := "ytfhegdgpcjhoaaa", sum := "00618bf7a9d822eb6834f1fd0add97abec7d30ac72bc3728c72a05fc8ac861f5", func := "loop.example/g03100/laws.FnExactSumIdeals", spec := "fnExactSumIdeals", unfollowed := true, recurses := true, apart := false }
def FnExactSumIdealsSaid : Prop := fnExactSumIdealsRow.holds Try.pinned (OpenSpec.ofChange fnExactSumIdealsSpec)

/-- ITS FALSE NEIGHBOUR: 'it returns false'. Refute it at one input. -/
def fnExactSumIdealsWrong : ChangeSpec := { name := "fnExactSumIdeals", fn := fun _ => fun
  | [d1, d2] => { results := [.lit (.bool false)], args := [d1, d2] }
  | _ => none }
def FnExactSumIdealsWrongFalsely : Prop := fnExactSumIdealsRow.holds Try.pinned (OpenSpec.ofChange fnExactSumIdealsWrong)

/-- 'laws.FnExactFacePoset': WHATEVER THE INPUT: true; the input reads as it did. -/
def fnExactFacePosetSpec : ChangeSpec := { name := "fnExactFacePoset", fn := fun _ => fun
  | [d] => { results := [.lit (.bool true)], args := [d] }
  | _ => none }
def fnExactFacePosetRow : OpenClaim := { program := "ytfhegdgpcjhoaaa", sum := "00618bf7a9d822eb6834f1fd0add97abec7d30ac72bc3728c72a05fc8ac861f5", func := "loop.example/g03100/laws.FnExactFacePoset", spec := "fnExactFacePoset", apart := false }
def FnExactFacePosetSaid : Prop := fnExactFacePosetRow.holds Try.pinned (OpenSpec.ofChange fnExactFacePosetSpec)

/-- ITS FALSE NEIGHBOUR: 'it returns false'. Refute it at one input. -/
def fnExactFacePosetWrong : ChangeSpec := { name := "fnExactFacePoset", fn := fun _ => fun
  | [d] => { results := [.lit (.bool false)], args := [d] }
  | _ => none }
def FnExactFacePosetWrongFalsely : Prop := fnExactFacePosetRow.holds Try.pinned (OpenSpec.ofChange fnExactFacePosetWrong)

/-- 'laws.FnExactGraphOf': WHATEVER THE INPUT: true; the input reads as it did. -/
def fnExactGraphOfSpec : ChangeSpec := { name := "fnExactGraphOf", fn := fun _ => fun
  | [d] => { results := [.lit (.bool true)], args := [d] }
  | _ => none }
def fnExactGraphOfRow : OpenClaim := { program := "ytfhegdgpcjhoaaa", sum := "00618bf7a9d822eb6834f1fd0add97abec7d30ac72bc3728c72a05fc8ac861f5", func := "loop.example/g03100/laws.FnExactGraphOf", spec := "fnExactGraphOf", apart := false }
def FnExactGraphOfSaid : Prop := fnExactGraphOfRow.holds Try.pinned (OpenSpec.ofChange fnExactGraphOfSpec)

/-- ITS FALSE NEIGHBOUR: 'it returns false'. Refute it at one input. -/
def fnExactGraphOfWrong : ChangeSpec := { name := "fnExactGraphOf", fn := fun _ => fun
  | [d] => { results := [.lit (.bool false)], args := [d] }
  | _ => none }
def FnExactGraphOfWrongFalsely : Prop := fnExactGraphOfRow.holds Try.pinned (OpenSpec.ofChange fnExactGraphOfWrong)

/-- 'laws.FnExactMeetIdeals': WHATEVER THE INPUT: true; the input reads as it did. -/
def fnExactMeetIdealsSpec : ChangeSpec := { name := "fnExactMeetIdeals", fn := fun _ => fun
  | [d1, d2] => { results := [.lit (.bool true)], args := [d1, d2] }
  | _ => none }
def fnExactMeetIdealsRow : OpenClaim := { program := "ytfhegdgpcjhoaaa", sum := "00618bf7a9d822eb6834f1fd0add97abec7d30ac72bc3728c72a05fc8ac861f5", func := "loop.example/g03100/laws.FnExactMeetIdeals", spec := "fnExactMeetIdeals", unfollowed := true, recurses := true, apart := false }
def FnExactMeetIdealsSaid : Prop := fnExactMeetIdealsRow.holds Try.pinned (OpenSpec.ofChange fnExactMeetIdealsSpec)

/-- ITS FALSE NEIGHBOUR: 'it returns false'. Refute it at one input. -/
def fnExactMeetIdealsWrong : ChangeSpec := { name := "fnExactMeetIdeals", fn := fun _ => fun
  | [d1, d2] => { results := [.lit (.bool false)], args := [d1, d2] }
  | _ => none }
def FnExactMeetIdealsWrongFalsely : Prop := fnExactMeetIdealsRow.holds Try.pinned (OpenSpec.ofChange fnExactMeetIdealsWrong)

/-- 'laws.FnExactLeastColors': WHATEVER THE INPUT: true; the input reads as it did. -/
def fnExactLeastColorsSpec : ChangeSpec := { name := "fnExactLeastColors", fn := fun _ => fun
  | [d] => { results := [.lit (.bool true)], args := [d] }
  | _ => none }
def fnExactLeastColorsRow : OpenClaim := { program := "ytfhegdgpcjhoaaa", sum := "00618bf7a9d822eb6834f1fd0add97abec7d30ac72bc3728c72a05fc8ac861f5", func := "loop.example/g03100/laws.FnExactLeastColors", spec := "fnExactLeastColors", recurses := true, apart := false }
def FnExactLeastColorsSaid : Prop := fnExactLeastColorsRow.holds Try.pinned (OpenSpec.ofChange fnExactLeastColorsSpec)

/-- ITS FALSE NEIGHBOUR: 'it returns false'. Refute it at one input. -/
def fnExactLeastColorsWrong : ChangeSpec := { name := "fnExactLeastColors", fn := fun _ => fun
  | [d] => { results := [.lit (.bool false)], args := [d] }
  | _ => none }
def FnExactLeastColorsWrongFalsely : Prop := fnExactLeastColorsRow.holds Try.pinned (OpenSpec.ofChange fnExactLeastColorsWrong)

/-- 'laws.FnExactFirstColoring': WHATEVER THE INPUT: true; the input reads as it did. -/
def fnExactFirstColoringSpec : ChangeSpec := { name := "fnExactFirstColoring", fn := fun _ => fun
  | [d1, d2] => { results := [.lit (.bool true)], args := [d1, d2] }
  | _ => none }
def fnExactFirstColoringRow : OpenClaim := { program := "ytfhegdgpcjhoaaa", sum := "00618bf7a9d822eb6834f1fd0add97abec7d30ac72bc3728c72a05fc8ac861f5", func := "loop.example/g03100/laws.FnExactFirstColoring", spec := "fnExactFirstColoring", recurses := true, apart := false }
def FnExactFirstColoringSaid : Prop := fnExactFirstColoringRow.holds Try.pinned (OpenSpec.ofChange fnExactFirstColoringSpec)

/-- ITS FALSE NEIGHBOUR: 'it returns false'. Refute it at one input. -/
def fnExactFirstColoringWrong : ChangeSpec := { name := "fnExactFirstColoring", fn := fun _ => fun
  | [d1, d2] => { results := [.lit (.bool false)], args := [d1, d2] }
  | _ => none }
def FnExactFirstColoringWrongFalsely : Prop := fnExactFirstColoringRow.holds Try.pinned (OpenSpec.ofChange fnExactFirstColoringWrong)

/-- 'laws.FnExactPrimesOf': WHATEVER THE INPUT: true; the input reads as it did. -/
def fnExactPrimesOfSpec : ChangeSpec := { name := "fnExactPrimesOf", fn := fun _ => fun
  | [d] => { results := [.lit (.bool true)], args := [d] }
  | _ => none }
def fnExactPrimesOfRow : OpenClaim := { program := "ytfhegdgpcjhoaaa", sum := "00618bf7a9d822eb6834f1fd0add97abec7d30ac72bc3728c72a05fc8ac861f5", func := "loop.example/g03100/laws.FnExactPrimesOf", spec := "fnExactPrimesOf", unfollowed := true, recurses := true, apart := false }
def FnExactPrimesOfSaid : Prop := fnExactPrimesOfRow.holds Try.pinned (OpenSpec.ofChange fnExactPrimesOfSpec)

/-- ITS FALSE NEIGHBOUR: 'it returns false'. Refute it at one input. -/
def fnExactPrimesOfWrong : ChangeSpec := { name := "fnExactPrimesOf", fn := fun _ => fun
  | [d] => { results := [.lit (.bool false)], args := [d] }
  | _ => none }
def FnExactPrimesOfWrongFalsely : Prop := fnExactPrimesOfRow.holds Try.pinned (OpenSpec.ofChange fnExactPrimesOfWrong)

/- THE SECOND FORM. 'bulk': how many values and letters a reading holds, each counted each time it is reached (what is shared counts as often as it is met; a slice's spare places count too). A statement '..UptoSaid' is the law's where the arguments, and the package variables that the reading takes, are together of bulk at most 1048576: NARROWER than '..Said'. Prove '..Said' where nothing that the law and all that it calls make is longer than what came in: it says more and counts as full. Else prove '..UptoSaid'. A law counts once. -/
mutual
def uptoBulk {H : Type} : DataW H → Nat
  | .lit (.string bytes) => bytes.length + 1
  | .lit _ => 1
  | .nil => 1
  | .ptr d => uptoBulk d + 1
  | .slice elems spare => uptoBulkAll elems + uptoBulkAll spare + 1
  | .agg parts => uptoBulkAll parts + 1
  | .iface _ d => uptoBulk d + 1
  | .map entries => uptoBulkEntries entries + 1
  | .held _ => 1
def uptoBulkAll {H : Type} : List (DataW H) → Nat
  | [] => 0
  | d :: r => uptoBulk d + uptoBulkAll r
def uptoBulkEntries {H : Type} : List (Lit × DataW H) → Nat
  | [] => 0
  | x :: r => uptoBulkEntry x + uptoBulkEntries r
def uptoBulkEntry {H : Type} : Lit × DataW H → Nat
  | (.string bytes, d) => bytes.length + uptoBulk d + 1
  | (_, d) => uptoBulk d + 1
 end
def uptoSmall : (H : Type) → List (DataW H) → Bool := fun _ ds => decide (uptoBulkAll ds ≤ 1048576)
def OpenSpec.upto (s : _root_.Go.ChangeSpec) : _root_.Go.OpenSpec := { _root_.Go.OpenSpec.ofChange s with cond := some uptoSmall }

/-- 'laws.FnExactIsChordal', WHERE WHAT IT READS IS OF BULK AT MOST 1048576: true; the input reads as it did. -/
def fnExactIsChordalUptoRow : OpenClaim := { program := "ytfhegdgpcjhoaaa", sum := "00618bf7a9d822eb6834f1fd0add97abec7d30ac72bc3728c72a05fc8ac861f5", func := "loop.example/g03100/laws.FnExactIsChordal", spec := "fnExactIsChordal", apart := false, narrowed := true }
def FnExactIsChordalUptoSaid : Prop := fnExactIsChordalUptoRow.holds Try.pinned (OpenSpec.upto fnExactIsChordalSpec)

/-- 'laws.FnExactParsePoset', WHERE WHAT IT READS IS OF BULK AT MOST 1048576: true; the input reads as it did. -/
def fnExactParsePosetUptoRow : OpenClaim := { program := "ytfhegdgpcjhoaaa", sum := "00618bf7a9d822eb6834f1fd0add97abec7d30ac72bc3728c72a05fc8ac861f5", func := "loop.example/g03100/laws.FnExactParsePoset", spec := "fnExactParsePoset", apart := false, narrowed := true }
def FnExactParsePosetUptoSaid : Prop := fnExactParsePosetUptoRow.holds Try.pinned (OpenSpec.upto fnExactParsePosetSpec)

/-- 'laws.FnExactIsColoring', WHERE WHAT IT READS IS OF BULK AT MOST 1048576: true; the input reads as it did. -/
def fnExactIsColoringUptoRow : OpenClaim := { program := "ytfhegdgpcjhoaaa", sum := "00618bf7a9d822eb6834f1fd0add97abec7d30ac72bc3728c72a05fc8ac861f5", func := "loop.example/g03100/laws.FnExactIsColoring", spec := "fnExactIsColoring", apart := false, narrowed := true }
def FnExactIsColoringUptoSaid : Prop := fnExactIsColoringUptoRow.holds Try.pinned (OpenSpec.upto fnExactIsColoringSpec)

/-- 'laws.FnExactQuotientBy', WHERE WHAT IT READS IS OF BULK AT MOST 1048576: true; the input reads as it did. -/
def fnExactQuotientByUptoRow : OpenClaim := { program := "ytfhegdgpcjhoaaa", sum := "00618bf7a9d822eb6834f1fd0add97abec7d30ac72bc3728c72a05fc8ac861f5", func := "loop.example/g03100/laws.FnExactQuotientBy", spec := "fnExactQuotientBy", unfollowed := true, recurses := true, apart := false, narrowed := true }
def FnExactQuotientByUptoSaid : Prop := fnExactQuotientByUptoRow.holds Try.pinned (OpenSpec.upto fnExactQuotientBySpec)

/-- 'laws.FnExactApartComplex', WHERE WHAT IT READS IS OF BULK AT MOST 1048576: true; the input reads as it did. -/
def fnExactApartComplexUptoRow : OpenClaim := { program := "ytfhegdgpcjhoaaa", sum := "00618bf7a9d822eb6834f1fd0add97abec7d30ac72bc3728c72a05fc8ac861f5", func := "loop.example/g03100/laws.FnExactApartComplex", spec := "fnExactApartComplex", unfollowed := true, recurses := true, apart := false, narrowed := true }
def FnExactApartComplexUptoSaid : Prop := fnExactApartComplexUptoRow.holds Try.pinned (OpenSpec.upto fnExactApartComplexSpec)

/-- 'laws.FnExactSumIdeals', WHERE WHAT IT READS IS OF BULK AT MOST 1048576: true; the input reads as it did. -/
def fnExactSumIdealsUptoRow : OpenClaim := { program := "ytfhegdgpcjhoaaa", sum := "00618bf7a9d822eb6834f1fd0add97abec7d30ac72bc3728c72a05fc8ac861f5", func := "loop.example/g03100/laws.FnExactSumIdeals", spec := "fnExactSumIdeals", unfollowed := true, recurses := true, apart := false, narrowed := true }
def FnExactSumIdealsUptoSaid : Prop := fnExactSumIdealsUptoRow.holds Try.pinned (OpenSpec.upto fnExactSumIdealsSpec)

/-- 'laws.FnExactFacePoset', WHERE WHAT IT READS IS OF BULK AT MOST 1048576: true; the input reads as it did. -/
def fnExactFacePosetUptoRow : OpenClaim := { program := "ytfhegdgpcjhoaaa", sum := "00618bf7a9d822eb6834f1fd0add97abec7d30ac72bc3728c72a05fc8ac861f5", func := "loop.example/g03100/laws.FnExactFacePoset", spec := "fnExactFacePoset", apart := false, narrowed := true }
def FnExactFacePosetUptoSaid : Prop := fnExactFacePosetUptoRow.holds Try.pinned (OpenSpec.upto fnExactFacePosetSpec)

/-- 'laws.FnExactGraphOf', WHERE WHAT IT READS IS OF BULK AT MOST 1048576: true; the input reads as it did. -/
def fnExactGraphOfUptoRow : OpenClaim := { program := "ytfhegdgpcjhoaaa", sum := "00618bf7a9d822eb6834f1fd0add97abec7d30ac72bc3728c72a05fc8ac861f5", func := "loop.example/g03100/laws.FnExactGraphOf", spec := "fnExactGraphOf", apart := false, narrowed := true }
def FnExactGraphOfUptoSaid : Prop := fnExactGraphOfUptoRow.holds Try.pinned (OpenSpec.upto fnExactGraphOfSpec)

/-- 'laws.FnExactMeetIdeals', WHERE WHAT IT READS IS OF BULK AT MOST 1048576: true; the input reads as it did. -/
def fnExactMeetIdealsUptoRow : OpenClaim := { program := "ytfhegdgpcjhoaaa", sum := "00618bf7a9d822eb6834f1fd0add97abec7d30ac72bc3728c72a05fc8ac861f5", func := "loop.example/g03100/laws.FnExactMeetIdeals", spec := "fnExactMeetIdeals", unfollowed := true, recurses := true, apart := false, narrowed := true }
def FnExactMeetIdealsUptoSaid : Prop := fnExactMeetIdealsUptoRow.holds Try.pinned (OpenSpec.upto fnExactMeetIdealsSpec)

/-- 'laws.FnExactLeastColors', WHERE WHAT IT READS IS OF BULK AT MOST 1048576: true; the input reads as it did. -/
def fnExactLeastColorsUptoRow : OpenClaim := { program := "ytfhegdgpcjhoaaa", sum := "00618bf7a9d822eb6834f1fd0add97abec7d30ac72bc3728c72a05fc8ac861f5", func := "loop.example/g03100/laws.FnExactLeastColors", spec := "fnExactLeastColors", recurses := true, apart := false, narrowed := true }
def FnExactLeastColorsUptoSaid : Prop := fnExactLeastColorsUptoRow.holds Try.pinned (OpenSpec.upto fnExactLeastColorsSpec)

/-- 'laws.FnExactFirstColoring', WHERE WHAT IT READS IS OF BULK AT MOST 1048576: true; the input reads as it did. -/
def fnExactFirstColoringUptoRow : OpenClaim := { program := "ytfhegdgpcjhoaaa", sum := "00618bf7a9d822eb6834f1fd0add97abec7d30ac72bc3728c72a05fc8ac861f5", func := "loop.example/g03100/laws.FnExactFirstColoring", spec := "fnExactFirstColoring", recurses := true, apart := false, narrowed := true }
def FnExactFirstColoringUptoSaid : Prop := fnExactFirstColoringUptoRow.holds Try.pinned (OpenSpec.upto fnExactFirstColoringSpec)

/-- 'laws.FnExactPrimesOf', WHERE WHAT IT READS IS OF BULK AT MOST 1048576: true; the input reads as it did. -/
def fnExactPrimesOfUptoRow : OpenClaim := { program := "ytfhegdgpcjhoaaa", sum := "00618bf7a9d822eb6834f1fd0add97abec7d30ac72bc3728c72a05fc8ac861f5", func := "loop.example/g03100/laws.FnExactPrimesOf", spec := "fnExactPrimesOf", unfollowed := true, recurses := true, apart := false, narrowed := true }
def FnExactPrimesOfUptoSaid : Prop := fnExactPrimesOfUptoRow.holds Try.pinned (OpenSpec.upto fnExactPrimesOfSpec)

end Rows
end Go.Proofs.Ytfhegdgpcjhoaaa

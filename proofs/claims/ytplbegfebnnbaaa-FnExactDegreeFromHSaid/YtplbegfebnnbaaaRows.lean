/-
  No cell of these rows narrows 'for every input' (looked for: loops, veiled, ifaces, maps, wideKeys, modest, calm, conditions, laid).
  DERIVED. THE GIVEN ROWS OF THIS SEAT. 12 by the template 'for every input the law returns true; each argument reads behind the call as it read before'; 0 by the template 'total and deterministic' (their statements: YtplbegfebnnbaaaTotals.lean).
  GIVEN WITH THE SEED: the statements are not yours to turn. If you find one false, say at which input.
  Laid BY PROGRAM, IN A SANDBOX (cutbox-rows.mjs): the forced cells as the released guide's own fill.sh prints them over the translation 8fab85ddd94bdb62… (all of the seat's roots in one cut). By AI agents, Wed Nov 11 2026. No macro, syntax, notation, axiom, sorry.
-/
import Derived.Test.YtplbegfebnnbaaaChecked
import GoSem.Claim
import GoSem.ClaimJoined
import GoSem.ClaimMapViews
import Derived.JoinedTies
import Derived.KernelRfl
namespace Go.Proofs.Ytplbegfebnnbaaa
/- THE CELL 'sum', in the pinned program and in every row, IS THE sha256 OF THE DUMP (.gsa) THAT YtplbegfebnnbaaaProg.lean LOADS. Nothing in Lean hashes anything: it is a label: what it is worth is what the hold of that sum in a sandbox is worth. -/
noncomputable def Try.pinned : Pinned := { name := "ytplbegfebnnbaaa", sum := "8fab85ddd94bdb620f00fe1c448ea6f2760a23c98a6d9da2f8be9a951b7ab441", checked := Try.checked }
namespace Rows
def none {H : Type} : Left H := { results := [], args := [] }

/-- 'laws.FnExactMatchComplex': WHATEVER THE INPUT: true; the input reads as it did. -/
def fnExactMatchComplexSpec : ChangeSpec := { name := "fnExactMatchComplex", fn := fun _ => fun
  | [d] => { results := [.lit (.bool true)], args := [d] }
  | _ => none }
def fnExactMatchComplexRow : OpenClaim := { program := "ytplbegfebnnbaaa", sum := "8fab85ddd94bdb620f00fe1c448ea6f2760a23c98a6d9da2f8be9a951b7ab441", func := "loop.example/g03100/laws.FnExactMatchComplex", spec := "fnExactMatchComplex", unfollowed := true, recurses := true, apart := false }
def FnExactMatchComplexSaid : Prop := fnExactMatchComplexRow.holds Try.pinned (OpenSpec.ofChange fnExactMatchComplexSpec)

/-- ITS FALSE NEIGHBOUR: 'it returns false'. Refute it at one input. -/
def fnExactMatchComplexWrong : ChangeSpec := { name := "fnExactMatchComplex", fn := fun _ => fun
  | [d] => { results := [.lit (.bool false)], args := [d] }
  | _ => none }
def FnExactMatchComplexWrongFalsely : Prop := fnExactMatchComplexRow.holds Try.pinned (OpenSpec.ofChange fnExactMatchComplexWrong)

/-- 'laws.FnExactCanFlip': WHATEVER THE INPUT: true; the input reads as it did. -/
def fnExactCanFlipSpec : ChangeSpec := { name := "fnExactCanFlip", fn := fun _ => fun
  | [d1, d2, d3] => { results := [.lit (.bool true)], args := [d1, d2, d3] }
  | _ => none }
def fnExactCanFlipRow : OpenClaim := { program := "ytplbegfebnnbaaa", sum := "8fab85ddd94bdb620f00fe1c448ea6f2760a23c98a6d9da2f8be9a951b7ab441", func := "loop.example/g03100/laws.FnExactCanFlip", spec := "fnExactCanFlip", unfollowed := true, recurses := true, apart := false }
def FnExactCanFlipSaid : Prop := fnExactCanFlipRow.holds Try.pinned (OpenSpec.ofChange fnExactCanFlipSpec)

/-- ITS FALSE NEIGHBOUR: 'it returns false'. Refute it at one input. -/
def fnExactCanFlipWrong : ChangeSpec := { name := "fnExactCanFlip", fn := fun _ => fun
  | [d1, d2, d3] => { results := [.lit (.bool false)], args := [d1, d2, d3] }
  | _ => none }
def FnExactCanFlipWrongFalsely : Prop := fnExactCanFlipRow.holds Try.pinned (OpenSpec.ofChange fnExactCanFlipWrong)

/-- 'laws.FnExactLeftCount': WHATEVER THE INPUT: true; the input reads as it did. -/
def fnExactLeftCountSpec : ChangeSpec := { name := "fnExactLeftCount", fn := fun _ => fun
  | [d1, d2] => { results := [.lit (.bool true)], args := [d1, d2] }
  | _ => none }
def fnExactLeftCountRow : OpenClaim := { program := "ytplbegfebnnbaaa", sum := "8fab85ddd94bdb620f00fe1c448ea6f2760a23c98a6d9da2f8be9a951b7ab441", func := "loop.example/g03100/laws.FnExactLeftCount", spec := "fnExactLeftCount", apart := false }
def FnExactLeftCountSaid : Prop := fnExactLeftCountRow.holds Try.pinned (OpenSpec.ofChange fnExactLeftCountSpec)

/-- ITS FALSE NEIGHBOUR: 'it returns false'. Refute it at one input. -/
def fnExactLeftCountWrong : ChangeSpec := { name := "fnExactLeftCount", fn := fun _ => fun
  | [d1, d2] => { results := [.lit (.bool false)], args := [d1, d2] }
  | _ => none }
def FnExactLeftCountWrongFalsely : Prop := fnExactLeftCountRow.holds Try.pinned (OpenSpec.ofChange fnExactLeftCountWrong)

/-- 'laws.FnExactLeftMonomials': WHATEVER THE INPUT: true; the input reads as it did. -/
def fnExactLeftMonomialsSpec : ChangeSpec := { name := "fnExactLeftMonomials", fn := fun _ => fun
  | [d1, d2] => { results := [.lit (.bool true)], args := [d1, d2] }
  | _ => none }
def fnExactLeftMonomialsRow : OpenClaim := { program := "ytplbegfebnnbaaa", sum := "8fab85ddd94bdb620f00fe1c448ea6f2760a23c98a6d9da2f8be9a951b7ab441", func := "loop.example/g03100/laws.FnExactLeftMonomials", spec := "fnExactLeftMonomials", recurses := true, apart := false }
def FnExactLeftMonomialsSaid : Prop := fnExactLeftMonomialsRow.holds Try.pinned (OpenSpec.ofChange fnExactLeftMonomialsSpec)

/-- ITS FALSE NEIGHBOUR: 'it returns false'. Refute it at one input. -/
def fnExactLeftMonomialsWrong : ChangeSpec := { name := "fnExactLeftMonomials", fn := fun _ => fun
  | [d1, d2] => { results := [.lit (.bool false)], args := [d1, d2] }
  | _ => none }
def FnExactLeftMonomialsWrongFalsely : Prop := fnExactLeftMonomialsRow.holds Try.pinned (OpenSpec.ofChange fnExactLeftMonomialsWrong)

/-- 'laws.FnExactOrderComplex': WHATEVER THE INPUT: true; the input reads as it did. -/
def fnExactOrderComplexSpec : ChangeSpec := { name := "fnExactOrderComplex", fn := fun _ => fun
  | [d] => { results := [.lit (.bool true)], args := [d] }
  | _ => none }
def fnExactOrderComplexRow : OpenClaim := { program := "ytplbegfebnnbaaa", sum := "8fab85ddd94bdb620f00fe1c448ea6f2760a23c98a6d9da2f8be9a951b7ab441", func := "loop.example/g03100/laws.FnExactOrderComplex", spec := "fnExactOrderComplex", unfollowed := true, recurses := true, apart := false }
def FnExactOrderComplexSaid : Prop := fnExactOrderComplexRow.holds Try.pinned (OpenSpec.ofChange fnExactOrderComplexSpec)

/-- ITS FALSE NEIGHBOUR: 'it returns false'. Refute it at one input. -/
def fnExactOrderComplexWrong : ChangeSpec := { name := "fnExactOrderComplex", fn := fun _ => fun
  | [d] => { results := [.lit (.bool false)], args := [d] }
  | _ => none }
def FnExactOrderComplexWrongFalsely : Prop := fnExactOrderComplexRow.holds Try.pinned (OpenSpec.ofChange fnExactOrderComplexWrong)

/-- 'laws.FnExactIdealOf': WHATEVER THE INPUT: true; the input reads as it did. -/
def fnExactIdealOfSpec : ChangeSpec := { name := "fnExactIdealOf", fn := fun _ => fun
  | [d] => { results := [.lit (.bool true)], args := [d] }
  | _ => none }
def fnExactIdealOfRow : OpenClaim := { program := "ytplbegfebnnbaaa", sum := "8fab85ddd94bdb620f00fe1c448ea6f2760a23c98a6d9da2f8be9a951b7ab441", func := "loop.example/g03100/laws.FnExactIdealOf", spec := "fnExactIdealOf", unfollowed := true, recurses := true, apart := false }
def FnExactIdealOfSaid : Prop := fnExactIdealOfRow.holds Try.pinned (OpenSpec.ofChange fnExactIdealOfSpec)

/-- ITS FALSE NEIGHBOUR: 'it returns false'. Refute it at one input. -/
def fnExactIdealOfWrong : ChangeSpec := { name := "fnExactIdealOf", fn := fun _ => fun
  | [d] => { results := [.lit (.bool false)], args := [d] }
  | _ => none }
def FnExactIdealOfWrongFalsely : Prop := fnExactIdealOfRow.holds Try.pinned (OpenSpec.ofChange fnExactIdealOfWrong)

/-- 'laws.FnExactDegreeFromH': WHATEVER THE INPUT: true; the input reads as it did. -/
def fnExactDegreeFromHSpec : ChangeSpec := { name := "fnExactDegreeFromH", fn := fun _ => fun
  | [d] => { results := [.lit (.bool true)], args := [d] }
  | _ => none }
def fnExactDegreeFromHRow : OpenClaim := { program := "ytplbegfebnnbaaa", sum := "8fab85ddd94bdb620f00fe1c448ea6f2760a23c98a6d9da2f8be9a951b7ab441", func := "loop.example/g03100/laws.FnExactDegreeFromH", spec := "fnExactDegreeFromH", apart := false }
def FnExactDegreeFromHSaid : Prop := fnExactDegreeFromHRow.holds Try.pinned (OpenSpec.ofChange fnExactDegreeFromHSpec)

/-- ITS FALSE NEIGHBOUR: 'it returns false'. Refute it at one input. -/
def fnExactDegreeFromHWrong : ChangeSpec := { name := "fnExactDegreeFromH", fn := fun _ => fun
  | [d] => { results := [.lit (.bool false)], args := [d] }
  | _ => none }
def FnExactDegreeFromHWrongFalsely : Prop := fnExactDegreeFromHRow.holds Try.pinned (OpenSpec.ofChange fnExactDegreeFromHWrong)

/-- 'laws.FnExactLongNumbers': WHATEVER THE INPUT: true; the input reads as it did. -/
def fnExactLongNumbersSpec : ChangeSpec := { name := "fnExactLongNumbers", fn := fun _ => fun
  | [d] => { results := [.lit (.bool true)], args := [d] }
  | _ => none }
def fnExactLongNumbersRow : OpenClaim := { program := "ytplbegfebnnbaaa", sum := "8fab85ddd94bdb620f00fe1c448ea6f2760a23c98a6d9da2f8be9a951b7ab441", func := "loop.example/g03100/laws.FnExactLongNumbers", spec := "fnExactLongNumbers", apart := false }
def FnExactLongNumbersSaid : Prop := fnExactLongNumbersRow.holds Try.pinned (OpenSpec.ofChange fnExactLongNumbersSpec)

/-- ITS FALSE NEIGHBOUR: 'it returns false'. Refute it at one input. -/
def fnExactLongNumbersWrong : ChangeSpec := { name := "fnExactLongNumbers", fn := fun _ => fun
  | [d] => { results := [.lit (.bool false)], args := [d] }
  | _ => none }
def FnExactLongNumbersWrongFalsely : Prop := fnExactLongNumbersRow.holds Try.pinned (OpenSpec.ofChange fnExactLongNumbersWrong)

/-- 'laws.FnExactComplexOf': WHATEVER THE INPUT: true; the input reads as it did. -/
def fnExactComplexOfSpec : ChangeSpec := { name := "fnExactComplexOf", fn := fun _ => fun
  | [d] => { results := [.lit (.bool true)], args := [d] }
  | _ => none }
def fnExactComplexOfRow : OpenClaim := { program := "ytplbegfebnnbaaa", sum := "8fab85ddd94bdb620f00fe1c448ea6f2760a23c98a6d9da2f8be9a951b7ab441", func := "loop.example/g03100/laws.FnExactComplexOf", spec := "fnExactComplexOf", unfollowed := true, recurses := true, apart := false }
def FnExactComplexOfSaid : Prop := fnExactComplexOfRow.holds Try.pinned (OpenSpec.ofChange fnExactComplexOfSpec)

/-- ITS FALSE NEIGHBOUR: 'it returns false'. Refute it at one input. -/
def fnExactComplexOfWrong : ChangeSpec := { name := "fnExactComplexOf", fn := fun _ => fun
  | [d] => { results := [.lit (.bool false)], args := [d] }
  | _ => none }
def FnExactComplexOfWrongFalsely : Prop := fnExactComplexOfRow.holds Try.pinned (OpenSpec.ofChange fnExactComplexOfWrong)

/-- 'laws.FnExactIsBalanced': WHATEVER THE INPUT: true; the input reads as it did. -/
def fnExactIsBalancedSpec : ChangeSpec := { name := "fnExactIsBalanced", fn := fun _ => fun
  | [d] => { results := [.lit (.bool true)], args := [d] }
  | _ => none }
def fnExactIsBalancedRow : OpenClaim := { program := "ytplbegfebnnbaaa", sum := "8fab85ddd94bdb620f00fe1c448ea6f2760a23c98a6d9da2f8be9a951b7ab441", func := "loop.example/g03100/laws.FnExactIsBalanced", spec := "fnExactIsBalanced", recurses := true, apart := false }
def FnExactIsBalancedSaid : Prop := fnExactIsBalancedRow.holds Try.pinned (OpenSpec.ofChange fnExactIsBalancedSpec)

/-- ITS FALSE NEIGHBOUR: 'it returns false'. Refute it at one input. -/
def fnExactIsBalancedWrong : ChangeSpec := { name := "fnExactIsBalanced", fn := fun _ => fun
  | [d] => { results := [.lit (.bool false)], args := [d] }
  | _ => none }
def FnExactIsBalancedWrongFalsely : Prop := fnExactIsBalancedRow.holds Try.pinned (OpenSpec.ofChange fnExactIsBalancedWrong)

/-- 'laws.FnExactCliqueComplex': WHATEVER THE INPUT: true; the input reads as it did. -/
def fnExactCliqueComplexSpec : ChangeSpec := { name := "fnExactCliqueComplex", fn := fun _ => fun
  | [d] => { results := [.lit (.bool true)], args := [d] }
  | _ => none }
def fnExactCliqueComplexRow : OpenClaim := { program := "ytplbegfebnnbaaa", sum := "8fab85ddd94bdb620f00fe1c448ea6f2760a23c98a6d9da2f8be9a951b7ab441", func := "loop.example/g03100/laws.FnExactCliqueComplex", spec := "fnExactCliqueComplex", unfollowed := true, recurses := true, apart := false }
def FnExactCliqueComplexSaid : Prop := fnExactCliqueComplexRow.holds Try.pinned (OpenSpec.ofChange fnExactCliqueComplexSpec)

/-- ITS FALSE NEIGHBOUR: 'it returns false'. Refute it at one input. -/
def fnExactCliqueComplexWrong : ChangeSpec := { name := "fnExactCliqueComplex", fn := fun _ => fun
  | [d] => { results := [.lit (.bool false)], args := [d] }
  | _ => none }
def FnExactCliqueComplexWrongFalsely : Prop := fnExactCliqueComplexRow.holds Try.pinned (OpenSpec.ofChange fnExactCliqueComplexWrong)

/-- 'laws.FnExactSubdivideAt': WHATEVER THE INPUT: true; the input reads as it did. -/
def fnExactSubdivideAtSpec : ChangeSpec := { name := "fnExactSubdivideAt", fn := fun _ => fun
  | [d1, d2] => { results := [.lit (.bool true)], args := [d1, d2] }
  | _ => none }
def fnExactSubdivideAtRow : OpenClaim := { program := "ytplbegfebnnbaaa", sum := "8fab85ddd94bdb620f00fe1c448ea6f2760a23c98a6d9da2f8be9a951b7ab441", func := "loop.example/g03100/laws.FnExactSubdivideAt", spec := "fnExactSubdivideAt", unfollowed := true, recurses := true, apart := false }
def FnExactSubdivideAtSaid : Prop := fnExactSubdivideAtRow.holds Try.pinned (OpenSpec.ofChange fnExactSubdivideAtSpec)

/-- ITS FALSE NEIGHBOUR: 'it returns false'. Refute it at one input. -/
def fnExactSubdivideAtWrong : ChangeSpec := { name := "fnExactSubdivideAt", fn := fun _ => fun
  | [d1, d2] => { results := [.lit (.bool false)], args := [d1, d2] }
  | _ => none }
def FnExactSubdivideAtWrongFalsely : Prop := fnExactSubdivideAtRow.holds Try.pinned (OpenSpec.ofChange fnExactSubdivideAtWrong)

/- THE SECOND FORM. 'bulk': how many values and letters a reading holds, each counted each time it is reached (what is shared counts as often as it is met; a slice's spare places count too). A statement '..UptoSaid' is the law's where the arguments, and the package variables that the reading takes, are together of bulk at most 1048576: NARROWER than '..Said'. Prove '..Said' where nothing that the law and all that it calls make is longer than what came in: it says more and counts as full. Else prove '..UptoSaid'. A law counts once. -/
mutual
def uptoBulk {H : Type} : DataW H → Nat
  | .lit (.string bytes) => bytes.length + 1
  | .lit _ => 1
  | .nil => 1
  | .ptr d => uptoBulk d + 1
  | .slice elems spare => uptoBulkAll elems + uptoBulkAll spare + 1
  | .agg parts => uptoBulkAll parts + 1
  | .iface _ d => uptoBulk d + 1
  | .map entries => uptoBulkEntries entries + 1
  | .held _ => 1
def uptoBulkAll {H : Type} : List (DataW H) → Nat
  | [] => 0
  | d :: r => uptoBulk d + uptoBulkAll r
def uptoBulkEntries {H : Type} : List (Lit × DataW H) → Nat
  | [] => 0
  | x :: r => uptoBulkEntry x + uptoBulkEntries r
def uptoBulkEntry {H : Type} : Lit × DataW H → Nat
  | (.string bytes, d) => bytes.length + uptoBulk d + 1
  | (_, d) => uptoBulk d + 1
 end
def uptoSmall : (H : Type) → List (DataW H) → Bool := fun _ ds => decide (uptoBulkAll ds ≤ 1048576)
def OpenSpec.upto (s : _root_.Go.ChangeSpec) : _root_.Go.OpenSpec := { _root_.Go.OpenSpec.ofChange s with cond := some uptoSmall }

/-- 'laws.FnExactMatchComplex', WHERE WHAT IT READS IS OF BULK AT MOST 1048576: true; the input reads as it did. -/
def fnExactMatchComplexUptoRow : OpenClaim := { program := "ytplbegfebnnbaaa", sum := "8fab85ddd94bdb620f00fe1c448ea6f2760a23c98a6d9da2f8be9a951b7ab441", func := "loop.example/g03100/laws.FnExactMatchComplex", spec := "fnExactMatchComplex", unfollowed := true, recurses := true, apart := false, narrowed := true }
def FnExactMatchComplexUptoSaid : Prop := fnExactMatchComplexUptoRow.holds Try.pinned (OpenSpec.upto fnExactMatchComplexSpec)

/-- 'laws.FnExactCanFlip', WHERE WHAT IT READS IS OF BULK AT MOST 1048576: true; the input reads as it did. -/
def fnExactCanFlipUptoRow : OpenClaim := { program := "ytplbegfebnnbaaa", sum := "8fab85ddd94bdb620f00fe1c448ea6f2760a23c98a6d9da2f8be9a951b7ab441", func := "loop.example/g03100/laws.FnExactCanFlip", spec := "fnExactCanFlip", unfollowed := true, recurses := true, apart := false, narrowed := true }
def FnExactCanFlipUptoSaid : Prop := fnExactCanFlipUptoRow.holds Try.pinned (OpenSpec.upto fnExactCanFlipSpec)

/-- 'laws.FnExactLeftCount', WHERE WHAT IT READS IS OF BULK AT MOST 1048576: true; the input reads as it did. -/
def fnExactLeftCountUptoRow : OpenClaim := { program := "ytplbegfebnnbaaa", sum := "8fab85ddd94bdb620f00fe1c448ea6f2760a23c98a6d9da2f8be9a951b7ab441", func := "loop.example/g03100/laws.FnExactLeftCount", spec := "fnExactLeftCount", apart := false, narrowed := true }
def FnExactLeftCountUptoSaid : Prop := fnExactLeftCountUptoRow.holds Try.pinned (OpenSpec.upto fnExactLeftCountSpec)

/-- 'laws.FnExactLeftMonomials', WHERE WHAT IT READS IS OF BULK AT MOST 1048576: true; the input reads as it did. -/
def fnExactLeftMonomialsUptoRow : OpenClaim := { program := "ytplbegfebnnbaaa", sum := "8fab85ddd94bdb620f00fe1c448ea6f2760a23c98a6d9da2f8be9a951b7ab441", func := "loop.example/g03100/laws.FnExactLeftMonomials", spec := "fnExactLeftMonomials", recurses := true, apart := false, narrowed := true }
def FnExactLeftMonomialsUptoSaid : Prop := fnExactLeftMonomialsUptoRow.holds Try.pinned (OpenSpec.upto fnExactLeftMonomialsSpec)

/-- 'laws.FnExactOrderComplex', WHERE WHAT IT READS IS OF BULK AT MOST 1048576: true; the input reads as it did. -/
def fnExactOrderComplexUptoRow : OpenClaim := { program := "ytplbegfebnnbaaa", sum := "8fab85ddd94bdb620f00fe1c448ea6f2760a23c98a6d9da2f8be9a951b7ab441", func := "loop.example/g03100/laws.FnExactOrderComplex", spec := "fnExactOrderComplex", unfollowed := true, recurses := true, apart := false, narrowed := true }
def FnExactOrderComplexUptoSaid : Prop := fnExactOrderComplexUptoRow.holds Try.pinned (OpenSpec.upto fnExactOrderComplexSpec)

/-- 'laws.FnExactIdealOf', WHERE WHAT IT READS IS OF BULK AT MOST 1048576: true; the input reads as it did. -/
def fnExactIdealOfUptoRow : OpenClaim := { program := "ytplbegfebnnbaaa", sum := "8fab85ddd94bdb620f00fe1c448ea6f2760a23c98a6d9da2f8be9a951b7ab441", func := "loop.example/g03100/laws.FnExactIdealOf", spec := "fnExactIdealOf", unfollowed := true, recurses := true, apart := false, narrowed := true }
def FnExactIdealOfUptoSaid : Prop := fnExactIdealOfUptoRow.holds Try.pinned (OpenSpec.upto fnExactIdealOfSpec)

/-- 'laws.FnExactDegreeFromH', WHERE WHAT IT READS IS OF BULK AT MOST 1048576: true; the input reads as it did. -/
def fnExactDegreeFromHUptoRow : OpenClaim := { program := "ytplbegfebnnbaaa", sum := "8fab85ddd94bdb620f00fe1c448ea6f2760a23c98a6d9da2f8be9a951b7ab441", func := "loop.example/g03100/laws.FnExactDegreeFromH", spec := "fnExactDegreeFromH", apart := false, narrowed := true }
def FnExactDegreeFromHUptoSaid : Prop := fnExactDegreeFromHUptoRow.holds Try.pinned (OpenSpec.upto fnExactDegreeFromHSpec)

/-- 'laws.FnExactLongNumbers', WHERE WHAT IT READS IS OF BULK AT MOST 1048576: true; the input reads as it did. -/
def fnExactLongNumbersUptoRow : OpenClaim := { program := "ytplbegfebnnbaaa", sum := "8fab85ddd94bdb620f00fe1c448ea6f2760a23c98a6d9da2f8be9a951b7ab441", func := "loop.example/g03100/laws.FnExactLongNumbers", spec := "fnExactLongNumbers", apart := false, narrowed := true }
def FnExactLongNumbersUptoSaid : Prop := fnExactLongNumbersUptoRow.holds Try.pinned (OpenSpec.upto fnExactLongNumbersSpec)

/-- 'laws.FnExactComplexOf', WHERE WHAT IT READS IS OF BULK AT MOST 1048576: true; the input reads as it did. -/
def fnExactComplexOfUptoRow : OpenClaim := { program := "ytplbegfebnnbaaa", sum := "8fab85ddd94bdb620f00fe1c448ea6f2760a23c98a6d9da2f8be9a951b7ab441", func := "loop.example/g03100/laws.FnExactComplexOf", spec := "fnExactComplexOf", unfollowed := true, recurses := true, apart := false, narrowed := true }
def FnExactComplexOfUptoSaid : Prop := fnExactComplexOfUptoRow.holds Try.pinned (OpenSpec.upto fnExactComplexOfSpec)

/-- 'laws.FnExactIsBalanced', WHERE WHAT IT READS IS OF BULK AT MOST 1048576: true; the input reads as it did. -/
def fnExactIsBalancedUptoRow : OpenClaim := { program := "ytplbegfebnnbaaa", sum := "8fab85ddd94bdb620f00fe1c448ea6f2760a23c98a6d9da2f8be9a951b7ab441", func := "loop.example/g03100/laws.FnExactIsBalanced", spec := "fnExactIsBalanced", recurses := true, apart := false, narrowed := true }
def FnExactIsBalancedUptoSaid : Prop := fnExactIsBalancedUptoRow.holds Try.pinned (OpenSpec.upto fnExactIsBalancedSpec)

/-- 'laws.FnExactCliqueComplex', WHERE WHAT IT READS IS OF BULK AT MOST 1048576: true; the input reads as it did. -/
def fnExactCliqueComplexUptoRow : OpenClaim := { program := "ytplbegfebnnbaaa", sum := "8fab85ddd94bdb620f00fe1c448ea6f2760a23c98a6d9da2f8be9a951b7ab441", func := "loop.example/g03100/laws.FnExactCliqueComplex", spec := "fnExactCliqueComplex", unfollowed := true, recurses := true, apart := false, narrowed := true }
def FnExactCliqueComplexUptoSaid : Prop := fnExactCliqueComplexUptoRow.holds Try.pinned (OpenSpec.upto fnExactCliqueComplexSpec)

/-- 'laws.FnExactSubdivideAt', WHERE WHAT IT READS IS OF BULK AT MOST 1048576: true; the input reads as it did. -/
def fnExactSubdivideAtUptoRow : OpenClaim := { program := "ytplbegfebnnbaaa", sum := "8fab85ddd94bdb620f00fe1c448ea6f2760a23c98a6d9da2f8be9a951b7ab441", func := "loop.example/g03100/laws.FnExactSubdivideAt", spec := "fnExactSubdivideAt", unfollowed := true, recurses := true, apart := false, narrowed := true }
def FnExactSubdivideAtUptoSaid : Prop := fnExactSubdivideAtUptoRow.holds Try.pinned (OpenSpec.upto fnExactSubdivideAtSpec)

end Rows
end Go.Proofs.Ytplbegfebnnbaaa

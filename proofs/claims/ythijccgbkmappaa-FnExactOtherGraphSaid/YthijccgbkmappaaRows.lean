/-
  No cell of these rows narrows 'for every input' (looked for: loops, veiled, ifaces, maps, wideKeys, modest, calm, conditions, laid).
  DERIVED. THE GIVEN ROWS OF THIS SEAT. 12 by the template 'for every input the law returns true; each argument reads behind the call as it read before'; 0 by the template 'total and deterministic' (their statements: YthijccgbkmappaaTotals.lean).
  GIVEN WITH THE SEED: the statements are not yours to turn. If you find one false, say at which input.
  Laid BY PROGRAM, IN A SANDBOX (cutbox-rows.mjs): the forced cells as the released guide's own fill.sh prints them over the translation accfeccd6b62424d… (all of the seat's roots in one cut). By AI agents, Wed Nov 11 2026. No macro, syntax, notation, axiom, sorry.
-/
import Derived.Test.YthijccgbkmappaaChecked
import GoSem.Claim
import GoSem.ClaimJoined
import GoSem.ClaimMapViews
import Derived.JoinedTies
import Derived.KernelRfl
namespace Go.Proofs.Ythijccgbkmappaa
/- THE CELL 'sum', in the pinned program and in every row, IS THE sha256 OF THE DUMP (.gsa) THAT YthijccgbkmappaaProg.lean LOADS. Nothing in Lean hashes anything: it is a label: what it is worth is what the hold of that sum in a sandbox is worth. -/
noncomputable def Try.pinned : Pinned := { name := "ythijccgbkmappaa", sum := "accfeccd6b62424d5d3291cc79dcdbb55f6051b3e53af35c5ec4b2d720b24241", checked := Try.checked }
namespace Rows
def none {H : Type} : Left H := { results := [], args := [] }

/-- 'laws.FnExactOntoWords': WHATEVER THE INPUT: true; the input reads as it did. -/
def fnExactOntoWordsSpec : ChangeSpec := { name := "fnExactOntoWords", fn := fun _ => fun
  | [d1, d2] => { results := [.lit (.bool true)], args := [d1, d2] }
  | _ => none }
def fnExactOntoWordsRow : OpenClaim := { program := "ythijccgbkmappaa", sum := "accfeccd6b62424d5d3291cc79dcdbb55f6051b3e53af35c5ec4b2d720b24241", func := "loop.example/g03100/laws.FnExactOntoWords", spec := "fnExactOntoWords", recurses := true, apart := false }
def FnExactOntoWordsSaid : Prop := fnExactOntoWordsRow.holds Try.pinned (OpenSpec.ofChange fnExactOntoWordsSpec)

/-- ITS FALSE NEIGHBOUR: 'it returns false'. Refute it at one input. -/
def fnExactOntoWordsWrong : ChangeSpec := { name := "fnExactOntoWords", fn := fun _ => fun
  | [d1, d2] => { results := [.lit (.bool false)], args := [d1, d2] }
  | _ => none }
def FnExactOntoWordsWrongFalsely : Prop := fnExactOntoWordsRow.holds Try.pinned (OpenSpec.ofChange fnExactOntoWordsWrong)

/-- 'laws.FnExactFlipText': WHATEVER THE INPUT: true; the input reads as it did. -/
def fnExactFlipTextSpec : ChangeSpec := { name := "fnExactFlipText", fn := fun _ => fun
  | [d1, d2] => { results := [.lit (.bool true)], args := [d1, d2] }
  | _ => none }
def fnExactFlipTextRow : OpenClaim := { program := "ythijccgbkmappaa", sum := "accfeccd6b62424d5d3291cc79dcdbb55f6051b3e53af35c5ec4b2d720b24241", func := "loop.example/g03100/laws.FnExactFlipText", spec := "fnExactFlipText", apart := false }
def FnExactFlipTextSaid : Prop := fnExactFlipTextRow.holds Try.pinned (OpenSpec.ofChange fnExactFlipTextSpec)

/-- ITS FALSE NEIGHBOUR: 'it returns false'. Refute it at one input. -/
def fnExactFlipTextWrong : ChangeSpec := { name := "fnExactFlipText", fn := fun _ => fun
  | [d1, d2] => { results := [.lit (.bool false)], args := [d1, d2] }
  | _ => none }
def FnExactFlipTextWrongFalsely : Prop := fnExactFlipTextRow.holds Try.pinned (OpenSpec.ofChange fnExactFlipTextWrong)

/-- 'laws.FnExactIsPoset': WHATEVER THE INPUT: true; the input reads as it did. -/
def fnExactIsPosetSpec : ChangeSpec := { name := "fnExactIsPoset", fn := fun _ => fun
  | [d] => { results := [.lit (.bool true)], args := [d] }
  | _ => none }
def fnExactIsPosetRow : OpenClaim := { program := "ythijccgbkmappaa", sum := "accfeccd6b62424d5d3291cc79dcdbb55f6051b3e53af35c5ec4b2d720b24241", func := "loop.example/g03100/laws.FnExactIsPoset", spec := "fnExactIsPoset", apart := false }
def FnExactIsPosetSaid : Prop := fnExactIsPosetRow.holds Try.pinned (OpenSpec.ofChange fnExactIsPosetSpec)

/-- ITS FALSE NEIGHBOUR: 'it returns false'. Refute it at one input. -/
def fnExactIsPosetWrong : ChangeSpec := { name := "fnExactIsPoset", fn := fun _ => fun
  | [d] => { results := [.lit (.bool false)], args := [d] }
  | _ => none }
def FnExactIsPosetWrongFalsely : Prop := fnExactIsPosetRow.holds Try.pinned (OpenSpec.ofChange fnExactIsPosetWrong)

/-- 'laws.FnExactRepeatedCounts': WHATEVER THE INPUT: true; the input reads as it did. -/
def fnExactRepeatedCountsSpec : ChangeSpec := { name := "fnExactRepeatedCounts", fn := fun _ => fun
  | [d] => { results := [.lit (.bool true)], args := [d] }
  | _ => none }
def fnExactRepeatedCountsRow : OpenClaim := { program := "ythijccgbkmappaa", sum := "accfeccd6b62424d5d3291cc79dcdbb55f6051b3e53af35c5ec4b2d720b24241", func := "loop.example/g03100/laws.FnExactRepeatedCounts", spec := "fnExactRepeatedCounts", recurses := true, apart := false }
def FnExactRepeatedCountsSaid : Prop := fnExactRepeatedCountsRow.holds Try.pinned (OpenSpec.ofChange fnExactRepeatedCountsSpec)

/-- ITS FALSE NEIGHBOUR: 'it returns false'. Refute it at one input. -/
def fnExactRepeatedCountsWrong : ChangeSpec := { name := "fnExactRepeatedCounts", fn := fun _ => fun
  | [d] => { results := [.lit (.bool false)], args := [d] }
  | _ => none }
def FnExactRepeatedCountsWrongFalsely : Prop := fnExactRepeatedCountsRow.holds Try.pinned (OpenSpec.ofChange fnExactRepeatedCountsWrong)

/-- 'laws.FnExactIsGraph': WHATEVER THE INPUT: true; the input reads as it did. -/
def fnExactIsGraphSpec : ChangeSpec := { name := "fnExactIsGraph", fn := fun _ => fun
  | [d] => { results := [.lit (.bool true)], args := [d] }
  | _ => none }
def fnExactIsGraphRow : OpenClaim := { program := "ythijccgbkmappaa", sum := "accfeccd6b62424d5d3291cc79dcdbb55f6051b3e53af35c5ec4b2d720b24241", func := "loop.example/g03100/laws.FnExactIsGraph", spec := "fnExactIsGraph", apart := false }
def FnExactIsGraphSaid : Prop := fnExactIsGraphRow.holds Try.pinned (OpenSpec.ofChange fnExactIsGraphSpec)

/-- ITS FALSE NEIGHBOUR: 'it returns false'. Refute it at one input. -/
def fnExactIsGraphWrong : ChangeSpec := { name := "fnExactIsGraph", fn := fun _ => fun
  | [d] => { results := [.lit (.bool false)], args := [d] }
  | _ => none }
def FnExactIsGraphWrongFalsely : Prop := fnExactIsGraphRow.holds Try.pinned (OpenSpec.ofChange fnExactIsGraphWrong)

/-- 'laws.FnExactDualPoset': WHATEVER THE INPUT: true; the input reads as it did. -/
def fnExactDualPosetSpec : ChangeSpec := { name := "fnExactDualPoset", fn := fun _ => fun
  | [d] => { results := [.lit (.bool true)], args := [d] }
  | _ => none }
def fnExactDualPosetRow : OpenClaim := { program := "ythijccgbkmappaa", sum := "accfeccd6b62424d5d3291cc79dcdbb55f6051b3e53af35c5ec4b2d720b24241", func := "loop.example/g03100/laws.FnExactDualPoset", spec := "fnExactDualPoset", apart := false }
def FnExactDualPosetSaid : Prop := fnExactDualPosetRow.holds Try.pinned (OpenSpec.ofChange fnExactDualPosetSpec)

/-- ITS FALSE NEIGHBOUR: 'it returns false'. Refute it at one input. -/
def fnExactDualPosetWrong : ChangeSpec := { name := "fnExactDualPoset", fn := fun _ => fun
  | [d] => { results := [.lit (.bool false)], args := [d] }
  | _ => none }
def FnExactDualPosetWrongFalsely : Prop := fnExactDualPosetRow.holds Try.pinned (OpenSpec.ofChange fnExactDualPosetWrong)

/-- 'laws.FnExactIsIdeal': WHATEVER THE INPUT: true; the input reads as it did. -/
def fnExactIsIdealSpec : ChangeSpec := { name := "fnExactIsIdeal", fn := fun _ => fun
  | [d] => { results := [.lit (.bool true)], args := [d] }
  | _ => none }
def fnExactIsIdealRow : OpenClaim := { program := "ythijccgbkmappaa", sum := "accfeccd6b62424d5d3291cc79dcdbb55f6051b3e53af35c5ec4b2d720b24241", func := "loop.example/g03100/laws.FnExactIsIdeal", spec := "fnExactIsIdeal", apart := false }
def FnExactIsIdealSaid : Prop := fnExactIsIdealRow.holds Try.pinned (OpenSpec.ofChange fnExactIsIdealSpec)

/-- ITS FALSE NEIGHBOUR: 'it returns false'. Refute it at one input. -/
def fnExactIsIdealWrong : ChangeSpec := { name := "fnExactIsIdeal", fn := fun _ => fun
  | [d] => { results := [.lit (.bool false)], args := [d] }
  | _ => none }
def FnExactIsIdealWrongFalsely : Prop := fnExactIsIdealRow.holds Try.pinned (OpenSpec.ofChange fnExactIsIdealWrong)

/-- 'laws.FnExactNeighborsOf': WHATEVER THE INPUT: true; the input reads as it did. -/
def fnExactNeighborsOfSpec : ChangeSpec := { name := "fnExactNeighborsOf", fn := fun _ => fun
  | [d1, d2] => { results := [.lit (.bool true)], args := [d1, d2] }
  | _ => none }
def fnExactNeighborsOfRow : OpenClaim := { program := "ythijccgbkmappaa", sum := "accfeccd6b62424d5d3291cc79dcdbb55f6051b3e53af35c5ec4b2d720b24241", func := "loop.example/g03100/laws.FnExactNeighborsOf", spec := "fnExactNeighborsOf", apart := false }
def FnExactNeighborsOfSaid : Prop := fnExactNeighborsOfRow.holds Try.pinned (OpenSpec.ofChange fnExactNeighborsOfSpec)

/-- ITS FALSE NEIGHBOUR: 'it returns false'. Refute it at one input. -/
def fnExactNeighborsOfWrong : ChangeSpec := { name := "fnExactNeighborsOf", fn := fun _ => fun
  | [d1, d2] => { results := [.lit (.bool false)], args := [d1, d2] }
  | _ => none }
def FnExactNeighborsOfWrongFalsely : Prop := fnExactNeighborsOfRow.holds Try.pinned (OpenSpec.ofChange fnExactNeighborsOfWrong)

/-- 'laws.FnExactInIdeal': WHATEVER THE INPUT: true; the input reads as it did. -/
def fnExactInIdealSpec : ChangeSpec := { name := "fnExactInIdeal", fn := fun _ => fun
  | [d1, d2] => { results := [.lit (.bool true)], args := [d1, d2] }
  | _ => none }
def fnExactInIdealRow : OpenClaim := { program := "ythijccgbkmappaa", sum := "accfeccd6b62424d5d3291cc79dcdbb55f6051b3e53af35c5ec4b2d720b24241", func := "loop.example/g03100/laws.FnExactInIdeal", spec := "fnExactInIdeal", apart := false }
def FnExactInIdealSaid : Prop := fnExactInIdealRow.holds Try.pinned (OpenSpec.ofChange fnExactInIdealSpec)

/-- ITS FALSE NEIGHBOUR: 'it returns false'. Refute it at one input. -/
def fnExactInIdealWrong : ChangeSpec := { name := "fnExactInIdeal", fn := fun _ => fun
  | [d1, d2] => { results := [.lit (.bool false)], args := [d1, d2] }
  | _ => none }
def FnExactInIdealWrongFalsely : Prop := fnExactInIdealRow.holds Try.pinned (OpenSpec.ofChange fnExactInIdealWrong)

/-- 'laws.FnExactMobiusOf': WHATEVER THE INPUT: true; the input reads as it did. -/
def fnExactMobiusOfSpec : ChangeSpec := { name := "fnExactMobiusOf", fn := fun _ => fun
  | [d] => { results := [.lit (.bool true)], args := [d] }
  | _ => none }
def fnExactMobiusOfRow : OpenClaim := { program := "ythijccgbkmappaa", sum := "accfeccd6b62424d5d3291cc79dcdbb55f6051b3e53af35c5ec4b2d720b24241", func := "loop.example/g03100/laws.FnExactMobiusOf", spec := "fnExactMobiusOf", apart := false }
def FnExactMobiusOfSaid : Prop := fnExactMobiusOfRow.holds Try.pinned (OpenSpec.ofChange fnExactMobiusOfSpec)

/-- ITS FALSE NEIGHBOUR: 'it returns false'. Refute it at one input. -/
def fnExactMobiusOfWrong : ChangeSpec := { name := "fnExactMobiusOf", fn := fun _ => fun
  | [d] => { results := [.lit (.bool false)], args := [d] }
  | _ => none }
def FnExactMobiusOfWrongFalsely : Prop := fnExactMobiusOfRow.holds Try.pinned (OpenSpec.ofChange fnExactMobiusOfWrong)

/-- 'laws.FnExactOtherGraph': WHATEVER THE INPUT: true; the input reads as it did. -/
def fnExactOtherGraphSpec : ChangeSpec := { name := "fnExactOtherGraph", fn := fun _ => fun
  | [d] => { results := [.lit (.bool true)], args := [d] }
  | _ => none }
def fnExactOtherGraphRow : OpenClaim := { program := "ythijccgbkmappaa", sum := "accfeccd6b62424d5d3291cc79dcdbb55f6051b3e53af35c5ec4b2d720b24241", func := "loop.example/g03100/laws.FnExactOtherGraph", spec := "fnExactOtherGraph", unfollowed := true, recurses := true, apart := false }
def FnExactOtherGraphSaid : Prop := fnExactOtherGraphRow.holds Try.pinned (OpenSpec.ofChange fnExactOtherGraphSpec)

/-- ITS FALSE NEIGHBOUR: 'it returns false'. Refute it at one input. -/
def fnExactOtherGraphWrong : ChangeSpec := { name := "fnExactOtherGraph", fn := fun _ => fun
  | [d] => { results := [.lit (.bool false)], args := [d] }
  | _ => none }
def FnExactOtherGraphWrongFalsely : Prop := fnExactOtherGraphRow.holds Try.pinned (OpenSpec.ofChange fnExactOtherGraphWrong)

/-- 'laws.FnExactMakeIdeal': WHATEVER THE INPUT: true; the input reads as it did. -/
def fnExactMakeIdealSpec : ChangeSpec := { name := "fnExactMakeIdeal", fn := fun _ => fun
  | [d1, d2] => { results := [.lit (.bool true)], args := [d1, d2] }
  | _ => none }
def fnExactMakeIdealRow : OpenClaim := { program := "ythijccgbkmappaa", sum := "accfeccd6b62424d5d3291cc79dcdbb55f6051b3e53af35c5ec4b2d720b24241", func := "loop.example/g03100/laws.FnExactMakeIdeal", spec := "fnExactMakeIdeal", apart := false }
def FnExactMakeIdealSaid : Prop := fnExactMakeIdealRow.holds Try.pinned (OpenSpec.ofChange fnExactMakeIdealSpec)

/-- ITS FALSE NEIGHBOUR: 'it returns false'. Refute it at one input. -/
def fnExactMakeIdealWrong : ChangeSpec := { name := "fnExactMakeIdeal", fn := fun _ => fun
  | [d1, d2] => { results := [.lit (.bool false)], args := [d1, d2] }
  | _ => none }
def FnExactMakeIdealWrongFalsely : Prop := fnExactMakeIdealRow.holds Try.pinned (OpenSpec.ofChange fnExactMakeIdealWrong)

/- THE SECOND FORM. 'bulk': how many values and letters a reading holds, each counted each time it is reached (what is shared counts as often as it is met; a slice's spare places count too). A statement '..UptoSaid' is the law's where the arguments, and the package variables that the reading takes, are together of bulk at most 1048576: NARROWER than '..Said'. Prove '..Said' where nothing that the law and all that it calls make is longer than what came in: it says more and counts as full. Else prove '..UptoSaid'. A law counts once. -/
mutual
def uptoBulk {H : Type} : DataW H → Nat
  | .lit (.string bytes) => bytes.length + 1
  | .lit _ => 1
  | .nil => 1
  | .ptr d => uptoBulk d + 1
  | .slice elems spare => uptoBulkAll elems + uptoBulkAll spare + 1
  | .agg parts => uptoBulkAll parts + 1
  | .iface _ d => uptoBulk d + 1
  | .map entries => uptoBulkEntries entries + 1
  | .held _ => 1
def uptoBulkAll {H : Type} : List (DataW H) → Nat
  | [] => 0
  | d :: r => uptoBulk d + uptoBulkAll r
def uptoBulkEntries {H : Type} : List (Lit × DataW H) → Nat
  | [] => 0
  | x :: r => uptoBulkEntry x + uptoBulkEntries r
def uptoBulkEntry {H : Type} : Lit × DataW H → Nat
  | (.string bytes, d) => bytes.length + uptoBulk d + 1
  | (_, d) => uptoBulk d + 1
 end
def uptoSmall : (H : Type) → List (DataW H) → Bool := fun _ ds => decide (uptoBulkAll ds ≤ 1048576)
def OpenSpec.upto (s : _root_.Go.ChangeSpec) : _root_.Go.OpenSpec := { _root_.Go.OpenSpec.ofChange s with cond := some uptoSmall }

/-- 'laws.FnExactOntoWords', WHERE WHAT IT READS IS OF BULK AT MOST 1048576: true; the input reads as it did. -/
def fnExactOntoWordsUptoRow : OpenClaim := { program := "ythijccgbkmappaa", sum := "accfeccd6b62424d5d3291cc79dcdbb55f6051b3e53af35c5ec4b2d720b24241", func := "loop.example/g03100/laws.FnExactOntoWords", spec := "fnExactOntoWords", recurses := true, apart := false, narrowed := true }
def FnExactOntoWordsUptoSaid : Prop := fnExactOntoWordsUptoRow.holds Try.pinned (OpenSpec.upto fnExactOntoWordsSpec)

/-- 'laws.FnExactFlipText', WHERE WHAT IT READS IS OF BULK AT MOST 1048576: true; the input reads as it did. -/
def fnExactFlipTextUptoRow : OpenClaim := { program := "ythijccgbkmappaa", sum := "accfeccd6b62424d5d3291cc79dcdbb55f6051b3e53af35c5ec4b2d720b24241", func := "loop.example/g03100/laws.FnExactFlipText", spec := "fnExactFlipText", apart := false, narrowed := true }
def FnExactFlipTextUptoSaid : Prop := fnExactFlipTextUptoRow.holds Try.pinned (OpenSpec.upto fnExactFlipTextSpec)

/-- 'laws.FnExactIsPoset', WHERE WHAT IT READS IS OF BULK AT MOST 1048576: true; the input reads as it did. -/
def fnExactIsPosetUptoRow : OpenClaim := { program := "ythijccgbkmappaa", sum := "accfeccd6b62424d5d3291cc79dcdbb55f6051b3e53af35c5ec4b2d720b24241", func := "loop.example/g03100/laws.FnExactIsPoset", spec := "fnExactIsPoset", apart := false, narrowed := true }
def FnExactIsPosetUptoSaid : Prop := fnExactIsPosetUptoRow.holds Try.pinned (OpenSpec.upto fnExactIsPosetSpec)

/-- 'laws.FnExactRepeatedCounts', WHERE WHAT IT READS IS OF BULK AT MOST 1048576: true; the input reads as it did. -/
def fnExactRepeatedCountsUptoRow : OpenClaim := { program := "ythijccgbkmappaa", sum := "accfeccd6b62424d5d3291cc79dcdbb55f6051b3e53af35c5ec4b2d720b24241", func := "loop.example/g03100/laws.FnExactRepeatedCounts", spec := "fnExactRepeatedCounts", recurses := true, apart := false, narrowed := true }
def FnExactRepeatedCountsUptoSaid : Prop := fnExactRepeatedCountsUptoRow.holds Try.pinned (OpenSpec.upto fnExactRepeatedCountsSpec)

/-- 'laws.FnExactIsGraph', WHERE WHAT IT READS IS OF BULK AT MOST 1048576: true; the input reads as it did. -/
def fnExactIsGraphUptoRow : OpenClaim := { program := "ythijccgbkmappaa", sum := "accfeccd6b62424d5d3291cc79dcdbb55f6051b3e53af35c5ec4b2d720b24241", func := "loop.example/g03100/laws.FnExactIsGraph", spec := "fnExactIsGraph", apart := false, narrowed := true }
def FnExactIsGraphUptoSaid : Prop := fnExactIsGraphUptoRow.holds Try.pinned (OpenSpec.upto fnExactIsGraphSpec)

/-- 'laws.FnExactDualPoset', WHERE WHAT IT READS IS OF BULK AT MOST 1048576: true; the input reads as it did. -/
def fnExactDualPosetUptoRow : OpenClaim := { program := "ythijccgbkmappaa", sum := "accfeccd6b62424d5d3291cc79dcdbb55f6051b3e53af35c5ec4b2d720b24241", func := "loop.example/g03100/laws.FnExactDualPoset", spec := "fnExactDualPoset", apart := false, narrowed := true }
def FnExactDualPosetUptoSaid : Prop := fnExactDualPosetUptoRow.holds Try.pinned (OpenSpec.upto fnExactDualPosetSpec)

/-- 'laws.FnExactIsIdeal', WHERE WHAT IT READS IS OF BULK AT MOST 1048576: true; the input reads as it did. -/
def fnExactIsIdealUptoRow : OpenClaim := { program := "ythijccgbkmappaa", sum := "accfeccd6b62424d5d3291cc79dcdbb55f6051b3e53af35c5ec4b2d720b24241", func := "loop.example/g03100/laws.FnExactIsIdeal", spec := "fnExactIsIdeal", apart := false, narrowed := true }
def FnExactIsIdealUptoSaid : Prop := fnExactIsIdealUptoRow.holds Try.pinned (OpenSpec.upto fnExactIsIdealSpec)

/-- 'laws.FnExactNeighborsOf', WHERE WHAT IT READS IS OF BULK AT MOST 1048576: true; the input reads as it did. -/
def fnExactNeighborsOfUptoRow : OpenClaim := { program := "ythijccgbkmappaa", sum := "accfeccd6b62424d5d3291cc79dcdbb55f6051b3e53af35c5ec4b2d720b24241", func := "loop.example/g03100/laws.FnExactNeighborsOf", spec := "fnExactNeighborsOf", apart := false, narrowed := true }
def FnExactNeighborsOfUptoSaid : Prop := fnExactNeighborsOfUptoRow.holds Try.pinned (OpenSpec.upto fnExactNeighborsOfSpec)

/-- 'laws.FnExactInIdeal', WHERE WHAT IT READS IS OF BULK AT MOST 1048576: true; the input reads as it did. -/
def fnExactInIdealUptoRow : OpenClaim := { program := "ythijccgbkmappaa", sum := "accfeccd6b62424d5d3291cc79dcdbb55f6051b3e53af35c5ec4b2d720b24241", func := "loop.example/g03100/laws.FnExactInIdeal", spec := "fnExactInIdeal", apart := false, narrowed := true }
def FnExactInIdealUptoSaid : Prop := fnExactInIdealUptoRow.holds Try.pinned (OpenSpec.upto fnExactInIdealSpec)

/-- 'laws.FnExactMobiusOf', WHERE WHAT IT READS IS OF BULK AT MOST 1048576: true; the input reads as it did. -/
def fnExactMobiusOfUptoRow : OpenClaim := { program := "ythijccgbkmappaa", sum := "accfeccd6b62424d5d3291cc79dcdbb55f6051b3e53af35c5ec4b2d720b24241", func := "loop.example/g03100/laws.FnExactMobiusOf", spec := "fnExactMobiusOf", apart := false, narrowed := true }
def FnExactMobiusOfUptoSaid : Prop := fnExactMobiusOfUptoRow.holds Try.pinned (OpenSpec.upto fnExactMobiusOfSpec)

/-- 'laws.FnExactOtherGraph', WHERE WHAT IT READS IS OF BULK AT MOST 1048576: true; the input reads as it did. -/
def fnExactOtherGraphUptoRow : OpenClaim := { program := "ythijccgbkmappaa", sum := "accfeccd6b62424d5d3291cc79dcdbb55f6051b3e53af35c5ec4b2d720b24241", func := "loop.example/g03100/laws.FnExactOtherGraph", spec := "fnExactOtherGraph", unfollowed := true, recurses := true, apart := false, narrowed := true }
def FnExactOtherGraphUptoSaid : Prop := fnExactOtherGraphUptoRow.holds Try.pinned (OpenSpec.upto fnExactOtherGraphSpec)

/-- 'laws.FnExactMakeIdeal', WHERE WHAT IT READS IS OF BULK AT MOST 1048576: true; the input reads as it did. -/
def fnExactMakeIdealUptoRow : OpenClaim := { program := "ythijccgbkmappaa", sum := "accfeccd6b62424d5d3291cc79dcdbb55f6051b3e53af35c5ec4b2d720b24241", func := "loop.example/g03100/laws.FnExactMakeIdeal", spec := "fnExactMakeIdeal", apart := false, narrowed := true }
def FnExactMakeIdealUptoSaid : Prop := fnExactMakeIdealUptoRow.holds Try.pinned (OpenSpec.upto fnExactMakeIdealSpec)

end Rows
end Go.Proofs.Ythijccgbkmappaa

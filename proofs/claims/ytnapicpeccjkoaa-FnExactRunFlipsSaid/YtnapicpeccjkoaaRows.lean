/-
  No cell of these rows narrows 'for every input' (looked for: loops, veiled, ifaces, maps, wideKeys, modest, calm, conditions, laid).
  DERIVED. THE GIVEN ROWS OF THIS SEAT. 10 by the template 'for every input the law returns true; each argument reads behind the call as it read before'; 0 by the template 'total and deterministic' (their statements: YtnapicpeccjkoaaTotals.lean).
  GIVEN WITH THE SEED: the statements are not yours to turn. If you find one false, say at which input.
  Laid BY PROGRAM, IN A SANDBOX (cutbox-rows.mjs): the forced cells as the released guide's own fill.sh prints them over the translation baebb5e0486c1df9… (all of the seat's roots in one cut). By AI agents, Wed Nov 11 2026. No macro, syntax, notation, axiom, sorry.
-/
import Derived.Test.YtnapicpeccjkoaaChecked
import GoSem.Claim
import GoSem.ClaimJoined
import GoSem.ClaimMapViews
import Derived.JoinedTies
import Derived.KernelRfl
namespace Go.Proofs.Ytnapicpeccjkoaa
/- THE CELL 'sum', in the pinned program and in every row, IS THE sha256 OF THE DUMP (.gsa) THAT YtnapicpeccjkoaaProg.lean LOADS. Nothing in Lean hashes anything: it is a label: what it is worth is what the hold of that sum in a sandbox is worth. -/
noncomputable def Try.pinned : Pinned := { name := "ytnapicpeccjkoaa", sum := "baebb5e0486c1df9926d963db3857d29b3ec4adfd61faec346bb23d690b7bc93", checked := Try.checked }
namespace Rows
def none {H : Type} : Left H := { results := [], args := [] }

/-- 'laws.FnExactLongNumbers': WHATEVER THE INPUT: true; the input reads as it did. -/
def fnExactLongNumbersSpec : ChangeSpec := { name := "fnExactLongNumbers", fn := fun _ => fun
  | [d] => { results := [.lit (.bool true)], args := [d] }
  | _ => none }
def fnExactLongNumbersRow : OpenClaim := { program := "ytnapicpeccjkoaa", sum := "baebb5e0486c1df9926d963db3857d29b3ec4adfd61faec346bb23d690b7bc93", func := "loop.example/g03100/laws.FnExactLongNumbers", spec := "fnExactLongNumbers", apart := false }
def FnExactLongNumbersSaid : Prop := fnExactLongNumbersRow.holds Try.pinned (OpenSpec.ofChange fnExactLongNumbersSpec)

/-- ITS FALSE NEIGHBOUR: 'it returns false'. Refute it at one input. -/
def fnExactLongNumbersWrong : ChangeSpec := { name := "fnExactLongNumbers", fn := fun _ => fun
  | [d] => { results := [.lit (.bool false)], args := [d] }
  | _ => none }
def FnExactLongNumbersWrongFalsely : Prop := fnExactLongNumbersRow.holds Try.pinned (OpenSpec.ofChange fnExactLongNumbersWrong)

/-- 'laws.FnExactCanFlip': WHATEVER THE INPUT: true; the input reads as it did. -/
def fnExactCanFlipSpec : ChangeSpec := { name := "fnExactCanFlip", fn := fun _ => fun
  | [d1, d2, d3] => { results := [.lit (.bool true)], args := [d1, d2, d3] }
  | _ => none }
def fnExactCanFlipRow : OpenClaim := { program := "ytnapicpeccjkoaa", sum := "baebb5e0486c1df9926d963db3857d29b3ec4adfd61faec346bb23d690b7bc93", func := "loop.example/g03100/laws.FnExactCanFlip", spec := "fnExactCanFlip", unfollowed := true, recurses := true, apart := false }
def FnExactCanFlipSaid : Prop := fnExactCanFlipRow.holds Try.pinned (OpenSpec.ofChange fnExactCanFlipSpec)

/-- ITS FALSE NEIGHBOUR: 'it returns false'. Refute it at one input. -/
def fnExactCanFlipWrong : ChangeSpec := { name := "fnExactCanFlip", fn := fun _ => fun
  | [d1, d2, d3] => { results := [.lit (.bool false)], args := [d1, d2, d3] }
  | _ => none }
def FnExactCanFlipWrongFalsely : Prop := fnExactCanFlipRow.holds Try.pinned (OpenSpec.ofChange fnExactCanFlipWrong)

/-- 'laws.FnExactSubdivideAt': WHATEVER THE INPUT: true; the input reads as it did. -/
def fnExactSubdivideAtSpec : ChangeSpec := { name := "fnExactSubdivideAt", fn := fun _ => fun
  | [d1, d2] => { results := [.lit (.bool true)], args := [d1, d2] }
  | _ => none }
def fnExactSubdivideAtRow : OpenClaim := { program := "ytnapicpeccjkoaa", sum := "baebb5e0486c1df9926d963db3857d29b3ec4adfd61faec346bb23d690b7bc93", func := "loop.example/g03100/laws.FnExactSubdivideAt", spec := "fnExactSubdivideAt", unfollowed := true, recurses := true, apart := false }
def FnExactSubdivideAtSaid : Prop := fnExactSubdivideAtRow.holds Try.pinned (OpenSpec.ofChange fnExactSubdivideAtSpec)

/-- ITS FALSE NEIGHBOUR: 'it returns false'. Refute it at one input. -/
def fnExactSubdivideAtWrong : ChangeSpec := { name := "fnExactSubdivideAt", fn := fun _ => fun
  | [d1, d2] => { results := [.lit (.bool false)], args := [d1, d2] }
  | _ => none }
def FnExactSubdivideAtWrongFalsely : Prop := fnExactSubdivideAtRow.holds Try.pinned (OpenSpec.ofChange fnExactSubdivideAtWrong)

/-- 'laws.FnExactTopNumbers': WHATEVER THE INPUT: true; the input reads as it did. -/
def fnExactTopNumbersSpec : ChangeSpec := { name := "fnExactTopNumbers", fn := fun _ => fun
  | [d] => { results := [.lit (.bool true)], args := [d] }
  | _ => none }
def fnExactTopNumbersRow : OpenClaim := { program := "ytnapicpeccjkoaa", sum := "baebb5e0486c1df9926d963db3857d29b3ec4adfd61faec346bb23d690b7bc93", func := "loop.example/g03100/laws.FnExactTopNumbers", spec := "fnExactTopNumbers", apart := false }
def FnExactTopNumbersSaid : Prop := fnExactTopNumbersRow.holds Try.pinned (OpenSpec.ofChange fnExactTopNumbersSpec)

/-- ITS FALSE NEIGHBOUR: 'it returns false'. Refute it at one input. -/
def fnExactTopNumbersWrong : ChangeSpec := { name := "fnExactTopNumbers", fn := fun _ => fun
  | [d] => { results := [.lit (.bool false)], args := [d] }
  | _ => none }
def FnExactTopNumbersWrongFalsely : Prop := fnExactTopNumbersRow.holds Try.pinned (OpenSpec.ofChange fnExactTopNumbersWrong)

/-- 'laws.FnExactChainCounts': WHATEVER THE INPUT: true; the input reads as it did. -/
def fnExactChainCountsSpec : ChangeSpec := { name := "fnExactChainCounts", fn := fun _ => fun
  | [d] => { results := [.lit (.bool true)], args := [d] }
  | _ => none }
def fnExactChainCountsRow : OpenClaim := { program := "ytnapicpeccjkoaa", sum := "baebb5e0486c1df9926d963db3857d29b3ec4adfd61faec346bb23d690b7bc93", func := "loop.example/g03100/laws.FnExactChainCounts", spec := "fnExactChainCounts", recurses := true, apart := false }
def FnExactChainCountsSaid : Prop := fnExactChainCountsRow.holds Try.pinned (OpenSpec.ofChange fnExactChainCountsSpec)

/-- ITS FALSE NEIGHBOUR: 'it returns false'. Refute it at one input. -/
def fnExactChainCountsWrong : ChangeSpec := { name := "fnExactChainCounts", fn := fun _ => fun
  | [d] => { results := [.lit (.bool false)], args := [d] }
  | _ => none }
def FnExactChainCountsWrongFalsely : Prop := fnExactChainCountsRow.holds Try.pinned (OpenSpec.ofChange fnExactChainCountsWrong)

/-- 'laws.FnExactColorCounts': WHATEVER THE INPUT: true; the input reads as it did. -/
def fnExactColorCountsSpec : ChangeSpec := { name := "fnExactColorCounts", fn := fun _ => fun
  | [d1, d2] => { results := [.lit (.bool true)], args := [d1, d2] }
  | _ => none }
def fnExactColorCountsRow : OpenClaim := { program := "ytnapicpeccjkoaa", sum := "baebb5e0486c1df9926d963db3857d29b3ec4adfd61faec346bb23d690b7bc93", func := "loop.example/g03100/laws.FnExactColorCounts", spec := "fnExactColorCounts", apart := false }
def FnExactColorCountsSaid : Prop := fnExactColorCountsRow.holds Try.pinned (OpenSpec.ofChange fnExactColorCountsSpec)

/-- ITS FALSE NEIGHBOUR: 'it returns false'. Refute it at one input. -/
def fnExactColorCountsWrong : ChangeSpec := { name := "fnExactColorCounts", fn := fun _ => fun
  | [d1, d2] => { results := [.lit (.bool false)], args := [d1, d2] }
  | _ => none }
def FnExactColorCountsWrongFalsely : Prop := fnExactColorCountsRow.holds Try.pinned (OpenSpec.ofChange fnExactColorCountsWrong)

/-- 'laws.FnExactColorH': WHATEVER THE INPUT: true; the input reads as it did. -/
def fnExactColorHSpec : ChangeSpec := { name := "fnExactColorH", fn := fun _ => fun
  | [d1, d2] => { results := [.lit (.bool true)], args := [d1, d2] }
  | _ => none }
def fnExactColorHRow : OpenClaim := { program := "ytnapicpeccjkoaa", sum := "baebb5e0486c1df9926d963db3857d29b3ec4adfd61faec346bb23d690b7bc93", func := "loop.example/g03100/laws.FnExactColorH", spec := "fnExactColorH", apart := false }
def FnExactColorHSaid : Prop := fnExactColorHRow.holds Try.pinned (OpenSpec.ofChange fnExactColorHSpec)

/-- ITS FALSE NEIGHBOUR: 'it returns false'. Refute it at one input. -/
def fnExactColorHWrong : ChangeSpec := { name := "fnExactColorH", fn := fun _ => fun
  | [d1, d2] => { results := [.lit (.bool false)], args := [d1, d2] }
  | _ => none }
def FnExactColorHWrongFalsely : Prop := fnExactColorHRow.holds Try.pinned (OpenSpec.ofChange fnExactColorHWrong)

/-- 'laws.FnExactFlipAt': WHATEVER THE INPUT: true; the input reads as it did. -/
def fnExactFlipAtSpec : ChangeSpec := { name := "fnExactFlipAt", fn := fun _ => fun
  | [d1, d2, d3] => { results := [.lit (.bool true)], args := [d1, d2, d3] }
  | _ => none }
def fnExactFlipAtRow : OpenClaim := { program := "ytnapicpeccjkoaa", sum := "baebb5e0486c1df9926d963db3857d29b3ec4adfd61faec346bb23d690b7bc93", func := "loop.example/g03100/laws.FnExactFlipAt", spec := "fnExactFlipAt", unfollowed := true, recurses := true, apart := false }
def FnExactFlipAtSaid : Prop := fnExactFlipAtRow.holds Try.pinned (OpenSpec.ofChange fnExactFlipAtSpec)

/-- ITS FALSE NEIGHBOUR: 'it returns false'. Refute it at one input. -/
def fnExactFlipAtWrong : ChangeSpec := { name := "fnExactFlipAt", fn := fun _ => fun
  | [d1, d2, d3] => { results := [.lit (.bool false)], args := [d1, d2, d3] }
  | _ => none }
def FnExactFlipAtWrongFalsely : Prop := fnExactFlipAtRow.holds Try.pinned (OpenSpec.ofChange fnExactFlipAtWrong)

/-- 'laws.FnExactFlipsOf': WHATEVER THE INPUT: true; the input reads as it did. -/
def fnExactFlipsOfSpec : ChangeSpec := { name := "fnExactFlipsOf", fn := fun _ => fun
  | [d] => { results := [.lit (.bool true)], args := [d] }
  | _ => none }
def fnExactFlipsOfRow : OpenClaim := { program := "ytnapicpeccjkoaa", sum := "baebb5e0486c1df9926d963db3857d29b3ec4adfd61faec346bb23d690b7bc93", func := "loop.example/g03100/laws.FnExactFlipsOf", spec := "fnExactFlipsOf", unfollowed := true, recurses := true, apart := false }
def FnExactFlipsOfSaid : Prop := fnExactFlipsOfRow.holds Try.pinned (OpenSpec.ofChange fnExactFlipsOfSpec)

/-- ITS FALSE NEIGHBOUR: 'it returns false'. Refute it at one input. -/
def fnExactFlipsOfWrong : ChangeSpec := { name := "fnExactFlipsOf", fn := fun _ => fun
  | [d] => { results := [.lit (.bool false)], args := [d] }
  | _ => none }
def FnExactFlipsOfWrongFalsely : Prop := fnExactFlipsOfRow.holds Try.pinned (OpenSpec.ofChange fnExactFlipsOfWrong)

/-- 'laws.FnExactRunFlips': WHATEVER THE INPUT: true; the input reads as it did. -/
def fnExactRunFlipsSpec : ChangeSpec := { name := "fnExactRunFlips", fn := fun _ => fun
  | [d1, d2] => { results := [.lit (.bool true)], args := [d1, d2] }
  | _ => none }
def fnExactRunFlipsRow : OpenClaim := { program := "ytnapicpeccjkoaa", sum := "baebb5e0486c1df9926d963db3857d29b3ec4adfd61faec346bb23d690b7bc93", func := "loop.example/g03100/laws.FnExactRunFlips", spec := "fnExactRunFlips", unfollowed := true, recurses := true, apart := false }
def FnExactRunFlipsSaid : Prop := fnExactRunFlipsRow.holds Try.pinned (OpenSpec.ofChange fnExactRunFlipsSpec)

/-- ITS FALSE NEIGHBOUR: 'it returns false'. Refute it at one input. -/
def fnExactRunFlipsWrong : ChangeSpec := { name := "fnExactRunFlips", fn := fun _ => fun
  | [d1, d2] => { results := [.lit (.bool false)], args := [d1, d2] }
  | _ => none }
def FnExactRunFlipsWrongFalsely : Prop := fnExactRunFlipsRow.holds Try.pinned (OpenSpec.ofChange fnExactRunFlipsWrong)

/- THE SECOND FORM. 'bulk': how many values and letters a reading holds, each counted each time it is reached (what is shared counts as often as it is met; a slice's spare places count too). A statement '..UptoSaid' is the law's where the arguments, and the package variables that the reading takes, are together of bulk at most 1048576: NARROWER than '..Said'. Prove '..Said' where nothing that the law and all that it calls make is longer than what came in: it says more and counts as full. Else prove '..UptoSaid'. A law counts once. -/
mutual
def uptoBulk {H : Type} : DataW H → Nat
  | .lit (.string bytes) => bytes.length + 1
  | .lit _ => 1
  | .nil => 1
  | .ptr d => uptoBulk d + 1
  | .slice elems spare => uptoBulkAll elems + uptoBulkAll spare + 1
  | .agg parts => uptoBulkAll parts + 1
  | .iface _ d => uptoBulk d + 1
  | .map entries => uptoBulkEntries entries + 1
  | .held _ => 1
def uptoBulkAll {H : Type} : List (DataW H) → Nat
  | [] => 0
  | d :: r => uptoBulk d + uptoBulkAll r
def uptoBulkEntries {H : Type} : List (Lit × DataW H) → Nat
  | [] => 0
  | x :: r => uptoBulkEntry x + uptoBulkEntries r
def uptoBulkEntry {H : Type} : Lit × DataW H → Nat
  | (.string bytes, d) => bytes.length + uptoBulk d + 1
  | (_, d) => uptoBulk d + 1
 end
def uptoSmall : (H : Type) → List (DataW H) → Bool := fun _ ds => decide (uptoBulkAll ds ≤ 1048576)
def OpenSpec.upto (s : _root_.Go.ChangeSpec) : _root_.Go.OpenSpec := { _root_.Go.OpenSpec.ofChange s with cond := some uptoSmall }

/-- 'laws.FnExactLongNumbers', WHERE WHAT IT READS IS OF BULK AT MOST 1048576: true; the input reads as it did. -/
def fnExactLongNumbersUptoRow : OpenClaim := { program := "ytnapicpeccjkoaa", sum := "baebb5e0486c1df9926d963db3857d29b3ec4adfd61faec346bb23d690b7bc93", func := "loop.example/g03100/laws.FnExactLongNumbers", spec := "fnExactLongNumbers", apart := false, narrowed := true }
def FnExactLongNumbersUptoSaid : Prop := fnExactLongNumbersUptoRow.holds Try.pinned (OpenSpec.upto fnExactLongNumbersSpec)

/-- 'laws.FnExactCanFlip', WHERE WHAT IT READS IS OF BULK AT MOST 1048576: true; the input reads as it did. -/
def fnExactCanFlipUptoRow : OpenClaim := { program := "ytnapicpeccjkoaa", sum := "baebb5e0486c1df9926d963db3857d29b3ec4adfd61faec346bb23d690b7bc93", func := "loop.example/g03100/laws.FnExactCanFlip", spec := "fnExactCanFlip", unfollowed := true, recurses := true, apart := false, narrowed := true }
def FnExactCanFlipUptoSaid : Prop := fnExactCanFlipUptoRow.holds Try.pinned (OpenSpec.upto fnExactCanFlipSpec)

/-- 'laws.FnExactSubdivideAt', WHERE WHAT IT READS IS OF BULK AT MOST 1048576: true; the input reads as it did. -/
def fnExactSubdivideAtUptoRow : OpenClaim := { program := "ytnapicpeccjkoaa", sum := "baebb5e0486c1df9926d963db3857d29b3ec4adfd61faec346bb23d690b7bc93", func := "loop.example/g03100/laws.FnExactSubdivideAt", spec := "fnExactSubdivideAt", unfollowed := true, recurses := true, apart := false, narrowed := true }
def FnExactSubdivideAtUptoSaid : Prop := fnExactSubdivideAtUptoRow.holds Try.pinned (OpenSpec.upto fnExactSubdivideAtSpec)

/-- 'laws.FnExactTopNumbers', WHERE WHAT IT READS IS OF BULK AT MOST 1048576: true; the input reads as it did. -/
def fnExactTopNumbersUptoRow : OpenClaim := { program := "ytnapicpeccjkoaa", sum := "baebb5e0486c1df9926d963db3857d29b3ec4adfd61faec346bb23d690b7bc93", func := "loop.example/g03100/laws.FnExactTopNumbers", spec := "fnExactTopNumbers", apart := false, narrowed := true }
def FnExactTopNumbersUptoSaid : Prop := fnExactTopNumbersUptoRow.holds Try.pinned (OpenSpec.upto fnExactTopNumbersSpec)

/-- 'laws.FnExactChainCounts', WHERE WHAT IT READS IS OF BULK AT MOST 1048576: true; the input reads as it did. -/
def fnExactChainCountsUptoRow : OpenClaim := { program := "ytnapicpeccjkoaa", sum := "baebb5e0486c1df9926d963db3857d29b3ec4adfd61faec346bb23d690b7bc93", func := "loop.example/g03100/laws.FnExactChainCounts", spec := "fnExactChainCounts", recurses := true, apart := false, narrowed := true }
def FnExactChainCountsUptoSaid : Prop := fnExactChainCountsUptoRow.holds Try.pinned (OpenSpec.upto fnExactChainCountsSpec)

/-- 'laws.FnExactColorCounts', WHERE WHAT IT READS IS OF BULK AT MOST 1048576: true; the input reads as it did. -/
def fnExactColorCountsUptoRow : OpenClaim := { program := "ytnapicpeccjkoaa", sum := "baebb5e0486c1df9926d963db3857d29b3ec4adfd61faec346bb23d690b7bc93", func := "loop.example/g03100/laws.FnExactColorCounts", spec := "fnExactColorCounts", apart := false, narrowed := true }
def FnExactColorCountsUptoSaid : Prop := fnExactColorCountsUptoRow.holds Try.pinned (OpenSpec.upto fnExactColorCountsSpec)

/-- 'laws.FnExactColorH', WHERE WHAT IT READS IS OF BULK AT MOST 1048576: true; the input reads as it did. -/
def fnExactColorHUptoRow : OpenClaim := { program := "ytnapicpeccjkoaa", sum := "baebb5e0486c1df9926d963db3857d29b3ec4adfd61faec346bb23d690b7bc93", func := "loop.example/g03100/laws.FnExactColorH", spec := "fnExactColorH", apart := false, narrowed := true }
def FnExactColorHUptoSaid : Prop := fnExactColorHUptoRow.holds Try.pinned (OpenSpec.upto fnExactColorHSpec)

/-- 'laws.FnExactFlipAt', WHERE WHAT IT READS IS OF BULK AT MOST 1048576: true; the input reads as it did. -/
def fnExactFlipAtUptoRow : OpenClaim := { program := "ytnapicpeccjkoaa", sum := "baebb5e0486c1df9926d963db3857d29b3ec4adfd61faec346bb23d690b7bc93", func := "loop.example/g03100/laws.FnExactFlipAt", spec := "fnExactFlipAt", unfollowed := true, recurses := true, apart := false, narrowed := true }
def FnExactFlipAtUptoSaid : Prop := fnExactFlipAtUptoRow.holds Try.pinned (OpenSpec.upto fnExactFlipAtSpec)

/-- 'laws.FnExactFlipsOf', WHERE WHAT IT READS IS OF BULK AT MOST 1048576: true; the input reads as it did. -/
def fnExactFlipsOfUptoRow : OpenClaim := { program := "ytnapicpeccjkoaa", sum := "baebb5e0486c1df9926d963db3857d29b3ec4adfd61faec346bb23d690b7bc93", func := "loop.example/g03100/laws.FnExactFlipsOf", spec := "fnExactFlipsOf", unfollowed := true, recurses := true, apart := false, narrowed := true }
def FnExactFlipsOfUptoSaid : Prop := fnExactFlipsOfUptoRow.holds Try.pinned (OpenSpec.upto fnExactFlipsOfSpec)

/-- 'laws.FnExactRunFlips', WHERE WHAT IT READS IS OF BULK AT MOST 1048576: true; the input reads as it did. -/
def fnExactRunFlipsUptoRow : OpenClaim := { program := "ytnapicpeccjkoaa", sum := "baebb5e0486c1df9926d963db3857d29b3ec4adfd61faec346bb23d690b7bc93", func := "loop.example/g03100/laws.FnExactRunFlips", spec := "fnExactRunFlips", unfollowed := true, recurses := true, apart := false, narrowed := true }
def FnExactRunFlipsUptoSaid : Prop := fnExactRunFlipsUptoRow.holds Try.pinned (OpenSpec.upto fnExactRunFlipsSpec)

end Rows
end Go.Proofs.Ytnapicpeccjkoaa

/- The drawings of the colors: l28Case, DrawColorCounts, DrawFirstColoring, DrawIsBalanced. -/
import Derived.Test.YtihfhfihladlcaaGreatDoorColor
import Derived.Test.YtihfhfihladlcaaGreatDoorDrw5
namespace Go.Proofs.YtihfhfihladlcaaGreatDoor
set_option maxRecDepth 20000
open Go.RowKit
set_option linter.unusedSimpArgs false
set_option linter.unusedVariables false

/-- a drawn complex with a list -/
def RetCxL (w : World) (e : Ending) (w' : World) : Prop := ∃ p ad n c xs ad' n' c' cs, e = .returned (.tuple #[.agg #[.int .i64 p, .slice ad n c], .slice ad' n' c']) ∧ Own 3 w' w.heap.size ad n c xs ∧ xs.length ≤ 1101 ∧ Own 3 w' w.heap.size ad' n' c' cs ∧ cs.length ≤ 1101 ∧ Below w.heap.size w w'

/-- a drawn complex alone -/
def RetCx (w : World) (e : Ending) (w' : World) : Prop := ∃ p ad n c xs, e = .returned (.agg #[.int .i64 p, .slice ad n c]) ∧ Own 3 w' w.heap.size ad n c xs ∧ xs.length ≤ 1101 ∧ Below w.heap.size w w'
end Go.Proofs.YtihfhfihladlcaaGreatDoor

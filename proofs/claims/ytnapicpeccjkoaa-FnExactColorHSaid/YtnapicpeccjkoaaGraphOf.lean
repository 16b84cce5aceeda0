/- Contracts of GraphOf, the program's and the reference's. -/
import Derived.Test.YtnapicpeccjkoaaFaces4
namespace Go.Proofs.Ytnapicpeccjkoaa
open Go.RowKit
set_option linter.unusedSimpArgs false
set_option linter.unusedVariables false


end Go.Proofs.Ytnapicpeccjkoaa

/- Contracts on ideals and complexes made of families of sets. -/
import Derived.Test.YtpoolkmcbeghjaaMake
import Derived.Test.YtpoolkmcbeghjaaMath2
import Derived.Test.YtpoolkmcbeghjaaPick
namespace Go.Proofs.Ytpoolkmcbeghjaa
set_option maxRecDepth 20000
open Go.RowKit
set_option linter.unusedSimpArgs false
set_option linter.unusedVariables false


end Go.Proofs.Ytpoolkmcbeghjaa

/- Contracts on ideals and complexes made of families of sets. -/
import Derived.Test.YtikehbbggdmcfaaPick
import Derived.Test.YtikehbbggdmcfaaMake
import Derived.Test.YtikehbbggdmcfaaMath3
namespace Go.Proofs.Ytikehbbggdmcfaa
open Go.RowKit
set_option linter.unusedSimpArgs false
set_option linter.unusedVariables false


end Go.Proofs.Ytikehbbggdmcfaa

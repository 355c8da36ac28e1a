import Derived.Test.YtcjbfoeiegecmaaA1
import Derived.Test.YtcjbfoeiegecmaaEngC
/- Contracts: sizes and copies of a talk. -/
namespace Go.Cap
open Go Go.Proofs
set_option maxRecDepth 100000
set_option linter.unusedSimpArgs false
set_option linter.unusedVariables false
attribute [local irreducible] Call Run Spec Le

end Go.Cap

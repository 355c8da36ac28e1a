import Derived.Test.YtcjbfoeiegecmaaV2
import Derived.Test.YtcjbfoeiegecmaaS2
/- Contracts: SideSaid of the program and of the reference. -/
namespace Go.Cap
open Go Go.Proofs
set_option maxRecDepth 100000
set_option linter.unusedSimpArgs false
set_option linter.unusedVariables false
attribute [local irreducible] Call Run Spec Le

end Go.Cap

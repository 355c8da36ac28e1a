import Derived.Test.YtcjbfoeiegecmaaD4
import Derived.Test.YtcjbfoeiegecmaaG7
import Derived.Test.YtcjbfoeiegecmaaP3
import Derived.Test.YtcjbfoeiegecmaaS2
/- Contracts: equality of assemblies, numbers among parts. -/
namespace Go.Cap
open Go Go.Proofs
set_option maxRecDepth 100000
set_option linter.unusedSimpArgs false
set_option linter.unusedVariables false
attribute [local irreducible] Call Run Spec Le

end Go.Cap

import Derived.Test.YtcjbfoeiegecmaaR2
/- Contracts: talks that are sometimes invalid; a talk and a side. -/
namespace Go.Cap
open Go Go.Proofs
set_option maxRecDepth 100000
set_option linter.unusedSimpArgs false
set_option linter.unusedVariables false
attribute [local irreducible] Call Run Spec Le

end Go.Cap

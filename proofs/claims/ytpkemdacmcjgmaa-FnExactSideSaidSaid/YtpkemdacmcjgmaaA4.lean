import Derived.Test.YtpkemdacmcjgmaaA3
/- Talks that came in. -/
namespace Go.Cap
open Go Go.Proofs
set_option maxRecDepth 100000
set_option linter.unusedSimpArgs false
set_option linter.unusedVariables false
attribute [local irreducible] Call Run Spec Le

end Go.Cap

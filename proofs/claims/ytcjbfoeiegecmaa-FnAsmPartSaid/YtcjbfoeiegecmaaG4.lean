import Derived.Test.YtcjbfoeiegecmaaG6
import Derived.Test.YtcjbfoeiegecmaaN9
/- Contracts: the ordered messages of a stream; what an assembly gives of a talk's parts. -/
namespace Go.Cap
open Go Go.Proofs
set_option maxRecDepth 100000
set_option linter.unusedSimpArgs false
set_option linter.unusedVariables false
attribute [local irreducible] Call Run Spec Le

end Go.Cap

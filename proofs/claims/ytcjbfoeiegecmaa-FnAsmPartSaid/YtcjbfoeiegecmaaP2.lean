import Derived.Test.YtcjbfoeiegecmaaP1
import Derived.Test.YtcjbfoeiegecmaaM2
import Derived.Test.YtcjbfoeiegecmaaEngC
/- Contracts: the program's parts. -/
namespace Go.Cap
open Go Go.Proofs
set_option maxRecDepth 100000
set_option linter.unusedSimpArgs false
set_option linter.unusedVariables false
attribute [local irreducible] Call Run Spec Le

@[go_sem] theorem cnts_len (f g : List Data) : (cnts f g).length = 8 := (rfl)
end Go.Cap

import Derived.Test.YtcjbfoeiegecmaaG5
/- Plain facts on settling: numbers, messages without order, bytes. -/
namespace Go.Cap
open Go Go.Proofs
set_option linter.unusedSimpArgs false
set_option linter.unusedVariables false

end Go.Cap

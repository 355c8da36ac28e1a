import Derived.Test.YtcjbfoeiegecmaaH1
import Derived.Test.YtcjbfoeiegecmaaN9
import Derived.Test.YtcjbfoeiegecmaaG4
/- Plain facts on runs of assemblies: prefixes, numbers of messages. -/
namespace Go.Cap
open Go Go.Proofs
set_option linter.unusedSimpArgs false
set_option linter.unusedVariables false

end Go.Cap

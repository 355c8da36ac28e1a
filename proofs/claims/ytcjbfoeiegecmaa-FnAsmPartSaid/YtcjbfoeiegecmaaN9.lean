import Derived.Test.YtcjbfoeiegecmaaN8
import Derived.Test.YtcjbfoeiegecmaaG2
/- Contracts: an assembly's run (the program's). -/
namespace Go.Cap
open Go Go.Proofs
set_option maxRecDepth 100000
set_option linter.unusedSimpArgs false
set_option linter.unusedVariables false
attribute [local irreducible] Call Run Spec Le

theorem intClosed (l : List Int) : closL2 (l.map intRow) := closL2_map (fun s x hx => by
  simp only [intRow, List.mem_cons, List.not_mem_nil, or_false] at hx
  rcases hx with rfl; rfl) l
end Go.Cap

import Derived.Test.YtpkemdacmcjgmaaA1
import Derived.Test.YtpkemdacmcjgmaaEngC
/- Contracts: sizes and copies of a talk. -/
namespace Go.Cap
open Go Go.Proofs
set_option maxRecDepth 100000
set_option linter.unusedSimpArgs false
set_option linter.unusedVariables false
attribute [local irreducible] Call Run Spec Le

theorem sayClosed (l : List Say) : closL2 (l.map Say.row) := closL2_map (fun s x hx => by
  simp only [Say.row, List.mem_cons, List.not_mem_nil, or_false] at hx
  rcases hx with rfl | rfl | rfl | rfl <;> rfl) l

end Go.Cap

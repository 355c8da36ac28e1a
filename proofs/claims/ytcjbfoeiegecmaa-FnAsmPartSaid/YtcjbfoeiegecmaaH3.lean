import Derived.Test.YtcjbfoeiegecmaaH2
import Derived.Test.YtcjbfoeiegecmaaQ4
import Derived.Test.YtcjbfoeiegecmaaEngC
/- Contracts: runs of assemblies, as data. -/
namespace Go.Cap
open Go Go.Proofs
set_option maxRecDepth 100000
set_option linter.unusedSimpArgs false
set_option linter.unusedVariables false
attribute [local irreducible] Call Run Spec Le

theorem rowsN_map {α : Type} {f : α → List RV} {n : Nat} (h : ∀ a, (f a).length = n) (l : List α) : rowsN n (l.map f) := fun r hr => by
  obtain ⟨a, _, rfl⟩ := List.mem_map.1 hr
  exact h a
end Go.Cap

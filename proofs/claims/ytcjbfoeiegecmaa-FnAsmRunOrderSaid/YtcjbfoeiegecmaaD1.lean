import Derived.Test.YtcjbfoeiegecmaaR2
import Derived.Test.YtcjbfoeiegecmaaV2
/- Contracts: drawn texts and parts. -/
namespace Go.Cap
open Go Go.Proofs
set_option maxRecDepth 100000
set_option linter.unusedSimpArgs false
set_option linter.unusedVariables false
attribute [local irreducible] Call Run Spec Le

@[go_sem] theorem frzPH_rd (b n0 j : Nat) (code : List UInt8) (p : Int) (l : List (Nat × Blk)) : frzPH b n0 ((j, rdB code p) :: l) = (True ∧ frzPH b n0 l) := by
  simp only [rdB, frzPH, frzPB, frzP.frzPL, frzP, and_self]
@[go_sem] theorem frzH_rd (b : Nat) (L : List (List RV)) (j : Nat) (code : List UInt8) (p : Int) (l : List (Nat × Blk)) : frzH b L ((j, rdB code p) :: l) = (j, rdB code p) :: frzH b L l := (rfl)
end Go.Cap

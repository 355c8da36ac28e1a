import Derived.Test.YtcjbfoeiegecmaaV1
/- Contracts: a valid side, and what it said. -/
namespace Go.Cap
open Go Go.Proofs
set_option maxRecDepth 100000
set_option linter.unusedSimpArgs false
set_option linter.unusedVariables false
attribute [local irreducible] Call Run Spec Le

structure Side where
  tag : Int
  streams : Int
  first : Int
  sent : List Data
  acked : Int
def Side.av (s : Side) (x : AV) : AV := .agg [.i s.tag, .i s.streams, .i s.first, x, .i s.acked]
def Side.ro (s : Side) : AV := s.av (.r (.ro none (s.sent.map Data.row)))
theorem s_SerialAdd1 (a n : Int) (h : serialB a = true) : Spec Try.prog 31 0 [] [.i a, .i n] (fun r _ _ _ => r = .i (l3 a n)) := by
  have := s_SerialAdd a n; rwa [if_pos h] at this
end Go.Cap

import Derived.Test.YtpkemdacmcjgmaaPc
import Derived.Test.YtpkemdacmcjgmaaEngC
import Derived.Test.YtpkemdacmcjgmaaA4
/- Contracts: the reader of a code, and small draws. -/
namespace Go.Cap
open Go Go.Proofs
set_option maxRecDepth 100000
set_option linter.unusedSimpArgs false
set_option linter.unusedVariables false
attribute [local irreducible] Call Run Spec Le

def byteRow (b : UInt8) : List RV := [.n .u8 b.toNat]
def rdB (code : List UInt8) (p : Int) : Blk := .var [.r (.ro none (code.map byteRow)), .i p]

@[go_sem] theorem renB_rd (f : Nat → Nat) (code : List UInt8) (p : Int) : renB f (rdB code p) = rdB code p := (rfl)
@[go_sem] theorem killH_rd (b j : Nat) (code : List UInt8) (p : Int) (l : List (Nat × Blk)) : killH b ((j, rdB code p) :: l) = (j, rdB code p) :: killH b l := (rfl)

end Go.Cap

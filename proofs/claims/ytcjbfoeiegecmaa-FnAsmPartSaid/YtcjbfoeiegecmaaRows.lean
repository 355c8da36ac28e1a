/-
  No cell of these rows narrows 'for every input' (looked for: loops, veiled, ifaces, maps, wideKeys, modest, calm, conditions, laid).
  DERIVED. THE GIVEN ROWS OF THIS SEAT. 12 by the template 'for every input the law returns true; each argument reads behind the call as it read before'; 0 by the template 'total and deterministic' (their statements: YtcjbfoeiegecmaaTotals.lean).
  GIVEN WITH THE SEED: the statements are not yours to turn. If you find one false, say at which input.
  Laid BY PROGRAM, IN A SANDBOX (cutbox-rows.mjs): the forced cells as the released guide's own fill.sh prints them over the translation 5592e9e4e7d1884e… (all of the seat's roots in one cut). By AI agents, Wed Nov 11 2026. No macro, syntax, notation, axiom, sorry.
-/
import Derived.Test.YtcjbfoeiegecmaaChecked
import GoSem.Claim
import GoSem.ClaimJoined
import GoSem.ClaimMapViews
import Derived.JoinedTies
import Derived.KernelRfl
namespace Go.Proofs.Ytcjbfoeiegecmaa
/- THE CELL 'sum', in the pinned program and in every row, IS THE sha256 OF THE DUMP (.gsa) THAT YtcjbfoeiegecmaaProg.lean LOADS. Nothing in Lean hashes anything: it is a label: what it is worth is what the hold of that sum in a sandbox is worth. -/
noncomputable def Try.pinned : Pinned := { name := "ytcjbfoeiegecmaa", sum := "5592e9e4e7d1884e67ce51bace6b7f18e6980db32832e43996243c688fd5b8a5", checked := Try.checked }
namespace Rows
def none {H : Type} : Left H := { results := [], args := [] }

/-- 'laws.FnAsmPart': WHATEVER THE INPUT: true; the input reads as it did. -/
def fnAsmPartSpec : ChangeSpec := { name := "fnAsmPart", fn := fun _ => fun
  | [d1, d2] => { results := [.lit (.bool true)], args := [d1, d2] }
  | _ => none }
def fnAsmPartRow : OpenClaim := { program := "ytcjbfoeiegecmaa", sum := "5592e9e4e7d1884e67ce51bace6b7f18e6980db32832e43996243c688fd5b8a5", func := "loop.example/capturemonitor/laws.FnAsmPart", spec := "fnAsmPart", apart := false }
def FnAsmPartSaid : Prop := fnAsmPartRow.holds Try.pinned (OpenSpec.ofChange fnAsmPartSpec)

/-- ITS FALSE NEIGHBOUR: 'it returns false'. Refute it at one input. -/
def fnAsmPartWrong : ChangeSpec := { name := "fnAsmPart", fn := fun _ => fun
  | [d1, d2] => { results := [.lit (.bool false)], args := [d1, d2] }
  | _ => none }
def FnAsmPartWrongFalsely : Prop := fnAsmPartRow.holds Try.pinned (OpenSpec.ofChange fnAsmPartWrong)

/-- 'laws.FnAsmRun': WHATEVER THE INPUT: true; the input reads as it did. -/
def fnAsmRunSpec : ChangeSpec := { name := "fnAsmRun", fn := fun _ => fun
  | [d] => { results := [.lit (.bool true)], args := [d] }
  | _ => none }
def fnAsmRunRow : OpenClaim := { program := "ytcjbfoeiegecmaa", sum := "5592e9e4e7d1884e67ce51bace6b7f18e6980db32832e43996243c688fd5b8a5", func := "loop.example/capturemonitor/laws.FnAsmRun", spec := "fnAsmRun", apart := false }
def FnAsmRunSaid : Prop := fnAsmRunRow.holds Try.pinned (OpenSpec.ofChange fnAsmRunSpec)

/-- ITS FALSE NEIGHBOUR: 'it returns false'. Refute it at one input. -/
def fnAsmRunWrong : ChangeSpec := { name := "fnAsmRun", fn := fun _ => fun
  | [d] => { results := [.lit (.bool false)], args := [d] }
  | _ => none }
def FnAsmRunWrongFalsely : Prop := fnAsmRunRow.holds Try.pinned (OpenSpec.ofChange fnAsmRunWrong)

/-- 'laws.FnAsmRunPart': WHATEVER THE INPUT: true; the input reads as it did. -/
def fnAsmRunPartSpec : ChangeSpec := { name := "fnAsmRunPart", fn := fun _ => fun
  | [d1, d2] => { results := [.lit (.bool true)], args := [d1, d2] }
  | _ => none }
def fnAsmRunPartRow : OpenClaim := { program := "ytcjbfoeiegecmaa", sum := "5592e9e4e7d1884e67ce51bace6b7f18e6980db32832e43996243c688fd5b8a5", func := "loop.example/capturemonitor/laws.FnAsmRunPart", spec := "fnAsmRunPart", apart := false }
def FnAsmRunPartSaid : Prop := fnAsmRunPartRow.holds Try.pinned (OpenSpec.ofChange fnAsmRunPartSpec)

/-- ITS FALSE NEIGHBOUR: 'it returns false'. Refute it at one input. -/
def fnAsmRunPartWrong : ChangeSpec := { name := "fnAsmRunPart", fn := fun _ => fun
  | [d1, d2] => { results := [.lit (.bool false)], args := [d1, d2] }
  | _ => none }
def FnAsmRunPartWrongFalsely : Prop := fnAsmRunPartRow.holds Try.pinned (OpenSpec.ofChange fnAsmRunPartWrong)

/-- 'laws.FnAsmRunOrder': WHATEVER THE INPUT: true; the input reads as it did. -/
def fnAsmRunOrderSpec : ChangeSpec := { name := "fnAsmRunOrder", fn := fun _ => fun
  | [d] => { results := [.lit (.bool true)], args := [d] }
  | _ => none }
def fnAsmRunOrderRow : OpenClaim := { program := "ytcjbfoeiegecmaa", sum := "5592e9e4e7d1884e67ce51bace6b7f18e6980db32832e43996243c688fd5b8a5", func := "loop.example/capturemonitor/laws.FnAsmRunOrder", spec := "fnAsmRunOrder", apart := false }
def FnAsmRunOrderSaid : Prop := fnAsmRunOrderRow.holds Try.pinned (OpenSpec.ofChange fnAsmRunOrderSpec)

/-- ITS FALSE NEIGHBOUR: 'it returns false'. Refute it at one input. -/
def fnAsmRunOrderWrong : ChangeSpec := { name := "fnAsmRunOrder", fn := fun _ => fun
  | [d] => { results := [.lit (.bool false)], args := [d] }
  | _ => none }
def FnAsmRunOrderWrongFalsely : Prop := fnAsmRunOrderRow.holds Try.pinned (OpenSpec.ofChange fnAsmRunOrderWrong)

/-- 'laws.FnAsmFull': WHATEVER THE INPUT: true; the input reads as it did. -/
def fnAsmFullSpec : ChangeSpec := { name := "fnAsmFull", fn := fun _ => fun
  | [d] => { results := [.lit (.bool true)], args := [d] }
  | _ => none }
def fnAsmFullRow : OpenClaim := { program := "ytcjbfoeiegecmaa", sum := "5592e9e4e7d1884e67ce51bace6b7f18e6980db32832e43996243c688fd5b8a5", func := "loop.example/capturemonitor/laws.FnAsmFull", spec := "fnAsmFull", apart := false }
def FnAsmFullSaid : Prop := fnAsmFullRow.holds Try.pinned (OpenSpec.ofChange fnAsmFullSpec)

/-- ITS FALSE NEIGHBOUR: 'it returns false'. Refute it at one input. -/
def fnAsmFullWrong : ChangeSpec := { name := "fnAsmFull", fn := fun _ => fun
  | [d] => { results := [.lit (.bool false)], args := [d] }
  | _ => none }
def FnAsmFullWrongFalsely : Prop := fnAsmFullRow.holds Try.pinned (OpenSpec.ofChange fnAsmFullWrong)

/-- 'laws.FnAsmLoose': WHATEVER THE INPUT: true; the input reads as it did. -/
def fnAsmLooseSpec : ChangeSpec := { name := "fnAsmLoose", fn := fun _ => fun
  | [d] => { results := [.lit (.bool true)], args := [d] }
  | _ => none }
def fnAsmLooseRow : OpenClaim := { program := "ytcjbfoeiegecmaa", sum := "5592e9e4e7d1884e67ce51bace6b7f18e6980db32832e43996243c688fd5b8a5", func := "loop.example/capturemonitor/laws.FnAsmLoose", spec := "fnAsmLoose", apart := false }
def FnAsmLooseSaid : Prop := fnAsmLooseRow.holds Try.pinned (OpenSpec.ofChange fnAsmLooseSpec)

/-- ITS FALSE NEIGHBOUR: 'it returns false'. Refute it at one input. -/
def fnAsmLooseWrong : ChangeSpec := { name := "fnAsmLoose", fn := fun _ => fun
  | [d] => { results := [.lit (.bool false)], args := [d] }
  | _ => none }
def FnAsmLooseWrongFalsely : Prop := fnAsmLooseRow.holds Try.pinned (OpenSpec.ofChange fnAsmLooseWrong)

/-- 'laws.FnAsmWait': WHATEVER THE INPUT: true; the input reads as it did. -/
def fnAsmWaitSpec : ChangeSpec := { name := "fnAsmWait", fn := fun _ => fun
  | [d] => { results := [.lit (.bool true)], args := [d] }
  | _ => none }
def fnAsmWaitRow : OpenClaim := { program := "ytcjbfoeiegecmaa", sum := "5592e9e4e7d1884e67ce51bace6b7f18e6980db32832e43996243c688fd5b8a5", func := "loop.example/capturemonitor/laws.FnAsmWait", spec := "fnAsmWait", apart := false }
def FnAsmWaitSaid : Prop := fnAsmWaitRow.holds Try.pinned (OpenSpec.ofChange fnAsmWaitSpec)

/-- ITS FALSE NEIGHBOUR: 'it returns false'. Refute it at one input. -/
def fnAsmWaitWrong : ChangeSpec := { name := "fnAsmWait", fn := fun _ => fun
  | [d] => { results := [.lit (.bool false)], args := [d] }
  | _ => none }
def FnAsmWaitWrongFalsely : Prop := fnAsmWaitRow.holds Try.pinned (OpenSpec.ofChange fnAsmWaitWrong)

/-- 'laws.FnAsmAdd': WHATEVER THE INPUT: true; the input reads as it did. -/
def fnAsmAddSpec : ChangeSpec := { name := "fnAsmAdd", fn := fun _ => fun
  | [d] => { results := [.lit (.bool true)], args := [d] }
  | _ => none }
def fnAsmAddRow : OpenClaim := { program := "ytcjbfoeiegecmaa", sum := "5592e9e4e7d1884e67ce51bace6b7f18e6980db32832e43996243c688fd5b8a5", func := "loop.example/capturemonitor/laws.FnAsmAdd", spec := "fnAsmAdd", apart := false }
def FnAsmAddSaid : Prop := fnAsmAddRow.holds Try.pinned (OpenSpec.ofChange fnAsmAddSpec)

/-- ITS FALSE NEIGHBOUR: 'it returns false'. Refute it at one input. -/
def fnAsmAddWrong : ChangeSpec := { name := "fnAsmAdd", fn := fun _ => fun
  | [d] => { results := [.lit (.bool false)], args := [d] }
  | _ => none }
def FnAsmAddWrongFalsely : Prop := fnAsmAddRow.holds Try.pinned (OpenSpec.ofChange fnAsmAddWrong)

/-- 'laws.FnAsmAgain': WHATEVER THE INPUT: true; the input reads as it did. -/
def fnAsmAgainSpec : ChangeSpec := { name := "fnAsmAgain", fn := fun _ => fun
  | [d] => { results := [.lit (.bool true)], args := [d] }
  | _ => none }
def fnAsmAgainRow : OpenClaim := { program := "ytcjbfoeiegecmaa", sum := "5592e9e4e7d1884e67ce51bace6b7f18e6980db32832e43996243c688fd5b8a5", func := "loop.example/capturemonitor/laws.FnAsmAgain", spec := "fnAsmAgain", apart := false }
def FnAsmAgainSaid : Prop := fnAsmAgainRow.holds Try.pinned (OpenSpec.ofChange fnAsmAgainSpec)

/-- ITS FALSE NEIGHBOUR: 'it returns false'. Refute it at one input. -/
def fnAsmAgainWrong : ChangeSpec := { name := "fnAsmAgain", fn := fun _ => fun
  | [d] => { results := [.lit (.bool false)], args := [d] }
  | _ => none }
def FnAsmAgainWrongFalsely : Prop := fnAsmAgainRow.holds Try.pinned (OpenSpec.ofChange fnAsmAgainWrong)

/-- 'laws.FnAsmTwice': WHATEVER THE INPUT: true; the input reads as it did. -/
def fnAsmTwiceSpec : ChangeSpec := { name := "fnAsmTwice", fn := fun _ => fun
  | [d] => { results := [.lit (.bool true)], args := [d] }
  | _ => none }
def fnAsmTwiceRow : OpenClaim := { program := "ytcjbfoeiegecmaa", sum := "5592e9e4e7d1884e67ce51bace6b7f18e6980db32832e43996243c688fd5b8a5", func := "loop.example/capturemonitor/laws.FnAsmTwice", spec := "fnAsmTwice", apart := false }
def FnAsmTwiceSaid : Prop := fnAsmTwiceRow.holds Try.pinned (OpenSpec.ofChange fnAsmTwiceSpec)

/-- ITS FALSE NEIGHBOUR: 'it returns false'. Refute it at one input. -/
def fnAsmTwiceWrong : ChangeSpec := { name := "fnAsmTwice", fn := fun _ => fun
  | [d] => { results := [.lit (.bool false)], args := [d] }
  | _ => none }
def FnAsmTwiceWrongFalsely : Prop := fnAsmTwiceRow.holds Try.pinned (OpenSpec.ofChange fnAsmTwiceWrong)

/-- 'laws.FnAsmNext': WHATEVER THE INPUT: true; the input reads as it did. -/
def fnAsmNextSpec : ChangeSpec := { name := "fnAsmNext", fn := fun _ => fun
  | [d] => { results := [.lit (.bool true)], args := [d] }
  | _ => none }
def fnAsmNextRow : OpenClaim := { program := "ytcjbfoeiegecmaa", sum := "5592e9e4e7d1884e67ce51bace6b7f18e6980db32832e43996243c688fd5b8a5", func := "loop.example/capturemonitor/laws.FnAsmNext", spec := "fnAsmNext", apart := false }
def FnAsmNextSaid : Prop := fnAsmNextRow.holds Try.pinned (OpenSpec.ofChange fnAsmNextSpec)

/-- ITS FALSE NEIGHBOUR: 'it returns false'. Refute it at one input. -/
def fnAsmNextWrong : ChangeSpec := { name := "fnAsmNext", fn := fun _ => fun
  | [d] => { results := [.lit (.bool false)], args := [d] }
  | _ => none }
def FnAsmNextWrongFalsely : Prop := fnAsmNextRow.holds Try.pinned (OpenSpec.ofChange fnAsmNextWrong)

/-- 'laws.FnAsmOrder': WHATEVER THE INPUT: true; the input reads as it did. -/
def fnAsmOrderSpec : ChangeSpec := { name := "fnAsmOrder", fn := fun _ => fun
  | [d] => { results := [.lit (.bool true)], args := [d] }
  | _ => none }
def fnAsmOrderRow : OpenClaim := { program := "ytcjbfoeiegecmaa", sum := "5592e9e4e7d1884e67ce51bace6b7f18e6980db32832e43996243c688fd5b8a5", func := "loop.example/capturemonitor/laws.FnAsmOrder", spec := "fnAsmOrder", apart := false }
def FnAsmOrderSaid : Prop := fnAsmOrderRow.holds Try.pinned (OpenSpec.ofChange fnAsmOrderSpec)

/-- ITS FALSE NEIGHBOUR: 'it returns false'. Refute it at one input. -/
def fnAsmOrderWrong : ChangeSpec := { name := "fnAsmOrder", fn := fun _ => fun
  | [d] => { results := [.lit (.bool false)], args := [d] }
  | _ => none }
def FnAsmOrderWrongFalsely : Prop := fnAsmOrderRow.holds Try.pinned (OpenSpec.ofChange fnAsmOrderWrong)

/- THE SECOND FORM. 'bulk': how many values and letters a reading holds, each counted each time it is reached (what is shared counts as often as it is met; a slice's spare places count too). A statement '..UptoSaid' is the law's where the arguments, and the package variables that the reading takes, are together of bulk at most 1048576: NARROWER than '..Said'. Prove '..Said' where nothing that the law and all that it calls make is longer than what came in: it says more and counts as full. Else prove '..UptoSaid'. A law counts once. -/
mutual
def uptoBulk {H : Type} : DataW H → Nat
  | .lit (.string bytes) => bytes.length + 1
  | .lit _ => 1
  | .nil => 1
  | .ptr d => uptoBulk d + 1
  | .slice elems spare => uptoBulkAll elems + uptoBulkAll spare + 1
  | .agg parts => uptoBulkAll parts + 1
  | .iface _ d => uptoBulk d + 1
  | .map entries => uptoBulkEntries entries + 1
  | .held _ => 1
def uptoBulkAll {H : Type} : List (DataW H) → Nat
  | [] => 0
  | d :: r => uptoBulk d + uptoBulkAll r
def uptoBulkEntries {H : Type} : List (Lit × DataW H) → Nat
  | [] => 0
  | x :: r => uptoBulkEntry x + uptoBulkEntries r
def uptoBulkEntry {H : Type} : Lit × DataW H → Nat
  | (.string bytes, d) => bytes.length + uptoBulk d + 1
  | (_, d) => uptoBulk d + 1
 end
def uptoSmall : (H : Type) → List (DataW H) → Bool := fun _ ds => decide (uptoBulkAll ds ≤ 1048576)
def OpenSpec.upto (s : _root_.Go.ChangeSpec) : _root_.Go.OpenSpec := { _root_.Go.OpenSpec.ofChange s with cond := some uptoSmall }

/-- 'laws.FnAsmPart', WHERE WHAT IT READS IS OF BULK AT MOST 1048576: true; the input reads as it did. -/
def fnAsmPartUptoRow : OpenClaim := { program := "ytcjbfoeiegecmaa", sum := "5592e9e4e7d1884e67ce51bace6b7f18e6980db32832e43996243c688fd5b8a5", func := "loop.example/capturemonitor/laws.FnAsmPart", spec := "fnAsmPart", apart := false, narrowed := true }
def FnAsmPartUptoSaid : Prop := fnAsmPartUptoRow.holds Try.pinned (OpenSpec.upto fnAsmPartSpec)

/-- 'laws.FnAsmRun', WHERE WHAT IT READS IS OF BULK AT MOST 1048576: true; the input reads as it did. -/
def fnAsmRunUptoRow : OpenClaim := { program := "ytcjbfoeiegecmaa", sum := "5592e9e4e7d1884e67ce51bace6b7f18e6980db32832e43996243c688fd5b8a5", func := "loop.example/capturemonitor/laws.FnAsmRun", spec := "fnAsmRun", apart := false, narrowed := true }
def FnAsmRunUptoSaid : Prop := fnAsmRunUptoRow.holds Try.pinned (OpenSpec.upto fnAsmRunSpec)

/-- 'laws.FnAsmRunPart', WHERE WHAT IT READS IS OF BULK AT MOST 1048576: true; the input reads as it did. -/
def fnAsmRunPartUptoRow : OpenClaim := { program := "ytcjbfoeiegecmaa", sum := "5592e9e4e7d1884e67ce51bace6b7f18e6980db32832e43996243c688fd5b8a5", func := "loop.example/capturemonitor/laws.FnAsmRunPart", spec := "fnAsmRunPart", apart := false, narrowed := true }
def FnAsmRunPartUptoSaid : Prop := fnAsmRunPartUptoRow.holds Try.pinned (OpenSpec.upto fnAsmRunPartSpec)

/-- 'laws.FnAsmRunOrder', WHERE WHAT IT READS IS OF BULK AT MOST 1048576: true; the input reads as it did. -/
def fnAsmRunOrderUptoRow : OpenClaim := { program := "ytcjbfoeiegecmaa", sum := "5592e9e4e7d1884e67ce51bace6b7f18e6980db32832e43996243c688fd5b8a5", func := "loop.example/capturemonitor/laws.FnAsmRunOrder", spec := "fnAsmRunOrder", apart := false, narrowed := true }
def FnAsmRunOrderUptoSaid : Prop := fnAsmRunOrderUptoRow.holds Try.pinned (OpenSpec.upto fnAsmRunOrderSpec)

/-- 'laws.FnAsmFull', WHERE WHAT IT READS IS OF BULK AT MOST 1048576: true; the input reads as it did. -/
def fnAsmFullUptoRow : OpenClaim := { program := "ytcjbfoeiegecmaa", sum := "5592e9e4e7d1884e67ce51bace6b7f18e6980db32832e43996243c688fd5b8a5", func := "loop.example/capturemonitor/laws.FnAsmFull", spec := "fnAsmFull", apart := false, narrowed := true }
def FnAsmFullUptoSaid : Prop := fnAsmFullUptoRow.holds Try.pinned (OpenSpec.upto fnAsmFullSpec)

/-- 'laws.FnAsmLoose', WHERE WHAT IT READS IS OF BULK AT MOST 1048576: true; the input reads as it did. -/
def fnAsmLooseUptoRow : OpenClaim := { program := "ytcjbfoeiegecmaa", sum := "5592e9e4e7d1884e67ce51bace6b7f18e6980db32832e43996243c688fd5b8a5", func := "loop.example/capturemonitor/laws.FnAsmLoose", spec := "fnAsmLoose", apart := false, narrowed := true }
def FnAsmLooseUptoSaid : Prop := fnAsmLooseUptoRow.holds Try.pinned (OpenSpec.upto fnAsmLooseSpec)

/-- 'laws.FnAsmWait', WHERE WHAT IT READS IS OF BULK AT MOST 1048576: true; the input reads as it did. -/
def fnAsmWaitUptoRow : OpenClaim := { program := "ytcjbfoeiegecmaa", sum := "5592e9e4e7d1884e67ce51bace6b7f18e6980db32832e43996243c688fd5b8a5", func := "loop.example/capturemonitor/laws.FnAsmWait", spec := "fnAsmWait", apart := false, narrowed := true }
def FnAsmWaitUptoSaid : Prop := fnAsmWaitUptoRow.holds Try.pinned (OpenSpec.upto fnAsmWaitSpec)

/-- 'laws.FnAsmAdd', WHERE WHAT IT READS IS OF BULK AT MOST 1048576: true; the input reads as it did. -/
def fnAsmAddUptoRow : OpenClaim := { program := "ytcjbfoeiegecmaa", sum := "5592e9e4e7d1884e67ce51bace6b7f18e6980db32832e43996243c688fd5b8a5", func := "loop.example/capturemonitor/laws.FnAsmAdd", spec := "fnAsmAdd", apart := false, narrowed := true }
def FnAsmAddUptoSaid : Prop := fnAsmAddUptoRow.holds Try.pinned (OpenSpec.upto fnAsmAddSpec)

/-- 'laws.FnAsmAgain', WHERE WHAT IT READS IS OF BULK AT MOST 1048576: true; the input reads as it did. -/
def fnAsmAgainUptoRow : OpenClaim := { program := "ytcjbfoeiegecmaa", sum := "5592e9e4e7d1884e67ce51bace6b7f18e6980db32832e43996243c688fd5b8a5", func := "loop.example/capturemonitor/laws.FnAsmAgain", spec := "fnAsmAgain", apart := false, narrowed := true }
def FnAsmAgainUptoSaid : Prop := fnAsmAgainUptoRow.holds Try.pinned (OpenSpec.upto fnAsmAgainSpec)

/-- 'laws.FnAsmTwice', WHERE WHAT IT READS IS OF BULK AT MOST 1048576: true; the input reads as it did. -/
def fnAsmTwiceUptoRow : OpenClaim := { program := "ytcjbfoeiegecmaa", sum := "5592e9e4e7d1884e67ce51bace6b7f18e6980db32832e43996243c688fd5b8a5", func := "loop.example/capturemonitor/laws.FnAsmTwice", spec := "fnAsmTwice", apart := false, narrowed := true }
def FnAsmTwiceUptoSaid : Prop := fnAsmTwiceUptoRow.holds Try.pinned (OpenSpec.upto fnAsmTwiceSpec)

/-- 'laws.FnAsmNext', WHERE WHAT IT READS IS OF BULK AT MOST 1048576: true; the input reads as it did. -/
def fnAsmNextUptoRow : OpenClaim := { program := "ytcjbfoeiegecmaa", sum := "5592e9e4e7d1884e67ce51bace6b7f18e6980db32832e43996243c688fd5b8a5", func := "loop.example/capturemonitor/laws.FnAsmNext", spec := "fnAsmNext", apart := false, narrowed := true }
def FnAsmNextUptoSaid : Prop := fnAsmNextUptoRow.holds Try.pinned (OpenSpec.upto fnAsmNextSpec)

/-- 'laws.FnAsmOrder', WHERE WHAT IT READS IS OF BULK AT MOST 1048576: true; the input reads as it did. -/
def fnAsmOrderUptoRow : OpenClaim := { program := "ytcjbfoeiegecmaa", sum := "5592e9e4e7d1884e67ce51bace6b7f18e6980db32832e43996243c688fd5b8a5", func := "loop.example/capturemonitor/laws.FnAsmOrder", spec := "fnAsmOrder", apart := false, narrowed := true }
def FnAsmOrderUptoSaid : Prop := fnAsmOrderUptoRow.holds Try.pinned (OpenSpec.upto fnAsmOrderSpec)

end Rows
end Go.Proofs.Ytcjbfoeiegecmaa

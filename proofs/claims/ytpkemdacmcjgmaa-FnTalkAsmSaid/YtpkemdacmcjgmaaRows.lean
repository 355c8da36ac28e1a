/-
  No cell of these rows narrows 'for every input' (looked for: loops, veiled, ifaces, maps, wideKeys, modest, calm, conditions, laid).
  DERIVED. THE GIVEN ROWS OF THIS SEAT. 12 by the template 'for every input the law returns true; each argument reads behind the call as it read before'; 0 by the template 'total and deterministic' (their statements: YtpkemdacmcjgmaaTotals.lean).
  GIVEN WITH THE SEED: the statements are not yours to turn. If you find one false, say at which input.
  Laid BY PROGRAM, IN A SANDBOX (cutbox-rows.mjs): the forced cells as the released guide's own fill.sh prints them over the translation 9c1ac4b33199604b… (all of the seat's roots in one cut). By AI agents, Wed Nov 11 2026. No macro, syntax, notation, axiom, sorry.
-/
import Derived.Test.YtpkemdacmcjgmaaChecked
import GoSem.Claim
import GoSem.ClaimJoined
import GoSem.ClaimMapViews
import Derived.JoinedTies
import Derived.KernelRfl
namespace Go.Proofs.Ytpkemdacmcjgmaa
/- THE CELL 'sum', in the pinned program and in every row, IS THE sha256 OF THE DUMP (.gsa) THAT YtpkemdacmcjgmaaProg.lean LOADS. Nothing in Lean hashes anything: it is a label: what it is worth is what the hold of that sum in a sandbox is worth. -/
noncomputable def Try.pinned : Pinned := { name := "ytpkemdacmcjgmaa", sum := "9c1ac4b33199604b27e3ba177b9a3c12d06eb340e33bc47083eba3eb32ef61d7", checked := Try.checked }
namespace Rows
def none {H : Type} : Left H := { results := [], args := [] }

/-- 'laws.FnExactTalkValid': WHATEVER THE INPUT: true; the input reads as it did. -/
def fnExactTalkValidSpec : ChangeSpec := { name := "fnExactTalkValid", fn := fun _ => fun
  | [d] => { results := [.lit (.bool true)], args := [d] }
  | _ => none }
def fnExactTalkValidRow : OpenClaim := { program := "ytpkemdacmcjgmaa", sum := "9c1ac4b33199604b27e3ba177b9a3c12d06eb340e33bc47083eba3eb32ef61d7", func := "loop.example/capturemonitor/laws.FnExactTalkValid", spec := "fnExactTalkValid", apart := false }
def FnExactTalkValidSaid : Prop := fnExactTalkValidRow.holds Try.pinned (OpenSpec.ofChange fnExactTalkValidSpec)

/-- ITS FALSE NEIGHBOUR: 'it returns false'. Refute it at one input. -/
def fnExactTalkValidWrong : ChangeSpec := { name := "fnExactTalkValid", fn := fun _ => fun
  | [d] => { results := [.lit (.bool false)], args := [d] }
  | _ => none }
def FnExactTalkValidWrongFalsely : Prop := fnExactTalkValidRow.holds Try.pinned (OpenSpec.ofChange fnExactTalkValidWrong)

/-- 'laws.FnTalkSaid': WHATEVER THE INPUT: true; the input reads as it did. -/
def fnTalkSaidSpec : ChangeSpec := { name := "fnTalkSaid", fn := fun _ => fun
  | [d] => { results := [.lit (.bool true)], args := [d] }
  | _ => none }
def fnTalkSaidRow : OpenClaim := { program := "ytpkemdacmcjgmaa", sum := "9c1ac4b33199604b27e3ba177b9a3c12d06eb340e33bc47083eba3eb32ef61d7", func := "loop.example/capturemonitor/laws.FnTalkSaid", spec := "fnTalkSaid", apart := false }
def FnTalkSaidSaid : Prop := fnTalkSaidRow.holds Try.pinned (OpenSpec.ofChange fnTalkSaidSpec)

/-- ITS FALSE NEIGHBOUR: 'it returns false'. Refute it at one input. -/
def fnTalkSaidWrong : ChangeSpec := { name := "fnTalkSaid", fn := fun _ => fun
  | [d] => { results := [.lit (.bool false)], args := [d] }
  | _ => none }
def FnTalkSaidWrongFalsely : Prop := fnTalkSaidRow.holds Try.pinned (OpenSpec.ofChange fnTalkSaidWrong)

/-- 'laws.FnTalkParts': WHATEVER THE INPUT: true; the input reads as it did. -/
def fnTalkPartsSpec : ChangeSpec := { name := "fnTalkParts", fn := fun _ => fun
  | [d] => { results := [.lit (.bool true)], args := [d] }
  | _ => none }
def fnTalkPartsRow : OpenClaim := { program := "ytpkemdacmcjgmaa", sum := "9c1ac4b33199604b27e3ba177b9a3c12d06eb340e33bc47083eba3eb32ef61d7", func := "loop.example/capturemonitor/laws.FnTalkParts", spec := "fnTalkParts", apart := false }
def FnTalkPartsSaid : Prop := fnTalkPartsRow.holds Try.pinned (OpenSpec.ofChange fnTalkPartsSpec)

/-- ITS FALSE NEIGHBOUR: 'it returns false'. Refute it at one input. -/
def fnTalkPartsWrong : ChangeSpec := { name := "fnTalkParts", fn := fun _ => fun
  | [d] => { results := [.lit (.bool false)], args := [d] }
  | _ => none }
def FnTalkPartsWrongFalsely : Prop := fnTalkPartsRow.holds Try.pinned (OpenSpec.ofChange fnTalkPartsWrong)

/-- 'laws.FnTalkSize': WHATEVER THE INPUT: true; the input reads as it did. -/
def fnTalkSizeSpec : ChangeSpec := { name := "fnTalkSize", fn := fun _ => fun
  | [d] => { results := [.lit (.bool true)], args := [d] }
  | _ => none }
def fnTalkSizeRow : OpenClaim := { program := "ytpkemdacmcjgmaa", sum := "9c1ac4b33199604b27e3ba177b9a3c12d06eb340e33bc47083eba3eb32ef61d7", func := "loop.example/capturemonitor/laws.FnTalkSize", spec := "fnTalkSize", apart := false }
def FnTalkSizeSaid : Prop := fnTalkSizeRow.holds Try.pinned (OpenSpec.ofChange fnTalkSizeSpec)

/-- ITS FALSE NEIGHBOUR: 'it returns false'. Refute it at one input. -/
def fnTalkSizeWrong : ChangeSpec := { name := "fnTalkSize", fn := fun _ => fun
  | [d] => { results := [.lit (.bool false)], args := [d] }
  | _ => none }
def FnTalkSizeWrongFalsely : Prop := fnTalkSizeRow.holds Try.pinned (OpenSpec.ofChange fnTalkSizeWrong)

/-- 'laws.FnTalkText': WHATEVER THE INPUT: true; the input reads as it did. -/
def fnTalkTextSpec : ChangeSpec := { name := "fnTalkText", fn := fun _ => fun
  | [d] => { results := [.lit (.bool true)], args := [d] }
  | _ => none }
def fnTalkTextRow : OpenClaim := { program := "ytpkemdacmcjgmaa", sum := "9c1ac4b33199604b27e3ba177b9a3c12d06eb340e33bc47083eba3eb32ef61d7", func := "loop.example/capturemonitor/laws.FnTalkText", spec := "fnTalkText", apart := false }
def FnTalkTextSaid : Prop := fnTalkTextRow.holds Try.pinned (OpenSpec.ofChange fnTalkTextSpec)

/-- ITS FALSE NEIGHBOUR: 'it returns false'. Refute it at one input. -/
def fnTalkTextWrong : ChangeSpec := { name := "fnTalkText", fn := fun _ => fun
  | [d] => { results := [.lit (.bool false)], args := [d] }
  | _ => none }
def FnTalkTextWrongFalsely : Prop := fnTalkTextRow.holds Try.pinned (OpenSpec.ofChange fnTalkTextWrong)

/-- 'laws.FnExactSideSaid': WHATEVER THE INPUT: true; the input reads as it did. -/
def fnExactSideSaidSpec : ChangeSpec := { name := "fnExactSideSaid", fn := fun _ => fun
  | [d] => { results := [.lit (.bool true)], args := [d] }
  | _ => none }
def fnExactSideSaidRow : OpenClaim := { program := "ytpkemdacmcjgmaa", sum := "9c1ac4b33199604b27e3ba177b9a3c12d06eb340e33bc47083eba3eb32ef61d7", func := "loop.example/capturemonitor/laws.FnExactSideSaid", spec := "fnExactSideSaid", apart := false }
def FnExactSideSaidSaid : Prop := fnExactSideSaidRow.holds Try.pinned (OpenSpec.ofChange fnExactSideSaidSpec)

/-- ITS FALSE NEIGHBOUR: 'it returns false'. Refute it at one input. -/
def fnExactSideSaidWrong : ChangeSpec := { name := "fnExactSideSaid", fn := fun _ => fun
  | [d] => { results := [.lit (.bool false)], args := [d] }
  | _ => none }
def FnExactSideSaidWrongFalsely : Prop := fnExactSideSaidRow.holds Try.pinned (OpenSpec.ofChange fnExactSideSaidWrong)

/-- 'laws.FnExactTalkSaid': WHATEVER THE INPUT: true; the input reads as it did. -/
def fnExactTalkSaidSpec : ChangeSpec := { name := "fnExactTalkSaid", fn := fun _ => fun
  | [d1, d2] => { results := [.lit (.bool true)], args := [d1, d2] }
  | _ => none }
def fnExactTalkSaidRow : OpenClaim := { program := "ytpkemdacmcjgmaa", sum := "9c1ac4b33199604b27e3ba177b9a3c12d06eb340e33bc47083eba3eb32ef61d7", func := "loop.example/capturemonitor/laws.FnExactTalkSaid", spec := "fnExactTalkSaid", apart := false }
def FnExactTalkSaidSaid : Prop := fnExactTalkSaidRow.holds Try.pinned (OpenSpec.ofChange fnExactTalkSaidSpec)

/-- ITS FALSE NEIGHBOUR: 'it returns false'. Refute it at one input. -/
def fnExactTalkSaidWrong : ChangeSpec := { name := "fnExactTalkSaid", fn := fun _ => fun
  | [d1, d2] => { results := [.lit (.bool false)], args := [d1, d2] }
  | _ => none }
def FnExactTalkSaidWrongFalsely : Prop := fnExactTalkSaidRow.holds Try.pinned (OpenSpec.ofChange fnExactTalkSaidWrong)

/-- 'laws.FnTalkSide': WHATEVER THE INPUT: true; the input reads as it did. -/
def fnTalkSideSpec : ChangeSpec := { name := "fnTalkSide", fn := fun _ => fun
  | [d] => { results := [.lit (.bool true)], args := [d] }
  | _ => none }
def fnTalkSideRow : OpenClaim := { program := "ytpkemdacmcjgmaa", sum := "9c1ac4b33199604b27e3ba177b9a3c12d06eb340e33bc47083eba3eb32ef61d7", func := "loop.example/capturemonitor/laws.FnTalkSide", spec := "fnTalkSide", apart := false }
def FnTalkSideSaid : Prop := fnTalkSideRow.holds Try.pinned (OpenSpec.ofChange fnTalkSideSpec)

/-- ITS FALSE NEIGHBOUR: 'it returns false'. Refute it at one input. -/
def fnTalkSideWrong : ChangeSpec := { name := "fnTalkSide", fn := fun _ => fun
  | [d] => { results := [.lit (.bool false)], args := [d] }
  | _ => none }
def FnTalkSideWrongFalsely : Prop := fnTalkSideRow.holds Try.pinned (OpenSpec.ofChange fnTalkSideWrong)

/-- 'laws.FnExactTalkParts': WHATEVER THE INPUT: true; the input reads as it did. -/
def fnExactTalkPartsSpec : ChangeSpec := { name := "fnExactTalkParts", fn := fun _ => fun
  | [d1, d2] => { results := [.lit (.bool true)], args := [d1, d2] }
  | _ => none }
def fnExactTalkPartsRow : OpenClaim := { program := "ytpkemdacmcjgmaa", sum := "9c1ac4b33199604b27e3ba177b9a3c12d06eb340e33bc47083eba3eb32ef61d7", func := "loop.example/capturemonitor/laws.FnExactTalkParts", spec := "fnExactTalkParts", apart := false }
def FnExactTalkPartsSaid : Prop := fnExactTalkPartsRow.holds Try.pinned (OpenSpec.ofChange fnExactTalkPartsSpec)

/-- ITS FALSE NEIGHBOUR: 'it returns false'. Refute it at one input. -/
def fnExactTalkPartsWrong : ChangeSpec := { name := "fnExactTalkParts", fn := fun _ => fun
  | [d1, d2] => { results := [.lit (.bool false)], args := [d1, d2] }
  | _ => none }
def FnExactTalkPartsWrongFalsely : Prop := fnExactTalkPartsRow.holds Try.pinned (OpenSpec.ofChange fnExactTalkPartsWrong)

/-- 'laws.FnTalkAsm': WHATEVER THE INPUT: true; the input reads as it did. -/
def fnTalkAsmSpec : ChangeSpec := { name := "fnTalkAsm", fn := fun _ => fun
  | [d] => { results := [.lit (.bool true)], args := [d] }
  | _ => none }
def fnTalkAsmRow : OpenClaim := { program := "ytpkemdacmcjgmaa", sum := "9c1ac4b33199604b27e3ba177b9a3c12d06eb340e33bc47083eba3eb32ef61d7", func := "loop.example/capturemonitor/laws.FnTalkAsm", spec := "fnTalkAsm", apart := false }
def FnTalkAsmSaid : Prop := fnTalkAsmRow.holds Try.pinned (OpenSpec.ofChange fnTalkAsmSpec)

/-- ITS FALSE NEIGHBOUR: 'it returns false'. Refute it at one input. -/
def fnTalkAsmWrong : ChangeSpec := { name := "fnTalkAsm", fn := fun _ => fun
  | [d] => { results := [.lit (.bool false)], args := [d] }
  | _ => none }
def FnTalkAsmWrongFalsely : Prop := fnTalkAsmRow.holds Try.pinned (OpenSpec.ofChange fnTalkAsmWrong)

/-- 'laws.FnTalkBack': WHATEVER THE INPUT: true; the input reads as it did. -/
def fnTalkBackSpec : ChangeSpec := { name := "fnTalkBack", fn := fun _ => fun
  | [d] => { results := [.lit (.bool true)], args := [d] }
  | _ => none }
def fnTalkBackRow : OpenClaim := { program := "ytpkemdacmcjgmaa", sum := "9c1ac4b33199604b27e3ba177b9a3c12d06eb340e33bc47083eba3eb32ef61d7", func := "loop.example/capturemonitor/laws.FnTalkBack", spec := "fnTalkBack", apart := false }
def FnTalkBackSaid : Prop := fnTalkBackRow.holds Try.pinned (OpenSpec.ofChange fnTalkBackSpec)

/-- ITS FALSE NEIGHBOUR: 'it returns false'. Refute it at one input. -/
def fnTalkBackWrong : ChangeSpec := { name := "fnTalkBack", fn := fun _ => fun
  | [d] => { results := [.lit (.bool false)], args := [d] }
  | _ => none }
def FnTalkBackWrongFalsely : Prop := fnTalkBackRow.holds Try.pinned (OpenSpec.ofChange fnTalkBackWrong)

/-- 'laws.FnTalkTurn': WHATEVER THE INPUT: true; the input reads as it did. -/
def fnTalkTurnSpec : ChangeSpec := { name := "fnTalkTurn", fn := fun _ => fun
  | [d1, d2] => { results := [.lit (.bool true)], args := [d1, d2] }
  | _ => none }
def fnTalkTurnRow : OpenClaim := { program := "ytpkemdacmcjgmaa", sum := "9c1ac4b33199604b27e3ba177b9a3c12d06eb340e33bc47083eba3eb32ef61d7", func := "loop.example/capturemonitor/laws.FnTalkTurn", spec := "fnTalkTurn", apart := false }
def FnTalkTurnSaid : Prop := fnTalkTurnRow.holds Try.pinned (OpenSpec.ofChange fnTalkTurnSpec)

/-- ITS FALSE NEIGHBOUR: 'it returns false'. Refute it at one input. -/
def fnTalkTurnWrong : ChangeSpec := { name := "fnTalkTurn", fn := fun _ => fun
  | [d1, d2] => { results := [.lit (.bool false)], args := [d1, d2] }
  | _ => none }
def FnTalkTurnWrongFalsely : Prop := fnTalkTurnRow.holds Try.pinned (OpenSpec.ofChange fnTalkTurnWrong)

/- THE SECOND FORM. 'bulk': how many values and letters a reading holds, each counted each time it is reached (what is shared counts as often as it is met; a slice's spare places count too). A statement '..UptoSaid' is the law's where the arguments, and the package variables that the reading takes, are together of bulk at most 1048576: NARROWER than '..Said'. Prove '..Said' where nothing that the law and all that it calls make is longer than what came in: it says more and counts as full. Else prove '..UptoSaid'. A law counts once. -/
mutual
def uptoBulk {H : Type} : DataW H → Nat
  | .lit (.string bytes) => bytes.length + 1
  | .lit _ => 1
  | .nil => 1
  | .ptr d => uptoBulk d + 1
  | .slice elems spare => uptoBulkAll elems + uptoBulkAll spare + 1
  | .agg parts => uptoBulkAll parts + 1
  | .iface _ d => uptoBulk d + 1
  | .map entries => uptoBulkEntries entries + 1
  | .held _ => 1
def uptoBulkAll {H : Type} : List (DataW H) → Nat
  | [] => 0
  | d :: r => uptoBulk d + uptoBulkAll r
def uptoBulkEntries {H : Type} : List (Lit × DataW H) → Nat
  | [] => 0
  | x :: r => uptoBulkEntry x + uptoBulkEntries r
def uptoBulkEntry {H : Type} : Lit × DataW H → Nat
  | (.string bytes, d) => bytes.length + uptoBulk d + 1
  | (_, d) => uptoBulk d + 1
 end
def uptoSmall : (H : Type) → List (DataW H) → Bool := fun _ ds => decide (uptoBulkAll ds ≤ 1048576)
def OpenSpec.upto (s : _root_.Go.ChangeSpec) : _root_.Go.OpenSpec := { _root_.Go.OpenSpec.ofChange s with cond := some uptoSmall }

/-- 'laws.FnExactTalkValid', WHERE WHAT IT READS IS OF BULK AT MOST 1048576: true; the input reads as it did. -/
def fnExactTalkValidUptoRow : OpenClaim := { program := "ytpkemdacmcjgmaa", sum := "9c1ac4b33199604b27e3ba177b9a3c12d06eb340e33bc47083eba3eb32ef61d7", func := "loop.example/capturemonitor/laws.FnExactTalkValid", spec := "fnExactTalkValid", apart := false, narrowed := true }
def FnExactTalkValidUptoSaid : Prop := fnExactTalkValidUptoRow.holds Try.pinned (OpenSpec.upto fnExactTalkValidSpec)

/-- 'laws.FnTalkSaid', WHERE WHAT IT READS IS OF BULK AT MOST 1048576: true; the input reads as it did. -/
def fnTalkSaidUptoRow : OpenClaim := { program := "ytpkemdacmcjgmaa", sum := "9c1ac4b33199604b27e3ba177b9a3c12d06eb340e33bc47083eba3eb32ef61d7", func := "loop.example/capturemonitor/laws.FnTalkSaid", spec := "fnTalkSaid", apart := false, narrowed := true }
def FnTalkSaidUptoSaid : Prop := fnTalkSaidUptoRow.holds Try.pinned (OpenSpec.upto fnTalkSaidSpec)

/-- 'laws.FnTalkParts', WHERE WHAT IT READS IS OF BULK AT MOST 1048576: true; the input reads as it did. -/
def fnTalkPartsUptoRow : OpenClaim := { program := "ytpkemdacmcjgmaa", sum := "9c1ac4b33199604b27e3ba177b9a3c12d06eb340e33bc47083eba3eb32ef61d7", func := "loop.example/capturemonitor/laws.FnTalkParts", spec := "fnTalkParts", apart := false, narrowed := true }
def FnTalkPartsUptoSaid : Prop := fnTalkPartsUptoRow.holds Try.pinned (OpenSpec.upto fnTalkPartsSpec)

/-- 'laws.FnTalkSize', WHERE WHAT IT READS IS OF BULK AT MOST 1048576: true; the input reads as it did. -/
def fnTalkSizeUptoRow : OpenClaim := { program := "ytpkemdacmcjgmaa", sum := "9c1ac4b33199604b27e3ba177b9a3c12d06eb340e33bc47083eba3eb32ef61d7", func := "loop.example/capturemonitor/laws.FnTalkSize", spec := "fnTalkSize", apart := false, narrowed := true }
def FnTalkSizeUptoSaid : Prop := fnTalkSizeUptoRow.holds Try.pinned (OpenSpec.upto fnTalkSizeSpec)

/-- 'laws.FnTalkText', WHERE WHAT IT READS IS OF BULK AT MOST 1048576: true; the input reads as it did. -/
def fnTalkTextUptoRow : OpenClaim := { program := "ytpkemdacmcjgmaa", sum := "9c1ac4b33199604b27e3ba177b9a3c12d06eb340e33bc47083eba3eb32ef61d7", func := "loop.example/capturemonitor/laws.FnTalkText", spec := "fnTalkText", apart := false, narrowed := true }
def FnTalkTextUptoSaid : Prop := fnTalkTextUptoRow.holds Try.pinned (OpenSpec.upto fnTalkTextSpec)

/-- 'laws.FnExactSideSaid', WHERE WHAT IT READS IS OF BULK AT MOST 1048576: true; the input reads as it did. -/
def fnExactSideSaidUptoRow : OpenClaim := { program := "ytpkemdacmcjgmaa", sum := "9c1ac4b33199604b27e3ba177b9a3c12d06eb340e33bc47083eba3eb32ef61d7", func := "loop.example/capturemonitor/laws.FnExactSideSaid", spec := "fnExactSideSaid", apart := false, narrowed := true }
def FnExactSideSaidUptoSaid : Prop := fnExactSideSaidUptoRow.holds Try.pinned (OpenSpec.upto fnExactSideSaidSpec)

/-- 'laws.FnExactTalkSaid', WHERE WHAT IT READS IS OF BULK AT MOST 1048576: true; the input reads as it did. -/
def fnExactTalkSaidUptoRow : OpenClaim := { program := "ytpkemdacmcjgmaa", sum := "9c1ac4b33199604b27e3ba177b9a3c12d06eb340e33bc47083eba3eb32ef61d7", func := "loop.example/capturemonitor/laws.FnExactTalkSaid", spec := "fnExactTalkSaid", apart := false, narrowed := true }
def FnExactTalkSaidUptoSaid : Prop := fnExactTalkSaidUptoRow.holds Try.pinned (OpenSpec.upto fnExactTalkSaidSpec)

/-- 'laws.FnTalkSide', WHERE WHAT IT READS IS OF BULK AT MOST 1048576: true; the input reads as it did. -/
def fnTalkSideUptoRow : OpenClaim := { program := "ytpkemdacmcjgmaa", sum := "9c1ac4b33199604b27e3ba177b9a3c12d06eb340e33bc47083eba3eb32ef61d7", func := "loop.example/capturemonitor/laws.FnTalkSide", spec := "fnTalkSide", apart := false, narrowed := true }
def FnTalkSideUptoSaid : Prop := fnTalkSideUptoRow.holds Try.pinned (OpenSpec.upto fnTalkSideSpec)

/-- 'laws.FnExactTalkParts', WHERE WHAT IT READS IS OF BULK AT MOST 1048576: true; the input reads as it did. -/
def fnExactTalkPartsUptoRow : OpenClaim := { program := "ytpkemdacmcjgmaa", sum := "9c1ac4b33199604b27e3ba177b9a3c12d06eb340e33bc47083eba3eb32ef61d7", func := "loop.example/capturemonitor/laws.FnExactTalkParts", spec := "fnExactTalkParts", apart := false, narrowed := true }
def FnExactTalkPartsUptoSaid : Prop := fnExactTalkPartsUptoRow.holds Try.pinned (OpenSpec.upto fnExactTalkPartsSpec)

/-- 'laws.FnTalkAsm', WHERE WHAT IT READS IS OF BULK AT MOST 1048576: true; the input reads as it did. -/
def fnTalkAsmUptoRow : OpenClaim := { program := "ytpkemdacmcjgmaa", sum := "9c1ac4b33199604b27e3ba177b9a3c12d06eb340e33bc47083eba3eb32ef61d7", func := "loop.example/capturemonitor/laws.FnTalkAsm", spec := "fnTalkAsm", apart := false, narrowed := true }
def FnTalkAsmUptoSaid : Prop := fnTalkAsmUptoRow.holds Try.pinned (OpenSpec.upto fnTalkAsmSpec)

/-- 'laws.FnTalkBack', WHERE WHAT IT READS IS OF BULK AT MOST 1048576: true; the input reads as it did. -/
def fnTalkBackUptoRow : OpenClaim := { program := "ytpkemdacmcjgmaa", sum := "9c1ac4b33199604b27e3ba177b9a3c12d06eb340e33bc47083eba3eb32ef61d7", func := "loop.example/capturemonitor/laws.FnTalkBack", spec := "fnTalkBack", apart := false, narrowed := true }
def FnTalkBackUptoSaid : Prop := fnTalkBackUptoRow.holds Try.pinned (OpenSpec.upto fnTalkBackSpec)

/-- 'laws.FnTalkTurn', WHERE WHAT IT READS IS OF BULK AT MOST 1048576: true; the input reads as it did. -/
def fnTalkTurnUptoRow : OpenClaim := { program := "ytpkemdacmcjgmaa", sum := "9c1ac4b33199604b27e3ba177b9a3c12d06eb340e33bc47083eba3eb32ef61d7", func := "loop.example/capturemonitor/laws.FnTalkTurn", spec := "fnTalkTurn", apart := false, narrowed := true }
def FnTalkTurnUptoSaid : Prop := fnTalkTurnUptoRow.holds Try.pinned (OpenSpec.upto fnTalkTurnSpec)

end Rows
end Go.Proofs.Ytpkemdacmcjgmaa

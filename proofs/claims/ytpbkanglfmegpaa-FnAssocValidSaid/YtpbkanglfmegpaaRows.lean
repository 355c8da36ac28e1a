/-
  No cell of these rows narrows 'for every input' (looked for: loops, veiled, ifaces, maps, wideKeys, modest, calm, conditions, laid).
  DERIVED. THE GIVEN ROWS OF THIS SEAT. 12 by the template 'for every input the law returns true; each argument reads behind the call as it read before'; 0 by the template 'total and deterministic' (their statements: YtpbkanglfmegpaaTotals.lean).
  GIVEN WITH THE SEED: the statements are not yours to turn. If you find one false, say at which input.
  Laid BY PROGRAM, IN A SANDBOX (cutbox-rows.mjs): the forced cells as the released guide's own fill.sh prints them over the translation 390e52e7c9ef317c… (all of the seat's roots in one cut). By AI agents, Wed Nov 11 2026. No macro, syntax, notation, axiom, sorry.
-/
import Derived.Test.YtpbkanglfmegpaaChecked
import GoSem.Claim
import GoSem.ClaimJoined
import GoSem.ClaimMapViews
import Derived.JoinedTies
import Derived.KernelRfl
namespace Go.Proofs.Ytpbkanglfmegpaa
/- THE CELL 'sum', in the pinned program and in every row, IS THE sha256 OF THE DUMP (.gsa) THAT YtpbkanglfmegpaaProg.lean LOADS. Nothing in Lean hashes anything: it is a label: what it is worth is what the hold of that sum in a sandbox is worth. -/
noncomputable def Try.pinned : Pinned := { name := "ytpbkanglfmegpaa", sum := "390e52e7c9ef317c54ad341b59446bed291f271ff7e6d14c2ddd01e15bf83729", checked := Try.checked }
namespace Rows
def none {H : Type} : Left H := { results := [], args := [] }

/-- 'laws.FnSidePart': WHATEVER THE INPUT: true; the input reads as it did. -/
def fnSidePartSpec : ChangeSpec := { name := "fnSidePart", fn := fun _ => fun
  | [d] => { results := [.lit (.bool true)], args := [d] }
  | _ => none }
def fnSidePartRow : OpenClaim := { program := "ytpbkanglfmegpaa", sum := "390e52e7c9ef317c54ad341b59446bed291f271ff7e6d14c2ddd01e15bf83729", func := "loop.example/capturemonitor/laws.FnSidePart", spec := "fnSidePart", apart := false }
def FnSidePartSaid : Prop := fnSidePartRow.holds Try.pinned (OpenSpec.ofChange fnSidePartSpec)

/-- ITS FALSE NEIGHBOUR: 'it returns false'. Refute it at one input. -/
def fnSidePartWrong : ChangeSpec := { name := "fnSidePart", fn := fun _ => fun
  | [d] => { results := [.lit (.bool false)], args := [d] }
  | _ => none }
def FnSidePartWrongFalsely : Prop := fnSidePartRow.holds Try.pinned (OpenSpec.ofChange fnSidePartWrong)

/-- 'laws.FnSideTsn': WHATEVER THE INPUT: true; the input reads as it did. -/
def fnSideTsnSpec : ChangeSpec := { name := "fnSideTsn", fn := fun _ => fun
  | [d] => { results := [.lit (.bool true)], args := [d] }
  | _ => none }
def fnSideTsnRow : OpenClaim := { program := "ytpbkanglfmegpaa", sum := "390e52e7c9ef317c54ad341b59446bed291f271ff7e6d14c2ddd01e15bf83729", func := "loop.example/capturemonitor/laws.FnSideTsn", spec := "fnSideTsn", apart := false }
def FnSideTsnSaid : Prop := fnSideTsnRow.holds Try.pinned (OpenSpec.ofChange fnSideTsnSpec)

/-- ITS FALSE NEIGHBOUR: 'it returns false'. Refute it at one input. -/
def fnSideTsnWrong : ChangeSpec := { name := "fnSideTsn", fn := fun _ => fun
  | [d] => { results := [.lit (.bool false)], args := [d] }
  | _ => none }
def FnSideTsnWrongFalsely : Prop := fnSideTsnRow.holds Try.pinned (OpenSpec.ofChange fnSideTsnWrong)

/-- 'laws.FnAssocValid': WHATEVER THE INPUT: true; the input reads as it did. -/
def fnAssocValidSpec : ChangeSpec := { name := "fnAssocValid", fn := fun _ => fun
  | [d] => { results := [.lit (.bool true)], args := [d] }
  | _ => none }
def fnAssocValidRow : OpenClaim := { program := "ytpbkanglfmegpaa", sum := "390e52e7c9ef317c54ad341b59446bed291f271ff7e6d14c2ddd01e15bf83729", func := "loop.example/capturemonitor/laws.FnAssocValid", spec := "fnAssocValid", apart := false }
def FnAssocValidSaid : Prop := fnAssocValidRow.holds Try.pinned (OpenSpec.ofChange fnAssocValidSpec)

/-- ITS FALSE NEIGHBOUR: 'it returns false'. Refute it at one input. -/
def fnAssocValidWrong : ChangeSpec := { name := "fnAssocValid", fn := fun _ => fun
  | [d] => { results := [.lit (.bool false)], args := [d] }
  | _ => none }
def FnAssocValidWrongFalsely : Prop := fnAssocValidRow.holds Try.pinned (OpenSpec.ofChange fnAssocValidWrong)

/-- 'laws.FnKnownMore': WHATEVER THE INPUT: true; the input reads as it did. -/
def fnKnownMoreSpec : ChangeSpec := { name := "fnKnownMore", fn := fun _ => fun
  | [d1, d2] => { results := [.lit (.bool true)], args := [d1, d2] }
  | _ => none }
def fnKnownMoreRow : OpenClaim := { program := "ytpbkanglfmegpaa", sum := "390e52e7c9ef317c54ad341b59446bed291f271ff7e6d14c2ddd01e15bf83729", func := "loop.example/capturemonitor/laws.FnKnownMore", spec := "fnKnownMore", apart := false }
def FnKnownMoreSaid : Prop := fnKnownMoreRow.holds Try.pinned (OpenSpec.ofChange fnKnownMoreSpec)

/-- ITS FALSE NEIGHBOUR: 'it returns false'. Refute it at one input. -/
def fnKnownMoreWrong : ChangeSpec := { name := "fnKnownMore", fn := fun _ => fun
  | [d1, d2] => { results := [.lit (.bool false)], args := [d1, d2] }
  | _ => none }
def FnKnownMoreWrongFalsely : Prop := fnKnownMoreRow.holds Try.pinned (OpenSpec.ofChange fnKnownMoreWrong)

/-- 'laws.FnSaidCount': WHATEVER THE INPUT: true; the input reads as it did. -/
def fnSaidCountSpec : ChangeSpec := { name := "fnSaidCount", fn := fun _ => fun
  | [d] => { results := [.lit (.bool true)], args := [d] }
  | _ => none }
def fnSaidCountRow : OpenClaim := { program := "ytpbkanglfmegpaa", sum := "390e52e7c9ef317c54ad341b59446bed291f271ff7e6d14c2ddd01e15bf83729", func := "loop.example/capturemonitor/laws.FnSaidCount", spec := "fnSaidCount", apart := false }
def FnSaidCountSaid : Prop := fnSaidCountRow.holds Try.pinned (OpenSpec.ofChange fnSaidCountSpec)

/-- ITS FALSE NEIGHBOUR: 'it returns false'. Refute it at one input. -/
def fnSaidCountWrong : ChangeSpec := { name := "fnSaidCount", fn := fun _ => fun
  | [d] => { results := [.lit (.bool false)], args := [d] }
  | _ => none }
def FnSaidCountWrongFalsely : Prop := fnSaidCountRow.holds Try.pinned (OpenSpec.ofChange fnSaidCountWrong)

/-- 'laws.FnSaidText': WHATEVER THE INPUT: true; the input reads as it did. -/
def fnSaidTextSpec : ChangeSpec := { name := "fnSaidText", fn := fun _ => fun
  | [d] => { results := [.lit (.bool true)], args := [d] }
  | _ => none }
def fnSaidTextRow : OpenClaim := { program := "ytpbkanglfmegpaa", sum := "390e52e7c9ef317c54ad341b59446bed291f271ff7e6d14c2ddd01e15bf83729", func := "loop.example/capturemonitor/laws.FnSaidText", spec := "fnSaidText", apart := false }
def FnSaidTextSaid : Prop := fnSaidTextRow.holds Try.pinned (OpenSpec.ofChange fnSaidTextSpec)

/-- ITS FALSE NEIGHBOUR: 'it returns false'. Refute it at one input. -/
def fnSaidTextWrong : ChangeSpec := { name := "fnSaidText", fn := fun _ => fun
  | [d] => { results := [.lit (.bool false)], args := [d] }
  | _ => none }
def FnSaidTextWrongFalsely : Prop := fnSaidTextRow.holds Try.pinned (OpenSpec.ofChange fnSaidTextWrong)

/-- 'laws.FnKnown': WHATEVER THE INPUT: true; the input reads as it did. -/
def fnKnownSpec : ChangeSpec := { name := "fnKnown", fn := fun _ => fun
  | [d] => { results := [.lit (.bool true)], args := [d] }
  | _ => none }
def fnKnownRow : OpenClaim := { program := "ytpbkanglfmegpaa", sum := "390e52e7c9ef317c54ad341b59446bed291f271ff7e6d14c2ddd01e15bf83729", func := "loop.example/capturemonitor/laws.FnKnown", spec := "fnKnown", apart := false }
def FnKnownSaid : Prop := fnKnownRow.holds Try.pinned (OpenSpec.ofChange fnKnownSpec)

/-- ITS FALSE NEIGHBOUR: 'it returns false'. Refute it at one input. -/
def fnKnownWrong : ChangeSpec := { name := "fnKnown", fn := fun _ => fun
  | [d] => { results := [.lit (.bool false)], args := [d] }
  | _ => none }
def FnKnownWrongFalsely : Prop := fnKnownRow.holds Try.pinned (OpenSpec.ofChange fnKnownWrong)

/-- 'laws.FnSaidSsn': WHATEVER THE INPUT: true; the input reads as it did. -/
def fnSaidSsnSpec : ChangeSpec := { name := "fnSaidSsn", fn := fun _ => fun
  | [d] => { results := [.lit (.bool true)], args := [d] }
  | _ => none }
def fnSaidSsnRow : OpenClaim := { program := "ytpbkanglfmegpaa", sum := "390e52e7c9ef317c54ad341b59446bed291f271ff7e6d14c2ddd01e15bf83729", func := "loop.example/capturemonitor/laws.FnSaidSsn", spec := "fnSaidSsn", apart := false }
def FnSaidSsnSaid : Prop := fnSaidSsnRow.holds Try.pinned (OpenSpec.ofChange fnSaidSsnSpec)

/-- ITS FALSE NEIGHBOUR: 'it returns false'. Refute it at one input. -/
def fnSaidSsnWrong : ChangeSpec := { name := "fnSaidSsn", fn := fun _ => fun
  | [d] => { results := [.lit (.bool false)], args := [d] }
  | _ => none }
def FnSaidSsnWrongFalsely : Prop := fnSaidSsnRow.holds Try.pinned (OpenSpec.ofChange fnSaidSsnWrong)

/-- 'laws.FnMonitorValidPart': WHATEVER THE INPUT: true; the input reads as it did. -/
def fnMonitorValidPartSpec : ChangeSpec := { name := "fnMonitorValidPart", fn := fun _ => fun
  | [d] => { results := [.lit (.bool true)], args := [d] }
  | _ => none }
def fnMonitorValidPartRow : OpenClaim := { program := "ytpbkanglfmegpaa", sum := "390e52e7c9ef317c54ad341b59446bed291f271ff7e6d14c2ddd01e15bf83729", func := "loop.example/capturemonitor/laws.FnMonitorValidPart", spec := "fnMonitorValidPart", apart := false }
def FnMonitorValidPartSaid : Prop := fnMonitorValidPartRow.holds Try.pinned (OpenSpec.ofChange fnMonitorValidPartSpec)

/-- ITS FALSE NEIGHBOUR: 'it returns false'. Refute it at one input. -/
def fnMonitorValidPartWrong : ChangeSpec := { name := "fnMonitorValidPart", fn := fun _ => fun
  | [d] => { results := [.lit (.bool false)], args := [d] }
  | _ => none }
def FnMonitorValidPartWrongFalsely : Prop := fnMonitorValidPartRow.holds Try.pinned (OpenSpec.ofChange fnMonitorValidPartWrong)

/-- 'laws.FnMonitorFindAll': WHATEVER THE INPUT: true; the input reads as it did. -/
def fnMonitorFindAllSpec : ChangeSpec := { name := "fnMonitorFindAll", fn := fun _ => fun
  | [d] => { results := [.lit (.bool true)], args := [d] }
  | _ => none }
def fnMonitorFindAllRow : OpenClaim := { program := "ytpbkanglfmegpaa", sum := "390e52e7c9ef317c54ad341b59446bed291f271ff7e6d14c2ddd01e15bf83729", func := "loop.example/capturemonitor/laws.FnMonitorFindAll", spec := "fnMonitorFindAll", apart := false }
def FnMonitorFindAllSaid : Prop := fnMonitorFindAllRow.holds Try.pinned (OpenSpec.ofChange fnMonitorFindAllSpec)

/-- ITS FALSE NEIGHBOUR: 'it returns false'. Refute it at one input. -/
def fnMonitorFindAllWrong : ChangeSpec := { name := "fnMonitorFindAll", fn := fun _ => fun
  | [d] => { results := [.lit (.bool false)], args := [d] }
  | _ => none }
def FnMonitorFindAllWrongFalsely : Prop := fnMonitorFindAllRow.holds Try.pinned (OpenSpec.ofChange fnMonitorFindAllWrong)

/-- 'laws.FnMonitorFind': WHATEVER THE INPUT: true; the input reads as it did. -/
def fnMonitorFindSpec : ChangeSpec := { name := "fnMonitorFind", fn := fun _ => fun
  | [d] => { results := [.lit (.bool true)], args := [d] }
  | _ => none }
def fnMonitorFindRow : OpenClaim := { program := "ytpbkanglfmegpaa", sum := "390e52e7c9ef317c54ad341b59446bed291f271ff7e6d14c2ddd01e15bf83729", func := "loop.example/capturemonitor/laws.FnMonitorFind", spec := "fnMonitorFind", apart := false }
def FnMonitorFindSaid : Prop := fnMonitorFindRow.holds Try.pinned (OpenSpec.ofChange fnMonitorFindSpec)

/-- ITS FALSE NEIGHBOUR: 'it returns false'. Refute it at one input. -/
def fnMonitorFindWrong : ChangeSpec := { name := "fnMonitorFind", fn := fun _ => fun
  | [d] => { results := [.lit (.bool false)], args := [d] }
  | _ => none }
def FnMonitorFindWrongFalsely : Prop := fnMonitorFindRow.holds Try.pinned (OpenSpec.ofChange fnMonitorFindWrong)

/-- 'laws.FnSaidAsm': WHATEVER THE INPUT: true; the input reads as it did. -/
def fnSaidAsmSpec : ChangeSpec := { name := "fnSaidAsm", fn := fun _ => fun
  | [d] => { results := [.lit (.bool true)], args := [d] }
  | _ => none }
def fnSaidAsmRow : OpenClaim := { program := "ytpbkanglfmegpaa", sum := "390e52e7c9ef317c54ad341b59446bed291f271ff7e6d14c2ddd01e15bf83729", func := "loop.example/capturemonitor/laws.FnSaidAsm", spec := "fnSaidAsm", apart := false }
def FnSaidAsmSaid : Prop := fnSaidAsmRow.holds Try.pinned (OpenSpec.ofChange fnSaidAsmSpec)

/-- ITS FALSE NEIGHBOUR: 'it returns false'. Refute it at one input. -/
def fnSaidAsmWrong : ChangeSpec := { name := "fnSaidAsm", fn := fun _ => fun
  | [d] => { results := [.lit (.bool false)], args := [d] }
  | _ => none }
def FnSaidAsmWrongFalsely : Prop := fnSaidAsmRow.holds Try.pinned (OpenSpec.ofChange fnSaidAsmWrong)

/- THE SECOND FORM. 'bulk': how many values and letters a reading holds, each counted each time it is reached (what is shared counts as often as it is met; a slice's spare places count too). A statement '..UptoSaid' is the law's where the arguments, and the package variables that the reading takes, are together of bulk at most 1048576: NARROWER than '..Said'. Prove '..Said' where nothing that the law and all that it calls make is longer than what came in: it says more and counts as full. Else prove '..UptoSaid'. A law counts once. -/
mutual
def uptoBulk {H : Type} : DataW H → Nat
  | .lit (.string bytes) => bytes.length + 1
  | .lit _ => 1
  | .nil => 1
  | .ptr d => uptoBulk d + 1
  | .slice elems spare => uptoBulkAll elems + uptoBulkAll spare + 1
  | .agg parts => uptoBulkAll parts + 1
  | .iface _ d => uptoBulk d + 1
  | .map entries => uptoBulkEntries entries + 1
  | .held _ => 1
def uptoBulkAll {H : Type} : List (DataW H) → Nat
  | [] => 0
  | d :: r => uptoBulk d + uptoBulkAll r
def uptoBulkEntries {H : Type} : List (Lit × DataW H) → Nat
  | [] => 0
  | x :: r => uptoBulkEntry x + uptoBulkEntries r
def uptoBulkEntry {H : Type} : Lit × DataW H → Nat
  | (.string bytes, d) => bytes.length + uptoBulk d + 1
  | (_, d) => uptoBulk d + 1
 end
def uptoSmall : (H : Type) → List (DataW H) → Bool := fun _ ds => decide (uptoBulkAll ds ≤ 1048576)
def OpenSpec.upto (s : _root_.Go.ChangeSpec) : _root_.Go.OpenSpec := { _root_.Go.OpenSpec.ofChange s with cond := some uptoSmall }

/-- 'laws.FnSidePart', WHERE WHAT IT READS IS OF BULK AT MOST 1048576: true; the input reads as it did. -/
def fnSidePartUptoRow : OpenClaim := { program := "ytpbkanglfmegpaa", sum := "390e52e7c9ef317c54ad341b59446bed291f271ff7e6d14c2ddd01e15bf83729", func := "loop.example/capturemonitor/laws.FnSidePart", spec := "fnSidePart", apart := false, narrowed := true }
def FnSidePartUptoSaid : Prop := fnSidePartUptoRow.holds Try.pinned (OpenSpec.upto fnSidePartSpec)

/-- 'laws.FnSideTsn', WHERE WHAT IT READS IS OF BULK AT MOST 1048576: true; the input reads as it did. -/
def fnSideTsnUptoRow : OpenClaim := { program := "ytpbkanglfmegpaa", sum := "390e52e7c9ef317c54ad341b59446bed291f271ff7e6d14c2ddd01e15bf83729", func := "loop.example/capturemonitor/laws.FnSideTsn", spec := "fnSideTsn", apart := false, narrowed := true }
def FnSideTsnUptoSaid : Prop := fnSideTsnUptoRow.holds Try.pinned (OpenSpec.upto fnSideTsnSpec)

/-- 'laws.FnAssocValid', WHERE WHAT IT READS IS OF BULK AT MOST 1048576: true; the input reads as it did. -/
def fnAssocValidUptoRow : OpenClaim := { program := "ytpbkanglfmegpaa", sum := "390e52e7c9ef317c54ad341b59446bed291f271ff7e6d14c2ddd01e15bf83729", func := "loop.example/capturemonitor/laws.FnAssocValid", spec := "fnAssocValid", apart := false, narrowed := true }
def FnAssocValidUptoSaid : Prop := fnAssocValidUptoRow.holds Try.pinned (OpenSpec.upto fnAssocValidSpec)

/-- 'laws.FnKnownMore', WHERE WHAT IT READS IS OF BULK AT MOST 1048576: true; the input reads as it did. -/
def fnKnownMoreUptoRow : OpenClaim := { program := "ytpbkanglfmegpaa", sum := "390e52e7c9ef317c54ad341b59446bed291f271ff7e6d14c2ddd01e15bf83729", func := "loop.example/capturemonitor/laws.FnKnownMore", spec := "fnKnownMore", apart := false, narrowed := true }
def FnKnownMoreUptoSaid : Prop := fnKnownMoreUptoRow.holds Try.pinned (OpenSpec.upto fnKnownMoreSpec)

/-- 'laws.FnSaidCount', WHERE WHAT IT READS IS OF BULK AT MOST 1048576: true; the input reads as it did. -/
def fnSaidCountUptoRow : OpenClaim := { program := "ytpbkanglfmegpaa", sum := "390e52e7c9ef317c54ad341b59446bed291f271ff7e6d14c2ddd01e15bf83729", func := "loop.example/capturemonitor/laws.FnSaidCount", spec := "fnSaidCount", apart := false, narrowed := true }
def FnSaidCountUptoSaid : Prop := fnSaidCountUptoRow.holds Try.pinned (OpenSpec.upto fnSaidCountSpec)

/-- 'laws.FnSaidText', WHERE WHAT IT READS IS OF BULK AT MOST 1048576: true; the input reads as it did. -/
def fnSaidTextUptoRow : OpenClaim := { program := "ytpbkanglfmegpaa", sum := "390e52e7c9ef317c54ad341b59446bed291f271ff7e6d14c2ddd01e15bf83729", func := "loop.example/capturemonitor/laws.FnSaidText", spec := "fnSaidText", apart := false, narrowed := true }
def FnSaidTextUptoSaid : Prop := fnSaidTextUptoRow.holds Try.pinned (OpenSpec.upto fnSaidTextSpec)

/-- 'laws.FnKnown', WHERE WHAT IT READS IS OF BULK AT MOST 1048576: true; the input reads as it did. -/
def fnKnownUptoRow : OpenClaim := { program := "ytpbkanglfmegpaa", sum := "390e52e7c9ef317c54ad341b59446bed291f271ff7e6d14c2ddd01e15bf83729", func := "loop.example/capturemonitor/laws.FnKnown", spec := "fnKnown", apart := false, narrowed := true }
def FnKnownUptoSaid : Prop := fnKnownUptoRow.holds Try.pinned (OpenSpec.upto fnKnownSpec)

/-- 'laws.FnSaidSsn', WHERE WHAT IT READS IS OF BULK AT MOST 1048576: true; the input reads as it did. -/
def fnSaidSsnUptoRow : OpenClaim := { program := "ytpbkanglfmegpaa", sum := "390e52e7c9ef317c54ad341b59446bed291f271ff7e6d14c2ddd01e15bf83729", func := "loop.example/capturemonitor/laws.FnSaidSsn", spec := "fnSaidSsn", apart := false, narrowed := true }
def FnSaidSsnUptoSaid : Prop := fnSaidSsnUptoRow.holds Try.pinned (OpenSpec.upto fnSaidSsnSpec)

/-- 'laws.FnMonitorValidPart', WHERE WHAT IT READS IS OF BULK AT MOST 1048576: true; the input reads as it did. -/
def fnMonitorValidPartUptoRow : OpenClaim := { program := "ytpbkanglfmegpaa", sum := "390e52e7c9ef317c54ad341b59446bed291f271ff7e6d14c2ddd01e15bf83729", func := "loop.example/capturemonitor/laws.FnMonitorValidPart", spec := "fnMonitorValidPart", apart := false, narrowed := true }
def FnMonitorValidPartUptoSaid : Prop := fnMonitorValidPartUptoRow.holds Try.pinned (OpenSpec.upto fnMonitorValidPartSpec)

/-- 'laws.FnMonitorFindAll', WHERE WHAT IT READS IS OF BULK AT MOST 1048576: true; the input reads as it did. -/
def fnMonitorFindAllUptoRow : OpenClaim := { program := "ytpbkanglfmegpaa", sum := "390e52e7c9ef317c54ad341b59446bed291f271ff7e6d14c2ddd01e15bf83729", func := "loop.example/capturemonitor/laws.FnMonitorFindAll", spec := "fnMonitorFindAll", apart := false, narrowed := true }
def FnMonitorFindAllUptoSaid : Prop := fnMonitorFindAllUptoRow.holds Try.pinned (OpenSpec.upto fnMonitorFindAllSpec)

/-- 'laws.FnMonitorFind', WHERE WHAT IT READS IS OF BULK AT MOST 1048576: true; the input reads as it did. -/
def fnMonitorFindUptoRow : OpenClaim := { program := "ytpbkanglfmegpaa", sum := "390e52e7c9ef317c54ad341b59446bed291f271ff7e6d14c2ddd01e15bf83729", func := "loop.example/capturemonitor/laws.FnMonitorFind", spec := "fnMonitorFind", apart := false, narrowed := true }
def FnMonitorFindUptoSaid : Prop := fnMonitorFindUptoRow.holds Try.pinned (OpenSpec.upto fnMonitorFindSpec)

/-- 'laws.FnSaidAsm', WHERE WHAT IT READS IS OF BULK AT MOST 1048576: true; the input reads as it did. -/
def fnSaidAsmUptoRow : OpenClaim := { program := "ytpbkanglfmegpaa", sum := "390e52e7c9ef317c54ad341b59446bed291f271ff7e6d14c2ddd01e15bf83729", func := "loop.example/capturemonitor/laws.FnSaidAsm", spec := "fnSaidAsm", apart := false, narrowed := true }
def FnSaidAsmUptoSaid : Prop := fnSaidAsmUptoRow.holds Try.pinned (OpenSpec.upto fnSaidAsmSpec)

end Rows
end Go.Proofs.Ytpbkanglfmegpaa

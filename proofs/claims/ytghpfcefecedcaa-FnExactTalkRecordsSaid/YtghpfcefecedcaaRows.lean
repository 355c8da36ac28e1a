/-
  No cell of these rows narrows 'for every input' (looked for: loops, veiled, ifaces, maps, wideKeys, modest, calm, conditions, laid).
  DERIVED. THE GIVEN ROWS OF THIS SEAT. 10 by the template 'for every input the law returns true; each argument reads behind the call as it read before'; 0 by the template 'total and deterministic' (their statements: YtghpfcefecedcaaTotals.lean).
  GIVEN WITH THE SEED: the statements are not yours to turn. If you find one false, say at which input.
  Laid BY PROGRAM, IN A SANDBOX (cutbox-rows.mjs): the forced cells as the released guide's own fill.sh prints them over the translation 4fcb38be5b8a3e6f… (all of the seat's roots in one cut). By AI agents, Wed Nov 11 2026. No macro, syntax, notation, axiom, sorry.
-/
import Derived.Test.YtghpfcefecedcaaChecked
import GoSem.Claim
import GoSem.ClaimJoined
import GoSem.ClaimMapViews
import Derived.JoinedTies
import Derived.KernelRfl
namespace Go.Proofs.Ytghpfcefecedcaa
/- THE CELL 'sum', in the pinned program and in every row, IS THE sha256 OF THE DUMP (.gsa) THAT YtghpfcefecedcaaProg.lean LOADS. Nothing in Lean hashes anything: it is a label: what it is worth is what the hold of that sum in a sandbox is worth. -/
noncomputable def Try.pinned : Pinned := { name := "ytghpfcefecedcaa", sum := "4fcb38be5b8a3e6ff59bd55533c281821bd61456839aa70108b5579b5db27d6c", checked := Try.checked }
namespace Rows
def none {H : Type} : Left H := { results := [], args := [] }

/-- 'laws.FnAsmBytes': WHATEVER THE INPUT: true; the input reads as it did. -/
def fnAsmBytesSpec : ChangeSpec := { name := "fnAsmBytes", fn := fun _ => fun
  | [d] => { results := [.lit (.bool true)], args := [d] }
  | _ => none }
def fnAsmBytesRow : OpenClaim := { program := "ytghpfcefecedcaa", sum := "4fcb38be5b8a3e6ff59bd55533c281821bd61456839aa70108b5579b5db27d6c", func := "loop.example/capturemonitor/laws.FnAsmBytes", spec := "fnAsmBytes", apart := false }
def FnAsmBytesSaid : Prop := fnAsmBytesRow.holds Try.pinned (OpenSpec.ofChange fnAsmBytesSpec)

/-- ITS FALSE NEIGHBOUR: 'it returns false'. Refute it at one input. -/
def fnAsmBytesWrong : ChangeSpec := { name := "fnAsmBytes", fn := fun _ => fun
  | [d] => { results := [.lit (.bool false)], args := [d] }
  | _ => none }
def FnAsmBytesWrongFalsely : Prop := fnAsmBytesRow.holds Try.pinned (OpenSpec.ofChange fnAsmBytesWrong)

/-- 'laws.FnTalkPackets': WHATEVER THE INPUT: true; the input reads as it did. -/
def fnTalkPacketsSpec : ChangeSpec := { name := "fnTalkPackets", fn := fun _ => fun
  | [d] => { results := [.lit (.bool true)], args := [d] }
  | _ => none }
def fnTalkPacketsRow : OpenClaim := { program := "ytghpfcefecedcaa", sum := "4fcb38be5b8a3e6ff59bd55533c281821bd61456839aa70108b5579b5db27d6c", func := "loop.example/capturemonitor/laws.FnTalkPackets", spec := "fnTalkPackets", unfollowed := true, recurses := true, apart := false }
def FnTalkPacketsSaid : Prop := fnTalkPacketsRow.holds Try.pinned (OpenSpec.ofChange fnTalkPacketsSpec)

/-- ITS FALSE NEIGHBOUR: 'it returns false'. Refute it at one input. -/
def fnTalkPacketsWrong : ChangeSpec := { name := "fnTalkPackets", fn := fun _ => fun
  | [d] => { results := [.lit (.bool false)], args := [d] }
  | _ => none }
def FnTalkPacketsWrongFalsely : Prop := fnTalkPacketsRow.holds Try.pinned (OpenSpec.ofChange fnTalkPacketsWrong)

/-- 'laws.FnTalkTags': WHATEVER THE INPUT: true; the input reads as it did. -/
def fnTalkTagsSpec : ChangeSpec := { name := "fnTalkTags", fn := fun _ => fun
  | [d] => { results := [.lit (.bool true)], args := [d] }
  | _ => none }
def fnTalkTagsRow : OpenClaim := { program := "ytghpfcefecedcaa", sum := "4fcb38be5b8a3e6ff59bd55533c281821bd61456839aa70108b5579b5db27d6c", func := "loop.example/capturemonitor/laws.FnTalkTags", spec := "fnTalkTags", unfollowed := true, recurses := true, apart := false }
def FnTalkTagsSaid : Prop := fnTalkTagsRow.holds Try.pinned (OpenSpec.ofChange fnTalkTagsSpec)

/-- ITS FALSE NEIGHBOUR: 'it returns false'. Refute it at one input. -/
def fnTalkTagsWrong : ChangeSpec := { name := "fnTalkTags", fn := fun _ => fun
  | [d] => { results := [.lit (.bool false)], args := [d] }
  | _ => none }
def FnTalkTagsWrongFalsely : Prop := fnTalkTagsRow.holds Try.pinned (OpenSpec.ofChange fnTalkTagsWrong)

/-- 'laws.FnExactTalkPackets': WHATEVER THE INPUT: true; the input reads as it did. -/
def fnExactTalkPacketsSpec : ChangeSpec := { name := "fnExactTalkPackets", fn := fun _ => fun
  | [d] => { results := [.lit (.bool true)], args := [d] }
  | _ => none }
def fnExactTalkPacketsRow : OpenClaim := { program := "ytghpfcefecedcaa", sum := "4fcb38be5b8a3e6ff59bd55533c281821bd61456839aa70108b5579b5db27d6c", func := "loop.example/capturemonitor/laws.FnExactTalkPackets", spec := "fnExactTalkPackets", unfollowed := true, recurses := true, apart := false }
def FnExactTalkPacketsSaid : Prop := fnExactTalkPacketsRow.holds Try.pinned (OpenSpec.ofChange fnExactTalkPacketsSpec)

/-- ITS FALSE NEIGHBOUR: 'it returns false'. Refute it at one input. -/
def fnExactTalkPacketsWrong : ChangeSpec := { name := "fnExactTalkPackets", fn := fun _ => fun
  | [d] => { results := [.lit (.bool false)], args := [d] }
  | _ => none }
def FnExactTalkPacketsWrongFalsely : Prop := fnExactTalkPacketsRow.holds Try.pinned (OpenSpec.ofChange fnExactTalkPacketsWrong)

/-- 'laws.FnTalkRecords': WHATEVER THE INPUT: true; the input reads as it did. -/
def fnTalkRecordsSpec : ChangeSpec := { name := "fnTalkRecords", fn := fun _ => fun
  | [d] => { results := [.lit (.bool true)], args := [d] }
  | _ => none }
def fnTalkRecordsRow : OpenClaim := { program := "ytghpfcefecedcaa", sum := "4fcb38be5b8a3e6ff59bd55533c281821bd61456839aa70108b5579b5db27d6c", func := "loop.example/capturemonitor/laws.FnTalkRecords", spec := "fnTalkRecords", unfollowed := true, recurses := true, apart := false }
def FnTalkRecordsSaid : Prop := fnTalkRecordsRow.holds Try.pinned (OpenSpec.ofChange fnTalkRecordsSpec)

/-- ITS FALSE NEIGHBOUR: 'it returns false'. Refute it at one input. -/
def fnTalkRecordsWrong : ChangeSpec := { name := "fnTalkRecords", fn := fun _ => fun
  | [d] => { results := [.lit (.bool false)], args := [d] }
  | _ => none }
def FnTalkRecordsWrongFalsely : Prop := fnTalkRecordsRow.holds Try.pinned (OpenSpec.ofChange fnTalkRecordsWrong)

/-- 'laws.FnExactTalkRecords': WHATEVER THE INPUT: true; the input reads as it did. -/
def fnExactTalkRecordsSpec : ChangeSpec := { name := "fnExactTalkRecords", fn := fun _ => fun
  | [d1, d2] => { results := [.lit (.bool true)], args := [d1, d2] }
  | _ => none }
def fnExactTalkRecordsRow : OpenClaim := { program := "ytghpfcefecedcaa", sum := "4fcb38be5b8a3e6ff59bd55533c281821bd61456839aa70108b5579b5db27d6c", func := "loop.example/capturemonitor/laws.FnExactTalkRecords", spec := "fnExactTalkRecords", unfollowed := true, recurses := true, apart := false }
def FnExactTalkRecordsSaid : Prop := fnExactTalkRecordsRow.holds Try.pinned (OpenSpec.ofChange fnExactTalkRecordsSpec)

/-- ITS FALSE NEIGHBOUR: 'it returns false'. Refute it at one input. -/
def fnExactTalkRecordsWrong : ChangeSpec := { name := "fnExactTalkRecords", fn := fun _ => fun
  | [d1, d2] => { results := [.lit (.bool false)], args := [d1, d2] }
  | _ => none }
def FnExactTalkRecordsWrongFalsely : Prop := fnExactTalkRecordsRow.holds Try.pinned (OpenSpec.ofChange fnExactTalkRecordsWrong)

/-- 'laws.FnExactMonitorValid': WHATEVER THE INPUT: true; the input reads as it did. -/
def fnExactMonitorValidSpec : ChangeSpec := { name := "fnExactMonitorValid", fn := fun _ => fun
  | [d] => { results := [.lit (.bool true)], args := [d] }
  | _ => none }
def fnExactMonitorValidRow : OpenClaim := { program := "ytghpfcefecedcaa", sum := "4fcb38be5b8a3e6ff59bd55533c281821bd61456839aa70108b5579b5db27d6c", func := "loop.example/capturemonitor/laws.FnExactMonitorValid", spec := "fnExactMonitorValid", apart := false }
def FnExactMonitorValidSaid : Prop := fnExactMonitorValidRow.holds Try.pinned (OpenSpec.ofChange fnExactMonitorValidSpec)

/-- ITS FALSE NEIGHBOUR: 'it returns false'. Refute it at one input. -/
def fnExactMonitorValidWrong : ChangeSpec := { name := "fnExactMonitorValid", fn := fun _ => fun
  | [d] => { results := [.lit (.bool false)], args := [d] }
  | _ => none }
def FnExactMonitorValidWrongFalsely : Prop := fnExactMonitorValidRow.holds Try.pinned (OpenSpec.ofChange fnExactMonitorValidWrong)

/-- 'laws.FnExactMonitorFind': WHATEVER THE INPUT: true; the input reads as it did. -/
def fnExactMonitorFindSpec : ChangeSpec := { name := "fnExactMonitorFind", fn := fun _ => fun
  | [d1, d2, d3] => { results := [.lit (.bool true)], args := [d1, d2, d3] }
  | _ => none }
def fnExactMonitorFindRow : OpenClaim := { program := "ytghpfcefecedcaa", sum := "4fcb38be5b8a3e6ff59bd55533c281821bd61456839aa70108b5579b5db27d6c", func := "loop.example/capturemonitor/laws.FnExactMonitorFind", spec := "fnExactMonitorFind", apart := false }
def FnExactMonitorFindSaid : Prop := fnExactMonitorFindRow.holds Try.pinned (OpenSpec.ofChange fnExactMonitorFindSpec)

/-- ITS FALSE NEIGHBOUR: 'it returns false'. Refute it at one input. -/
def fnExactMonitorFindWrong : ChangeSpec := { name := "fnExactMonitorFind", fn := fun _ => fun
  | [d1, d2, d3] => { results := [.lit (.bool false)], args := [d1, d2, d3] }
  | _ => none }
def FnExactMonitorFindWrongFalsely : Prop := fnExactMonitorFindRow.holds Try.pinned (OpenSpec.ofChange fnExactMonitorFindWrong)

/-- 'laws.FnExactAssocStep': WHATEVER THE INPUT: true; the input reads as it did. -/
def fnExactAssocStepSpec : ChangeSpec := { name := "fnExactAssocStep", fn := fun _ => fun
  | [d1, d2] => { results := [.lit (.bool true)], args := [d1, d2] }
  | _ => none }
def fnExactAssocStepRow : OpenClaim := { program := "ytghpfcefecedcaa", sum := "4fcb38be5b8a3e6ff59bd55533c281821bd61456839aa70108b5579b5db27d6c", func := "loop.example/capturemonitor/laws.FnExactAssocStep", spec := "fnExactAssocStep", apart := false }
def FnExactAssocStepSaid : Prop := fnExactAssocStepRow.holds Try.pinned (OpenSpec.ofChange fnExactAssocStepSpec)

/-- ITS FALSE NEIGHBOUR: 'it returns false'. Refute it at one input. -/
def fnExactAssocStepWrong : ChangeSpec := { name := "fnExactAssocStep", fn := fun _ => fun
  | [d1, d2] => { results := [.lit (.bool false)], args := [d1, d2] }
  | _ => none }
def FnExactAssocStepWrongFalsely : Prop := fnExactAssocStepRow.holds Try.pinned (OpenSpec.ofChange fnExactAssocStepWrong)

/-- 'laws.FnTalkHeard': WHATEVER THE INPUT: true; the input reads as it did. -/
def fnTalkHeardSpec : ChangeSpec := { name := "fnTalkHeard", fn := fun _ => fun
  | [d] => { results := [.lit (.bool true)], args := [d] }
  | _ => none }
def fnTalkHeardRow : OpenClaim := { program := "ytghpfcefecedcaa", sum := "4fcb38be5b8a3e6ff59bd55533c281821bd61456839aa70108b5579b5db27d6c", func := "loop.example/capturemonitor/laws.FnTalkHeard", spec := "fnTalkHeard", unfollowed := true, recurses := true, apart := false }
def FnTalkHeardSaid : Prop := fnTalkHeardRow.holds Try.pinned (OpenSpec.ofChange fnTalkHeardSpec)

/-- ITS FALSE NEIGHBOUR: 'it returns false'. Refute it at one input. -/
def fnTalkHeardWrong : ChangeSpec := { name := "fnTalkHeard", fn := fun _ => fun
  | [d] => { results := [.lit (.bool false)], args := [d] }
  | _ => none }
def FnTalkHeardWrongFalsely : Prop := fnTalkHeardRow.holds Try.pinned (OpenSpec.ofChange fnTalkHeardWrong)

/- THE SECOND FORM. 'bulk': how many values and letters a reading holds, each counted each time it is reached (what is shared counts as often as it is met; a slice's spare places count too). A statement '..UptoSaid' is the law's where the arguments, and the package variables that the reading takes, are together of bulk at most 1048576: NARROWER than '..Said'. Prove '..Said' where nothing that the law and all that it calls make is longer than what came in: it says more and counts as full. Else prove '..UptoSaid'. A law counts once. -/
mutual
def uptoBulk {H : Type} : DataW H → Nat
  | .lit (.string bytes) => bytes.length + 1
  | .lit _ => 1
  | .nil => 1
  | .ptr d => uptoBulk d + 1
  | .slice elems spare => uptoBulkAll elems + uptoBulkAll spare + 1
  | .agg parts => uptoBulkAll parts + 1
  | .iface _ d => uptoBulk d + 1
  | .map entries => uptoBulkEntries entries + 1
  | .held _ => 1
def uptoBulkAll {H : Type} : List (DataW H) → Nat
  | [] => 0
  | d :: r => uptoBulk d + uptoBulkAll r
def uptoBulkEntries {H : Type} : List (Lit × DataW H) → Nat
  | [] => 0
  | x :: r => uptoBulkEntry x + uptoBulkEntries r
def uptoBulkEntry {H : Type} : Lit × DataW H → Nat
  | (.string bytes, d) => bytes.length + uptoBulk d + 1
  | (_, d) => uptoBulk d + 1
 end
def uptoSmall : (H : Type) → List (DataW H) → Bool := fun _ ds => decide (uptoBulkAll ds ≤ 1048576)
def OpenSpec.upto (s : _root_.Go.ChangeSpec) : _root_.Go.OpenSpec := { _root_.Go.OpenSpec.ofChange s with cond := some uptoSmall }

/-- 'laws.FnAsmBytes', WHERE WHAT IT READS IS OF BULK AT MOST 1048576: true; the input reads as it did. -/
def fnAsmBytesUptoRow : OpenClaim := { program := "ytghpfcefecedcaa", sum := "4fcb38be5b8a3e6ff59bd55533c281821bd61456839aa70108b5579b5db27d6c", func := "loop.example/capturemonitor/laws.FnAsmBytes", spec := "fnAsmBytes", apart := false, narrowed := true }
def FnAsmBytesUptoSaid : Prop := fnAsmBytesUptoRow.holds Try.pinned (OpenSpec.upto fnAsmBytesSpec)

/-- 'laws.FnTalkPackets', WHERE WHAT IT READS IS OF BULK AT MOST 1048576: true; the input reads as it did. -/
def fnTalkPacketsUptoRow : OpenClaim := { program := "ytghpfcefecedcaa", sum := "4fcb38be5b8a3e6ff59bd55533c281821bd61456839aa70108b5579b5db27d6c", func := "loop.example/capturemonitor/laws.FnTalkPackets", spec := "fnTalkPackets", unfollowed := true, recurses := true, apart := false, narrowed := true }
def FnTalkPacketsUptoSaid : Prop := fnTalkPacketsUptoRow.holds Try.pinned (OpenSpec.upto fnTalkPacketsSpec)

/-- 'laws.FnTalkTags', WHERE WHAT IT READS IS OF BULK AT MOST 1048576: true; the input reads as it did. -/
def fnTalkTagsUptoRow : OpenClaim := { program := "ytghpfcefecedcaa", sum := "4fcb38be5b8a3e6ff59bd55533c281821bd61456839aa70108b5579b5db27d6c", func := "loop.example/capturemonitor/laws.FnTalkTags", spec := "fnTalkTags", unfollowed := true, recurses := true, apart := false, narrowed := true }
def FnTalkTagsUptoSaid : Prop := fnTalkTagsUptoRow.holds Try.pinned (OpenSpec.upto fnTalkTagsSpec)

/-- 'laws.FnExactTalkPackets', WHERE WHAT IT READS IS OF BULK AT MOST 1048576: true; the input reads as it did. -/
def fnExactTalkPacketsUptoRow : OpenClaim := { program := "ytghpfcefecedcaa", sum := "4fcb38be5b8a3e6ff59bd55533c281821bd61456839aa70108b5579b5db27d6c", func := "loop.example/capturemonitor/laws.FnExactTalkPackets", spec := "fnExactTalkPackets", unfollowed := true, recurses := true, apart := false, narrowed := true }
def FnExactTalkPacketsUptoSaid : Prop := fnExactTalkPacketsUptoRow.holds Try.pinned (OpenSpec.upto fnExactTalkPacketsSpec)

/-- 'laws.FnTalkRecords', WHERE WHAT IT READS IS OF BULK AT MOST 1048576: true; the input reads as it did. -/
def fnTalkRecordsUptoRow : OpenClaim := { program := "ytghpfcefecedcaa", sum := "4fcb38be5b8a3e6ff59bd55533c281821bd61456839aa70108b5579b5db27d6c", func := "loop.example/capturemonitor/laws.FnTalkRecords", spec := "fnTalkRecords", unfollowed := true, recurses := true, apart := false, narrowed := true }
def FnTalkRecordsUptoSaid : Prop := fnTalkRecordsUptoRow.holds Try.pinned (OpenSpec.upto fnTalkRecordsSpec)

/-- 'laws.FnExactTalkRecords', WHERE WHAT IT READS IS OF BULK AT MOST 1048576: true; the input reads as it did. -/
def fnExactTalkRecordsUptoRow : OpenClaim := { program := "ytghpfcefecedcaa", sum := "4fcb38be5b8a3e6ff59bd55533c281821bd61456839aa70108b5579b5db27d6c", func := "loop.example/capturemonitor/laws.FnExactTalkRecords", spec := "fnExactTalkRecords", unfollowed := true, recurses := true, apart := false, narrowed := true }
def FnExactTalkRecordsUptoSaid : Prop := fnExactTalkRecordsUptoRow.holds Try.pinned (OpenSpec.upto fnExactTalkRecordsSpec)

/-- 'laws.FnExactMonitorValid', WHERE WHAT IT READS IS OF BULK AT MOST 1048576: true; the input reads as it did. -/
def fnExactMonitorValidUptoRow : OpenClaim := { program := "ytghpfcefecedcaa", sum := "4fcb38be5b8a3e6ff59bd55533c281821bd61456839aa70108b5579b5db27d6c", func := "loop.example/capturemonitor/laws.FnExactMonitorValid", spec := "fnExactMonitorValid", apart := false, narrowed := true }
def FnExactMonitorValidUptoSaid : Prop := fnExactMonitorValidUptoRow.holds Try.pinned (OpenSpec.upto fnExactMonitorValidSpec)

/-- 'laws.FnExactMonitorFind', WHERE WHAT IT READS IS OF BULK AT MOST 1048576: true; the input reads as it did. -/
def fnExactMonitorFindUptoRow : OpenClaim := { program := "ytghpfcefecedcaa", sum := "4fcb38be5b8a3e6ff59bd55533c281821bd61456839aa70108b5579b5db27d6c", func := "loop.example/capturemonitor/laws.FnExactMonitorFind", spec := "fnExactMonitorFind", apart := false, narrowed := true }
def FnExactMonitorFindUptoSaid : Prop := fnExactMonitorFindUptoRow.holds Try.pinned (OpenSpec.upto fnExactMonitorFindSpec)

/-- 'laws.FnExactAssocStep', WHERE WHAT IT READS IS OF BULK AT MOST 1048576: true; the input reads as it did. -/
def fnExactAssocStepUptoRow : OpenClaim := { program := "ytghpfcefecedcaa", sum := "4fcb38be5b8a3e6ff59bd55533c281821bd61456839aa70108b5579b5db27d6c", func := "loop.example/capturemonitor/laws.FnExactAssocStep", spec := "fnExactAssocStep", apart := false, narrowed := true }
def FnExactAssocStepUptoSaid : Prop := fnExactAssocStepUptoRow.holds Try.pinned (OpenSpec.upto fnExactAssocStepSpec)

/-- 'laws.FnTalkHeard', WHERE WHAT IT READS IS OF BULK AT MOST 1048576: true; the input reads as it did. -/
def fnTalkHeardUptoRow : OpenClaim := { program := "ytghpfcefecedcaa", sum := "4fcb38be5b8a3e6ff59bd55533c281821bd61456839aa70108b5579b5db27d6c", func := "loop.example/capturemonitor/laws.FnTalkHeard", spec := "fnTalkHeard", unfollowed := true, recurses := true, apart := false, narrowed := true }
def FnTalkHeardUptoSaid : Prop := fnTalkHeardUptoRow.holds Try.pinned (OpenSpec.upto fnTalkHeardSpec)

end Rows
end Go.Proofs.Ytghpfcefecedcaa

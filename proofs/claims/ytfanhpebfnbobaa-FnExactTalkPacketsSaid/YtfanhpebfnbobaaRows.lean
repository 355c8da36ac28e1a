/-
  No cell of these rows narrows 'for every input' (looked for: loops, veiled, ifaces, maps, wideKeys, modest, calm, conditions, laid).
  DERIVED. THE GIVEN ROWS OF THIS SEAT. 7 by the template 'for every input the law returns true; each argument reads behind the call as it read before'; 0 by the template 'total and deterministic' (their statements: YtfanhpebfnbobaaTotals.lean).
  GIVEN WITH THE SEED: the statements are not yours to turn. If you find one false, say at which input.
  Laid BY PROGRAM, IN A SANDBOX (cutbox-rows.mjs): the forced cells as the released guide's own fill.sh prints them over the translation 3b34e5a4bcecb378… (all of the seat's roots in one cut). By AI agents, Wed Nov 11 2026. No macro, syntax, notation, axiom, sorry.
-/
import Derived.Test.YtfanhpebfnbobaaChecked
import GoSem.Claim
import GoSem.ClaimJoined
import GoSem.ClaimMapViews
import Derived.JoinedTies
import Derived.KernelRfl
namespace Go.Proofs.Ytfanhpebfnbobaa
/- THE CELL 'sum', in the pinned program and in every row, IS THE sha256 OF THE DUMP (.gsa) THAT YtfanhpebfnbobaaProg.lean LOADS. Nothing in Lean hashes anything: it is a label: what it is worth is what the hold of that sum in a sandbox is worth. -/
noncomputable def Try.pinned : Pinned := { name := "ytfanhpebfnbobaa", sum := "3b34e5a4bcecb378465c371c0646a00a3a87ef1cd289bf047a636b1f0eaa4845", checked := Try.checked }
namespace Rows
def none {H : Type} : Left H := { results := [], args := [] }

/-- 'laws.FnTalkHeard': WHATEVER THE INPUT: true; the input reads as it did. -/
def fnTalkHeardSpec : ChangeSpec := { name := "fnTalkHeard", fn := fun _ => fun
  | [d] => { results := [.lit (.bool true)], args := [d] }
  | _ => none }
def fnTalkHeardRow : OpenClaim := { program := "ytfanhpebfnbobaa", sum := "3b34e5a4bcecb378465c371c0646a00a3a87ef1cd289bf047a636b1f0eaa4845", func := "loop.example/capturemonitor/laws.FnTalkHeard", spec := "fnTalkHeard", unfollowed := true, recurses := true, apart := false }
def FnTalkHeardSaid : Prop := fnTalkHeardRow.holds Try.pinned (OpenSpec.ofChange fnTalkHeardSpec)

/-- ITS FALSE NEIGHBOUR: 'it returns false'. Refute it at one input. -/
def fnTalkHeardWrong : ChangeSpec := { name := "fnTalkHeard", fn := fun _ => fun
  | [d] => { results := [.lit (.bool false)], args := [d] }
  | _ => none }
def FnTalkHeardWrongFalsely : Prop := fnTalkHeardRow.holds Try.pinned (OpenSpec.ofChange fnTalkHeardWrong)

/-- 'laws.FnTalkClean': WHATEVER THE INPUT: true; the input reads as it did. -/
def fnTalkCleanSpec : ChangeSpec := { name := "fnTalkClean", fn := fun _ => fun
  | [d] => { results := [.lit (.bool true)], args := [d] }
  | _ => none }
def fnTalkCleanRow : OpenClaim := { program := "ytfanhpebfnbobaa", sum := "3b34e5a4bcecb378465c371c0646a00a3a87ef1cd289bf047a636b1f0eaa4845", func := "loop.example/capturemonitor/laws.FnTalkClean", spec := "fnTalkClean", unfollowed := true, recurses := true, apart := false }
def FnTalkCleanSaid : Prop := fnTalkCleanRow.holds Try.pinned (OpenSpec.ofChange fnTalkCleanSpec)

/-- ITS FALSE NEIGHBOUR: 'it returns false'. Refute it at one input. -/
def fnTalkCleanWrong : ChangeSpec := { name := "fnTalkClean", fn := fun _ => fun
  | [d] => { results := [.lit (.bool false)], args := [d] }
  | _ => none }
def FnTalkCleanWrongFalsely : Prop := fnTalkCleanRow.holds Try.pinned (OpenSpec.ofChange fnTalkCleanWrong)

/-- 'laws.FnTalkLost': WHATEVER THE INPUT: true; the input reads as it did. -/
def fnTalkLostSpec : ChangeSpec := { name := "fnTalkLost", fn := fun _ => fun
  | [d1, d2] => { results := [.lit (.bool true)], args := [d1, d2] }
  | _ => none }
def fnTalkLostRow : OpenClaim := { program := "ytfanhpebfnbobaa", sum := "3b34e5a4bcecb378465c371c0646a00a3a87ef1cd289bf047a636b1f0eaa4845", func := "loop.example/capturemonitor/laws.FnTalkLost", spec := "fnTalkLost", unfollowed := true, recurses := true, apart := false }
def FnTalkLostSaid : Prop := fnTalkLostRow.holds Try.pinned (OpenSpec.ofChange fnTalkLostSpec)

/-- ITS FALSE NEIGHBOUR: 'it returns false'. Refute it at one input. -/
def fnTalkLostWrong : ChangeSpec := { name := "fnTalkLost", fn := fun _ => fun
  | [d1, d2] => { results := [.lit (.bool false)], args := [d1, d2] }
  | _ => none }
def FnTalkLostWrongFalsely : Prop := fnTalkLostRow.holds Try.pinned (OpenSpec.ofChange fnTalkLostWrong)

/-- 'laws.FnTalkTwice': WHATEVER THE INPUT: true; the input reads as it did. -/
def fnTalkTwiceSpec : ChangeSpec := { name := "fnTalkTwice", fn := fun _ => fun
  | [d1, d2] => { results := [.lit (.bool true)], args := [d1, d2] }
  | _ => none }
def fnTalkTwiceRow : OpenClaim := { program := "ytfanhpebfnbobaa", sum := "3b34e5a4bcecb378465c371c0646a00a3a87ef1cd289bf047a636b1f0eaa4845", func := "loop.example/capturemonitor/laws.FnTalkTwice", spec := "fnTalkTwice", unfollowed := true, recurses := true, apart := false }
def FnTalkTwiceSaid : Prop := fnTalkTwiceRow.holds Try.pinned (OpenSpec.ofChange fnTalkTwiceSpec)

/-- ITS FALSE NEIGHBOUR: 'it returns false'. Refute it at one input. -/
def fnTalkTwiceWrong : ChangeSpec := { name := "fnTalkTwice", fn := fun _ => fun
  | [d1, d2] => { results := [.lit (.bool false)], args := [d1, d2] }
  | _ => none }
def FnTalkTwiceWrongFalsely : Prop := fnTalkTwiceRow.holds Try.pinned (OpenSpec.ofChange fnTalkTwiceWrong)

/-- 'laws.FnTalkCut': WHATEVER THE INPUT: true; the input reads as it did. -/
def fnTalkCutSpec : ChangeSpec := { name := "fnTalkCut", fn := fun _ => fun
  | [d1, d2] => { results := [.lit (.bool true)], args := [d1, d2] }
  | _ => none }
def fnTalkCutRow : OpenClaim := { program := "ytfanhpebfnbobaa", sum := "3b34e5a4bcecb378465c371c0646a00a3a87ef1cd289bf047a636b1f0eaa4845", func := "loop.example/capturemonitor/laws.FnTalkCut", spec := "fnTalkCut", unfollowed := true, recurses := true, apart := false }
def FnTalkCutSaid : Prop := fnTalkCutRow.holds Try.pinned (OpenSpec.ofChange fnTalkCutSpec)

/-- ITS FALSE NEIGHBOUR: 'it returns false'. Refute it at one input. -/
def fnTalkCutWrong : ChangeSpec := { name := "fnTalkCut", fn := fun _ => fun
  | [d1, d2] => { results := [.lit (.bool false)], args := [d1, d2] }
  | _ => none }
def FnTalkCutWrongFalsely : Prop := fnTalkCutRow.holds Try.pinned (OpenSpec.ofChange fnTalkCutWrong)

/-- 'laws.FnExactAssocStep': WHATEVER THE INPUT: true; the input reads as it did. -/
def fnExactAssocStepSpec : ChangeSpec := { name := "fnExactAssocStep", fn := fun _ => fun
  | [d1, d2] => { results := [.lit (.bool true)], args := [d1, d2] }
  | _ => none }
def fnExactAssocStepRow : OpenClaim := { program := "ytfanhpebfnbobaa", sum := "3b34e5a4bcecb378465c371c0646a00a3a87ef1cd289bf047a636b1f0eaa4845", func := "loop.example/capturemonitor/laws.FnExactAssocStep", spec := "fnExactAssocStep", apart := false }
def FnExactAssocStepSaid : Prop := fnExactAssocStepRow.holds Try.pinned (OpenSpec.ofChange fnExactAssocStepSpec)

/-- ITS FALSE NEIGHBOUR: 'it returns false'. Refute it at one input. -/
def fnExactAssocStepWrong : ChangeSpec := { name := "fnExactAssocStep", fn := fun _ => fun
  | [d1, d2] => { results := [.lit (.bool false)], args := [d1, d2] }
  | _ => none }
def FnExactAssocStepWrongFalsely : Prop := fnExactAssocStepRow.holds Try.pinned (OpenSpec.ofChange fnExactAssocStepWrong)

/-- 'laws.FnExactTalkPackets': WHATEVER THE INPUT: true; the input reads as it did. -/
def fnExactTalkPacketsSpec : ChangeSpec := { name := "fnExactTalkPackets", fn := fun _ => fun
  | [d] => { results := [.lit (.bool true)], args := [d] }
  | _ => none }
def fnExactTalkPacketsRow : OpenClaim := { program := "ytfanhpebfnbobaa", sum := "3b34e5a4bcecb378465c371c0646a00a3a87ef1cd289bf047a636b1f0eaa4845", func := "loop.example/capturemonitor/laws.FnExactTalkPackets", spec := "fnExactTalkPackets", unfollowed := true, recurses := true, apart := false }
def FnExactTalkPacketsSaid : Prop := fnExactTalkPacketsRow.holds Try.pinned (OpenSpec.ofChange fnExactTalkPacketsSpec)

/-- ITS FALSE NEIGHBOUR: 'it returns false'. Refute it at one input. -/
def fnExactTalkPacketsWrong : ChangeSpec := { name := "fnExactTalkPackets", fn := fun _ => fun
  | [d] => { results := [.lit (.bool false)], args := [d] }
  | _ => none }
def FnExactTalkPacketsWrongFalsely : Prop := fnExactTalkPacketsRow.holds Try.pinned (OpenSpec.ofChange fnExactTalkPacketsWrong)

/- THE SECOND FORM. 'bulk': how many values and letters a reading holds, each counted each time it is reached (what is shared counts as often as it is met; a slice's spare places count too). A statement '..UptoSaid' is the law's where the arguments, and the package variables that the reading takes, are together of bulk at most 1048576: NARROWER than '..Said'. Prove '..Said' where nothing that the law and all that it calls make is longer than what came in: it says more and counts as full. Else prove '..UptoSaid'. A law counts once. -/
mutual
def uptoBulk {H : Type} : DataW H → Nat
  | .lit (.string bytes) => bytes.length + 1
  | .lit _ => 1
  | .nil => 1
  | .ptr d => uptoBulk d + 1
  | .slice elems spare => uptoBulkAll elems + uptoBulkAll spare + 1
  | .agg parts => uptoBulkAll parts + 1
  | .iface _ d => uptoBulk d + 1
  | .map entries => uptoBulkEntries entries + 1
  | .held _ => 1
def uptoBulkAll {H : Type} : List (DataW H) → Nat
  | [] => 0
  | d :: r => uptoBulk d + uptoBulkAll r
def uptoBulkEntries {H : Type} : List (Lit × DataW H) → Nat
  | [] => 0
  | x :: r => uptoBulkEntry x + uptoBulkEntries r
def uptoBulkEntry {H : Type} : Lit × DataW H → Nat
  | (.string bytes, d) => bytes.length + uptoBulk d + 1
  | (_, d) => uptoBulk d + 1
 end
def uptoSmall : (H : Type) → List (DataW H) → Bool := fun _ ds => decide (uptoBulkAll ds ≤ 1048576)
def OpenSpec.upto (s : _root_.Go.ChangeSpec) : _root_.Go.OpenSpec := { _root_.Go.OpenSpec.ofChange s with cond := some uptoSmall }

/-- 'laws.FnTalkHeard', WHERE WHAT IT READS IS OF BULK AT MOST 1048576: true; the input reads as it did. -/
def fnTalkHeardUptoRow : OpenClaim := { program := "ytfanhpebfnbobaa", sum := "3b34e5a4bcecb378465c371c0646a00a3a87ef1cd289bf047a636b1f0eaa4845", func := "loop.example/capturemonitor/laws.FnTalkHeard", spec := "fnTalkHeard", unfollowed := true, recurses := true, apart := false, narrowed := true }
def FnTalkHeardUptoSaid : Prop := fnTalkHeardUptoRow.holds Try.pinned (OpenSpec.upto fnTalkHeardSpec)

/-- 'laws.FnTalkClean', WHERE WHAT IT READS IS OF BULK AT MOST 1048576: true; the input reads as it did. -/
def fnTalkCleanUptoRow : OpenClaim := { program := "ytfanhpebfnbobaa", sum := "3b34e5a4bcecb378465c371c0646a00a3a87ef1cd289bf047a636b1f0eaa4845", func := "loop.example/capturemonitor/laws.FnTalkClean", spec := "fnTalkClean", unfollowed := true, recurses := true, apart := false, narrowed := true }
def FnTalkCleanUptoSaid : Prop := fnTalkCleanUptoRow.holds Try.pinned (OpenSpec.upto fnTalkCleanSpec)

/-- 'laws.FnTalkLost', WHERE WHAT IT READS IS OF BULK AT MOST 1048576: true; the input reads as it did. -/
def fnTalkLostUptoRow : OpenClaim := { program := "ytfanhpebfnbobaa", sum := "3b34e5a4bcecb378465c371c0646a00a3a87ef1cd289bf047a636b1f0eaa4845", func := "loop.example/capturemonitor/laws.FnTalkLost", spec := "fnTalkLost", unfollowed := true, recurses := true, apart := false, narrowed := true }
def FnTalkLostUptoSaid : Prop := fnTalkLostUptoRow.holds Try.pinned (OpenSpec.upto fnTalkLostSpec)

/-- 'laws.FnTalkTwice', WHERE WHAT IT READS IS OF BULK AT MOST 1048576: true; the input reads as it did. -/
def fnTalkTwiceUptoRow : OpenClaim := { program := "ytfanhpebfnbobaa", sum := "3b34e5a4bcecb378465c371c0646a00a3a87ef1cd289bf047a636b1f0eaa4845", func := "loop.example/capturemonitor/laws.FnTalkTwice", spec := "fnTalkTwice", unfollowed := true, recurses := true, apart := false, narrowed := true }
def FnTalkTwiceUptoSaid : Prop := fnTalkTwiceUptoRow.holds Try.pinned (OpenSpec.upto fnTalkTwiceSpec)

/-- 'laws.FnTalkCut', WHERE WHAT IT READS IS OF BULK AT MOST 1048576: true; the input reads as it did. -/
def fnTalkCutUptoRow : OpenClaim := { program := "ytfanhpebfnbobaa", sum := "3b34e5a4bcecb378465c371c0646a00a3a87ef1cd289bf047a636b1f0eaa4845", func := "loop.example/capturemonitor/laws.FnTalkCut", spec := "fnTalkCut", unfollowed := true, recurses := true, apart := false, narrowed := true }
def FnTalkCutUptoSaid : Prop := fnTalkCutUptoRow.holds Try.pinned (OpenSpec.upto fnTalkCutSpec)

/-- 'laws.FnExactAssocStep', WHERE WHAT IT READS IS OF BULK AT MOST 1048576: true; the input reads as it did. -/
def fnExactAssocStepUptoRow : OpenClaim := { program := "ytfanhpebfnbobaa", sum := "3b34e5a4bcecb378465c371c0646a00a3a87ef1cd289bf047a636b1f0eaa4845", func := "loop.example/capturemonitor/laws.FnExactAssocStep", spec := "fnExactAssocStep", apart := false, narrowed := true }
def FnExactAssocStepUptoSaid : Prop := fnExactAssocStepUptoRow.holds Try.pinned (OpenSpec.upto fnExactAssocStepSpec)

/-- 'laws.FnExactTalkPackets', WHERE WHAT IT READS IS OF BULK AT MOST 1048576: true; the input reads as it did. -/
def fnExactTalkPacketsUptoRow : OpenClaim := { program := "ytfanhpebfnbobaa", sum := "3b34e5a4bcecb378465c371c0646a00a3a87ef1cd289bf047a636b1f0eaa4845", func := "loop.example/capturemonitor/laws.FnExactTalkPackets", spec := "fnExactTalkPackets", unfollowed := true, recurses := true, apart := false, narrowed := true }
def FnExactTalkPacketsUptoSaid : Prop := fnExactTalkPacketsUptoRow.holds Try.pinned (OpenSpec.upto fnExactTalkPacketsSpec)

end Rows
end Go.Proofs.Ytfanhpebfnbobaa

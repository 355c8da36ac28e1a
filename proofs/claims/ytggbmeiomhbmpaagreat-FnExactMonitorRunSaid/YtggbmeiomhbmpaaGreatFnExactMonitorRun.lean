/- The program's MonitorRun returns what the reference's MonitorRun returns, for all arguments, leaves them as they were, and shares no memory with them.
CONDITIONS: none beyond the given statement.
-/
import Derived.Test.YtggbmeiomhbmpaaGreatRows
import Derived.Test.YtggbmeiomhbmpaaGreatKFnExactMonitorRun
import Derived.WalkKit
import Derived.ProofKit
import Derived.OpenShut
import Derived.ShutString
import Derived.ChangeOld
import Derived.Below
namespace Go.Proofs.YtggbmeiomhbmpaaGreat.fnExactMonitorRunDone
open Go.ChangeShapes Go.WideShapes Go.ChangeAt Go.RowKit
open Go.ChangeMaps (open_string shut_string)
set_option linter.unusedVariables false
theorem own : ownKnob Tryz.prog.godebug = none := by kernel_rfl
theorem laidOut : laidOutB Tryz.prog = true := by kernel_rfl
set_option maxRecDepth 100000 in
theorem lifted (os : Os) (started : os.Started) (H : Type) (enc : TypeId × Value → H) :
    ReturnsInHanded {} Tryz.checked os 3 .any (Rows.fnExactMonitorRunSpec.pre6 enc Tryz.prog Tryz.f3 Rows.fnExactMonitorRunRow.domain false) (Rows.fnExactMonitorRunSpec.post enc Tryz.prog Tryz.f3 false true false false) := by
  refine returnsInHanded_of_change (C := Tryz.checked) own started (by kernel_rfl) Tryz.func3
    (ChangeSpec.witness6 (enc := enc) (C := Tryz.checked) false ⟨#[], #[.slice none 0 0], []⟩ 8 (by kernel_rfl) (by kernel_rfl) (by kernel_rfl) (by kernel_rfl)) ?_
  intro W base args ds gs before hval0 hW hcnd _
  have hval : ∀ (j : Nat) t v, Tryz.f3.params[j]? = some t → args[j]? = some v → Value.okWide Tryz.prog W .any base t v := hval0
  have hW' := hW
  obtain ⟨p, q, hA0, hV, rfl, hfz, hnd⟩ := hW
  have hA : DataW.TrodAll enc Tryz.prog W 0 (fun _ => true) true Tryz.f3.params.toList args.toList ds p := hA0
  rw [Tryz.params3] at hA hval
  obtain ⟨v0, vs0, d0, ds0, p0, q0, hargs, rfl, rfl, h0, r0⟩ := trodAll_cons hA
  obtain ⟨rfl, rfl, rfl⟩ := trodAll_nil r0
  obtain rfl : args = #[v0] := by cases args; simp_all
  obtain ⟨rfl, rfl⟩ := trodVars_none hV
  have lt0 : ∀ x ∈ p0, x.block < W.heap.size := by obtain ⟨m, hm⟩ := h0; exact DataW.trod_lt m _ _ _ hm
  obtain ⟨x0, ok0, ar0⟩ := Cap.arg_slice (ι := fun _ => none) (m := 8) (row := Cap.recRow) Tryz.underlying22 (by kernel_rfl) (by kernel_rfl) (hval 0 22 v0 rfl rfl) h0
  refine (Cap.calls_true (Cap.spec_FnExactMonitorRun ok0) (Cap.args_cons ar0 Cap.args_nil)).mono fun e W' ⟨he, bel⟩ => ?_
  subst he
  exact ⟨_, rfl, _, _, _, [], _, [], hW', trodAll_mk1 (shut_bool Tryz.underlying4 _), (trodAll_cons_mk (Below.trod laidOut (by kernel_rfl) (of_decide_eq_true (by kernel_rfl)) h0 bel lt0) trodAll_mk0), rfl, bel.frame _, fun h => by cases h⟩

set_option maxHeartbeats 400000000 in
theorem joined : joinedFacts Tryz.pinned.checked.prog 3 Tryz.f3 Rows.fnExactMonitorRunSpec Rows.fnExactMonitorRunRow = true := by
  unfold joinedFacts
  rw [Bool.and_eq_true]; refine ⟨?_, by as_aux_lemma => kernel_rfl⟩
  rw [Bool.and_eq_true]; refine ⟨?_, by as_aux_lemma => kernel_rfl⟩
  rw [Bool.and_eq_true]; refine ⟨?_, by as_aux_lemma => kernel_rfl⟩
  rw [Bool.and_eq_true]; refine ⟨?_, by as_aux_lemma => kernel_rfl⟩
  rw [Bool.and_assoc, Bool.and_assoc, Bool.and_eq_true]
  exact ⟨by as_aux_lemma => kernel_rfl, by as_aux_lemma => kernel_rfl⟩
theorem over : Rows.fnExactMonitorRunRow.holds Tryz.pinned (OpenSpec.ofChange Rows.fnExactMonitorRunSpec) :=
  OpenClaim.holds_of_wide 3 Tryz.f3 rfl rfl rfl rfl rfl rfl rfl ⟨rfl, rfl, rfl, rfl, rfl⟩ rfl rfl rfl rfl rfl (by kernel_rfl) Tryz.func3 joined
    (of_decide_eq_true (by kernel_rfl)) (by unfold Func.isWrapper; first | (rw [if_pos (by decide +kernel)]; kernel_rfl) | (rw [if_neg (by decide +kernel)]; exact ⟨rfl, rfl⟩))
    (fun os started H enc _ => lifted os started H enc)
/-- The given statement. -/
theorem proved : Rows.FnExactMonitorRunSaid := over
#print axioms proved
end Go.Proofs.YtggbmeiomhbmpaaGreat.fnExactMonitorRunDone

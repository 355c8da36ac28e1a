import Derived.Test.YtghpfcefecedcaaLawA
/- FnExactMonitorFind: its contract. -/
namespace Go.Cap
open Go Go.Proofs
set_option maxRecDepth 100000
set_option linter.unusedSimpArgs false
set_option linter.unusedVariables false
attribute [local irreducible] Call Run Spec Le

theorem spec_FnExactMonitorFind {xs : List RV} {f t : Int} (h : RowOk monRow xs) (_ : (Lit.int .i64 f).wf = true) (_ : (Lit.int .i64 t).wf = true) : Spec Try.prog 10 0 [] [.agg (xs.map .r), .i f, .i t] (fun r _ _ _ => r = .bo true) := by
  obtain ⟨m, e, hl, hf, hs⟩ := mon_of h
  rw [e]
  refine mk10 rfl fun c hP hm => ?_
  unfold pc10 Mon.ro
  simp only [hm, go_sem, ↓reduceIte]
  refine call_pure (hP ▸ s_szMonitor m 1048576 (by omega) hl hf hs) rfl rfl ?_
  simp only [hm, go_sem, ↓reduceIte]
  intro hz
  obtain ⟨z1, z2, z3⟩ := szM_fit hz
  have hfit := BFit.m hz
  have z4 : ∀ a ∈ m.list, a.a.sent.length ≤ 1048576 ∧ a.b.sent.length ≤ 1048576 := fun a ha => ⟨(z3 a ha).1.1, (z3 a ha).2.1⟩
  refine call_data (hP ▸ s_toMonitorP m z1 z2 z4) rfl rfl ?_
  simp only [Mon.ro, hm, go_sem, ↓reduceIte]
  refine call_pure (hP ▸ s_specMonitorFind m f t hfit) rfl rfl ?_
  simp only [hm, go_sem, ↓reduceIte]
  refine call_data (hP ▸ s_toMonitorP m z1 z2 z4) rfl rfl ?_
  simp only [Mon.ro, hm, go_sem, ↓reduceIte]
  refine call_pure (hP ▸ s_implMonitorFind m f t hfit) rfl rfl ?_
  simp only [Bool.xor_self, beq_self_eq_true, Bool.true_xor, Bool.not_true, bne_self_eq_false, hm, go_sem, ↓reduceIte]
  refine call_data (hP ▸ s_toMonitorP m z1 z2 z4) rfl rfl ?_
  simp only [Mon.ro, hm, go_sem, ↓reduceIte]
  refine call_pure (hP ▸ s_eqMonitor m) rfl rfl ?_
  simp only [hm, go_sem, ↓reduceIte]
end Go.Cap

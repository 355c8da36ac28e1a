import Derived.Test.YtcjbfoeiegecmaaG3
/- Plain facts on assemblies: validity, what is told, what is left. -/
namespace Go.Cap
open Go Go.Proofs
set_option linter.unusedSimpArgs false
set_option linter.unusedVariables false

/-- Settling, step by step. -/
inductive Stl : Asm → List Msg → Asm → List Msg → Prop
  | stop (a : Asm) (ms : List Msg) : due a = none → Stl a ms a ms
  | step (a : Asm) (ms : List Msg) (p : List Nat) (a' : Asm) (ms' : List Msg) : AsmOk a → due a = some p → Stl (takeOut a p) (ms ++ [msgOf a p]) a' ms' → Stl a ms a' ms'
theorem settle_stl : ∀ (k : Nat) (a : Asm) (ms : List Msg), AsmOk a → a.parts.length < k → Stl a ms (settle k a ms).1 (settle k a ms).2
  | 0, a, ms, _, h => by omega
  | k + 1, a, ms, ok, h => by
    rw [settle]
    cases hd : due a with
    | none => exact .stop a ms hd
    | some p =>
      have hlt := takeOut_lt (due_ok ok hd)
      exact .step a ms p _ _ ok hd (settle_stl k _ _ (takeOut_ok ok) (by omega))
/-- What AsmAdd does, case by case. -/
inductive AddCase (a : Asm) (d : Data) : Prop
  | bad (h : asmAdd a d = (⟨[], []⟩, [], 3)) (hb : ¬ (asmB a = true ∧ dataB d = true ∧ d.stream < a.next.length))
  | twice (h : asmAdd a d = (a, [], 1)) (hv : asmB a = true) (hd : dataB d = true) (hs : d.stream < a.next.length) (ha : (atIx a.parts d.tsn).isSome = true)
  | full (h : asmAdd a d = (a, [], 2)) (hv : asmB a = true) (hd : dataB d = true) (hs : d.stream < a.next.length) (ha : atIx a.parts d.tsn = none) (hl : 12 ≤ a.parts.length)
  | done (a' : Asm) (ms : List Msg) (h : asmAdd a d = (a', ms, 0)) (hv : asmB a = true) (hd : dataB d = true) (hs : d.stream < a.next.length) (ha : atIx a.parts d.tsn = none) (hl : a.parts.length < 12)
      (ok : AsmOk ⟨a.next, a.parts ++ [d]⟩) (st : Stl ⟨a.next, a.parts ++ [d]⟩ [] a' ms)
theorem add_case (a : Asm) (d : Data) : AddCase a d := by
  by_cases hc : asmB a = true ∧ dataB d = true ∧ d.stream < a.next.length
  · obtain ⟨h1, h2, h3⟩ := hc
    have e : ¬ (!asmB a || !dataB d || decide ((a.next.length : Int) ≤ d.stream)) = true := by simp [h1, h2]; omega
    cases ha : atIx a.parts d.tsn with
    | some j => exact .twice (by unfold asmAdd; rw [if_neg e, if_pos (by simp [ha])]) h1 h2 h3 (by simp [ha])
    | none =>
      rcases Nat.lt_or_ge a.parts.length 12 with hl | hl
      · have ok := add_ok h1 h2 h3
        exact .done _ _ (by unfold asmAdd; rw [if_neg e, if_neg (by simp [ha]), if_neg (by omega)]) h1 h2 h3 ha hl ok (settle_stl (a.parts.length + 2) _ [] ok (by simp))
      · exact .full (by unfold asmAdd; rw [if_neg e, if_neg (by simp [ha]), if_pos hl]) h1 h2 h3 ha hl
  · refine .bad ?_ hc
    unfold asmAdd
    rw [if_pos]
    cases h1 : asmB a <;> cases h2 : dataB d <;> simp [h1, h2] at hc ⊢
    exact hc
end Go.Cap

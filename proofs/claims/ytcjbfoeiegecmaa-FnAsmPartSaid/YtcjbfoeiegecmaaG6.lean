import Derived.Test.YtcjbfoeiegecmaaV5
import Derived.Test.YtcjbfoeiegecmaaG3
/- The parts of a talk are a side's. -/
namespace Go.Cap
open Go Go.Proofs
set_option linter.unusedSimpArgs false
set_option linter.unusedVariables false

/-- The parts of a talk, in any order. -/
theorem talk_seq {t : Talk} (hv : talkB t = true) (byB : Bool) : ∃ n : Nat, (t.init byB).streams = n ∧ (1 ≤ n ∧ n ≤ 4) ∧ SeqP (t.init byB).tsn n (talkParts t byB) ∧ ∀ x, (talkParts t byB).getLast? = some x → x.last = true := by
  have hi := init_ok hv byB
  have hf := talk_fit hv byB
  simp only [initB, Bool.and_eq_true, decide_eq_true_eq] at hi
  obtain ⟨⟨⟨i1, i2, i3, i4⟩, _⟩, i6⟩ := hi
  refine ⟨(t.init byB).streams.toNat, by omega, by omega, fun i h => ?_, hf.last⟩
  obtain ⟨k1, k2, k3, k4⟩ := hf.ok i h
  exact ⟨k1, k2, by omega, k4⟩
end Go.Cap

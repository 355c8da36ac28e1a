import Derived.Test.YtcjbfoeiegecmaaN7
/- Contracts: adding a part (the program's), whole. -/
namespace Go.Cap
open Go Go.Proofs
set_option maxRecDepth 100000
set_option linter.unusedSimpArgs false
set_option linter.unusedVariables false
attribute [local irreducible] Call Run Spec Le

theorem partsLoop_ok {n : Nat} {ps : List Data} : ∀ (l : List Data) (i : Nat), partsLoop n ps i l = true → ∀ d ∈ l, dataB d = true ∧ d.stream < n
  | [], i, h, d, hd => by cases hd
  | x :: l, i, h, d, hd => by
    simp only [partsLoop, partOk, Bool.and_eq_true, decide_eq_true_eq] at h
    rcases List.mem_cons.1 hd with rfl | hd
    · exact ⟨h.1.1.1, h.1.1.2⟩
    · exact partsLoop_ok l (i + 1) h.2 d hd
theorem data_ok {d : Data} (h : dataB d = true) : (0 ≤ d.tsn ∧ d.tsn < 65536) ∧ (0 ≤ d.stream ∧ d.stream < 65536) ∧ (0 ≤ d.ssn ∧ d.ssn < 65536) ∧ 1 ≤ d.text.length ∧ d.text.length ≤ 20 := by
  simp only [dataB, serialB, Bool.and_eq_true, decide_eq_true_eq] at h
  exact ⟨h.1.1.1, h.1.1.2, h.1.2, h.2.1, h.2.2⟩
/-- What a valid assembly promises. -/
theorem asm_ok {a : Asm} (h : asmB a = true) : (1 ≤ a.next.length ∧ a.next.length ≤ 4) ∧ a.parts.length ≤ 12 ∧ (∀ n ∈ a.next, serialB n = true) ∧ ∀ d ∈ a.parts, dataB d = true ∧ d.stream < a.next.length := by
  simp only [asmB, Bool.and_eq_true, decide_eq_true_eq, List.all_eq_true] at h
  exact ⟨h.1.1.1, h.1.1.2, h.1.2, partsLoop_ok _ _ h.2⟩
theorem add_ok {a : Asm} {d : Data} (h : asmB a = true) (hd : dataB d = true) (hs : d.stream < a.next.length) : AsmOk ⟨a.next, a.parts ++ [d]⟩ := by
  obtain ⟨h1, h2, h3, h4⟩ := asm_ok h
  refine ⟨by simp; omega, fun x hx => ?_, fun x hx => ?_, h3, h1.2⟩
  · rcases List.mem_append.1 hx with hx | hx
    · exact (data_ok (h4 x hx).1).1
    · simp only [List.mem_singleton] at hx; subst hx; exact (data_ok hd).1
  · rcases List.mem_append.1 hx with hx | hx
    · exact ⟨(data_ok (h4 x hx).1).2.1.1, (h4 x hx).2⟩
    · simp only [List.mem_singleton] at hx; subst hx; exact ⟨(data_ok hd).2.1.1, hs⟩
end Go.Cap

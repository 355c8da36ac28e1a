import Derived.Test.YtcjbfoeiegecmaaS1
/- Contracts: a valid part, and which part may follow. -/
namespace Go.Cap
open Go Go.Proofs
set_option maxRecDepth 100000
set_option linter.unusedSimpArgs false
set_option linter.unusedVariables false
attribute [local irreducible] Call Run Spec Le

def dataB (d : Data) : Bool := serialB d.tsn && serialB d.stream && serialB d.ssn && decide (1 ≤ d.text.length ∧ d.text.length ≤ 20)
def likeB (a b : Data) : Bool := a.stream == b.stream && a.ssn == b.ssn && a.loose == b.loose
theorem like_comm (a b : Data) : likeB a b = likeB b a := by
  unfold likeB
  rw [Bool.beq_comm (a := a.loose), BEq.comm (a := a.stream), BEq.comm (a := a.ssn)]
theorem s_dataOk (d : Data) (h : d.text.length ≤ 9223372036854775807) : Spec Try.prog 35 0 [] [d.av] (fun r _ _ _ => r = .bo (dataB d)) := by
  refine mk35 rfl fun c hP hm => ?_
  unfold pc35 Data.av
  simp only [go_sem, ↓reduceIte]
  repeat' first | refine And.intro ?_ ?_ | intro _ | (refine c_serialOk hP ?_; simp only [go_sem, ↓reduceIte])
  all_goals (apply bo_inj; rw [Bool.eq_iff_iff]; simp [dataB, *] <;> omega)
theorem s_l12Data (d : Data) (h : d.text.length ≤ 9223372036854775807) : Spec Try.prog 38 0 [] [d.av] (fun r _ _ _ => r = .bo (dataB d)) := by
  refine mk38 rfl fun c hP hm => ?_
  unfold pc38 Data.av
  simp only [go_sem, ↓reduceIte]
  repeat' first | refine And.intro ?_ ?_ | intro _ | (refine c_l6In hP ?_; simp only [go_sem, ↓reduceIte]) | (refine c_l3Ok hP ?_; simp only [go_sem, ↓reduceIte])
  all_goals (apply bo_inj; rw [Bool.eq_iff_iff]; simp [dataB, inB, *] <;> omega)
theorem s_l22Same (a b : Data) : Spec Try.prog 64 0 [] [a.av, b.av] (fun r _ _ _ => r = .bo (likeB a b)) := by
  refine mk64 rfl fun c hP hm => ?_
  unfold pc64 Data.av
  simp only [go_sem, ↓reduceIte]
  repeat' first | refine And.intro ?_ ?_ | intro _
  all_goals (simp [likeB, *])
/-- Which part may follow others. -/
def mayB (l : List Data) (d : Data) : Bool := match l.getLast? with
  | some x => if x.last then d.first && (d.loose || d.ssn == ssnIn l d.stream) else !d.first && likeB d x
  | none => d.first && (d.loose || d.ssn == ssnIn l d.stream)
end Go.Cap

import Derived.Test.YtcjbfoeiegecmaaP3
/- What a side said: the plain law, and the contracts of TalkSaid. -/
namespace Go.Cap
open Go Go.Proofs
set_option maxRecDepth 100000
set_option linter.unusedSimpArgs false
set_option linter.unusedVariables false
attribute [local irreducible] Call Run Spec Le

structure Msg where
  stream : Int
  ssn : Int
  loose : Bool
  text : List UInt8
def Msg.row (d : Msg) : List RV := [.n .i64 d.stream, .n .i64 d.ssn, .b d.loose, .s d.text]
def Msg.av (d : Msg) : AV := .agg [.i d.stream, .i d.ssn, .bo d.loose, .st d.text]
/-- The messages that parts make up, and the text that is still open. -/
def saidStep (x : List Msg × List UInt8) (d : Data) : List Msg × List UInt8 :=
  if d.last then (x.1 ++ [⟨d.stream, d.ssn, d.loose, x.2 ++ d.text⟩], []) else (x.1, x.2 ++ d.text)
def saidSt (l : List Data) : List Msg × List UInt8 := l.foldl saidStep ([], [])
def said (l : List Data) : List Msg := (saidSt l).1
theorem saidSt_app (a b : List Data) : saidSt (a ++ b) = b.foldl saidStep (saidSt a) := by unfold saidSt; rw [List.foldl_append]
theorem msgClosed (l : List Msg) : closL2 (l.map Msg.row) := closL2_map (fun s x hx => by
  simp only [Msg.row, List.mem_cons, List.not_mem_nil, or_false] at hx
  rcases hx with rfl | rfl | rfl | rfl <;> rfl) l
end Go.Cap

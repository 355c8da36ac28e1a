import Derived.Test.YtcjbfoeiegecmaaH1
import Derived.Test.YtcjbfoeiegecmaaN9
import Derived.Test.YtcjbfoeiegecmaaG4
/- Plain facts on runs of assemblies: prefixes, numbers of messages. -/
namespace Go.Cap
open Go Go.Proofs
set_option linter.unusedSimpArgs false
set_option linter.unusedVariables false

theorem step_more (x : Asm × List Msg) (d : Data) : ∃ t, (asmStep x d).2 = x.2 ++ t := by
  unfold asmStep
  split
  · exact ⟨_, rfl⟩
  · exact ⟨[], by simp⟩
theorem fold_more : ∀ (l : List Data) (x : Asm × List Msg), ∃ t, (l.foldl asmStep x).2 = x.2 ++ t
  | [], x => ⟨[], by simp⟩
  | d :: l, x => by
    obtain ⟨t, ht⟩ := step_more x d
    obtain ⟨u, hu⟩ := fold_more l (asmStep x d)
    exact ⟨t ++ u, by rw [List.foldl_cons, hu, ht, List.append_assoc]⟩
theorem asmRun_prefix (n : Int) (l : List Data) (k : Nat) : ∃ t, asmRun n l = asmRun n (l.take k) ++ t := by
  unfold asmRun
  split
  · obtain ⟨t, ht⟩ := fold_more (l.drop k) ((l.take k).foldl asmStep (asmNew n.toNat, []))
    rw [← List.foldl_append, List.take_append_drop] at ht
    exact ⟨t, ht⟩
  · exact ⟨[], rfl⟩
end Go.Cap

import Derived.Test.YtcjbfoeiegecmaaH2
import Derived.Test.YtcjbfoeiegecmaaQ4
import Derived.Test.YtcjbfoeiegecmaaEngC
/- Contracts: runs of assemblies, as data. -/
namespace Go.Cap
open Go Go.Proofs
set_option maxRecDepth 100000
set_option linter.unusedSimpArgs false
set_option linter.unusedVariables false
attribute [local irreducible] Call Run Spec Le

theorem asmRun_bad {n : Int} {l : List Data} (h : ¬ (1 ≤ n ∧ n ≤ 4)) : asmRun n l = [] := by unfold asmRun; rw [if_neg h]
theorem s_implAsmRunP (n : Int) (l : List Data) (hl : l.length ≤ 1000000) (hx : ∀ d ∈ l, d.text.length ≤ 9223372036854775807) : Spec Try.prog 19 0 [] [.i n, .r (.ro none (l.map Data.row))] (Plain fun r => r = .r (.ro none ((asmRun n l).map Msg.row))) := by
  by_cases h : 1 ≤ n ∧ n ≤ 4
  · obtain ⟨m, rfl⟩ : ∃ m : Nat, n = m := ⟨n.toNat, by omega⟩
    have := s_implAsmRun1 m l (by omega) hl hx
    rw [← List.length_map (f := Msg.row)] at this
    exact this.dataP
  · rw [asmRun_bad h]
    exact (s_implAsmRun0 n l h).nilP
theorem s_specAsmRunP (n : Int) (l : List Data) (hl : l.length ≤ 1000000) (hx : ∀ d ∈ l, d.text.length ≤ 9223372036854775807) : Spec Try.prog 20 0 [] [.i n, .r (.ro none (l.map Data.row))] (Plain fun r => r = .r (.ro none ((asmRun n l).map Msg.row))) := by
  by_cases h : 1 ≤ n ∧ n ≤ 4
  · obtain ⟨m, rfl⟩ : ∃ m : Nat, n = m := ⟨n.toNat, by omega⟩
    have := s_specAsmRun1 m l (by omega) hl hx
    rw [← List.length_map (f := Msg.row)] at this
    exact this.dataP
  · rw [asmRun_bad h]
    exact (s_specAsmRun0 n l h).dataP
theorem s_ofStreamP (l : List Msg) (s : Int) (hl : l.length ≤ 100000000) : Spec Try.prog 24 0 [] [.r (.ro none (l.map Msg.row)), .i s] (Plain fun r => r = .r (.ro none ((ofStr s l).map Msg.row))) := by
  have := s_ofStream l s hl
  rw [← List.length_map (f := Msg.row)] at this
  exact this.dataP
end Go.Cap

import Derived.Test.YtcjbfoeiegecmaaD4
import Derived.Test.YtcjbfoeiegecmaaG7
import Derived.Test.YtcjbfoeiegecmaaP3
import Derived.Test.YtcjbfoeiegecmaaS2
/- Contracts: equality of assemblies, numbers among parts. -/
namespace Go.Cap
open Go Go.Proofs
set_option maxRecDepth 100000
set_option linter.unusedSimpArgs false
set_option linter.unusedVariables false
attribute [local irreducible] Call Run Spec Le

theorem s_sameInts (l : List Int) : Spec Try.prog 29 0 [] [.r (.ro none (l.map intRow)), .r (.ro none (l.map intRow))] (fun r _ _ _ => r = .bo true) := by
  refine mk29 rfl fun c hP hm => ?_
  unfold pc29
  simp only [hm, go_sem, ↓reduceIte]
  intro hlen _
  refine lp_wpc (α := Nat) (fun i => ⟨[(0, .r (.ro none (l.map intRow))), (1, .r (.ro none (l.map intRow))), (5, .i i)], [], 0, []⟩) (fun i => i ≤ l.length) (fun i => l.length - i) 0 (Nat.zero_le _) (by (refine le_ev [] ?_; simp only [hm, go_sem, ↓reduceIte]; first | done | rfl | exact ⟨rfl, rfl⟩)) ?_
  intro i hi
  unfold pc29l0
  rcases Nat.lt_or_ge i l.length with hil | hil
  · simp only [Int.toNat_natCast, getD_map hil, intRow, hm, go_sem, ↓reduceIte]
    have hw : IntKind.i64.wrap ((i : Int) + 1) = (i : Int) + 1 := wrap64 (by omega) (by omega)
    repeat' first | refine And.intro ?_ ?_ | intro _
    all_goals first
      | omega
      | (refine ⟨i + 1, hil, by omega, ?_⟩; rw [hw]; (refine le_ev [] ?_; simp only [hm, go_sem, ↓reduceIte]; first | done | rfl | exact ⟨rfl, rfl⟩))
  · have : i = l.length := by omega
    subst this
    simp only [hm, go_sem, ↓reduceIte]
    repeat' first | refine And.intro ?_ ?_ | intro _
    all_goals first
      | omega
      | (exfalso; omega)
theorem s_sameAsm (a : Asm) : Spec Try.prog 27 0 [] [a.ro, a.ro] (fun r _ _ _ => r = .bo true) := by
  refine mk27 rfl fun c hP hm => ?_
  unfold pc27 Asm.ro
  simp only [hm, go_sem, ↓reduceIte]
  refine call_pure (hP ▸ s_sameInts a.next) rfl rfl ?_
  simp only [hm, go_sem, ↓reduceIte]
  refine call_pure (hP ▸ s_sameParts a.parts) rfl rfl ?_
  simp only [hm, go_sem, ↓reduceIte]
end Go.Cap

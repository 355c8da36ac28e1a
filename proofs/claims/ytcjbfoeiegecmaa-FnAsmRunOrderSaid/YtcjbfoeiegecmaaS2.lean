import Derived.Test.YtcjbfoeiegecmaaS1
/- Contracts: TalkSaid of the program and of the reference. -/
namespace Go.Cap
open Go Go.Proofs
set_option maxRecDepth 100000
set_option linter.unusedSimpArgs false
set_option linter.unusedVariables false
attribute [local irreducible] Call Run Spec Le

def cntR (f : List Data) : List RV := [.n .i64 (ssnIn f 0), .n .i64 (ssnIn f 1), .n .i64 (ssnIn f 2), .n .i64 (ssnIn f 3)]
@[go_sem] theorem cnt_len (f : List Data) : (cnt f).length = 4 := (rfl)
@[go_sem] theorem cntR_len (f : List Data) : (cntR f).length = 4 := (rfl)
theorem s_sameMessages (l : List Msg) : Spec Try.prog 21 0 [] [.r (.ro none (l.map Msg.row)), .r (.ro none (l.map Msg.row))] (fun r _ _ _ => r = .bo true) := by
  refine mk21 rfl fun c hP hm => ?_
  unfold pc21
  simp only [go_sem, ↓reduceIte]
  intro hlen _
  refine lp_wpc (α := Nat) (fun i => ⟨[(0, .r (.ro none (l.map Msg.row))), (1, .r (.ro none (l.map Msg.row))), (5, .i i)], [], 0, []⟩) (fun i => i ≤ l.length) (fun i => l.length - i) 0 (Nat.zero_le _) (Le.refl _) ?_
  intro i hi
  unfold pc21l0
  simp only [go_sem, ↓reduceIte]
  intro _
  intro hlt
  have hil : i < l.length := by omega
  simp only [Int.toNat_natCast, getD_map hil, Msg.row, go_sem, ↓reduceIte]
  rw [wrap64 (by omega) (by omega)]
  exact ⟨⟨by omega, by omega⟩, ⟨by omega, by omega⟩, i + 1, hil, by omega, Le.refl _⟩
end Go.Cap

import Derived.Test.YtpkemdacmcjgmaaA4
import Derived.Test.YtpkemdacmcjgmaaM1
import Derived.Test.YtpkemdacmcjgmaaEngC
/- Contracts: serial numbers; the reference's parts. -/
namespace Go.Cap
open Go Go.Proofs
set_option maxRecDepth 100000
set_option linter.unusedSimpArgs false
set_option linter.unusedVariables false
attribute [local irreducible] Call Run Spec Le

theorem tmod64k (n : Int) : -65536 < n.tmod 65536 ∧ n.tmod 65536 < 65536 ∧ (n.tmod 65536 - n) % 65536 = 0 := by
  rcases Int.lt_or_le n 0 with h | h
  · have e : n.tmod 65536 = -((-n).tmod 65536) := by rw [← Int.neg_tmod, Int.neg_neg]
    rw [e, Int.tmod_eq_emod_of_nonneg (by omega)]; omega
  · rw [Int.tmod_eq_emod_of_nonneg h]; omega
theorem s_SerialAdd (a n : Int) : Spec Try.prog 28 0 [] [.i a, .i n] (fun r _ _ _ => r = .i (if serialB a then l3 a n else -1)) := by
  refine mk28 rfl fun c hP hm => ?_
  unfold pc28
  simp only [go_sem, ↓reduceIte]
  refine c_serialOk hP ?_
  simp only [go_sem, ↓reduceIte]
  refine ⟨fun h => ?_, fun h => ?_⟩
  · rw [h]; rfl
  · have ha : 0 ≤ a ∧ a < 65536 := by simpa [serialB] using h
    obtain ⟨h1, h2, h3⟩ := tmod64k n
    have h4 := tmod64k (a + n.tmod 65536)
    simp (disch := omega) only [wrap64]
    rw [Int.tmod_eq_emod_of_nonneg (a := (a + n.tmod 65536).tmod 65536 + 65536) (by omega), h, if_pos rfl]
    unfold l3
    congr 2; omega
theorem dataClosed (l : List Data) : closL2 (l.map Data.row) := closL2_map (fun s x hx => by
  simp only [Data.row, List.mem_cons, List.not_mem_nil, or_false] at hx
  rcases hx with rfl | rfl | rfl | rfl | rfl | rfl | rfl <;> rfl) l
theorem s_l31Ssn (l : List Data) (x : Int) (hl : l.length ≤ 4000000) : Spec Try.prog 82 0 [] [.r (.ro none (l.map Data.row)), .i x] (fun r _ _ _ => r = .i (ssnIn l x)) := by
  refine mk82 rfl fun c hP hm => ?_
  unfold pc82
  simp only [go_sem, ↓reduceIte]
  refine lp_wpc (α := Nat) (fun i => ⟨[(0, .r (.ro none (l.map Data.row))), (1, .i x), (5, .i (ssnIn (l.take i) x)), (6, .i i)], [], 0, []⟩) (fun i => i ≤ l.length) (fun i => l.length - i) 0 (Nat.zero_le _) (le_eq (by simp [ssnIn])) ?_
  intro i hi
  unfold pc82l0
  simp only [go_sem, ↓reduceIte]
  intro _
  refine ⟨fun hlt => ?_, fun hge => ?_⟩
  · have hil : i < l.length := by omega
    have hs := ssnIn_take hil x
    have hle := ssnIn_le (l.take i) x
    simp only [List.length_take] at hle
    simp only [Int.toNat_natCast, getD_map hil, Data.row, go_sem, ↓reduceIte]
    generalize hd : l[i] = d at hs
    obtain ⟨a, b, e, f, g, h, k⟩ := d
    simp only at hs
    simp only [Data.row, go_sem, ↓reduceIte]
    refine ⟨⟨by omega, by omega⟩, ?_⟩
    have e1 : IntKind.i64.wrap ((i : Int) + 1) = ((i + 1 : Nat) : Int) := by rw [wrap64 (by omega) (by omega)]; omega
    have e2 : IntKind.i64.wrap ((ssnIn (l.take i) x : Int) + 1) = ((ssnIn (l.take i) x + 1 : Nat) : Int) := by rw [wrap64 (by omega) (by omega)]; omega
    rw [e1, e2]
    repeat' first | refine And.intro ?_ ?_ | intro _
    all_goals first
      | omega
      | (simp only [*, if_true, if_false, Bool.false_eq_true, and_self, true_and, false_and, and_false, reduceCtorEq] at hs
         exact ⟨i + 1, hil, by omega, le_eq (by rw [hs] <;> rfl)⟩)
  · have : i = l.length := by omega
    subst this
    simp

end Go.Cap

import Derived.Test.YtcjbfoeiegecmaaG6
import Derived.Test.YtcjbfoeiegecmaaN9
/- Contracts: the ordered messages of a stream; what an assembly gives of a talk's parts. -/
namespace Go.Cap
open Go Go.Proofs
set_option maxRecDepth 100000
set_option linter.unusedSimpArgs false
set_option linter.unusedVariables false
attribute [local irreducible] Call Run Spec Le

theorem ofStr_take {l : List Msg} {i : Nat} (h : i < l.length) (s : Int) : ofStr s (l.take (i + 1)) = ofStr s (l.take i) ++ (if l[i].stream = s ∧ l[i].loose = false then [l[i]] else []) := by
  rw [take_get h]
  unfold ofStr
  rw [List.filter_append, List.filter_cons, List.filter_nil]
  congr 1
  by_cases h1 : l[i].stream = s <;> cases h2 : l[i].loose <;> simp [h1]
theorem ofStr_len (s : Int) (l : List Msg) : (ofStr s l).length ≤ l.length := List.length_filter_le ..
theorem s_ofStream (l : List Msg) (s : Int) (hl : l.length ≤ 100000000) : Spec Try.prog 24 0 [] [.r (.ro none (l.map Msg.row)), .i s] (New1 (.sl 0 0 (ofStr s l).length) 4 ((ofStr s l).map Msg.row)) := by
  refine Spec.new1 (Q := fun r hp _ _ => r = .sl 0 0 (ofStr s l).length ∧ hget hp 0 = some (.row 4 ((ofStr s l).map Msg.row))) ?_ (fun r hp nx gs h => ⟨0, h.1, h.2⟩) (fun f g h => by simp only [go_sem, h])
  refine mk24 rfl fun c hP hm => ?_
  unfold pc24
  simp only [hm, go_sem, ↓reduceIte]
  refine run_exit 0 (fun t0 => t0 = ⟨[(5, .sl 0 0 (ofStr s l).length)], [(0, .row 4 ((ofStr s l).map Msg.row))], 1, []⟩) ?_ (fun t0 h => by rw [h]; simp only [go_sem, ↓reduceIte])
  refine lp_wpc (α := Nat) (fun i => ⟨[(0, .r (.ro none (l.map Msg.row))), (1, .i s), (5, .sl 0 0 (ofStr s (l.take i)).length), (6, .i i)], [(0, .row 4 ((ofStr s (l.take i)).map Msg.row))], 1, []⟩) (fun i => i ≤ l.length) (fun i => l.length - i) 0 (Nat.zero_le _) (by simp only [List.take_zero, ofStr, List.filter_nil, List.map_nil, List.length_nil]; (refine le_ev [] ?_; simp only [hm, go_sem, ↓reduceIte]; first | done | rfl | exact ⟨rfl, rfl⟩)) ?_
  intro i hi
  unfold pc24l0
  rcases Nat.lt_or_ge i l.length with hil | hil
  · have hs := ofStr_take hil s
    have hb := ofStr_len s (l.take i)
    have hti : (l.take i).length = i := by rw [List.length_take]; omega
    simp only [Int.toNat_natCast, getD_map hil, Msg.row, hm, go_sem, ↓reduceIte]
    generalize ofStr s (l.take i) = acc at hs hb
    generalize l[i] = m at hs
    rw [wrap64 (x := (i : Int) + 1) (by omega) (by omega)]
    simp only [List.take_of_length_le (i := acc.length) (l := acc.map Msg.row) (by simp)]
    repeat' first | refine And.intro ?_ ?_ | intro _
    all_goals first
      | omega
      | (refine ⟨i + 1, hil, by omega, ?_⟩
         rw [hs]
         simp only [*, if_true, if_false, and_self, and_true, true_and, and_false, false_and, Bool.false_eq_true, reduceCtorEq, List.append_nil, List.map_append, List.map_cons, List.map_nil, List.length_append, List.length_singleton, Msg.row]
         (refine le_ev [] ?_; simp only [hm, go_sem, ↓reduceIte]; first | done | rfl | exact ⟨rfl, rfl⟩))
  · have : i = l.length := by omega
    subst this
    simp only [hm, go_sem, ↓reduceIte]
    exact fun _ => ⟨_, rfl, by rw [List.take_length]; (refine le_ev [] ?_; simp only [hm, go_sem, ↓reduceIte]; first | done | rfl | exact ⟨rfl, rfl⟩)⟩
end Go.Cap

import Derived.Test.YtcjbfoeiegecmaaH2
import Derived.Test.YtcjbfoeiegecmaaQ4
import Derived.Test.YtcjbfoeiegecmaaEngC
/- Contracts: runs of assemblies, as data. -/
namespace Go.Cap
open Go Go.Proofs
set_option maxRecDepth 100000
set_option linter.unusedSimpArgs false
set_option linter.unusedVariables false
attribute [local irreducible] Call Run Spec Le

theorem asmRun_bad {n : Int} {l : List Data} (h : ¬ (1 ≤ n ∧ n ≤ 4)) : asmRun n l = [] := by unfold asmRun; rw [if_neg h]
theorem s_implAsmRunP (n : Int) (l : List Data) (hl : l.length ≤ 1000000) (hx : ∀ d ∈ l, d.text.length ≤ 9223372036854775807) : Spec Try.prog 19 0 [] [.i n, .r (.ro none (l.map Data.row))] (Plain fun r => r = .r (.ro none ((asmRun n l).map Msg.row))) := by
  by_cases h : 1 ≤ n ∧ n ≤ 4
  · obtain ⟨m, rfl⟩ : ∃ m : Nat, n = m := ⟨n.toNat, by omega⟩
    have := s_implAsmRun1 m l (by omega) hl hx
    rw [← List.length_map (f := Msg.row)] at this
    exact this.dataP
  · rw [asmRun_bad h]
    exact (s_implAsmRun0 n l h).nilP
theorem s_specAsmRunP (n : Int) (l : List Data) (hl : l.length ≤ 1000000) (hx : ∀ d ∈ l, d.text.length ≤ 9223372036854775807) : Spec Try.prog 20 0 [] [.i n, .r (.ro none (l.map Data.row))] (Plain fun r => r = .r (.ro none ((asmRun n l).map Msg.row))) := by
  by_cases h : 1 ≤ n ∧ n ≤ 4
  · obtain ⟨m, rfl⟩ : ∃ m : Nat, n = m := ⟨n.toNat, by omega⟩
    have := s_specAsmRun1 m l (by omega) hl hx
    rw [← List.length_map (f := Msg.row)] at this
    exact this.dataP
  · rw [asmRun_bad h]
    exact (s_specAsmRun0 n l h).dataP
theorem s_implAsmAddP (a : Asm) (d : Data) (hn : a.next.length ≤ 2000000) (hl : a.parts.length ≤ 2000000) (hx : ∀ d ∈ a.parts, d.text.length ≤ 9223372036854775807) (hd : d.text.length ≤ 9223372036854775807) :
    Spec Try.prog 23 0 [] [a.ro, d.av] (Plain fun r => r = .tup [(asmAdd a d).1.ro, .r (.ro none ((asmAdd a d).2.1.map Msg.row)), .i (asmAdd a d).2.2]) := by
  refine Spec.le (s_implAsmAdd a d hn hl hx hd) fun r hp nx gs h => ⟨_, [], 0, [], ⟨rfl, rfl, rfl, rfl⟩, fun c hc => ?_⟩
  have k3 : (asmAdd a d).2.2 = 3 → (asmAdd a d).1 = ⟨[], []⟩ ∧ (asmAdd a d).2.1 = [] := fun h => by
    cases add_case a d with
    | bad e _ => rw [e]; exact ⟨rfl, rfl⟩
    | twice e => rw [e] at h; cases h
    | full e => rw [e] at h; cases h
    | done _ _ e => rw [e] at h; cases h
  have k0 : (asmAdd a d).2.2 ≠ 0 → (asmAdd a d).2.1 = [] := fun h => by
    cases add_case a d with
    | bad e _ => rw [e]
    | twice e => rw [e]
    | full e => rw [e]
    | done _ _ e => rw [e] at h; exact absurd rfl h
  generalize asmAdd a d = x at h k3 k0
  obtain ⟨a', ms, code⟩ := x
  unfold AddQ at h
  simp only at h ⊢
  by_cases h3 : code = 3
  · subst h3
    rw [if_pos rfl] at h
    subst h
    obtain ⟨e1, e2⟩ := k3 rfl
    simp only at e1 e2
    subst e1
    subst e2
    refine Le.trans (t := ⟨[(0, .tup [.agg [.r .nil, .r .nil], .r .nil, .i 3])], [], 0, []⟩) (le_ev [] (by simp only [hc, go_sem, ↓reduceIte])) ?_
    refine Le.trans le_denil ?_
    exact le_ev [] (by simp only [hc, Asm.ro, List.map_nil, go_sem, ↓reduceIte])
  · rw [if_neg h3] at h
    obtain ⟨b0, b1, n1, h1, h2, h⟩ := h
    by_cases h0 : code = 0
    · subst h0
      simp only [Int.reduceEq, if_true] at h
      obtain ⟨b2, n2, n3, h4, rfl⟩ := h
      refine Le.trans (t := ⟨[(0, .tup [.agg [.sl 0 0 a'.next.length, .sl 1 0 a'.parts.length], .sl 2 0 ms.length, .i 0])], [(0, .row 1 (a'.next.map intRow)), (1, .row 7 (a'.parts.map Data.row)), (2, .row 4 (ms.map Msg.row))], 3, []⟩) (le_ev [(0, b0), (1, b1), (2, b2)] ?_) ?_
      · simp only [hc, go_sem, ↓reduceIte, h1, h2, h4, List.mem_cons, List.not_mem_nil, or_false, not_false_eq_true, and_self]
        refine ⟨?_, ?_⟩
        all_goals first | (exact fun e => n1 e.symm) | (exact fun e => n3 e.symm) | (rintro (e | e) <;> first | exact n1 e.symm | exact n2 e.symm | exact n3 e.symm)
      · refine Le.trans (le_frz 0 rfl (by simp only [List.length_map, go_sem, ↓reduceIte]) (by simp only [go_sem, ↓reduceIte])) ?_
        simp only [take_map_len, List.drop_zero, go_sem, ↓reduceIte]
        refine Le.trans (le_frz 1 rfl (by simp only [List.length_map, go_sem, ↓reduceIte]) (by simp only [go_sem, ↓reduceIte])) ?_
        simp only [take_map_len, List.drop_zero, go_sem, ↓reduceIte]
        refine Le.trans (le_frz 2 rfl (by simp only [List.length_map, go_sem, ↓reduceIte]) (by simp only [go_sem, ↓reduceIte])) ?_
        simp only [take_map_len, List.drop_zero, go_sem, ↓reduceIte]
        exact le_ev [] (by simp only [hc, Asm.ro, go_sem, ↓reduceIte])
    · rw [if_neg h0] at h
      subst h
      have : ms = [] := k0 h0
      subst this
      refine Le.trans (t := ⟨[(0, .tup [.agg [.sl 0 0 a'.next.length, .sl 1 0 a'.parts.length], .r .nil, .i code])], [(0, .row 1 (a'.next.map intRow)), (1, .row 7 (a'.parts.map Data.row))], 2, []⟩) (le_ev [(0, b0), (1, b1)] ?_) ?_
      · simp only [hc, go_sem, ↓reduceIte, h1, h2, List.mem_cons, List.not_mem_nil, or_false, not_false_eq_true, and_self]
        exact fun e => n1 e.symm
      · refine Le.trans (le_frz 0 rfl (by simp only [List.length_map, go_sem, ↓reduceIte]) (by simp only [go_sem, ↓reduceIte])) ?_
        simp only [take_map_len, List.drop_zero, go_sem, ↓reduceIte]
        refine Le.trans (le_frz 1 rfl (by simp only [List.length_map, go_sem, ↓reduceIte]) (by simp only [go_sem, ↓reduceIte])) ?_
        simp only [take_map_len, List.drop_zero, go_sem, ↓reduceIte]
        refine Le.trans le_denil ?_
        exact le_ev [] (by simp only [hc, Asm.ro, List.map_nil, go_sem, ↓reduceIte])
theorem run_step1 (x : Asm × List Msg) (d : Data) : asmStep x d = (if (asmAdd x.1 d).2.2 = 3 then x.1 else (asmAdd x.1 d).1, x.2 ++ (asmAdd x.1 d).2.1) ∧ (asmAdd x.1 d).2.1.length ≤ 13 := by
  unfold asmStep
  obtain ⟨a, ms⟩ := x
  simp only
  cases add_case a d with
  | bad e _ => rw [e]; simp
  | twice e => rw [e]; simp
  | full e => rw [e]; simp
  | done a' ms' e => have := (add_len a d (by rw [e])).1; rw [e] at this ⊢; simpa using this
theorem s_implAsmNewP (n : Int) : Spec Try.prog 22 0 [] [.i n] (Plain fun r => r = .tup [(if 1 ≤ n ∧ n ≤ 4 then asmNew n.toNat else ⟨[], []⟩ : Asm).ro, .bo (decide (1 ≤ n ∧ n ≤ 4))]) := by
  by_cases h : 1 ≤ n ∧ n ≤ 4
  · rw [if_pos h, decide_eq_true h]
    obtain ⟨m, rfl⟩ : ∃ m : Nat, n = m := ⟨n.toNat, by omega⟩
    refine Spec.le (s_implAsmNew1 m (by omega)) fun r hp nx gs hq => ⟨_, [], 0, [], ⟨rfl, rfl, rfl, rfl⟩, fun c hc => ?_⟩
    obtain ⟨rfl, rfl, rfl, rfl⟩ := hq
    have e : m = ((asmNew m).next.map intRow).length := by simp [asmNew]
    refine Le.trans (t := ⟨[(0, .tup [.agg [.sl 0 0 ((asmNew m).next.map intRow).length, .r .nil], .bo true])], [(0, .row 1 ((asmNew m).next.map intRow))], 1, []⟩) (le_ev [] (by rw [← e]; simp only [hc, go_sem, ↓reduceIte])) ?_
    refine Le.trans (le_frz 0 rfl (by simp only [go_sem, ↓reduceIte]) (by simp only [go_sem, ↓reduceIte])) ?_
    simp only [take_map_len, List.drop_zero, go_sem, ↓reduceIte]
    refine Le.trans le_denil ?_
    exact le_ev [] (by simp only [hc, Asm.ro, Int.toNat_natCast, asmNew, List.map_nil, List.take_length, go_sem, ↓reduceIte])
  · rw [if_neg h, decide_eq_false h]
    refine Spec.le (s_implAsmNew0 n h) fun r hp nx gs hq => ⟨_, [], 0, [], ⟨rfl, rfl, rfl, rfl⟩, fun c hc => ?_⟩
    subst hq
    refine Le.trans (t := ⟨[(0, .tup [.agg [.r .nil, .r .nil], .bo false])], [], 0, []⟩) (le_ev [] (by simp only [hc, go_sem, ↓reduceIte])) ?_
    refine Le.trans le_denil ?_
    exact le_ev [] (by simp only [hc, Asm.ro, List.map_nil, go_sem, ↓reduceIte])
end Go.Cap

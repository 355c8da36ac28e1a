import Derived.Test.YtcjbfoeiegecmaaD3
/- Contracts: what the assembly laws draw. -/
namespace Go.Cap
open Go Go.Proofs
set_option maxRecDepth 100000
set_option linter.unusedSimpArgs false
set_option linter.unusedVariables false
attribute [local irreducible] Call Run Spec Le

theorem s_DrawAsmRun (code : List UInt8) : Spec Try.prog 18 0 [] [.r (.ro none (code.map byteRow))] (Plain fun r => ∃ (n : Int) (l : List Data), r = .tup [.i n, .r (.ro none (l.map Data.row))] ∧ -1 ≤ n ∧ n ≤ 5 ∧ l.length ≤ 13 ∧ ∀ d ∈ l, d.text.length ≤ 20) := by
  refine Spec.le (Q := fun r hp _ _ => ∃ (n : Int) (l : List Data), ∃ b, r = .tup [.i n, .sl b 0 l.length] ∧ hget hp b = some (.row 7 (l.map Data.row)) ∧ -1 ≤ n ∧ n ≤ 5 ∧ l.length ≤ 13 ∧ ∀ d ∈ l, d.text.length ≤ 20) ?_ ?_
  · refine mr18 rfl fun c hP hm => ?_
    unfold pc18
    refine run_seq (run_wpc _ _ _ _ _ ?_)
    simp only [hm, go_sem, ↓reduceIte]
    refine run_seq (run_wpc _ _ _ _ _ ?_)
    simp only [hm, go_sem, ↓reduceIte]
    refine call_newV (hP ▸ s_l6Open code) rfl rfl ?_
    simp only [hm, go_sem, ↓reduceIte]
    have hc : (code.take 2000).length ≤ 2000 := by simp; omega
    generalize code.take 2000 = code at hc
    refine run_seq (run_wpc _ _ _ _ _ ?_)
    simp only [hm, go_sem, ↓reduceIte]
    refine c_drawT2 (hP ▸ s_l92TalkV code 0 (by omega) hc) rfl fun t p1 h1 h2 hv => ?_
    obtain ⟨_, t2, t3, _, _, t6, t7⟩ := talk_ok hv
    simp only [Talk.av, hm, go_sem, ↓reduceIte]
    refine run_frz 1 rfl (by first | (simp only [hm, List.length_map, go_sem, ↓reduceIte]; done) | (simp only [hm, List.length_map, go_sem, ↓reduceIte]; omega)) (by first | (simp only [hm, List.length_map, go_sem, ↓reduceIte]; done) | (simp only [hm, List.length_map, go_sem, ↓reduceIte]; omega)) ?_; simp only [hm, take_map_len, List.drop_zero, go_sem, ↓reduceIte]
    refine run_wpc _ _ _ _ _ ?_
    simp only [hm, go_sem, ↓reduceIte]
    have h12 := talkParts_12 t false hv
    have htv : ∀ d ∈ talkParts t false, d.text.length ≤ 20 := fun d hd => by
      obtain ⟨n, en, hn, hseq, _⟩ := talk_seq hv false
      exact (data_ok (hseq.ok d hd)).2.2.2.2
    repeat' first | refine And.intro ?_ ?_ | intro _ | (refine c_pick hP (by rfl) (by omega) hc fun v hpk => ?_; simp only [hm, go_sem, ↓reduceIte])
    all_goals
      refine c_drawL (hP ▸ s_l92Parts code _ t hv (by omega) (fun s hs => by have := t3 s hs; omega) (by omega) hc) rfl fun l p2 k1 k2 k3 k4 => ?_
      simp only [hm, go_sem, ↓reduceIte]
      refine ⟨_, l, _, rfl, rfl, ?_, ?_, k3, fun d hd => htv d (k4 d hd)⟩
    all_goals first
      | omega
      | (rename_i v hpk _; unfold Below at hpk; rw [wrap64 (by omega) (by omega)]; omega)
  · rintro r hp nx gs ⟨n, l, b, rfl, hb, h⟩
    refine ⟨.tup [.i n, .r (.ro none (l.map Data.row))], [], 0, [], ⟨⟨n, l, rfl, h⟩, rfl, rfl, rfl⟩, fun c hc => ?_⟩
    refine Le.trans (t := ⟨[(0, .tup [.i n, .sl 0 0 l.length])], [(0, .row 7 (l.map Data.row))], 1, []⟩) (le_ev [(0, b)] ?_) ?_
    · simp only [hc, go_sem, ↓reduceIte, hb]
    · refine Le.trans (le_frz 0 rfl (by simp only [List.length_map, go_sem, ↓reduceIte]) (by simp only [go_sem, ↓reduceIte])) ?_
      simp only [take_map_len, List.drop_zero, go_sem, ↓reduceIte]
      exact le_ev [] (by simp only [hc, go_sem, ↓reduceIte])
end Go.Cap

import Derived.Test.YtcjbfoeiegecmaaD3
/- Contracts: what the assembly laws draw. -/
namespace Go.Cap
open Go Go.Proofs
set_option maxRecDepth 100000
set_option linter.unusedSimpArgs false
set_option linter.unusedVariables false
attribute [local irreducible] Call Run Spec Le

theorem c_drawA {c : Cx} {f : Nat} {code : List UInt8} {p k : Int} {s : St} {K : AV → St → Prop} {b : Nat} (hs : Spec c.P f 1 [(0, rdB code p)] [.ptr 0 0 0] (DrawA code p k)) (hb : hget s.hp b = some (rdB code p))
    (h : ∀ (a : Asm) p', p ≤ p' → p' ≤ p + k → a.next.length ≤ 5 → a.parts.length ≤ 26 → (∀ d ∈ a.parts, d.text.length ≤ 200) → K (.agg [.sl s.nx 0 a.next.length, .sl (s.nx + 1) 0 a.parts.length]) ⟨s.sl, (b, rdB code p') :: (s.nx, .row 1 (a.next.map intRow)) :: (s.nx + 1, .row 7 (a.parts.map Data.row)) :: hdel s.hp b, s.nx + 2, s.gs⟩) : Call c f [.ptr b 0 0] s K :=
  call_named1G b hs hb rfl rfl fun r hp' nx' gs' ⟨a, p', h1, h2, h3, h4, h5, h6, h7, h8, h9⟩ => by
    subst h1; subst h2; subst h3; subst h4
    have := h a p' h5 h6 h7 h8 h9
    simpa [renA, renA.renL, renH, renB, idf, rdB] using this
/-- An assembly, as data. -/
def AsmIs (a : Asm) : Prop := a.next.length ≤ 5 ∧ a.parts.length ≤ 26 ∧ ∀ d ∈ a.parts, d.text.length ≤ 200
theorem s_DrawAsmAdd (code : List UInt8) : Spec Try.prog 25 0 [] [.r (.ro none (code.map byteRow))] (Plain fun r => ∃ (a : Asm) (d : Data), r = .tup [a.ro, d.av] ∧ AsmIs a ∧ d.text.length ≤ 200) := by
  refine Spec.le (Q := fun r hp _ _ => ∃ (a : Asm) (d : Data), ∃ b1 b2, b1 ≠ b2 ∧ r = .tup [.agg [.sl b1 0 a.next.length, .sl b2 0 a.parts.length], d.av] ∧ hget hp b1 = some (.row 1 (a.next.map intRow)) ∧ hget hp b2 = some (.row 7 (a.parts.map Data.row)) ∧ AsmIs a ∧ d.text.length ≤ 200) ?_ ?_
  · refine mr25 rfl fun c hP hm => ?_
    unfold pc25
    refine run_seq (run_wpc _ _ _ _ _ ?_)
    simp only [hm, go_sem, ↓reduceIte]
    refine run_seq (run_wpc _ _ _ _ _ ?_)
    simp only [hm, go_sem, ↓reduceIte]
    refine call_newV (hP ▸ s_l6Open code) rfl rfl ?_
    simp only [hm, go_sem, ↓reduceIte]
    have hc : (code.take 2000).length ≤ 2000 := by simp; omega
    generalize code.take 2000 = code at hc
    refine run_seq (run_wpc _ _ _ _ _ ?_)
    simp only [hm, go_sem, ↓reduceIte]
    refine c_drawA (hP ▸ s_l92Asm _ 0 (by omega) hc) rfl fun a p1 h1 h2 h3 h4 h5 => ?_
    simp only [hm, go_sem, ↓reduceIte]
    refine run_seq (run_wpc _ _ _ _ _ ?_)
    simp only [hm, go_sem, ↓reduceIte]
    intro _
    refine run_join (fun t => ∃ q : Int, 0 ≤ q ∧ q ≤ 1000 ∧ t = ⟨[(2, .ptr 0 0 0), (3, .ptr 1 0 0), (4, .ptr 2 0 0), (5, .ptr 3 0 0)], [(5, .row 7 (a.parts.map Data.row)), (4, .row 1 (a.next.map intRow)), (3, .var [.sl 4 0 a.next.length, .sl 5 0 a.parts.length]), (2, rdB code q), (1, .var [.i 0, .i 0, .i 0, .bo false, .bo false, .bo false, .st []]), (0, .var [.r .nil, .r .nil])], 6, []⟩) ?_ ?_
    · refine run_le (t := ⟨[(2, .ptr 0 0 0), (3, .ptr 1 0 0), (4, .ptr 2 0 0), (5, .ptr 3 0 0), (6, .i a.parts.length)], [(5, .row 7 (a.parts.map Data.row)), (4, .row 1 (a.next.map intRow)), (3, .var [.sl 4 0 a.next.length, .sl 5 0 a.parts.length]), (2, rdB code p1), (1, .var [.i 0, .i 0, .i 0, .bo false, .bo false, .bo false, .st []]), (0, .var [.r .nil, .r .nil])], 6, []⟩) (by (refine le_ev [(3, 5), (4, 3), (5, 4)] ?_; simp only [hm, go_sem, ↓reduceIte]; first | done | rfl | exact ⟨rfl, rfl⟩)) (run_wpc _ _ _ _ _ ?_)
      simp only [hm, go_sem, ↓reduceIte]
      refine ⟨fun hpos => ?_, fun _ => ⟨_, ⟨p1, by omega, by omega, rfl⟩, by (refine le_ev [] ?_; simp only [hm, go_sem, ↓reduceIte]; first | done | rfl | exact ⟨rfl, rfl⟩)⟩⟩
      have hn1 : IntKind.i64.wrap ((a.parts.length : Int) - 1) = (a.parts.length : Int) - 1 := wrap64 (by omega) (by omega)
      have hln : ((a.parts.length : Int) - 1).toNat = a.parts.length - 1 := by omega
      have hlt : a.parts.length - 1 < a.parts.length := by omega
      have hgl := getD_map (f := Data.row) hlt
      have hxl := h5 _ (List.getElem_mem hlt)
      generalize a.parts[a.parts.length - 1] = e at hgl hxl
      refine c_pick hP (by rfl) (by omega) hc fun v hv => ?_
      simp only [hn1, hln, hgl, Data.row, hm, go_sem, ↓reduceIte]
      refine ⟨fun hv0 => ⟨by omega, by omega, ?_⟩, fun _ => ⟨_, ⟨p1 + 1, by omega, by omega, rfl⟩, by (refine le_ev [] ?_; simp only [hm, go_sem, ↓reduceIte]; first | done | rfl | exact ⟨rfl, rfl⟩)⟩⟩
      refine call_pure (hP ▸ s_l12Data e (by omega)) rfl rfl ?_
      cases dataB e
      · simp only [hm, go_sem, ↓reduceIte]
        exact ⟨_, ⟨p1 + 1, by omega, by omega, rfl⟩, by (refine le_ev [] ?_; simp only [hm, go_sem, ↓reduceIte]; first | done | rfl | exact ⟨rfl, rfl⟩)⟩
      · simp only [hm, go_sem, ↓reduceIte]
        refine ⟨?_, ?_⟩
        all_goals
          refine c_pick hP (by rfl) (by omega) hc fun i hi => ?_
          have hi' : 0 ≤ i ∧ i < a.parts.length := by unfold Below at hi; omega
          have hin : i.toNat < a.parts.length := by omega
          have hgi := getD_map (f := Data.row) hin
          have hxi := h5 _ (List.getElem_mem hin)
          generalize a.parts[i.toNat] = d at hgi hxi
          simp only [hgi, Data.row, hm, go_sem, ↓reduceIte]
          repeat' first | refine And.intro ?_ ?_ | intro _ | (refine c_pick hP (by rfl) (by omega) hc fun v hv => ?_; simp only [hm, go_sem, ↓reduceIte]) | (refine call_pure (hP ▸ s_l3Add' _ _) rfl rfl ?_; simp only [hm, go_sem, ↓reduceIte])
          all_goals first
            | omega
            | rfl
            | exact ⟨a, ⟨_, _, _, _, _, _, _⟩, 4, 5, by decide, rfl, rfl, rfl, ⟨h3, h4, h5⟩, hxi⟩
    · rintro t ⟨q, hq1, hq2, rfl⟩
      refine run_wpc _ _ _ _ _ ?_
      simp only [hm, go_sem, ↓reduceIte]
      refine c_drawD (hP ▸ s_l91Part code q (by omega) hc) rfl fun d q2 g1 g2 g3 => ?_
      simp only [Data.av, hm, go_sem, ↓reduceIte]
      refine c_pick hP (by rfl) (by omega) hc fun u hu => ?_
      simp only [hm, go_sem, ↓reduceIte]
      refine ⟨fun _ => ?_, fun _ => ?_⟩
      · cases hnx : a.next with
        | nil =>
          simp only [hm, go_sem, ↓reduceIte]
          exact ⟨⟨[], a.parts⟩, ⟨d.tsn, 0, d.ssn, true, true, d.loose, d.text⟩, 4, 5, by decide, rfl, rfl, rfl, ⟨by simp, h4, h5⟩, g3⟩
        | cons x xs =>
          simp only [List.map_cons, List.getD_cons_zero, intRow, List.length_cons, hm, go_sem, ↓reduceIte]
          intro _
          rw [hnx, List.length_cons] at h3
          repeat' first | refine And.intro ?_ ?_ | intro _ | (refine c_l3Ok hP ?_; simp only [hm, go_sem, ↓reduceIte]) | (refine c_pick hP (by rfl) (by omega) hc fun v hv => ?_; simp only [hm, go_sem, ↓reduceIte]) | (refine call_pure (hP ▸ s_l3Add' _ _) rfl rfl ?_; simp only [hm, go_sem, ↓reduceIte])
          all_goals first
            | omega
            | rfl
            | exact ⟨⟨x :: xs, a.parts⟩, ⟨d.tsn, 0, _, true, true, d.loose, d.text⟩, 4, 5, by decide, rfl, rfl, rfl, ⟨by rw [List.length_cons]; exact h3, h4, h5⟩, g3⟩
      · exact ⟨a, ⟨_, _, _, _, _, _, _⟩, 4, 5, by decide, rfl, rfl, rfl, ⟨h3, h4, h5⟩, g3⟩
  · rintro r hp nx gs ⟨a, d, b1, b2, hne, rfl, h1, h2, hb, hd⟩
    refine ⟨.tup [a.ro, d.av], [], 0, [], ⟨⟨a, d, rfl, hb, hd⟩, rfl, rfl, rfl⟩, fun c hc => ?_⟩
    refine Le.trans (t := ⟨[(0, .tup [.agg [.sl 0 0 a.next.length, .sl 1 0 a.parts.length], d.av])], [(0, .row 1 (a.next.map intRow)), (1, .row 7 (a.parts.map Data.row))], 2, []⟩) (le_ev [(0, b1), (1, b2)] ?_) ?_
    · simp only [hc, go_sem, ↓reduceIte, h1, h2, Data.av, List.mem_cons, List.not_mem_nil, or_false, not_false_eq_true, and_self]
      exact fun e => hne e.symm
    · refine Le.trans (le_frz 0 rfl (by simp only [List.length_map, Data.av, go_sem, ↓reduceIte]) (by simp only [go_sem, ↓reduceIte])) ?_
      simp only [take_map_len, List.drop_zero, Data.av, go_sem, ↓reduceIte]
      refine Le.trans (le_frz 1 rfl (by simp only [List.length_map, Data.av, go_sem, ↓reduceIte]) (by simp only [go_sem, ↓reduceIte])) ?_
      simp only [take_map_len, List.drop_zero, Data.av, go_sem, ↓reduceIte]
      exact le_ev [] (by simp only [hc, Asm.ro, go_sem, ↓reduceIte])
end Go.Cap

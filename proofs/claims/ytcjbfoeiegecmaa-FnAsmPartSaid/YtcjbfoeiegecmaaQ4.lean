import Derived.Test.YtcjbfoeiegecmaaQ3
/- Contracts of the reference: adding a part, whole; a run. -/
namespace Go.Cap
open Go Go.Proofs
set_option maxRecDepth 100000
set_option linter.unusedSimpArgs false
set_option linter.unusedVariables false
attribute [local irreducible] Call Run Spec Le

theorem s_specAsmAdd (a : Asm) (d : Data) (hn : a.next.length ≤ 2000000) (hl : a.parts.length ≤ 2000000) (hx : ∀ d ∈ a.parts, d.text.length ≤ 9223372036854775807) (hd : d.text.length ≤ 9223372036854775807) :
    Spec Try.prog 26 0 [] [a.ro, d.av] (fun r hp _ _ => AddQs (asmAdd a d) r hp) := by
  refine mr26 rfl fun c hP hm => ?_
  unfold pc26 Asm.ro Data.av
  refine run_seq (run_wpc _ _ _ _ _ ?_)
  simp only [go_sem, ↓reduceIte]
  refine run_seq (run_wpc _ _ _ _ _ ?_)
  simp only [go_sem, ↓reduceIte]
  refine call_pure (hP ▸ s_specAsmValid a hn hl hx) rfl rfl ?_
  simp only [go_sem, ↓reduceIte]
  have hbad : (asmB a && dataB d && decide (d.stream < a.next.length)) = false → asmAdd a d = (⟨[], []⟩, [], 3) := fun h => by
    unfold asmAdd
    rw [if_pos]
    cases h1 : asmB a <;> cases h2 : dataB d <;> simp [h1, h2] at h ⊢
    exact h
  have hgood : asmB a = true → dataB d = true → d.stream < a.next.length → asmAdd a d = if (atIx a.parts d.tsn).isSome then (a, [], 1) else if 12 ≤ a.parts.length then (a, [], 2) else ((settle (a.parts.length + 2) ⟨a.next, a.parts ++ [d]⟩ []).1, (settle (a.parts.length + 2) ⟨a.next, a.parts ++ [d]⟩ []).2, 0) := fun h1 h2 h3 => by
    unfold asmAdd
    rw [if_neg (by simp [h1, h2]; omega)]
  repeat' first | refine And.intro ?_ ?_ | intro _ | (refine call_pure (hP ▸ s_l12Data d hd) rfl rfl ?_; simp only [go_sem, ↓reduceIte])
  all_goals first
    | (rw [hbad (by simp [*]; try omega)]; exact ⟨_, rfl, rfl⟩)
    | skip
  have h1 : asmB a = true := by assumption
  have h2 : dataB d = true := by assumption
  have h3 : d.stream < a.next.length := by assumption
  rw [hgood h1 h2 h3]
  obtain ⟨k1, k2, k3, k4⟩ := asm_ok h1
  refine run_join (fun t => t = ⟨[(2, .ptr 5 0 0), (3, .ptr 4 0 0), (4, .ptr 0 0 0), (7, .ptr 1 0 0)], [(5, .var [.r (.ro none (a.next.map intRow)), .r (.ro none (a.parts.map Data.row))]), (4, .var [.i d.tsn, .i d.stream, .i d.ssn, .bo d.first, .bo d.last, .bo d.loose, .st d.text]), (3, .row 7 (a.parts.map Data.row)), (2, .row 1 (a.next.map intRow)), (1, .var [.sl 2 0 a.next.length, .sl 3 0 a.parts.length]), (0, .var [.r .nil, .r .nil])], 6, []⟩) (run_wpc _ _ _ _ _ ?_) ?_
  · simp only [hm, go_sem, ↓reduceIte]
    repeat' first | refine And.intro ?_ ?_ | intro _
    all_goals first
      | omega
      | (rename_i h; obtain ⟨_, _, rfl⟩ := List.mem_map.1 h; rfl)
      | (refine ⟨_, rfl, le_ev [(0, 2), (4, 1), (5, 0), (1, 3), (2, 4), (3, 5)] ?_⟩; simp only [hm, go_sem, ↓reduceIte]; first | done | rfl | exact ⟨rfl, rfl⟩) | (refine ⟨_, rfl, le_ev [(0, 2), (4, 1), (5, 0), (1, 3), (2, 5), (3, 4)] ?_⟩; simp only [hm, go_sem, ↓reduceIte]; first | done | rfl | exact ⟨rfl, rfl⟩) | (refine ⟨_, rfl, le_ev [(0, 2), (4, 1), (5, 0), (1, 4), (2, 3), (3, 5)] ?_⟩; simp only [hm, go_sem, ↓reduceIte]; first | done | rfl | exact ⟨rfl, rfl⟩) | (refine ⟨_, rfl, le_ev [(0, 2), (4, 1), (5, 0), (1, 4), (2, 5), (3, 3)] ?_⟩; simp only [hm, go_sem, ↓reduceIte]; first | done | rfl | exact ⟨rfl, rfl⟩) | (refine ⟨_, rfl, le_ev [(0, 2), (4, 1), (5, 0), (1, 5), (2, 3), (3, 4)] ?_⟩; simp only [hm, go_sem, ↓reduceIte]; first | done | rfl | exact ⟨rfl, rfl⟩) | (refine ⟨_, rfl, le_ev [(0, 2), (4, 1), (5, 0), (1, 5), (2, 4), (3, 3)] ?_⟩; simp only [hm, go_sem, ↓reduceIte]; first | done | rfl | exact ⟨rfl, rfl⟩)
  · rintro t rfl
    refine run_seq (run_wpc _ _ _ _ _ ?_)
    simp only [hm, go_sem, ↓reduceIte]
    refine call_pure (hP ▸ s_l22At a.parts d.tsn hl) rfl rfl ?_
    simp only [hm, go_sem, ↓reduceIte]
    refine ⟨fun hge => ?_, fun hlt => fun _ => ⟨fun h12 => ?_, fun h12 => ?_⟩⟩
    · have : (atIx a.parts d.tsn).isSome = true := by cases hat : atIx a.parts d.tsn with
        | none => rw [hat] at hge; exact absurd hge (by decide)
        | some j => rfl
      rw [if_pos this]
      exact ⟨2, 3, 6, by decide, rfl, rfl, rfl, rfl⟩
    all_goals
      have hnone : ¬ ((atIx a.parts d.tsn).isSome = true) := by cases hat : atIx a.parts d.tsn with
        | none => decide
        | some j => rw [hat] at hlt; simp only [ixI] at hlt; omega
      rw [if_neg hnone]
    · rw [if_pos (by omega)]
      exact ⟨2, 3, 6, by decide, rfl, rfl, rfl, rfl⟩
    · rw [if_neg (by omega)]
      refine run_seq (run_wpc _ _ _ _ _ ?_)
      simp only [hm, go_sem, ↓reduceIte]
      refine ⟨by omega, ?_⟩
      refine run_seq (run_wpc _ _ _ _ _ ?_)
      simp only [hm, go_sem, ↓reduceIte]
      have hrow : List.take a.parts.length (a.parts.map Data.row) ++ [[.n .i64 d.tsn, .n .i64 d.stream, .n .i64 d.ssn, .b d.first, .b d.last, .b d.loose, .s d.text]] = (a.parts ++ [d]).map Data.row := by
        rw [List.take_of_length_le (by simp), List.map_append]; rfl
      rw [hrow]
      have hok := add_ok h1 h2 h3
      have hlen : (a.parts ++ [d]).length = a.parts.length + 1 := by simp
      have hst : settle ((a.parts ++ [d]).length + 1) ⟨a.next, a.parts ++ [d]⟩ [] = settle (a.parts.length + 2) ⟨a.next, a.parts ++ [d]⟩ [] := by
        rw [List.length_append, List.length_singleton]
      refine run_seq (run_wpc _ _ _ _ _ ?_)
      simp only [hm, go_sem, ↓reduceIte]
      refine call_new1 (hP ▸ s_specFind ⟨a.next, a.parts ++ [d]⟩ hok) rfl (natClosed _) (.cons (vw_agg (.cons (Vw.full rfl (by simp)) (.cons (Vw.full rfl (by simp)) .nil))) .nil) ?_
      simp only [hm, go_sem, ↓reduceIte]
      refine run_wpc _ _ _ _ _ ?_
      simp only [hm, go_sem, ↓reduceIte]
      refine loop_specAsmAdd0 hP hm _ ⟨a.next, a.parts ++ [d]⟩ hok ?_ hst (by simp only [hlen]; (refine le_ev [(4, 7), (5, 8)] ?_; simp only [hm, go_sem, ↓reduceIte]; first | done | rfl | exact ⟨rfl, rfl⟩)) ?_
      · intro x hx
        rcases List.mem_append.1 hx with hx | hx
        · exact (data_ok (k4 x hx).1).2.2.2.2
        · simp only [List.mem_singleton] at hx; subst hx; exact (data_ok h2).2.2.2.2
      · simp only [hm, go_sem, ↓reduceIte]
        exact ⟨2, 3, 4, by decide, rfl, rfl, rfl, rfl⟩
theorem c_specAsmAdd {c : Cx} (hP : c.P = Try.prog) {a : Asm} {d : Data} {va vd : AV} {s : St} {K : AV → St → Prop} (hn : a.next.length ≤ 2000000) (hl : a.parts.length ≤ 2000000) (hx : ∀ d ∈ a.parts, d.text.length ≤ 9223372036854775807) (hd : d.text.length ≤ 9223372036854775807)
    (hv : Vws s.hp [va, vd] [a.ro, d.av])
    (k3 : (asmAdd a d).2.2 = 3 → K (.tup [.agg [.r .nil, .r .nil], .sl s.nx 0 0, .i 3]) ⟨s.sl, (s.nx, .row 4 []) :: s.hp, s.nx + 1, s.gs⟩)
    (k0 : (asmAdd a d).2.2 ≠ 3 → K (.tup [.agg [.sl s.nx 0 (asmAdd a d).1.next.length, .sl (s.nx + 1) 0 (asmAdd a d).1.parts.length], .sl (s.nx + 2) 0 (asmAdd a d).2.1.length, .i (asmAdd a d).2.2])
      ⟨s.sl, (s.nx, .row 1 ((asmAdd a d).1.next.map intRow)) :: (s.nx + 1, .row 7 ((asmAdd a d).1.parts.map Data.row)) :: (s.nx + 2, .row 4 ((asmAdd a d).2.1.map Msg.row)) :: s.hp, s.nx + 3, s.gs⟩) : Call c 26 [va, vd] s K := by
  have hs := s_specAsmAdd a d hn hl hx hd
  generalize asmAdd a d = x at hs k3 k0
  obtain ⟨a', ms, code⟩ := x
  simp only at k3 k0
  by_cases h3 : code = 3
  · subst h3
    have h2 := Spec.new1 (r0 := .tup [.agg [.r .nil, .r .nil], .sl 0 0 0, .i 3]) (sz := 4) (L := ([] : List Msg).map Msg.row) hs (fun r hp nx gs hq => by
      unfold AddQs at hq
      simp only [if_true] at hq
      obtain ⟨b, h1, rfl⟩ := hq
      exact ⟨b, rfl, h1⟩) (fun f g e0 => by simp only [go_sem, e0])
    rw [← hP] at h2
    exact call_new1 h2 rfl (msgClosed _) hv (k3 rfl)
  · have h2 := Spec.new3 (r0 := .tup [.agg [.sl 0 0 a'.next.length, .sl 1 0 a'.parts.length], .sl 2 0 ms.length, .i code]) (sz := 1) (L := a'.next.map intRow) (sz1 := 7) (L1 := a'.parts.map Data.row) (sz2 := 4) (L2 := ms.map Msg.row) hs (fun r hp nx gs hq => by
      unfold AddQs at hq
      simp only [h3, if_false] at hq
      obtain ⟨b0, b1, b2, hn, h1, h2, h3, rfl⟩ := hq
      exact ⟨b0, b1, b2, hn, rfl, h1, h2, h3⟩) (fun f g e0 e1 e2 => by simp only [go_sem, e0, e1, e2])
    rw [← hP] at h2
    exact call_new3 h2 rfl (intClosed _) (dataClosed _) (msgClosed _) hv (k0 h3)
theorem s_specAsmNew1 (n : Nat) (hn : 1 ≤ n ∧ n ≤ 4) : Spec Try.prog 44 0 [] [.i n] (New2 (.tup [.agg [.sl 0 0 n, .sl 1 0 0], .bo true]) 1 ((asmNew n).next.map intRow) 7 (([] : List Data).map Data.row)) := by
  refine Spec.new2 (Q := fun r hp _ _ => ∃ b b1, b ≠ b1 ∧ r = .tup [.agg [.sl b 0 n, .sl b1 0 0], .bo true] ∧ hget hp b = some (.row 1 ((asmNew n).next.map intRow)) ∧ hget hp b1 = some (.row 7 (([] : List Data).map Data.row))) ?_ (fun r hp nx gs h => h) (fun f g h1 h2 => by simp only [go_sem, h1, h2])
  refine mk44 rfl fun c hP hm => ?_
  unfold pc44
  simp only [hm, go_sem, ↓reduceIte]
  refine c_l6In hP ?_
  have e : inB (n : Int) 1 4 = true := by unfold inB; simp only [decide_eq_true_eq]; omega
  simp only [e, asmNew, List.map_replicate, intRow, Int.toNat_natCast, hm, go_sem, ↓reduceIte]
  repeat' first | refine And.intro ?_ ?_ | intro _
  all_goals first
    | omega
    | exact ⟨1, 2, by decide, rfl, rfl, rfl⟩
end Go.Cap

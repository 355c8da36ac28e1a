import Derived.Test.YtcjbfoeiegecmaaN7
/- Contracts: adding a part (the program's), whole. -/
namespace Go.Cap
open Go Go.Proofs
set_option maxRecDepth 100000
set_option linter.unusedSimpArgs false
set_option linter.unusedVariables false
attribute [local irreducible] Call Run Spec Le

/-- What AsmAdd leaves. -/
def AddQ (x : Asm × List Msg × Int) (r : AV) (hp : List (Nat × Blk)) : Prop :=
  if x.2.2 = 3 then r = .tup [.agg [.r .nil, .r .nil], .r .nil, .i 3]
  else ∃ b0 b1, b0 ≠ b1 ∧ hget hp b0 = some (.row 1 (x.1.next.map intRow)) ∧ hget hp b1 = some (.row 7 (x.1.parts.map Data.row)) ∧
    if x.2.2 = 0 then ∃ b2, b0 ≠ b2 ∧ b1 ≠ b2 ∧ hget hp b2 = some (.row 4 (x.2.1.map Msg.row)) ∧ r = .tup [.agg [.sl b0 0 x.1.next.length, .sl b1 0 x.1.parts.length], .sl b2 0 x.2.1.length, .i 0]
    else r = .tup [.agg [.sl b0 0 x.1.next.length, .sl b1 0 x.1.parts.length], .r .nil, .i x.2.2]
theorem partsLoop_ok {n : Nat} {ps : List Data} : ∀ (l : List Data) (i : Nat), partsLoop n ps i l = true → ∀ d ∈ l, dataB d = true ∧ d.stream < n
  | [], i, h, d, hd => by cases hd
  | x :: l, i, h, d, hd => by
    simp only [partsLoop, partOk, Bool.and_eq_true, decide_eq_true_eq] at h
    rcases List.mem_cons.1 hd with rfl | hd
    · exact ⟨h.1.1.1, h.1.1.2⟩
    · exact partsLoop_ok l (i + 1) h.2 d hd
theorem data_ok {d : Data} (h : dataB d = true) : (0 ≤ d.tsn ∧ d.tsn < 65536) ∧ (0 ≤ d.stream ∧ d.stream < 65536) ∧ (0 ≤ d.ssn ∧ d.ssn < 65536) ∧ 1 ≤ d.text.length ∧ d.text.length ≤ 20 := by
  simp only [dataB, serialB, Bool.and_eq_true, decide_eq_true_eq] at h
  exact ⟨h.1.1.1, h.1.1.2, h.1.2, h.2.1, h.2.2⟩
/-- What a valid assembly promises. -/
theorem asm_ok {a : Asm} (h : asmB a = true) : (1 ≤ a.next.length ∧ a.next.length ≤ 4) ∧ a.parts.length ≤ 12 ∧ (∀ n ∈ a.next, serialB n = true) ∧ ∀ d ∈ a.parts, dataB d = true ∧ d.stream < a.next.length := by
  simp only [asmB, Bool.and_eq_true, decide_eq_true_eq, List.all_eq_true] at h
  exact ⟨h.1.1.1, h.1.1.2, h.1.2, partsLoop_ok _ _ h.2⟩
theorem add_ok {a : Asm} {d : Data} (h : asmB a = true) (hd : dataB d = true) (hs : d.stream < a.next.length) : AsmOk ⟨a.next, a.parts ++ [d]⟩ := by
  obtain ⟨h1, h2, h3, h4⟩ := asm_ok h
  refine ⟨by simp; omega, fun x hx => ?_, fun x hx => ?_, h3, h1.2⟩
  · rcases List.mem_append.1 hx with hx | hx
    · exact (data_ok (h4 x hx).1).1
    · simp only [List.mem_singleton] at hx; subst hx; exact (data_ok hd).1
  · rcases List.mem_append.1 hx with hx | hx
    · exact ⟨(data_ok (h4 x hx).1).2.1.1, (h4 x hx).2⟩
    · simp only [List.mem_singleton] at hx; subst hx; exact ⟨(data_ok hd).2.1.1, hs⟩
theorem s_implAsmAdd (a : Asm) (d : Data) (hn : a.next.length ≤ 2000000) (hl : a.parts.length ≤ 2000000) (hx : ∀ d ∈ a.parts, d.text.length ≤ 9223372036854775807) (hd : d.text.length ≤ 9223372036854775807) :
    Spec Try.prog 23 0 [] [a.ro, d.av] (fun r hp _ _ => AddQ (asmAdd a d) r hp) := by
  refine mr23 rfl fun c hP hm => ?_
  unfold pc23 Asm.ro Data.av
  refine run_seq (run_wpc _ _ _ _ _ ?_)
  simp only [go_sem, ↓reduceIte]
  refine run_seq (run_wpc _ _ _ _ _ ?_)
  simp only [go_sem, ↓reduceIte]
  refine call_pure (hP ▸ s_implAsmValid a hn hl hx) rfl rfl ?_
  simp only [go_sem, ↓reduceIte]
  have hbad : (asmB a && dataB d && decide (d.stream < a.next.length)) = false → asmAdd a d = (⟨[], []⟩, [], 3) := fun h => by
    unfold asmAdd
    rw [if_pos]
    cases h1 : asmB a <;> cases h2 : dataB d <;> simp [h1, h2] at h ⊢
    exact h
  have hgood : asmB a = true → dataB d = true → d.stream < a.next.length → asmAdd a d = if (atIx a.parts d.tsn).isSome then (a, [], 1) else if 12 ≤ a.parts.length then (a, [], 2) else ((settle (a.parts.length + 2) ⟨a.next, a.parts ++ [d]⟩ []).1, (settle (a.parts.length + 2) ⟨a.next, a.parts ++ [d]⟩ []).2, 0) := fun h1 h2 h3 => by
    unfold asmAdd
    rw [if_neg (by simp [h1, h2]; omega)]
  repeat' first | refine And.intro ?_ ?_ | intro _ | (refine call_pure (hP ▸ s_dataOk d hd) rfl rfl ?_; simp only [go_sem, ↓reduceIte])
  all_goals first
    | (rw [hbad (by simp [*]; try omega)]; rfl)
    | skip
  have h1 : asmB a = true := by assumption
  have h2 : dataB d = true := by assumption
  have h3 : d.stream < a.next.length := by assumption
  rw [hgood h1 h2 h3]
  obtain ⟨k1, k2, k3, k4⟩ := asm_ok h1
  refine run_join (fun t => t = ⟨[(3, .ptr 4 0 0), (4, .ptr 0 0 0), (7, .ptr 1 0 0)], [(4, .var [.i d.tsn, .i d.stream, .i d.ssn, .bo d.first, .bo d.last, .bo d.loose, .st d.text]), (3, .row 7 (a.parts.map Data.row)), (2, .row 1 (a.next.map intRow)), (1, .var [.sl 2 0 a.next.length, .sl 3 0 a.parts.length]), (0, .var [.r .nil, .r .nil])], 5, []⟩) (run_wpc _ _ _ _ _ ?_) ?_
  · simp only [hm, go_sem, ↓reduceIte]
    repeat' first | refine And.intro ?_ ?_ | intro _
    all_goals first
      | omega
      | (rename_i h; obtain ⟨_, _, rfl⟩ := List.mem_map.1 h; rfl)
      | (refine ⟨_, rfl, le_ev [(0, 2), (4, 1), (1, 3), (2, 4), (3, 5)] ?_⟩; simp only [hm, go_sem, ↓reduceIte]; first | done | rfl | exact ⟨rfl, rfl⟩) | (refine ⟨_, rfl, le_ev [(0, 2), (4, 1), (1, 3), (2, 5), (3, 4)] ?_⟩; simp only [hm, go_sem, ↓reduceIte]; first | done | rfl | exact ⟨rfl, rfl⟩) | (refine ⟨_, rfl, le_ev [(0, 2), (4, 1), (1, 4), (2, 3), (3, 5)] ?_⟩; simp only [hm, go_sem, ↓reduceIte]; first | done | rfl | exact ⟨rfl, rfl⟩) | (refine ⟨_, rfl, le_ev [(0, 2), (4, 1), (1, 4), (2, 5), (3, 3)] ?_⟩; simp only [hm, go_sem, ↓reduceIte]; first | done | rfl | exact ⟨rfl, rfl⟩) | (refine ⟨_, rfl, le_ev [(0, 2), (4, 1), (1, 5), (2, 3), (3, 4)] ?_⟩; simp only [hm, go_sem, ↓reduceIte]; first | done | rfl | exact ⟨rfl, rfl⟩) | (refine ⟨_, rfl, le_ev [(0, 2), (4, 1), (1, 5), (2, 4), (3, 3)] ?_⟩; simp only [hm, go_sem, ↓reduceIte]; first | done | rfl | exact ⟨rfl, rfl⟩)
  · rintro t rfl
    refine run_seq (run_wpc _ _ _ _ _ ?_)
    simp only [go_sem, ↓reduceIte]
    have hpl : a.parts.length ≤ 2000000 := hl
    refine call_flat (hP ▸ s_partAt a.parts d.tsn hpl) rfl (.cons (Vw.full rfl (by simp)) (.cons (vw_self _ _ rfl) .nil)) ?_
    simp only [go_sem, ↓reduceIte]
    refine ⟨fun hge => ?_, fun hlt => ?_⟩
    · have : (atIx a.parts d.tsn).isSome = true := by cases hat : atIx a.parts d.tsn with
        | none => rw [hat] at hge; exact absurd hge (by decide)
        | some j => rfl
      rw [if_pos this]
      exact ⟨2, 3, by decide, rfl, rfl, rfl⟩
    · have : ¬ ((atIx a.parts d.tsn).isSome = true) := by cases hat : atIx a.parts d.tsn with
        | none => decide
        | some j => rw [hat] at hlt; simp only [ixI] at hlt; omega
      rw [if_neg this]
      refine run_seq (run_wpc _ _ _ _ _ ?_)
      simp only [go_sem, ↓reduceIte]
      refine fun _ => ⟨fun h12 => ?_, fun h12 => ?_⟩
      · rw [if_pos (by omega)]
        exact ⟨2, 3, by decide, rfl, rfl, rfl⟩
      · rw [if_neg (by omega)]
        refine run_seq (run_wpc _ _ _ _ _ ?_)
        simp only [hm, go_sem, ↓reduceIte]
        refine ⟨by omega, ?_⟩
        refine run_seq (run_wpc _ _ _ _ _ ?_)
        simp only [hm, go_sem, ↓reduceIte]
        refine run_blk ?_
        have hrow : List.take a.parts.length (a.parts.map Data.row) ++ [[.n .i64 d.tsn, .n .i64 d.stream, .n .i64 d.ssn, .b d.first, .b d.last, .b d.loose, .s d.text]] = (a.parts ++ [d]).map Data.row := by
          rw [List.take_of_length_le (by simp), List.map_append]; rfl
        rw [hrow]
        have hok := add_ok h1 h2 h3
        have hst : settle ((a.parts ++ [d]).length + 1) ⟨a.next, a.parts ++ [d]⟩ [] = settle (a.parts.length + 2) ⟨a.next, a.parts ++ [d]⟩ [] := by
          rw [List.length_append, List.length_singleton]
        refine loop_implAsmAdd2 hP hm _ ⟨a.next, a.parts ++ [d]⟩ hok ?_ hst ?_ ?_
        · intro x hx
          rcases List.mem_append.1 hx with hx | hx
          · exact (data_ok (k4 x hx).1).2.2.2.2
          · simp only [List.mem_singleton] at hx; subst hx; exact (data_ok h2).2.2.2.2
        · exact le_ev [(4, 6)] (by simp only [hm, List.length_append, List.length_singleton, go_sem, ↓reduceIte])
        · intro sl hp nx gs g4 g5 g6 q0 q2 q3 q4
          simp only [g4, g5, g6, q0, hm, go_sem, ↓reduceIte]
          exact ⟨2, 3, by decide, q2, q3, 4, by decide, by decide, q4, rfl⟩
end Go.Cap

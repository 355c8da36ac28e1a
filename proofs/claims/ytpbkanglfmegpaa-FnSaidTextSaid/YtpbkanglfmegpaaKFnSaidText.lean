import Derived.Test.YtpbkanglfmegpaaLawC
/- FnSaidText: its contract. -/
namespace Go.Cap
open Go Go.Proofs
set_option maxRecDepth 100000
set_option linter.unusedSimpArgs false
set_option linter.unusedVariables false
attribute [local irreducible] Call Run Spec Le

theorem spec_FnSaidText {L : List (List RV)} (h : Okc (.sl [.i .u8]) (.ro none L)) : Spec Try.prog 8 0 [] [.r (.ro none L)] (fun r _ _ _ => r = .bo true) := by
  obtain ⟨code, rfl, hlen⟩ := bytes_of h
  have e : maxLen = 9223372036854775807 := by decide
  rw [e] at hlen
  refine mk8 rfl fun c hP hm => ?_
  unfold pc8
  simp only [hm, go_sem, ↓reduceIte]
  intro _ hcut
  refine call_plain (hP ▸ s_DrawSideSaid code) rfl ?_
  rintro r ⟨s, rfl, hw1, hw2⟩
  refine ⟨rfl, ?_⟩
  have hx : ∀ d ∈ s.sent, d.text.length ≤ 9223372036854775807 := fun d hd => by have := hw2 d hd; omega
  have i1 := s_implSideSaidP s (by omega) hx
  have i2 := s_specSideSaidP s (by omega) hx
  have i3 := s_specSideValid s (by omega) hx
  have i4 := s_implSideValid s (by omega) hx
  have i5 := s_implSideSaidP s (by omega) hx
  unfold Side.ro Side.av at i1 i2 i3 i4 i5 ⊢
  simp only [hm, go_sem, ↓reduceIte]
  refine call_dataP (hP ▸ i1) rfl rfl ?_
  simp only [hm, go_sem, ↓reduceIte]
  refine call_dataP (hP ▸ i2) rfl rfl ?_
  simp only [hm, go_sem, ↓reduceIte]
  refine call_pure (hP ▸ s_sameMessages _) rfl rfl ?_
  simp only [hm, go_sem, ↓reduceIte]
  refine call_pure (hP ▸ i3) rfl rfl ?_
  cases hb : sideB s
  · simp only [hm, go_sem, ↓reduceIte]
    refine call_pure (hP ▸ s_sameMessages _) rfl rfl ?_
    simp only [hm, go_sem, ↓reduceIte]
  have hs : sideSaid s = said s.sent := if_pos hb
  obtain ⟨k1, k2, k3⟩ := side_ok hb
  obtain ⟨k4, k5⟩ := side_acked hb
  have k6 := said_lasts s.sent
  have k7 : lasts s.sent ≤ s.sent.length := List.countP_le_length
  rw [hs]
  simp only [hm, go_sem, ↓reduceIte]
  refine run_exit 0 (fun t0 => t0 = ⟨[(3, .ptr 0 0 0), (4, .r (.ro none ((said s.sent).map Msg.row))), (7, .st (textM (said s.sent)))], [(0, .var [.i s.tag, .i s.streams, .i s.first, .r (.ro none (s.sent.map Data.row)), .i s.acked])], 1, []⟩) ?_ ?_
  rotate_left
  · rintro t0 rfl
    have hM : ∀ i, i ≤ (said s.sent).length → (textM ((said s.sent).take i)).length ≤ 5000 := fun i hi => by
      have e1 := said_text s.sent s.sent.length (Nat.le_refl _)
      rw [List.take_length] at e1
      have e2 := congrArg List.length e1
      have e3 := textD_len k2
      have e4 : textM (said s.sent) = textM ((said s.sent).take i) ++ textM ((said s.sent).drop i) := by
        unfold textM; rw [← List.flatMap_append, List.take_append_drop]
      have e5 := congrArg List.length e4
      rw [List.length_append] at e2 e5
      have e6 : (saidSt s.sent).1 = said s.sent := rfl
      rw [e6] at e2
      omega
    generalize said s.sent = ms at k6 hM
    simp only [hm, go_sem, ↓reduceIte]
    refine run_exit 2 (fun t0 => t0 = ⟨[(7, .st (textM ms)), (9, .st (textM ms))], [], 1, []⟩) ?_ ?_
    rotate_left
    · rintro t0 rfl
      simp only [hm, go_sem, ↓reduceIte]
      try simp
    have hml : ∀ i, i ≤ ms.length → (textM (ms.take i)).length ≤ 5000 := hM
    refine lp_wpc (α := Nat) (fun i => ⟨[(4, .r (.ro none (ms.map Msg.row))), (7, .st (textM ms)), (9, .st (textM (ms.take i))), (10, .i i)], [], 1, []⟩) (fun i => i ≤ ms.length) (fun i => ms.length - i) 0 (Nat.zero_le _) (by simp only [List.take_zero, textM, List.flatMap_nil]; (refine le_ev [] ?_; simp only [hm, go_sem, ↓reduceIte]; first | done | rfl | exact ⟨rfl, rfl⟩)) ?_
    intro i hi
    unfold pc8l1
    rcases Nat.lt_or_ge i ms.length with hil | hil
    · have hw1 : IntKind.i64.wrap ((i : Int) + 1) = ((i + 1 : Nat) : Int) := by rw [wrap64 (by omega) (by omega)]; omega
      have h0 := hml i hi
      have h1 := hml (i + 1) hil
      have hl := textM_take hil
      rw [hl, List.length_append] at h1
      have hg := getD_map (f := Msg.row) hil
      generalize ms[i] = y at hg hl h1
      simp only [hw1, Int.toNat_natCast, hg, Msg.row, hm, go_sem, ↓reduceIte]
      repeat' first | refine And.intro ?_ ?_ | intro _
      all_goals first
        | omega
        | (refine ⟨i + 1, hil, by omega, ?_⟩; rw [hl]; (refine le_ev [] ?_; simp only [hm, go_sem, ↓reduceIte]; first | done | rfl | exact ⟨rfl, rfl⟩))
    · have : i = ms.length := by omega
      subst this
      simp only [hm, go_sem, ↓reduceIte]
      repeat' first | refine And.intro ?_ ?_ | intro _
      all_goals first
        | omega
        | (refine ⟨_, rfl, ?_⟩; rw [List.take_length]; (refine le_ev [] ?_; simp only [hm, go_sem, ↓reduceIte]; first | done | rfl | exact ⟨rfl, rfl⟩))
  have hdt : textM (said s.sent) = doneT s.sent s.sent.length := by unfold doneT; rw [List.take_length]
  rw [hdt]
  refine lp_wpc (α := Nat) (fun i => ⟨[(3, .ptr 0 0 0), (4, .r (.ro none ((said s.sent).map Msg.row))), (6, .st (textD (s.sent.take i))), (7, .st (doneT s.sent i)), (8, .i i)], [(0, .var [.i s.tag, .i s.streams, .i s.first, .r (.ro none (s.sent.map Data.row)), .i s.acked])], 1, []⟩) (fun i => i ≤ s.sent.length) (fun i => s.sent.length - i) 0 (Nat.zero_le _) (by simp only [List.take_zero, doneT, said, saidSt, textD, textM, List.foldl_nil, List.flatMap_nil]; (refine le_ev [] ?_; simp only [hm, go_sem, ↓reduceIte]; first | done | rfl | exact ⟨rfl, rfl⟩)) ?_
  intro i hi
  unfold pc8l0
  rcases Nat.lt_or_ge i s.sent.length with hil | hil
  · have hw1 : IntKind.i64.wrap ((i : Int) + 1) = ((i + 1 : Nat) : Int) := by rw [wrap64 (by omega) (by omega)]; omega
    have h0 := textD_len (l := s.sent.take i) (fun d hd => k2 d (List.mem_of_mem_take hd))
    have hti : (s.sent.take i).length = i := by rw [List.length_take]; omega
    have hdl := k2 _ (List.getElem_mem hil)
    have hl := doneT_step hil
    have hl2 := textD_take hil
    rw [hl2] at hl
    have hg := getD_map (f := Data.row) hil
    generalize s.sent[i] = d at hg hl hl2 hdl
    rw [hti] at h0
    simp only [hw1, Int.toNat_natCast, hg, Data.row, hm, go_sem, ↓reduceIte]
    repeat' first | refine And.intro ?_ ?_ | intro _
    all_goals first
      | omega
      | (refine ⟨i + 1, hil, by omega, ?_⟩; rw [hl, hl2]; simp only [*, if_true, if_false, Bool.false_eq_true]; (refine le_ev [] ?_; simp only [hm, go_sem, ↓reduceIte]; first | done | rfl | exact ⟨rfl, rfl⟩))
  · have : i = s.sent.length := by omega
    subst this
    simp only [hm, go_sem, ↓reduceIte]
    repeat' first | refine And.intro ?_ ?_ | intro _
    all_goals first
      | omega
      | (refine ⟨_, rfl, ?_⟩; (refine le_ev [] ?_; simp only [hm, go_sem, ↓reduceIte]; first | done | rfl | exact ⟨rfl, rfl⟩))
end Go.Cap

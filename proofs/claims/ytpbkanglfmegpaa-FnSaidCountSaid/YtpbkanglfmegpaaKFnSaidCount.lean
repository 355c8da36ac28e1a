import Derived.Test.YtpbkanglfmegpaaLawC
/- FnSaidCount: its contract. -/
namespace Go.Cap
open Go Go.Proofs
set_option maxRecDepth 100000
set_option linter.unusedSimpArgs false
set_option linter.unusedVariables false
attribute [local irreducible] Call Run Spec Le

theorem spec_FnSaidCount {L : List (List RV)} (h : Okc (.sl [.i .u8]) (.ro none L)) : Spec Try.prog 7 0 [] [.r (.ro none L)] (fun r _ _ _ => r = .bo true) := by
  obtain ⟨code, rfl, hlen⟩ := bytes_of h
  have e : maxLen = 9223372036854775807 := by decide
  rw [e] at hlen
  refine mk7 rfl fun c hP hm => ?_
  unfold pc7
  simp only [hm, go_sem, ↓reduceIte]
  intro _ hcut
  refine call_plain (hP ▸ s_DrawSideSaid code) rfl ?_
  rintro r ⟨s, rfl, hw1, hw2⟩
  refine ⟨rfl, ?_⟩
  have hx : ∀ d ∈ s.sent, d.text.length ≤ 9223372036854775807 := fun d hd => by have := hw2 d hd; omega
  have i1 := s_implSideSaidP s (by omega) hx
  have i2 := s_specSideSaidP s (by omega) hx
  have i3 := s_specSideValid s (by omega) hx
  have i4 := s_implSideValid s (by omega) hx
  have i5 := s_implSideSaidP s (by omega) hx
  unfold Side.ro Side.av at i1 i2 i3 i4 i5 ⊢
  simp only [hm, go_sem, ↓reduceIte]
  refine call_dataP (hP ▸ i1) rfl rfl ?_
  simp only [hm, go_sem, ↓reduceIte]
  refine call_dataP (hP ▸ i2) rfl rfl ?_
  simp only [hm, go_sem, ↓reduceIte]
  refine call_pure (hP ▸ s_sameMessages _) rfl rfl ?_
  simp only [hm, go_sem, ↓reduceIte]
  refine call_pure (hP ▸ i3) rfl rfl ?_
  cases hb : sideB s
  · simp only [hm, go_sem, ↓reduceIte]
    refine call_pure (hP ▸ s_sameMessages _) rfl rfl ?_
    simp only [hm, go_sem, ↓reduceIte]
  have hs : sideSaid s = said s.sent := if_pos hb
  obtain ⟨k1, k2, k3⟩ := side_ok hb
  obtain ⟨k4, k5⟩ := side_acked hb
  have k6 := said_lasts s.sent
  have k7 : lasts s.sent ≤ s.sent.length := List.countP_le_length
  rw [hs]
  simp only [hm, go_sem, ↓reduceIte]
  refine run_exit 0 (fun t0 => t0 = ⟨[(4, .r (.ro none ((said s.sent).map Msg.row))), (6, .i (lasts s.sent))], [], 1, []⟩) ?_ ?_
  rotate_left
  · rintro t0 rfl
    simp only [hm, go_sem, ↓reduceIte]
    intro _
    rw [k6]
    simp
  refine lp_wpc (α := Nat) (fun i => ⟨[(3, .ptr 0 0 0), (4, .r (.ro none ((said s.sent).map Msg.row))), (6, .i (lasts (s.sent.take i))), (7, .i i)], [(0, .var [.i s.tag, .i s.streams, .i s.first, .r (.ro none (s.sent.map Data.row)), .i s.acked])], 1, []⟩) (fun i => i ≤ s.sent.length) (fun i => s.sent.length - i) 0 (Nat.zero_le _) (by simp only [List.take_zero]; (refine le_ev [] ?_; simp only [hm, go_sem, ↓reduceIte]; first | done | rfl | exact ⟨rfl, rfl⟩)) ?_
  intro i hi
  unfold pc7l0
  rcases Nat.lt_or_ge i s.sent.length with hil | hil
  · have hw1 : IntKind.i64.wrap ((i : Int) + 1) = ((i + 1 : Nat) : Int) := by rw [wrap64 (by omega) (by omega)]; omega
    have h0 : lasts (s.sent.take i) ≤ 12 := by have : lasts (s.sent.take i) ≤ (s.sent.take i).length := List.countP_le_length; rw [List.length_take] at this; omega
    have hw2 : IntKind.i64.wrap ((lasts (s.sent.take i) : Int) + 1) = ((lasts (s.sent.take i) + 1 : Nat) : Int) := by rw [wrap64 (by omega) (by omega)]; omega
    have hl := lasts_take hil
    have hg := getD_map (f := Data.row) hil
    generalize s.sent[i] = d at hg hl
    simp only [hw1, hw2, Int.toNat_natCast, hg, Data.row, hm, go_sem, ↓reduceIte]
    repeat' first | refine And.intro ?_ ?_ | intro _
    all_goals first
      | omega
      | (refine ⟨i + 1, hil, by omega, ?_⟩; rw [hl]; simp only [*, if_true, if_false, Bool.false_eq_true, Nat.add_zero]; (refine le_ev [] ?_; simp only [hm, go_sem, ↓reduceIte]; first | done | rfl | exact ⟨rfl, rfl⟩))
  · have : i = s.sent.length := by omega
    subst this
    simp only [hm, go_sem, ↓reduceIte]
    repeat' first | refine And.intro ?_ ?_ | intro _
    all_goals first
      | omega
      | (refine ⟨_, rfl, ?_⟩; rw [List.take_length]; (refine le_ev [] ?_; simp only [hm, go_sem, ↓reduceIte]; first | done | rfl | exact ⟨rfl, rfl⟩))
end Go.Cap

import Derived.Test.YtpbkanglfmegpaaLawC
/- FnSideTsn: its contract. -/
namespace Go.Cap
open Go Go.Proofs
set_option maxRecDepth 100000
set_option linter.unusedSimpArgs false
set_option linter.unusedVariables false
attribute [local irreducible] Call Run Spec Le

theorem spec_FnSideTsn {L : List (List RV)} (h : Okc (.sl [.i .u8]) (.ro none L)) : Spec Try.prog 4 0 [] [.r (.ro none L)] (fun r _ _ _ => r = .bo true) := by
  obtain ⟨code, rfl, hlen⟩ := bytes_of h
  have e : maxLen = 9223372036854775807 := by decide
  rw [e] at hlen
  refine mk4 rfl fun c hP hm => ?_
  unfold pc4
  simp only [hm, go_sem, ↓reduceIte]
  intro _ hcut
  refine call_plain (hP ▸ s_DrawSideValid code) rfl ?_
  rintro r ⟨s, rfl, hw1, hw2⟩
  refine ⟨rfl, ?_⟩
  have hx : ∀ d ∈ s.sent, d.text.length ≤ 9223372036854775807 := fun d hd => by have := hw2 d hd; omega
  have hsv := s_specSideValid s (by omega) hx
  have hiv0 := s_implSideValid s (by omega) hx
  unfold Side.ro Side.av at hsv hiv0 ⊢
  simp only [hm, go_sem, ↓reduceIte]
  refine call_pure (hP ▸ hiv0) rfl rfl ?_
  simp only [hm, go_sem, ↓reduceIte]
  refine call_pure (hP ▸ hsv) rfl rfl ?_
  cases hb : sideB s
  · simp only [hm, go_sem, ↓reduceIte]
  · simp only [hm, go_sem, ↓reduceIte]
    obtain ⟨k1, k2, k3⟩ := side_ok hb
    obtain ⟨k4, k5⟩ := side_acked hb
    refine run_exit 0 (fun t0 => t0 = ⟨[(3, .ptr 0 0 0)], [(0, .var [.i s.tag, .i s.streams, .i s.first, .r (.ro none (s.sent.map Data.row)), .i s.acked])], 1, []⟩) ?_ ?_
    rotate_left
    · rintro t0 rfl
      simp only [hm, go_sem, ↓reduceIte]
      repeat' first | refine And.intro ?_ ?_ | intro _
      all_goals first
        | omega
        | rfl
        | (rw [decide_eq_true (by omega)])
    refine lp_wpc (α := Nat) (fun i => ⟨[(3, .ptr 0 0 0), (6, .i i)], [(0, .var [.i s.tag, .i s.streams, .i s.first, .r (.ro none (s.sent.map Data.row)), .i s.acked])], 1, []⟩) (fun i => i ≤ s.sent.length) (fun i => s.sent.length - i) 0 (Nat.zero_le _) (by (refine le_ev [] ?_; simp only [hm, go_sem, ↓reduceIte]; first | done | rfl | exact ⟨rfl, rfl⟩)) ?_
    intro i hi
    unfold pc4l0
    rcases Nat.lt_or_ge i s.sent.length with hil | hil
    · have ht : s.tag ≠ 0 := fun e => by rw [(side_none hb e).1] at hil; exact absurd hil (Nat.not_lt_zero _)
      obtain ⟨n, n1, n2, n3, n4⟩ := side_seq hb ht
      obtain ⟨d1, d2, d3, d4⟩ := n4 i hil
      have hw1 : IntKind.i64.wrap ((i : Int) + 1) = ((i + 1 : Nat) : Int) := by rw [wrap64 (by omega) (by omega)]; omega
      have hg := getD_map (f := Data.row) hil
      generalize s.sent[i] = d at hg d1 d2 d3 d4
      simp only [hw1, Int.toNat_natCast, hg, Data.row, hm, go_sem, ↓reduceIte]
      repeat' first | refine And.intro ?_ ?_ | intro _ | (refine call_pure (hP ▸ s_SerialAdd1 s.first i n3) rfl rfl ?_; simp only [hw1, Int.toNat_natCast, hg, Data.row, hm, go_sem, ↓reduceIte])
      all_goals first
        | omega
        | rfl
        | (refine ⟨i + 1, hil, by omega, ?_⟩; (refine le_ev [] ?_; simp only [hm, go_sem, ↓reduceIte]; first | done | rfl | exact ⟨rfl, rfl⟩))
        | (exfalso; omega)
        | (exfalso; simp_all; done)
    · have : i = s.sent.length := by omega
      subst this
      simp only [hm, go_sem, ↓reduceIte]
      repeat' first | refine And.intro ?_ ?_ | intro _
      all_goals first
        | omega
        | (refine ⟨_, rfl, ?_⟩; (refine le_ev [] ?_; simp only [hm, go_sem, ↓reduceIte]; first | done | rfl | exact ⟨rfl, rfl⟩))
end Go.Cap

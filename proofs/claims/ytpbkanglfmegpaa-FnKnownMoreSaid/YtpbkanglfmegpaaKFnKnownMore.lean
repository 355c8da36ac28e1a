import Derived.Test.YtpbkanglfmegpaaLawC
/- FnKnownMore: its contract. -/
namespace Go.Cap
open Go Go.Proofs
set_option maxRecDepth 100000
set_option linter.unusedSimpArgs false
set_option linter.unusedVariables false
attribute [local irreducible] Call Run Spec Le

theorem spec_FnKnownMore {L L2 : List (List RV)} (h : Okc (.sl [.i .u8]) (.ro none L)) (h2 : Okc (.sl [.i .u8]) (.ro none L2)) : Spec Try.prog 6 0 [] [.r (.ro none L), .r (.ro none L2)] (fun r _ _ _ => r = .bo true) := by
  obtain ⟨code, rfl, hlen⟩ := bytes_of h
  obtain ⟨more, rfl, hlen2⟩ := bytes_of h2
  have e : maxLen = 9223372036854775807 := by decide
  rw [e] at hlen hlen2
  refine mk6 rfl fun c hP hm => ?_
  unfold pc6
  simp only [hm, go_sem, ↓reduceIte]
  intro _ hcut _ hcut2
  refine call_plain (hP ▸ s_DrawSideKnown code) rfl ?_
  rintro r ⟨s, rfl, hw1, hw2⟩
  refine ⟨rfl, ?_⟩
  have hx : ∀ d ∈ s.sent, d.text.length ≤ 9223372036854775807 := fun d hd => by have := hw2 d hd; omega
  have i1 := s_implSideKnown s (by omega) hx
  have i2 := s_specSideKnownP s (by omega) hx
  have i3 := s_specSideValid s (by omega) hx
  have i4 := s_implSideValid s (by omega) hx
  have i5 := s_implSideSaidP s (by omega) hx
  unfold Side.ro Side.av at i1 i2 i3 i4 i5 ⊢
  simp only [hm, go_sem, ↓reduceIte]
  refine call_dataP (hP ▸ i1) rfl rfl ?_
  simp only [hm, go_sem, ↓reduceIte]
  refine call_dataP (hP ▸ i2) rfl rfl ?_
  simp only [hm, go_sem, ↓reduceIte]
  refine call_pure (hP ▸ s_sameMessages _) rfl rfl ?_
  simp only [hm, go_sem, ↓reduceIte]
  refine call_pure (hP ▸ i3) rfl rfl ?_
  cases hb : sideB s
  · simp only [hm, go_sem, ↓reduceIte]
    refine call_pure (hP ▸ s_sameMessages _) rfl rfl ?_
    simp only [hm, go_sem, ↓reduceIte]
  obtain ⟨k4, k5⟩ := side_acked hb
  have hw3 : IntKind.i64.wrap ((s.sent.length : Int) - s.acked) = (s.sent.length : Int) - s.acked := wrap64 (by omega) (by omega)
  have hw4 : IntKind.i64.wrap ((s.sent.length : Int) - s.acked + 1) = (s.sent.length : Int) - s.acked + 1 := wrap64 (by omega) (by omega)
  have hr0 : 0 ≤ (more.length : Int).tmod ((s.sent.length : Int) - s.acked + 1) ∧ (more.length : Int).tmod ((s.sent.length : Int) - s.acked + 1) < (s.sent.length : Int) - s.acked + 1 := by
    rw [Int.tmod_eq_emod_of_nonneg (by omega)]
    exact ⟨Int.emod_nonneg _ (by omega), Int.emod_lt_of_pos _ (by omega)⟩
  simp only [hw3, hw4, List.length_map, hm, go_sem, ↓reduceIte]
  generalize (more.length : Int).tmod ((s.sent.length : Int) - s.acked + 1) = x at hr0
  have k1 := (side_ok hb).1
  have hw5 : IntKind.i64.wrap (s.acked + x) = s.acked + x := wrap64 (by omega) (by omega)
  rw [hw5]
  intro _ _
  refine ⟨by omega, ?_⟩
  have hb2 := side_acks hb (a := s.acked + x) (by omega)
  have c1 := s_implSideKnown { s with acked := s.acked + x } (by simp only; omega) hx
  have hpre : sideKnown s <+: sideKnown { s with acked := s.acked + x } := by
    unfold sideKnown
    rw [if_pos hb, if_pos hb2]
    exact said_pre (by simp only; omega)
  have hkl : (sideKnown { s with acked := s.acked + x }).length ≤ 12 := by
    unfold sideKnown
    rw [if_pos hb2, said_lasts]
    have : lasts (s.sent.take (s.acked + x).toNat) ≤ (s.sent.take (s.acked + x).toNat).length := List.countP_le_length
    rw [List.length_take] at this
    simp only
    omega
  unfold Side.ro Side.av at c1
  simp only at c1
  refine call_dataP (hP ▸ c1) rfl rfl ?_
  obtain ⟨p1, p2⟩ := pre_take hpre
  generalize sideKnown s = a at p1 p2
  generalize sideKnown { s with acked := s.acked + x } = b at p1 p2 hkl
  simp only [hm, go_sem, ↓reduceIte]
  repeat' first | refine And.intro ?_ ?_ | intro _
  all_goals first
    | omega
    | (rename_i hr; obtain ⟨_, _, rfl⟩ := List.mem_map.1 hr; rfl)
    | (exfalso; omega)
    | skip
  simp only [Int.toNat_natCast, ← List.map_take, p2]
  refine call_pure (hP ▸ s_sameMessages _) rfl rfl ?_
  simp only [hm, go_sem, ↓reduceIte]
end Go.Cap

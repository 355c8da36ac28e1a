import Derived.Test.YtpbkanglfmegpaaLawC
/- FnKnown: its contract. -/
namespace Go.Cap
open Go Go.Proofs
set_option maxRecDepth 100000
set_option linter.unusedSimpArgs false
set_option linter.unusedVariables false
attribute [local irreducible] Call Run Spec Le

theorem spec_FnKnown {L : List (List RV)} (h : Okc (.sl [.i .u8]) (.ro none L)) : Spec Try.prog 9 0 [] [.r (.ro none L)] (fun r _ _ _ => r = .bo true) := by
  obtain ⟨code, rfl, hlen⟩ := bytes_of h
  have e : maxLen = 9223372036854775807 := by decide
  rw [e] at hlen
  refine mk9 rfl fun c hP hm => ?_
  unfold pc9
  simp only [hm, go_sem, ↓reduceIte]
  intro _ hcut
  refine call_plain (hP ▸ s_DrawSideKnown code) rfl ?_
  rintro r ⟨s, rfl, hw1, hw2⟩
  refine ⟨rfl, ?_⟩
  have hx : ∀ d ∈ s.sent, d.text.length ≤ 9223372036854775807 := fun d hd => by have := hw2 d hd; omega
  have i1 := s_implSideKnown s (by omega) hx
  have i2 := s_specSideKnownP s (by omega) hx
  have i3 := s_specSideValid s (by omega) hx
  have i4 := s_implSideValid s (by omega) hx
  have i5 := s_implSideSaidP s (by omega) hx
  unfold Side.ro Side.av at i1 i2 i3 i4 i5 ⊢
  simp only [hm, go_sem, ↓reduceIte]
  refine call_dataP (hP ▸ i1) rfl rfl ?_
  simp only [hm, go_sem, ↓reduceIte]
  refine call_dataP (hP ▸ i2) rfl rfl ?_
  simp only [hm, go_sem, ↓reduceIte]
  refine call_pure (hP ▸ s_sameMessages _) rfl rfl ?_
  simp only [hm, go_sem, ↓reduceIte]
  refine call_dataP (hP ▸ i5) rfl rfl ?_
  have hpre : sideKnown s <+: sideSaid s := by
    unfold sideKnown sideSaid
    split
    · rename_i hv
      have := said_pre (l := s.sent) (a := s.acked.toNat) (b := s.sent.length) (by have := side_acked hv; omega)
      rwa [List.take_length] at this
    · exact List.prefix_refl _
  have hful : sideB s = true → s.sent.length ≤ s.acked → sideKnown s = sideSaid s := fun hv h => by
    unfold sideKnown sideSaid
    rw [if_pos hv, if_pos hv, List.take_of_length_le (by omega)]
  obtain ⟨p1, p2⟩ := pre_take hpre
  generalize sideKnown s = a at p1 p2 hful
  generalize sideSaid s = b at p1 p2 hful
  simp only [hm, go_sem, ↓reduceIte]
  intro _ _
  refine ⟨fun _ _ => ⟨⟨by omega, fun r hr => by obtain ⟨d, _, rfl⟩ := List.mem_map.1 hr; rfl⟩, ?_⟩, fun h => by exfalso; omega⟩
  simp only [Int.toNat_natCast, ← List.map_take, p2]
  refine call_pure (hP ▸ s_sameMessages _) rfl rfl ?_
  simp only [hm, go_sem, ↓reduceIte]
  refine call_pure (hP ▸ i4) rfl rfl ?_
  cases hb : sideB s
  · simp only [hm, go_sem, ↓reduceIte]
  · have hf := hful hb
    simp only [hm, go_sem, ↓reduceIte]
    repeat' first | refine And.intro ?_ ?_ | intro _
    all_goals first
      | omega
      | rfl
      | (rw [hf (by omega)]; simp; done)
end Go.Cap

import Derived.Test.YtpbkanglfmegpaaLawC
/- FnSaidAsm: its contract. -/
namespace Go.Cap
open Go Go.Proofs
set_option maxRecDepth 100000
set_option linter.unusedSimpArgs false
set_option linter.unusedVariables false
attribute [local irreducible] Call Run Spec Le

theorem spec_FnSaidAsm {L : List (List RV)} (h : Okc (.sl [.i .u8]) (.ro none L)) : Spec Try.prog 14 0 [] [.r (.ro none L)] (fun r _ _ _ => r = .bo true) := by
  obtain ⟨code, rfl, hlen⟩ := bytes_of h
  have e : maxLen = 9223372036854775807 := by decide
  rw [e] at hlen
  refine mk14 rfl fun c hP hm => ?_
  unfold pc14
  simp only [hm, go_sem, ↓reduceIte]
  intro _ hcut
  refine call_plain (hP ▸ s_DrawSideSaid code) rfl ?_
  rintro r ⟨s, rfl, hw1, hw2⟩
  refine ⟨rfl, ?_⟩
  have hx : ∀ d ∈ s.sent, d.text.length ≤ 9223372036854775807 := fun d hd => by have := hw2 d hd; omega
  have i1 := s_implSideSaidP s (by omega) hx
  have i2 := s_specSideSaidP s (by omega) hx
  have i3 := s_specSideValid s (by omega) hx
  have i4 := s_implSideValid s (by omega) hx
  have i5 := s_implSideSaidP s (by omega) hx
  unfold Side.ro Side.av at i1 i2 i3 i4 i5 ⊢
  simp only [hm, go_sem, ↓reduceIte]
  refine call_dataP (hP ▸ i1) rfl rfl ?_
  simp only [hm, go_sem, ↓reduceIte]
  refine call_dataP (hP ▸ i2) rfl rfl ?_
  simp only [hm, go_sem, ↓reduceIte]
  refine call_pure (hP ▸ s_sameMessages _) rfl rfl ?_
  simp only [hm, go_sem, ↓reduceIte]
  refine call_pure (hP ▸ i3) rfl rfl ?_
  cases hb : sideB s
  · simp only [hm, go_sem, ↓reduceIte]
    refine call_pure (hP ▸ s_sameMessages _) rfl rfl ?_
    simp only [hm, go_sem, ↓reduceIte]
  have hs : sideSaid s = said s.sent := if_pos hb
  obtain ⟨k1, k2, k3⟩ := side_ok hb
  obtain ⟨k4, k5⟩ := side_acked hb
  have k6 := said_lasts s.sent
  have k7 : lasts s.sent ≤ s.sent.length := List.countP_le_length
  rw [hs]
  simp only [hm, go_sem, ↓reduceIte]
  refine ⟨fun _ => ?_, fun ht => ?_⟩
  · refine call_pure (hP ▸ s_sameMessages _) rfl rfl ?_
    simp only [hm, go_sem, ↓reduceIte]
  · obtain ⟨n, n1, n2, n3, n4⟩ := side_seq hb ht
    have hrun := n4.run k1 n2
    have hcall := s_implAsmRunP n s.sent (by omega) hx
    rw [hrun] at hcall
    rw [n1]
    refine call_dataP (hP ▸ hcall) rfl rfl ?_
    simp only [hm, go_sem, ↓reduceIte]
    refine call_pure (hP ▸ s_sameMessages _) rfl rfl ?_
    simp only [hm, go_sem, ↓reduceIte]
end Go.Cap

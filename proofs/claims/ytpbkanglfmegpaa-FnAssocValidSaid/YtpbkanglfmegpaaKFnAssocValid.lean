import Derived.Test.YtpbkanglfmegpaaLawC
/- FnAssocValid: its contract. -/
namespace Go.Cap
open Go Go.Proofs
set_option maxRecDepth 100000
set_option linter.unusedSimpArgs false
set_option linter.unusedVariables false
attribute [local irreducible] Call Run Spec Le

theorem spec_FnAssocValid {L : List (List RV)} (h : Okc (.sl [.i .u8]) (.ro none L)) : Spec Try.prog 5 0 [] [.r (.ro none L)] (fun r _ _ _ => r = .bo true) := by
  obtain ⟨code, rfl, hlen⟩ := bytes_of h
  have e : maxLen = 9223372036854775807 := by decide
  rw [e] at hlen
  refine mk5 rfl fun c hP hm => ?_
  unfold pc5
  simp only [hm, go_sem, ↓reduceIte]
  intro _ hcut
  refine call_plain (hP ▸ s_DrawAssocValid code) rfl ?_
  rintro r ⟨a, rfl, hwa, hwb⟩
  refine ⟨rfl, ?_⟩
  have i1 := s_implAssocValid a hwa.fit hwb.fit
  have i2 := s_specAssocValid a hwa.fit hwb.fit
  have i3 := s_implSideValid a.a (by have := hwa.1; omega) hwa.fit.2
  have i4 := s_implSideValid a.b (by have := hwb.1; omega) hwb.fit.2
  have la := hwa.1
  have lb := hwb.1
  have hwl : IntKind.i64.wrap ((a.a.sent.length : Int) + (a.b.sent.length : Int)) = (a.a.sent.length : Int) + (a.b.sent.length : Int) := wrap64 (by omega) (by omega)
  unfold Assoc.ro Assoc.av at i1 i2 ⊢
  unfold Side.ro Side.av at i3 i4
  simp only [hm, go_sem, ↓reduceIte]
  refine call_pure (hP ▸ i1) rfl rfl ?_
  simp only [hm, go_sem, ↓reduceIte]
  refine call_pure (hP ▸ i2) rfl rfl ?_
  cases hb : assocB a
  · simp only [hm, go_sem, ↓reduceIte]
  · obtain ⟨b1, b2, b3, b4, b5, b6, b7, b8, b9, b10⟩ := assocB_iff.1 hb
    rw [b5] at i3
    rw [b6] at i4
    have ta := side_tag b5
    have tb := side_tag b6
    have hd : decide (0 < a.a.tag) = decide (1 ≤ a.state) := decide_eq_decide.2 b7
    simp only [hwl, hm, go_sem, ↓reduceIte]
    repeat' first
      | refine And.intro ?_ ?_
      | intro _
      | (refine call_pure (hP ▸ i3) rfl rfl ?_; simp only [hwl, hm, go_sem, ↓reduceIte])
      | (refine call_pure (hP ▸ i4) rfl rfl ?_; simp only [hwl, hm, go_sem, ↓reduceIte])
    all_goals first
      | omega
      | rfl
      | (exfalso; omega)
      | (exfalso; rename_i hn; exact hn hd)
end Go.Cap

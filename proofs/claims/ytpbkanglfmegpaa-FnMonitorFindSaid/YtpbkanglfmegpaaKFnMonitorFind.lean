import Derived.Test.YtpbkanglfmegpaaLawC
/- FnMonitorFind: its contract. -/
namespace Go.Cap
open Go Go.Proofs
set_option maxRecDepth 100000
set_option linter.unusedSimpArgs false
set_option linter.unusedVariables false
attribute [local irreducible] Call Run Spec Le

theorem spec_FnMonitorFind {L : List (List RV)} (h : Okc (.sl [.i .u8]) (.ro none L)) : Spec Try.prog 13 0 [] [.r (.ro none L)] (fun r _ _ _ => r = .bo true) := by
  obtain ⟨code, rfl, hlen⟩ := bytes_of h
  have e : maxLen = 9223372036854775807 := by decide
  rw [e] at hlen
  refine mk13 rfl fun c hP hm => ?_
  unfold pc13
  simp only [hm, go_sem, ↓reduceIte]
  intro _ hcut
  refine call_plain (hP ▸ s_DrawMonitorFind code) rfl ?_
  rintro r ⟨m, f, t, rfl, hw⟩
  refine ⟨rfl, ?_⟩
  have i1 := s_implMonitorFind m f t hw.fit
  have i2 := s_specMonitorFind m f t hw.fit
  have i3 := s_implMonitorFind m t f hw.fit
  have hft := find_turn (m := m) (f := f) (t := t)
  generalize monFind m f t = x at i1 i2 hft
  generalize monFind m t f = y at i3 hft
  obtain ⟨k, o⟩ := x
  obtain ⟨k2, o2⟩ := y
  simp only at i1 i2 i3 hft
  have hml := hw.1
  unfold Mon.ro at i1 i2 i3 ⊢
  simp only [hm, go_sem, ↓reduceIte]
  refine call_pure (hP ▸ i1) rfl rfl ?_
  simp only [hm, go_sem, ↓reduceIte]
  refine call_pure (hP ▸ i2) rfl rfl ?_
  simp only [hm, go_sem, ↓reduceIte]
  intro hk
  obtain ⟨i, hil, rfl, h2, h3, h4⟩ := hft (by omega)
  have hg := arowAt hil
  subst h2
  refine call_pure (hP ▸ i3) rfl rfl ?_
  generalize assocAt m.list i = a at hg h3 h4
  cases o
  · obtain ⟨e1, e2, e3⟩ := h4 rfl
    simp only [e1, e2, e3, Int.toNat_natCast, hg, Assoc.row, Assoc.cellsX, hm, go_sem, ↓reduceIte]
    repeat' first | refine And.intro ?_ ?_ | intro _
    all_goals first
      | omega
      | rfl
      | (exfalso; omega)
  · obtain ⟨e1, e2, e3⟩ := h3 rfl
    simp only [e1, e2, e3, Int.toNat_natCast, hg, Assoc.row, Assoc.cellsX, hm, go_sem, ↓reduceIte]
    repeat' first | refine And.intro ?_ ?_ | intro _
    all_goals first
      | omega
      | rfl
      | (exfalso; omega)
end Go.Cap

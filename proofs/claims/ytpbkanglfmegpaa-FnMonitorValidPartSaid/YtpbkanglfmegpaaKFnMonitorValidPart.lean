import Derived.Test.YtpbkanglfmegpaaLawC
/- FnMonitorValidPart: its contract. -/
namespace Go.Cap
open Go Go.Proofs
set_option maxRecDepth 100000
set_option linter.unusedSimpArgs false
set_option linter.unusedVariables false
attribute [local irreducible] Call Run Spec Le

theorem spec_FnMonitorValidPart {L : List (List RV)} (h : Okc (.sl [.i .u8]) (.ro none L)) : Spec Try.prog 11 0 [] [.r (.ro none L)] (fun r _ _ _ => r = .bo true) := by
  obtain ⟨code, rfl, hlen⟩ := bytes_of h
  have e : maxLen = 9223372036854775807 := by decide
  rw [e] at hlen
  refine mk11 rfl fun c hP hm => ?_
  unfold pc11
  simp only [hm, go_sem, ↓reduceIte]
  intro _ hcut
  refine call_plain (hP ▸ s_DrawMonitorValid code) rfl ?_
  rintro r ⟨m, rfl, hw⟩
  refine ⟨rfl, ?_⟩
  have i1 := s_implMonitorValid m hw.fit
  have i2 := s_specMonitorValid m hw.fit
  have i3 := s_implMonitorValid ⟨m.records, m.list, []⟩ ⟨hw.fit.1, Nat.zero_le _, hw.fit.3⟩
  have i4 := s_implMonitorValid ⟨m.records, [], m.found⟩ ⟨Nat.zero_le _, hw.fit.2, fun x hx => (List.not_mem_nil hx).elim⟩
  unfold Mon.ro at i1 i2 i3 i4 ⊢
  simp only [hm, go_sem, ↓reduceIte]
  refine call_pure (hP ▸ i1) rfl rfl ?_
  simp only [hm, go_sem, ↓reduceIte]
  refine call_pure (hP ▸ i2) rfl rfl ?_
  cases hb : monB m
  · simp only [hm, go_sem, ↓reduceIte]
  · rw [monB_list hb] at i3
    rw [monB_found hb] at i4
    simp only [hm, go_sem, ↓reduceIte]
    refine call_denil ?_
    simp only [List.map_cons, List.map_nil, hm, go_sem, ↓reduceIte]
    refine call_pure (hP ▸ i3) rfl rfl ?_
    simp only [hm, go_sem, ↓reduceIte]
    refine call_denil ?_
    simp only [List.map_cons, List.map_nil, hm, go_sem, ↓reduceIte]
    refine call_pure (hP ▸ i4) rfl rfl ?_
    simp only [hm, go_sem, ↓reduceIte]
end Go.Cap

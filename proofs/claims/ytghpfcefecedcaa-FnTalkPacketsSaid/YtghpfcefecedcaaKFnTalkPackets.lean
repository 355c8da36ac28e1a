import Derived.Test.YtghpfcefecedcaaLawB
/- FnTalkPackets: its contract. -/
namespace Go.Cap
open Go Go.Proofs
set_option maxRecDepth 100000
set_option linter.unusedSimpArgs false
set_option linter.unusedVariables false
attribute [local irreducible] Call Run Spec Le

theorem spec_FnTalkPackets {L : List (List RV)} (h : Okc (.sl [.i .u8]) (.ro none L)) : Spec Try.prog 4 0 [] [.r (.ro none L)] (fun r _ _ _ => r = .bo true) := by
  obtain ⟨code, rfl, hlen⟩ := bytes_of h
  have e : maxLen = 9223372036854775807 := by decide
  rw [e] at hlen
  refine mk4 rfl fun c hP hm => ?_
  unfold pc4
  simp only [hm, go_sem, ↓reduceIte]
  intro _ hcut
  refine call_plain (hP ▸ s_DrawTalkPackets code) rfl ?_
  rintro r ⟨t, rfl, b1, b2⟩
  refine ⟨rfl, ?_⟩
  have bx : ∀ s ∈ t.says, s.text.length ≤ 1048576 := fun s hs => by have := b2 s hs; omega
  simp only [Talk.ro, Talk.av, hm, go_sem, ↓reduceIte]
  refine call_dataP (hP ▸ s_implTalkPackets t (by omega) bx) rfl rfl ?_
  simp only [hm, go_sem, ↓reduceIte]
  refine call_dataP (hP ▸ s_specTalkPackets t (by omega) bx) rfl rfl ?_
  simp only [hm, go_sem, ↓reduceIte]
  refine call_pure (hP ▸ s_samePackets (talkPk t)) rfl rfl ?_
  simp only [hm, go_sem, ↓reduceIte]
  refine call_pure (hP ▸ s_implTalkValid t (by omega)) rfl rfl ?_
  by_cases hv : talkB t = true
  · have hpl := talkPk_len hv
    have h1 := talkParts_12 t false hv
    have h2 := talkParts_12 t true hv
    have hw1 : IntKind.i64.wrap (2 * ((talkParts t false).length : Int)) = 2 * (talkParts t false).length := wrap64 (by omega) (by omega)
    have hw2 : IntKind.i64.wrap (2 * ((talkParts t true).length : Int)) = 2 * (talkParts t true).length := wrap64 (by omega) (by omega)
    have hw3 : IntKind.i64.wrap (7 + 2 * ((talkParts t false).length : Int)) = 7 + 2 * (talkParts t false).length := wrap64 (by omega) (by omega)
    have hw4 : IntKind.i64.wrap (7 + 2 * ((talkParts t false).length : Int) + 2 * ((talkParts t true).length : Int)) = 7 + 2 * (talkParts t false).length + 2 * (talkParts t true).length := wrap64 (by omega) (by omega)
    simp only [hv, hm, go_sem, ↓reduceIte]
    repeat' first
      | refine And.intro ?_ ?_
      | intro _
      | (refine call_dataP (hP ▸ s_implTalkPartsP t false (by omega)) rfl rfl ?_; simp only [hw1, hw2, hw3, hw4, hm, go_sem, ↓reduceIte])
      | (refine call_dataP (hP ▸ s_implTalkPartsP t true (by omega)) rfl rfl ?_; simp only [hw1, hw2, hw3, hw4, hm, go_sem, ↓reduceIte])
    all_goals first
      | omega
      | rfl
      | (apply bo_inj; rw [beq_iff_eq, hpl]; omega)
  · have hv' : talkB t = false := by simpa using hv
    have he : talkPk t = [] := by unfold talkPk; rw [if_neg hv]
    simp only [hv', he, hm, go_sem, ↓reduceIte]
    repeat' first | refine And.intro ?_ ?_ | intro _
    all_goals first
      | omega
      | rfl
end Go.Cap

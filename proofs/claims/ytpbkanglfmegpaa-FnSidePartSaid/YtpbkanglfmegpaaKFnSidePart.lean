import Derived.Test.YtpbkanglfmegpaaLawC
/- FnSidePart: its contract. -/
namespace Go.Cap
open Go Go.Proofs
set_option maxRecDepth 100000
set_option linter.unusedSimpArgs false
set_option linter.unusedVariables false
attribute [local irreducible] Call Run Spec Le

theorem spec_FnSidePart {L : List (List RV)} (h : Okc (.sl [.i .u8]) (.ro none L)) : Spec Try.prog 3 0 [] [.r (.ro none L)] (fun r _ _ _ => r = .bo true) := by
  obtain ⟨code, rfl, hlen⟩ := bytes_of h
  have e : maxLen = 9223372036854775807 := by decide
  rw [e] at hlen
  refine mk3 rfl fun c hP hm => ?_
  unfold pc3
  simp only [hm, go_sem, ↓reduceIte]
  intro _ hcut
  refine call_plain (hP ▸ s_DrawSideValid code) rfl ?_
  rintro r ⟨s, rfl, hw1, hw2⟩
  refine ⟨rfl, ?_⟩
  have hx : ∀ d ∈ s.sent, d.text.length ≤ 9223372036854775807 := fun d hd => by have := hw2 d hd; omega
  have hiv := fun (s : Side) h1 h2 => s_implSideValid s h1 h2
  have hsv := s_specSideValid s (by omega) hx
  have hiv0 := s_implSideValid s (by omega) hx
  unfold Side.ro Side.av at hiv hsv hiv0 ⊢
  simp only [hm, go_sem, ↓reduceIte]
  refine call_pure (hP ▸ hiv0) rfl rfl ?_
  simp only [hm, go_sem, ↓reduceIte]
  refine call_pure (hP ▸ hsv) rfl rfl ?_
  cases hb : sideB s
  · simp only [hm, go_sem, ↓reduceIte]
  · have hwl : IntKind.i64.wrap ((s.sent.length : Int) - 1) = (s.sent.length : Int) - 1 := wrap64 (by omega) (by omega)
    simp only [hwl, hm, go_sem, ↓reduceIte]
    have hk : ((s.sent.length : Int) - 1).toNat = s.sent.length - 1 := by omega
    have hlt : (s.sent.take (s.sent.length - 1)).length = s.sent.length - 1 := by rw [List.length_take]; omega
    have heq : (if ((s.sent.length - 1 : Nat) : Int) < s.acked then ((s.sent.length - 1 : Nat) : Int) else s.acked) = min s.acked ((s.sent.length - 1 : Nat) : Int) := by rw [Int.min_def]; split <;> split <;> omega
    have hw2' : IntKind.i64.wrap ((s.sent.length : Int) + 1) = (s.sent.length : Int) + 1 := wrap64 (by omega) (by omega)
    simp only [hk, hw2', ← List.map_take, List.length_map, hlt, heq]
    intro _ hne _
    refine ⟨⟨by omega, fun r hr => by obtain ⟨d, _, rfl⟩ := List.mem_map.1 hr; rfl⟩, fun _ _ => ?_⟩
    have hne' : s.sent ≠ [] := fun e => hne (by rw [e]; rfl)
    have c1 := hiv { s with sent := s.sent.take (s.sent.length - 1), acked := min s.acked ((s.sent.length - 1 : Nat) : Int) } (by simp only [hlt]; omega) (fun d hd => hx d (List.mem_of_mem_take hd))
    have c2 := hiv { s with acked := (s.sent.length : Int) + 1 } (by simp only; omega) hx
    rw [side_less hb hne'] at c1
    rw [side_over hb] at c2
    simp only at c1 c2
    refine call_pure (hP ▸ c1) rfl rfl ?_
    simp only [hm, go_sem, ↓reduceIte]
    refine call_pure (hP ▸ c2) rfl rfl ?_
    simp only [hm, go_sem, ↓reduceIte]
end Go.Cap

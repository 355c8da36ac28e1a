import Derived.Test.YtpkemdacmcjgmaaV4
/- FnExactSideSaid: its contract. -/
namespace Go.Cap
open Go Go.Proofs
set_option maxRecDepth 100000
set_option linter.unusedSimpArgs false
set_option linter.unusedVariables false
attribute [local irreducible] Call Run Spec Le

theorem sideSaid_len (s : Side) : (sideSaid s).length ≤ 240 := by
  unfold sideSaid
  split
  · rename_i hv
    obtain ⟨h1, h2, _⟩ := side_ok hv
    have := (saidSt_len s.sent 20 h2).1
    unfold said; omega
  · simp
theorem sideSaid_bad {s : Side} (hv : ¬ sideB s = true) : sideSaid s = [] := by unfold sideSaid; rw [if_neg hv]
theorem s_exactSideSaid (s : Side) (hl : s.sent.length ≤ maxLen) (hx : ∀ d ∈ s.sent, d.text.length ≤ maxLen) : Spec Try.prog 8 0 [] [s.ro] (fun r _ _ _ => r = .bo true) := by
  have e : maxLen = 9223372036854775807 := by decide
  rw [e] at hl hx
  refine mk8 rfl fun c hP hm => ?_
  unfold pc8 Side.ro Side.av
  simp only [go_sem, ↓reduceIte]
  refine call_pure (hP ▸ s_szSide s 1048576 (by omega) (by omega) (fun d hd => by have := hx d hd; omega)) rfl rfl ?_
  simp only [go_sem, ↓reduceIte]
  intro hz
  have hz' : 0 ≤ szDatas s.sent 1048576 := by
    split at hz
    · omega
    · omega
  obtain ⟨hl', hx'⟩ := szDatas_ok hz'
  refine call_new1 (hP ▸ s_toSide s hl') rfl (dataClosed _) (vws_self _ _ rfl) ?_
  simp only [Side.av, go_sem, ↓reduceIte]
  refine call_new1 (hP ▸ s_specSideSaid s (by omega) (fun d hd => by have := hx' d hd; omega)) rfl (msgClosed _) (.cons (vw_side (s := s) rfl rfl) .nil) ?_
  simp only [go_sem, ↓reduceIte]
  refine call_new1 (hP ▸ s_toSide s hl') rfl (dataClosed _) (vws_self _ _ rfl) ?_
  simp only [Side.av, go_sem, ↓reduceIte]
  by_cases hv : sideB s = true
  · refine call_new1 (hP ▸ s_implSideSaid1 s (by omega) (fun d hd => by have := hx' d hd; omega) hv) rfl (msgClosed _) (.cons (vw_side (s := s) rfl rfl) .nil) ?_
    simp only [go_sem, ↓reduceIte]
    refine call_flat (hP ▸ s_eqMessageS (sideSaid s)) rfl (.cons (Vw.full rfl (by simp)) (.cons (Vw.full rfl (by simp)) .nil)) ?_
    simp only [go_sem, ↓reduceIte]
    refine call_new1 (hP ▸ s_toSide s hl') rfl (dataClosed _) (vws_self _ _ rfl) ?_
    simp only [Side.av, go_sem, ↓reduceIte]
    refine call_flat (hP ▸ s_eqSide s) rfl (.cons (vw_side (s := s) rfl rfl) (.cons (vw_side (s := s) rfl rfl) .nil)) ?_
    simp only [go_sem, ↓reduceIte]
    refine call_named 3 (hP ▸ s_markSide s 1 (by omega) (by omega)) (by rfl) rfl (by rfl) ?_ ?_
    · rintro r B ⟨rfl, rfl⟩; exact ⟨rfl, rfl⟩
    rintro r B ⟨rfl, rfl⟩
    simp only [go_sem, ↓reduceIte]
    have hlt := sideSaid_len s
    refine ⟨fun _ => ?_, fun h => absurd h (by omega)⟩
    refine call_flat (hP ▸ s_eqMessageS (sideSaid s)) rfl (.cons (Vw.full rfl (by simp)) (.cons (Vw.full rfl (by simp)) .nil)) ?_
    simp only [go_sem, ↓reduceIte]
    refine call_named 5 (hP ▸ s_markMessageS (sideSaid s) 1 (by omega) (by omega)) (by rfl) rfl (by rfl) ?_ ?_
    · rintro r B ⟨rfl, rfl⟩; exact ⟨rfl, rfl⟩
    rintro r B ⟨rfl, rfl⟩
    simp only [go_sem, ↓reduceIte]
    refine call_flat (hP ▸ s_heldMessageS (sideSaid s).length 1 (by omega) (by omega)) rfl (.cons (Vw.full rfl (by simp [marks_len])) (.cons (.r _) .nil)) ?_
    simp only [go_sem, ↓reduceIte]
    refine ⟨fun h => absurd h (by omega), fun _ => ?_⟩
    refine call_new1 (hP ▸ s_toSide s hl') rfl (dataClosed _) (vws_self _ _ rfl) ?_
    simp only [Side.av, go_sem, ↓reduceIte]
    refine call_new1 (hP ▸ s_implSideSaid1 s (by omega) (fun d hd => by have := hx' d hd; omega) hv) rfl (msgClosed _) (.cons (vw_side (s := s) rfl rfl) .nil) ?_
    simp only [go_sem, ↓reduceIte]
    refine call_flat (hP ▸ s_eqMessageS (sideSaid s)) rfl (.cons (Vw.full rfl (by simp)) (.cons (Vw.full rfl (by simp)) .nil)) ?_
    simp only [go_sem, ↓reduceIte]
    refine call_flat (hP ▸ s_heldMessageS (sideSaid s).length 1 (by omega) (by omega)) rfl (.cons (Vw.full rfl (by simp [marks_len])) (.cons (.r _) .nil)) ?_
    simp only [go_sem, ↓reduceIte]
    first | done | exact fun h => absurd h (by omega)
  · have hb := sideSaid_bad hv
    refine call_val (hP ▸ s_implSideSaid0 s (by omega) (fun d hd => by have := hx' d hd; omega) hv) rfl (fun _ => rfl) (.cons (vw_side (s := s) rfl rfl) .nil) ?_
    simp only [hb, go_sem, ↓reduceIte]
    refine call_flat (hP ▸ s_eqMessageS_nil) rfl (.cons (.r _) (.cons (Vw.full rfl (by simp)) .nil)) ?_
    simp only [go_sem, ↓reduceIte]
    refine call_new1 (hP ▸ s_toSide s hl') rfl (dataClosed _) (vws_self _ _ rfl) ?_
    simp only [Side.av, go_sem, ↓reduceIte]
    refine call_flat (hP ▸ s_eqSide s) rfl (.cons (vw_side (s := s) rfl rfl) (.cons (vw_side (s := s) rfl rfl) .nil)) ?_
    simp only [go_sem, ↓reduceIte]
    refine call_named 3 (hP ▸ s_markSide s 1 (by omega) (by omega)) (by rfl) rfl (by rfl) ?_ ?_
    · rintro r B ⟨rfl, rfl⟩; exact ⟨rfl, rfl⟩
    rintro r B ⟨rfl, rfl⟩
    simp only [go_sem, ↓reduceIte]
    refine ⟨fun _ => ?_, fun h => absurd h (by omega)⟩
    refine call_flat (hP ▸ s_eqMessageS_nil) rfl (.cons (.r _) (.cons (Vw.full rfl (by simp)) .nil)) ?_
    simp only [go_sem, ↓reduceIte]
    refine call_pure (hP ▸ s_markMessageS_nil 1) rfl rfl ?_
    simp only [go_sem, ↓reduceIte]
    refine call_pure (hP ▸ s_heldMessageS_nil 1) rfl rfl ?_
    simp only [go_sem, ↓reduceIte]
    refine call_new1 (hP ▸ s_toSide s hl') rfl (dataClosed _) (vws_self _ _ rfl) ?_
    simp only [Side.av, go_sem, ↓reduceIte]
    refine call_val (hP ▸ s_implSideSaid0 s (by omega) (fun d hd => by have := hx' d hd; omega) hv) rfl (fun _ => rfl) (.cons (vw_side (s := s) rfl rfl) .nil) ?_
    simp only [go_sem, ↓reduceIte]
    refine call_flat (hP ▸ s_eqMessageS_nil) rfl (.cons (.r _) (.cons (Vw.full rfl (by simp)) .nil)) ?_
    simp only [go_sem, ↓reduceIte]
    refine call_pure (hP ▸ s_heldMessageS_nil 1) rfl rfl ?_
    simp only [go_sem, ↓reduceIte]
theorem spec_FnExactSideSaid {xs : List RV} (h : RowOk sideRow xs) : Spec Try.prog 8 0 [] [.agg (xs.map .r)] (fun r _ _ _ => r = .bo true) := by
  obtain ⟨s, e, hl, hx⟩ := side_of h
  rw [e]
  exact s_exactSideSaid s hl hx
end Go.Cap

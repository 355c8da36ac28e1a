import Derived.Test.YtpkemdacmcjgmaaV3
import Derived.Test.YtpkemdacmcjgmaaV5
/- FnTalkSide: its contract. -/
namespace Go.Cap
open Go Go.Proofs
set_option maxRecDepth 100000
set_option linter.unusedSimpArgs false
set_option linter.unusedVariables false
attribute [local irreducible] Call Run Spec Le

theorem spec_FnTalkSide {L : List (List RV)} (h : Okc (.sl [.i .u8]) (.ro none L)) : Spec Try.prog 10 0 [] [.r (.ro none L)] (fun r _ _ _ => r = .bo true) := by
  obtain ⟨code, rfl, hlen⟩ := bytes_of h
  have e : maxLen = 9223372036854775807 := by decide
  rw [e] at hlen
  refine mk10 rfl fun c hP hm => ?_
  unfold pc10
  simp only [go_sem, ↓reduceIte]
  intro _
  intro hcut
  refine c_drawTB (hP ▸ s_DrawTalkParts code) fun t byB h3 h4 => ?_
  simp only [Talk.av, go_sem, ↓reduceIte]
  by_cases hv : talkB t = true
  · refine call_new1 (hP ▸ s_implTalkParts1 t byB (by omega) hv) rfl (dataClosed _) (.cons (vw_talk (t := t) rfl rfl) (.cons (.r _) .nil)) ?_
    simp only [go_sem, ↓reduceIte]
    refine call_new1 (hP ▸ s_specTalkParts t byB (by omega) (fun s hs => Nat.le_trans (h4 s hs) (by decide))) rfl (dataClosed _) (.cons (vw_talk (t := t) rfl rfl) (.cons (.r _) .nil)) ?_
    simp only [go_sem, ↓reduceIte]
    refine call_flat (hP ▸ s_sameParts (talkParts t byB)) rfl (.cons (Vw.full rfl (by simp)) (.cons (Vw.full rfl (by simp)) .nil)) ?_
    simp only [go_sem, ↓reduceIte]
    refine call_flat (hP ▸ s_specTalkValid t (by omega) (fun s hs => Nat.le_trans (h4 s hs) (by decide))) rfl (.cons (vw_talk (t := t) rfl rfl) .nil) ?_
    simp only [hv, go_sem, ↓reduceIte]
    have h12 := talkParts_12 t byB hv
    have hsv := talkSide_ok hv byB
    have htx := talkParts_texts t byB
    refine ⟨fun hb => ?_, fun hb => ?_⟩
    all_goals
      subst hb
      intro _
      have hss := talkSide_said hv
    · refine call_flat (hP ▸ s_implSideValid (talkSide t true) (by simp only [talkSide]; omega) (fun d hd => by have := htx d hd; omega)) rfl (.cons (vw_side (s := talkSide t true) rfl rfl) .nil) ?_
      simp only [hsv, go_sem, ↓reduceIte]
      refine call_new1 (hP ▸ s_implSideSaid1 (talkSide t true) (by simp only [talkSide]; omega) (fun d hd => by have := htx d hd; omega) hsv) rfl (msgClosed _) (.cons (vw_side (s := talkSide t true) rfl rfl) .nil) ?_
      simp only [hss, go_sem, ↓reduceIte]
      refine call_new1 (hP ▸ s_implTalkSaid1 t true (by omega) hv) rfl (msgClosed _) (.cons (vw_talk (t := t) rfl rfl) (.cons (.r _) .nil)) ?_
      simp only [go_sem, ↓reduceIte]
      refine call_flat (hP ▸ s_sameMessages (talkSaid t true)) rfl (.cons (Vw.full rfl (by simp)) (.cons (Vw.full rfl (by simp)) .nil)) ?_
      simp only [go_sem, ↓reduceIte]
    · refine call_flat (hP ▸ s_implSideValid (talkSide t false) (by simp only [talkSide]; omega) (fun d hd => by have := htx d hd; omega)) rfl (.cons (vw_side (s := talkSide t false) rfl rfl) .nil) ?_
      simp only [hsv, go_sem, ↓reduceIte]
      refine call_new1 (hP ▸ s_implSideSaid1 (talkSide t false) (by simp only [talkSide]; omega) (fun d hd => by have := htx d hd; omega) hsv) rfl (msgClosed _) (.cons (vw_side (s := talkSide t false) rfl rfl) .nil) ?_
      simp only [hss, go_sem, ↓reduceIte]
      refine call_new1 (hP ▸ s_implTalkSaid1 t false (by omega) hv) rfl (msgClosed _) (.cons (vw_talk (t := t) rfl rfl) (.cons (.r _) .nil)) ?_
      simp only [go_sem, ↓reduceIte]
      refine call_flat (hP ▸ s_sameMessages (talkSaid t false)) rfl (.cons (Vw.full rfl (by simp)) (.cons (Vw.full rfl (by simp)) .nil)) ?_
      simp only [go_sem, ↓reduceIte]
  · refine call_val (hP ▸ s_implTalkParts0 t byB (by omega) hv) rfl (fun _ => rfl) (.cons (vw_talk (t := t) rfl rfl) (.cons (.r _) .nil)) ?_
    simp only [go_sem, ↓reduceIte]
    refine call_new1 (hP ▸ s_specTalkParts t byB (by omega) (fun s hs => Nat.le_trans (h4 s hs) (by decide))) rfl (dataClosed _) (.cons (vw_talk (t := t) rfl rfl) (.cons (.r _) .nil)) ?_
    simp only [talkParts_bad hv, go_sem, ↓reduceIte]
    refine call_flat (hP ▸ s_sameParts_nil) rfl (.cons (.r _) (.cons (Vw.full rfl (by simp)) .nil)) ?_
    simp only [go_sem, ↓reduceIte]
    refine call_flat (hP ▸ s_specTalkValid t (by omega) (fun s hs => Nat.le_trans (h4 s hs) (by decide))) rfl (.cons (vw_talk (t := t) rfl rfl) .nil) ?_
    simp only [hv, go_sem, ↓reduceIte]
    refine call_flat (hP ▸ s_sameParts_nil) rfl (.cons (.r _) (.cons (Vw.full rfl (by simp)) .nil)) ?_
    simp only [go_sem, ↓reduceIte]
end Go.Cap

import Derived.Test.YtpkemdacmcjgmaaG4
/- FnTalkAsm: its contract. -/
namespace Go.Cap
open Go Go.Proofs
set_option maxRecDepth 100000
set_option linter.unusedSimpArgs false
set_option linter.unusedVariables false
attribute [local irreducible] Call Run Spec Le

theorem spec_FnTalkAsm {L : List (List RV)} (h : Okc (.sl [.i .u8]) (.ro none L)) : Spec Try.prog 12 0 [] [.r (.ro none L)] (fun r _ _ _ => r = .bo true) := by
  obtain ⟨code, rfl, hlen⟩ := bytes_of h
  have e : maxLen = 9223372036854775807 := by decide
  rw [e] at hlen
  refine mk12 rfl fun c hP hm => ?_
  unfold pc12
  simp only [go_sem, ↓reduceIte]
  intro _
  intro hcut
  refine c_drawTB (hP ▸ s_DrawTalkParts code) fun t byB h3 h4 => ?_
  simp only [Talk.av, go_sem, ↓reduceIte]
  by_cases hv : talkB t = true
  · refine call_new1 (hP ▸ s_implTalkParts1 t byB (by omega) hv) rfl (dataClosed _) (.cons (vw_talk (t := t) rfl rfl) (.cons (.r _) .nil)) ?_
    simp only [go_sem, ↓reduceIte]
    refine call_new1 (hP ▸ s_specTalkParts t byB (by omega) (fun s hs => Nat.le_trans (h4 s hs) (by decide))) rfl (dataClosed _) (.cons (vw_talk (t := t) rfl rfl) (.cons (.r _) .nil)) ?_
    simp only [go_sem, ↓reduceIte]
    refine call_flat (hP ▸ s_sameParts (talkParts t byB)) rfl (.cons (Vw.full rfl (by simp)) (.cons (Vw.full rfl (by simp)) .nil)) ?_
    simp only [go_sem, ↓reduceIte]
    refine call_flat (hP ▸ s_specTalkValid t (by omega) (fun s hs => Nat.le_trans (h4 s hs) (by decide))) rfl (.cons (vw_talk (t := t) rfl rfl) .nil) ?_
    simp only [hv, go_sem, ↓reduceIte]
    have h12 := talkParts_12 t byB hv
    have htx := talkParts_texts t byB
    obtain ⟨n, en, hn, hseq, _⟩ := talk_seq hv byB
    have hrun : asmRun n (talkParts t byB) = talkSaid t byB := hseq.run h12 hn
    have hcall := s_implAsmRun1 n (talkParts t byB) hn (by omega) (fun d hd => by have := htx d hd; omega)
    rw [hrun] at hcall
    cases byB
    all_goals
      simp only [Talk.init, Bool.false_eq_true, if_false, if_true] at en
      simp only [en, go_sem, ↓reduceIte]
      refine call_new1 (hP ▸ hcall) rfl (msgClosed _) (.cons (.r _) (.cons (Vw.full rfl (by simp)) .nil)) ?_
      simp only [go_sem, ↓reduceIte]
      refine call_new1 (hP ▸ s_implTalkSaid1 t _ (by omega) hv) rfl (msgClosed _) (.cons (by rw [← en]; exact vw_talk (t := t) rfl rfl) (.cons (.r _) .nil)) ?_
      simp only [go_sem, ↓reduceIte]
      refine call_flat (hP ▸ s_sameMessages (talkSaid t _)) rfl (.cons (Vw.full rfl (by simp)) (.cons (Vw.full rfl (by simp)) .nil)) ?_
      simp only [go_sem, ↓reduceIte]
  · refine call_val (hP ▸ s_implTalkParts0 t byB (by omega) hv) rfl (fun _ => rfl) (.cons (vw_talk (t := t) rfl rfl) (.cons (.r _) .nil)) ?_
    simp only [go_sem, ↓reduceIte]
    refine call_new1 (hP ▸ s_specTalkParts t byB (by omega) (fun s hs => Nat.le_trans (h4 s hs) (by decide))) rfl (dataClosed _) (.cons (vw_talk (t := t) rfl rfl) (.cons (.r _) .nil)) ?_
    simp only [talkParts_bad hv, go_sem, ↓reduceIte]
    refine call_flat (hP ▸ s_sameParts_nil) rfl (.cons (.r _) (.cons (Vw.full rfl (by simp)) .nil)) ?_
    simp only [go_sem, ↓reduceIte]
    refine call_flat (hP ▸ s_specTalkValid t (by omega) (fun s hs => Nat.le_trans (h4 s hs) (by decide))) rfl (.cons (vw_talk (t := t) rfl rfl) .nil) ?_
    simp only [hv, go_sem, ↓reduceIte]
    refine call_flat (hP ▸ s_sameParts_nil) rfl (.cons (.r _) (.cons (Vw.full rfl (by simp)) .nil)) ?_
    simp only [go_sem, ↓reduceIte]
end Go.Cap

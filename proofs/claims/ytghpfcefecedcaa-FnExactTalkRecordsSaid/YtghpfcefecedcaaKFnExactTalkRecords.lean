import Derived.Test.YtghpfcefecedcaaLawB
/- FnExactTalkRecords: its contract. -/
namespace Go.Cap
open Go Go.Proofs
set_option maxRecDepth 100000
set_option linter.unusedSimpArgs false
set_option linter.unusedVariables false
attribute [local irreducible] Call Run Spec Le

theorem talkRecs_len (t : Talk) (n : Int) : (talkRecs t n).length ≤ 1000 := by
  have := talkPk_small (t := t)
  unfold talkRecs
  split
  · simp only [recsOf, List.length_map, List.length_range]; omega
  · simp
theorem s_implTalkRecords1 (t : Talk) (n : Int) (hb : n ≤ 9223372036854775807) (hl : t.says.length ≤ 1048576) (hx : ∀ s ∈ t.says, s.text.length ≤ 1048576) (hv : recsGood (talkPk t) n) :
    Spec Try.prog 34 0 [] [t.ro, .i n] (New1 (.sl 0 0 (talkRecs t n).length) 2 ((talkRecs t n).map Rec.row)) :=
  Spec.new1 (r0 := .sl 0 0 (talkRecs t n).length) (s_implTalkRecordsG t n hb hl hx) (fun r hp nx gs h => by
    rcases h with ⟨_, _, h⟩ | ⟨_, h⟩
    · exact absurd hv h
    · exact h) (fun f g h => by simp only [go_sem, h])
theorem s_implTalkRecords0 (t : Talk) (n : Int) (hb : n ≤ 9223372036854775807) (hl : t.says.length ≤ 1048576) (hx : ∀ s ∈ t.says, s.text.length ≤ 1048576) (hv : ¬ recsGood (talkPk t) n) :
    Spec Try.prog 34 0 [] [t.ro, .i n] (fun r _ _ _ => r = .r .nil) :=
  (s_implTalkRecordsG t n hb hl hx).mono fun r hp nx gs h => by
    rcases h with ⟨h, _⟩ | ⟨h, _⟩
    · exact h
    · exact absurd h hv
theorem recs_nil {t : Talk} {n : Int} (hb : n ≤ 9223372036854775807) (hv : ¬ recsGood (talkPk t) n) : talkRecs t n = [] := by
  have hsm := talkPk_small (t := t)
  rw [talkRecs_eq hb (by omega)]
  by_cases h0 : 0 ≤ n ∧ captB (recsW (talkPk t) n) = true
  · by_cases hn : talkPk t = []
    · rw [hn]; simp [recsW]
    · by_cases h1 : n ≤ 4294967295
      · exact absurd ⟨h0.1, h1, h0.2⟩ hv
      · rw [(recs_bad ⟨by omega, hb⟩ hn).1] at h0; cases h0.2
  · rw [if_neg h0]
theorem s_exactTalkRecords (t : Talk) (n : Int) (hn : n ≤ 9223372036854775807) (hl : t.says.length ≤ maxLen) (hx : ∀ s ∈ t.says, s.text.length ≤ maxLen) : Spec Try.prog 8 0 [] [t.ro, .i n] (fun r _ _ _ => r = .bo true) := by
  have e : maxLen = 9223372036854775807 := by decide
  rw [e] at hl hx
  refine mk8 rfl fun c hP hm => ?_
  unfold pc8 Talk.ro Talk.av
  simp only [go_sem, ↓reduceIte]
  refine call_pure (hP ▸ s_szTalk t 1048576 (by omega) (by omega) (fun s hs => by have := hx s hs; omega)) rfl rfl ?_
  simp only [go_sem, ↓reduceIte]
  intro hz
  have hz' : 0 ≤ szSays t.says 1048576 := by
    split at hz
    · omega
    · omega
  obtain ⟨hl', hx'⟩ := szSays_ok hz'
  refine call_new1 (hP ▸ s_toTalk t hl') rfl (sayClosed _) (vws_self _ _ rfl) ?_
  simp only [Talk.av, go_sem, ↓reduceIte]
  refine call_new1 (hP ▸ s_specTalkRecords t n hn hl' hx') rfl (recClosed _) (.cons (vw_talk (t := t) rfl rfl) (.cons (.r _) .nil)) ?_
  simp only [go_sem, ↓reduceIte]
  refine call_new1 (hP ▸ s_toTalk t hl') rfl (sayClosed _) (vws_self _ _ rfl) ?_
  simp only [Talk.av, go_sem, ↓reduceIte]
  by_cases hv : recsGood (talkPk t) n
  · refine call_new1 (hP ▸ s_implTalkRecords1 t n hn hl' hx' hv) rfl (recClosed _) (.cons (vw_talk (t := t) rfl rfl) (.cons (.r _) .nil)) ?_
    simp only [go_sem, ↓reduceIte]
    refine call_flat (hP ▸ s_eqRecordS (talkRecs t n)) rfl (.cons (Vw.full rfl (by simp)) (.cons (Vw.full rfl (by simp)) .nil)) ?_
    simp only [go_sem, ↓reduceIte]
    refine call_new1 (hP ▸ s_toTalk t hl') rfl (sayClosed _) (vws_self _ _ rfl) ?_
    simp only [Talk.av, go_sem, ↓reduceIte]
    refine call_flat (hP ▸ s_eqTalk t) rfl (.cons (vw_talk (t := t) rfl rfl) (.cons (vw_talk (t := t) rfl rfl) .nil)) ?_
    simp only [go_sem, ↓reduceIte]
    refine call_named 3 (hP ▸ s_markTalk t 1 (by omega) hl') (by rfl) rfl (by rfl) ?_ ?_
    · rintro r B ⟨rfl, rfl⟩; exact ⟨rfl, rfl⟩
    rintro r B ⟨rfl, rfl⟩
    simp only [go_sem, ↓reduceIte]
    have hlt := talkRecs_len t n
    refine ⟨fun _ => ?_, fun h => absurd h (by omega)⟩
    refine call_flat (hP ▸ s_eqRecordS (talkRecs t n)) rfl (.cons (Vw.full rfl (by simp)) (.cons (Vw.full rfl (by simp)) .nil)) ?_
    simp only [go_sem, ↓reduceIte]
    refine call_named 5 (hP ▸ s_markRecordS (talkRecs t n) 1 (by omega) (by omega)) (by rfl) rfl (by rfl) ?_ ?_
    · rintro r B ⟨rfl, rfl⟩; exact ⟨rfl, rfl⟩
    rintro r B ⟨rfl, rfl⟩
    simp only [go_sem, ↓reduceIte]
    refine call_flat (hP ▸ s_heldRecordS (talkRecs t n).length 1 (by omega) (by omega)) rfl (.cons (Vw.full rfl (by simp [marks_len])) (.cons (.r _) .nil)) ?_
    simp only [go_sem, ↓reduceIte]
    refine ⟨fun h => absurd h (by omega), fun _ => ?_⟩
    refine call_new1 (hP ▸ s_toTalk t hl') rfl (sayClosed _) (vws_self _ _ rfl) ?_
    simp only [Talk.av, go_sem, ↓reduceIte]
    refine call_new1 (hP ▸ s_implTalkRecords1 t n hn hl' hx' hv) rfl (recClosed _) (.cons (vw_talk (t := t) rfl rfl) (.cons (.r _) .nil)) ?_
    simp only [go_sem, ↓reduceIte]
    refine call_flat (hP ▸ s_eqRecordS (talkRecs t n)) rfl (.cons (Vw.full rfl (by simp)) (.cons (Vw.full rfl (by simp)) .nil)) ?_
    simp only [go_sem, ↓reduceIte]
    refine call_flat (hP ▸ s_heldRecordS (talkRecs t n).length 1 (by omega) (by omega)) rfl (.cons (Vw.full rfl (by simp [marks_len])) (.cons (.r _) .nil)) ?_
    simp only [go_sem, ↓reduceIte]
    first | done | exact fun h => absurd h (by omega)
  · have hb := recs_nil hn hv
    refine call_val (hP ▸ s_implTalkRecords0 t n hn hl' hx' hv) rfl (fun _ => rfl) (.cons (vw_talk (t := t) rfl rfl) (.cons (.r _) .nil)) ?_
    simp only [hb, go_sem, ↓reduceIte]
    refine call_flat (hP ▸ s_eqRecordS_nil) rfl (.cons (.r _) (.cons (Vw.full rfl (by simp)) .nil)) ?_
    simp only [go_sem, ↓reduceIte]
    refine call_new1 (hP ▸ s_toTalk t hl') rfl (sayClosed _) (vws_self _ _ rfl) ?_
    simp only [Talk.av, go_sem, ↓reduceIte]
    refine call_flat (hP ▸ s_eqTalk t) rfl (.cons (vw_talk (t := t) rfl rfl) (.cons (vw_talk (t := t) rfl rfl) .nil)) ?_
    simp only [go_sem, ↓reduceIte]
    refine call_named 3 (hP ▸ s_markTalk t 1 (by omega) hl') (by rfl) rfl (by rfl) ?_ ?_
    · rintro r B ⟨rfl, rfl⟩; exact ⟨rfl, rfl⟩
    rintro r B ⟨rfl, rfl⟩
    simp only [go_sem, ↓reduceIte]
    refine ⟨fun _ => ?_, fun h => absurd h (by omega)⟩
    refine call_flat (hP ▸ s_eqRecordS_nil) rfl (.cons (.r _) (.cons (Vw.full rfl (by simp)) .nil)) ?_
    simp only [go_sem, ↓reduceIte]
    refine call_pure (hP ▸ s_markRecordS_nil 1) rfl rfl ?_
    simp only [go_sem, ↓reduceIte]
    refine call_pure (hP ▸ s_heldRecordS_nil 1) rfl rfl ?_
    simp only [go_sem, ↓reduceIte]
    refine call_new1 (hP ▸ s_toTalk t hl') rfl (sayClosed _) (vws_self _ _ rfl) ?_
    simp only [Talk.av, go_sem, ↓reduceIte]
    refine call_val (hP ▸ s_implTalkRecords0 t n hn hl' hx' hv) rfl (fun _ => rfl) (.cons (vw_talk (t := t) rfl rfl) (.cons (.r _) .nil)) ?_
    simp only [go_sem, ↓reduceIte]
    refine call_flat (hP ▸ s_eqRecordS_nil) rfl (.cons (.r _) (.cons (Vw.full rfl (by simp)) .nil)) ?_
    simp only [go_sem, ↓reduceIte]
    refine call_pure (hP ▸ s_heldRecordS_nil 1) rfl rfl ?_
    simp only [go_sem, ↓reduceIte]
theorem spec_FnExactTalkRecords {xs : List RV} (h : RowOk talkRow xs) {n : Int} (hn : (Lit.int .i64 n).wf = true) : Spec Try.prog 8 0 [] [.agg (xs.map .r), .i n] (fun r _ _ _ => r = .bo true) := by
  obtain ⟨t, e, hl, hx⟩ := talk_of h
  rw [e]
  exact s_exactTalkRecords t n (wf_i64 hn).2 hl hx
end Go.Cap

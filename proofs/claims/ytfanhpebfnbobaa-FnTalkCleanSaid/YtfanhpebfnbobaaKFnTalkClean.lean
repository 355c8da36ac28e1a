import Derived.Test.YtfanhpebfnbobaaLawD
/- FnTalkClean: its contract. -/
namespace Go.Cap
open Go Go.Proofs
set_option maxRecDepth 100000
set_option linter.unusedSimpArgs false
set_option linter.unusedVariables false
attribute [local irreducible] Call Run Spec Le

theorem spec_FnTalkClean {L : List (List RV)} (h : Okc (.sl [.i .u8]) (.ro none L)) : Spec Try.prog 4 0 [] [.r (.ro none L)] (fun r _ _ _ => r = .bo true) := by
  obtain ⟨code, rfl, hlen⟩ := bytes_of h
  have e : maxLen = 9223372036854775807 := by decide
  rw [e] at hlen
  refine mk4 rfl fun c hP hm => ?_
  unfold pc4
  simp only [hm, go_sem, ↓reduceIte]
  intro _ hcut
  refine call_plain (hP ▸ s_DrawTalkRecords code) rfl ?_
  rintro r ⟨t, n, rfl, ⟨b1, b2⟩, b3, b4⟩
  refine ⟨rfl, ?_⟩
  have bx : ∀ s ∈ t.says, s.text.length ≤ 1048576 := fun s hs => by have := b2 s hs; omega
  simp only [Talk.ro, Talk.av, hm, go_sem, ↓reduceIte]
  refine call_dataP (hP ▸ s_implTalkRecordsP t n (by omega) (by omega) bx) rfl rfl ?_
  simp only [hm, go_sem, ↓reduceIte]
  refine call_dataP (hP ▸ s_specTalkRecordsP t n (by omega) (by omega) bx) rfl rfl ?_
  simp only [hm, go_sem, ↓reduceIte]
  refine call_pure (hP ▸ s_sameRecords (talkRecs t n)) rfl rfl ?_
  have hgood := talkRecs_good (t := t) (n := n)
  generalize talkRecs t n = rs at hgood
  simp only [hm, go_sem, ↓reduceIte]
  intro _
  refine ⟨fun _ => ?_, fun hne => ?_⟩
  · refine call_pure (hP ▸ s_sameRecords rs) rfl rfl ?_
    simp only [hm, go_sem, ↓reduceIte]
  · obtain ⟨hv, hrs, hcap⟩ := hgood (fun e => hne (by rw [e]; rfl))
    have hmon := mon_clean hv hcap
    rw [← hrs] at hmon
    have hmr := s_implMonitorRun rs
    rw [hmon] at hmr
    have hrow : (e7 t).row = [.n .i64 t.fr, .n .i64 t.to, .n .i64 7, .b false, .n .i64 (e7 t).a.tag, .n .i64 (e7 t).a.streams, .n .i64 (e7 t).a.first, .ro none ((e7 t).a.sent.map Data.row), .n .i64 (e7 t).a.acked, .n .i64 (e7 t).b.tag, .n .i64 (e7 t).b.streams, .n .i64 (e7 t).b.first, .ro none ((e7 t).b.sent.map Data.row), .n .i64 (e7 t).b.acked] := rfl
    unfold Mon.ro at hmr
    simp only [List.map_cons, List.map_nil, hrow] at hmr
    refine call_dataP (hP ▸ hmr) rfl rfl ?_
    simp only [hm, go_sem, ↓reduceIte]
    repeat' first | refine And.intro ?_ ?_ | intro _
    all_goals first
      | omega
      | rfl
end Go.Cap

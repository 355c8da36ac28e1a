import Derived.Test.YtfanhpebfnbobaaLawD
/- FnTalkHeard: its contract. -/
namespace Go.Cap
open Go Go.Proofs
set_option maxRecDepth 100000
set_option linter.unusedSimpArgs false
set_option linter.unusedVariables false
attribute [local irreducible] Call Run Spec Le

theorem spec_FnTalkHeard {L : List (List RV)} (h : Okc (.sl [.i .u8]) (.ro none L)) : Spec Try.prog 3 0 [] [.r (.ro none L)] (fun r _ _ _ => r = .bo true) := by
  obtain ⟨code, rfl, hlen⟩ := bytes_of h
  have e : maxLen = 9223372036854775807 := by decide
  rw [e] at hlen
  refine mk3 rfl fun c hP hm => ?_
  unfold pc3
  simp only [hm, go_sem, ↓reduceIte]
  intro _ hcut
  refine call_plain (hP ▸ s_DrawTalkRecords code) rfl ?_
  rintro r ⟨t, n, rfl, ⟨b1, b2⟩, b3, b4⟩
  refine ⟨rfl, ?_⟩
  have bx : ∀ s ∈ t.says, s.text.length ≤ 1048576 := fun s hs => by have := b2 s hs; omega
  simp only [Talk.ro, Talk.av, hm, go_sem, ↓reduceIte]
  refine call_dataP (hP ▸ s_implTalkRecordsP t n (by omega) (by omega) bx) rfl rfl ?_
  simp only [hm, go_sem, ↓reduceIte]
  refine call_dataP (hP ▸ s_specTalkRecordsP t n (by omega) (by omega) bx) rfl rfl ?_
  simp only [hm, go_sem, ↓reduceIte]
  refine call_pure (hP ▸ s_sameRecords (talkRecs t n)) rfl rfl ?_
  have hgood := talkRecs_good (t := t) (n := n)
  generalize talkRecs t n = rs at hgood
  simp only [hm, go_sem, ↓reduceIte]
  intro _
  refine ⟨fun _ => ?_, fun hne => ?_⟩
  · refine call_pure (hP ▸ s_sameRecords rs) rfl rfl ?_
    simp only [hm, go_sem, ↓reduceIte]
  · obtain ⟨hv, hrs, hcap⟩ := hgood (fun e => hne (by rw [e]; rfl))
    have hmon := mon_clean hv hcap
    rw [← hrs] at hmon
    have hmr := s_implMonitorRun rs
    rw [hmon] at hmr
    have hes := e7_side hv
    have hk1 : ∀ b, sideKnown (talkSide t b) = talkSaid t b := fun b => by
      unfold sideKnown
      rw [if_pos (talkSide_ok hv b)]
      unfold talkSide
      simp only [Int.toNat_natCast, List.take_length]
      rfl
    have hl : ∀ b, (talkSide t b).sent.length ≤ 2000000 := fun b => by have := talkParts_12 t b hv; simp only [talkSide]; omega
    have hx : ∀ b, ∀ d ∈ (talkSide t b).sent, d.text.length ≤ 9223372036854775807 := fun b d hd => by
      obtain ⟨k, en, hn, hseq, _⟩ := talk_seq hv b
      have := data_ok (hseq.ok d hd)
      omega
    have ia := fun b => s_implSideSaidP (talkSide t b) (hl b) (hx b)
    have ik := fun b => s_implSideKnown (talkSide t b) (hl b) (hx b)
    have it := fun b => Spec.dataP (sz := 4) (L := (talkSaid t b).map Msg.row) (by have := s_implTalkSaid1 t b (by omega) hv; rwa [← List.length_map (f := Msg.row)] at this)
    simp only [talkSide_said hv] at ia
    simp only [hk1] at ik
    unfold Talk.ro Talk.av at it
    have hrow : (e7 t).row = [.n .i64 t.fr, .n .i64 t.to, .n .i64 7, .b false, .n .i64 (talkSide t false).tag, .n .i64 (talkSide t false).streams, .n .i64 (talkSide t false).first, .ro none ((talkSide t false).sent.map Data.row), .n .i64 (talkSide t false).acked, .n .i64 (talkSide t true).tag, .n .i64 (talkSide t true).streams, .n .i64 (talkSide t true).first, .ro none ((talkSide t true).sent.map Data.row), .n .i64 (talkSide t true).acked] := by
      rw [← hes.1, ← hes.2]; rfl
    unfold Mon.ro at hmr
    simp only [List.map_cons, List.map_nil, hrow] at hmr
    unfold Side.ro Side.av at ia ik
    have a0 := ia false
    have a1 := ia true
    have k0 := ik false
    have k1 := ik true
    have t0 := it false
    have t1 := it true
    clear ia ik it hes hl hx hk1 hrow hmon
    generalize talkSide t false = sa at *
    generalize talkSide t true = sb at *
    generalize talkSaid t false = ma at *
    generalize talkSaid t true = mb at *
    refine call_dataP (hP ▸ hmr) rfl rfl ?_
    simp only [hm, go_sem, ↓reduceIte]
    refine call_dataP (hP ▸ t0) rfl rfl ?_
    simp only [hm, go_sem, ↓reduceIte]
    refine call_dataP (hP ▸ t1) rfl rfl ?_
    simp only [hm, go_sem, ↓reduceIte]
    repeat' first
      | refine And.intro ?_ ?_
      | intro _
      | (refine call_dataP (hP ▸ a0) rfl rfl ?_; simp only [hm, go_sem, ↓reduceIte])
      | (refine call_dataP (hP ▸ a1) rfl rfl ?_; simp only [hm, go_sem, ↓reduceIte])
      | (refine call_dataP (hP ▸ k0) rfl rfl ?_; simp only [hm, go_sem, ↓reduceIte])
      | (refine call_dataP (hP ▸ k1) rfl rfl ?_; simp only [hm, go_sem, ↓reduceIte])
      | (refine call_pure (hP ▸ s_sameMessages _) rfl rfl ?_; simp only [hm, go_sem, ↓reduceIte])
    all_goals first
      | omega
      | rfl
end Go.Cap

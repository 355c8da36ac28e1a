import Derived.Test.YtfanhpebfnbobaaLawD
/- FnTalkCut: its contract. -/
namespace Go.Cap
open Go Go.Proofs
set_option maxRecDepth 100000
set_option linter.unusedSimpArgs false
set_option linter.unusedVariables false
attribute [local irreducible] Call Run Spec Le

theorem spec_FnTalkCut {L L2 : List (List RV)} (h : Okc (.sl [.i .u8]) (.ro none L)) (h2 : Okc (.sl [.i .u8]) (.ro none L2)) : Spec Try.prog 7 0 [] [.r (.ro none L), .r (.ro none L2)] (fun r _ _ _ => r = .bo true) := by
  obtain ⟨code, rfl, hlen⟩ := bytes_of h
  obtain ⟨more, rfl, hlen2⟩ := bytes_of h2
  have e : maxLen = 9223372036854775807 := by decide
  rw [e] at hlen hlen2
  refine mk7 rfl fun c hP hm => ?_
  unfold pc7
  simp only [hm, go_sem, ↓reduceIte]
  intro _ hcut _ hcut2
  refine call_plain (hP ▸ s_DrawTalkRecords code) rfl ?_
  rintro r ⟨t, n, rfl, ⟨b1, b2⟩, b3, b4⟩
  refine ⟨rfl, ?_⟩
  have bx : ∀ s ∈ t.says, s.text.length ≤ 1048576 := fun s hs => by have := b2 s hs; omega
  simp only [Talk.ro, Talk.av, hm, go_sem, ↓reduceIte]
  refine call_dataP (hP ▸ s_implTalkRecordsP t n (by omega) (by omega) bx) rfl rfl ?_
  simp only [hm, go_sem, ↓reduceIte]
  refine call_dataP (hP ▸ s_specTalkRecordsP t n (by omega) (by omega) bx) rfl rfl ?_
  simp only [hm, go_sem, ↓reduceIte]
  refine call_pure (hP ▸ s_sameRecords (talkRecs t n)) rfl rfl ?_
  have hgood := talkRecs_good (t := t) (n := n)
  generalize talkRecs t n = rs at hgood
  simp only [hm, go_sem, ↓reduceIte]
  intro _
  refine ⟨fun _ => ?_, fun hne => ?_⟩
  · refine call_pure (hP ▸ s_sameRecords rs) rfl rfl ?_
    simp only [hm, go_sem, ↓reduceIte]
  · obtain ⟨hv, hrs, hcap⟩ := hgood (fun e => by rw [e] at hne; exact absurd hne (by decide))
    have hrl : rs.length = (talkPk t).length := by rw [hrs, recsOf_len]
    have hpl := talk_pk_len hv
    have hk : more.length % (rs.length + 1) < rs.length + 1 := Nat.mod_lt _ (by omega)
    have w1 : IntKind.i64.wrap ((rs.length : Int) + 1) = ((rs.length + 1 : Nat) : Int) := by rw [wrap64 (by omega) (by omega)]; omega
    have w3 : ((more.length : Int).tmod ((rs.length + 1 : Nat) : Int)) = ((more.length % (rs.length + 1) : Nat) : Int) := by rw [tmod_nn (by omega)]; rfl
    generalize more.length % (rs.length + 1) = k at hk w3
    have hr1 : List.take k (rs.map Rec.row) = (rs.take k).map Rec.row := List.map_take.symm
    have hmr := s_implMonitorRun (rs.take k)
    have hn1 : rowsN 2 (rs.map Rec.row) := fun r hr => by obtain ⟨d, _, rfl⟩ := List.mem_map.1 hr; rfl
    have it := Spec.dataP (sz := 4) (L := (talkSaid t false).map Msg.row) (by have := s_implTalkSaid1 t false (by omega) hv; rwa [← List.length_map (f := Msg.row)] at this)
    unfold Talk.ro Talk.av at it
    rcases Nat.eq_zero_or_pos k with h0 | h0
    · subst h0
      have hz : monRun (rs.take 0) = noMon := by rw [List.take_zero]; rfl
      rw [hz] at hmr
      unfold Mon.ro noMon at hmr
      simp only [List.map_nil] at hmr
      simp only [w1, w3, hr1, Int.toNat_natCast, List.length_map, hm, go_sem, ↓reduceIte]
      repeat' first
        | refine And.intro ?_ ?_
        | exact hn1
        | intro _
        | (refine call_dataP (hP ▸ hmr) rfl rfl ?_; simp only [hm, go_sem, ↓reduceIte])
      all_goals first
        | omega
        | rfl
    · obtain ⟨b, hgb, hmon⟩ := mon_cut hv hcap h0 (show k ≤ (talkPk t).length by omega)
      rw [← hrs] at hmon
      rw [hmon] at hmr
      have hsb := (assocB_iff.1 hgb.2.2.1).2.2.2.2.1
      have hsw := (assocB_AW hgb.2.2.1).1
      have ia := s_implSideSaidP b.a (by have := hsw.2.1; omega) (fun d hd => by have := data_ok (hsw.2.2 d hd); omega)
      have hpre : sideSaid b.a <+: talkSaid t false := by
        have h1 : sideSaid b.a = said b.a.sent := by unfold sideSaid; rw [if_pos hsb]
        rw [h1]
        unfold talkSaid
        obtain ⟨p1, p2⟩ := pre_take hgb.2.2.2.2
        have := said_pre (l := talkParts t false) p1
        rwa [p2, List.take_length] at this
      obtain ⟨p1, p2⟩ := pre_take hpre
      generalize sideSaid b.a = sx at ia p1 p2
      generalize talkSaid t false = sy at it p1 p2
      have hrow : b.row = [.n .i64 b.fr, .n .i64 b.to, .n .i64 b.state, .b b.byB, .n .i64 b.a.tag, .n .i64 b.a.streams, .n .i64 b.a.first, .ro none (b.a.sent.map Data.row), .n .i64 b.a.acked, .n .i64 b.b.tag, .n .i64 b.b.streams, .n .i64 b.b.first, .ro none (b.b.sent.map Data.row), .n .i64 b.b.acked] := rfl
      unfold Mon.ro at hmr
      simp only [List.map_cons, List.map_nil, hrow] at hmr
      unfold Side.ro Side.av at ia
      have hr2 : List.take sx.length (sy.map Msg.row) = sx.map Msg.row := by rw [← List.map_take, p2]
      have hn2 : rowsN 4 (sy.map Msg.row) := fun r hr => by obtain ⟨d, _, rfl⟩ := List.mem_map.1 hr; rfl
      simp only [w1, w3, hr1, Int.toNat_natCast, List.length_map, hm, go_sem, ↓reduceIte]
      repeat' first
        | refine And.intro ?_ ?_
        | exact hn1
        | exact hn2
        | intro _
        | (refine call_dataP (hP ▸ hmr) rfl rfl ?_; simp only [hm, go_sem, ↓reduceIte])
        | (refine call_dataP (hP ▸ ia) rfl rfl ?_; simp only [hm, go_sem, ↓reduceIte])
        | (refine call_dataP (hP ▸ it) rfl rfl ?_; simp only [hr2, Int.toNat_natCast, List.length_map, hm, go_sem, ↓reduceIte])
        | (refine call_pure (hP ▸ s_sameMessages _) rfl rfl ?_; simp only [hm, go_sem, ↓reduceIte])
      all_goals first
        | omega
        | rfl
        | exact hn1 _ (by assumption)
        | exact hn2 _ (by assumption)
end Go.Cap

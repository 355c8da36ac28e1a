import Derived.Test.YtfanhpebfnbobaaLawD
/- FnTalkTwice: its contract. -/
namespace Go.Cap
open Go Go.Proofs
set_option maxRecDepth 100000
set_option linter.unusedSimpArgs false
set_option linter.unusedVariables false
attribute [local irreducible] Call Run Spec Le

theorem s_sameSide (s : Side) : Spec Try.prog 113 0 [] [s.ro, s.ro] (fun r _ _ _ => r = .bo true) := by
  have hp := s_sameParts s.sent
  refine mk113 rfl fun c hP hm => ?_
  unfold pc113 Side.ro Side.av
  simp only [hm, go_sem, ↓reduceIte]
  repeat' first
    | refine And.intro ?_ ?_
    | intro _
    | (refine call_pure (hP ▸ hp) rfl rfl ?_; simp only [hm, go_sem, ↓reduceIte])
  all_goals first
    | rfl
    | (exfalso; simp_all; done)
theorem s_sameAssoc (a : Assoc) : Spec Try.prog 54 0 [] [a.ro, a.ro] (fun r _ _ _ => r = .bo true) := by
  have ha := s_sameSide a.a
  have hb := s_sameSide a.b
  unfold Side.ro Side.av at ha hb
  refine mk54 rfl fun c hP hm => ?_
  unfold pc54 Assoc.ro Assoc.av
  simp only [hm, go_sem, ↓reduceIte]
  repeat' first
    | refine And.intro ?_ ?_
    | intro _
    | (refine call_pure (hP ▸ ha) rfl rfl ?_; simp only [hm, go_sem, ↓reduceIte])
    | (refine call_pure (hP ▸ hb) rfl rfl ?_; simp only [hm, go_sem, ↓reduceIte])
  all_goals first
    | rfl
    | (exfalso; simp_all; done)
theorem s_sameAssocs (l : List Assoc) : Spec Try.prog 19 0 [] [.r (.ro none (l.map Assoc.row)), .r (.ro none (l.map Assoc.row))] (fun r _ _ _ => r = .bo true) := by
  refine mk19 rfl fun c hP hm => ?_
  unfold pc19
  simp only [hm, go_sem, ↓reduceIte]
  intro hlen _
  refine lp_wpc (α := Nat) (fun i => ⟨[(0, .r (.ro none (l.map Assoc.row))), (1, .r (.ro none (l.map Assoc.row))), (5, .i i)], [], 0, []⟩) (fun i => i ≤ l.length) (fun i => l.length - i) 0 (Nat.zero_le _) (by (refine le_ev [] ?_; simp only [hm, go_sem, ↓reduceIte]; first | done | rfl | exact ⟨rfl, rfl⟩)) ?_
  intro i hi
  unfold pc19l0
  rcases Nat.lt_or_ge i l.length with hil | hil
  · have hw : IntKind.i64.wrap ((i : Int) + 1) = ((i + 1 : Nat) : Int) := by rw [wrap64 (by omega) (by omega)]; omega
    have hg := getD_map (f := Assoc.row) hil
    generalize l[i] = a at hg
    have hs := s_sameAssoc a
    have hrow : a.row = [.n .i64 a.fr, .n .i64 a.to, .n .i64 a.state, .b a.byB, .n .i64 a.a.tag, .n .i64 a.a.streams, .n .i64 a.a.first, .ro none (a.a.sent.map Data.row), .n .i64 a.a.acked, .n .i64 a.b.tag, .n .i64 a.b.streams, .n .i64 a.b.first, .ro none (a.b.sent.map Data.row), .n .i64 a.b.acked] := rfl
    rw [hrow] at hg
    unfold Assoc.ro Assoc.av at hs
    simp only [hw, Int.toNat_natCast, hg, hm, go_sem, ↓reduceIte]
    repeat' first
      | refine And.intro ?_ ?_
      | intro _
      | (refine call_pure (hP ▸ hs) rfl rfl ?_; simp only [hw, Int.toNat_natCast, hg, hm, go_sem, ↓reduceIte])
    all_goals first
      | omega
      | rfl
      | (refine ⟨i + 1, hil, by omega, ?_⟩; (refine le_ev [] ?_; simp only [hm, go_sem, ↓reduceIte]; first | done | rfl | exact ⟨rfl, rfl⟩))
  · have : i = l.length := by omega
    subst this
    simp only [hm, go_sem, ↓reduceIte]
    repeat' first | refine And.intro ?_ ?_ | intro _
    all_goals first
      | omega
      | rfl
theorem spec_FnTalkTwice {L L2 : List (List RV)} (h : Okc (.sl [.i .u8]) (.ro none L)) (h2 : Okc (.sl [.i .u8]) (.ro none L2)) : Spec Try.prog 6 0 [] [.r (.ro none L), .r (.ro none L2)] (fun r _ _ _ => r = .bo true) := by
  obtain ⟨code, rfl, hlen⟩ := bytes_of h
  obtain ⟨more, rfl, hlen2⟩ := bytes_of h2
  have e : maxLen = 9223372036854775807 := by decide
  rw [e] at hlen hlen2
  refine mk6 rfl fun c hP hm => ?_
  unfold pc6
  simp only [hm, go_sem, ↓reduceIte]
  intro _ hcut _ hcut2
  refine call_plain (hP ▸ s_DrawTalkRecords code) rfl ?_
  rintro r ⟨t, n, rfl, ⟨b1, b2⟩, b3, b4⟩
  refine ⟨rfl, ?_⟩
  have bx : ∀ s ∈ t.says, s.text.length ≤ 1048576 := fun s hs => by have := b2 s hs; omega
  simp only [Talk.ro, Talk.av, hm, go_sem, ↓reduceIte]
  refine call_dataP (hP ▸ s_implTalkRecordsP t n (by omega) (by omega) bx) rfl rfl ?_
  simp only [hm, go_sem, ↓reduceIte]
  refine call_dataP (hP ▸ s_specTalkRecordsP t n (by omega) (by omega) bx) rfl rfl ?_
  simp only [hm, go_sem, ↓reduceIte]
  refine call_pure (hP ▸ s_sameRecords (talkRecs t n)) rfl rfl ?_
  have hgood := talkRecs_good (t := t) (n := n)
  generalize talkRecs t n = rs at hgood
  simp only [hm, go_sem, ↓reduceIte]
  intro _
  refine ⟨fun _ => ?_, fun hne => ?_⟩
  · refine call_pure (hP ▸ s_sameRecords rs) rfl rfl ?_
    simp only [hm, go_sem, ↓reduceIte]
  · obtain ⟨hv, hrs, hcap⟩ := hgood (fun e => by rw [e] at hne; exact absurd hne (by decide))
    have hrl : rs.length = (talkPk t).length := by rw [hrs, recsOf_len]
    have hpl := talk_pk_len hv
    have hk : more.length % (rs.length - 1) < rs.length - 1 := Nat.mod_lt _ (by omega)
    have w1 : IntKind.i64.wrap ((rs.length : Int) - 1) = ((rs.length - 1 : Nat) : Int) := by rw [wrap64 (by omega) (by omega)]; omega
    have w3 : ((more.length : Int).tmod ((rs.length - 1 : Nat) : Int)) = ((more.length % (rs.length - 1) : Nat) : Int) := by rw [tmod_nn (by omega)]; rfl
    generalize more.length % (rs.length - 1) = k at hk w3
    have w4 : IntKind.i64.wrap ((k : Int) + 1) = ((k + 1 : Nat) : Int) := by rw [wrap64 (by omega) (by omega)]; omega
    have hr1 : List.take (k + 1) (rs.map Rec.row) = (rs.take (k + 1)).map Rec.row := List.map_take.symm
    have hr2 : List.drop k (rs.map Rec.row) = (rs.drop k).map Rec.row := List.map_drop.symm
    have hra : (rs.take (k + 1)).map Rec.row ++ (rs.drop k).map Rec.row = (rs.take (k + 1) ++ rs.drop k).map Rec.row := List.map_append.symm
    have hla : (rs.take (k + 1)).length + (rs.drop k).length = (rs.take (k + 1) ++ rs.drop k).length := List.length_append.symm
    have hlx : (rs.take (k + 1) ++ rs.drop k).length ≤ 100 := by rw [List.length_append, List.length_take, List.length_drop]; omega
    have hmr := s_implMonitorRun (rs.take (k + 1) ++ rs.drop k)
    have hmr2 := s_implMonitorRun rs
    have hmon := mon_twice hv hcap (k := k) (by omega)
    have hmon2 := mon_clean hv hcap
    rw [← hrs] at hmon hmon2
    rw [hmon] at hmr
    rw [hmon2] at hmr2
    have hsa := s_sameAssocs [e7 t]
    unfold Mon.ro at hmr hmr2
    simp only [List.map_nil] at hmr hmr2
    have hn1 : rowsN 2 (rs.map Rec.row) := fun r hr => by obtain ⟨d, _, rfl⟩ := List.mem_map.1 hr; rfl
    have hn2 : rowsN 2 ((rs.take (k + 1)).map Rec.row) := fun r hr => by obtain ⟨d, _, rfl⟩ := List.mem_map.1 hr; rfl
    have hn3 : rowsN 2 ((rs.drop k).map Rec.row) := fun r hr => by obtain ⟨d, _, rfl⟩ := List.mem_map.1 hr; rfl
    clear hmon hmon2
    generalize [e7 t].map Assoc.row = rows at hmr hmr2 hsa
    generalize rs.take (k + 1) ++ rs.drop k = x at *
    simp only [w1, w3, w4, hr1, hr2, hra, hla, take_map_len, Int.toNat_natCast, List.length_map, hm, go_sem, ↓reduceIte]
    repeat' first
      | refine And.intro ?_ ?_
      | exact hn1
      | exact hn2
      | exact hn3
      | intro _
      | (refine call_frz 1 rfl rfl (by simp only [List.length_map, go_sem, ↓reduceIte]) ?_; simp only [take_map_len, List.drop_zero, hm, go_sem, ↓reduceIte]; refine call_dataP (hP ▸ hmr) rfl rfl ?_; simp only [hm, go_sem, ↓reduceIte])
      | (refine call_frz 2 rfl rfl (by simp only [List.length_map, go_sem, ↓reduceIte]) ?_; simp only [take_map_len, List.drop_zero, hm, go_sem, ↓reduceIte]; refine call_dataP (hP ▸ hmr) rfl rfl ?_; simp only [hm, go_sem, ↓reduceIte])
      | (refine call_dataP (hP ▸ hmr2) rfl rfl ?_; simp only [hm, go_sem, ↓reduceIte])
      | (refine call_pure (hP ▸ hsa) rfl rfl ?_; simp only [hm, go_sem, ↓reduceIte])
    all_goals first
      | omega
      | rfl
      | (rw [List.length_take]; omega)
      | (simp only [w4, hr1, hr2, take_map_len, Int.toNat_natCast]; done)
      | exact hn1 _ (by assumption)
      | exact hn2 _ (by assumption)
      | exact hn3 _ (by assumption)
end Go.Cap

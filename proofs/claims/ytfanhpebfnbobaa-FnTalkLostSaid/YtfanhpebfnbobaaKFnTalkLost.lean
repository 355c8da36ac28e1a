import Derived.Test.YtfanhpebfnbobaaLawD
/- FnTalkLost: its contract. -/
namespace Go.Cap
open Go Go.Proofs
set_option maxRecDepth 100000
set_option linter.unusedSimpArgs false
set_option linter.unusedVariables false
attribute [local irreducible] Call Run Spec Le

theorem rowsN_rec (l : List Rec) : rowsN 2 (l.map Rec.row) := fun r hr => by obtain ⟨d, _, rfl⟩ := List.mem_map.1 hr; rfl
theorem spec_FnTalkLost {L L2 : List (List RV)} (h : Okc (.sl [.i .u8]) (.ro none L)) (h2 : Okc (.sl [.i .u8]) (.ro none L2)) : Spec Try.prog 5 0 [] [.r (.ro none L), .r (.ro none L2)] (fun r _ _ _ => r = .bo true) := by
  obtain ⟨code, rfl, hlen⟩ := bytes_of h
  obtain ⟨more, rfl, hlen2⟩ := bytes_of h2
  have e : maxLen = 9223372036854775807 := by decide
  rw [e] at hlen hlen2
  refine mk5 rfl fun c hP hm => ?_
  unfold pc5
  simp only [hm, go_sem, ↓reduceIte]
  intro _ hcut _ hcut2
  refine call_plain (hP ▸ s_DrawTalkRecords code) rfl ?_
  rintro r ⟨t, n, rfl, ⟨b1, b2⟩, b3, b4⟩
  refine ⟨rfl, ?_⟩
  have bx : ∀ s ∈ t.says, s.text.length ≤ 1048576 := fun s hs => by have := b2 s hs; omega
  simp only [Talk.ro, Talk.av, hm, go_sem, ↓reduceIte]
  refine call_dataP (hP ▸ s_implTalkRecordsP t n (by omega) (by omega) bx) rfl rfl ?_
  simp only [hm, go_sem, ↓reduceIte]
  refine call_dataP (hP ▸ s_specTalkRecordsP t n (by omega) (by omega) bx) rfl rfl ?_
  simp only [hm, go_sem, ↓reduceIte]
  refine call_pure (hP ▸ s_sameRecords (talkRecs t n)) rfl rfl ?_
  have hgood := talkRecs_good (t := t) (n := n)
  generalize talkRecs t n = rs at hgood
  simp only [hm, go_sem, ↓reduceIte]
  intro _
  refine ⟨fun _ => ?_, fun hne => ?_⟩
  · refine call_pure (hP ▸ s_sameRecords rs) rfl rfl ?_
    simp only [hm, go_sem, ↓reduceIte]
  · obtain ⟨hv, hrs, hcap⟩ := hgood (fun e => by rw [e] at hne; exact absurd hne (by decide))
    have hrl : rs.length = 7 + 2 * t.all.length := by rw [hrs, recsOf_len, (talk_pk_len hv).1]
    have hal := all_len hv
    have hz : 0 < t.all.length := by omega
    have hj : more.length % t.all.length < t.all.length := Nat.mod_lt _ hz
    obtain ⟨fr, hmon⟩ := mon_lost hv hcap hj
    rw [← hrs] at hmon
    have w1 : IntKind.i64.wrap ((rs.length : Int) - 7) = 2 * (t.all.length : Int) := by rw [wrap64 (by omega) (by omega)]; omega
    have w2 : IntKind.i64.wrap ((2 * (t.all.length : Int)).tdiv 2) = (t.all.length : Int) := by rw [tdiv_nn (by omega), wrap64 (by omega) (by omega)]; omega
    have w3 : ((more.length : Int).tmod (t.all.length : Int)) = ((more.length % t.all.length : Nat) : Int) := by rw [tmod_nn (by omega)]; rfl
    generalize more.length % t.all.length = j at hj hmon w3
    have w4 : IntKind.i64.wrap ((j : Int) * 2) = 2 * (j : Int) := by rw [wrap64 (by omega) (by omega)]; omega
    have w5 : IntKind.i64.wrap (4 + 2 * (j : Int)) = ((4 + 2 * j : Nat) : Int) := by rw [wrap64 (by omega) (by omega)]; omega
    have w6 : IntKind.i64.wrap (((4 + 2 * j : Nat) : Int) + 1) = ((5 + 2 * j : Nat) : Int) := by rw [wrap64 (by omega) (by omega)]; omega
    have hr1 : List.take (4 + 2 * j) (rs.map Rec.row) = (rs.take (4 + 2 * j)).map Rec.row := List.map_take.symm
    have hr2 : List.drop (5 + 2 * j) (rs.map Rec.row) = (rs.drop (5 + 2 * j)).map Rec.row := List.map_drop.symm
    have hra : (rs.take (4 + 2 * j)).map Rec.row ++ (rs.drop (5 + 2 * j)).map Rec.row = (rs.take (4 + 2 * j) ++ rs.drop (5 + 2 * j)).map Rec.row := List.map_append.symm
    have hla : (rs.take (4 + 2 * j)).length + (rs.drop (5 + 2 * j)).length = (rs.take (4 + 2 * j) ++ rs.drop (5 + 2 * j)).length := List.length_append.symm
    have hlx : (rs.take (4 + 2 * j) ++ rs.drop (5 + 2 * j)).length ≤ 100 := by rw [List.length_append, List.length_take, List.length_drop]; omega
    have hmr := s_implMonitorRun (rs.take (4 + 2 * j) ++ rs.drop (5 + 2 * j))
    generalize monRun (rs.take (4 + 2 * j) ++ rs.drop (5 + 2 * j)) = mx at hmon hmr
    obtain ⟨mr, ml, mf⟩ := mx
    simp only at hmon
    subst hmon
    unfold Mon.ro at hmr
    simp only [List.map_cons, Fnd.row] at hmr
    generalize rs.take (4 + 2 * j) ++ rs.drop (5 + 2 * j) = x at *
    simp only [w1, w2, w3, w4, w5, w6, hr1, hr2, hra, hla, take_map_len, Int.toNat_natCast, List.length_map, hm, go_sem, ↓reduceIte]
    have hn1 := rowsN_rec rs
    have hn2 := rowsN_rec (rs.take (4 + 2 * j))
    have hn3 := rowsN_rec (rs.drop (5 + 2 * j))
    repeat' first
      | refine And.intro ?_ ?_
      | exact hn1
      | exact hn2
      | exact hn3
      | intro _
      | (refine call_frz 1 rfl rfl (by simp only [List.length_map, go_sem, ↓reduceIte]) ?_; simp only [take_map_len, List.drop_zero, hm, go_sem, ↓reduceIte]; refine call_dataP (hP ▸ hmr) rfl rfl ?_; simp only [hm, go_sem, ↓reduceIte])
      | (refine call_frz 2 rfl rfl (by simp only [List.length_map, go_sem, ↓reduceIte]) ?_; simp only [take_map_len, List.drop_zero, hm, go_sem, ↓reduceIte]; refine call_dataP (hP ▸ hmr) rfl rfl ?_; simp only [hm, go_sem, ↓reduceIte])
    all_goals first
      | omega
      | rfl
      | (rw [List.length_take]; omega)
      | (simp only [w6, hr1, hr2, take_map_len, Int.toNat_natCast]; done)
      | exact hn1 _ (by assumption)
      | exact hn2 _ (by assumption)
      | exact hn3 _ (by assumption)
end Go.Cap

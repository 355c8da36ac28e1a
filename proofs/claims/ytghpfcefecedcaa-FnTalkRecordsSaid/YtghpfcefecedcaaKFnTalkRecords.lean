import Derived.Test.YtghpfcefecedcaaLawB
/- FnTalkRecords: its contract. -/
namespace Go.Cap
open Go Go.Proofs
set_option maxRecDepth 100000
set_option linter.unusedSimpArgs false
set_option linter.unusedVariables false
attribute [local irreducible] Call Run Spec Le

theorem spec_FnTalkRecords {L : List (List RV)} (h : Okc (.sl [.i .u8]) (.ro none L)) : Spec Try.prog 7 0 [] [.r (.ro none L)] (fun r _ _ _ => r = .bo true) := by
  obtain ⟨code, rfl, hlen⟩ := bytes_of h
  have e : maxLen = 9223372036854775807 := by decide
  rw [e] at hlen
  refine mk7 rfl fun c hP hm => ?_
  unfold pc7
  simp only [hm, go_sem, ↓reduceIte]
  intro _ hcut
  refine call_plain (hP ▸ s_DrawTalkRecords code) rfl ?_
  rintro r ⟨t, n, rfl, ⟨b1, b2⟩, b3, b4⟩
  refine ⟨rfl, ?_⟩
  have bx : ∀ s ∈ t.says, s.text.length ≤ 1048576 := fun s hs => by have := b2 s hs; omega
  simp only [Talk.ro, Talk.av, hm, go_sem, ↓reduceIte]
  refine call_dataP (hP ▸ s_implTalkRecordsP t n (by omega) (by omega) bx) rfl rfl ?_
  simp only [hm, go_sem, ↓reduceIte]
  refine call_dataP (hP ▸ s_specTalkRecordsP t n (by omega) (by omega) bx) rfl rfl ?_
  simp only [hm, go_sem, ↓reduceIte]
  refine call_pure (hP ▸ s_sameRecords (talkRecs t n)) rfl rfl ?_
  have hgood : talkRecs t n ≠ [] → talkRecs t n = recsOf (talkPk t) n ∧ captB (recsOf (talkPk t) n) = true := fun h => by
    unfold talkRecs at h ⊢
    split
    · rename_i hc; exact ⟨rfl, hc.2⟩
    · rename_i hc; rw [if_neg hc] at h; exact absurd rfl h
  have hsm := talkPk_small (t := t)
  have hcp := s_implTalkPackets t (by omega) bx
  unfold Talk.ro Talk.av at hcp
  generalize talkPk t = l at hgood hsm hcp
  generalize talkRecs t n = rs at hgood
  simp only [hm, go_sem, ↓reduceIte]
  intro _
  refine ⟨fun _ => ?_, fun hne => ?_⟩
  · refine call_pure (hP ▸ s_sameRecords rs) rfl rfl ?_
    simp only [hm, go_sem, ↓reduceIte]
  · obtain ⟨hrs, hcap⟩ := hgood (fun e => hne (by rw [e]; rfl))
    rw [← hrs] at hcap
    refine call_dataP (hP ▸ hcp) rfl rfl ?_
    simp only [hm, go_sem, ↓reduceIte]
    have hrl : rs.length = l.length := by rw [hrs]; simp [recsOf]
    have hrow : ∀ i (h : i < l.length), (rs.map Rec.row).getD i [] = [.n .i64 (n + (i : Int)), .s (packPut l[i])] := fun i h => by
      have he : rs[i]? = some ⟨n + (i : Int), packPut l[i]⟩ := by
        rw [hrs]
        unfold recsOf
        rw [List.getElem?_map, List.getElem?_range h]
        simp [List.getD_eq_getElem?_getD, h]
      rw [List.getD_eq_getElem?_getD, List.getElem?_map, he]; rfl
    refine lp_wpc (α := Nat) (fun i => ⟨[(4, .i n), (5, .r (.ro none (rs.map Rec.row))), (7, .r (.ro none (l.map Packet.row))), (8, .i i)], [], 0, []⟩) (fun i => i ≤ l.length) (fun i => l.length - i) 0 (Nat.zero_le _) (by (refine le_ev [] ?_; simp only [hm, go_sem, ↓reduceIte]; first | done | rfl | exact ⟨rfl, rfl⟩)) ?_
    intro i hi
    unfold pc7l0
    rcases Nat.lt_or_ge i l.length with hil | hil
    · have hw : IntKind.i64.wrap ((i : Int) + 1) = ((i + 1 : Nat) : Int) := by rw [wrap64 (by omega) (by omega)]; omega
      have hw2 : IntKind.i64.wrap (n + (i : Int)) = n + (i : Int) := wrap64 (by omega) (by omega)
      have hg := getD_map (f := Packet.row) hil
      have hgr := hrow i hil
      generalize l[i] = p at hg hgr
      simp only [hw, hw2, hrl, Int.toNat_natCast, hg, hgr, Packet.row, hm, go_sem, ↓reduceIte]
      repeat' first | refine And.intro ?_ ?_ | intro _ | (refine call_pure (hP ▸ s_implPacketPut p) rfl rfl ?_; simp only [hw, hw2, hrl, Int.toNat_natCast, hg, hgr, Packet.row, hm, go_sem, ↓reduceIte])
      all_goals first
        | omega
        | rfl
        | (refine ⟨i + 1, hil, by omega, ?_⟩; (refine le_ev [] ?_; simp only [hm, go_sem, ↓reduceIte]; first | done | rfl | exact ⟨rfl, rfl⟩))
    · have : i = l.length := by omega
      subst this
      simp only [hrl, hm, go_sem, ↓reduceIte]
      repeat' first | refine And.intro ?_ ?_ | intro _ | (refine call_pure (hP ▸ s_implCaptureValid rs) rfl rfl ?_; simp only [hcap, hm, go_sem, ↓reduceIte])
      all_goals first
        | omega
        | rfl
        | (exfalso; omega)
end Go.Cap

import Derived.Test.YtghpfcefecedcaaLawB
/- FnTalkTags: its contract. -/
namespace Go.Cap
open Go Go.Proofs
set_option maxRecDepth 100000
set_option linter.unusedSimpArgs false
set_option linter.unusedVariables false
attribute [local irreducible] Call Run Spec Le

theorem spec_FnTalkTags {L : List (List RV)} (h : Okc (.sl [.i .u8]) (.ro none L)) : Spec Try.prog 5 0 [] [.r (.ro none L)] (fun r _ _ _ => r = .bo true) := by
  obtain ⟨code, rfl, hlen⟩ := bytes_of h
  have e : maxLen = 9223372036854775807 := by decide
  rw [e] at hlen
  refine mk5 rfl fun c hP hm => ?_
  unfold pc5
  simp only [hm, go_sem, ↓reduceIte]
  intro _ hcut
  refine call_plain (hP ▸ s_DrawTalkPackets code) rfl ?_
  rintro r ⟨t, rfl, b1, b2⟩
  refine ⟨rfl, ?_⟩
  have bx : ∀ s ∈ t.says, s.text.length ≤ 1048576 := fun s hs => by have := b2 s hs; omega
  simp only [Talk.ro, Talk.av, hm, go_sem, ↓reduceIte]
  refine call_dataP (hP ▸ s_implTalkPackets t (by omega) bx) rfl rfl ?_
  simp only [hm, go_sem, ↓reduceIte]
  refine call_dataP (hP ▸ s_specTalkPackets t (by omega) bx) rfl rfl ?_
  simp only [hm, go_sem, ↓reduceIte]
  refine call_pure (hP ▸ s_samePackets (talkPk t)) rfl rfl ?_
  simp only [hm, go_sem, ↓reduceIte]
  have hpr : ∀ i (hi : i < (talkPk t).length), packB (talkPk t)[i] = true ∧ ((talkPk t)[i]).chunks.length = 1 ∧ ((talkPk t)[i]).tag = if i = 0 then 0 else if ((talkPk t)[i]).fr = t.fr then t.b.tag else t.a.tag := fun i hi => by
    by_cases hv : talkB t = true
    · exact talkPk_props hv hi
    · have he : talkPk t = [] := by unfold talkPk; rw [if_neg hv]
      rw [he] at hi; simp at hi
  generalize talkPk t = l at hpr
  refine lp_wpc (α := Nat) (fun i => ⟨[(3, .ptr 0 0 0), (4, .r (.ro none (l.map Packet.row))), (6, .i i)], [(0, .var [.i t.fr, .i t.to, .i t.a.tag, .i t.a.window, .i t.a.streams, .i t.a.tsn, .i t.b.tag, .i t.b.window, .i t.b.streams, .i t.b.tsn, .i t.size, .r (.ro none (t.says.map Say.row))])], 1, []⟩)
    (fun i => i ≤ l.length) (fun i => l.length - i) 0 (Nat.zero_le _) (by (refine le_ev [] ?_; simp only [hm, go_sem, ↓reduceIte]; first | done | rfl | exact ⟨rfl, rfl⟩)) ?_
  intro i hi
  unfold pc5l0
  rcases Nat.lt_or_ge i l.length with hil | hil
  · have hg := getD_map (f := Packet.row) hil
    obtain ⟨h1, h2, h3⟩ := hpr i hil
    generalize l[i] = p at hg h1 h2 h3
    have hwle : l.length ≤ 9223372036854775807 → IntKind.i64.wrap ((i : Int) + 1) = ((i + 1 : Nat) : Int) := fun hle => by rw [wrap64 (by omega) (by omega)]; omega
    have hc1 : (p.chunks.map Chunk.row).length = 1 := by rw [List.length_map, h2]
    simp only [Int.toNat_natCast, hg, Packet.row, hm, go_sem, ↓reduceIte]
    intro hle
    have hw := hwle hle
    repeat' first | refine And.intro ?_ ?_ | intro _ | (refine call_pure (hP ▸ s_implPacketValid p) rfl rfl ?_; simp only [h1, h2, hw, Int.toNat_natCast, hg, Packet.row, hm, go_sem, ↓reduceIte])
    all_goals first
      | omega
      | rfl
      | (refine ⟨i + 1, hil, by omega, ?_⟩; (refine le_ev [] ?_; simp only [hm, go_sem, ↓reduceIte]; first | done | rfl | exact ⟨rfl, rfl⟩))
      | (exfalso; simp only [*, if_true, if_false] at h3; omega)
  · have : i = l.length := by omega
    subst this
    simp only [hm, go_sem, ↓reduceIte]
    repeat' first | refine And.intro ?_ ?_ | intro _
    all_goals first
      | omega
      | rfl
end Go.Cap

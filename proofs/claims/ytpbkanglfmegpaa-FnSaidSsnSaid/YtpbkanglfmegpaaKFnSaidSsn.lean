import Derived.Test.YtpbkanglfmegpaaLawC
/- FnSaidSsn: its contract. -/
namespace Go.Cap
open Go Go.Proofs
set_option maxRecDepth 100000
set_option linter.unusedSimpArgs false
set_option linter.unusedVariables false
attribute [local irreducible] Call Run Spec Le

theorem spec_FnSaidSsn {L : List (List RV)} (h : Okc (.sl [.i .u8]) (.ro none L)) : Spec Try.prog 10 0 [] [.r (.ro none L)] (fun r _ _ _ => r = .bo true) := by
  obtain ⟨code, rfl, hlen⟩ := bytes_of h
  have e : maxLen = 9223372036854775807 := by decide
  rw [e] at hlen
  refine mk10 rfl fun c hP hm => ?_
  unfold pc10
  simp only [hm, go_sem, ↓reduceIte]
  intro _ hcut
  refine call_plain (hP ▸ s_DrawSideSaid code) rfl ?_
  rintro r ⟨s, rfl, hw1, hw2⟩
  refine ⟨rfl, ?_⟩
  have hx : ∀ d ∈ s.sent, d.text.length ≤ 9223372036854775807 := fun d hd => by have := hw2 d hd; omega
  have i1 := s_implSideSaidP s (by omega) hx
  have i2 := s_specSideSaidP s (by omega) hx
  have i3 := s_specSideValid s (by omega) hx
  have i4 := s_implSideValid s (by omega) hx
  have i5 := s_implSideSaidP s (by omega) hx
  unfold Side.ro Side.av at i1 i2 i3 i4 i5 ⊢
  simp only [hm, go_sem, ↓reduceIte]
  refine call_dataP (hP ▸ i1) rfl rfl ?_
  simp only [hm, go_sem, ↓reduceIte]
  refine call_dataP (hP ▸ i2) rfl rfl ?_
  simp only [hm, go_sem, ↓reduceIte]
  refine call_pure (hP ▸ s_sameMessages _) rfl rfl ?_
  simp only [hm, go_sem, ↓reduceIte]
  have hall : ∀ s : Side, (∀ k (j : Nat) (hj : j < (ofStr k (sideSaid s)).length), ((ofStr k (sideSaid s))[j]).ssn = (j : Int)) ∧ (sideSaid s).length ≤ 12 := fun s => by
    cases hb : sideB s
    · have : sideSaid s = [] := if_neg (by rw [hb]; exact Bool.false_ne_true)
      rw [this]
      exact ⟨fun k j hj => absurd hj (by simp [ofStr]), by simp⟩
    · have hs : sideSaid s = said s.sent := if_pos hb
      obtain ⟨k1, k2, k3⟩ := side_ok hb
      obtain ⟨o, _, _, _, h4⟩ := said_ssn k3 s.sent.length (Nat.le_refl _)
      rw [List.take_length] at h4
      rw [hs]
      have k6 := said_lasts s.sent
      have k7 : lasts s.sent ≤ s.sent.length := List.countP_le_length
      exact ⟨h4, by omega⟩
  obtain ⟨hss, hsl⟩ := hall s
  generalize sideSaid s = ms at hss hsl
  have hol := fun k => ofStr_len k ms
  refine run_exit 0 (fun t0 => t0 = ⟨[], [], 0, []⟩) ?_ ?_
  rotate_left
  · rintro t0 rfl
    simp only [hm, go_sem, ↓reduceIte]
  refine lp_wpc (α := Nat) (fun k => ⟨[(4, .r (.ro none (ms.map Msg.row))), (6, .i k)], [], 0, []⟩) (fun k => k ≤ 4) (fun k => 4 - k) 0 (Nat.zero_le _) (by (refine le_ev [] ?_; simp only [hm, go_sem, ↓reduceIte]; first | done | rfl | exact ⟨rfl, rfl⟩)) ?_
  intro k hk
  unfold pc10l1
  rcases Nat.lt_or_ge k 4 with hk4 | hk4
  · have hwk : IntKind.i64.wrap ((k : Int) + 1) = ((k + 1 : Nat) : Int) := by rw [wrap64 (by omega) (by omega)]; omega
    simp only [hm, go_sem, ↓reduceIte]
    refine ⟨fun _ => ?_, fun h => by exfalso; omega⟩
    refine call_dataP (hP ▸ s_ofStreamP ms k (by omega)) rfl rfl ?_
    have hok := hss k
    have holk := hol k
    generalize ofStr k ms = x at hok holk
    simp only [hm, go_sem, ↓reduceIte]
    refine run_exit 2 (fun t0 => t0 = ⟨[(4, .r (.ro none (ms.map Msg.row))), (6, .i k)], [], 0, []⟩) ?_ ?_
    rotate_left
    · rintro t0 rfl
      simp only [hwk, hm, go_sem, ↓reduceIte]
      exact ⟨k + 1, hk4, by omega, by (refine le_ev [] ?_; simp only [hm, go_sem, ↓reduceIte]; first | done | rfl | exact ⟨rfl, rfl⟩)⟩
    refine lp_wpc (α := Nat) (fun i => ⟨[(4, .r (.ro none (ms.map Msg.row))), (6, .i k), (7, .r (.ro none (x.map Msg.row))), (8, .i i)], [], 0, []⟩) (fun i => i ≤ x.length) (fun i => x.length - i) 0 (Nat.zero_le _) (by (refine le_ev [] ?_; simp only [hm, go_sem, ↓reduceIte]; first | done | rfl | exact ⟨rfl, rfl⟩)) ?_
    intro i hi
    unfold pc10l0
    rcases Nat.lt_or_ge i x.length with hil | hil
    · have hw1 : IntKind.i64.wrap ((i : Int) + 1) = ((i + 1 : Nat) : Int) := by rw [wrap64 (by omega) (by omega)]; omega
      have hsn := hok i hil
      have hg := getD_map (f := Msg.row) hil
      generalize x[i] = y at hg hsn
      simp only [hw1, Int.toNat_natCast, hg, Msg.row, hm, go_sem, ↓reduceIte]
      repeat' first | refine And.intro ?_ ?_ | intro _
      all_goals first
        | omega
        | (refine ⟨i + 1, hil, by omega, ?_⟩; (refine le_ev [] ?_; simp only [hm, go_sem, ↓reduceIte]; first | done | rfl | exact ⟨rfl, rfl⟩))
        | (exfalso; simp_all; done)
    · have : i = x.length := by omega
      subst this
      simp only [hm, go_sem, ↓reduceIte]
      repeat' first | refine And.intro ?_ ?_ | intro _
      all_goals first
        | omega
        | (refine ⟨_, rfl, ?_⟩; (refine le_ev [] ?_; simp only [hm, go_sem, ↓reduceIte]; first | done | rfl | exact ⟨rfl, rfl⟩))
  · have : k = 4 := by omega
    subst this
    simp only [hm, go_sem, ↓reduceIte]
    try exact ⟨_, rfl, by (refine le_ev [] ?_; simp only [hm, go_sem, ↓reduceIte]; first | done | rfl | exact ⟨rfl, rfl⟩)⟩
end Go.Cap

import Derived.Test.YtpbkanglfmegpaaLawC
/- FnMonitorFindAll: its contract. -/
namespace Go.Cap
open Go Go.Proofs
set_option maxRecDepth 100000
set_option linter.unusedSimpArgs false
set_option linter.unusedVariables false
attribute [local irreducible] Call Run Spec Le

theorem spec_FnMonitorFindAll {L : List (List RV)} (h : Okc (.sl [.i .u8]) (.ro none L)) : Spec Try.prog 12 0 [] [.r (.ro none L)] (fun r _ _ _ => r = .bo true) := by
  obtain ⟨code, rfl, hlen⟩ := bytes_of h
  have e : maxLen = 9223372036854775807 := by decide
  rw [e] at hlen
  refine mk12 rfl fun c hP hm => ?_
  unfold pc12
  simp only [hm, go_sem, ↓reduceIte]
  intro _ hcut
  refine call_plain (hP ▸ s_DrawMonitorValid code) rfl ?_
  rintro r ⟨m, rfl, hw⟩
  refine ⟨rfl, ?_⟩
  have i1 := s_implMonitorValid m hw.fit
  have i2 := s_specMonitorValid m hw.fit
  have i3 := fun f t => s_implMonitorFind m f t hw.fit
  have hml := hw.1
  unfold Mon.ro at i1 i2 i3 ⊢
  simp only [hm, go_sem, ↓reduceIte]
  refine call_pure (hP ▸ i1) rfl rfl ?_
  simp only [hm, go_sem, ↓reduceIte]
  refine call_pure (hP ▸ i2) rfl rfl ?_
  cases hb : monB m
  · simp only [hm, go_sem, ↓reduceIte]
  · have hm3 := (monB_ok hb).1
    simp only [hm, go_sem, ↓reduceIte]
    refine run_exit 0 (fun t0 => t0 = ⟨[(3, .ptr 0 0 0)], [(0, .var [.i m.records, .r (.ro none (m.list.map Assoc.row)), .r (.ro none (m.found.map Fnd.row))])], 1, []⟩) ?_ ?_
    rotate_left
    · rintro t0 rfl
      simp only [hm, go_sem, ↓reduceIte]
      repeat' first | refine And.intro ?_ ?_ | intro _
      all_goals first
        | omega
        | rfl
        | (rw [decide_eq_true (by omega)])
    refine lp_wpc (α := Nat) (fun i => ⟨[(3, .ptr 0 0 0), (6, .i i)], [(0, .var [.i m.records, .r (.ro none (m.list.map Assoc.row)), .r (.ro none (m.found.map Fnd.row))])], 1, []⟩) (fun i => i ≤ m.list.length) (fun i => m.list.length - i) 0 (Nat.zero_le _) (by (refine le_ev [] ?_; simp only [hm, go_sem, ↓reduceIte]; first | done | rfl | exact ⟨rfl, rfl⟩)) ?_
    intro i hi
    unfold pc12l0
    rcases Nat.lt_or_ge i m.list.length with hil | hil
    · have hw1 : IntKind.i64.wrap ((i : Int) + 1) = ((i + 1 : Nat) : Int) := by rw [wrap64 (by omega) (by omega)]; omega
      have hfe := find_each hb hil
      have hg := arowAt hil
      have ic := i3 (assocAt m.list i).fr (assocAt m.list i).to
      rw [hfe] at ic
      generalize assocAt m.list i = a at hg ic
      simp only [hw1, Int.toNat_natCast, hg, Assoc.row, Assoc.cellsX, hm, go_sem, ↓reduceIte]
      repeat' first
        | refine And.intro ?_ ?_
        | intro _
        | (refine call_pure (hP ▸ ic) rfl rfl ?_; simp only [hw1, Int.toNat_natCast, hg, Assoc.row, Assoc.cellsX, hm, go_sem, ↓reduceIte])
      all_goals first
        | omega
        | rfl
        | (refine ⟨i + 1, hil, by omega, ?_⟩; (refine le_ev [] ?_; simp only [hm, go_sem, ↓reduceIte]; first | done | rfl | exact ⟨rfl, rfl⟩))
        | (exfalso; omega)
    · have : i = m.list.length := by omega
      subst this
      simp only [hm, go_sem, ↓reduceIte]
      repeat' first | refine And.intro ?_ ?_ | intro _
      all_goals first
        | omega
        | (refine ⟨_, rfl, ?_⟩; (refine le_ev [] ?_; simp only [hm, go_sem, ↓reduceIte]; first | done | rfl | exact ⟨rfl, rfl⟩))
end Go.Cap

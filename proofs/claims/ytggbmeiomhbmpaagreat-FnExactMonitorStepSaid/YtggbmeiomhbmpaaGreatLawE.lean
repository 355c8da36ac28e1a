/- Contracts of functions, text E. -/
import Derived.Test.YtggbmeiomhbmpaaGreatEngC
import Derived.Test.YtggbmeiomhbmpaaGreatLawD
import Derived.Test.YtggbmeiomhbmpaaGreatPc
open Go Go.Proofs
set_option maxRecDepth 100000
set_option linter.unusedSimpArgs false
set_option linter.unusedVariables false
namespace Go.Cap
attribute [local irreducible] Call Run Spec Le
theorem s_l32Finding (f : Fnd) (n : Int) : Spec Tryz.prog 58 0 [] [f.av, .i n] (fun r _ _ _ => r = .bo (fndB (IntKind.i64.wrap (n - 1) + 1) f)) := by
  refine mk58 rfl fun c hP hm => ?_
  unfold pc58 Fnd.av
  simp only [hm,go_sem,↓reduceIte]
  repeat' first | refine And.intro ?_ ?_ | intro _ | (refine c_l6In hP ?_; simp only [hm,go_sem,↓reduceIte])
  all_goals (apply bo_inj; simp [fndB, *])
theorem s_l32Less (a b : Fnd) : Spec Tryz.prog 59 0 [] [a.av, b.av] (fun r _ _ _ => r = .bo (lessB a b)) := by
  refine mk59 rfl fun c hP hm => ?_
  unfold pc59 Fnd.av
  simp only [hm,go_sem,↓reduceIte]
  repeat' first | refine And.intro ?_ ?_ | intro _
  all_goals (apply bo_inj; unfold lessB; first | (rw [decide_eq_true (by omega)]; done) | (rw [decide_eq_false (by omega)]; done) | (rw [Bool.eq_iff_iff]; simp [*] <;> omega) | (simp [*]; done))
theorem s_specMonitorValid (m : Mon) (hf : MFit m) : Spec Tryz.prog 33 0 [] [m.ro] (fun r _ _ _ => r = .bo (monB m)) := by
  refine mr33 rfl fun c hP hm => ?_
  unfold pc33 Mon.ro
  have hnl := hf.nl
  have hnf := hf.nf
  refine run_seq (run_wpc _ _ _ _ _ ?_)
  simp only [hm,go_sem,↓reduceIte]
  refine run_seq (run_wpc _ _ _ _ _ ?_)
  simp only [hm,go_sem,↓reduceIte]
  refine run_exit 0 (fun t0 => t0 = ⟨[(1, .ptr 0 0 0)], [(0, .var [.i m.records, .r (.ro none (m.list.map Assoc.row)), .r (.ro none (m.found.map Fnd.row))])], 1, []⟩ ∧ listB m.list = true) ?_ ?_
  · refine lp_wpc (α := Nat) (fun i => ⟨[(1, .ptr 0 0 0), (3, .i i)], [(0, .var [.i m.records, .r (.ro none (m.list.map Assoc.row)), .r (.ro none (m.found.map Fnd.row))])], 1, []⟩)
      (fun i => i ≤ m.list.length ∧ ∀ j, j < i → listOne m.list j = true) (fun i => m.list.length - i) 0 ⟨Nat.zero_le _, fun j hj => by omega⟩ (by (refine le_ev [] ?_; simp only [hm,go_sem,↓reduceIte]; first | done | rfl | exact ⟨rfl, rfl⟩)) ?_
    rintro i ⟨hi, hI⟩
    unfold pc33l1
    rcases Nat.lt_or_ge i m.list.length with hil | hil
    · have hw : IntKind.i64.wrap ((i : Int) + 1) = ((i + 1 : Nat) : Int) := by rw [wrap64 (by omega) (by omega)]; omega
      have hg := arowAt hil
      have hok : listOne m.list i = false → AV.r (RV.b false) = AV.bo (monB m) := fun h => by unfold monB listB; rw [allB_false hil h]; simp
      have hst : listOne m.list i = true → i + 1 ≤ m.list.length ∧ ∀ j, j < i + 1 → listOne m.list j = true := fun h => ⟨hil, lt_succ_all hI h⟩
      obtain ⟨fa, fb⟩ := hf.a _ (List.getElem_mem hil)
      rw [← assocAt_eq hil] at fa fb
      simp only [Int.toNat_natCast, hg, Assoc.row, Assoc.cellsX, hm,go_sem,↓reduceIte]
      repeat' first | refine And.intro ?_ ?_ | intro _
      all_goals first
        | omega
        | rfl
        | skip
      refine call_pure (hP ▸ s_specAssocValid (assocAt m.list i) fa fb) rfl rfl ?_
      simp only [Int.toNat_natCast, hg, Assoc.row, Assoc.cellsX, hm,go_sem,↓reduceIte]
      repeat' first | refine And.intro ?_ ?_ | intro _
      all_goals first
        | omega
        | rfl
        | (refine hok ?_; simp [listOne, *]; done)
        | skip
      rename_i hav hs0
      refine lp_wpc (α := Nat) (fun k => ⟨[(1, .ptr 0 0 0), (3, .i i), (4, .i k)], [(0, .var [.i m.records, .r (.ro none (m.list.map Assoc.row)), .r (.ro none (m.found.map Fnd.row))])], 1, []⟩)
        (fun k => k ≤ i ∧ ∀ j, j < k → pairB (assocAt m.list j) (assocAt m.list i).fr (assocAt m.list i).to = false) (fun k => i - k) 0 ⟨Nat.zero_le _, fun j hj => by omega⟩ (by (refine le_ev [] ?_; simp only [hm,go_sem,↓reduceIte]; first | done | rfl | exact ⟨rfl, rfl⟩)) ?_
      rintro k ⟨hk, hK⟩
      unfold pc33l0
      rcases Nat.lt_or_ge k i with hki | hki
      · have hwk : IntKind.i64.wrap ((k : Int) + 1) = ((k + 1 : Nat) : Int) := by rw [wrap64 (by omega) (by omega)]; omega
        have hgk := arowAt (l := m.list) (show k < m.list.length by omega)
        simp only [Int.toNat_natCast, hg, hgk, Assoc.row, Assoc.cellsX, hm,go_sem,↓reduceIte]
        repeat' first | refine And.intro ?_ ?_ | intro _
        all_goals first
          | omega
          | rfl
          | skip
        refine call_pure (hP ▸ s_l32Pair (assocAt m.list k) (assocAt m.list i) _ _ _ _) rfl rfl ?_
        simp only [Int.toNat_natCast, hg, hgk, Assoc.row, Assoc.cellsX, hwk, hm,go_sem,↓reduceIte]
        repeat' first | refine And.intro ?_ ?_ | intro _
        all_goals first
          | omega
          | rfl
          | (rename_i hpp; refine hok ?_; have := allB_false (p := fun k => !pairB (assocAt m.list k) (assocAt m.list i).fr (assocAt m.list i).to) hki (by simp [hpp]); simp [listOne, this]; done)
          | (rename_i hpp; refine ⟨k + 1, ⟨hki, lt_succ' hK hpp⟩, by omega, ?_⟩; (refine le_ev [] ?_; simp only [hm,go_sem,↓reduceIte]; first | done | rfl | exact ⟨rfl, rfl⟩))
      · have : k = i := by omega
        subst this
        have hall : allB k (fun j => !pairB (assocAt m.list j) (assocAt m.list k).fr (assocAt m.list k).to) = true := allB_true fun j hj => by rw [hK j hj]; rfl
        simp only [hw, hm,go_sem,↓reduceIte]
        repeat' first | refine And.intro ?_ ?_ | intro _
        all_goals first
          | omega
          | (refine ⟨k + 1, hst ?_, by omega, ?_⟩
             · simp [listOne, *]
             · (refine le_ev [] ?_; simp only [hm,go_sem,↓reduceIte]; first | done | rfl | exact ⟨rfl, rfl⟩))
    · have : i = m.list.length := by omega
      subst this
      have hfin : listB m.list = true := allB_true hI
      simp only [hm,go_sem,↓reduceIte]
      repeat' first | refine And.intro ?_ ?_ | intro _
      all_goals first
        | omega
        | (refine ⟨_, ⟨rfl, hfin⟩, ?_⟩; (refine le_ev [] ?_; simp only [hm,go_sem,↓reduceIte]; first | done | rfl | exact ⟨rfl, rfl⟩))
  rintro t0 ⟨rfl, hL⟩
  refine run_seq (run_wpc _ _ _ _ _ ?_)
  simp only [hm,go_sem,↓reduceIte]
  have hbad : foundB (IntKind.i64.wrap (m.records - 1) + 1) m.found = false → monB m = false := fun h => by
    unfold monB
    by_cases hr : inB m.records 0 60 = true
    · have : IntKind.i64.wrap (m.records - 1) + 1 = m.records := by
        simp only [inB, decide_eq_true_eq] at hr
        rw [wrap64 (by omega) (by omega)]; omega
      rw [this] at h
      rw [h]; simp
    · simp [hr]
  have hgood : foundB (IntKind.i64.wrap (m.records - 1) + 1) m.found = true → inB m.records 0 60 = true → foundB m.records m.found = true := fun h hr => by
    have : IntKind.i64.wrap (m.records - 1) + 1 = m.records := by
      simp only [inB, decide_eq_true_eq] at hr
      rw [wrap64 (by omega) (by omega)]; omega
    rw [this] at h; exact h
  generalize hB : IntKind.i64.wrap (m.records - 1) + 1 = B at hbad hgood
  refine run_exit 4 (fun t0 => t0 = ⟨[(1, .ptr 0 0 0)], [(0, .var [.i m.records, .r (.ro none (m.list.map Assoc.row)), .r (.ro none (m.found.map Fnd.row))])], 1, []⟩ ∧ foundB B m.found = true) ?_ ?_
  · refine lp_wpc (α := Nat) (fun i => ⟨[(1, .ptr 0 0 0), (5, .i i)], [(0, .var [.i m.records, .r (.ro none (m.list.map Assoc.row)), .r (.ro none (m.found.map Fnd.row))])], 1, []⟩)
      (fun i => i ≤ m.found.length ∧ ∀ j, j < i → foundOne B m.found j = true) (fun i => m.found.length - i) 0 ⟨Nat.zero_le _, fun j hj => by omega⟩ (by (refine le_ev [] ?_; simp only [hm,go_sem,↓reduceIte]; first | done | rfl | exact ⟨rfl, rfl⟩)) ?_
    rintro i ⟨hi, hI⟩
    unfold pc33l2
    rcases Nat.lt_or_ge i m.found.length with hil | hil
    · have hw : IntKind.i64.wrap ((i : Int) + 1) = ((i + 1 : Nat) : Int) := by rw [wrap64 (by omega) (by omega)]; omega
      have hg := rowAt hil
      have hok : foundOne B m.found i = false → AV.r (RV.b false) = AV.bo (monB m) := fun h => by rw [hbad (allB_false hil h)]
      have hst : foundOne B m.found i = true → i + 1 ≤ m.found.length ∧ ∀ j, j < i + 1 → foundOne B m.found j = true := fun h => ⟨hil, lt_succ_all hI h⟩
      have hg1 : 0 < i → (m.found.map Fnd.row).getD (i - 1) [] = (fndAt m.found (i - 1)).row := fun _ => rowAt (by omega)
      have hw1 : 0 < i → IntKind.i64.wrap ((i : Int) - 1) = ((i - 1 : Nat) : Int) := fun _ => by rw [wrap64 (by omega) (by omega)]; omega
      have hdef : foundOne B m.found i = (fndB B (fndAt m.found i) && (decide (i = 0) || lessB (fndAt m.found (i - 1)) (fndAt m.found i))) := rfl
      have hcf := s_l32Finding (fndAt m.found i) m.records
      have hcl := s_l32Less (fndAt m.found (i - 1)) (fndAt m.found i)
      rw [hB] at hcf
      unfold Fnd.av at hcf hcl
      rcases Nat.eq_zero_or_pos i with h0 | h0
      · subst h0
        have hz : IntKind.i64.wrap ((0 : Int) + 1) = ((0 + 1 : Nat) : Int) := by decide
        simp only [Int.natCast_zero, Int.toNat_zero, hz, hg, Fnd.row, hm,go_sem,↓reduceIte]
        repeat' first | refine And.intro ?_ ?_ | intro _ | (refine call_pure (hP ▸ hcf) rfl rfl ?_; simp only [Int.natCast_zero, Int.toNat_zero, hz, hg, Fnd.row, hm,go_sem,↓reduceIte])
        all_goals first
          | omega
          | rfl
          | (refine hok ?_; rw [hdef]; simp [*]; done)
          | (refine ⟨0 + 1, hst ?_, by omega, by (refine le_ev [] ?_; simp only [hm,go_sem,↓reduceIte]; first | done | rfl | exact ⟨rfl, rfl⟩)⟩; rw [hdef]; simp [*])
      · have hne : ¬ i = 0 := by omega
        simp only [hne, decide_false, Bool.false_or] at hdef
        simp only [hw, hw1 h0, Int.toNat_natCast, hg, hg1 h0, Fnd.row, hm,go_sem,↓reduceIte]
        repeat' first | refine And.intro ?_ ?_ | intro _ | (refine call_pure (hP ▸ hcf) rfl rfl ?_; simp only [hw, hw1 h0, Int.toNat_natCast, hg, hg1 h0, Fnd.row, hm,go_sem,↓reduceIte]) | (refine call_pure (hP ▸ hcl) rfl rfl ?_; simp only [hw, hw1 h0, Int.toNat_natCast, hg, hg1 h0, Fnd.row, hm,go_sem,↓reduceIte])
        all_goals first
          | omega
          | rfl
          | (refine hok ?_; rw [hdef]; simp [*]; done)
          | (refine ⟨i + 1, hst ?_, by omega, by (refine le_ev [] ?_; simp only [hm,go_sem,↓reduceIte]; first | done | rfl | exact ⟨rfl, rfl⟩)⟩; rw [hdef]; simp [*])
    · have : i = m.found.length := by omega
      subst this
      have hfin : foundB B m.found = true := allB_true hI
      simp only [hm,go_sem,↓reduceIte]
      repeat' first | refine And.intro ?_ ?_ | intro _
      all_goals first
        | omega
        | (refine ⟨_, ⟨rfl, hfin⟩, ?_⟩; (refine le_ev [] ?_; simp only [hm,go_sem,↓reduceIte]; first | done | rfl | exact ⟨rfl, rfl⟩))
  rintro t0 ⟨rfl, hF⟩
  refine run_wpc _ _ _ _ _ ?_
  simp only [hm,go_sem,↓reduceIte]
  refine c_l6In hP ?_
  simp only [hm,go_sem,↓reduceIte]
  repeat' first | refine And.intro ?_ ?_ | intro _
  all_goals (apply bo_inj; unfold monB; first | (rw [hL, hgood hF (by assumption)]; simp [*]; done) | (simp [*]; done) | (rw [hL, hgood hF (by assumption), Bool.eq_iff_iff]; simp [*]; omega))
def szDatas (l : List Data) (left : Int) : Int := if left - l.length < 0 then -1 else szTexts (l.map fun s => (s.text.length : Int)) (left - l.length)
theorem s_szData (s : Data) (left : Int) (h : 0 ≤ left ∧ left ≤ 1048576) (ht : (s.text.length : Int) ≤ 9223372036854775807) : Spec Tryz.prog 120 0 [] [s.av, .i left] (fun r _ _ _ => r = .i (szText s.text.length left)) := by
  refine mk120 rfl fun c hP hm => ?_
  unfold pc120 Data.av
  simp only [go_sem, ↓reduceIte]
  rw [wrap64 (by omega) (by omega)]
  unfold szText
  refine ⟨fun h => ?_, fun h => ?_⟩
  · rw [if_pos h]
  · rw [if_neg (by omega)]
theorem s_szDataS (l : List Data) (left : Int) (h : 0 ≤ left ∧ left ≤ 1048576) (hl : (l.length : Int) ≤ 9223372036854775807) (ht : ∀ s ∈ l, (s.text.length : Int) ≤ 9223372036854775807) :
    Spec Tryz.prog 101 0 [] [.r (.ro none (l.map Data.row)), .i left] (fun r _ _ _ => r = .i (szDatas l left)) := by
  refine mk101 rfl fun c hP hm => ?_
  unfold pc101
  simp only [go_sem, ↓reduceIte]
  intro _
  rw [wrap64 (by omega) (by omega)]
  unfold szDatas
  refine ⟨fun h => ?_, fun h => ?_⟩
  · rw [if_pos h]
  · rw [if_neg (by omega)]
    refine lp_wpc (α := Nat × Int) (fun y => ⟨[(0, .r (.ro none (l.map Data.row))), (1, .i y.2), (5, .i y.1)], [], 0, []⟩)
      (fun y => y.1 ≤ l.length ∧ 0 ≤ y.2 ∧ y.2 ≤ 1048576 ∧ szTexts ((l.map fun s => (s.text.length : Int)).drop y.1) y.2 = szTexts (l.map fun s => (s.text.length : Int)) (left - l.length)) (fun y => l.length - y.1) (0, left - l.length)
      ⟨Nat.zero_le _, by omega, by omega, rfl⟩ (Le.refl _) ?_
    rintro ⟨i, x⟩ ⟨hi, hx0, hx1, hx⟩
    unfold pc101l0
    simp only [go_sem, ↓reduceIte]
    intro _
    refine ⟨fun hlt => ?_, fun hge => ?_⟩
    · have hil : i < l.length := by omega
      rw [szTexts_drop (by simpa using hil)] at hx
      simp only [List.getElem_map] at hx
      simp only [Int.toNat_natCast, getD_map hil, Data.row,go_sem,↓reduceIte]
      refine ⟨⟨by omega, by omega⟩, ?_⟩
      refine call_pure (hP ▸ s_szData l[i] x ⟨hx0, hx1⟩ (ht _ (List.getElem_mem hil))) rfl rfl ?_
      simp only [go_sem, ↓reduceIte]
      refine ⟨fun hneg => ?_, fun hpos => ?_⟩
      · rw [if_pos hneg] at hx; rw [← hx]
      · rw [if_neg (by omega)] at hx
        rw [wrap64 (by omega) (by omega)]
        have := szText_le l[i].text.length x (by omega)
        exact ⟨(i + 1, szText l[i].text.length x), ⟨hil, by omega, by omega, hx⟩, by simp only; omega, Le.refl _⟩
    · have : i = l.length := by omega
      subst this
      rw [List.drop_eq_nil_of_le (by simp)] at hx
      rw [← hx]; rfl
theorem s_szSide (t : Side) (left : Int) (h : 0 ≤ left ∧ left ≤ 1048576) (hl : (t.sent.length : Int) ≤ 9223372036854775807) (ht : ∀ s ∈ t.sent, (s.text.length : Int) ≤ 9223372036854775807) :
    Spec Tryz.prog 82 0 [] [t.ro, .i left] (fun r _ _ _ => r = .i (if szDatas t.sent left < 0 then -1 else szDatas t.sent left)) := by
  refine mk82 rfl fun c hP hm => ?_
  unfold pc82 Side.ro Side.av
  simp only [go_sem, ↓reduceIte]
  refine call_pure (hP ▸ s_szDataS t.sent left h hl ht) rfl rfl ?_
  simp only [go_sem, ↓reduceIte]
  refine ⟨fun h => ?_, fun h => ?_⟩
  · rw [if_pos h]
  · rw [if_neg (by omega)]
theorem s_toData (x : Data) : Spec Tryz.prog 123 0 [] [x.av] (fun r _ _ _ => r = x.av) := by
  refine mk123 rfl fun c hP hm => ?_
  unfold pc123 Data.av
  simp only [go_sem, ↓reduceIte]
theorem s_toDataS (l : List Data) (hl : l.length ≤ 1048576) : Spec Tryz.prog 105 0 [] [.r (.ro none (l.map Data.row))] (New1 (.sl 0 0 l.length) 7 (l.map Data.row)) := by
  refine mk105 rfl fun c hP hm => ?_
  unfold pc105
  simp only [go_sem, ↓reduceIte]
  simp only [Int.toNat_natCast]
  intro _
  refine ⟨⟨by omega, by omega⟩, ?_⟩
  refine lp_wpc (α := Nat) (fun i => ⟨[(0, .r (.ro none (l.map Data.row))), (3, .sl 0 0 l.length), (4, .i i)], [(0, .row 7 ((l.map Data.row).take i ++ List.replicate ((l.map Data.row).length - i) [.n .i64 0, .n .i64 0, .n .i64 0, .b false, .b false, .b false, .s []]))], 1, []⟩)
    (fun i => i ≤ l.length) (fun i => l.length - i) 0 (Nat.zero_le _) (le_eq (by simp)) ?_
  intro i hi
  unfold pc105l0
  simp only [go_sem, ↓reduceIte]
  intro _
  refine ⟨fun hlt => ?_, fun hge => ?_⟩
  · have hil : i < l.length := by omega
    simp only [Int.toNat_natCast, getD_map hil, Data.row,go_sem,↓reduceIte]
    refine ⟨⟨by omega, by omega⟩, ?_⟩
    refine call_pure (hP ▸ s_toData l[i]) rfl rfl ?_
    simp only [Data.av, go_sem, ↓reduceIte, Int.toNat_natCast]
    refine ⟨⟨by omega, by omega⟩, ?_, i + 1, hil, by omega, le_eq ?_⟩
    · simp; omega
    · have h1 := fill_set (M := l.map Data.row) (z := [.n .i64 0, .n .i64 0, .n .i64 0, .b false, .b false, .b false, .s []]) (i := i) (by simpa using hil)
      simp only [List.getElem_map, Data.row, List.length_map] at h1
      try simp only [List.length_map]
      rw [wrap64 (by omega) (by omega), ← h1]
      rfl
  · have : i = l.length := by omega
    subst this
    refine ⟨rfl, ?_, rfl, rfl⟩
    simp
    exact List.take_of_length_le (by simp)
theorem s_toSide (t : Side) (hl : t.sent.length ≤ 1048576) : Spec Tryz.prog 85 0 [] [t.ro] (New1 (t.av (.sl 0 0 t.sent.length)) 7 (t.sent.map Data.row)) := by
  refine Spec.new1 (Q := fun r hp _ _ => r = t.av (.sl 3 0 t.sent.length) ∧ hget hp 3 = some (.row 7 (t.sent.map Data.row))) ?_ (fun r hp nx gs h => ⟨3, by rw [h.1]; rfl, h.2⟩) (fun f g h => by simp only [Side.av, go_sem, h])
  refine mk85 rfl fun c hP hm => ?_
  unfold pc85 Side.ro Side.av
  simp only [go_sem, ↓reduceIte]
  refine call_new1 (hP ▸ s_toDataS t.sent hl) rfl (dataClosed _) (vws_self _ _ rfl) ?_
  simp only [go_sem, ↓reduceIte]
abbrev dataRow : List CT := [.i .i64, .i .i64, .i .i64, .b, .b, .b, .s]
theorem data_of (r : List RV) (h : RowOk dataRow r) : ∃ d : Data, r = d.row ∧ d.text.length ≤ maxLen := by
  obtain ⟨x0, r, rfl, h0, h⟩ := rowOk_cons h
  obtain ⟨x1, r, rfl, h1, h⟩ := rowOk_cons h
  obtain ⟨x2, r, rfl, h2, h⟩ := rowOk_cons h
  obtain ⟨x3, r, rfl, h3, h⟩ := rowOk_cons h
  obtain ⟨x4, r, rfl, h4, h⟩ := rowOk_cons h
  obtain ⟨x5, r, rfl, h5, h⟩ := rowOk_cons h
  obtain ⟨x6, r, rfl, h6, h⟩ := rowOk_cons h
  obtain rfl := rowOk_nil h
  obtain ⟨n0, rfl, _⟩ := okc_i h0
  obtain ⟨n1, rfl, _⟩ := okc_i h1
  obtain ⟨n2, rfl, _⟩ := okc_i h2
  obtain ⟨n3, rfl⟩ := okc_b h3
  obtain ⟨n4, rfl⟩ := okc_b h4
  obtain ⟨n5, rfl⟩ := okc_b h5
  obtain ⟨n6, rfl, hl⟩ := okc_s h6
  exact ⟨⟨n0, n1, n2, n3, n4, n5, n6⟩, rfl, hl⟩
theorem s_toDataSP (l : List Data) (hl : l.length ≤ 1048576) : Spec Tryz.prog 105 0 [] [.r (.ro none (l.map Data.row))] (Plain fun r => r = .r (.ro none (l.map Data.row))) := by
  have := s_toDataS l hl
  rw [← List.length_map (f := Data.row)] at this
  exact this.dataP
theorem s_toSideP (t : Side) (hl : t.sent.length ≤ 1048576) : Spec Tryz.prog 85 0 [] [t.ro] (fun r _ _ _ => r = t.ro) := by
  refine mk85 rfl fun c hP hm => ?_
  unfold pc85 Side.ro Side.av
  simp only [hm,go_sem,↓reduceIte]
  refine call_dataP (hP ▸ s_toDataSP t.sent hl) rfl rfl ?_
  simp only [hm,go_sem,↓reduceIte]
theorem s_toAssocP (a : Assoc) (ha : a.a.sent.length ≤ 1048576) (hb : a.b.sent.length ≤ 1048576) : Spec Tryz.prog 61 0 [] [a.ro] (fun r _ _ _ => r = a.ro) := by
  refine mk61 rfl fun c hP hm => ?_
  unfold pc61 Assoc.ro Assoc.av
  simp only [hm,go_sem,↓reduceIte]
  refine call_data (hP ▸ s_toSideP a.a ha) rfl rfl ?_
  simp only [Side.ro, Side.av, hm,go_sem,↓reduceIte]
  refine call_data (hP ▸ s_toSideP a.b hb) rfl rfl ?_
  simp only [Side.ro, Side.av, hm,go_sem,↓reduceIte]
theorem s_toFinding (x : Fnd) : Spec Tryz.prog 62 0 [] [x.av] (fun r _ _ _ => r = x.av) := by
  refine mk62 rfl fun c hP hm => ?_
  unfold pc62 Fnd.av
  simp only [hm,go_sem,↓reduceIte]
theorem s_toAssocS (l : List Assoc) (hl : l.length ≤ 1048576) (hx : ∀ a ∈ l, a.a.sent.length ≤ 1048576 ∧ a.b.sent.length ≤ 1048576) : Spec Tryz.prog 34 0 [] [.r (.ro none (l.map Assoc.row))] (Plain fun r => r = .r (.ro none (l.map Assoc.row))) := by
  refine Spec.data1 (sz := 14) (Q := fun r hp _ _ => r = .sl 0 0 (l.map Assoc.row).length ∧ hget hp 0 = some (.row 14 (l.map Assoc.row))) ?_ (fun r hp nx gs h => ⟨0, h.1, h.2⟩)
  refine mk34 rfl fun c hP hm => ?_
  unfold pc34
  simp only [hm,go_sem,↓reduceIte]
  simp only [Int.toNat_natCast]
  intro _
  refine ⟨⟨by omega, by omega⟩, ?_⟩
  refine lp_wpc (α := Nat) (fun i => ⟨[(0, .r (.ro none (l.map Assoc.row))), (3, .sl 0 0 l.length), (4, .i i)], [(0, .row 14 ((l.map Assoc.row).take i ++ List.replicate ((l.map Assoc.row).length - i) (noAssoc.cellsX .nil .nil)))], 1, []⟩)
    (fun i => i ≤ l.length) (fun i => l.length - i) 0 (Nat.zero_le _) (le_eq (by simp [Assoc.cellsX, noAssoc, noSide])) ?_
  intro i hi
  unfold pc34l0
  simp only [hm,go_sem,↓reduceIte]
  intro _
  refine ⟨fun hlt => ?_, fun hge => ?_⟩
  · have hil : i < l.length := by omega
    obtain ⟨h1, h2⟩ := hx _ (List.getElem_mem hil)
    simp only [Int.toNat_natCast, getD_map hil, Assoc.row, Assoc.cellsX, hm,go_sem,↓reduceIte]
    refine ⟨⟨by omega, by omega⟩, ?_⟩
    refine call_data (hP ▸ s_toAssocP l[i] h1 h2) rfl rfl ?_
    simp only [Assoc.ro, Assoc.av, go_sem, ↓reduceIte, hm, Int.toNat_natCast]
    repeat' first | refine And.intro ?_ ?_ | intro _
    all_goals first
      | omega
      | rfl
      | (simp; omega)
      | (refine ⟨i + 1, hil, by omega, le_eq ?_⟩
         have h1 := fill_set (M := l.map Assoc.row) (z := noAssoc.cellsX .nil .nil) (i := i) (by simpa using hil)
         simp only [List.getElem_map, Assoc.row, Assoc.cellsX, List.length_map] at h1
         try simp only [List.length_map, Assoc.cellsX]
         rw [wrap64 (by omega) (by omega), ← h1]
         rfl)
  · have : i = l.length := by omega
    subst this
    repeat' first | refine And.intro ?_ ?_ | intro _
    all_goals first
      | omega
      | rfl
      | (simp; done)
      | (simp [List.take_of_length_le]; done)
theorem s_toFindingS (l : List Fnd) (hl : l.length ≤ 1048576) : Spec Tryz.prog 35 0 [] [.r (.ro none (l.map Fnd.row))] (Plain fun r => r = .r (.ro none (l.map Fnd.row))) := by
  refine Spec.data1 (sz := 2) (Q := fun r hp _ _ => r = .sl 0 0 (l.map Fnd.row).length ∧ hget hp 0 = some (.row 2 (l.map Fnd.row))) ?_ (fun r hp nx gs h => ⟨0, h.1, h.2⟩)
  refine mk35 rfl fun c hP hm => ?_
  unfold pc35
  simp only [hm,go_sem,↓reduceIte]
  simp only [Int.toNat_natCast]
  intro _
  refine ⟨⟨by omega, by omega⟩, ?_⟩
  refine lp_wpc (α := Nat) (fun i => ⟨[(0, .r (.ro none (l.map Fnd.row))), (3, .sl 0 0 l.length), (4, .i i)], [(0, .row 2 ((l.map Fnd.row).take i ++ List.replicate ((l.map Fnd.row).length - i) [.n .i64 0, .n .i64 0]))], 1, []⟩)
    (fun i => i ≤ l.length) (fun i => l.length - i) 0 (Nat.zero_le _) (le_eq (by simp)) ?_
  intro i hi
  unfold pc35l0
  simp only [hm,go_sem,↓reduceIte]
  intro _
  refine ⟨fun hlt => ?_, fun hge => ?_⟩
  · have hil : i < l.length := by omega
    simp only [Int.toNat_natCast, getD_map hil, Fnd.row, hm,go_sem,↓reduceIte]
    refine ⟨⟨by omega, by omega⟩, ?_⟩
    refine call_data (hP ▸ s_toFinding l[i]) rfl rfl ?_
    simp only [Fnd.av, go_sem, ↓reduceIte, hm, Int.toNat_natCast]
    repeat' first | refine And.intro ?_ ?_ | intro _
    all_goals first
      | omega
      | rfl
      | (simp; omega)
      | (refine ⟨i + 1, hil, by omega, le_eq ?_⟩
         have h1 := fill_set (M := l.map Fnd.row) (z := [.n .i64 0, .n .i64 0]) (i := i) (by simpa using hil)
         simp only [List.getElem_map, Fnd.row, List.length_map] at h1
         try simp only [List.length_map]
         rw [wrap64 (by omega) (by omega), ← h1]
         rfl)
  · have : i = l.length := by omega
    subst this
    repeat' first | refine And.intro ?_ ?_ | intro _
    all_goals first
      | omega
      | rfl
      | (simp; done)
      | (simp [List.take_of_length_le]; done)
theorem s_toMonitorP (m : Mon) (hl : m.list.length ≤ 1048576) (hf : m.found.length ≤ 1048576) (hx : ∀ a ∈ m.list, a.a.sent.length ≤ 1048576 ∧ a.b.sent.length ≤ 1048576) : Spec Tryz.prog 16 0 [] [m.ro] (fun r _ _ _ => r = m.ro) := by
  refine mk16 rfl fun c hP hm => ?_
  unfold pc16 Mon.ro
  simp only [hm,go_sem,↓reduceIte]
  refine call_dataP (hP ▸ s_toAssocS m.list hl hx) rfl rfl ?_
  simp only [hm,go_sem,↓reduceIte]
  refine call_dataP (hP ▸ s_toFindingS m.found hf) rfl rfl ?_
  simp only [hm,go_sem,↓reduceIte]
theorem szTexts_le : ∀ (l : List Int) (left : Int), (∀ n ∈ l, 0 ≤ n) → szTexts l left ≤ left ∨ szTexts l left = -1
  | [], left, _ => .inl (Int.le_refl _)
  | n :: l, left, hn => by
    simp only [szTexts]
    split
    · exact .inr rfl
    · rename_i h
      have h0 := hn n (by simp)
      have h1 := szText_le n left h0
      rcases szTexts_le l (szText n left) (fun m hm => hn m (by simp [hm])) with h2 | h2
      · rcases h1 with h1 | h1
        · exact .inl (by omega)
        · omega
      · exact .inr h2
theorem szDatas_le (l : List Data) (left : Int) : szDatas l left ≤ left ∨ szDatas l left = -1 := by
  unfold szDatas
  split
  · exact .inr rfl
  · have hn : ∀ n ∈ l.map (fun s => (s.text.length : Int)), 0 ≤ n := fun n hm => by
      obtain ⟨s, _, rfl⟩ := List.mem_map.1 hm; omega
    rcases szTexts_le _ (left - l.length) hn with h | h
    · exact .inl (by omega)
    · exact .inr h
theorem szDatas_fit {l : List Data} {left : Int} (hl : left ≤ 1048576) (h : 0 ≤ szDatas l left) : l.length ≤ 1048576 ∧ ∀ s ∈ l, s.text.length ≤ 1048576 := by
  unfold szDatas at h
  split at h
  · omega
  · rename_i h1
    have hn : ∀ n ∈ l.map (fun s => (s.text.length : Int)), 0 ≤ n := fun n hm => by
      obtain ⟨s, _, rfl⟩ := List.mem_map.1 hm; omega
    have h2 := szTexts_spec _ _ hn h
    refine ⟨by omega, fun s hs => ?_⟩
    have := sum_mem _ hn s.text.length (List.mem_map.2 ⟨s, hs, rfl⟩)
    omega
def SLen (s : Side) : Prop := s.sent.length ≤ 9223372036854775807 ∧ ∀ d ∈ s.sent, d.text.length ≤ 9223372036854775807
def ALen (a : Assoc) : Prop := SLen a.a ∧ SLen a.b
def BFit (s : Side) : Prop := s.sent.length ≤ 1048576 ∧ ∀ d ∈ s.sent, d.text.length ≤ 1048576
theorem BFit.s {s : Side} (h : BFit s) : SFit s := ⟨by have := h.1; omega, fun d hd => by have := h.2 d hd; omega⟩
def szS (s : Side) (left : Int) : Int := if szDatas s.sent left < 0 then -1 else szDatas s.sent left
def szA (a : Assoc) (left : Int) : Int := if szS a.a left < 0 then -1 else if szS a.b (szS a.a left) < 0 then -1 else szS a.b (szS a.a left)
def szAs : List Assoc → Int → Int
  | [], left => left
  | a :: l, left => if szA a left < 0 then -1 else szAs l (szA a left)
def szAL (l : List Assoc) (left : Int) : Int := if left - l.length < 0 then -1 else szAs l (left - l.length)
def szM (m : Mon) (left : Int) : Int := if szAL m.list left < 0 then -1 else if szAL m.list left - m.found.length < 0 then -1 else szAL m.list left - m.found.length
theorem szS_le (s : Side) (left : Int) : szS s left ≤ left ∨ szS s left = -1 := by
  unfold szS; split
  · exact .inr rfl
  · exact szDatas_le _ _
theorem szA_le (a : Assoc) (left : Int) : szA a left ≤ left ∨ szA a left = -1 := by
  have h1 := szS_le a.a left
  have h2 := szS_le a.b (szS a.a left)
  unfold szA
  split
  · exact .inr rfl
  · split
    · exact .inr rfl
    · omega
theorem szS_fit {s : Side} {left : Int} (hl : left ≤ 1048576) (h : 0 ≤ szS s left) : BFit s := by
  unfold szS at h
  split at h
  · omega
  · exact szDatas_fit hl h
theorem szA_fit {a : Assoc} {left : Int} (hl : left ≤ 1048576) (h : 0 ≤ szA a left) : BFit a.a ∧ BFit a.b := by
  unfold szA at h
  split at h
  · omega
  · rename_i h1
    split at h
    · omega
    · have := szS_le a.a left
      exact ⟨szS_fit hl (by omega), szS_fit (left := szS a.a left) (by omega) (by omega)⟩
theorem szAs_drop {l : List Assoc} {i : Nat} (h : i < l.length) (left : Int) : szAs (l.drop i) left = if szA l[i] left < 0 then -1 else szAs (l.drop (i + 1)) (szA l[i] left) := by
  rw [List.drop_eq_getElem_cons h]; rfl
theorem szAs_fit : ∀ {l : List Assoc} {left : Int}, left ≤ 1048576 → 0 ≤ szAs l left → ∀ a ∈ l, BFit a.a ∧ BFit a.b
  | [], left, _, _, a, h => by cases h
  | x :: l, left, hl, h, a, ha => by
    simp only [szAs] at h
    split at h
    · omega
    · rename_i h1
      have := szA_le x left
      rcases List.mem_cons.1 ha with rfl | ha
      · exact szA_fit hl (by omega)
      · exact szAs_fit (by omega) h a ha
theorem szAs_le : ∀ (l : List Assoc) (left : Int), szAs l left ≤ left ∨ szAs l left = -1
  | [], left => .inl (Int.le_refl _)
  | a :: l, left => by
    simp only [szAs]
    split
    · exact .inr rfl
    · have h1 := szA_le a left
      rcases szAs_le l (szA a left) with h2 | h2
      · exact .inl (by omega)
      · exact .inr h2
theorem szM_fit {m : Mon} (h : 0 ≤ szM m 1048576) : m.list.length ≤ 1048576 ∧ m.found.length ≤ 1048576 ∧ ∀ a ∈ m.list, BFit a.a ∧ BFit a.b := by
  unfold szM szAL at h
  by_cases h0 : (1048576 : Int) - m.list.length < 0
  · simp [h0] at h
  · simp only [h0, if_false] at h
    have := szAs_le m.list (1048576 - m.list.length)
    split at h
    · omega
    · rename_i h1
      split at h
      · omega
      · exact ⟨by omega, by omega, szAs_fit (left := 1048576 - m.list.length) (by omega) (by omega)⟩
theorem BFit.m {m : Mon} (h : 0 ≤ szM m 1048576) : MFit m := by
  obtain ⟨h1, h2, h3⟩ := szM_fit h
  exact ⟨by omega, by omega, fun a ha => ⟨(h3 a ha).1.s, (h3 a ha).2.s⟩⟩
theorem s_szSideP (t : Side) (left : Int) (h : 0 ≤ left ∧ left ≤ 1048576) (hs : SLen t) : Spec Tryz.prog 82 0 [] [t.ro, .i left] (fun r _ _ _ => r = .i (szS t left)) :=
  s_szSide t left h (by have := hs.1; omega) (fun s hm => by have := hs.2 s hm; omega)
theorem s_szAssoc (a : Assoc) (left : Int) (h : 0 ≤ left ∧ left ≤ 1048576) (hs : ALen a) : Spec Tryz.prog 55 0 [] [a.ro, .i left] (fun r _ _ _ => r = .i (szA a left)) := by
  refine mk55 rfl fun c hP hm => ?_
  unfold pc55 Assoc.ro Assoc.av
  simp only [hm,go_sem,↓reduceIte]
  refine call_pure (hP ▸ s_szSideP a.a left h hs.1) rfl rfl ?_
  have h1 := szS_le a.a left
  unfold szA
  simp only [hm,go_sem,↓reduceIte]
  repeat' first | refine And.intro ?_ ?_ | intro _
  all_goals first
    | (rename_i hx; rw [if_pos hx]; done)
    | (rename_i hx; rw [if_neg (by omega)]
       refine call_pure (hP ▸ s_szSideP a.b (szS a.a left) ⟨by omega, by omega⟩ hs.2) rfl rfl ?_
       simp only [hm,go_sem,↓reduceIte]
       repeat' first | refine And.intro ?_ ?_ | intro _
       all_goals first
         | (rename_i hy; rw [if_pos hy]; done)
         | (rename_i hy; rw [if_neg (by omega)]; done)
         )
theorem s_szAssocS (l : List Assoc) (left : Int) (h : 0 ≤ left ∧ left ≤ 1048576) (hl : l.length ≤ 9223372036854775807) (hs : ∀ a ∈ l, ALen a) : Spec Tryz.prog 31 0 [] [.r (.ro none (l.map Assoc.row)), .i left] (fun r _ _ _ => r = .i (szAL l left)) := by
  refine mk31 rfl fun c hP hm => ?_
  unfold pc31
  simp only [hm,go_sem,↓reduceIte]
  intro _
  rw [wrap64 (by omega) (by omega)]
  unfold szAL
  refine ⟨fun hh => ?_, fun hh => ?_⟩
  · rw [if_pos hh]
  · rw [if_neg (by omega)]
    refine lp_wpc (α := Nat × Int) (fun y => ⟨[(0, .r (.ro none (l.map Assoc.row))), (1, .i y.2), (5, .i y.1)], [], 0, []⟩)
      (fun y => y.1 ≤ l.length ∧ 0 ≤ y.2 ∧ y.2 ≤ 1048576 ∧ szAs (l.drop y.1) y.2 = szAs l (left - l.length)) (fun y => l.length - y.1) (0, left - l.length)
      ⟨Nat.zero_le _, by omega, by omega, rfl⟩ (Le.refl _) ?_
    rintro ⟨i, x⟩ ⟨hi, hx0, hx1, hx⟩
    simp only at hi hx0 hx1 hx
    unfold pc31l0
    rcases Nat.lt_or_ge i l.length with hil | hil
    · have hw : IntKind.i64.wrap ((i : Int) + 1) = ((i + 1 : Nat) : Int) := by rw [wrap64 (by omega) (by omega)]; omega
      rw [szAs_drop hil] at hx
      have hle := szA_le l[i] x
      simp only [hw, Int.toNat_natCast, getD_map hil, Assoc.row, Assoc.cellsX, hm,go_sem,↓reduceIte]
      repeat' first | refine And.intro ?_ ?_ | intro _ | (refine call_pure (hP ▸ s_szAssoc l[i] x ⟨hx0, hx1⟩ (hs _ (List.getElem_mem hil))) rfl rfl ?_; simp only [hw, Int.toNat_natCast, getD_map hil, Assoc.row, Assoc.cellsX, hm,go_sem,↓reduceIte])
      all_goals first
        | omega
        | rfl
        | (rename_i hy; rw [if_pos hy] at hx; rw [← hx]; done)
        | (rename_i hy
           rw [if_neg (by omega)] at hx
           refine ⟨(i + 1, szA l[i] x), ⟨hil, ?_, ?_, hx⟩, ?_, Le.refl _⟩
           · simp only; omega
           · simp only; omega
           · simp only; omega)
    · have : i = l.length := by omega
      subst this
      rw [List.drop_eq_nil_of_le (Nat.le_refl _)] at hx
      simp only [hm,go_sem,↓reduceIte]
      repeat' first | refine And.intro ?_ ?_ | intro _
      all_goals first
        | omega
        | (rw [← hx]; rfl)
theorem s_szFindingS (l : List Fnd) (left : Int) (h : 0 ≤ left ∧ left ≤ 1048576) (hl : l.length ≤ 9223372036854775807) : Spec Tryz.prog 32 0 [] [.r (.ro none (l.map Fnd.row)), .i left] (fun r _ _ _ => r = .i (if left - l.length < 0 then -1 else left - l.length)) := by
  refine mk32 rfl fun c hP hm => ?_
  unfold pc32
  simp only [hm,go_sem,↓reduceIte]
  intro _
  rw [wrap64 (by omega) (by omega)]
  refine ⟨fun h => ?_, fun h => ?_⟩
  · rw [if_pos h]
  · rw [if_neg (by omega)]
theorem szAL_le (l : List Assoc) (left : Int) : szAL l left ≤ left ∨ szAL l left = -1 := by
  unfold szAL
  split
  · exact .inr rfl
  · have := szAs_le l (left - l.length); omega
theorem s_szMonitor (m : Mon) (left : Int) (h : 0 ≤ left ∧ left ≤ 1048576) (hl : m.list.length ≤ 9223372036854775807) (hf : m.found.length ≤ 9223372036854775807) (hs : ∀ a ∈ m.list, ALen a) : Spec Tryz.prog 14 0 [] [m.ro, .i left] (fun r _ _ _ => r = .i (szM m left)) := by
  refine mk14 rfl fun c hP hm => ?_
  unfold pc14 Mon.ro
  simp only [hm,go_sem,↓reduceIte]
  refine call_pure (hP ▸ s_szAssocS m.list left h hl hs) rfl rfl ?_
  have h1 := szAL_le m.list left
  unfold szM
  simp only [hm,go_sem,↓reduceIte]
  repeat' first | refine And.intro ?_ ?_ | intro _
  all_goals first
    | (rename_i hx; rw [if_pos hx]; done)
    | (rename_i hx; rw [if_neg (by omega)]
       refine call_pure (hP ▸ s_szFindingS m.found (szAL m.list left) ⟨by omega, by omega⟩ hf) rfl rfl ?_
       simp only [hm,go_sem,↓reduceIte]
       repeat' first | refine And.intro ?_ ?_ | intro _
       all_goals first
         | (rename_i hy; split at hy <;> first | omega | (rename_i hz; rw [if_pos hz]; done) | (rename_i hz; rw [if_neg hz]; done))
         | (split; rfl; rfl)
         )
abbrev assocRow : List CT := [.i .i64, .i .i64, .i .i64, .b, .i .i64, .i .i64, .i .i64, .sl dataRow, .i .i64, .i .i64, .i .i64, .i .i64, .sl dataRow, .i .i64]
abbrev fndRow : List CT := [.i .i64, .i .i64]
abbrev monRow : List CT := [.i .i64, .sl assocRow, .sl fndRow]
theorem assoc_of (r : List RV) (h : RowOk assocRow r) : ∃ a : Assoc, r = a.row ∧ ALen a := by
  obtain ⟨x0, r, rfl, h0, h⟩ := rowOk_cons h
  obtain ⟨x1, r, rfl, h1, h⟩ := rowOk_cons h
  obtain ⟨x2, r, rfl, h2, h⟩ := rowOk_cons h
  obtain ⟨x3, r, rfl, h3, h⟩ := rowOk_cons h
  obtain ⟨x4, r, rfl, h4, h⟩ := rowOk_cons h
  obtain ⟨x5, r, rfl, h5, h⟩ := rowOk_cons h
  obtain ⟨x6, r, rfl, h6, h⟩ := rowOk_cons h
  obtain ⟨x7, r, rfl, h7, h⟩ := rowOk_cons h
  obtain ⟨x8, r, rfl, h8, h⟩ := rowOk_cons h
  obtain ⟨x9, r, rfl, h9, h⟩ := rowOk_cons h
  obtain ⟨x10, r, rfl, h10, h⟩ := rowOk_cons h
  obtain ⟨x11, r, rfl, h11, h⟩ := rowOk_cons h
  obtain ⟨x12, r, rfl, h12, h⟩ := rowOk_cons h
  obtain ⟨x13, r, rfl, h13, h⟩ := rowOk_cons h
  obtain rfl := rowOk_nil h
  obtain ⟨n0, rfl, _⟩ := okc_i h0
  obtain ⟨n1, rfl, _⟩ := okc_i h1
  obtain ⟨n2, rfl, _⟩ := okc_i h2
  obtain ⟨n3, rfl⟩ := okc_b h3
  obtain ⟨n4, rfl, _⟩ := okc_i h4
  obtain ⟨n5, rfl, _⟩ := okc_i h5
  obtain ⟨n6, rfl, _⟩ := okc_i h6
  obtain ⟨L7, rfl, hL7, hr7⟩ := okc_sl h7
  obtain ⟨n8, rfl, _⟩ := okc_i h8
  obtain ⟨n9, rfl, _⟩ := okc_i h9
  obtain ⟨n10, rfl, _⟩ := okc_i h10
  obtain ⟨n11, rfl, _⟩ := okc_i h11
  obtain ⟨L12, rfl, hL12, hr12⟩ := okc_sl h12
  obtain ⟨n13, rfl, _⟩ := okc_i h13
  obtain ⟨l, rfl, hl⟩ := rows_of data_of hr7
  obtain ⟨k, rfl, hk⟩ := rows_of data_of hr12
  have e : maxLen = 9223372036854775807 := by decide
  rw [e] at hL7 hL12
  exact ⟨⟨n0, n1, n2, n3, ⟨n4, n5, n6, l, n8⟩, ⟨n9, n10, n11, k, n13⟩⟩, rfl, ⟨by simpa using hL7, fun d hd => by have := hl d hd; omega⟩, ⟨by simpa using hL12, fun d hd => by have := hk d hd; omega⟩⟩
theorem fnd_of (r : List RV) (h : RowOk fndRow r) : ∃ f : Fnd, r = f.row ∧ True := by
  obtain ⟨x0, r, rfl, h0, h⟩ := rowOk_cons h
  obtain ⟨x1, r, rfl, h1, h⟩ := rowOk_cons h
  obtain rfl := rowOk_nil h
  obtain ⟨n0, rfl, _⟩ := okc_i h0
  obtain ⟨n1, rfl, _⟩ := okc_i h1
  exact ⟨⟨n0, n1⟩, rfl, trivial⟩
theorem mon_of {xs : List RV} (h : RowOk monRow xs) : ∃ m : Mon, AV.agg (xs.map .r) = m.ro ∧ m.list.length ≤ 9223372036854775807 ∧ m.found.length ≤ 9223372036854775807 ∧ ∀ a ∈ m.list, ALen a := by
  obtain ⟨x0, r, rfl, h0, h⟩ := rowOk_cons h
  obtain ⟨x1, r, rfl, h1, h⟩ := rowOk_cons h
  obtain ⟨x2, r, rfl, h2, h⟩ := rowOk_cons h
  obtain rfl := rowOk_nil h
  obtain ⟨n0, rfl, _⟩ := okc_i h0
  obtain ⟨L1, rfl, hL1, hr1⟩ := okc_sl h1
  obtain ⟨L2, rfl, hL2, hr2⟩ := okc_sl h2
  obtain ⟨l, rfl, hl⟩ := rows_of assoc_of hr1
  obtain ⟨k, rfl, _⟩ := rows_of fnd_of hr2
  have e : maxLen = 9223372036854775807 := by decide
  rw [e] at hL1 hL2
  exact ⟨⟨n0, l, k⟩, rfl, by simpa using hL1, by simpa using hL2, hl⟩
theorem s_toAssoc (a : Assoc) (ha : a.a.sent.length ≤ 1048576) (hb : a.b.sent.length ≤ 1048576) : Spec Tryz.prog 61 0 [] [a.ro] (New2 (.agg (a.cells3 0 1)) 7 (a.a.sent.map Data.row) 7 (a.b.sent.map Data.row)) := by
  refine Spec.new2 (Q := fun r hp _ _ => ∃ b b1, b ≠ b1 ∧ r = .agg (a.cells3 b b1) ∧ hget hp b = some (.row 7 (a.a.sent.map Data.row)) ∧ hget hp b1 = some (.row 7 (a.b.sent.map Data.row))) ?_ (fun r hp nx gs h => h) (fun f g h1 h2 => by unfold Assoc.cells3; simp only [go_sem, h1, h2])
  have h1 := s_toSide a.a ha
  have h2 := s_toSide a.b hb
  unfold Side.ro Side.av at h1 h2
  refine mk61 rfl fun c hP hm => ?_
  unfold pc61 Assoc.ro Assoc.av
  simp only [hm,go_sem,↓reduceIte]
  refine call_new1 (hP ▸ h1) rfl (dataClosed _) (vws_self _ _ rfl) ?_
  simp only [hm,go_sem,↓reduceIte]
  refine call_new1 (hP ▸ h2) rfl (dataClosed _) (vws_self _ _ rfl) ?_
  simp only [hm,go_sem,↓reduceIte]
  exact ⟨3, 4, by decide, rfl, rfl, rfl⟩
end Go.Cap
namespace Go.Cap
attribute [local irreducible] Call Run Spec
theorem s_toAssocG (a : Assoc) (h1 : a.a.sent.length ≤ 1048576) (h2 : a.b.sent.length ≤ 1048576) : Spec Tryz.prog 61 0 [] [a.ro] (fun r hp nx gs => (∃ x : AG, x.a = a ∧ r = x.av ∧ gs = x.gs) ∧ hp = [] ∧ nx = 0) := by
  refine Spec.leX (s_toAssoc a h1 h2) fun r hp nx gs hq c hc M ι ac w h => ?_
  obtain ⟨rfl, rfl, rfl, rfl⟩ := hq
  obtain ⟨ga, gb, M1, ι1, h'⟩ := sr_two (b := 0) (b1 := 1) (A := a.a.sent.map Data.row) (B := a.b.sent.map Data.row) (by decide) rfl rfl h (by unfold Assoc.cells3; simp [fzgP, fzgP.fzgPL, fzg, fzg.fzgL, frzP, frzP.frzPL]) (fun X => by unfold Assoc.cells3; simp [fzgP, fzgP.fzgPL, fzg, fzg.fzgL, frzP, frzP.frzPL])
  have e : fzg 1 (gc gb (a.b.sent.map Data.row)) (fzg 0 (gc ga (a.a.sent.map Data.row)) (.agg (a.cells3 0 1))) = (AG.mk a ga gb).av := by
    unfold Assoc.cells3
    simp only [go_sem, ↓reduceIte]
    rfl
  rw [e, ← List.append_assoc] at h'
  obtain ⟨M2, ι2, h''⟩ := sr_low hc (by rfl) h'
  exact ⟨_, [], 0, _, M2, ι2, ⟨⟨AG.mk a ga gb, rfl, rfl, rfl⟩, rfl, rfl⟩, h''⟩
theorem fill_snoc {A : List (List RV)} {z r : List RV} {i n : Nat} (hA : A.length = i) (hi : i < n) : (A ++ List.replicate (n - i) z).set i r = (A ++ [r]) ++ List.replicate (n - (i + 1)) z := by
  subst hA
  rw [show n - A.length = (n - (A.length + 1)) + 1 by omega, List.replicate_succ, List.set_append_right _ _ (Nat.le_refl _), Nat.sub_self, List.set_cons_zero, List.append_assoc]
  rfl
def ListQ (l : List Assoc) : AV → List (Nat × Blk) → Nat → List Nat → Prop := fun r hp nx gs => ∃ X, X.map AG.a = l ∧ OkG X gs ∧ r = .sl 0 0 l.length ∧ hp = [(0, .row 14 (X.map AG.row))] ∧ nx = 1
theorem s_toAssocSG (l : List Assoc) (hl : l.length ≤ 1048576) (hx : ∀ a ∈ l, a.a.sent.length ≤ 1048576 ∧ a.b.sent.length ≤ 1048576) : Spec Tryz.prog 34 0 [] [.r (.ro none (l.map Assoc.row))] (ListQ l) := by
  refine mk34 rfl fun c hP hm => ?_
  unfold pc34
  simp only [hm,go_sem,↓reduceIte]
  simp only [Int.toNat_natCast]
  intro _
  refine ⟨⟨by omega, by omega⟩, ?_⟩
  refine lp_wpc (α := List AG × List Nat) (fun y => ⟨[(0, .r (.ro none (l.map Assoc.row))), (3, .sl 0 0 l.length), (4, .i y.1.length)], [(0, .row 14 (y.1.map AG.row ++ List.replicate (l.length - y.1.length) (noAssoc.cellsX .nil .nil)))], 1, y.2⟩)
    (fun y => y.1.length ≤ l.length ∧ y.1.map AG.a = l.take y.1.length ∧ OkG y.1 y.2) (fun y => l.length - y.1.length) ([], []) ⟨Nat.zero_le _, rfl, OkG.nil _⟩ (le_eq (by simp [Assoc.cellsX, noAssoc, noSide])) ?_
  rintro ⟨X, gs⟩ ⟨hi, hX, hO⟩
  simp only at hi hX hO
  unfold pc34l0
  simp only [hm,go_sem,↓reduceIte]
  intro _
  refine ⟨fun hlt => ?_, fun hge => ?_⟩
  · have hil : X.length < l.length := by omega
    obtain ⟨h1, h2⟩ := hx _ (List.getElem_mem hil)
    have htk := take_get hil
    have hg := getD_map (f := Assoc.row) hil
    generalize l[X.length] = a at h1 h2 htk hg
    have hcp := s_toAssocG a h1 h2
    simp only [Int.toNat_natCast, hg, Assoc.row, Assoc.cellsX, hm,go_sem,↓reduceIte]
    refine ⟨⟨by omega, by omega⟩, ?_⟩
    refine call_gh (hP ▸ hcp) rfl ?_
    rintro r g0 ⟨x, hxa, rfl, rfl⟩
    refine ⟨rfl, ?_⟩
    unfold AG.av Assoc.av
    have hfs := fill_snoc (A := X.map AG.row) (z := noAssoc.cellsX .nil .nil) (r := x.row) (i := X.length) (n := l.length) (List.length_map ..) hil
    have hwr : IntKind.i64.wrap ((X.length : Int) + 1) = ((X.length + 1 : Nat) : Int) := by rw [wrap64 (by omega) (by omega)]; omega
    have hlen : (X.map AG.row ++ List.replicate (l.length - X.length) (noAssoc.cellsX .nil .nil)).length = l.length := by
      simp only [List.length_append, List.length_map, List.length_replicate]; omega
    simp only [hwr, go_sem, ↓reduceIte, hm, Int.toNat_natCast]
    repeat' first | refine And.intro ?_ ?_ | intro _
    all_goals first
      | omega
      | rfl
      | (simp only [List.length_replicate]; omega)
      | skip
    refine ⟨(X ++ [x], x.gs ++ gs), ⟨by rw [List.length_append]; exact hil, ?_, hO.snoc x⟩, by simp only [List.length_append, List.length_cons, List.length_nil]; omega, le_eq ?_⟩
    · rw [List.map_append, hX, List.length_append]
      show _ ++ [x.a] = l.take (X.length + 1)
      rw [hxa, htk]
    · simp only [List.length_append, List.length_cons, List.length_nil, List.map_append, List.map_cons, List.map_nil]
      simp only [Nat.zero_add]
      unfold Assoc.cellsX at hfs
      rw [← hfs]
      rfl
  · have : X.length = l.length := by omega
    rw [this, List.take_length] at hX
    repeat' first | refine And.intro ?_ ?_ | intro _
    all_goals first
      | omega
      | rfl
      | (refine ⟨X, hX, hO, rfl, ?_, rfl⟩; rw [this, Nat.sub_self]; simp)
theorem s_toFindingSN (l : List Fnd) (hl : l.length ≤ 1048576) : Spec Tryz.prog 35 0 [] [.r (.ro none (l.map Fnd.row))] (New1 (.sl 0 0 l.length) 2 (l.map Fnd.row)) := by
  refine mk35 rfl fun c hP hm => ?_
  unfold pc35
  simp only [hm,go_sem,↓reduceIte]
  simp only [Int.toNat_natCast]
  intro _
  refine ⟨⟨by omega, by omega⟩, ?_⟩
  refine lp_wpc (α := Nat) (fun i => ⟨[(0, .r (.ro none (l.map Fnd.row))), (3, .sl 0 0 l.length), (4, .i i)], [(0, .row 2 ((l.map Fnd.row).take i ++ List.replicate ((l.map Fnd.row).length - i) [.n .i64 0, .n .i64 0]))], 1, []⟩)
    (fun i => i ≤ l.length) (fun i => l.length - i) 0 (Nat.zero_le _) (le_eq (by simp)) ?_
  intro i hi
  unfold pc35l0
  simp only [hm,go_sem,↓reduceIte]
  intro _
  refine ⟨fun hlt => ?_, fun hge => ?_⟩
  · have hil : i < l.length := by omega
    simp only [Int.toNat_natCast, getD_map hil, Fnd.row, hm,go_sem,↓reduceIte]
    refine ⟨⟨by omega, by omega⟩, ?_⟩
    refine call_data (hP ▸ s_toFinding l[i]) rfl rfl ?_
    simp only [Fnd.av, go_sem, ↓reduceIte, hm, Int.toNat_natCast]
    repeat' first | refine And.intro ?_ ?_ | intro _
    all_goals first
      | omega
      | rfl
      | (simp; omega)
      | (refine ⟨i + 1, hil, by omega, le_eq ?_⟩
         have h1 := fill_set (M := l.map Fnd.row) (z := [.n .i64 0, .n .i64 0]) (i := i) (by simpa using hil)
         simp only [List.getElem_map, Fnd.row, List.length_map] at h1
         try simp only [List.length_map]
         rw [wrap64 (by omega) (by omega), ← h1]
         rfl)
  · have : i = l.length := by omega
    subst this
    repeat' first | refine And.intro ?_ ?_ | intro _
    all_goals first
      | omega
      | rfl
      | (simp; done)
      | (simp [List.take_of_length_le]; done)
theorem s_toMonitorG (m : Mon) (hl : m.list.length ≤ 1048576) (hf : m.found.length ≤ 1048576) (hx : ∀ a ∈ m.list, a.a.sent.length ≤ 1048576 ∧ a.b.sent.length ≤ 1048576) : Spec Tryz.prog 16 0 [] [m.ro] (RunQ m) := by
  refine mk16 rfl fun c hP hm => ?_
  unfold pc16 Mon.ro
  simp only [hm,go_sem,↓reduceIte]
  refine call_clg (hP ▸ s_toAssocSG m.list hl hx) (Vws.spec (.cons (.r _) .nil)) fun r hp' nx' gs' hQ => ?_
  obtain ⟨X, hX, hO, rfl, rfl, rfl⟩ := hQ
  refine ⟨⟨rfl, fun p hp => ?_⟩, ?_⟩
  · rw [List.mem_singleton] at hp
    subst hp
    exact ag_clos hO
  simp only [hm,go_sem,↓reduceIte]
  refine call_new1 (hP ▸ s_toFindingSN m.found hf) rfl (fndClosed _) (.cons (.r _) .nil) ?_
  simp only [hm,go_sem,↓reduceIte]
  have hXl : m.list.length = X.length := by rw [← hX, List.length_map]
  rw [hXl]
  refine ⟨.inr (.inr ⟨_, _, X, ?_, ⟨hX, hO⟩, rfl, rfl, rfl⟩)⟩
  decide
theorem s_toMonitorM (m : Mon) (hl : m.list.length ≤ 1048576) (hf : m.found.length ≤ 1048576) (hx : ∀ a ∈ m.list, a.a.sent.length ≤ 1048576 ∧ a.b.sent.length ≤ 1048576) : Spec Tryz.prog 16 0 [] [m.ro] (OwnM m) := s_ownM (s_toMonitorG m hl hf hx)
end Go.Cap
namespace Go.Cap
attribute [local irreducible] Call Run Spec Le
theorem found_len {n : Int} {l : List Fnd} (h : foundB n l = true) (hn : n ≤ 60) : l.length ≤ 6400 := by
  have h1 : ∀ i, i < l.length → foundOne n l i = true := fun i hi => List.all_eq_true.1 h i (List.mem_range.2 hi)
  have h2 : ∀ i, i < l.length → (i : Int) + 1 ≤ (fndAt l i).rcd * 106 + (fndAt l i).code := by
    intro i
    induction i with
    | zero =>
      intro hi
      have := h1 0 hi
      unfold foundOne fndB inB at this
      simp only [Bool.and_eq_true, Bool.or_eq_true, decide_eq_true_eq] at this
      omega
    | succ i ih =>
      intro hi
      have := ih (by omega)
      have a := h1 i (by omega)
      have b := h1 (i + 1) hi
      unfold foundOne fndB lessB inB at a b
      simp only [Bool.and_eq_true, Bool.or_eq_true, decide_eq_true_eq, Nat.add_sub_cancel] at a b
      omega
  rcases Nat.eq_zero_or_pos l.length with h0 | h0
  · omega
  · have a := h2 (l.length - 1) (by omega)
    have b := h1 (l.length - 1) (by omega)
    unfold foundOne fndB inB at b
    simp only [Bool.and_eq_true, Bool.or_eq_true, decide_eq_true_eq] at b
    omega
theorem monB_MW {m : Mon} (h : monB m = true) : MW 6400 m := by
  obtain ⟨v1, v2, v3, v4⟩ := monB_iff.1 h
  exact ⟨v2, fun a ha => assocB_AW ((listB_iff.1 v3).1 a ha).1, found_len v4 (by omega)⟩
theorem monStep_MW (m : Mon) (text : List UInt8) : MW 6400 (monStep m text) := by
  unfold monStep
  split
  · rename_i h
    simp only [Bool.and_eq_true, decide_eq_true_eq] at h
    exact monB_MW (stepMon_valid h.1 h.2)
  · exact MW.no _
theorem s_specMonitorStepX (m : Mon) (text : List UInt8) (hf : MFit m) (ht : text.length ≤ 2000000) :
    Spec Tryz.prog 15 0 [] [m.ro, .st text] (Plain fun r => r = (monStep m text).ro) := by
  refine Spec.le (Q := fun r hp _ _ => r = (monStep m text).ro ∨ (monStep m text = noMon ∧ r = .agg [.i 0, .r .nil, .r .nil])) ?_ ?_
  · refine mr15 rfl fun c hP hm => ?_
    unfold pc15
    have hv := s_specMonitorValid m hf
    by_cases hb : monB m = true
    · have hw := monB_MW hb
      have hrec : 0 ≤ m.records ∧ m.records ≤ 60 := by
        unfold monB inB at hb
        simp only [Bool.and_eq_true, decide_eq_true_eq] at hb
        exact hb.1.1.1
      have hst := s_l32StepX m text 6400 (by omega) hw hrec ht
      have hms : monStep m text = if m.records < 60 then stepMon m text else noMon := by
        unfold monStep; rw [hb]; simp
      unfold Mon.ro at hv hst ⊢
      refine run_seq (run_wpc _ _ _ _ _ ?_)
      simp only [hm,go_sem,↓reduceIte]
      refine run_seq (run_wpc _ _ _ _ _ ?_)
      simp only [hm,go_sem,↓reduceIte]
      refine call_pure (hP ▸ hv) rfl rfl ?_
      simp only [hb, hm,go_sem,↓reduceIte]
      refine ⟨fun hge => ?_, fun hge => ?_⟩
      · exact .inr (by rw [hms, if_neg (by omega)])
      · refine run_wpc _ _ _ _ _ ?_
        simp only [hm,go_sem,↓reduceIte]
        refine call_dataP (hP ▸ hst) rfl rfl ?_
        simp only [hm,go_sem,↓reduceIte]
        left
        rw [hms, if_pos (by omega)]
    · have hms : monStep m text = noMon := by
        unfold monStep; rw [if_neg]; simp [hb]
      unfold Mon.ro at hv ⊢
      refine run_seq (run_wpc _ _ _ _ _ ?_)
      simp only [hm,go_sem,↓reduceIte]
      refine run_seq (run_wpc _ _ _ _ _ ?_)
      simp only [hm,go_sem,↓reduceIte]
      refine call_pure (hP ▸ hv) rfl rfl ?_
      simp only [hb, hm,go_sem,↓reduceIte]
      exact .inr hms
  · rintro r hp nx gs h
    refine ⟨_, [], 0, [], ⟨rfl, rfl, rfl, rfl⟩, fun c hc => ?_⟩
    rcases h with rfl | ⟨e, rfl⟩
    · unfold Mon.ro
      exact le_ev [] (by simp only [hc,go_sem,↓reduceIte])
    · rw [e]
      refine Le.trans le_denil ?_
      exact le_ev [] (by simp only [hc, noMon, Mon.ro, List.map_nil,go_sem,↓reduceIte])
theorem s_implMonitorStepM (m : Mon) (text : List UInt8) (hf : MFit m) (ht : text.length ≤ 2000000) : Spec Tryz.prog 17 0 [] [m.ro, .st text] (OwnM (monStep m text)) :=
  s_ownM (Spec.le (s_implMonitorStepG m text hf ht) fun r hp nx gs h => ⟨r, hp, nx, gs, ⟨h.h⟩, fun c hc => Le.refl _⟩)
theorem MW.szOk1 {n : Nat} {m : Mon} (h : MW n m) : SzOk (m.list.map sz2) := by
  obtain ⟨h1, h2, h3⟩ := h
  refine ⟨by rw [List.length_map]; omega, fun s hs => ?_⟩
  obtain ⟨a, ha, rfl⟩ := List.mem_map.1 hs
  obtain ⟨⟨_, a2, a3⟩, ⟨_, b2, b3⟩⟩ := h2 a ha
  exact ⟨by show a.a.sent.length ≤ 1000; omega, by show a.b.sent.length ≤ 1000; omega⟩
theorem szDatas_len {l : List Data} {left : Int} (h : 0 ≤ szDatas l left) : (l.length : Int) ≤ left - szDatas l left := by
  unfold szDatas at h ⊢
  split at h
  · omega
  · rename_i h1
    rw [if_neg h1]
    have hn : ∀ n ∈ l.map (fun s => (s.text.length : Int)), 0 ≤ n := fun n hm => by
      obtain ⟨s, _, rfl⟩ := List.mem_map.1 hm; omega
    rcases szTexts_le _ (left - l.length) hn with h2 | h2
    · omega
    · omega
theorem szS_len {s : Side} {left : Int} (h : 0 ≤ szS s left) : (s.sent.length : Int) ≤ left - szS s left := by
  unfold szS at h ⊢
  split at h
  · omega
  · rename_i h1
    rw [if_neg h1]
    exact szDatas_len h
theorem szA_wd {a : Assoc} {left : Int} (h : 0 ≤ szA a left) : wd (sz2 a) ≤ 12 + 7 * (left - szA a left) := by
  unfold szA at h ⊢
  split at h
  · omega
  · rename_i h1
    rw [if_neg h1]
    split at h
    · omega
    · rename_i h2
      rw [if_neg h2]
      have := szS_len (s := a.a) (left := left) (by omega)
      have := szS_len (s := a.b) (left := szS a.a left) (by omega)
      unfold wd sz2
      simp only
      omega
theorem szAs_wd : ∀ {l : List Assoc} {left : Int}, 0 ≤ szAs l left → offs (l.map sz2) ≤ 12 * l.length + 7 * (left - szAs l left)
  | [], left, h => by simp [offs, szAs]
  | a :: l, left, h => by
    simp only [szAs] at h ⊢
    split at h
    · omega
    · rename_i h1
      rw [if_neg h1]
      have h2 := szAs_wd h
      have h3 := szA_wd (a := a) (left := left) (by omega)
      simp only [List.map_cons, offs, List.length_cons]
      omega
theorem szM_SzB {m : Mon} (h : 0 ≤ szM m 1048576) : SzB (m.list.map sz2) := by
  unfold szM at h
  split at h
  · omega
  · rename_i h1
    have h1 : 0 ≤ szAL m.list 1048576 := by omega
    unfold szAL at h1
    split at h1
    · omega
    · have := szAs_wd h1
      unfold SzB
      omega
end Go.Cap

import Derived.Test.YtcjbfoeiegecmaaN9
/- Contracts of the reference: where a part lies, a valid assembly, chains and what is due. -/
namespace Go.Cap
open Go Go.Proofs
set_option maxRecDepth 100000
set_option linter.unusedSimpArgs false
set_option linter.unusedVariables false
attribute [local irreducible] Call Run Spec Le

theorem s_l22At (l : List Data) (x : Int) (hl : l.length ≤ 2000000) : Spec Try.prog 39 0 [] [.r (.ro none (l.map Data.row)), .i x] (fun r _ _ _ => r = .i (ixI (atIx l x))) := by
  refine mk39 rfl fun c hP hm => ?_
  unfold pc39
  simp only [hm, go_sem, ↓reduceIte]
  refine run_exit 0 (fun t0 => t0 = ⟨[], [], 0, []⟩ ∧ atIx l x = none) ?_ (fun t0 h => by rw [h.1, h.2]; simp only [go_sem, ↓reduceIte]; rfl)
  refine lp_wpc (α := Nat) (fun i => ⟨[(0, .r (.ro none (l.map Data.row))), (1, .i x), (5, .i i)], [], 0, []⟩) (fun i => i ≤ l.length ∧ atIx (l.take i) x = none) (fun i => l.length - i) 0 ⟨Nat.zero_le _, rfl⟩ (by (refine le_ev [] ?_; simp only [hm, go_sem, ↓reduceIte]; first | done | rfl | exact ⟨rfl, rfl⟩)) ?_
  rintro i ⟨hi, hI⟩
  unfold pc39l0
  rcases Nat.lt_or_ge i l.length with hil | hil
  · obtain ⟨k1, k2⟩ := atIx_take hil hI
    simp only [Int.toNat_natCast, getD_map hil, Data.row, hm, go_sem, ↓reduceIte]
    rw [wrap64 (x := (i : Int) + 1) (by omega) (by omega)]
    repeat' first | refine And.intro ?_ ?_ | intro _
    all_goals first
      | omega
      | (rw [k1 (by assumption)]; rfl)
      | (refine ⟨i + 1, ⟨hil, k2 (by assumption)⟩, by omega, ?_⟩; (refine le_ev [] ?_; simp only [hm, go_sem, ↓reduceIte]; first | done | rfl | exact ⟨rfl, rfl⟩))
  · have : i = l.length := by omega
    subst this
    rw [List.take_length] at hI
    simp only [hm, go_sem, ↓reduceIte]
    intro _
    exact ⟨_, ⟨rfl, hI⟩, by (refine le_ev [] ?_; simp only [hm, go_sem, ↓reduceIte]; first | done | rfl | exact ⟨rfl, rfl⟩)⟩
theorem s_l21Has (p : List Nat) (i : Nat) (hl : p.length ≤ 2000000) : Spec Try.prog 59 0 [] [.r (.ro none (p.map natRow)), .i i] (fun r _ _ _ => r = .bo (decide (i ∈ p))) := by
  refine mk59 rfl fun c hP hm => ?_
  unfold pc59
  simp only [hm, go_sem, ↓reduceIte]
  refine run_exit 0 (fun t0 => t0 = ⟨[], [], 0, []⟩ ∧ i ∉ p) ?_ (fun t0 h => by rw [h.1]; simp only [go_sem, ↓reduceIte]; simp [h.2])
  refine lp_wpc (α := Nat) (fun k => ⟨[(0, .r (.ro none (p.map natRow))), (1, .i i), (5, .i k)], [], 0, []⟩) (fun k => k ≤ p.length ∧ i ∉ p.take k) (fun k => p.length - k) 0 ⟨Nat.zero_le _, by simp⟩ (by (refine le_ev [] ?_; simp only [hm, go_sem, ↓reduceIte]; first | done | rfl | exact ⟨rfl, rfl⟩)) ?_
  rintro k ⟨hk, hI⟩
  unfold pc59l0
  rcases Nat.lt_or_ge k p.length with hil | hil
  · have hmem := List.getElem_mem hil
    have htk := take_get hil
    simp only [Int.toNat_natCast, getD_map hil, natRow, hm, go_sem, ↓reduceIte]
    generalize p[k] = y at hmem htk
    rw [wrap64 (x := (k : Int) + 1) (by omega) (by omega)]
    repeat' first | refine And.intro ?_ ?_ | intro _
    all_goals first
      | omega
      | (have : y = i := by omega
         subst this; simp [hmem])
      | (refine ⟨k + 1, ⟨hil, ?_⟩, by omega, ?_⟩
         · rw [htk, List.mem_append, List.mem_singleton]
           rintro (h | h)
           · exact hI h
           · omega
         · (refine le_ev [] ?_; simp only [hm, go_sem, ↓reduceIte]; first | done | rfl | exact ⟨rfl, rfl⟩))
  · have : k = p.length := by omega
    subst this
    rw [List.take_length] at hI
    simp only [hm, go_sem, ↓reduceIte]
    intro _
    exact ⟨_, ⟨rfl, hI⟩, by (refine le_ev [] ?_; simp only [hm, go_sem, ↓reduceIte]; first | done | rfl | exact ⟨rfl, rfl⟩)⟩
/-- The reference looks for a number among all parts. -/
theorem atIx_lt {l : List Data} {i : Nat} (h : i < l.length) : (ixI (atIx l l[i].tsn) < i) ↔ (atIx (l.take i) l[i].tsn).isSome = true := by
  cases ha : atIx (l.take i) l[i].tsn with
  | none =>
    rw [(atIx_take h ha).1 rfl]
    simp [ixI]
  | some j =>
    obtain ⟨hj, h1, h2⟩ := (atIx_spec _ _ _).1 ha
    rw [List.length_take] at hj
    rw [List.getElem_take] at h1
    have : atIx l l[i].tsn = some j := (atIx_spec _ _ _).2 ⟨by omega, h1, fun k hk => by
      have := h2 k hk
      rwa [List.getElem_take] at this⟩
    rw [this]
    simp [ixI]; omega
theorem s_specAsmValid (a : Asm) (hn : a.next.length ≤ 2000000) (hl : a.parts.length ≤ 2000000) (hx : ∀ d ∈ a.parts, d.text.length ≤ 9223372036854775807) : Spec Try.prog 17 0 [] [a.ro] (fun r _ _ _ => r = .bo (asmB a)) := by
  refine mk17 rfl fun c hP hm => ?_
  unfold pc17 Asm.ro
  simp only [hm, go_sem, ↓reduceIte]
  refine run_exit 0 (fun t0 => t0 = ⟨[(1, .ptr 0 0 0)], [(0, .var [.r (.ro none (a.next.map intRow)), .r (.ro none (a.parts.map Data.row))])], 1, []⟩ ∧ a.next.all serialB = true) ?_ (fun t0 h => ?_)
  · refine lp_wpc (α := Nat) (fun i => ⟨[(1, .ptr 0 0 0), (3, .i i)], [(0, .var [.r (.ro none (a.next.map intRow)), .r (.ro none (a.parts.map Data.row))])], 1, []⟩)
      (fun i => i ≤ a.next.length ∧ (a.next.drop i).all serialB = a.next.all serialB) (fun i => a.next.length - i) 0 ⟨Nat.zero_le _, rfl⟩ (by (refine le_ev [] ?_; simp only [hm, go_sem, ↓reduceIte]; first | done | rfl | exact ⟨rfl, rfl⟩)) ?_
    rintro i ⟨hi, hI⟩
    unfold pc17l0
    rcases Nat.lt_or_ge i a.next.length with hil | hil
    · rw [all_drop hil] at hI
      simp only [Int.toNat_natCast, getD_map hil, intRow, hm, go_sem, ↓reduceIte]
      generalize a.next[i] = y at hI
      have hw : IntKind.i64.wrap ((i : Int) + 1) = (i : Int) + 1 := wrap64 (by omega) (by omega)
      repeat' first | refine And.intro ?_ ?_ | intro _ | (refine c_l3Ok hP ?_; simp only [Int.toNat_natCast, hm, go_sem, ↓reduceIte])
      all_goals first
        | omega
        | (apply bo_inj; symm; unfold asmB; rw [← hI, ‹serialB y = false›]; simp only [Bool.false_and, Bool.and_false])
        | (refine ⟨i + 1, ⟨hil, ?_⟩, by omega, ?_⟩
           · rw [← hI, ‹serialB y = true›, Bool.true_and]
           · rw [hw]; (refine le_ev [] ?_; simp only [hm, go_sem, ↓reduceIte]; first | done | rfl | exact ⟨rfl, rfl⟩))
    · have : i = a.next.length := by omega
      subst this
      rw [List.drop_eq_nil_of_le (Nat.le_refl _)] at hI
      simp only [hm, go_sem, ↓reduceIte]
      intro _
      exact ⟨_, ⟨rfl, hI.symm⟩, by (refine le_ev [] ?_; simp only [hm, go_sem, ↓reduceIte]; first | done | rfl | exact ⟨rfl, rfl⟩)⟩
  obtain ⟨rfl, hall⟩ := h
  simp only [hm, go_sem, ↓reduceIte]
  refine run_exit 2 (fun t0 => t0 = ⟨[(1, .ptr 0 0 0)], [(0, .var [.r (.ro none (a.next.map intRow)), .r (.ro none (a.parts.map Data.row))])], 1, []⟩ ∧ partsLoop a.next.length a.parts 0 a.parts = true) ?_ (fun t0 h => ?_)
  · refine lp_wpc (α := Nat) (fun i => ⟨[(1, .ptr 0 0 0), (4, .i i)], [(0, .var [.r (.ro none (a.next.map intRow)), .r (.ro none (a.parts.map Data.row))])], 1, []⟩)
      (fun i => i ≤ a.parts.length ∧ partsLoop a.next.length a.parts i (a.parts.drop i) = partsLoop a.next.length a.parts 0 a.parts) (fun i => a.parts.length - i) 0 ⟨Nat.zero_le _, rfl⟩ (by (refine le_ev [] ?_; simp only [hm, go_sem, ↓reduceIte]; first | done | rfl | exact ⟨rfl, rfl⟩)) ?_
    rintro i ⟨hi, hI⟩
    unfold pc17l1
    rcases Nat.lt_or_ge i a.parts.length with hil | hil
    · rw [partsLoop_drop hil] at hI
      have hd := hx _ (List.getElem_mem hil)
      have hlt := atIx_lt hil
      have hgd : (a.parts.map Data.row).getD i [] = a.parts[i].row := getD_map hil
      generalize a.parts[i] = d at hI hd hlt hgd
      have hw : IntKind.i64.wrap ((i : Int) + 1) = (i : Int) + 1 := wrap64 (by omega) (by omega)
      have hbad : partOk a.next.length (a.parts.take i) d = false → partsLoop a.next.length a.parts 0 a.parts = false := fun h => by rw [← hI, h]; rfl
      have hgood : partOk a.next.length (a.parts.take i) d = true → partsLoop a.next.length a.parts (i + 1) (a.parts.drop (i + 1)) = partsLoop a.next.length a.parts 0 a.parts := fun h => by rw [← hI, h]; rfl
      have hend : ∀ {b : Bool}, partOk a.next.length (a.parts.take i) d = false → b = false → AV.r (.b b) = AV.bo (asmB a) := fun h hb => by
        subst hb; apply bo_inj; unfold asmB; rw [hbad h, Bool.and_false]
      clear hI hbad
      simp only [Int.toNat_natCast, hgd, Data.row, hm, go_sem, ↓reduceIte]
      refine fun _ => ⟨fun hil2 => ⟨by omega, ?_⟩, fun _ => by omega⟩
      refine call_pure (hP ▸ s_l12Data d hd) rfl rfl ?_
      cases hdb : dataB d
      · simp only [Int.toNat_natCast, hgd, Data.row, hm, go_sem, ↓reduceIte]
        exact hend (by unfold partOk; rw [hdb]; rfl) rfl
      · simp only [Int.toNat_natCast, hgd, Data.row, hm, go_sem, ↓reduceIte]
        refine ⟨by omega, fun _ => ⟨fun hst => ⟨by omega, ?_⟩, fun hge => hend (by unfold partOk; rw [hdb, decide_eq_false (by omega)]; rfl) rfl⟩⟩
        refine call_pure (hP ▸ s_l22At a.parts d.tsn hl) rfl rfl ?_
        simp only [Int.toNat_natCast, hgd, Data.row, hm, go_sem, ↓reduceIte]
        refine ⟨fun hl2 => hend ?_ rfl, fun hl2 => ?_⟩
        · have := hlt.1 hl2
          unfold partOk
          cases ha : atIx (a.parts.take i) d.tsn with
          | none => rw [ha] at this; cases this
          | some j => simp
        · have : atIx (a.parts.take i) d.tsn = none := by
            cases ha : atIx (a.parts.take i) d.tsn with
            | none => rfl
            | some j => rw [ha] at hlt; have := hlt.2 rfl; omega
          refine ⟨i + 1, ⟨hil, hgood ?_⟩, by omega, ?_⟩
          · unfold partOk; rw [hdb, this, decide_eq_true hst]; rfl
          · rw [hw]; (refine le_ev [] ?_; simp only [hm, go_sem, ↓reduceIte]; first | done | rfl | exact ⟨rfl, rfl⟩)
    · have : i = a.parts.length := by omega
      subst this
      rw [List.drop_eq_nil_of_le (Nat.le_refl _)] at hI
      simp only [hm, go_sem, ↓reduceIte]
      intro _
      exact ⟨_, ⟨rfl, hI.symm⟩, by (refine le_ev [] ?_; simp only [hm, go_sem, ↓reduceIte]; first | done | rfl | exact ⟨rfl, rfl⟩)⟩
  obtain ⟨rfl, hps⟩ := h
  simp only [hm, go_sem, ↓reduceIte]
  refine fun _ => c_l6In hP ?_
  simp only [hm, go_sem, ↓reduceIte]
  have e : inB (a.next.length : Int) 1 4 = decide (1 ≤ a.next.length ∧ a.next.length ≤ 4) := by
    unfold inB; rw [Bool.eq_iff_iff]; simp only [decide_eq_true_eq]; omega
  rw [e]
  refine ⟨fun h1 _ => ?_, fun h1 => ?_⟩
  · apply bo_inj; unfold asmB; rw [hall, hps, h1, Bool.true_and, Bool.and_true, Bool.and_true, Bool.eq_iff_iff]
    simp only [decide_eq_true_eq]; omega
  · apply bo_inj; unfold asmB; rw [h1]; rfl
end Go.Cap

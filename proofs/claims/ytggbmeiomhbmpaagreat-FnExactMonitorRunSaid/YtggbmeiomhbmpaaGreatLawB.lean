/- Contracts of functions, text B. -/
import Derived.Test.YtggbmeiomhbmpaaGreatEngC
import Derived.Test.YtggbmeiomhbmpaaGreatLawA
import Derived.Test.YtggbmeiomhbmpaaGreatPc
open Go Go.Proofs
set_option maxRecDepth 100000
set_option linter.unusedSimpArgs false
set_option linter.unusedVariables false
namespace Go.Cap
attribute [local irreducible] Call Run Spec Le
theorem sideLoop_data {add : Int → Int → Int} {s : Side} : ∀ {i : Nat} {l : List Data}, sideLoop add s i l = true → ∀ d ∈ l, dataB d = true
  | _, [], _, _, h => by cases h
  | i, x :: l, h, d, hd => by
    simp only [sideLoop, partB, Bool.and_eq_true] at h
    rcases List.mem_cons.1 hd with rfl | hd
    · exact h.1.1.1.1
    · exact sideLoop_data h.2 d hd
theorem sideB_SW {s : Side} (h : sideB s = true) : SW s := by
  unfold sideB at h
  split at h
  · simp only [noneB, Bool.and_eq_true, beq_iff_eq, decide_eq_true_eq] at h
    obtain ⟨⟨⟨_, h2⟩, h3⟩, _⟩ := h
    have : s.sent = [] := List.length_eq_zero_iff.1 h3
    exact ⟨by omega, by omega, by rw [this]; simp⟩
  · simp only [headB, Bool.and_eq_true, decide_eq_true_eq, serialB] at h
    exact ⟨by omega, by omega, sideLoop_data h.2⟩
theorem assocB_AW {a : Assoc} (h : assocB a = true) : AW a := by
  have := assocB_iff.1 h
  exact ⟨sideB_SW this.2.2.2.2.1, sideB_SW this.2.2.2.2.2.1⟩
def rulesTo (b : Nat → Bool) (n : Nat) : List Int := ((List.range n).filter fun k => decide (1 ≤ k) && b k).map fun (k : Nat) => (k : Int)
theorem rulesTo_12 (b : Nat → Bool) : rulesTo b 12 = rulesOf b := rfl
theorem rulesTo_1 (b : Nat → Bool) : rulesTo b 1 = [] := rfl
theorem rulesTo_succ (b : Nat → Bool) {n : Nat} (h : 1 ≤ n) : rulesTo b (n + 1) = rulesTo b n ++ if b n = true then [(n : Int)] else [] := by
  unfold rulesTo
  rw [List.range_succ, List.filter_append, List.map_append]
  congr 1
  cases hb : b n <;> simp [h, hb]
theorem rulesTo_le (b : Nat → Bool) (n : Nat) : (rulesTo b n).length ≤ n := by
  unfold rulesTo
  rw [List.length_map]
  exact Nat.le_trans (List.length_filter_le ..) (by simp)
def zeroA : AV := noAssoc.av (.r .nil) (.r .nil)
def AStepQ (x : Assoc × List Int) : AV → List (Nat × Blk) → Nat → List Nat → Prop := fun r hp _ _ =>
  ∃ b, hget hp b = some (.row 1 (x.2.map intRow)) ∧ (r = .tup [x.1.ro, .sl b 0 x.2.length] ∨ (x.1 = noAssoc ∧ r = .tup [zeroA, .sl b 0 x.2.length]))
theorem s_specAssocStep0 (a : Assoc) (p : Packet) (ha : SFit a.a) (hb : SFit a.b) (hl : p.chunks.length ≤ 2000000) : Spec Tryz.prog 50 0 [] [a.ro, p.ro] (AStepQ (assocStep a p)) := by
  have hav := s_specAssocValid a ha hb
  have hpv := s_specPacketValid p hl
  have hu : a.ro = .agg a.cellsA := rfl
  have hz : byBOf a p = (p.fr == a.to && p.to == a.fr) := by
    unfold byBOf
    rw [beq_dec, beq_dec, ← Bool.decide_and]
  refine mr50 rfl fun c hP hm => ?_
  unfold pc50
  unfold Packet.ro at hpv ⊢
  rw [hu] at hav ⊢
  unfold Assoc.cellsA at hav ⊢
  refine run_seq (run_wpc _ _ _ _ _ ?_)
  simp only [hm,go_sem,↓reduceIte]
  refine run_join (fun t => t = ⟨[(2, .ptr 0 0 0), (3, .ptr 1 0 0), (4, .ptr 2 0 0), (6, .bo (byBOf a p))], [(2, .var [.i 0, .i 0, .i 0, .bo false, .i 0, .i 0, .i 0, .r .nil, .i 0, .i 0, .i 0, .i 0, .r .nil, .i 0]), (1, .var [.i p.fr, .i p.to, .i p.tag, .r (.ro none (p.chunks.map Chunk.row))]), (0, .var a.cellsA)], 3, []⟩) (run_wpc _ _ _ _ _ ?_) ?_
  · rw [hz]
    simp only [hm,go_sem,↓reduceIte]
    repeat' first | refine And.intro ?_ ?_ | intro _
    all_goals first
      | (refine ⟨_, rfl, ?_⟩; simp only [*, beq_self_eq_true, Bool.true_and, Bool.false_and]; (refine le_ev [] ?_; simp only [hm,go_sem,↓reduceIte]; first | done | rfl | exact ⟨rfl, rfl⟩))
      | (refine ⟨_, rfl, ?_⟩; rw [beq_dec p.fr, decide_eq_false (by assumption), Bool.false_and]; (refine le_ev [] ?_; simp only [hm,go_sem,↓reduceIte]; first | done | rfl | exact ⟨rfl, rfl⟩))
  rintro t rfl
  have hbad : (assocB a = false ∨ packB p = false ∨ (byBOf a p = false ∧ ¬ (p.fr = a.fr ∧ p.to = a.to))) → assocStep a p = (noAssoc, []) := fun h => by
    unfold assocStep
    rw [if_pos]
    rcases h with h | h | ⟨h1, h2⟩
    · rw [h]; rfl
    · rw [h]; simp
    · rw [h1]
      have : decide (p.fr ≠ a.fr ∨ p.to ≠ a.to) = true := by
        simp only [decide_eq_true_eq]
        by_cases e : p.fr = a.fr
        · exact .inr fun e2 => h2 ⟨e, e2⟩
        · exact .inl e
      rw [this]; simp
  have hgood : assocB a = true → packB p = true → (byBOf a p = true ∨ (p.fr = a.fr ∧ p.to = a.to)) → assocStep a p = (if (rulesOf (brokenB a (byBOf a p) p (stepChunks (byBOf a p) p.chunks a []).2)).isEmpty then (stepChunks (byBOf a p) p.chunks a []).1 else a, rulesOf (brokenB a (byBOf a p) p (stepChunks (byBOf a p) p.chunks a []).2)) := fun h1 h2 h3 => by
    unfold assocStep
    rw [if_neg]
    rw [h1, h2]
    rcases h3 with h | ⟨e1, e2⟩
    · rw [h]; simp
    · simp [e1, e2]
  generalize hbb : byBOf a p = byB at *
  clear hz
  unfold Assoc.cellsA
  refine run_seq (run_wpc _ _ _ _ _ ?_)
  simp only [hm,go_sem,↓reduceIte]
  refine call_pure (hP ▸ hav) rfl rfl ?_
  cases h1 : assocB a
  · simp only [hm,go_sem,↓reduceIte]
    rw [hbad (.inl h1)]
    exact ⟨_, rfl, .inr ⟨rfl, rfl⟩⟩
  simp only [hm,go_sem,↓reduceIte]
  refine call_pure (hP ▸ hpv) rfl rfl ?_
  cases h2 : packB p
  · simp only [hm,go_sem,↓reduceIte]
    rw [hbad (.inr (.inl h2))]
    exact ⟨_, rfl, .inr ⟨rfl, rfl⟩⟩
  have hAW := assocB_AW h1
  have hstep := s_l31Step a byB p hAW h2
  have hcA := s_l31Copy a (by have := hAW.1.2.1; omega) (by have := hAW.2.2.1; omega)
  have hCW := stepChunks_ok byB p.chunks a [] hAW
  unfold Packet.ro at hstep
  rw [hu] at hstep hcA
  unfold Assoc.cellsA at hstep hcA
  generalize (stepChunks byB p.chunks a []).1 = o at *
  generalize brokenB a byB p (stepChunks byB p.chunks a []).2 = B at *
  have hco := s_l31Copy o (by have := hCW.1.2.1; omega) (by have := hCW.2.2.1; omega)
  have huo : o.ro = .agg o.cellsA := rfl
  rw [huo] at hstep hco
  unfold Assoc.cellsA at hstep hco
  have key : byB = true ∨ (byB = false ∧ p.fr = a.fr ∧ p.to = a.to) ∨ (byB = false ∧ ¬ (p.fr = a.fr ∧ p.to = a.to)) := by
    cases byB
    · by_cases h : p.fr = a.fr ∧ p.to = a.to
      · exact .inr (.inl ⟨rfl, h⟩)
      · exact .inr (.inr ⟨rfl, h⟩)
    · exact .inl rfl
  rcases key with hk | hk | hk
  case inr.inr =>
    obtain ⟨rfl, hk2⟩ := hk
    rw [hbad (.inr (.inr ⟨rfl, hk2⟩))]
    have hne : p.fr ≠ a.fr ∨ p.to ≠ a.to := by
      by_cases e : p.fr = a.fr
      · exact .inr fun e2 => hk2 ⟨e, e2⟩
      · exact .inl e
    simp only [hm,go_sem,↓reduceIte]
    repeat' first | refine And.intro ?_ ?_ | intro _
    all_goals first
      | exact ⟨_, rfl, .inr ⟨rfl, rfl⟩⟩
      | (exfalso; simp_all; done)
  case inl =>
    have hx := hgood h1 h2 (.inl hk)
    subst hk
    simp only [hm,go_sem,↓reduceIte]
    refine run_seq (run_wpc _ _ _ _ _ ?_)
    simp only [hm,go_sem,↓reduceIte]
    refine call_dataP (hP ▸ hstep) rfl rfl ?_
    simp only [hm,go_sem,↓reduceIte]
    refine run_seq (run_wpc _ _ _ _ _ ?_)
    simp only [hm,go_sem,↓reduceIte]
    refine run_seq (run_wpc _ _ _ _ _ ?_)
    simp only [hm,go_sem,↓reduceIte]
    rw [hx]
    refine run_exit 0 (fun t0 => t0 = ⟨[(2, .ptr 0 0 0), (4, .ptr 2 0 0), (7, .ptr 3 0 0), (9, .sl 4 0 (rulesTo B 12).length)], [(0, .var a.cellsA), (2, .var [.i 0, .i 0, .i 0, .bo false, .i 0, .i 0, .i 0, .r .nil, .i 0, .i 0, .i 0, .i 0, .r .nil, .i 0]), (3, .var o.cellsA), (4, .row 1 ((rulesTo B 12).map intRow))], 5, []⟩) ?_ ?_
    · refine lp_wpc (α := Nat) (fun i => ⟨[(2, .ptr 0 0 0), (4, .ptr 2 0 0), (7, .ptr 3 0 0), (8, .r (.ro none (bRows B))), (9, .sl 4 0 (rulesTo B i).length), (10, .i i)], [(0, .var a.cellsA), (2, .var [.i 0, .i 0, .i 0, .bo false, .i 0, .i 0, .i 0, .r .nil, .i 0, .i 0, .i 0, .i 0, .r .nil, .i 0]), (3, .var o.cellsA), (4, .row 1 ((rulesTo B i).map intRow))], 5, []⟩)
        (fun i => 1 ≤ i ∧ i ≤ 12) (fun i => 12 - i) 1 (by omega) (by simp only [rulesTo_1, List.map_nil, List.length_nil, Assoc.cellsA]; (refine le_ev [] ?_; simp only [hm,go_sem,↓reduceIte]; first | done | rfl | exact ⟨rfl, rfl⟩)) ?_
      rintro i ⟨hi1, hi⟩
      unfold pc50l0
      have hbl := bRows_len B
      rcases Nat.lt_or_ge i 12 with hil | hil
      · have hw1 : IntKind.i64.wrap ((i : Int) + 1) = ((i + 1 : Nat) : Int) := by rw [wrap64 (by omega) (by omega)]; omega
        have hg := bRows_get B hil
        have hs := rulesTo_succ B hi1
        have hle := rulesTo_le B i
        generalize rulesTo B i = rs at hs hle
        have hrt : List.take rs.length (rs.map intRow) = rs.map intRow := List.take_of_length_le (by simp)
        cases hBi : B i <;> rw [hBi] at hg hs <;> simp only [hw1, hg, hrt, hbl, Int.toNat_natCast, hm,go_sem,↓reduceIte]
        all_goals
          repeat' first | refine And.intro ?_ ?_ | intro _
        all_goals first
          | omega
          | (refine ⟨i + 1, ⟨by omega, by omega⟩, by omega, ?_⟩; rw [hs]; simp only [Bool.false_eq_true, if_false, if_true, List.append_nil, List.map_append, List.length_append, List.length_cons, List.length_nil, List.map_cons, List.map_nil, intRow]; (refine le_ev [] ?_; simp only [hm,go_sem,↓reduceIte]; first | done | rfl | exact ⟨rfl, rfl⟩))
      · have : i = 12 := by omega
        subst this
        simp only [hbl, hm,go_sem,↓reduceIte]
        repeat' first | refine And.intro ?_ ?_ | intro _
        all_goals first
          | omega
          | (refine ⟨_, rfl, ?_⟩; (refine le_ev [] ?_; simp only [hm,go_sem,↓reduceIte]; first | done | rfl | exact ⟨rfl, rfl⟩))
    rintro t0 rfl
    rw [if_pos rfl, rulesTo_12]
    generalize rulesOf B = rs at hx ⊢
    unfold Assoc.cellsA
    refine run_wpc _ _ _ _ _ ?_
    simp only [hm,go_sem,↓reduceIte]
    cases rs with
    | nil =>
      simp only [List.length_nil, List.isEmpty_nil, if_true, hm,go_sem,↓reduceIte]
      refine call_data (hP ▸ hco) rfl rfl ?_
      simp only [hm,go_sem,↓reduceIte]
      exact ⟨4, rfl, .inl rfl⟩
    | cons r rs =>
      simp only [List.length_cons, List.isEmpty_cons, Bool.false_eq_true, if_false, hm,go_sem,↓reduceIte]
      repeat' first | refine And.intro ?_ ?_ | intro _ | (refine call_data (hP ▸ hcA) rfl rfl ?_; simp only [hm,go_sem,↓reduceIte])
      all_goals first
        | omega
        | exact ⟨4, rfl, .inl rfl⟩
        | (exfalso; omega)
  case inr.inl =>
    obtain ⟨rfl, hk1, hk2⟩ := hk
    have hx := hgood h1 h2 (.inr ⟨hk1, hk2⟩)
    rw [hk1, hk2] at hstep
    simp only [hk1, hk2, hm,go_sem,↓reduceIte]
    refine run_seq (run_wpc _ _ _ _ _ ?_)
    simp only [hm,go_sem,↓reduceIte]
    refine call_dataP (hP ▸ hstep) rfl rfl ?_
    simp only [hm,go_sem,↓reduceIte]
    refine run_seq (run_wpc _ _ _ _ _ ?_)
    simp only [hm,go_sem,↓reduceIte]
    refine run_seq (run_wpc _ _ _ _ _ ?_)
    simp only [hm,go_sem,↓reduceIte]
    rw [hx]
    refine run_exit 0 (fun t0 => t0 = ⟨[(2, .ptr 0 0 0), (4, .ptr 2 0 0), (7, .ptr 3 0 0), (9, .sl 4 0 (rulesTo B 12).length)], [(0, .var a.cellsA), (2, .var [.i 0, .i 0, .i 0, .bo false, .i 0, .i 0, .i 0, .r .nil, .i 0, .i 0, .i 0, .i 0, .r .nil, .i 0]), (3, .var o.cellsA), (4, .row 1 ((rulesTo B 12).map intRow))], 5, []⟩) ?_ ?_
    · refine lp_wpc (α := Nat) (fun i => ⟨[(2, .ptr 0 0 0), (4, .ptr 2 0 0), (7, .ptr 3 0 0), (8, .r (.ro none (bRows B))), (9, .sl 4 0 (rulesTo B i).length), (10, .i i)], [(0, .var a.cellsA), (2, .var [.i 0, .i 0, .i 0, .bo false, .i 0, .i 0, .i 0, .r .nil, .i 0, .i 0, .i 0, .i 0, .r .nil, .i 0]), (3, .var o.cellsA), (4, .row 1 ((rulesTo B i).map intRow))], 5, []⟩)
        (fun i => 1 ≤ i ∧ i ≤ 12) (fun i => 12 - i) 1 (by omega) (by simp only [rulesTo_1, List.map_nil, List.length_nil, Assoc.cellsA]; (refine le_ev [] ?_; simp only [hm,go_sem,↓reduceIte]; first | done | rfl | exact ⟨rfl, rfl⟩)) ?_
      rintro i ⟨hi1, hi⟩
      unfold pc50l0
      have hbl := bRows_len B
      rcases Nat.lt_or_ge i 12 with hil | hil
      · have hw1 : IntKind.i64.wrap ((i : Int) + 1) = ((i + 1 : Nat) : Int) := by rw [wrap64 (by omega) (by omega)]; omega
        have hg := bRows_get B hil
        have hs := rulesTo_succ B hi1
        have hle := rulesTo_le B i
        generalize rulesTo B i = rs at hs hle
        have hrt : List.take rs.length (rs.map intRow) = rs.map intRow := List.take_of_length_le (by simp)
        cases hBi : B i <;> rw [hBi] at hg hs <;> simp only [hw1, hg, hrt, hbl, Int.toNat_natCast, hm,go_sem,↓reduceIte]
        all_goals
          repeat' first | refine And.intro ?_ ?_ | intro _
        all_goals first
          | omega
          | (refine ⟨i + 1, ⟨by omega, by omega⟩, by omega, ?_⟩; rw [hs]; simp only [Bool.false_eq_true, if_false, if_true, List.append_nil, List.map_append, List.length_append, List.length_cons, List.length_nil, List.map_cons, List.map_nil, intRow]; (refine le_ev [] ?_; simp only [hm,go_sem,↓reduceIte]; first | done | rfl | exact ⟨rfl, rfl⟩))
      · have : i = 12 := by omega
        subst this
        simp only [hbl, hm,go_sem,↓reduceIte]
        repeat' first | refine And.intro ?_ ?_ | intro _
        all_goals first
          | omega
          | (refine ⟨_, rfl, ?_⟩; (refine le_ev [] ?_; simp only [hm,go_sem,↓reduceIte]; first | done | rfl | exact ⟨rfl, rfl⟩))
    rintro t0 rfl
    rw [if_pos rfl, rulesTo_12]
    generalize rulesOf B = rs at hx ⊢
    unfold Assoc.cellsA
    refine run_wpc _ _ _ _ _ ?_
    simp only [hm,go_sem,↓reduceIte]
    cases rs with
    | nil =>
      simp only [List.length_nil, List.isEmpty_nil, if_true, hm,go_sem,↓reduceIte]
      refine call_data (hP ▸ hco) rfl rfl ?_
      simp only [hm,go_sem,↓reduceIte]
      exact ⟨4, rfl, .inl rfl⟩
    | cons r rs =>
      simp only [List.length_cons, List.isEmpty_cons, Bool.false_eq_true, if_false, hm,go_sem,↓reduceIte]
      repeat' first | refine And.intro ?_ ?_ | intro _ | (refine call_data (hP ▸ hcA) rfl rfl ?_; simp only [hm,go_sem,↓reduceIte])
      all_goals first
        | omega
        | exact ⟨4, rfl, .inl rfl⟩
        | (exfalso; omega)
theorem s_specAssocStep (a : Assoc) (p : Packet) (ha : SFit a.a) (hb : SFit a.b) (hl : p.chunks.length ≤ 2000000) : Spec Tryz.prog 50 0 [] [a.ro, p.ro] (Plain fun r => r = .tup [(assocStep a p).1.ro, .r (.ro none ((assocStep a p).2.map intRow))]) := by
  refine Spec.le (s_specAssocStep0 a p ha hb hl) fun r hp nx gs h => ⟨_, [], 0, [], ⟨rfl, rfl, rfl, rfl⟩, fun c hc => ?_⟩
  obtain ⟨b, hb, h⟩ := h
  generalize assocStep a p = x at hb h
  obtain ⟨x, rs⟩ := x
  simp only at hb h
  rcases h with rfl | ⟨rfl, rfl⟩
  · have hu : x.ro = .agg x.cellsA := rfl
    rw [hu]
    unfold Assoc.cellsA
    refine Le.trans (t := ⟨[(0, .tup [.agg x.cellsA, .sl 0 0 rs.length])], [(0, .row 1 (rs.map intRow))], 1, []⟩) (le_ev [(0, b)] (by simp only [hc, go_sem, ↓reduceIte, hb])) ?_
    refine Le.trans (le_frz 0 rfl (by simp only [List.length_map,go_sem,↓reduceIte]) (by simp only [go_sem, ↓reduceIte])) ?_
    simp only [take_map_len, List.drop_zero,go_sem,↓reduceIte]
    exact le_ev [] (by simp only [hc,go_sem,↓reduceIte])
  · unfold zeroA
    refine Le.trans (t := ⟨[(0, .tup [noAssoc.av (.r .nil) (.r .nil), .sl 0 0 rs.length])], [(0, .row 1 (rs.map intRow))], 1, []⟩) (le_ev [(0, b)] (by simp only [Assoc.av, hc, go_sem, ↓reduceIte, hb])) ?_
    unfold Assoc.av
    refine Le.trans (le_frz 0 rfl (by simp only [List.length_map,go_sem,↓reduceIte]) (by simp only [go_sem, ↓reduceIte])) ?_
    simp only [take_map_len, List.drop_zero,go_sem,↓reduceIte]
    refine Le.trans le_denil ?_
    exact le_ev [] (by simp only [hc, Assoc.ro, Assoc.av, noAssoc, noSide, List.map_nil,go_sem,↓reduceIte])
theorem byte_range (s : List UInt8) (i : Nat) : 0 ≤ ((s.getD i 0).toNat : Int) ∧ ((s.getD i 0).toNat : Int) < 256 := ⟨Int.natCast_nonneg _, byte_lt _⟩
end Go.Cap
namespace Go.Cap
theorem call_denil {c : Cx} {f : Nat} {args : List AV} {s : St} {K : AV → St → Prop} (h : Call c f (args.map denil) s K) : Call c f args s K := by
  intro M ι w W vs hvs
  refine h M ι w W vs ⟨by rw [List.length_map]; exact hvs.1, fun j y v hy hv => ?_⟩
  rw [List.getElem?_map] at hy
  cases hj : args[j]? with
  | none => rw [hj] at hy; cases hy
  | some c0 =>
    rw [hj] at hy
    cases hy
    exact (hvs.2 j c0 v hj hv).denil
end Go.Cap
namespace Go.Cap
attribute [local irreducible] Call Run Spec Le
def Mon.own (m : Mon) : AV := .agg [.i m.records, .sl 0 0 m.list.length, .sl 1 0 m.found.length]
theorem s_l32Copy (m : Mon) (hl : m.list.length ≤ 1000) (hf : m.found.length ≤ 1000000) (ha : ∀ a ∈ m.list, AW a) : Spec Tryz.prog 43 0 [] [m.ro] (fun r hp nx gs => r = m.own ∧ hp = [(0, .row 14 (m.list.map Assoc.row)), (1, .row 2 (m.found.map Fnd.row))] ∧ nx = 2 ∧ gs = []) := by
  refine Spec.le (Q := fun r hp _ _ => ∃ b1 b2, b1 ≠ b2 ∧ r = .agg [.i m.records, .sl b1 0 m.list.length, .sl b2 0 m.found.length] ∧ hget hp b1 = some (.row 14 (m.list.map Assoc.row)) ∧ hget hp b2 = some (.row 2 (m.found.map Fnd.row))) ?_ ?_
  · refine mr43 rfl fun c hP hm => ?_
    unfold pc43 Mon.ro
    have hrf : rowsN 2 (m.found.map Fnd.row) := fun r hr => by obtain ⟨d, _, rfl⟩ := List.mem_map.1 hr; rfl
    refine run_seq (run_wpc _ _ _ _ _ ?_)
    simp only [hm,go_sem,↓reduceIte]
    refine run_join (fun t => t = ⟨[(1, .ptr 0 0 0), (2, .ptr 1 0 0), (3, .ptr 2 0 0)], [(0, .var [.i m.records, .r (.ro none (m.list.map Assoc.row)), .r (.ro none (m.found.map Fnd.row))]), (1, .var [.i 0, .r .nil, .r .nil]), (2, .var [.i m.records, .sl 3 0 0, .sl 4 0 m.found.length]), (3, .row 14 []), (4, .row 2 (m.found.map Fnd.row))], 5, []⟩) (run_wpc _ _ _ _ _ ?_) ?_
    · simp only [hm,go_sem,↓reduceIte]
      repeat' first | refine And.intro ?_ ?_ | intro _
      all_goals first
        | omega
        | exact hrf
        | (rename_i r hr; exact hrf r hr)
        | (simp only [List.length_map]; omega)
        | (refine ⟨_, rfl, ?_⟩; (refine le_ev [(3, 2), (4, 3), (2, 4)] ?_; simp only [hm,go_sem,↓reduceIte]; first | done | rfl | exact ⟨rfl, rfl⟩))
        | (refine ⟨_, rfl, ?_⟩; (refine le_ev [(3, 3), (4, 2), (2, 4)] ?_; simp only [hm,go_sem,↓reduceIte]; first | done | rfl | exact ⟨rfl, rfl⟩))
        | (refine ⟨_, rfl, ?_⟩; (refine le_ev [(3, 2), (4, 4), (2, 3)] ?_; simp only [hm,go_sem,↓reduceIte]; first | done | rfl | exact ⟨rfl, rfl⟩))
        | (refine ⟨_, rfl, ?_⟩; (refine le_ev [(3, 4), (4, 2), (2, 3)] ?_; simp only [hm,go_sem,↓reduceIte]; first | done | rfl | exact ⟨rfl, rfl⟩))
        | (refine ⟨_, rfl, ?_⟩; (refine le_ev [(3, 3), (4, 4), (2, 2)] ?_; simp only [hm,go_sem,↓reduceIte]; first | done | rfl | exact ⟨rfl, rfl⟩))
        | (refine ⟨_, rfl, ?_⟩; (refine le_ev [(3, 4), (4, 3), (2, 2)] ?_; simp only [hm,go_sem,↓reduceIte]; first | done | rfl | exact ⟨rfl, rfl⟩))
    rintro t rfl
    refine run_seq (run_wpc _ _ _ _ _ ?_)
    simp only [hm,go_sem,↓reduceIte]
    refine run_exit 0 (fun t0 => t0 = ⟨[(2, .ptr 1 0 0), (3, .ptr 2 0 0)], [(1, .var [.i 0, .r .nil, .r .nil]), (2, .var [.i m.records, .sl 3 0 m.list.length, .sl 4 0 m.found.length]), (3, .row 14 (m.list.map Assoc.row)), (4, .row 2 (m.found.map Fnd.row))], 5, []⟩) ?_ ?_
    · refine lp_wpc (α := Nat) (fun i => ⟨[(1, .ptr 0 0 0), (2, .ptr 1 0 0), (3, .ptr 2 0 0), (4, .i i)], [(0, .var [.i m.records, .r (.ro none (m.list.map Assoc.row)), .r (.ro none (m.found.map Fnd.row))]), (1, .var [.i 0, .r .nil, .r .nil]), (2, .var [.i m.records, .sl 3 0 (m.list.take i).length, .sl 4 0 m.found.length]), (3, .row 14 ((m.list.take i).map Assoc.row)), (4, .row 2 (m.found.map Fnd.row))], 5, []⟩)
        (fun i => i ≤ m.list.length) (fun i => m.list.length - i) 0 (Nat.zero_le _) (by rw [List.take_zero]; simp only [List.map_nil, List.length_nil]; (refine le_ev [] ?_; simp only [hm,go_sem,↓reduceIte]; first | done | rfl | exact ⟨rfl, rfl⟩)) ?_
      intro i hi
      unfold pc43l0
      rcases Nat.lt_or_ge i m.list.length with hil | hil
      · have hw1 : IntKind.i64.wrap ((i : Int) + 1) = ((i + 1 : Nat) : Int) := by rw [wrap64 (by omega) (by omega)]; omega
        have hg := getD_map (f := Assoc.row) hil
        have htk := take_get hil
        have hax := ha _ (List.getElem_mem hil)
        have hlt : (m.list.take i).length ≤ 1000 := by rw [List.length_take]; omega
        generalize m.list[i] = x at hg htk hax
        generalize m.list.take i = l at htk hlt
        have hrt : List.take l.length (l.map Assoc.row) = l.map Assoc.row := List.take_of_length_le (by simp)
        have hcp := s_l31Copy x (by have := hax.1.2.1; omega) (by have := hax.2.2.1; omega)
        have hux : x.ro = .agg x.cellsA := rfl
        rw [hux] at hcp
        unfold Assoc.cellsA at hcp
        simp only [hw1, hrt, Int.toNat_natCast, hg, Assoc.row, Assoc.cellsX, hm,go_sem,↓reduceIte]
        repeat' first
          | refine And.intro ?_ ?_
          | intro _
          | (refine call_data (hP ▸ hcp) rfl rfl ?_; simp only [hw1, hrt, Int.toNat_natCast, hg, Assoc.row, Assoc.cellsX, hm,go_sem,↓reduceIte])
        all_goals first
          | omega
          | (refine ⟨i + 1, hil, by omega, ?_⟩
             rw [htk]
             simp only [List.map_append, List.length_append, List.length_cons, List.length_nil, List.map_cons, List.map_nil, Assoc.row, Assoc.cellsX]
             (refine le_ev [] ?_; simp only [hm,go_sem,↓reduceIte]; first | done | rfl | exact ⟨rfl, rfl⟩))
      · have : i = m.list.length := by omega
        subst this
        rw [List.take_length]
        simp only [hm,go_sem,↓reduceIte]
        repeat' first | refine And.intro ?_ ?_ | intro _
        all_goals first
          | omega
          | (refine ⟨_, rfl, ?_⟩; (refine le_ev [] ?_; simp only [hm,go_sem,↓reduceIte]; first | done | rfl | exact ⟨rfl, rfl⟩))
    rintro t0 rfl
    rw [if_pos rfl]
    refine run_wpc _ _ _ _ _ ?_
    simp only [hm,go_sem,↓reduceIte]
    exact ⟨3, 4, by decide, rfl, rfl, rfl⟩
  · rintro r hp nx gs ⟨b1, b2, hne, rfl, h1, h2⟩
    refine ⟨_, _, 2, [], ⟨rfl, rfl, rfl, rfl⟩, fun c hc => ?_⟩
    unfold Mon.own
    refine le_ev [(0, b1), (1, b2)] ?_
    simp only [hc, go_sem, ↓reduceIte, h1, h2, List.mem_cons, List.not_mem_nil, or_false, not_false_eq_true, and_self]
    exact fun e => hne e.symm
theorem s_l32Note (rc code : Int) (X : List (List RV)) (F : List Fnd) (hr : 0 ≤ rc ∧ rc ≤ 1000) (hF : F.length ≤ 1000000) : Spec Tryz.prog 45 1 [(0, .row 2 (F.map Fnd.row))] [.agg [.i rc, .r (.ro none X), .sl 0 0 F.length], .i code]
    (fun r hp nx gs => r = .agg [.i rc, .r (.ro none X), .sl 1 0 (F.length + 1)] ∧ hp = [(1, .row 2 ((F ++ [(⟨rc - 1, code⟩ : Fnd)]).map Fnd.row))] ∧ nx = 2 ∧ gs = []) := by
  refine Spec.le (Q := fun r hp _ _ => ∃ b, r = .agg [.i rc, .r (.ro none X), .sl b 0 (F.length + 1)] ∧ hget hp b = some (.row 2 ((F ++ [(⟨rc - 1, code⟩ : Fnd)]).map Fnd.row)) ∧ b ≠ 0) ?_ ?_
  · refine mk45 rfl fun c hP hm => ?_
    unfold pc45
    have hw : IntKind.i64.wrap (rc - 1) = rc - 1 := wrap64 (by omega) (by omega)
    have hrt : List.take F.length (F.map Fnd.row) = F.map Fnd.row := List.take_of_length_le (by simp)
    simp only [hw, hrt, hm,go_sem,↓reduceIte]
    refine ⟨by omega, _, rfl, by simp [Fnd.row], by decide⟩
  · rintro r hp nx gs ⟨b, rfl, h1, h2⟩
    refine ⟨_, _, 2, [], ⟨rfl, rfl, rfl, rfl⟩, fun c hc => ?_⟩
    refine le_ev [(1, b)] ?_
    simp only [hc, go_sem, ↓reduceIte, h1]
theorem c_l32Note {c : Cx} (hP : c.P = Tryz.prog) {rc code : Int} {X : List (List RV)} {F : List Fnd} (hr : 0 ≤ rc ∧ rc ≤ 1000) (hF : F.length ≤ 1000000) {s : St} {K : AV → St → Prop} (b : Nat) (hb : hget s.hp b = some (.row 2 (F.map Fnd.row)))
    (hK : K (.agg [.i rc, .r (.ro none X), .sl s.nx 0 (F.length + 1)]) ⟨s.sl, (s.nx, .row 2 ((F ++ [(⟨rc - 1, code⟩ : Fnd)]).map Fnd.row)) :: hdel s.hp b, s.nx + 1, s.gs⟩) : Call c 45 [.agg [.i rc, .r (.ro none X), .sl b 0 F.length], .i code] s K :=
  call_named1G b (hP ▸ s_l32Note rc code X F hr hF) hb rfl rfl fun r hp' nx' gs' ⟨h1, h2, h3, h4⟩ => by
    subst h1; subst h2; subst h3; subst h4
    simpa [renA, renA.renL, renH, renB, idf] using hK
theorem sackGet_none {k : Chunk} (h : k.kind = 3 → k.flags = 0 → k.body.length % 4 = 2 → sackB (sackOf k) = true → False) : sackGet k = none := by
  unfold sackGet
  rw [if_neg]
  simp only [Bool.and_eq_true, decide_eq_true_eq]
  rintro ⟨⟨⟨h1, h2⟩, h3⟩, h4⟩
  exact h h1 h2 h3 h4
theorem sackGet_some {k : Chunk} (h1 : k.kind = 3) (h2 : k.flags = 0) (h3 : k.body.length % 4 = 2) (h4 : sackB (sackOf k) = true) : sackGet k = some (sackOf k) := by
  unfold sackGet
  rw [if_pos]
  simp only [Bool.and_eq_true, decide_eq_true_eq]
  exact ⟨⟨⟨h1, h2⟩, h3⟩, h4⟩
def sackSt (k : Chunk) (gs : List Gap) : Nat → St
  | 0 => ⟨[(1, .ptr 0 0 0), (2, .ptr 1 0 0), (4, .ptr 2 0 0), (5, .i 2)], [(0, .var [.i k.kind, .i k.flags, .st k.body]), (1, .var [.i 0, .r .nil]), (2, .var [.i (at2 k.body 0), .r .nil])], 3, []⟩
  | i + 1 => ⟨[(1, .ptr 0 0 0), (2, .ptr 1 0 0), (4, .ptr 2 0 0), (5, .i (2 + 4 * ((i + 1 : Nat) : Int)))], [(0, .var [.i k.kind, .i k.flags, .st k.body]), (1, .var [.i 0, .r .nil]), (2, .var [.i (at2 k.body 0), .sl 3 0 (i + 1)]), (3, .row 2 ((gs.take (i + 1)).map Gap.row))], 4, []⟩
def sackFin (k : Chunk) (gs : List Gap) : Nat → St
  | 0 => ⟨[(2, .ptr 1 0 0), (4, .ptr 2 0 0)], [(1, .var [.i 0, .r .nil]), (2, .var [.i (at2 k.body 0), .r .nil])], 3, []⟩
  | i + 1 => ⟨[(2, .ptr 1 0 0), (4, .ptr 2 0 0)], [(1, .var [.i 0, .r .nil]), (2, .var [.i (at2 k.body 0), .sl 3 0 (i + 1)]), (3, .row 2 ((gs.take (i + 1)).map Gap.row))], 4, []⟩
theorem sackSt_zero (k : Chunk) (gs : List Gap) : sackSt k gs 0 = ⟨[(1, .ptr 0 0 0), (2, .ptr 1 0 0), (4, .ptr 2 0 0), (5, .i 2)], [(0, .var [.i k.kind, .i k.flags, .st k.body]), (1, .var [.i 0, .r .nil]), (2, .var [.i (at2 k.body 0), .r .nil])], 3, []⟩ := rfl
theorem sackSt_succ (k : Chunk) (gs : List Gap) (i : Nat) : sackSt k gs (i + 1) = ⟨[(1, .ptr 0 0 0), (2, .ptr 1 0 0), (4, .ptr 2 0 0), (5, .i (2 + 4 * ((i + 1 : Nat) : Int)))], [(0, .var [.i k.kind, .i k.flags, .st k.body]), (1, .var [.i 0, .r .nil]), (2, .var [.i (at2 k.body 0), .sl 3 0 (i + 1)]), (3, .row 2 ((gs.take (i + 1)).map Gap.row))], 4, []⟩ := rfl
theorem sackFin_zero (k : Chunk) (gs : List Gap) : sackFin k gs 0 = ⟨[(2, .ptr 1 0 0), (4, .ptr 2 0 0)], [(1, .var [.i 0, .r .nil]), (2, .var [.i (at2 k.body 0), .r .nil])], 3, []⟩ := rfl
theorem sackFin_succ (k : Chunk) (gs : List Gap) (i : Nat) : sackFin k gs (i + 1) = ⟨[(2, .ptr 1 0 0), (4, .ptr 2 0 0)], [(1, .var [.i 0, .r .nil]), (2, .var [.i (at2 k.body 0), .sl 3 0 (i + 1)]), (3, .row 2 ((gs.take (i + 1)).map Gap.row))], 4, []⟩ := rfl
theorem s_implSackGet0 (k : Chunk) (hs : k.body.length ≤ 1000000) : Spec Tryz.prog 110 0 [] [k.av] (fun r hp _ _ => (sackGet k = none ∧ r = .tup [.agg [.i 0, .r .nil], .bo false]) ∨ ∃ x, sackGet k = some x ∧ ((x.gaps = [] ∧ r = .tup [.agg [.i x.cum, .r .nil], .bo true]) ∨ ∃ b, r = .tup [.agg [.i x.cum, .sl b 0 x.gaps.length], .bo true] ∧ hget hp b = some (.row 2 (x.gaps.map Gap.row)))) := by
  refine mr110 rfl fun c hP hm => ?_
  unfold pc110 Chunk.av
  refine run_seq (run_wpc _ _ _ _ _ ?_)
  simp only [hm,go_sem,↓reduceIte]
  refine run_seq (run_wpc _ _ _ _ _ ?_)
  simp only [hm,go_sem,↓reduceIte]
  rw [tmod_nn (by omega)]
  repeat' first | refine And.intro ?_ ?_ | intro _
  all_goals first
    | (left; refine sackGet_none fun h1 h2 h3 h4 => ?_; omega)
    | (left; refine ⟨sackGet_none fun h1 h2 h3 h4 => ?_, rfl⟩; omega)
    | skip
  refine run_seq (run_wpc _ _ _ _ _ ?_)
  simp only [hm,go_sem,↓reduceIte]
  refine run_seq (run_wpc _ _ _ _ _ ?_)
  simp only [hm,go_sem,↓reduceIte]
  refine call_pure (hP ▸ s_WordGet _ _ (by omega) (by omega)) rfl rfl ?_
  simp only [hm,go_sem,↓reduceIte]
  have hgs : (sackOf k).gaps = (List.range ((k.body.length - 2) / 4)).map (gapAt k.body) := gapsOf_body k.body
  have hlen : (sackOf k).gaps.length = (k.body.length - 2) / 4 := by rw [hgs]; simp
  have hcum : (sackOf k).cum = at2 k.body 0 := rfl
  have hnn : (k.body.length - 2) / 4 * 4 + 2 = k.body.length := by omega
  generalize hn : (k.body.length - 2) / 4 = n at hlen hgs hnn
  refine run_seq (run_wpc _ _ _ _ _ ?_)
  simp only [hm,go_sem,↓reduceIte]
  refine run_exit 0 (fun t0 => t0 = sackFin k (sackOf k).gaps n) ?_ ?_
  · refine lp_wpc (α := Nat) (fun i => sackSt k (sackOf k).gaps i) (fun i => i ≤ n) (fun i => n - i) 0 (Nat.zero_le _) (by rw [sackSt_zero]; (refine le_ev [] ?_; simp only [hm,go_sem,↓reduceIte]; first | done | rfl | exact ⟨rfl, rfl⟩)) ?_
    intro i hi
    unfold pc110l0
    rcases Nat.lt_or_ge i n with hil | hil
    · have htk := range_map_take (gapAt k.body) hil
      rw [← hgs] at htk
      have hl : ((sackOf k).gaps.take i).length = i := by rw [List.length_take]; omega
      cases i with
      | zero =>
        rw [sackSt_zero]
        simp only [List.take_zero, List.nil_append] at htk
        have w2 : IntKind.i64.wrap (2 + 2) = 4 := wrap64 (by omega) (by omega)
        have w4 : IntKind.i64.wrap (2 + 4) = 6 := wrap64 (by omega) (by omega)
        simp only [w2, w4, hm,go_sem,↓reduceIte]
        repeat' first
          | refine And.intro ?_ ?_
          | intro _
          | (refine call_pure (hP ▸ s_WordGet _ _ (by omega) (by omega)) rfl rfl ?_; simp only [w2, w4, hm,go_sem,↓reduceIte])
        all_goals first
          | omega
          | (refine ⟨0 + 1, hil, by omega, ?_⟩
             rw [sackSt_succ, htk]
             simp only [List.map_cons, List.map_nil, Gap.row, gapAt]
             (refine le_ev [(3, 5)] ?_; simp only [hm,go_sem,↓reduceIte]; first | done | rfl | exact ⟨rfl, rfl⟩))
      | succ i =>
        rw [sackSt_succ]
        generalize (sackOf k).gaps.take (i + 1) = gs at htk hl
        have hrt : List.take (i + 1) (gs.map Gap.row) = gs.map Gap.row := List.take_of_length_le (by simp; omega)
        have hw4 : IntKind.i64.wrap (2 + 4 * ((i + 1 : Nat) : Int) + 4) = 2 + 4 * ((i + 1 + 1 : Nat) : Int) := by rw [wrap64 (by omega) (by omega)]; omega
        have hw2 : IntKind.i64.wrap (2 + 4 * ((i + 1 : Nat) : Int) + 2) = 2 + 4 * ((i + 1 : Nat) : Int) + 2 := wrap64 (by omega) (by omega)
        have e1 : (2 + 4 * ((i + 1 : Nat) : Int)).toNat = 2 + 4 * (i + 1) := by omega
        have e2 : (2 + 4 * ((i + 1 : Nat) : Int) + 2).toNat = 2 + 4 * (i + 1) + 2 := by omega
        simp only [hw4, hw2, hrt, hm,go_sem,↓reduceIte]
        repeat' first
          | refine And.intro ?_ ?_
          | intro _
          | (refine call_pure (hP ▸ s_WordGet _ _ (by omega) (by omega)) rfl rfl ?_; simp only [hw4, hw2, hrt, e1, e2, hm,go_sem,↓reduceIte])
        all_goals first
          | omega
          | (simp only [List.length_map]; omega)
          | (refine ⟨i + 1 + 1, hil, by omega, ?_⟩
             rw [sackSt_succ, htk]
             simp only [List.map_append, List.map_cons, List.map_nil, Gap.row, gapAt]
             (refine le_ev [] ?_; simp only [hm,go_sem,↓reduceIte]; first | done | rfl | exact ⟨rfl, rfl⟩))
    · have : i = n := by omega
      subst this
      cases i with
      | zero =>
        rw [sackSt_zero]
        simp only [hm,go_sem,↓reduceIte]
        repeat' first | refine And.intro ?_ ?_ | intro _
        all_goals first
          | omega
          | (refine ⟨_, rfl, ?_⟩; rw [sackFin_zero]; (refine le_ev [] ?_; simp only [hm,go_sem,↓reduceIte]; first | done | rfl | exact ⟨rfl, rfl⟩))
      | succ i =>
        rw [sackSt_succ]
        simp only [hm,go_sem,↓reduceIte]
        repeat' first | refine And.intro ?_ ?_ | intro _
        all_goals first
          | omega
          | (refine ⟨_, rfl, ?_⟩; rw [sackFin_succ]; (refine le_ev [] ?_; simp only [hm,go_sem,↓reduceIte]; first | done | rfl | exact ⟨rfl, rfl⟩))
  rintro t0 rfl
  have hcs := s_sackOk (sackOf k) (by omega)
  unfold Sack.ro at hcs
  generalize hso : sackOf k = so at *
  have hfail : sackB so = false → sackGet k = none := fun hb => sackGet_none fun h1 h2 h3 h4 => by rw [hso, hb] at h4; cases h4
  have hgood : sackB so = true → sackGet k = some so := fun hb => by rw [sackGet_some (by omega) (by omega) (by omega) (by rw [hso]; exact hb), hso]
  cases n with
  | zero =>
    rw [sackFin_zero, ← hcum]
    have hnil : so.gaps = [] := List.length_eq_zero_iff.1 hlen
    rw [hnil, List.map_nil] at hcs
    refine run_wpc _ _ _ _ _ ?_
    simp only [hm,go_sem,↓reduceIte]
    refine call_denil ?_
    simp only [hm,go_sem,↓reduceIte]
    refine call_pure (hP ▸ hcs) rfl rfl ?_
    simp only [hm,go_sem,↓reduceIte]
    repeat' first | refine And.intro ?_ ?_ | intro _
    all_goals first
      | omega
      | (rename_i hb; left; exact hfail hb)
      | (rename_i hb; right; exact ⟨so, hgood hb, .inl ⟨hnil, rfl⟩⟩)
  | succ n =>
    rw [sackFin_succ, ← hlen, List.take_length, ← hcum]
    refine run_wpc _ _ _ _ _ ?_
    simp only [hm,go_sem,↓reduceIte]
    refine call_flat (hP ▸ hcs) rfl (.cons (vw_agg (.cons (vw_self _ _ rfl) (.cons (Vw.full rfl (by simp)) .nil))) .nil) ?_
    simp only [hm,go_sem,↓reduceIte]
    repeat' first | refine And.intro ?_ ?_ | intro _
    all_goals first
      | omega
      | (rename_i hb; left; exact hfail hb)
      | (rename_i hb; right; exact ⟨so, hgood hb, .inr ⟨3, rfl, rfl⟩⟩)
theorem s_implSackGet (k : Chunk) (hs : k.body.length ≤ 1000000) : Spec Tryz.prog 110 0 [] [k.av] (Plain fun r => r = .tup [((sackGet k).getD noSack).ro, .bo (sackGet k).isSome]) := by
  refine Spec.le (s_implSackGet0 k hs) fun r hp nx gs h => ⟨_, [], 0, [], ⟨rfl, rfl, rfl, rfl⟩, fun c hc => ?_⟩
  rcases h with ⟨h, rfl⟩ | ⟨x, h, ⟨hn, rfl⟩ | ⟨b, rfl, hb⟩⟩
  · rw [h]
    refine Le.trans (t := ⟨[(0, .tup [.agg [.i 0, .r .nil], .bo false])], [], 0, []⟩) (le_ev [] (by simp only [hc,go_sem,↓reduceIte])) le_denil
  · rw [h]
    refine Le.trans (t := ⟨[(0, .tup [.agg [.i x.cum, .r .nil], .bo true])], [], 0, []⟩) (le_ev [] (by simp only [hc,go_sem,↓reduceIte])) ?_
    have e : (Sack.ro x) = .agg [.i x.cum, .r (.ro none [])] := by unfold Sack.ro; rw [hn]; rfl
    simp only [Option.getD_some, Option.isSome_some, e]
    exact le_denil
  · rw [h]
    refine Le.trans (t := ⟨[(0, .tup [.agg [.i x.cum, .sl 0 0 x.gaps.length], .bo true])], [(0, .row 2 (x.gaps.map Gap.row))], 1, []⟩) (le_ev [(0, b)] (by simp only [hc, go_sem, ↓reduceIte, hb])) ?_
    refine Le.trans (le_frz 0 rfl (by simp only [List.length_map,go_sem,↓reduceIte]) (by simp only [go_sem, ↓reduceIte])) ?_
    simp only [take_map_len, List.drop_zero,go_sem,↓reduceIte]
    exact le_ev [] (by simp only [hc, Option.getD_some, Option.isSome_some, Sack.ro,go_sem,↓reduceIte])
theorem s_implSerialDiff (a b : Int) (ha : 0 ≤ a ∧ a < 65536) (hb : 0 ≤ b ∧ b < 65536) : Spec Tryz.prog 111 0 [] [.i a, .i b] (fun r _ _ _ => r = .i (l3d a b)) := by
  refine mk111 rfl fun c hP hm => ?_
  unfold pc111
  have hsa : serialB a = true := by unfold serialB; exact decide_eq_true ha
  have hsb : serialB b = true := by unfold serialB; exact decide_eq_true hb
  have w1 : IntKind.i64.wrap (b - a) = b - a := wrap64 (by omega) (by omega)
  have w2 : IntKind.i64.wrap (b - a + 65536) = b - a + 65536 := wrap64 (by omega) (by omega)
  have e : (b - a + 65536).tmod 65536 = l3 b (-a) := by rw [tmod_nn (by omega)]; unfold l3; omega
  have hK := l3_range b (-a)
  unfold l3d
  simp only [hm,go_sem,↓reduceIte]
  repeat' first
    | refine And.intro ?_ ?_
    | intro _
    | (refine c_serialOk hP ?_; simp only [hsa, hsb, w1, w2, e, hm,go_sem,↓reduceIte])
  all_goals
    generalize l3 b (-a) = K at *
    first
    | omega
    | (rw [if_pos (by omega)]; rw [wrap64 (by omega) (by omega)])
    | (rw [if_neg (by omega)])
def MW (n : Nat) (m : Mon) : Prop := m.list.length ≤ 3 ∧ (∀ a ∈ m.list, AW a) ∧ m.found.length ≤ n
theorem noSide_SW : SW noSide := ⟨by decide, by decide, fun d hd => by cases hd⟩
theorem assocStep_AW (a : Assoc) (p : Packet) : AW (assocStep a p).1 := by
  unfold assocStep
  split
  · exact ⟨noSide_SW, noSide_SW⟩
  · rename_i h
    have ha : assocB a = true := by
      cases hb : assocB a
      · rw [hb] at h; exact absurd rfl h
      · rfl
    simp only
    split
    · exact stepChunks_ok _ _ _ _ (assocB_AW ha)
    · exact assocB_AW ha
theorem assocStep_le (a : Assoc) (p : Packet) : (assocStep a p).2.length ≤ 12 := by
  unfold assocStep
  split
  · simp
  · exact rulesTo_le _ 12
theorem side_acked {s : Side} (h : sideB s = true) : 0 ≤ s.acked ∧ s.acked ≤ s.sent.length := by
  unfold sideB at h
  split at h
  · simp only [noneB, Bool.and_eq_true, decide_eq_true_eq, beq_iff_eq] at h
    omega
  · simp only [headB, Bool.and_eq_true, decide_eq_true_eq] at h
    exact h.1.2
end Go.Cap
namespace Go.Cap
theorem side_none {s : Side} (h : sideB s = true) (ht : s.tag = 0) : s.sent = [] ∧ s.acked = 0 ∧ s.streams = 0 ∧ s.first = 0 := by
  unfold sideB at h
  rw [if_pos ht] at h
  simp only [noneB, Bool.and_eq_true, beq_iff_eq, decide_eq_true_eq] at h
  exact ⟨List.eq_nil_of_length_eq_zero h.1.2, h.2, h.1.1.1, h.1.1.2⟩
theorem side_acks {s : Side} (h : sideB s = true) {a : Int} (ha : s.acked ≤ a ∧ a ≤ s.sent.length) : sideB { s with acked := a } = true := by
  have h0 := side_acked h
  by_cases ht : s.tag = 0
  · obtain ⟨e1, e2, e3, e4⟩ := side_none h ht
    rw [e1] at ha
    have : a = 0 := by simp at ha; omega
    subst this
    obtain ⟨x1, x2, x3, x4, x5⟩ := s
    simp only at *
    subst e2
    exact h
  · unfold sideB at h ⊢
    rw [if_neg ht] at h
    rw [if_neg ht]
    simp only [headB, Bool.and_eq_true, decide_eq_true_eq] at h ⊢
    refine ⟨⟨h.1.1, by omega⟩, ?_⟩
    have := h.2
    refine sideLoop_of _ 0 fun j hj => sideLoop_may s.sent 0 this j hj
theorem dataGet_ok' {c : Chunk} {x : Data} (h : dataGet c = some x) : dataB x = true := by
  unfold dataGet at h
  split at h
  · rename_i hc
    cases h
    simp only [Bool.and_eq_true] at hc
    exact hc.2
  · cases h
theorem new_side {x : Init} (h : initB x = true) : sideB ⟨x.tag, x.streams, x.tsn, [], 0⟩ = true ∧ 1 ≤ x.tag := by
  simp only [initB, Bool.and_eq_true, decide_eq_true_eq] at h
  obtain ⟨⟨⟨h1, h2, h3, h4⟩, h5⟩, h6⟩ := h
  refine ⟨?_, h1⟩
  unfold sideB
  rw [if_neg (by simp only; omega)]
  simp only [headB, sideLoop, h6, Bool.and_true, Bool.and_eq_true, decide_eq_true_eq, List.length_nil]
  omega
theorem stepInit_valid (a : Assoc) (byB : Bool) (c : Chunk) (h : assocB a = true) : assocB (stepInit a byB c).1 = true := by
  obtain ⟨b1, b2, b3, b4, b5, b6, b7, b8, b9, b10⟩ := assocB_iff.1 h
  unfold stepInit
  simp only
  split
  · exact h
  · rename_i hn
    split
    · exact h
    · rename_i x hx
      obtain ⟨n1, n2⟩ := new_side (initGet_ok hx)
      split
      · split <;> exact h
      · rename_i hg
        simp only [Bool.not_eq_true] at hg
        rw [hg] at hn
        simp only [Bool.not_false, Bool.and_true, Bool.not_eq_true', Bool.not_eq_false] at hn
        cases byB
        · simp only [Bool.not_false, Bool.and_true, Bool.and_false, Bool.false_and, Bool.or_false, Bool.and_eq_true, decide_eq_true_eq] at hn
          refine assocB_iff.2 ⟨b1, b2, b3, by simp only [Assoc.put, Bool.false_eq_true, if_false]; omega, n1, b6, by simp only [Assoc.put, Bool.false_eq_true, if_false]; omega, by simp only [Assoc.put, Bool.false_eq_true, if_false]; omega, by simp only [Assoc.put, Bool.false_eq_true, if_false, List.length_nil]; omega, by simp only [Assoc.put, Bool.false_eq_true, if_false]; exact b10.imp id fun e => by omega⟩
        · simp only [Bool.not_true, Bool.and_false, Bool.false_and, Bool.false_or, Bool.and_true, Bool.and_eq_true, decide_eq_true_eq] at hn
          refine assocB_iff.2 ⟨b1, b2, b3, by simp only [Assoc.put, if_true]; omega, b5, n1, by simp only [Assoc.put, if_true]; omega, by simp only [Assoc.put, if_true]; omega, by simp only [Assoc.put, if_true, List.length_nil]; omega, by simp only [Assoc.put, if_true]; exact b10.imp id fun e => by omega⟩
theorem side_grow {s : Side} {d : Data} (h : sideB s = true) (hd : dataB d = true) (hs : ¬ s.streams ≤ d.stream) (hk1 : ¬ l3 d.tsn (-s.first) < s.sent.length) (hk2 : ¬ (s.sent.length : Int) < l3 d.tsn (-s.first)) (hm : mayB s.sent d = true) (hl : ¬ 12 ≤ s.sent.length) :
    sideB { s with sent := s.sent ++ [d] } = true ∧ s.tag ≠ 0 := by
  have hd' := hd
  simp only [dataB, serialB, Bool.and_eq_true, decide_eq_true_eq] at hd'
  have ht : s.tag ≠ 0 := fun e => by
    have := (side_none h e).2.2.1
    omega
  refine ⟨?_, ht⟩
  unfold sideB at h ⊢
  rw [if_neg ht] at h
  rw [if_neg ht]
  simp only [headB, Bool.and_eq_true, decide_eq_true_eq, List.length_append, List.length_cons, List.length_nil] at h ⊢
  obtain ⟨⟨⟨⟨⟨h1, h2⟩, h3⟩, h4⟩, h5⟩, h6⟩ := h
  have h3' := h3
  simp only [serialB, decide_eq_true_eq] at h3'
  refine ⟨⟨⟨⟨⟨h1, h2⟩, h3⟩, by omega⟩, by omega⟩, ?_⟩
  have key := sideLoop_may s.sent 0 h6
  refine sideLoop_of _ 0 fun j hj => ?_
  rw [List.length_append, List.length_cons, List.length_nil] at hj
  rcases Nat.lt_or_ge j s.sent.length with hjl | hjl
  · have := key j hjl
    simp only [partB, Nat.zero_add, List.getElem_append_left hjl, Bool.and_eq_true] at this ⊢
    rw [List.take_append_of_le_length (by omega)]
    exact this
  · have : j = s.sent.length := by omega
    subst this
    simp only [partB, Nat.zero_add, List.getElem_append_right (Nat.le_refl _), Nat.sub_self, List.getElem_cons_zero, Bool.and_eq_true, beq_iff_eq, decide_eq_true_eq, List.take_left']
    refine ⟨⟨⟨hd, ?_⟩, by omega⟩, hm⟩
    unfold l3 at hk1 hk2 ⊢
    omega
theorem stepData_valid (a : Assoc) (byB : Bool) (c : Chunk) (h : assocB a = true) : assocB (stepData a byB c).1 = true := by
  obtain ⟨b1, b2, b3, b4, b5, b6, b7, b8, b9, b10⟩ := assocB_iff.1 h
  unfold stepData
  simp only
  split
  · exact h
  split
  · exact h
  rename_i d hd
  have hdb := dataGet_ok' hd
  split
  · split <;> exact h
  rename_i k1
  split
  · exact h
  rename_i hnew
  split
  · exact h
  rename_i k2
  split
  · exact h
  rename_i k3
  split
  · exact h
  rename_i k4
  split
  · exact h
  rename_i k5
  simp only [Bool.not_eq_true, Bool.not_eq_true', Bool.not_eq_false] at k4 hnew
  have h3 : 3 ≤ a.state := by
    simp only [Bool.or_eq_true, Bool.and_eq_true, decide_eq_true_eq] at hnew
    omega
  cases byB
  · obtain ⟨g1, g2⟩ := side_grow (s := a.a) (d := d) b5 hdb k2 k1 k3 k4 k5
    exact assocB_iff.2 ⟨b1, b2, b3, b4, g1, b6, b7, b8, .inl h3, b10⟩
  · obtain ⟨g1, g2⟩ := side_grow (s := a.b) (d := d) b6 hdb k2 k1 k3 k4 k5
    exact assocB_iff.2 ⟨b1, b2, b3, b4, b5, g1, b7, b8, .inl h3, b10⟩
theorem stepSack_valid (a : Assoc) (byB : Bool) (c : Chunk) (h : assocB a = true) : assocB (stepSack a byB c).1 = true := by
  obtain ⟨b1, b2, b3, b4, b5, b6, b7, b8, b9, b10⟩ := assocB_iff.1 h
  unfold stepSack
  simp only
  split
  · exact h
  split
  · exact h
  split
  · exact h
  rename_i hk
  simp only [Bool.or_eq_true, Bool.not_eq_true', not_or, Bool.not_eq_false, decide_eq_true_eq] at hk
  obtain ⟨k1, k2⟩ := hk
  unfold inB at k1
  simp only [decide_eq_true_eq] at k1
  cases byB
  · have h1 := side_acked b6
    have g1 := side_acks b6 (a := max a.b.acked (l3d (l3 (a.other false).first (-1)) _)) ⟨Int.le_max_left .., Int.max_le.2 ⟨h1.2, k1.2⟩⟩
    exact assocB_iff.2 ⟨b1, b2, b3, b4, b5, g1, b7, b8, b9, b10⟩
  · have h1 := side_acked b5
    have g1 := side_acks b5 (a := max a.a.acked (l3d (l3 (a.other true).first (-1)) _)) ⟨Int.le_max_left .., Int.max_le.2 ⟨h1.2, k1.2⟩⟩
    exact assocB_iff.2 ⟨b1, b2, b3, b4, g1, b6, b7, b8, b9, b10⟩
theorem assoc_state {a : Assoc} (h : assocB a = true) {n : Int} (byB : Bool) (hn : n ≤ 7 ∧ 1 ≤ n) (h1 : 1 ≤ a.state ∧ a.state ≤ 6) (h2 : n = 7 ∨ (2 ≤ n ∧ 2 ≤ a.state)) (h3 : 3 ≤ n ∨ a.state < 3) (h4 : byB = false ∨ 5 ≤ n) : assocB { a with state := n, byB := byB } = true := by
  obtain ⟨b1, b2, b3, b4, b5, b6, b7, b8, b9, b10⟩ := assocB_iff.1 h
  exact assocB_iff.2 ⟨b1, b2, b3, by simp only; omega, b5, b6, by simp only; omega, by simp only; omega, by simp only; omega, by simp only; exact h4⟩
theorem stepEnd_valid (a : Assoc) (byB : Bool) (k : Int) (h : assocB a = true) : assocB (stepEnd a byB k).1 = true := by
  obtain ⟨b1, b2, b3, b4, b5, b6, b7, b8, b9, b10⟩ := assocB_iff.1 h
  unfold stepEnd inB
  try simp only
  repeat' split
  all_goals first
    | exact h
    | (simp only [Bool.and_eq_true, decide_eq_true_eq] at *; exact assoc_state h a.byB (by omega) (by omega) (by omega) (by omega) (b10.imp id fun e => by omega))
    | (simp only [Bool.and_eq_true, decide_eq_true_eq] at *; exact assoc_state h byB (by omega) (by omega) (by omega) (by omega) (.inr (by omega)))
theorem stepRest_valid (a : Assoc) (byB : Bool) (k : Int) (h : assocB a = true) : assocB (stepRest a byB k).1 = true := by
  obtain ⟨b1, b2, b3, b4, b5, b6, b7, b8, b9, b10⟩ := assocB_iff.1 h
  unfold stepRest inB
  try simp only
  repeat' split
  all_goals first
    | exact h
    | (simp only [Bool.and_eq_true, Bool.not_eq_true', decide_eq_true_eq] at *; exact assoc_state h a.byB (by omega) (by omega) (by omega) (by omega) (b10.imp id fun e => by omega))
theorem stepChunk_valid (a : Assoc) (byB : Bool) (c : Chunk) (h : assocB a = true) : assocB (stepChunk a byB c).1 = true := by
  unfold stepChunk
  split
  · exact stepInit_valid a byB c h
  split
  · exact stepData_valid a byB c h
  split
  · exact stepSack_valid a byB c h
  split
  · exact stepEnd_valid a byB _ h
  · exact stepRest_valid a byB _ h
theorem stepChunks_valid (byB : Bool) : ∀ (l : List Chunk) (a : Assoc) (rs : List Int), assocB a = true → assocB (stepChunks byB l a rs).1 = true
  | [], a, rs, h => h
  | c :: l, a, rs, h => by simp only [stepChunks]; exact stepChunks_valid byB l _ _ (stepChunk_valid a byB c h)
def Stays (a b : Assoc) : Prop := b.fr = a.fr ∧ b.to = a.to ∧ (1 ≤ a.state → 1 ≤ b.state)
theorem Stays.rfl {a : Assoc} : Stays a a := ⟨Eq.refl _, Eq.refl _, id⟩
theorem Stays.put {a : Assoc} {byB : Bool} {s : Side} {n : Int} (h : a.state ≤ n) : Stays a (({ a with state := n } : Assoc).put byB s) := by
  cases byB
  · exact ⟨Eq.refl _, Eq.refl _, fun h1 => Int.le_trans h1 h⟩
  · exact ⟨Eq.refl _, Eq.refl _, fun h1 => Int.le_trans h1 h⟩
theorem Stays.put0 {a : Assoc} {byB : Bool} {s : Side} : Stays a (a.put byB s) := by
  cases byB
  · exact ⟨Eq.refl _, Eq.refl _, id⟩
  · exact ⟨Eq.refl _, Eq.refl _, id⟩
theorem Stays.st {a : Assoc} {byB : Bool} {n : Int} (h : 1 ≤ n) : Stays a { a with state := n, byB := byB } := ⟨Eq.refl _, Eq.refl _, fun _ => h⟩
theorem stepInit_stays (a : Assoc) (byB : Bool) (c : Chunk) : Stays a (stepInit a byB c).1 := by
  unfold stepInit
  simp only
  split
  · exact .rfl
  split
  · exact .rfl
  split
  · split <;> exact .rfl
  · exact .put (by omega)
theorem stepData_stays (a : Assoc) (byB : Bool) (c : Chunk) : Stays a (stepData a byB c).1 := by
  unfold stepData
  simp only
  repeat' split
  all_goals first
    | exact .rfl
    | exact .put0
theorem stepSack_stays (a : Assoc) (byB : Bool) (c : Chunk) : Stays a (stepSack a byB c).1 := by
  unfold stepSack
  simp only
  repeat' split
  all_goals first
    | exact .rfl
    | exact .put0
theorem stepEnd_stays (a : Assoc) (byB : Bool) (k : Int) : Stays a (stepEnd a byB k).1 := by
  unfold stepEnd
  try simp only
  repeat' split
  all_goals first
    | exact .rfl
    | exact .st (by omega)
theorem stepRest_stays (a : Assoc) (byB : Bool) (k : Int) : Stays a (stepRest a byB k).1 := by
  unfold stepRest
  try simp only
  repeat' split
  all_goals first
    | exact .rfl
    | exact .st (by omega)
theorem stepChunk_stays (a : Assoc) (byB : Bool) (c : Chunk) : Stays a (stepChunk a byB c).1 := by
  unfold stepChunk
  split
  · exact stepInit_stays a byB c
  split
  · exact stepData_stays a byB c
  split
  · exact stepSack_stays a byB c
  split
  · exact stepEnd_stays a byB _
  · exact stepRest_stays a byB _
theorem stepChunks_stays (byB : Bool) : ∀ (l : List Chunk) (a : Assoc) (rs : List Int), Stays a (stepChunks byB l a rs).1
  | [], a, rs => .rfl
  | c :: l, a, rs => by
    simp only [stepChunks]
    have h1 := stepChunks_stays byB l (stepChunk a byB c).1 (rs ++ [(stepChunk a byB c).2])
    have h2 := stepChunk_stays a byB c
    exact ⟨h1.1.trans h2.1, h1.2.1.trans h2.2.1, fun h => h1.2.2 (h2.2.2 h)⟩
theorem stepChunks_rules (byB : Bool) : ∀ (l : List Chunk) (a : Assoc) (rs : List Int), ∃ t, (stepChunks byB l a rs).2 = rs ++ t ∧ t.length = l.length
  | [], a, rs => ⟨[], by simp [stepChunks]⟩
  | c :: l, a, rs => by
    simp only [stepChunks]
    obtain ⟨t, h1, h2⟩ := stepChunks_rules byB l (stepChunk a byB c).1 (rs ++ [(stepChunk a byB c).2])
    exact ⟨(stepChunk a byB c).2 :: t, by rw [h1]; simp, by simp [h2]⟩
theorem assocStep_valid {a : Assoc} {p : Packet} (h : assocB a = true) (hp : packB p = true) (hpt : (p.fr = a.fr ∧ p.to = a.to) ∨ (p.fr = a.to ∧ p.to = a.fr)) : assocB (assocStep a p).1 = true ∧ Stays a (assocStep a p).1 := by
  unfold assocStep
  rw [if_neg]
  · simp only
    split
    · exact ⟨stepChunks_valid _ _ _ _ h, stepChunks_stays _ _ _ _⟩
    · exact ⟨h, .rfl⟩
  · simp only [h, hp, Bool.not_true, Bool.false_or, Bool.and_eq_true, Bool.not_eq_true', byBOf, decide_eq_false_iff_not, decide_eq_true_eq]
    omega
theorem rules_none {b : Nat → Bool} (h : (rulesOf b).isEmpty = true) : ∀ k, 1 ≤ k → k < 12 → b k = false := fun k h1 h2 => by
  cases hb : b k
  · rfl
  · exfalso
    have : (k : Int) ∈ rulesOf b := by
      unfold rulesOf
      refine List.mem_map.2 ⟨k, List.mem_filter.2 ⟨List.mem_range.2 h2, ?_⟩, rfl⟩
      rw [hb, decide_eq_true h1]
      rfl
    rw [List.isEmpty_iff] at h
    rw [h] at this
    exact List.not_mem_nil this
theorem assocStep_new {p : Packet} (hp : packB p = true) (hk : kind0 p = 1) (hr : (assocStep ⟨p.fr, p.to, 0, false, noSide, noSide⟩ p).2.isEmpty = true) :
    assocB (assocStep ⟨p.fr, p.to, 0, false, noSide, noSide⟩ p).1 = true ∧ (assocStep ⟨p.fr, p.to, 0, false, noSide, noSide⟩ p).1.fr = p.fr ∧ (assocStep ⟨p.fr, p.to, 0, false, noSide, noSide⟩ p).1.to = p.to ∧ 1 ≤ (assocStep ⟨p.fr, p.to, 0, false, noSide, noSide⟩ p).1.state := by
  have hpb := hp
  simp only [packB, inB, Bool.and_eq_true, decide_eq_true_eq] at hpb
  have ha : assocB ⟨p.fr, p.to, 0, false, noSide, noSide⟩ = true := by
    refine assocB_iff.2 ⟨by simp only; omega, by simp only; omega, by simp only; omega, by simp only; omega, (show sideB noSide = true by decide), (show sideB noSide = true by decide), by simp [noSide], by simp [noSide], by simp [noSide], .inl rfl⟩
  obtain ⟨v1, v2, v3, _⟩ := assocStep_valid ha hp (.inl ⟨rfl, rfl⟩)
  refine ⟨v1, v2, v3, ?_⟩
  have hbb : byBOf ⟨p.fr, p.to, 0, false, noSide, noSide⟩ p = false := by
    simp only [byBOf, decide_eq_false_iff_not]
    omega
  have hno0 : ¬ ((!assocB ⟨p.fr, p.to, 0, false, noSide, noSide⟩ || !packB p || (!byBOf ⟨p.fr, p.to, 0, false, noSide, noSide⟩ p && decide (p.fr ≠ (⟨p.fr, p.to, 0, false, noSide, noSide⟩ : Assoc).fr ∨ p.to ≠ (⟨p.fr, p.to, 0, false, noSide, noSide⟩ : Assoc).to))) = true) := by
    rw [ha, hp, hbb]
    simp
  unfold assocStep at hr ⊢
  rw [if_neg hno0] at hr ⊢
  · simp only [hbb] at hr ⊢
    rw [if_pos hr]
    have hno := rules_none hr
    cases hc : p.chunks with
    | nil => rw [hc] at hpb; simp at hpb
    | cons c l =>
      have hk1 : c.kind = 1 := by unfold kind0 at hk; rw [hc] at hk; exact hk
      simp only [hc, stepChunks] at hno ⊢
      have hst := stepChunks_stays false l (stepChunk ⟨p.fr, p.to, 0, false, noSide, noSide⟩ false c).1 ([] ++ [(stepChunk ⟨p.fr, p.to, 0, false, noSide, noSide⟩ false c).2])
      obtain ⟨t, ht, _⟩ := stepChunks_rules false l (stepChunk ⟨p.fr, p.to, 0, false, noSide, noSide⟩ false c).1 ([] ++ [(stepChunk ⟨p.fr, p.to, 0, false, noSide, noSide⟩ false c).2])
      refine hst.2.2 ?_
      have h0 := stepChunk_ok ⟨p.fr, p.to, 0, false, noSide, noSide⟩ false c ⟨noSide_SW, noSide_SW⟩
      have hz : (stepChunk ⟨p.fr, p.to, 0, false, noSide, noSide⟩ false c).2 = 0 := by
        rcases Int.lt_or_le 0 (stepChunk ⟨p.fr, p.to, 0, false, noSide, noSide⟩ false c).2 with hlt | hle
        · have := hno (stepChunk ⟨p.fr, p.to, 0, false, noSide, noSide⟩ false c).2.toNat (by omega) (by omega)
          unfold brokenB at this
          simp only [Bool.or_eq_false_iff] at this
          have h3 := this.2
          rw [ht] at h3
          have hm : ((stepChunk ⟨p.fr, p.to, 0, false, noSide, noSide⟩ false c).2.toNat : Int) ∈ [] ++ [(stepChunk ⟨p.fr, p.to, 0, false, noSide, noSide⟩ false c).2] ++ t := by
            rw [Int.toNat_of_nonneg h0.2.1]
            simp
          rw [← List.contains_iff_mem, h3] at hm
          cases hm
        · omega
      clear hst ht hno hr
      unfold stepChunk at hz ⊢
      rw [if_pos (.inl hk1)] at hz ⊢
      unfold stepInit at hz ⊢
      simp only [hk1, inB, decide_true, Bool.not_false, Bool.and_true, Bool.true_or, Bool.not_true, Bool.false_and, Bool.false_eq_true, if_false] at hz ⊢
      cases hi : initGet c with
      | none => rw [hi] at hz; simp at hz
      | some x =>
        simp [Assoc.put]
end Go.Cap
namespace Go.Cap
attribute [local irreducible] Call Run Spec Le
def Assoc.cells3 (a : Assoc) (x y : Nat) : List AV := [.i a.fr, .i a.to, .i a.state, .bo a.byB, .i a.a.tag, .i a.a.streams, .i a.a.first, .sl x 0 a.a.sent.length, .i a.a.acked, .i a.b.tag, .i a.b.streams, .i a.b.first, .sl y 0 a.b.sent.length, .i a.b.acked]
def rowsD (l : List Data) : Blk := .row 7 (l.map Data.row)
def H3 (a : Assoc) : List (Nat × Blk) := [(0, .var (a.cells3 1 2)), (1, rowsD a.a.sent), (2, rowsD a.b.sent)]
structure AfterW (x : Assoc × Int) (r : AV) (hp : List (Nat × Blk)) (nx : Nat) (gs : List Nat) : Prop where
  res : r = .i x.2
  heap : ∃ p q, ((p = 1 ∧ q = 2) ∨ (3 ≤ p ∧ q = 2) ∨ (p = 1 ∧ 3 ≤ q)) ∧ hget hp 0 = some (.var (x.1.cells3 p q)) ∧ hget hp p = some (rowsD x.1.a.sent) ∧ hget hp q = some (rowsD x.1.b.sent)
def After (x : Assoc × Int) : AV → List (Nat × Blk) → Nat → List Nat → Prop := fun r hp nx gs => r = .i x.2 ∧ ∃ p q, ((p = 1 ∧ q = 2 ∧ nx = 3) ∨ (p = 3 ∧ q = 2 ∧ nx = 4) ∨ (p = 1 ∧ q = 3 ∧ nx = 4)) ∧ hp = [(0, .var (x.1.cells3 p q)), (p, rowsD x.1.a.sent), (q, rowsD x.1.b.sent)] ∧ gs = []
theorem AfterW.canon {f : Nat} {a : Assoc} {args : List AV} {x : Assoc × Int} (h : Spec Tryz.prog f 3 (H3 a) args (AfterW x)) : Spec Tryz.prog f 3 (H3 a) args (After x) := by
  refine Spec.le h fun r hp nx gs hq => ?_
  obtain ⟨rfl, p, q, hpq, h0, h1, h2⟩ := hq
  obtain ⟨a', k⟩ := x
  unfold Assoc.cells3 at h0
  unfold rowsD at h1 h2
  simp only at h0 h1 h2
  rcases hpq with ⟨rfl, rfl⟩ | ⟨hp3, rfl⟩ | ⟨rfl, hq3⟩
  · refine ⟨_, _, 3, [], ⟨rfl, 1, 2, .inl ⟨rfl, rfl, rfl⟩, rfl, rfl⟩, fun c hc => ?_⟩
    unfold Assoc.cells3 rowsD
    refine le_ev [] ?_
    simp only [hc, h0, h1, h2,go_sem,↓reduceIte]
  · refine ⟨_, _, 4, [], ⟨rfl, 3, 2, .inr (.inl ⟨rfl, rfl, rfl⟩), rfl, rfl⟩, fun c hc => ?_⟩
    unfold Assoc.cells3 rowsD
    refine le_ev [(3, p)] ?_
    simp only [hc, h0, h1, h2,go_sem,↓reduceIte]
    omega
  · refine ⟨_, _, 4, [], ⟨rfl, 1, 3, .inr (.inr ⟨rfl, rfl, rfl⟩), rfl, rfl⟩, fun c hc => ?_⟩
    unfold Assoc.cells3 rowsD
    refine le_ev [(3, q)] ?_
    simp only [hc, h0, h1, h2,go_sem,↓reduceIte]
    omega
theorem call_three {c : Cx} {s : St} {f : Nat} {a : Assoc} {x : Assoc × Int} {as0 args : List AV} {K : AV → St → Prop} (i j k : Nat) (hs : Spec c.P f 3 (H3 a) as0 (After x)) (hd : i ≠ j ∧ i ≠ k ∧ j ≠ k) (h0 : hget s.hp i = some (.var (a.cells3 j k))) (h1 : hget s.hp j = some (rowsD a.a.sent)) (h2 : hget s.hp k = some (rowsD a.b.sent))
    (ha : args = as0.map (renA (idf [i, j, k] s.nx)))
    (hK1 : K (.i x.2) ⟨s.sl, (i, .var (x.1.cells3 j k)) :: (j, rowsD x.1.a.sent) :: (k, rowsD x.1.b.sent) :: hdel (hdel (hdel s.hp i) j) k, s.nx, s.gs⟩)
    (hK2 : K (.i x.2) ⟨s.sl, (i, .var (x.1.cells3 s.nx k)) :: (s.nx, rowsD x.1.a.sent) :: (k, rowsD x.1.b.sent) :: hdel (hdel (hdel s.hp i) j) k, s.nx + 1, s.gs⟩)
    (hK3 : K (.i x.2) ⟨s.sl, (i, .var (x.1.cells3 j s.nx)) :: (j, rowsD x.1.a.sent) :: (s.nx, rowsD x.1.b.sent) :: hdel (hdel (hdel s.hp i) j) k, s.nx + 1, s.gs⟩) : Call c f args s K := by
  refine call_spec [i, j, k] hs ?_ ?_ ?_ ha fun r hp' nx' gs' h => ?_
  · simp only [List.nodup_cons, List.mem_cons, List.not_mem_nil, or_false, List.nodup_nil, and_true, not_false_eq_true]; omega
  · intro p hp
    simp only [H3, List.mem_cons, List.not_mem_nil, or_false] at hp
    rcases hp with rfl | rfl | rfl
    · exact ⟨by simp, by simp only [idf_zero]; exact h0⟩
    · exact ⟨by simp, by simp only [idf_succ, idf_zero]; exact h1⟩
    · exact ⟨by simp, by simp only [idf_succ, idf_zero]; exact h2⟩
  · intro m hm
    have : m = 0 ∨ m = 1 ∨ m = 2 := by simp at hm; omega
    rcases this with rfl | rfl | rfl
    · exact ⟨_, List.mem_cons_self ..⟩
    · exact ⟨_, List.mem_cons_of_mem _ (List.mem_cons_self ..)⟩
    · exact ⟨_, List.mem_cons_of_mem _ (List.mem_cons_of_mem _ (List.mem_cons_self ..))⟩
  · obtain ⟨rfl, p, q, hpq, rfl, rfl⟩ := h
    rcases hpq with ⟨rfl, rfl, rfl⟩ | ⟨rfl, rfl, rfl⟩ | ⟨rfl, rfl, rfl⟩
    · exact hK1
    · exact hK2
    · exact hK3
theorem stepInit_cases (a : Assoc) (byB : Bool) (k : Chunk) (hk : k.kind = 1 ∨ k.kind = 2) (hst : 0 ≤ a.state ∧ a.state ≤ 7) :
    ((byB ≠ (k.kind == 2) ∨ a.state < (if byB then 1 else 0) ∨ 2 < a.state) ∧ stepInit a byB k = (a, 3)) ∨
    (byB = (k.kind == 2) ∧ (if byB then 1 else 0) ≤ a.state ∧ a.state ≤ 2 ∧
      ((initGet k = none ∧ stepInit a byB k = (a, 4)) ∨ ∃ x, initGet k = some x ∧
        ((a.state = (if byB then 1 else 0) ∧ stepInit a byB k = (({ a with state := a.state + 1 } : Assoc).put byB ⟨x.tag, x.streams, x.tsn, [], 0⟩, 0)) ∨
         (a.state ≠ (if byB then 1 else 0) ∧ (x.tag ≠ (a.own byB).tag ∨ x.streams ≠ (a.own byB).streams ∨ x.tsn ≠ (a.own byB).first) ∧ stepInit a byB k = (a, 7)) ∨
         (a.state ≠ (if byB then 1 else 0) ∧ x.tag = (a.own byB).tag ∧ x.streams = (a.own byB).streams ∧ x.tsn = (a.own byB).first ∧ stepInit a byB k = (a, 0))))) := by
  unfold stepInit
  cases byB
  · rcases hk with hk | hk
    · simp only [hk, inB, show ((1 : Int) == 2) = false from rfl, ne_eq, not_true_eq_false, false_or, Bool.not_false, Bool.and_true, decide_true, Bool.and_false, Bool.or_false, Bool.false_eq_true, if_false, true_and]
      by_cases h1 : a.state < 0 ∨ 2 < a.state
      · left
        refine ⟨h1, ?_⟩
        rw [decide_eq_false (show ¬ a.state = 0 by omega), decide_eq_false (show ¬ (1 ≤ a.state ∧ a.state ≤ 2) by omega)]
        rfl
      · right
        refine ⟨by omega, by omega, ?_⟩
        by_cases h0 : a.state = 0
        · rw [decide_eq_true h0, decide_eq_false (show ¬ (1 ≤ a.state ∧ a.state ≤ 2) by omega)]
          cases hi : initGet k with
          | none => exact .inl ⟨rfl, rfl⟩
          | some x => exact .inr ⟨x, rfl, .inl ⟨h0, rfl⟩⟩
        · rw [decide_eq_false h0, decide_eq_true (show (1 ≤ a.state ∧ a.state ≤ 2) by omega)]
          cases hi : initGet k with
          | none => exact .inl ⟨rfl, rfl⟩
          | some x =>
            refine .inr ⟨x, rfl, .inr ?_⟩
            by_cases hx : x.tag ≠ (a.own false).tag ∨ x.streams ≠ (a.own false).streams ∨ x.tsn ≠ (a.own false).first
            · exact .inl ⟨h0, hx, by show (if (x.tag ≠ (a.own false).tag ∨ x.streams ≠ (a.own false).streams ∨ x.tsn ≠ (a.own false).first) then (a, (7 : Int)) else (a, 0)) = (a, 7); exact if_pos hx⟩
            · exact .inr ⟨h0, by omega, by omega, by omega, by show (if (x.tag ≠ (a.own false).tag ∨ x.streams ≠ (a.own false).streams ∨ x.tsn ≠ (a.own false).first) then (a, (7 : Int)) else (a, 0)) = (a, 0); exact if_neg hx⟩
    · left
      exact ⟨.inl (by rw [hk]; decide), by simp [hk]⟩
  · rcases hk with hk | hk
    · left
      exact ⟨.inl (by rw [hk]; decide), by simp [hk]⟩
    · simp only [hk, inB, show ((2 : Int) == 2) = true from rfl, ne_eq, not_true_eq_false, false_or, Bool.not_true, Bool.and_true, decide_true, Bool.and_false, Bool.false_and, Bool.false_or, Bool.or_false, if_true, true_and]
      by_cases h1 : a.state < 1 ∨ 2 < a.state
      · left
        refine ⟨h1, ?_⟩
        rw [decide_eq_false (show ¬ a.state = 1 by omega), decide_eq_false (show ¬ a.state = 2 by omega)]
        rfl
      · right
        refine ⟨by omega, by omega, ?_⟩
        by_cases h0 : a.state = 1
        · rw [decide_eq_true h0, decide_eq_false (show ¬ a.state = 2 by omega)]
          cases hi : initGet k with
          | none => exact .inl ⟨rfl, rfl⟩
          | some x => exact .inr ⟨x, rfl, .inl ⟨h0, rfl⟩⟩
        · rw [decide_eq_false h0, decide_eq_true (show a.state = 2 by omega)]
          cases hi : initGet k with
          | none => exact .inl ⟨rfl, rfl⟩
          | some x =>
            refine .inr ⟨x, rfl, .inr ?_⟩
            by_cases hx : x.tag ≠ (a.own true).tag ∨ x.streams ≠ (a.own true).streams ∨ x.tsn ≠ (a.own true).first
            · exact .inl ⟨h0, hx, by show (if (x.tag ≠ (a.own true).tag ∨ x.streams ≠ (a.own true).streams ∨ x.tsn ≠ (a.own true).first) then (a, (7 : Int)) else (a, 0)) = (a, 7); exact if_pos hx⟩
            · exact .inr ⟨h0, by omega, by omega, by omega, by show (if (x.tag ≠ (a.own true).tag ∨ x.streams ≠ (a.own true).streams ∨ x.tsn ≠ (a.own true).first) then (a, (7 : Int)) else (a, 0)) = (a, 0); exact if_neg hx⟩
theorem tag0 {s : Side} (h : sideB s = true) (h2 : ¬ 0 < s.tag) : s.tag = 0 := by
  unfold sideB at h
  split at h
  · assumption
  · simp only [headB, Bool.and_eq_true, decide_eq_true_eq] at h
    omega
theorem greet_new {a : Assoc} {byB : Bool} {x : Init} {hp : List (Nat × Blk)} {nx : Nat} {gs : List Nat} (hv : assocB a = true) (h0 : a.state = if byB then 1 else 0)
    (h : (a.own byB).sent = [] → (a.own byB).acked = 0 → AfterW (({ a with state := a.state + 1 } : Assoc).put byB ⟨x.tag, x.streams, x.tsn, (a.own byB).sent, (a.own byB).acked⟩, 0) (.i 0) hp nx gs) :
    AfterW (({ a with state := a.state + 1 } : Assoc).put byB ⟨x.tag, x.streams, x.tsn, [], 0⟩, 0) (.i 0) hp nx gs := by
  obtain ⟨_, _, _, hst, hsa, hsb, hta, htb, _⟩ := assocB_iff.1 hv
  have hg : (a.own byB).sent = [] ∧ (a.own byB).acked = 0 := by
    cases byB
    · simp only [Bool.false_eq_true, if_false] at h0
      obtain ⟨g1, g2, _⟩ := side_none hsa (tag0 hsa (by omega))
      exact ⟨g1, g2⟩
    · simp only [if_true] at h0
      obtain ⟨g1, g2, _⟩ := side_none hsb (tag0 hsb (by omega))
      exact ⟨g1, g2⟩
  have := h hg.1 hg.2
  rwa [hg.1, hg.2] at this
set_option maxHeartbeats 2000000 in
theorem s_greet (a : Assoc) (k : Chunk) (byB : Bool) (hs : k.body.length ≤ 1000000) (hv : assocB a = true) (hk : k.kind = 1 ∨ k.kind = 2) : Spec Tryz.prog 90 3 (H3 a) [.ptr 0 0 0, k.av, .bo byB, .ptr 0 0 (if byB then 9 else 4)] (AfterW (stepInit a byB k)) := by
  have hig := s_implInitGet k (by omega)
  obtain ⟨_, _, _, hst, hsa, hsb, hta, htb, _⟩ := assocB_iff.1 hv
  have hw : IntKind.i64.wrap (a.state + 1) = a.state + 1 := wrap64 (by omega) (by omega)
  unfold H3 Assoc.cells3 rowsD
  unfold Chunk.av Init.av at hig
  unfold Chunk.av
  rcases stepInit_cases a byB k hk hst with ⟨h, e⟩ | ⟨h0, h1, h2, ⟨hi, e⟩ | ⟨x, hi, ⟨h3, e⟩ | ⟨h3, h4, e⟩ | ⟨h3, h4, h5, h6, e⟩⟩⟩
  all_goals
    rw [e]
    clear e
    try rw [hi] at hig
    cases byB
  all_goals
    refine mk90 rfl fun c hP hm => ?_
    unfold pc90
    simp only [hw, hm,go_sem,↓reduceIte]
    repeat' first
      | refine And.intro ?_ ?_
      | intro _
      | (refine call_pure (hP ▸ hig) rfl rfl ?_; simp only [hw, hm, Option.getD_some, Option.getD_none, Option.isSome_some, Option.isSome_none,go_sem,↓reduceIte])
  all_goals first
    | omega
    | exact ⟨rfl, 1, 2, .inl ⟨rfl, rfl⟩, rfl, rfl, rfl⟩
    | exact greet_new hv (by assumption) fun _ _ => ⟨rfl, 1, 2, .inl ⟨rfl, rfl⟩, rfl, rfl, rfl⟩
    | (exfalso; simp_all [Assoc.own]; done)
    | (exfalso; simp_all [Assoc.own]; omega)
def takeD (a : Assoc) (byB : Bool) (d : Data) : Assoc × Int :=
  if l3 d.tsn (-(a.own byB).first) < (a.own byB).sent.length then (if eqData ((a.own byB).sent.getD (l3 d.tsn (-(a.own byB).first)).toNat noData) d then (a, 0) else (a, 7))
  else if a.state = 5 then (a, 3)
  else if (a.own byB).streams ≤ d.stream then (a, 5)
  else if ((a.own byB).sent.length : Int) < l3 d.tsn (-(a.own byB).first) then (a, 6)
  else if mayB (a.own byB).sent d = false then (a, 8)
  else if 12 ≤ (a.own byB).sent.length then (a, 11)
  else (a.put byB { a.own byB with sent := (a.own byB).sent ++ [d] }, 0)
def takeR (a : Assoc) (byB : Bool) (k : Chunk) : Assoc × Int := match dataGet k with
  | none => (a, 4)
  | some d => takeD a byB d
theorem takeR_eq {a : Assoc} {byB : Bool} (k : Chunk) (h : a.state = 4 ∨ (a.state = 3 ∧ byB = false) ∨ (a.state = 5 ∧ byB ≠ a.byB)) : stepData a byB k = takeR a byB k := by
  unfold stepData takeR
  have h1 : (decide (a.state = 4) || (decide (a.state = 3) && !byB)) = !decide (a.state = 5) := by
    rcases h with h | ⟨h, rfl⟩ | ⟨h, h2⟩ <;> simp [h]
  have h2 : (decide (a.state = 4) || (decide (a.state = 3) && !byB) || (decide (a.state = 5) && byB != a.byB)) = true := by
    rcases h with h | ⟨h, rfl⟩ | ⟨h, h2⟩
    · simp [h]
    · simp [h]
    · simp [h, h2]
  rw [h1] at h2
  simp only [h1, h2, Bool.not_true, Bool.false_eq_true, if_false]
  cases dataGet k with
  | none => rfl
  | some d =>
    unfold takeD
    simp only [Bool.not_not, decide_eq_true_eq, Bool.not_eq_true']
section
variable {a : Assoc} {byB : Bool} {d : Data} {o : Side} (ho : a.own byB = o)
include ho
theorem td0 (hk : l3 d.tsn (-o.first) < o.sent.length) (he : eqData (o.sent.getD (l3 d.tsn (-o.first)).toNat noData) d = true) : takeD a byB d = (a, 0) := by subst ho; unfold takeD; rw [if_pos hk, if_pos he]
theorem td7 (hk : l3 d.tsn (-o.first) < o.sent.length) (he : eqData (o.sent.getD (l3 d.tsn (-o.first)).toNat noData) d = false) : takeD a byB d = (a, 7) := by subst ho; unfold takeD; rw [if_pos hk, if_neg (by rw [he]; decide)]
theorem td3 (hk : ¬ l3 d.tsn (-o.first) < o.sent.length) (h5 : a.state = 5) : takeD a byB d = (a, 3) := by subst ho; unfold takeD; rw [if_neg hk, if_pos h5]
theorem td5 (hk : ¬ l3 d.tsn (-o.first) < o.sent.length) (h5 : ¬ a.state = 5) (h6 : o.streams ≤ d.stream) : takeD a byB d = (a, 5) := by subst ho; unfold takeD; rw [if_neg hk, if_neg h5, if_pos h6]
theorem td6 (hk : ¬ l3 d.tsn (-o.first) < o.sent.length) (h5 : ¬ a.state = 5) (h6 : ¬ o.streams ≤ d.stream) (h7 : (o.sent.length : Int) < l3 d.tsn (-o.first)) : takeD a byB d = (a, 6) := by subst ho; unfold takeD; rw [if_neg hk, if_neg h5, if_neg h6, if_pos h7]
theorem td8 (hk : ¬ l3 d.tsn (-o.first) < o.sent.length) (h5 : ¬ a.state = 5) (h6 : ¬ o.streams ≤ d.stream) (h7 : ¬ (o.sent.length : Int) < l3 d.tsn (-o.first)) (h8 : mayB o.sent d = false) : takeD a byB d = (a, 8) := by subst ho; unfold takeD; rw [if_neg hk, if_neg h5, if_neg h6, if_neg h7, if_pos h8]
theorem td11 (hk : ¬ l3 d.tsn (-o.first) < o.sent.length) (h5 : ¬ a.state = 5) (h6 : ¬ o.streams ≤ d.stream) (h7 : ¬ (o.sent.length : Int) < l3 d.tsn (-o.first)) (h8 : mayB o.sent d = true) (h9 : 12 ≤ o.sent.length) : takeD a byB d = (a, 11) := by subst ho; unfold takeD; rw [if_neg hk, if_neg h5, if_neg h6, if_neg h7, if_neg (by rw [h8]; decide), if_pos h9]
theorem tdG (hk : ¬ l3 d.tsn (-o.first) < o.sent.length) (h5 : ¬ a.state = 5) (h6 : ¬ o.streams ≤ d.stream) (h7 : ¬ (o.sent.length : Int) < l3 d.tsn (-o.first)) (h8 : mayB o.sent d = true) (h9 : ¬ 12 ≤ o.sent.length) : takeD a byB d = (a.put byB { o with sent := o.sent ++ [d] }, 0) := by subst ho; unfold takeD; rw [if_neg hk, if_neg h5, if_neg h6, if_neg h7, if_neg (by rw [h8]; decide), if_neg h9]
end
theorem side_first {s : Side} (h : sideB s = true) : (0 ≤ s.first ∧ s.first < 65536) ∧ s.sent.length ≤ 12 := by
  unfold sideB at h
  split at h
  · rename_i ht
    simp only [noneB, Bool.and_eq_true, beq_iff_eq, decide_eq_true_eq] at h
    obtain ⟨⟨⟨h1, h2⟩, h3⟩, h4⟩ := h
    rw [h2]
    constructor
    · omega
    · have : s.sent = [] := by first | exact h3 | (simpa using h3)
      simp [this]
  · simp only [headB, serialB, Bool.and_eq_true, decide_eq_true_eq] at h
    omega
set_option maxHeartbeats 4000000 in
theorem s_take (a : Assoc) (k : Chunk) (byB : Bool) (hs : k.body.length ≤ 1000000) (hv : assocB a = true) : Spec Tryz.prog 91 3 (H3 a) [.ptr 0 0 0, k.av, .ptr 0 0 (if byB then 9 else 4)] (AfterW (takeR a byB k)) := by
  have hig := s_implDataGet k (by omega)
  obtain ⟨_, _, _, hst, hsa, hsb, hta, htb, _⟩ := assocB_iff.1 hv
  unfold H3 Assoc.cells3 rowsD takeR
  unfold Chunk.av Data.av at hig
  unfold Chunk.av
  cases hg : dataGet k with
  | none =>
    rw [hg] at hig
    cases byB
    all_goals
      refine mk91 rfl fun c hP hm => ?_
      unfold pc91
      simp only [hm,go_sem,↓reduceIte]
      refine call_pure (hP ▸ hig) rfl rfl ?_
      simp only [hm, Option.getD_some, Option.getD_none, Option.isSome_some, Option.isSome_none,go_sem,↓reduceIte]
    all_goals first
      | exact ⟨rfl, 1, 2, .inl ⟨rfl, rfl⟩, rfl, rfl, rfl⟩
  | some d =>
    rw [hg] at hig
    have hdb := dataGet_ok' hg
    obtain ⟨d1, d2, d3, d4, d5⟩ := data_ok hdb
    obtain ⟨⟨o1, o2⟩, o3⟩ := side_first (show sideB (a.own byB) = true by cases byB <;> assumption)
    have hw1 : IntKind.i64.wrap (d.tsn - (a.own byB).first) = d.tsn - (a.own byB).first := wrap64 (by omega) (by omega)
    have hw2 : IntKind.i64.wrap (d.tsn - (a.own byB).first + 65536) = d.tsn - (a.own byB).first + 65536 := wrap64 (by omega) (by omega)
    have hn : (d.tsn - (a.own byB).first + 65536).tmod 65536 = l3 d.tsn (-(a.own byB).first) := by rw [tmod_nn (by omega)]; unfold l3; omega
    have hM := s_mayFollow (a.own byB).sent d (by omega)
    unfold Data.av at hM
    have hK := l3_range d.tsn (-(a.own byB).first)
    have hgx : ∀ hil : (l3 d.tsn (-(a.own byB).first)).toNat < (a.own byB).sent.length, (a.own byB).sent.getD (l3 d.tsn (-(a.own byB).first)).toNat noData = (a.own byB).sent[(l3 d.tsn (-(a.own byB).first)).toNat] := fun hil => by simp [List.getD_eq_getElem?_getD, hil]
    cases byB
    all_goals
      simp only [Assoc.own, if_true, Bool.false_eq_true, if_false] at o1 o2 o3 hw1 hw2 hn hM hK hgx
      refine mr91 rfl fun c hP hm => ?_
      unfold pc91
      refine run_seq (run_wpc _ _ _ _ _ ?_)
      simp only [hm,go_sem,↓reduceIte]
      refine run_seq (run_wpc _ _ _ _ _ ?_)
      simp only [hm,go_sem,↓reduceIte]
      refine call_pure (hP ▸ hig) rfl rfl ?_
      simp only [hm, Option.getD_some, Option.getD_none, Option.isSome_some, Option.isSome_none,go_sem,↓reduceIte]
      refine run_seq (run_wpc _ _ _ _ _ ?_)
      simp only [hm,go_sem,↓reduceIte]
      refine run_seq (run_wpc _ _ _ _ _ ?_)
      simp only [hw1, hw2, hn, hm,go_sem,↓reduceIte]
      refine run_seq (run_wpc _ _ _ _ _ ?_)
      simp only [hw1, hw2, hn, hm,go_sem,↓reduceIte]
      intro _
      refine ⟨fun hk => ?_, fun hk => ?_⟩
    · have hil : (l3 d.tsn (-a.a.first)).toNat < a.a.sent.length := by omega
      refine ⟨⟨hK.1, hk⟩, hil, ?_⟩
      have hgt := getD_map (f := Data.row) hil
      have e0 := fun he => td0 (a := a) (byB := false) (d := d) (o := a.a) rfl hk he
      have e7 := fun he => td7 (a := a) (byB := false) (d := d) (o := a.a) rfl hk he
      rw [hgx hil] at e0 e7
      generalize a.a.sent[(l3 d.tsn (-a.a.first)).toNat] = x at hgt e0 e7
      simp only [hgt, Data.row, hm,go_sem,↓reduceIte]
      repeat' first | refine And.intro ?_ ?_ | intro _
      all_goals first
        | (rename_i he; rw [e0 he]; exact ⟨rfl, 1, 2, .inl ⟨rfl, rfl⟩, rfl, rfl, rfl⟩)
        | (rename_i he; rw [e7 he]; exact ⟨rfl, 1, 2, .inl ⟨rfl, rfl⟩, rfl, rfl, rfl⟩)
    · refine run_seq (run_wpc _ _ _ _ _ ?_)
      simp only [hm,go_sem,↓reduceIte]
      repeat' first
        | refine And.intro ?_ ?_
        | intro _
        | (refine call_flat (hP ▸ hM) rfl (.cons (Vw.full rfl (by simp)) (.cons (vw_self _ _ rfl) .nil)) ?_; simp only [hm,go_sem,↓reduceIte])
      all_goals first
        | (rw [td3 (o := a.a) rfl (by omega) (by omega)]; exact ⟨rfl, 1, 2, .inl ⟨rfl, rfl⟩, rfl, rfl, rfl⟩)
        | (rw [td5 (o := a.a) rfl (by omega) (by omega) (by omega)]; exact ⟨rfl, 1, 2, .inl ⟨rfl, rfl⟩, rfl, rfl, rfl⟩)
        | (rw [td6 (o := a.a) rfl (by omega) (by omega) (by omega) (by omega)]; exact ⟨rfl, 1, 2, .inl ⟨rfl, rfl⟩, rfl, rfl, rfl⟩)
        | (rw [td8 (o := a.a) rfl (by omega) (by omega) (by omega) (by omega) (by assumption)]; exact ⟨rfl, 1, 2, .inl ⟨rfl, rfl⟩, rfl, rfl, rfl⟩)
        | (rw [td11 (o := a.a) rfl (by omega) (by omega) (by omega) (by omega) (by assumption) (by omega)]; exact ⟨rfl, 1, 2, .inl ⟨rfl, rfl⟩, rfl, rfl, rfl⟩)
        | skip
      refine run_seq (run_wpc _ _ _ _ _ ?_)
      simp only [take_map_len, List.length_map, hm,go_sem,↓reduceIte]
      refine ⟨by omega, ?_⟩
      refine run_wpc _ _ _ _ _ ?_
      simp only [hm,go_sem,↓reduceIte]
      rw [tdG (o := a.a) rfl (by omega) (by omega) (by omega) (by omega) (by assumption) (by omega)]
      have hm1 : List.map Data.row a.a.sent ++ [[.n .i64 d.tsn, .n .i64 d.stream, .n .i64 d.ssn, .b d.first, .b d.last, .b d.loose, .s d.text]] = (a.a.sent ++ [d]).map Data.row := by rw [List.map_append]; rfl
      have hl1 : a.a.sent.length + 1 = (a.a.sent ++ [d]).length := by simp
      rw [hm1, hl1]
      exact ⟨rfl, 6, 2, .inr (.inl ⟨by omega, rfl⟩), rfl, rfl, rfl⟩
    · have hil : (l3 d.tsn (-a.b.first)).toNat < a.b.sent.length := by omega
      refine ⟨⟨hK.1, hk⟩, hil, ?_⟩
      have hgt := getD_map (f := Data.row) hil
      have e0 := fun he => td0 (a := a) (byB := true) (d := d) (o := a.b) rfl hk he
      have e7 := fun he => td7 (a := a) (byB := true) (d := d) (o := a.b) rfl hk he
      rw [hgx hil] at e0 e7
      generalize a.b.sent[(l3 d.tsn (-a.b.first)).toNat] = x at hgt e0 e7
      simp only [hgt, Data.row, hm,go_sem,↓reduceIte]
      repeat' first | refine And.intro ?_ ?_ | intro _
      all_goals first
        | (rename_i he; rw [e0 he]; exact ⟨rfl, 1, 2, .inl ⟨rfl, rfl⟩, rfl, rfl, rfl⟩)
        | (rename_i he; rw [e7 he]; exact ⟨rfl, 1, 2, .inl ⟨rfl, rfl⟩, rfl, rfl, rfl⟩)
    · refine run_seq (run_wpc _ _ _ _ _ ?_)
      simp only [hm,go_sem,↓reduceIte]
      repeat' first
        | refine And.intro ?_ ?_
        | intro _
        | (refine call_flat (hP ▸ hM) rfl (.cons (Vw.full rfl (by simp)) (.cons (vw_self _ _ rfl) .nil)) ?_; simp only [hm,go_sem,↓reduceIte])
      all_goals first
        | (rw [td3 (o := a.b) rfl (by omega) (by omega)]; exact ⟨rfl, 1, 2, .inl ⟨rfl, rfl⟩, rfl, rfl, rfl⟩)
        | (rw [td5 (o := a.b) rfl (by omega) (by omega) (by omega)]; exact ⟨rfl, 1, 2, .inl ⟨rfl, rfl⟩, rfl, rfl, rfl⟩)
        | (rw [td6 (o := a.b) rfl (by omega) (by omega) (by omega) (by omega)]; exact ⟨rfl, 1, 2, .inl ⟨rfl, rfl⟩, rfl, rfl, rfl⟩)
        | (rw [td8 (o := a.b) rfl (by omega) (by omega) (by omega) (by omega) (by assumption)]; exact ⟨rfl, 1, 2, .inl ⟨rfl, rfl⟩, rfl, rfl, rfl⟩)
        | (rw [td11 (o := a.b) rfl (by omega) (by omega) (by omega) (by omega) (by assumption) (by omega)]; exact ⟨rfl, 1, 2, .inl ⟨rfl, rfl⟩, rfl, rfl, rfl⟩)
        | skip
      refine run_seq (run_wpc _ _ _ _ _ ?_)
      simp only [take_map_len, List.length_map, hm,go_sem,↓reduceIte]
      refine ⟨by omega, ?_⟩
      refine run_wpc _ _ _ _ _ ?_
      simp only [hm,go_sem,↓reduceIte]
      rw [tdG (o := a.b) rfl (by omega) (by omega) (by omega) (by omega) (by assumption) (by omega)]
      have hm1 : List.map Data.row a.b.sent ++ [[.n .i64 d.tsn, .n .i64 d.stream, .n .i64 d.ssn, .b d.first, .b d.last, .b d.loose, .s d.text]] = (a.b.sent ++ [d]).map Data.row := by rw [List.map_append]; rfl
      have hl1 : a.b.sent.length + 1 = (a.b.sent ++ [d]).length := by simp
      rw [hm1, hl1]
      exact ⟨rfl, 1, 6, .inr (.inr ⟨rfl, by omega⟩), rfl, rfl, rfl⟩
def ackD (a : Assoc) (byB : Bool) (x : Sack) : Assoc × Int :=
  if l3d (l3 (a.other byB).first (-1)) x.cum < 0 ∨ ((a.other byB).sent.length : Int) < l3d (l3 (a.other byB).first (-1)) x.cum ∨ ((a.other byB).sent.length : Int) < l3d (l3 (a.other byB).first (-1)) x.cum + lastTo x.gaps then (a, 9)
  else (a.put (!byB) { a.other byB with acked := max (a.other byB).acked (l3d (l3 (a.other byB).first (-1)) x.cum) }, 0)
def ackR (a : Assoc) (byB : Bool) (k : Chunk) : Assoc × Int := match sackGet k with
  | none => (a, 4)
  | some x => ackD a byB x
theorem ackR_eq {a : Assoc} {byB : Bool} (k : Chunk) (h : a.state = 4 ∨ a.state = 5) : stepSack a byB k = ackR a byB k := by
  have hst : inB a.state 4 5 = true := inB_iff.2 (by omega)
  unfold stepSack ackR
  simp only [hst, Bool.not_true, Bool.false_eq_true, if_false]
  cases sackGet k with
  | none => rfl
  | some x =>
    unfold ackD inB
    simp only
    by_cases h2 : l3d (l3 (a.other byB).first (-1)) x.cum < 0 ∨ ((a.other byB).sent.length : Int) < l3d (l3 (a.other byB).first (-1)) x.cum ∨ ((a.other byB).sent.length : Int) < l3d (l3 (a.other byB).first (-1)) x.cum + lastTo x.gaps
    · rw [if_pos h2, if_pos]
      simp only [Bool.or_eq_true, Bool.not_eq_true', decide_eq_false_iff_not, decide_eq_true_eq]
      omega
    · rw [if_neg h2, if_neg]
      simp only [Bool.or_eq_true, Bool.not_eq_true', decide_eq_false_iff_not, decide_eq_true_eq]
      omega
section
variable {a : Assoc} {byB : Bool} {x : Sack} {o : Side} (ho : a.other byB = o)
include ho
theorem ad9 (h : l3d (l3 o.first (-1)) x.cum < 0 ∨ (o.sent.length : Int) < l3d (l3 o.first (-1)) x.cum ∨ (o.sent.length : Int) < l3d (l3 o.first (-1)) x.cum + lastTo x.gaps) : ackD a byB x = (a, 9) := by subst ho; unfold ackD; rw [if_pos h]
theorem adG (h : ¬ (l3d (l3 o.first (-1)) x.cum < 0 ∨ (o.sent.length : Int) < l3d (l3 o.first (-1)) x.cum ∨ (o.sent.length : Int) < l3d (l3 o.first (-1)) x.cum + lastTo x.gaps)) : ackD a byB x = (a.put (!byB) { o with acked := max o.acked (l3d (l3 o.first (-1)) x.cum) }, 0) := by subst ho; unfold ackD; rw [if_neg h]
end
theorem lt_max (a b : Int) : (if a < b then b else a) = max a b := by split <;> omega
set_option maxHeartbeats 4000000 in
theorem s_ack (a : Assoc) (k : Chunk) (byB : Bool) (hs : k.body.length ≤ 1000000) (hv : assocB a = true) : Spec Tryz.prog 92 3 (H3 a) [k.av, .ptr 0 0 (if byB then 4 else 9)] (AfterW (ackR a byB k)) := by
  have hig := s_implSackGet k (by omega)
  obtain ⟨_, _, _, hst, hsa, hsb, hta, htb, _⟩ := assocB_iff.1 hv
  unfold H3 Assoc.cells3 rowsD ackR
  unfold Chunk.av at hig ⊢
  cases hg : sackGet k with
  | none =>
    rw [hg] at hig
    cases byB
    all_goals
      refine mr92 rfl fun c hP hm => ?_
      unfold pc92
      refine run_seq (run_wpc _ _ _ _ _ ?_)
      simp only [hm,go_sem,↓reduceIte]
      refine run_seq (run_wpc _ _ _ _ _ ?_)
      simp only [hm,go_sem,↓reduceIte]
      refine call_dataP (hP ▸ hig) rfl rfl ?_
      simp only [Option.getD_none, Option.isSome_none, noSack, Sack.ro, List.map_nil, hm,go_sem,↓reduceIte]
      refine run_seq (run_wpc _ _ _ _ _ ?_)
      simp only [hm,go_sem,↓reduceIte]
    all_goals first
      | exact ⟨rfl, 1, 2, .inl ⟨rfl, rfl⟩, rfl, rfl, rfl⟩
  | some x =>
    rw [hg] at hig
    have hx := sackGet_ok hg
    simp only [sackB, serialB, Bool.and_eq_true, decide_eq_true_eq] at hx
    have hto := gapsB_to (by decide) hx.2
    obtain ⟨⟨o1, o2⟩, o3⟩ := side_first (show sideB (a.other byB) = true by cases byB <;> assumption)
    have hr := l3_range (a.other byB).first (-1)
    have hA := s_SerialAdd1 (a.other byB).first (-1) (by unfold serialB; exact decide_eq_true ⟨o1, o2⟩)
    have hD := s_implSerialDiff (l3 (a.other byB).first (-1)) x.cum hr (by omega)
    have hE : -32768 ≤ l3d (l3 (a.other byB).first (-1)) x.cum ∧ l3d (l3 (a.other byB).first (-1)) x.cum ≤ 32768 := by
      have := l3_range x.cum (-(l3 (a.other byB).first (-1)))
      unfold l3d; split <;> omega
    have e9 := fun h => ad9 (a := a) (byB := byB) (x := x) rfl h
    have eG := fun h => adG (a := a) (byB := byB) (x := x) rfl h
    cases byB
    all_goals
      simp only [Assoc.other, if_true, Bool.false_eq_true, if_false] at o1 o2 o3 hr hA hD hE e9 eG
    · generalize l3d (l3 a.b.first (-1)) x.cum = e at *
      refine mr92 rfl fun c hP hm => ?_
      unfold pc92
      refine run_seq (run_wpc _ _ _ _ _ ?_)
      simp only [hm,go_sem,↓reduceIte]
      refine run_seq (run_wpc _ _ _ _ _ ?_)
      simp only [hm,go_sem,↓reduceIte]
      refine call_dataP (hP ▸ hig) rfl rfl ?_
      simp only [Option.getD_some, Option.isSome_some, Sack.ro, hm,go_sem,↓reduceIte]
      refine run_seq (run_wpc _ _ _ _ _ ?_)
      simp only [hm,go_sem,↓reduceIte]
      refine run_seq (run_wpc _ _ _ _ _ ?_)
      simp only [hm,go_sem,↓reduceIte]
      repeat' first
        | refine And.intro ?_ ?_
        | intro _
        | (refine call_pure (hP ▸ hA) rfl rfl ?_; simp only [hm,go_sem,↓reduceIte])
        | (refine call_pure (hP ▸ hD) rfl rfl ?_; simp only [hm,go_sem,↓reduceIte])
      have hlen : ((x.gaps.map Gap.row).length : Int) = x.gaps.length := by simp
      refine run_seq (run_wpc _ _ _ _ _ ?_)
      simp only [hm,go_sem,↓reduceIte]
      repeat' first
        | refine And.intro ?_ ?_
        | intro _
      all_goals first
        | omega
        | (rw [e9 (by omega)]; exact ⟨rfl, 1, 2, .inl ⟨rfl, rfl⟩, rfl, rfl, rfl⟩)
        | skip
      refine run_seq (run_wpc _ _ _ _ _ ?_)
      rcases Nat.eq_zero_or_pos x.gaps.length with h0 | h0
      · have hl0 : lastTo x.gaps = 0 := by rw [List.length_eq_zero_iff.1 h0]; rfl
        simp only [hlen, h0, hm,go_sem,↓reduceIte]
        repeat' first
          | refine And.intro ?_ ?_
          | intro _
        all_goals first
          | omega
          | (rw [e9 (by omega)]; exact ⟨rfl, 1, 2, .inl ⟨rfl, rfl⟩, rfl, rfl, rfl⟩)
          | (refine run_wpc _ _ _ _ _ ?_
             simp only [hm,go_sem,↓reduceIte]
             rw [eG (by omega), lt_max]
             exact ⟨rfl, 1, 2, .inl ⟨rfl, rfl⟩, rfl, rfl, rfl⟩)
      · have hl0 := lastTo_eq h0
        have hgm : x.gaps[x.gaps.length - 1] ∈ x.gaps := List.getElem_mem _
        have ht := hto _ hgm
        have hgt := getD_map (f := Gap.row) (show x.gaps.length - 1 < x.gaps.length by omega)
        have hw1 : IntKind.i64.wrap ((x.gaps.length : Int) - 1) = (x.gaps.length : Int) - 1 := wrap64 (by omega) (by omega)
        have hw2 : ((x.gaps.length : Int) - 1).toNat = x.gaps.length - 1 := by omega
        generalize x.gaps[x.gaps.length - 1] = g at hl0 ht hgt
        have hw3 : IntKind.i64.wrap (e + g.to) = e + g.to := wrap64 (by omega) (by omega)
        simp only [hlen, hw1, hw2, hw3, hgt, Gap.row, hm,go_sem,↓reduceIte]
        repeat' first
          | refine And.intro ?_ ?_
          | intro _
        all_goals first
          | omega
          | (rw [e9 (by omega)]; exact ⟨rfl, 1, 2, .inl ⟨rfl, rfl⟩, rfl, rfl, rfl⟩)
          | (refine run_wpc _ _ _ _ _ ?_
             simp only [hm,go_sem,↓reduceIte]
             rw [eG (by omega), lt_max]
             exact ⟨rfl, 1, 2, .inl ⟨rfl, rfl⟩, rfl, rfl, rfl⟩)
    · generalize l3d (l3 a.a.first (-1)) x.cum = e at *
      refine mr92 rfl fun c hP hm => ?_
      unfold pc92
      refine run_seq (run_wpc _ _ _ _ _ ?_)
      simp only [hm,go_sem,↓reduceIte]
      refine run_seq (run_wpc _ _ _ _ _ ?_)
      simp only [hm,go_sem,↓reduceIte]
      refine call_dataP (hP ▸ hig) rfl rfl ?_
      simp only [Option.getD_some, Option.isSome_some, Sack.ro, hm,go_sem,↓reduceIte]
      refine run_seq (run_wpc _ _ _ _ _ ?_)
      simp only [hm,go_sem,↓reduceIte]
      refine run_seq (run_wpc _ _ _ _ _ ?_)
      simp only [hm,go_sem,↓reduceIte]
      repeat' first
        | refine And.intro ?_ ?_
        | intro _
        | (refine call_pure (hP ▸ hA) rfl rfl ?_; simp only [hm,go_sem,↓reduceIte])
        | (refine call_pure (hP ▸ hD) rfl rfl ?_; simp only [hm,go_sem,↓reduceIte])
      have hlen : ((x.gaps.map Gap.row).length : Int) = x.gaps.length := by simp
      refine run_seq (run_wpc _ _ _ _ _ ?_)
      simp only [hm,go_sem,↓reduceIte]
      repeat' first
        | refine And.intro ?_ ?_
        | intro _
      all_goals first
        | omega
        | (rw [e9 (by omega)]; exact ⟨rfl, 1, 2, .inl ⟨rfl, rfl⟩, rfl, rfl, rfl⟩)
        | skip
      refine run_seq (run_wpc _ _ _ _ _ ?_)
      rcases Nat.eq_zero_or_pos x.gaps.length with h0 | h0
      · have hl0 : lastTo x.gaps = 0 := by rw [List.length_eq_zero_iff.1 h0]; rfl
        simp only [hlen, h0, hm,go_sem,↓reduceIte]
        repeat' first
          | refine And.intro ?_ ?_
          | intro _
        all_goals first
          | omega
          | (rw [e9 (by omega)]; exact ⟨rfl, 1, 2, .inl ⟨rfl, rfl⟩, rfl, rfl, rfl⟩)
          | (refine run_wpc _ _ _ _ _ ?_
             simp only [hm,go_sem,↓reduceIte]
             rw [eG (by omega), lt_max]
             exact ⟨rfl, 1, 2, .inl ⟨rfl, rfl⟩, rfl, rfl, rfl⟩)
      · have hl0 := lastTo_eq h0
        have hgm : x.gaps[x.gaps.length - 1] ∈ x.gaps := List.getElem_mem _
        have ht := hto _ hgm
        have hgt := getD_map (f := Gap.row) (show x.gaps.length - 1 < x.gaps.length by omega)
        have hw1 : IntKind.i64.wrap ((x.gaps.length : Int) - 1) = (x.gaps.length : Int) - 1 := wrap64 (by omega) (by omega)
        have hw2 : ((x.gaps.length : Int) - 1).toNat = x.gaps.length - 1 := by omega
        generalize x.gaps[x.gaps.length - 1] = g at hl0 ht hgt
        have hw3 : IntKind.i64.wrap (e + g.to) = e + g.to := wrap64 (by omega) (by omega)
        simp only [hlen, hw1, hw2, hw3, hgt, Gap.row, hm,go_sem,↓reduceIte]
        repeat' first
          | refine And.intro ?_ ?_
          | intro _
        all_goals first
          | omega
          | (rw [e9 (by omega)]; exact ⟨rfl, 1, 2, .inl ⟨rfl, rfl⟩, rfl, rfl, rfl⟩)
          | (refine run_wpc _ _ _ _ _ ?_
             simp only [hm,go_sem,↓reduceIte]
             rw [eG (by omega), lt_max]
             exact ⟨rfl, 1, 2, .inl ⟨rfl, rfl⟩, rfl, rfl, rfl⟩)
section
variable {a : Assoc} {b : Bool} {k : Chunk}
theorem sc12 (hk : k.kind = 1 ∨ k.kind = 2) : stepChunk a b k = stepInit a b k := by unfold stepChunk; rw [if_pos hk]
theorem sc0 (hk : k.kind = 0) (h : a.state = 4 ∨ (a.state = 3 ∧ b = false) ∨ (a.state = 5 ∧ b ≠ a.byB)) : stepChunk a b k = takeR a b k := by
  unfold stepChunk; rw [if_neg (by omega), if_pos hk, takeR_eq k h]
theorem sc0n (hk : k.kind = 0) (h : a.state ≠ 4) (h2 : a.state = 3 → b = true) (h3 : a.state = 5 → (b == a.byB) = true) : stepChunk a b k = (a, 3) := by
  unfold stepChunk stepData
  rw [if_neg (by omega), if_pos hk]
  simp only
  rw [if_pos]
  rw [decide_eq_false h]
  by_cases h5 : a.state = 3
  · rw [h2 h5, decide_eq_false (show ¬ a.state = 5 by omega)]; simp
  · rw [decide_eq_false h5]
    by_cases h6 : a.state = 5
    · have : b = a.byB := by simpa using h3 h6
      rw [this]; simp
    · rw [decide_eq_false h6]; simp
theorem sc3 (hk : k.kind = 3) (h : a.state = 4 ∨ a.state = 5) : stepChunk a b k = ackR a b k := by
  unfold stepChunk; rw [if_neg (by omega), if_neg (by omega), if_pos hk, ackR_eq k h]
theorem sc3n (hk : k.kind = 3) (h : ¬ (a.state = 4 ∨ a.state = 5)) : stepChunk a b k = (a, 3) := by
  unfold stepChunk stepSack
  rw [if_neg (by omega), if_neg (by omega), if_pos hk]
  have hst : inB a.state 4 5 = false := decide_eq_false (by omega)
  simp only [hst, Bool.not_false, if_true]
theorem scE (hk : k.kind = 6 ∨ k.kind = 7 ∨ k.kind = 8 ∨ k.kind = 14) : stepChunk a b k = stepEnd a b k.kind := by
  unfold stepChunk; rw [if_neg (by omega), if_neg (by omega), if_neg (by omega), if_pos hk]
theorem scR (h0 : k.kind ≠ 0) (h1 : k.kind ≠ 1) (h2 : k.kind ≠ 2) (h3 : k.kind ≠ 3) (h6 : k.kind ≠ 6) (h7 : k.kind ≠ 7) (h8 : k.kind ≠ 8) (h14 : k.kind ≠ 14) : stepChunk a b k = stepRest a b k.kind := by
  unfold stepChunk; rw [if_neg (by omega), if_neg (by omega), if_neg (by omega), if_neg (by omega)]
theorem sc6 (hk : k.kind = 6) : stepChunk a b k = if 1 ≤ a.state ∧ a.state ≤ 6 then ({ a with state := 7 }, 0) else (a, 3) := by
  rw [scE (by omega), hk]; simp [stepEnd, inB]
theorem sc7t (hk : k.kind = 7) (hq : (b == a.byB) = true) {o : Side} (ho : a.own b = o) : stepChunk a b k = if a.state = 4 then (if o.acked = o.sent.length then ({ a with state := 5, byB := b }, 0) else (a, 10)) else if 5 ≤ a.state ∧ a.state ≤ 6 then (a, 0) else (a, 3) := by
  rw [scE (by omega), hk]; simp [stepEnd, inB, ho, hq]
theorem sc7f (hk : k.kind = 7) (hq : (b == a.byB) = false) {o : Side} (ho : a.own b = o) : stepChunk a b k = if a.state = 4 then (if o.acked = o.sent.length then ({ a with state := 5, byB := b }, 0) else (a, 10)) else (a, 3) := by
  rw [scE (by omega), hk]; simp [stepEnd, inB, ho, hq]
theorem sc8t (hk : k.kind = 8) (hq : (b == a.byB) = true) : stepChunk a b k = (a, 3) := by
  rw [scE (by omega), hk]
  have : b = a.byB := by simpa using hq
  simp [stepEnd, inB, this]
theorem sc8f (hk : k.kind = 8) (hq : (b == a.byB) = false) {o : Side} (ho : a.own b = o) : stepChunk a b k = if a.state = 5 then (if o.acked = o.sent.length then ({ a with state := 6 }, 0) else (a, 10)) else if a.state = 6 then (a, 0) else (a, 3) := by
  rw [scE (by omega), hk]
  have hq2 : (b != a.byB) = true := by rw [bne, hq]; rfl
  unfold stepEnd inB
  rw [ho, hq2]
  by_cases h5 : a.state = 5
  · by_cases hd : o.acked = o.sent.length
    · simp [h5, hd]
    · simp [h5, hd]
  · by_cases h6 : a.state = 6
    · obtain ⟨_, _, st, _, _, _⟩ := a
      simp only at h6
      subst h6
      simp
    · rw [if_neg h5, if_neg h6]
      simp only [Int.reduceEq, if_false]
      rw [if_pos trivial, if_neg]
      simp only [Bool.and_true, decide_eq_true_eq]
      omega
theorem sc14t (hk : k.kind = 14) (hq : (b == a.byB) = true) : stepChunk a b k = if a.state = 6 then ({ a with state := 7 }, 0) else (a, 3) := by
  rw [scE (by omega), hk]; simp [stepEnd, inB, hq]
theorem sc14f (hk : k.kind = 14) (hq : (b == a.byB) = false) : stepChunk a b k = (a, 3) := by
  rw [scE (by omega), hk]; simp [stepEnd, inB, hq]
theorem sc10a (hk : k.kind = 10) (hb : b = false) : stepChunk a b k = if a.state = 2 then ({ a with state := 3 }, 0) else if 3 ≤ a.state ∧ a.state ≤ 4 then (a, 0) else (a, 3) := by
  rw [scR (by omega) (by omega) (by omega) (by omega) (by omega) (by omega) (by omega) (by omega), hk, hb]
  unfold stepRest inB
  rw [if_pos rfl]
  by_cases h2 : a.state = 2
  · simp [h2, show max (2 : Int) 3 = 3 by decide]
  · by_cases h3 : 3 ≤ a.state ∧ a.state ≤ 4
    · rw [if_neg h2, if_pos h3, if_pos (by simp; omega)]
      have : max a.state 3 = a.state := by omega
      rw [this]
    · rw [if_neg h2, if_neg h3, if_neg (by simp; omega)]
theorem sc10b (hk : k.kind = 10) (hb : b = true) : stepChunk a b k = (a, 3) := by
  rw [scR (by omega) (by omega) (by omega) (by omega) (by omega) (by omega) (by omega) (by omega), hk, hb]
  simp [stepRest]
theorem sc11a (hk : k.kind = 11) (hb : b = true) : stepChunk a b k = if 3 ≤ a.state ∧ a.state ≤ 4 then ({ a with state := 4 }, 0) else (a, 3) := by
  rw [scR (by omega) (by omega) (by omega) (by omega) (by omega) (by omega) (by omega) (by omega), hk, hb]
  simp [stepRest, inB]
theorem sc11b (hk : k.kind = 11) (hb : b = false) : stepChunk a b k = (a, 3) := by
  rw [scR (by omega) (by omega) (by omega) (by omega) (by omega) (by omega) (by omega) (by omega), hk, hb]
  simp [stepRest]
theorem sc459 (hk : k.kind = 4 ∨ k.kind = 5 ∨ k.kind = 9) : stepChunk a b k = if 3 ≤ a.state ∧ a.state ≤ 6 then (a, 0) else (a, 3) := by
  rw [scR (by omega) (by omega) (by omega) (by omega) (by omega) (by omega) (by omega) (by omega)]
  unfold stepRest inB
  rw [if_neg (by omega), if_neg (by omega), if_pos hk]
  simp only [decide_eq_true_eq]
theorem scN (h0 : k.kind ≠ 0) (h1 : k.kind ≠ 1) (h2 : k.kind ≠ 2) (h3 : k.kind ≠ 3) (h6 : k.kind ≠ 6) (h7 : k.kind ≠ 7) (h8 : k.kind ≠ 8) (h14 : k.kind ≠ 14) (h10 : k.kind ≠ 10) (h11 : k.kind ≠ 11) (h4 : k.kind ≠ 4) (h5 : k.kind ≠ 5) (h9 : k.kind ≠ 9) : stepChunk a b k = (a, 3) := by
  rw [scR h0 h1 h2 h3 h6 h7 h8 h14]
  unfold stepRest
  rw [if_neg h10, if_neg h11, if_neg (by omega)]
end
set_option maxHeartbeats 8000000 in
theorem s_handle (a : Assoc) (k : Chunk) (byB : Bool) (hs : k.body.length ≤ 1000000) (hv : assocB a = true) : Spec Tryz.prog 72 3 (H3 a) [.ptr 0 0 0, k.av, .bo byB] (AfterW (stepChunk a byB k)) := by
  obtain ⟨_, _, _, hst, _⟩ := assocB_iff.1 hv
  have hgr := fun h => AfterW.canon (s_greet a k byB hs hv h)
  have hta := AfterW.canon (s_take a k byB hs hv)
  have hac := AfterW.canon (s_ack a k byB hs hv)
  unfold Chunk.av at hgr hta hac ⊢
  have main : ∀ q, (byB == a.byB) = q → Spec Tryz.prog 72 3 (H3 a) [.ptr 0 0 0, .agg [.i k.kind, .i k.flags, .st k.body], .bo byB] (AfterW (stepChunk a byB k)) := by
    intro q hq
    have hu : H3 a = [(0, .var [.i a.fr, .i a.to, .i a.state, .bo a.byB, .i a.a.tag, .i a.a.streams, .i a.a.first, .sl 1 0 a.a.sent.length, .i a.a.acked, .i a.b.tag, .i a.b.streams, .i a.b.first, .sl 2 0 a.b.sent.length, .i a.b.acked]), (1, .row 7 (a.a.sent.map Data.row)), (2, .row 7 (a.b.sent.map Data.row))] := rfl
    cases byB <;> cases q
    · refine mr72 rfl fun c hP hm => ?_
      unfold pc72
      rw [hu]
      refine run_seq (run_wpc _ _ _ _ _ ?_)
      simp only [hm,go_sem,↓reduceIte]
      refine run_seq (run_wpc _ _ _ _ _ ?_)
      simp only [hm,go_sem,↓reduceIte]
      refine run_seq (run_wpc _ _ _ _ _ ?_)
      simp only [hm,go_sem,↓reduceIte]
      refine run_seq (run_wpc _ _ _ _ _ ?_)
      simp only [hq, hm,go_sem,↓reduceIte]
      refine run_seq (run_seq (run_wpc _ _ _ _ _ ?_))
      simp only [hm,go_sem,↓reduceIte]
      refine run_wpc _ _ _ _ _ ?_
      simp only [hm,go_sem,↓reduceIte]
      repeat' first | refine And.intro ?_ ?_ | intro _
      all_goals try (refine run_wpc _ _ _ _ _ ?_; simp only [hm,go_sem,↓reduceIte])
      all_goals
        first
        | omega
        | (rw [scN (by omega) (by omega) (by omega) (by omega) (by omega) (by omega) (by omega) (by omega) (by omega) (by omega) (by omega) (by omega) (by omega)]; exact ⟨rfl, 1, 2, .inl ⟨rfl, rfl⟩, rfl, rfl, rfl⟩)
        | (refine call_three 0 1 2 (hP ▸ hgr (by omega)) ⟨by decide, by decide, by decide⟩ rfl rfl rfl rfl ?_ ?_ ?_
           all_goals
             simp only [hm,go_sem,↓reduceIte]
             rw [sc12 (by omega)]
             first | exact ⟨rfl, 1, 2, .inl ⟨rfl, rfl⟩, rfl, rfl, rfl⟩ | exact ⟨rfl, 4, 2, .inr (.inl ⟨by omega, rfl⟩), rfl, rfl, rfl⟩ | exact ⟨rfl, 1, 4, .inr (.inr ⟨rfl, by omega⟩), rfl, rfl, rfl⟩)
        | (refine call_three 0 1 2 (hP ▸ hta) ⟨by decide, by decide, by decide⟩ rfl rfl rfl rfl ?_ ?_ ?_
           all_goals
             simp only [hm,go_sem,↓reduceIte]
             rw [sc0 (by assumption) (by first | exact .inl (by assumption) | exact .inr (.inl ⟨by assumption, rfl⟩) | exact .inr (.inr ⟨by assumption, by simpa using hq⟩))]
             first | exact ⟨rfl, 1, 2, .inl ⟨rfl, rfl⟩, rfl, rfl, rfl⟩ | exact ⟨rfl, 4, 2, .inr (.inl ⟨by omega, rfl⟩), rfl, rfl, rfl⟩ | exact ⟨rfl, 1, 4, .inr (.inr ⟨rfl, by omega⟩), rfl, rfl, rfl⟩)
        | (refine call_three 0 1 2 (hP ▸ hac) ⟨by decide, by decide, by decide⟩ rfl rfl rfl rfl ?_ ?_ ?_
           all_goals
             simp only [hm,go_sem,↓reduceIte]
             rw [sc3 (by assumption) (by omega)]
             first | exact ⟨rfl, 1, 2, .inl ⟨rfl, rfl⟩, rfl, rfl, rfl⟩ | exact ⟨rfl, 4, 2, .inr (.inl ⟨by omega, rfl⟩), rfl, rfl, rfl⟩ | exact ⟨rfl, 1, 4, .inr (.inr ⟨rfl, by omega⟩), rfl, rfl, rfl⟩)
        | (rw [sc0n (by assumption) (by assumption) (fun h => by first | rfl | omega) (fun h => by first | exact hq | omega)]; exact ⟨rfl, 1, 2, .inl ⟨rfl, rfl⟩, rfl, rfl, rfl⟩)
        | (rw [sc3n (by assumption) (by omega)]; exact ⟨rfl, 1, 2, .inl ⟨rfl, rfl⟩, rfl, rfl, rfl⟩)
        | (rw [sc6 (by assumption)]; repeat' split
           all_goals first | exact ⟨rfl, 1, 2, .inl ⟨rfl, rfl⟩, rfl, rfl, rfl⟩ | omega)
        | (rw [sc7f (by assumption) hq (o := a.a) rfl]; repeat' split
           all_goals first | exact ⟨rfl, 1, 2, .inl ⟨rfl, rfl⟩, rfl, rfl, rfl⟩ | omega)
        | (rw [sc8f (by assumption) hq (o := a.a) rfl]; repeat' split
           all_goals first | exact ⟨rfl, 1, 2, .inl ⟨rfl, rfl⟩, rfl, rfl, rfl⟩ | omega)
        | (rw [sc14f (by assumption) hq]; exact ⟨rfl, 1, 2, .inl ⟨rfl, rfl⟩, rfl, rfl, rfl⟩)
        | (rw [sc10a (by assumption) rfl]; repeat' split
           all_goals first | exact ⟨rfl, 1, 2, .inl ⟨rfl, rfl⟩, rfl, rfl, rfl⟩ | omega)
        | (rw [sc11b (by assumption) rfl]; exact ⟨rfl, 1, 2, .inl ⟨rfl, rfl⟩, rfl, rfl, rfl⟩)
        | (rw [sc459 (by omega)]; repeat' split
           all_goals first | exact ⟨rfl, 1, 2, .inl ⟨rfl, rfl⟩, rfl, rfl, rfl⟩ | omega)
    · refine mr72 rfl fun c hP hm => ?_
      unfold pc72
      rw [hu]
      refine run_seq (run_wpc _ _ _ _ _ ?_)
      simp only [hm,go_sem,↓reduceIte]
      refine run_seq (run_wpc _ _ _ _ _ ?_)
      simp only [hm,go_sem,↓reduceIte]
      refine run_seq (run_wpc _ _ _ _ _ ?_)
      simp only [hm,go_sem,↓reduceIte]
      refine run_seq (run_wpc _ _ _ _ _ ?_)
      simp only [hq, hm,go_sem,↓reduceIte]
      refine run_seq (run_seq (run_wpc _ _ _ _ _ ?_))
      simp only [hm,go_sem,↓reduceIte]
      refine run_wpc _ _ _ _ _ ?_
      simp only [hm,go_sem,↓reduceIte]
      repeat' first | refine And.intro ?_ ?_ | intro _
      all_goals try (refine run_wpc _ _ _ _ _ ?_; simp only [hm,go_sem,↓reduceIte])
      all_goals
        first
        | omega
        | (rw [scN (by omega) (by omega) (by omega) (by omega) (by omega) (by omega) (by omega) (by omega) (by omega) (by omega) (by omega) (by omega) (by omega)]; exact ⟨rfl, 1, 2, .inl ⟨rfl, rfl⟩, rfl, rfl, rfl⟩)
        | (refine call_three 0 1 2 (hP ▸ hgr (by omega)) ⟨by decide, by decide, by decide⟩ rfl rfl rfl rfl ?_ ?_ ?_
           all_goals
             simp only [hm,go_sem,↓reduceIte]
             rw [sc12 (by omega)]
             first | exact ⟨rfl, 1, 2, .inl ⟨rfl, rfl⟩, rfl, rfl, rfl⟩ | exact ⟨rfl, 4, 2, .inr (.inl ⟨by omega, rfl⟩), rfl, rfl, rfl⟩ | exact ⟨rfl, 1, 4, .inr (.inr ⟨rfl, by omega⟩), rfl, rfl, rfl⟩)
        | (refine call_three 0 1 2 (hP ▸ hta) ⟨by decide, by decide, by decide⟩ rfl rfl rfl rfl ?_ ?_ ?_
           all_goals
             simp only [hm,go_sem,↓reduceIte]
             rw [sc0 (by assumption) (by first | omega | exact .inl (by assumption) | exact .inr (.inl ⟨by assumption, rfl⟩))]
             first | exact ⟨rfl, 1, 2, .inl ⟨rfl, rfl⟩, rfl, rfl, rfl⟩ | exact ⟨rfl, 4, 2, .inr (.inl ⟨by omega, rfl⟩), rfl, rfl, rfl⟩ | exact ⟨rfl, 1, 4, .inr (.inr ⟨rfl, by omega⟩), rfl, rfl, rfl⟩)
        | (refine call_three 0 1 2 (hP ▸ hac) ⟨by decide, by decide, by decide⟩ rfl rfl rfl rfl ?_ ?_ ?_
           all_goals
             simp only [hm,go_sem,↓reduceIte]
             rw [sc3 (by assumption) (by omega)]
             first | exact ⟨rfl, 1, 2, .inl ⟨rfl, rfl⟩, rfl, rfl, rfl⟩ | exact ⟨rfl, 4, 2, .inr (.inl ⟨by omega, rfl⟩), rfl, rfl, rfl⟩ | exact ⟨rfl, 1, 4, .inr (.inr ⟨rfl, by omega⟩), rfl, rfl, rfl⟩)
        | (rw [sc0n (by assumption) (by assumption) (fun h => by first | rfl | omega) (fun h => by first | exact hq | omega)]; exact ⟨rfl, 1, 2, .inl ⟨rfl, rfl⟩, rfl, rfl, rfl⟩)
        | (rw [sc3n (by assumption) (by omega)]; exact ⟨rfl, 1, 2, .inl ⟨rfl, rfl⟩, rfl, rfl, rfl⟩)
        | (rw [sc6 (by assumption)]; repeat' split
           all_goals first | exact ⟨rfl, 1, 2, .inl ⟨rfl, rfl⟩, rfl, rfl, rfl⟩ | omega)
        | (rw [sc7t (by assumption) hq (o := a.a) rfl]; repeat' split
           all_goals first | exact ⟨rfl, 1, 2, .inl ⟨rfl, rfl⟩, rfl, rfl, rfl⟩ | omega)
        | (rw [sc8t (by assumption) hq]; exact ⟨rfl, 1, 2, .inl ⟨rfl, rfl⟩, rfl, rfl, rfl⟩)
        | (rw [sc14t (by assumption) hq]; repeat' split
           all_goals first | exact ⟨rfl, 1, 2, .inl ⟨rfl, rfl⟩, rfl, rfl, rfl⟩ | omega)
        | (rw [sc10a (by assumption) rfl]; repeat' split
           all_goals first | exact ⟨rfl, 1, 2, .inl ⟨rfl, rfl⟩, rfl, rfl, rfl⟩ | omega)
        | (rw [sc11b (by assumption) rfl]; exact ⟨rfl, 1, 2, .inl ⟨rfl, rfl⟩, rfl, rfl, rfl⟩)
        | (rw [sc459 (by omega)]; repeat' split
           all_goals first | exact ⟨rfl, 1, 2, .inl ⟨rfl, rfl⟩, rfl, rfl, rfl⟩ | omega)
    · refine mr72 rfl fun c hP hm => ?_
      unfold pc72
      rw [hu]
      refine run_seq (run_wpc _ _ _ _ _ ?_)
      simp only [hm,go_sem,↓reduceIte]
      refine run_seq (run_wpc _ _ _ _ _ ?_)
      simp only [hm,go_sem,↓reduceIte]
      refine run_seq (run_wpc _ _ _ _ _ ?_)
      simp only [hm,go_sem,↓reduceIte]
      refine run_seq (run_wpc _ _ _ _ _ ?_)
      simp only [hq, hm,go_sem,↓reduceIte]
      refine run_seq (run_seq (run_wpc _ _ _ _ _ ?_))
      simp only [hm,go_sem,↓reduceIte]
      refine run_wpc _ _ _ _ _ ?_
      simp only [hm,go_sem,↓reduceIte]
      repeat' first | refine And.intro ?_ ?_ | intro _
      all_goals try (refine run_wpc _ _ _ _ _ ?_; simp only [hm,go_sem,↓reduceIte])
      all_goals
        first
        | omega
        | (rw [scN (by omega) (by omega) (by omega) (by omega) (by omega) (by omega) (by omega) (by omega) (by omega) (by omega) (by omega) (by omega) (by omega)]; exact ⟨rfl, 1, 2, .inl ⟨rfl, rfl⟩, rfl, rfl, rfl⟩)
        | (refine call_three 0 1 2 (hP ▸ hgr (by omega)) ⟨by decide, by decide, by decide⟩ rfl rfl rfl rfl ?_ ?_ ?_
           all_goals
             simp only [hm,go_sem,↓reduceIte]
             rw [sc12 (by omega)]
             first | exact ⟨rfl, 1, 2, .inl ⟨rfl, rfl⟩, rfl, rfl, rfl⟩ | exact ⟨rfl, 4, 2, .inr (.inl ⟨by omega, rfl⟩), rfl, rfl, rfl⟩ | exact ⟨rfl, 1, 4, .inr (.inr ⟨rfl, by omega⟩), rfl, rfl, rfl⟩)
        | (refine call_three 0 1 2 (hP ▸ hta) ⟨by decide, by decide, by decide⟩ rfl rfl rfl rfl ?_ ?_ ?_
           all_goals
             simp only [hm,go_sem,↓reduceIte]
             rw [sc0 (by assumption) (by first | exact .inl (by assumption) | exact .inr (.inr ⟨by assumption, by simpa using hq⟩))]
             first | exact ⟨rfl, 1, 2, .inl ⟨rfl, rfl⟩, rfl, rfl, rfl⟩ | exact ⟨rfl, 4, 2, .inr (.inl ⟨by omega, rfl⟩), rfl, rfl, rfl⟩ | exact ⟨rfl, 1, 4, .inr (.inr ⟨rfl, by omega⟩), rfl, rfl, rfl⟩)
        | (refine call_three 0 1 2 (hP ▸ hac) ⟨by decide, by decide, by decide⟩ rfl rfl rfl rfl ?_ ?_ ?_
           all_goals
             simp only [hm,go_sem,↓reduceIte]
             rw [sc3 (by assumption) (by omega)]
             first | exact ⟨rfl, 1, 2, .inl ⟨rfl, rfl⟩, rfl, rfl, rfl⟩ | exact ⟨rfl, 4, 2, .inr (.inl ⟨by omega, rfl⟩), rfl, rfl, rfl⟩ | exact ⟨rfl, 1, 4, .inr (.inr ⟨rfl, by omega⟩), rfl, rfl, rfl⟩)
        | (rw [sc0n (by assumption) (by assumption) (fun h => by first | rfl | omega) (fun h => by first | exact hq | omega)]; exact ⟨rfl, 1, 2, .inl ⟨rfl, rfl⟩, rfl, rfl, rfl⟩)
        | (rw [sc3n (by assumption) (by omega)]; exact ⟨rfl, 1, 2, .inl ⟨rfl, rfl⟩, rfl, rfl, rfl⟩)
        | (rw [sc6 (by assumption)]; repeat' split
           all_goals first | exact ⟨rfl, 1, 2, .inl ⟨rfl, rfl⟩, rfl, rfl, rfl⟩ | omega)
        | (rw [sc7f (by assumption) hq (o := a.b) rfl]; repeat' split
           all_goals first | exact ⟨rfl, 1, 2, .inl ⟨rfl, rfl⟩, rfl, rfl, rfl⟩ | omega)
        | (rw [sc8f (by assumption) hq (o := a.b) rfl]; repeat' split
           all_goals first | exact ⟨rfl, 1, 2, .inl ⟨rfl, rfl⟩, rfl, rfl, rfl⟩ | omega)
        | (rw [sc14f (by assumption) hq]; exact ⟨rfl, 1, 2, .inl ⟨rfl, rfl⟩, rfl, rfl, rfl⟩)
        | (rw [sc10b (by assumption) rfl]; exact ⟨rfl, 1, 2, .inl ⟨rfl, rfl⟩, rfl, rfl, rfl⟩)
        | (rw [sc11a (by assumption) rfl]; repeat' split
           all_goals first | exact ⟨rfl, 1, 2, .inl ⟨rfl, rfl⟩, rfl, rfl, rfl⟩ | omega)
        | (rw [sc459 (by omega)]; repeat' split
           all_goals first | exact ⟨rfl, 1, 2, .inl ⟨rfl, rfl⟩, rfl, rfl, rfl⟩ | omega)
    · refine mr72 rfl fun c hP hm => ?_
      unfold pc72
      rw [hu]
      refine run_seq (run_wpc _ _ _ _ _ ?_)
      simp only [hm,go_sem,↓reduceIte]
      refine run_seq (run_wpc _ _ _ _ _ ?_)
      simp only [hm,go_sem,↓reduceIte]
      refine run_seq (run_wpc _ _ _ _ _ ?_)
      simp only [hm,go_sem,↓reduceIte]
      refine run_seq (run_wpc _ _ _ _ _ ?_)
      simp only [hq, hm,go_sem,↓reduceIte]
      refine run_seq (run_seq (run_wpc _ _ _ _ _ ?_))
      simp only [hm,go_sem,↓reduceIte]
      refine run_wpc _ _ _ _ _ ?_
      simp only [hm,go_sem,↓reduceIte]
      repeat' first | refine And.intro ?_ ?_ | intro _
      all_goals try (refine run_wpc _ _ _ _ _ ?_; simp only [hm,go_sem,↓reduceIte])
      all_goals
        first
        | omega
        | (rw [scN (by omega) (by omega) (by omega) (by omega) (by omega) (by omega) (by omega) (by omega) (by omega) (by omega) (by omega) (by omega) (by omega)]; exact ⟨rfl, 1, 2, .inl ⟨rfl, rfl⟩, rfl, rfl, rfl⟩)
        | (refine call_three 0 1 2 (hP ▸ hgr (by omega)) ⟨by decide, by decide, by decide⟩ rfl rfl rfl rfl ?_ ?_ ?_
           all_goals
             simp only [hm,go_sem,↓reduceIte]
             rw [sc12 (by omega)]
             first | exact ⟨rfl, 1, 2, .inl ⟨rfl, rfl⟩, rfl, rfl, rfl⟩ | exact ⟨rfl, 4, 2, .inr (.inl ⟨by omega, rfl⟩), rfl, rfl, rfl⟩ | exact ⟨rfl, 1, 4, .inr (.inr ⟨rfl, by omega⟩), rfl, rfl, rfl⟩)
        | (refine call_three 0 1 2 (hP ▸ hta) ⟨by decide, by decide, by decide⟩ rfl rfl rfl rfl ?_ ?_ ?_
           all_goals
             simp only [hm,go_sem,↓reduceIte]
             rw [sc0 (by assumption) (.inl (by assumption))]
             first | exact ⟨rfl, 1, 2, .inl ⟨rfl, rfl⟩, rfl, rfl, rfl⟩ | exact ⟨rfl, 4, 2, .inr (.inl ⟨by omega, rfl⟩), rfl, rfl, rfl⟩ | exact ⟨rfl, 1, 4, .inr (.inr ⟨rfl, by omega⟩), rfl, rfl, rfl⟩)
        | (refine call_three 0 1 2 (hP ▸ hac) ⟨by decide, by decide, by decide⟩ rfl rfl rfl rfl ?_ ?_ ?_
           all_goals
             simp only [hm,go_sem,↓reduceIte]
             rw [sc3 (by assumption) (by omega)]
             first | exact ⟨rfl, 1, 2, .inl ⟨rfl, rfl⟩, rfl, rfl, rfl⟩ | exact ⟨rfl, 4, 2, .inr (.inl ⟨by omega, rfl⟩), rfl, rfl, rfl⟩ | exact ⟨rfl, 1, 4, .inr (.inr ⟨rfl, by omega⟩), rfl, rfl, rfl⟩)
        | (rw [sc0n (by assumption) (by assumption) (fun h => by first | rfl | omega) (fun h => by first | exact hq | omega)]; exact ⟨rfl, 1, 2, .inl ⟨rfl, rfl⟩, rfl, rfl, rfl⟩)
        | (rw [sc3n (by assumption) (by omega)]; exact ⟨rfl, 1, 2, .inl ⟨rfl, rfl⟩, rfl, rfl, rfl⟩)
        | (rw [sc6 (by assumption)]; repeat' split
           all_goals first | exact ⟨rfl, 1, 2, .inl ⟨rfl, rfl⟩, rfl, rfl, rfl⟩ | omega)
        | (rw [sc7t (by assumption) hq (o := a.b) rfl]; repeat' split
           all_goals first | exact ⟨rfl, 1, 2, .inl ⟨rfl, rfl⟩, rfl, rfl, rfl⟩ | omega)
        | (rw [sc8t (by assumption) hq]; exact ⟨rfl, 1, 2, .inl ⟨rfl, rfl⟩, rfl, rfl, rfl⟩)
        | (rw [sc14t (by assumption) hq]; repeat' split
           all_goals first | exact ⟨rfl, 1, 2, .inl ⟨rfl, rfl⟩, rfl, rfl, rfl⟩ | omega)
        | (rw [sc10b (by assumption) rfl]; exact ⟨rfl, 1, 2, .inl ⟨rfl, rfl⟩, rfl, rfl, rfl⟩)
        | (rw [sc11a (by assumption) rfl]; repeat' split
           all_goals first | exact ⟨rfl, 1, 2, .inl ⟨rfl, rfl⟩, rfl, rfl, rfl⟩ | omega)
        | (rw [sc459 (by omega)]; repeat' split
           all_goals first | exact ⟨rfl, 1, 2, .inl ⟨rfl, rfl⟩, rfl, rfl, rfl⟩ | omega)
  exact main _ rfl
theorem s_copyAssoc (a : Assoc) (h1 : a.a.sent.length ≤ 1000000) (h2 : a.b.sent.length ≤ 1000000) : Spec Tryz.prog 37 0 [] [a.ro] (New2 (.agg (a.cells3 0 1)) 7 (a.a.sent.map Data.row) 7 (a.b.sent.map Data.row)) := by
  refine Spec.new2 (Q := fun r hp _ _ => ∃ b b1, b ≠ b1 ∧ r = .agg (a.cells3 b b1) ∧ hget hp b = some (.row 7 (a.a.sent.map Data.row)) ∧ hget hp b1 = some (.row 7 (a.b.sent.map Data.row))) ?_ (fun r hp nx gs h => h) (fun f g h1 h2 => by unfold Assoc.cells3; simp only [go_sem, h1, h2])
  refine mk37 rfl fun c hP hm => ?_
  unfold pc37 Assoc.ro Assoc.av
  simp only [hm,go_sem,↓reduceIte]
  repeat' first | refine And.intro ?_ ?_ | intro _
  all_goals first
    | omega
    | (simp only [List.length_map, List.length_append, List.length_nil]; omega)
    | (rename_i hr; obtain ⟨d, _, rfl⟩ := List.mem_map.1 hr; rfl)
    | exact ⟨2, 3, by omega, rfl, rfl, rfl⟩
theorem s_implPacketAlone (p : Packet) (hp : packB p = true) : Spec Tryz.prog 71 0 [] [p.ro] (fun r _ _ _ => r = .bo (aloneB p)) := by
  have hpb := hp
  simp only [packB, Bool.and_eq_true, decide_eq_true_eq] at hpb
  have hl : p.chunks.length ≤ 4 := by omega
  have hpv := s_implPacketValid p
  have hal : aloneB p = (decide (p.chunks.length = 1) || p.chunks.all fun c => !aloneK c.kind) := by unfold aloneB; rw [hp]; rfl
  refine mr71 rfl fun c hP hm => ?_
  unfold pc71
  unfold Packet.ro at hpv ⊢
  refine run_seq (run_wpc _ _ _ _ _ ?_)
  simp only [hm,go_sem,↓reduceIte]
  refine run_seq (run_wpc _ _ _ _ _ ?_)
  simp only [hm,go_sem,↓reduceIte]
  refine call_pure (hP ▸ hpv) rfl rfl ?_
  rw [hp]
  simp only [hm,go_sem,↓reduceIte]
  refine run_seq (run_wpc _ _ _ _ _ ?_)
  simp only [hm,go_sem,↓reduceIte]
  intro _
  refine ⟨fun h1 => by rw [hal, decide_eq_true (by omega)]; rfl, fun h1 => ?_⟩
  have h1' : p.chunks.length ≠ 1 := by omega
  rw [decide_eq_false h1', Bool.false_or] at hal
  refine run_seq (run_wpc _ _ _ _ _ ?_)
  simp only [hm,go_sem,↓reduceIte]
  intro _
  refine run_exit 0 (fun t0 => t0 = ⟨[], [], 1, []⟩ ∧ aloneB p = true) ?_ ?_
  · refine lp_wpc (α := Nat) (fun i => ⟨[(13, .r (.ro none (p.chunks.map Chunk.row))), (14, .i p.chunks.length), (15, .i i)], [], 1, []⟩)
      (fun i => i ≤ p.chunks.length ∧ ∀ c ∈ p.chunks.take i, aloneK c.kind = false) (fun i => p.chunks.length - i) 0 ⟨Nat.zero_le _, fun c hc => by simp at hc⟩ (by (refine le_ev [] ?_; simp only [hm,go_sem,↓reduceIte]; first | done | rfl | exact ⟨rfl, rfl⟩)) ?_
    rintro i ⟨hi, hI⟩
    unfold pc71l0
    rcases Nat.lt_or_ge i p.chunks.length with hil | hil
    · have hw : IntKind.i64.wrap ((i : Int) + 1) = ((i + 1 : Nat) : Int) := by rw [wrap64 (by omega) (by omega)]; omega
      have hg := getD_map (f := Chunk.row) hil
      have htk := take_get hil
      have hmem := List.getElem_mem hil
      generalize p.chunks[i] = x at hg htk hmem
      have hbad : aloneK x.kind = true → AV.r (RV.b false) = AV.bo (aloneB p) := fun h1 => by
        apply bo_inj; symm; rw [hal, Bool.eq_false_iff]; intro hh
        have := List.all_eq_true.1 hh x hmem
        rw [h1] at this; cases this
      have hstep : aloneK x.kind = false → ∀ c ∈ p.chunks.take (i + 1), aloneK c.kind = false := fun h c hc => by
        rw [htk] at hc
        rcases List.mem_append.1 hc with hc | hc
        · exact hI c hc
        · simp only [List.mem_singleton] at hc; subst hc; exact h
      simp only [hw, Int.toNat_natCast, hg, Chunk.row, hm,go_sem,↓reduceIte]
      repeat' first | refine And.intro ?_ ?_ | intro _
      all_goals first
        | omega
        | exact hbad (decide_eq_true (by omega))
        | (refine ⟨i + 1, ⟨hil, hstep (decide_eq_false (by omega))⟩, by omega, ?_⟩; (refine le_ev [] ?_; simp only [hm,go_sem,↓reduceIte]; first | done | rfl | exact ⟨rfl, rfl⟩))
    · have : i = p.chunks.length := by omega
      subst this
      rw [List.take_length] at hI
      simp only [hm,go_sem,↓reduceIte]
      repeat' first | refine And.intro ?_ ?_ | intro _
      all_goals first
        | omega
        | (refine ⟨_, ⟨rfl, by rw [hal]; exact List.all_eq_true.2 fun c hc => by rw [hI c hc]; rfl⟩, ?_⟩; (refine le_ev [] ?_; simp only [hm,go_sem,↓reduceIte]; first | done | rfl | exact ⟨rfl, rfl⟩))
  rintro t0 ⟨rfl, hG⟩
  refine run_wpc _ _ _ _ _ ?_
  simp only [hm,go_sem,↓reduceIte]
  rw [hG]
theorem stepChunks_snoc (byB : Bool) (c : Chunk) : ∀ (l : List Chunk) (a : Assoc) (rs : List Int), stepChunks byB (l ++ [c]) a rs = ((stepChunk (stepChunks byB l a rs).1 byB c).1, (stepChunks byB l a rs).2 ++ [(stepChunk (stepChunks byB l a rs).1 byB c).2])
  | [], a, rs => rfl
  | x :: l, a, rs => by rw [List.cons_append]; simp only [stepChunks]; exact stepChunks_snoc byB c l _ _
def bCells (a : Assoc) (byB : Bool) (p : Packet) (rs : List Int) : List AV := (List.range 12).map fun k => .bo (decide (1 ≤ k) && brokenB a byB p rs k)
theorem bCells_len (a : Assoc) (byB : Bool) (p : Packet) (rs : List Int) : (bCells a byB p rs).length = 12 := by simp [bCells]
theorem bCells_nil (a : Assoc) (byB : Bool) (p : Packet) : bCells a byB p [] = [.bo false, .bo (!aloneB p), .bo (decide (p.tag ≠ tagOf a byB p)), .bo false, .bo false, .bo false, .bo false, .bo false, .bo false, .bo false, .bo false, .bo false] := by
  simp [bCells, brokenB, List.range, List.range.loop]
theorem plainL_bo (f : Nat → Bool) : ∀ l : List Nat, plainA.plainL (l.map fun k => AV.bo (f k)) = true
  | [] => rfl
  | k :: l => by simp only [List.map_cons, plainA.plainL, plainL_bo f l]; rfl
@[go_sem] theorem bCells_ren (g : Nat → Nat) (a : Assoc) (byB : Bool) (p : Packet) (rs : List Int) : renA.renL g (bCells a byB p rs) = bCells a byB p rs := renL_id (plainL_bo _ _)
theorem killL_bo (b : Nat) (f : Nat → Bool) : ∀ l : List Nat, kill.killL b (l.map fun k => AV.bo (f k)) = l.map fun k => AV.bo (f k)
  | [] => rfl
  | k :: l => by simp only [List.map_cons, kill.killL, killL_bo b f l]; rfl
theorem aget_at : ∀ (l : List AV) (i : Nat) (h : i < l.length), aget l i = l[i]
  | _ :: _, 0, _ => rfl
  | _ :: l, i + 1, h => aget_at l i (by simpa using h)
theorem contains_app {rs : List Int} {r x : Int} (h : x ≠ r) : (rs ++ [r]).contains x = rs.contains x := by
  rw [Bool.eq_iff_iff, List.contains_iff_mem, List.contains_iff_mem, List.mem_append, List.mem_singleton]
  constructor
  · rintro (h1 | h1)
    · exact h1
    · exact absurd h1 h
  · exact .inl
theorem bCells_set {a : Assoc} {byB : Bool} {p : Packet} {rs : List Int} {r : Int} (h : 1 ≤ r ∧ r ≤ 11) : (bCells a byB p rs).set r.toNat (.bo true) = bCells a byB p (rs ++ [r]) := by
  refine List.ext_getElem (by simp [bCells]) fun j h1 h2 => ?_
  rw [bCells_len] at h2
  rw [List.getElem_set]
  simp only [bCells, List.getElem_map, List.getElem_range, brokenB]
  by_cases hj : r.toNat = j
  · rw [if_pos hj]
    have : (j : Int) = r := by omega
    rw [this]
    simp [show 1 ≤ j by omega]
  · rw [if_neg hj]
    rw [contains_app (by omega)]
theorem bCells_zero {a : Assoc} {byB : Bool} {p : Packet} {rs : List Int} : bCells a byB p (rs ++ [0]) = bCells a byB p rs := by
  refine List.ext_getElem (by simp [bCells]) fun j h1 h2 => ?_
  simp only [bCells, List.getElem_map, List.getElem_range, brokenB]
  by_cases hj : 1 ≤ j
  · rw [contains_app (by omega)]
  · rw [decide_eq_false hj, Bool.false_and, Bool.false_and]
def brTo (b : Nat → Bool) (n : Nat) : List Int := ((List.range n).filter fun k => decide (1 ≤ k) && b k).map fun (k : Nat) => (k : Int)
theorem brTo_succ (b : Nat → Bool) (n : Nat) : brTo b (n + 1) = brTo b n ++ (if (decide (1 ≤ n) && b n) = true then [(n : Int)] else []) := by
  unfold brTo
  rw [List.range_succ, List.filter_append, List.map_append]
  congr 1
  by_cases h : (decide (1 ≤ n) && b n) = true
  · rw [if_pos h]; simp [h]
  · rw [if_neg h]; simp only [Bool.not_eq_true] at h; simp [h]
theorem brTo_end (b : Nat → Bool) : brTo b 12 = rulesOf b := rfl
def tagTo (a : Assoc) (byB : Bool) (l : List Chunk) : Int := if l.any (fun c => decide (c.kind = 1)) then 0 else (a.other byB).tag
theorem tagTo_snoc (a : Assoc) (byB : Bool) (l : List Chunk) (c : Chunk) : tagTo a byB (l ++ [c]) = if c.kind = 1 then 0 else tagTo a byB l := by
  unfold tagTo
  by_cases h : c.kind = 1 <;> simp [h]
def zeroC : List AV := [.i 0, .i 0, .i 0, .bo false, .i 0, .i 0, .i 0, .r .nil, .i 0, .i 0, .i 0, .i 0, .r .nil, .i 0]
theorem step_no {a : Assoc} {p : Packet} (h : assocB a = true) (hp : packB p = true) (hpt : (p.fr = a.fr ∧ p.to = a.to) ∨ (p.fr = a.to ∧ p.to = a.fr)) : assocStep a p ≠ (noAssoc, []) := fun e => by
  have h2 := (assocStep_valid h hp hpt).2.1
  rw [e] at h2
  have h1 := (assocB_iff.1 h).1
  simp only [noAssoc] at h2
  omega
structure ASQ (x : Assoc × List Int) (r : AV) (hp : List (Nat × Blk)) (nx : Nat) (gs : List Nat) : Prop where
  h : (x = (noAssoc, []) ∧ r = .tup [.agg zeroC, .r .nil]) ∨
    (∃ b b1, (b ≠ b1 ∧ x ≠ (noAssoc, [])) ∧ x.2 = [] ∧ r = .tup [.agg (x.1.cells3 b b1), .r .nil] ∧ hget hp b = some (rowsD x.1.a.sent) ∧ hget hp b1 = some (rowsD x.1.b.sent)) ∨
    (∃ b b1 b2, (b ≠ b1 ∧ b ≠ b2 ∧ b1 ≠ b2) ∧ x.2 ≠ [] ∧ r = .tup [.agg (x.1.cells3 b b1), .sl b2 0 x.2.length] ∧ hget hp b = some (rowsD x.1.a.sent) ∧ hget hp b1 = some (rowsD x.1.b.sent) ∧ hget hp b2 = some (.row 1 (x.2.map intRow)))
set_option maxHeartbeats 4000000 in
theorem s_implAssocStep0 (a : Assoc) (p : Packet) (ha : SFit a.a) (hb : SFit a.b) : Spec Tryz.prog 41 0 [] [a.ro, p.ro] (ASQ (assocStep a p)) := by
  have hav := s_implAssocValid a ha hb
  have hpv := s_implPacketValid p
  have hu : a.ro = .agg a.cellsA := rfl
  have hz : byBOf a p = (p.fr == a.to && p.to == a.fr) := by
    unfold byBOf
    rw [beq_dec, beq_dec, ← Bool.decide_and]
  have hbad : (assocB a = false ∨ packB p = false ∨ (byBOf a p = false ∧ ¬ (p.fr = a.fr ∧ p.to = a.to))) → assocStep a p = (noAssoc, []) := fun h => by
    unfold assocStep
    rw [if_pos]
    rcases h with h | h | ⟨h1, h2⟩
    · rw [h]; rfl
    · rw [h]; simp
    · rw [h1]
      have : decide (p.fr ≠ a.fr ∨ p.to ≠ a.to) = true := by
        simp only [decide_eq_true_eq]
        by_cases e : p.fr = a.fr
        · exact .inr fun e2 => h2 ⟨e, e2⟩
        · exact .inl e
      rw [this]; simp
  have hgood : assocB a = true → packB p = true → (byBOf a p = true ∨ (p.fr = a.fr ∧ p.to = a.to)) → assocStep a p = (if (rulesOf (brokenB a (byBOf a p) p (stepChunks (byBOf a p) p.chunks a []).2)).isEmpty then (stepChunks (byBOf a p) p.chunks a []).1 else a, rulesOf (brokenB a (byBOf a p) p (stepChunks (byBOf a p) p.chunks a []).2)) := fun h1 h2 h3 => by
    unfold assocStep
    rw [if_neg]
    rw [h1, h2]
    rcases h3 with h | ⟨e1, e2⟩
    · rw [h]; simp
    · simp [e1, e2]
  refine mr41 rfl fun c hP hm => ?_
  unfold pc41
  unfold Packet.ro at hpv ⊢
  rw [hu] at hav ⊢
  unfold Assoc.cellsA at hav ⊢
  refine run_seq (run_wpc _ _ _ _ _ ?_)
  simp only [hm,go_sem,↓reduceIte]
  refine run_seq (run_wpc _ _ _ _ _ ?_)
  simp only [hm,go_sem,↓reduceIte]
  refine call_pure (hP ▸ hav) rfl rfl ?_
  cases h1 : assocB a
  · simp only [hm,go_sem,↓reduceIte]
    rw [hbad (.inl h1)]
    exact ⟨.inl ⟨rfl, rfl⟩⟩
  simp only [hm,go_sem,↓reduceIte]
  refine call_pure (hP ▸ hpv) rfl rfl ?_
  cases h2 : packB p
  · simp only [hm,go_sem,↓reduceIte]
    rw [hbad (.inr (.inl h2))]
    exact ⟨.inl ⟨rfl, rfl⟩⟩
  simp only [hm,go_sem,↓reduceIte]
  refine run_join (fun t => t = ⟨[(2, .ptr 0 0 0), (3, .ptr 1 0 0), (4, .ptr 2 0 0), (6, .bo (byBOf a p))], [(2, .var zeroC), (1, .var [.i p.fr, .i p.to, .i p.tag, .r (.ro none (p.chunks.map Chunk.row))]), (0, .var a.cellsA)], 3, []⟩) (run_wpc _ _ _ _ _ ?_) ?_
  · rw [hz]
    simp only [hm,go_sem,↓reduceIte]
    repeat' first | refine And.intro ?_ ?_ | intro _
    all_goals first
      | (refine ⟨_, rfl, ?_⟩; unfold zeroC; simp only [*, beq_self_eq_true, Bool.true_and, Bool.false_and]; (refine le_ev [] ?_; simp only [hm,go_sem,↓reduceIte]; first | done | rfl | exact ⟨rfl, rfl⟩))
      | (refine ⟨_, rfl, ?_⟩; unfold zeroC; rw [beq_dec p.fr, decide_eq_false (by assumption), Bool.false_and]; (refine le_ev [] ?_; simp only [hm,go_sem,↓reduceIte]; first | done | rfl | exact ⟨rfl, rfl⟩))
  rintro t rfl
  have hno0 : assocB a = true → packB p = true → (byBOf a p = true ∨ (p.fr = a.fr ∧ p.to = a.to)) → assocStep a p ≠ (noAssoc, []) := fun h1 h2 h3 => step_no h1 h2 (by
    rcases h3 with h | h
    · right
      unfold byBOf at h
      simpa using h
    · exact .inl h)
  generalize hbb : byBOf a p = byB at *
  clear hz
  refine run_join (fun t => t = ⟨[(2, .ptr 0 0 0), (3, .ptr 1 0 0), (4, .ptr 2 0 0), (6, .bo byB)], [(2, .var zeroC), (1, .var [.i p.fr, .i p.to, .i p.tag, .r (.ro none (p.chunks.map Chunk.row))]), (0, .var a.cellsA)], 3, []⟩ ∧ (byB = true ∨ (p.fr = a.fr ∧ p.to = a.to))) (run_wpc _ _ _ _ _ ?_) ?_
  · unfold Assoc.cellsA zeroC
    simp only [hm,go_sem,↓reduceIte]
    repeat' first | refine And.intro ?_ ?_ | intro _
    all_goals first
      | (refine ⟨_, ⟨rfl, .inl (by assumption)⟩, ?_⟩; (refine le_ev [] ?_; simp only [hm,go_sem,↓reduceIte]; first | done | rfl | exact ⟨rfl, rfl⟩))
      | (refine ⟨_, ⟨rfl, .inr ⟨by assumption, by assumption⟩⟩, ?_⟩; (refine le_ev [] ?_; simp only [hm,go_sem,↓reduceIte]; first | done | rfl | exact ⟨rfl, rfl⟩))
      | (rw [hbad (.inr (.inr ⟨by assumption, fun h => by omega⟩))]; exact ⟨.inl ⟨rfl, rfl⟩⟩)
  rintro t ⟨rfl, hkey⟩
  have hno := hno0 h1 h2 hkey
  rw [hgood h1 h2 hkey] at hno ⊢
  clear hgood hbad hno0
  have hAW := assocB_AW h1
  have hpb := h2
  simp only [packB, Bool.and_eq_true, decide_eq_true_eq, List.all_eq_true, chunkB] at hpb
  have hcl : p.chunks.length ≤ 4 := by omega
  have hbody : ∀ x ∈ p.chunks, x.body.length ≤ 60 := fun x hx => (hpb.2 x hx).2
  have hal := s_implPacketAlone p h2
  unfold Packet.ro at hal
  unfold Assoc.cellsA zeroC
  refine run_seq (run_wpc _ _ _ _ _ ?_)
  simp only [hm,go_sem,↓reduceIte]
  refine run_seq (run_wpc _ _ _ _ _ ?_)
  simp only [hm,go_sem,↓reduceIte]
  refine call_pure (hP ▸ hal) rfl rfl ?_
  simp only [hm,go_sem,↓reduceIte]
  refine run_seq (run_wpc _ _ _ _ _ ?_)
  simp only [hm,go_sem,↓reduceIte]
  have hu0 : [AV.i a.fr, .i a.to, .i a.state, .bo a.byB, .i a.a.tag, .i a.a.streams, .i a.a.first, .r (.ro none (a.a.sent.map Data.row)), .i a.a.acked, .i a.b.tag, .i a.b.streams, .i a.b.first, .r (.ro none (a.b.sent.map Data.row)), .i a.b.acked] = a.cellsA := rfl
  refine run_join (fun t => t = ⟨[(2, .ptr 0 0 0), (3, .ptr 1 0 0), (4, .ptr 2 0 0), (6, .bo byB), (7, .ptr 3 0 0), (8, .i (a.other byB).tag)], [(3, .var [.bo false, .bo (!aloneB p), .bo false, .bo false, .bo false, .bo false, .bo false, .bo false, .bo false, .bo false, .bo false, .bo false]), (2, .var zeroC), (1, .var [.i p.fr, .i p.to, .i p.tag, .r (.ro none (p.chunks.map Chunk.row))]), (0, .var a.cellsA)], 4, []⟩) (run_wpc _ _ _ _ _ ?_) ?_
  · cases byB
    all_goals
      simp only [hm,go_sem,↓reduceIte]
      repeat' first | refine And.intro ?_ ?_ | intro _
    all_goals first
      | (refine ⟨_, rfl, ?_⟩; unfold Assoc.cellsA zeroC Assoc.other; (refine le_ev [] ?_; simp only [hm,go_sem,↓reduceIte]; first | done | rfl | exact ⟨rfl, rfl⟩))
  rintro t rfl
  refine run_seq (run_wpc _ _ _ _ _ ?_)
  simp only [hm,go_sem,↓reduceIte]
  intro _
  refine run_exit 0 (fun t0 => t0 = ⟨[(2, .ptr 0 0 0), (3, .ptr 1 0 0), (4, .ptr 2 0 0), (6, .bo byB), (7, .ptr 3 0 0), (8, .i (tagTo a byB p.chunks))], [(3, .var [.bo false, .bo (!aloneB p), .bo false, .bo false, .bo false, .bo false, .bo false, .bo false, .bo false, .bo false, .bo false, .bo false]), (2, .var zeroC), (1, .var [.i p.fr, .i p.to, .i p.tag, .r (.ro none (p.chunks.map Chunk.row))]), (0, .var a.cellsA)], 4, []⟩) ?_ ?_
  · refine lp_wpc (α := Nat) (fun i => ⟨[(2, .ptr 0 0 0), (3, .ptr 1 0 0), (4, .ptr 2 0 0), (6, .bo byB), (7, .ptr 3 0 0), (8, .i (tagTo a byB (p.chunks.take i))), (69, .r (.ro none (p.chunks.map Chunk.row))), (70, .i p.chunks.length), (71, .i i)], [(3, .var [.bo false, .bo (!aloneB p), .bo false, .bo false, .bo false, .bo false, .bo false, .bo false, .bo false, .bo false, .bo false, .bo false]), (2, .var zeroC), (1, .var [.i p.fr, .i p.to, .i p.tag, .r (.ro none (p.chunks.map Chunk.row))]), (0, .var a.cellsA)], 4, []⟩)
      (fun i => i ≤ p.chunks.length) (fun i => p.chunks.length - i) 0 (Nat.zero_le _) (by rw [show tagTo a byB (p.chunks.take 0) = (a.other byB).tag from rfl]; unfold zeroC Assoc.cellsA; (refine le_ev [] ?_; simp only [hm,go_sem,↓reduceIte]; first | done | rfl | exact ⟨rfl, rfl⟩)) ?_
    intro i hi
    unfold pc41l0
    rcases Nat.lt_or_ge i p.chunks.length with hil | hil
    · have hw : IntKind.i64.wrap ((i : Int) + 1) = ((i + 1 : Nat) : Int) := by rw [wrap64 (by omega) (by omega)]; omega
      have hg := getD_map (f := Chunk.row) hil
      have htk := take_get hil
      have hsn := tagTo_snoc a byB (p.chunks.take i) p.chunks[i]
      rw [← htk] at hsn
      generalize p.chunks[i] = x at hg hsn
      simp only [hw, Int.toNat_natCast, hg, Chunk.row, hm,go_sem,↓reduceIte]
      repeat' first | refine And.intro ?_ ?_ | intro _
      all_goals first
        | omega
        | (refine ⟨i + 1, hil, by omega, ?_⟩; rw [hsn, if_pos (by assumption)]; (refine le_ev [] ?_; simp only [hm,go_sem,↓reduceIte]; first | done | rfl | exact ⟨rfl, rfl⟩))
        | (refine ⟨i + 1, hil, by omega, ?_⟩; rw [hsn, if_neg (by assumption)]; (refine le_ev [] ?_; simp only [hm,go_sem,↓reduceIte]; first | done | rfl | exact ⟨rfl, rfl⟩))
    · have : i = p.chunks.length := by omega
      subst this
      rw [List.take_length]
      simp only [hm,go_sem,↓reduceIte]
      repeat' first | refine And.intro ?_ ?_ | intro _
      all_goals first
        | omega
        | (refine ⟨_, rfl, ?_⟩; (refine le_ev [] ?_; simp only [hm,go_sem,↓reduceIte]; first | done | rfl | exact ⟨rfl, rfl⟩))
  rintro t0 rfl
  refine run_seq (run_wpc _ _ _ _ _ ?_)
  simp only [hm,go_sem,↓reduceIte]
  have hbc : [AV.bo false, .bo (!aloneB p), .r (.b (p.tag != tagTo a byB p.chunks)), .bo false, .bo false, .bo false, .bo false, .bo false, .bo false, .bo false, .bo false, .bo false] = bCells a byB p [] := by
    rw [bCells_nil]
    have : (p.tag != tagTo a byB p.chunks) = decide (p.tag ≠ tagOf a byB p) := by
      show (p.tag != tagOf a byB p) = _
      rw [Bool.eq_iff_iff]; simp
    rw [this]
  rw [hbc]
  have hcpy := s_copyAssoc a (by have := hAW.1.2.1; omega) (by have := hAW.2.2.1; omega)
  rw [hu] at hcpy
  unfold Assoc.cellsA Assoc.cells3 at hcpy
  refine run_seq (run_wpc _ _ _ _ _ ?_)
  unfold Assoc.cellsA
  simp only [hm,go_sem,↓reduceIte]
  refine call_new2 (hP ▸ hcpy) rfl (dataClosed _) (dataClosed _) (vws_self _ _ rfl) ?_
  simp only [hm,go_sem,↓reduceIte]
  refine run_seq (run_wpc _ _ _ _ _ ?_)
  simp only [hm,go_sem,↓reduceIte]
  intro _
  have hval : ∀ i, assocB (stepChunks byB (p.chunks.take i) a []).1 = true := fun i => stepChunks_valid _ _ _ _ h1
  refine run_exit 2 (fun t0 => t0 = ⟨[(2, .ptr 0 0 0), (4, .ptr 2 0 0), (7, .ptr 3 0 0), (11, .ptr 6 0 0)], [(6, .var ((stepChunks byB p.chunks a []).1.cells3 4 5)), (4, rowsD (stepChunks byB p.chunks a []).1.a.sent), (5, rowsD (stepChunks byB p.chunks a []).1.b.sent), (3, .var (bCells a byB p (stepChunks byB p.chunks a []).2)), (2, .var zeroC), (0, .var a.cellsA)], 7, []⟩) ?_ ?_
  · refine lp_wpc (α := Nat) (fun i => ⟨[(2, .ptr 0 0 0), (4, .ptr 2 0 0), (6, .bo byB), (7, .ptr 3 0 0), (11, .ptr 6 0 0), (87, .r (.ro none (p.chunks.map Chunk.row))), (88, .i p.chunks.length), (89, .i i)], [(6, .var ((stepChunks byB (p.chunks.take i) a []).1.cells3 4 5)), (4, rowsD (stepChunks byB (p.chunks.take i) a []).1.a.sent), (5, rowsD (stepChunks byB (p.chunks.take i) a []).1.b.sent), (3, .var (bCells a byB p (stepChunks byB (p.chunks.take i) a []).2)), (2, .var zeroC), (0, .var a.cellsA)], 7, []⟩)
      (fun i => i ≤ p.chunks.length) (fun i => p.chunks.length - i) 0 (Nat.zero_le _) (by rw [show stepChunks byB (p.chunks.take 0) a [] = (a, []) from rfl]; unfold zeroC Assoc.cellsA Assoc.cells3 rowsD; (refine le_ev [] ?_; simp only [hm,go_sem,↓reduceIte]; first | done | rfl | exact ⟨rfl, rfl⟩)) ?_
    intro i hi
    unfold pc41l1
    rcases Nat.lt_or_ge i p.chunks.length with hil | hil
    · have hw : IntKind.i64.wrap ((i : Int) + 1) = ((i + 1 : Nat) : Int) := by rw [wrap64 (by omega) (by omega)]; omega
      have hg := getD_map (f := Chunk.row) hil
      have htk := take_get hil
      have hsn := stepChunks_snoc byB p.chunks[i] (p.chunks.take i) a []
      rw [← htk] at hsn
      have hbo := hbody _ (List.getElem_mem hil)
      generalize p.chunks[i] = k at hg hsn hbo
      have hv := hval i
      generalize stepChunks byB (p.chunks.take i) a [] = x at hsn hv ⊢
      have hh := AfterW.canon (s_handle x.1 k byB (by omega) hv)
      have hok := (stepChunk_ok x.1 byB k (assocB_AW hv)).2
      unfold Chunk.av at hh
      simp only [hw, Int.toNat_natCast, hg, Chunk.row, hm,go_sem,↓reduceIte]
      generalize stepChunk x.1 byB k = y at hsn hh hok
      repeat' first | refine And.intro ?_ ?_ | intro _
      all_goals first
        | omega
        | skip
      refine call_three 6 4 5 (hP ▸ hh) ⟨by decide, by decide, by decide⟩ rfl rfl rfl rfl ?_ ?_ ?_
      all_goals
        simp only [hw, Int.toNat_natCast, bCells_len, hm,go_sem,↓reduceIte]
        refine ⟨fun hr => ⟨⟨hok.1, by omega⟩, by omega, i + 1, hil, by omega, ?_⟩, fun hr => ⟨i + 1, hil, by omega, ?_⟩⟩
      all_goals
        rw [hsn]
        try rw [show (bCells a byB p x.2).set y.2.toNat (.r (.b true)) = bCells a byB p (x.2 ++ [y.2]) from bCells_set (by omega)]
        try rw [hr, bCells_zero]
        unfold Assoc.cells3 rowsD zeroC Assoc.cellsA
        first
        | (refine le_ev [] ?_; simp only [hm,go_sem,↓reduceIte]; first | done | rfl | exact ⟨rfl, rfl⟩)
        | (refine le_ev [(4, 8)] ?_; simp only [hm,go_sem,↓reduceIte]; first | done | rfl | exact ⟨rfl, rfl⟩)
        | (refine le_ev [(5, 8)] ?_; simp only [hm,go_sem,↓reduceIte]; first | done | rfl | exact ⟨rfl, rfl⟩)
    · have : i = p.chunks.length := by omega
      subst this
      rw [List.take_length]
      simp only [hm,go_sem,↓reduceIte]
      repeat' first | refine And.intro ?_ ?_ | intro _
      all_goals first
        | omega
        | (refine ⟨_, rfl, ?_⟩; unfold Assoc.cells3 rowsD zeroC Assoc.cellsA; (refine le_ev [] ?_; simp only [hm,go_sem,↓reduceIte]; first | done | rfl | exact ⟨rfl, rfl⟩))
  rintro t0 rfl
  generalize hX : stepChunks byB p.chunks a [] = X
  have hXv := hval p.chunks.length
  rw [List.take_length, hX] at hXv
  rw [hX] at hno
  refine run_seq (run_wpc _ _ _ _ _ ?_)
  simp only [hm,go_sem,↓reduceIte]
  refine run_seq (run_wpc _ _ _ _ _ ?_)
  simp only [hm,go_sem,↓reduceIte]
  rw [List.take_of_length_le (Nat.le_of_eq (bCells_len a byB p X.2))]
  refine ⟨Nat.le_of_eq (bCells_len a byB p X.2).symm, ?_⟩
  have hcell : ∀ i, i < 12 → aget (bCells a byB p X.2) i = .bo (decide (1 ≤ i) && brokenB a byB p X.2 i) := fun i hi => by
    unfold bCells
    rw [aget_at _ _ (by simp; omega), List.getElem_map, List.getElem_range]
  have hclen := bCells_len a byB p X.2
  generalize brokenB a byB p X.2 = B at *
  generalize hCe : bCells a byB p X.2 = C at *
  have hCr : ∀ g : Nat → Nat, renA.renL g C = C := fun g => by rw [← hCe]; exact bCells_ren g a byB p X.2
  have hCk : ∀ b, kill.killL b C = C := fun b => by rw [← hCe]; exact killL_bo b _ _
  refine run_exit 4 (fun t0 => t0 = ⟨[(2, .ptr 0 0 0), (4, .ptr 2 0 0), (11, .ptr 6 0 0), (15, .sl 7 0 (rulesOf B).length)], [(7, .row 1 ((rulesOf B).map intRow)), (6, .var (X.1.cells3 4 5)), (4, rowsD X.1.a.sent), (5, rowsD X.1.b.sent), (2, .var zeroC), (0, .var a.cellsA)], 8, []⟩) ?_ ?_
  · refine lp_wpc (α := Nat) (fun i => ⟨[(2, .ptr 0 0 0), (4, .ptr 2 0 0), (11, .ptr 6 0 0), (15, .sl 7 0 (brTo B i).length), (102, .agg C), (103, .i i)], [(7, .row 1 ((brTo B i).map intRow)), (6, .var (X.1.cells3 4 5)), (4, rowsD X.1.a.sent), (5, rowsD X.1.b.sent), (2, .var zeroC), (0, .var a.cellsA)], 8, []⟩)
      (fun i => i ≤ 12 ∧ (brTo B i).length ≤ i) (fun i => 12 - i) 0 ⟨Nat.zero_le _, Nat.le_refl 0⟩ (by rw [show brTo B 0 = [] from rfl]; unfold zeroC Assoc.cellsA Assoc.cells3 rowsD; simp only [List.map_nil, List.length_nil]; refine le_ev [] ?_; simp only [hCr, hm,go_sem,↓reduceIte]) ?_
    rintro i ⟨hi, hbl⟩
    unfold pc41l2
    rcases Nat.lt_or_ge i 12 with hil | hil
    · have hw : IntKind.i64.wrap ((i : Int) + 1) = ((i + 1 : Nat) : Int) := by rw [wrap64 (by omega) (by omega)]; omega
      have hsu := brTo_succ B i
      have hc := hcell i hil
      generalize (decide (1 ≤ i) && B i) = bb at hsu hc
      generalize brTo B i = R at hsu hbl ⊢
      unfold zeroC Assoc.cellsA Assoc.cells3 rowsD
      simp only [hw, Int.toNat_natCast, hc, take_map_len, hCk, hm,go_sem,↓reduceIte]
      repeat' first | refine And.intro ?_ ?_ | intro _
      all_goals first
        | omega
        | (simp only [List.length_map]; omega)
        | skip
      all_goals first
        | (refine ⟨i + 1, ⟨hil, by rw [hsu, if_pos (by assumption), List.length_append, List.length_singleton]; omega⟩, by omega, ?_⟩
           rw [hsu, if_pos (by assumption), List.length_append, List.map_append]
           simp only [List.map_cons, List.map_nil, List.length_cons, List.length_nil, intRow]
           refine le_ev [] ?_
           simp only [hCr, hm,go_sem,↓reduceIte]
           done)
        | (rename_i hbf
           refine ⟨i + 1, ⟨hil, by rw [hsu, if_neg (by rw [hbf]; decide), List.append_nil]; omega⟩, by omega, ?_⟩
           rw [hsu, if_neg (by rw [hbf]; decide), List.append_nil]
           refine le_ev [] ?_
           simp only [hCr, hm,go_sem,↓reduceIte]
           done)
    · have : i = 12 := by omega
      subst this
      rw [brTo_end]
      unfold zeroC Assoc.cellsA Assoc.cells3 rowsD
      simp only [hm,go_sem,↓reduceIte]
      repeat' first | refine And.intro ?_ ?_ | intro _
      all_goals first
        | omega
        | (refine ⟨_, rfl, ?_⟩; (refine le_ev [] ?_; simp only [hm,go_sem,↓reduceIte]; first | done | rfl | exact ⟨rfl, rfl⟩))
  rintro t0 rfl
  generalize hR : rulesOf B = R at *
  refine run_seq (run_wpc _ _ _ _ _ ?_)
  unfold zeroC Assoc.cellsA Assoc.cells3 rowsD
  simp only [hm,go_sem,↓reduceIte]
  intro _
  refine ⟨fun hn => ?_, fun hn => ?_⟩
  · have hne : R.isEmpty = false := by
      cases R with
      | nil => simp at hn
      | cons => rfl
    have hRne : R ≠ [] := fun e => by rw [e] at hne; exact Bool.noConfusion hne
    refine call_new2 (hP ▸ hcpy) rfl (dataClosed _) (dataClosed _) (vws_self _ _ rfl) ?_
    simp only [hm,go_sem,↓reduceIte]
    rw [hne, if_neg (by decide)]
    exact ⟨.inr (.inr ⟨8, 9, 7, ⟨by decide, by decide, by decide⟩, hRne, rfl, rfl, rfl, rfl⟩)⟩
  · have hRn : R = [] := List.length_eq_zero_iff.1 (by omega)
    subst hRn
    refine run_wpc _ _ _ _ _ ?_
    simp only [hm,go_sem,↓reduceIte]
    exact ⟨.inr (.inl ⟨4, 5, ⟨by decide, hno⟩, rfl, rfl, rfl, rfl⟩)⟩
def rulesA (l : List Int) : AV := if l.isEmpty then .r .nil else .r (.ro none (l.map intRow))
theorem zeros_take {s : List UInt8} {lo hi : Nat} (h : ∀ j, lo ≤ j → j < hi → s.getD j 0 = 0) (hh : hi ≤ s.length) : ((s.take hi).drop lo).all (· == 0) = true := by
  rw [List.all_eq_true]
  intro x hx
  obtain ⟨k, hk, rfl⟩ := List.getElem_of_mem hx
  rw [List.length_drop, List.length_take] at hk
  have := h (lo + k) (by omega) (by omega)
  rw [List.getElem_drop, List.getElem_take]
  rw [List.getD_eq_getElem?_getD, List.getElem?_eq_getElem (by omega)] at this
  simpa using this
theorem zeros_not {s : List UInt8} {lo hi j : Nat} (h1 : lo ≤ j) (h2 : j < hi) (hh : hi ≤ s.length) (h : s.getD j 0 ≠ 0) : ((s.take hi).drop lo).all (· == 0) = false := by
  rw [Bool.eq_false_iff]
  intro ha
  rw [List.all_eq_true] at ha
  have hm : s[j]'(by omega) ∈ (s.take hi).drop lo := by
    have hk : j - lo < ((s.take hi).drop lo).length := by rw [List.length_drop, List.length_take]; omega
    have : ((s.take hi).drop lo)[j - lo] = s[j]'(by omega) := by
      rw [List.getElem_drop, List.getElem_take]
      congr 1
      omega
    rw [← this]
    exact List.getElem_mem hk
  have := ha _ hm
  apply h
  rw [List.getD_eq_getElem?_getD, List.getElem?_eq_getElem (by omega)]
  simpa using this
theorem chunkOk_no {s : List UInt8} {i : Nat} (h : i + 4 ≤ s.length → 4 ≤ at2 s (i + 2) → at2 s (i + 2) ≤ 64 → endAt s i ≤ s.length → ((s.take (endAt s i)).drop (i + (at2 s (i + 2)).toNat)).all (· == 0) = true → False) : chunkOk s i = false := by
  rw [Bool.eq_false_iff]
  intro hc
  simp only [chunkOk, inB, Bool.and_eq_true, decide_eq_true_eq] at hc
  obtain ⟨⟨⟨h1, h2⟩, h3⟩, h4⟩ := hc
  exact h h1 h2.1 h2.2 h3 h4
theorem chunkOk_yes {s : List UInt8} {i : Nat} (h1 : i + 4 ≤ s.length) (h2 : 4 ≤ at2 s (i + 2)) (h3 : at2 s (i + 2) ≤ 64) (h4 : endAt s i ≤ s.length) (h5 : ((s.take (endAt s i)).drop (i + (at2 s (i + 2)).toNat)).all (· == 0) = true) : chunkOk s i = true := by
  simp only [chunkOk, inB, Bool.and_eq_true, decide_eq_true_eq]
  exact ⟨⟨⟨h1, h2, h3⟩, h4⟩, h5⟩
def chunkRes (s : List UInt8) (i : Nat) : AV := if chunkOk s i then .tup [(chunkAt s i).av, .i (endAt s i), .bo true] else .tup [.agg [.i 0, .i 0, .st []], .i 0, .bo false]
theorem chunkRes_no {s : List UInt8} {i : Nat} (h : chunkOk s i = false) : AV.tup [.agg [.i 0, .i 0, .st []], .i 0, .bo false] = chunkRes s i := by unfold chunkRes; rw [h]; rfl
theorem s_implChunkGet (s : List UInt8) (i : Nat) (hs : s.length ≤ 1000000000) (hi : i ≤ s.length) : Spec Tryz.prog 68 0 [] [.st s, .i i] (fun r _ _ _ => r = chunkRes s i) := by
  refine mr68 rfl fun c hP hm => ?_
  unfold pc68
  have w1 : IntKind.i64.wrap ((s.length : Int) - 4) = (s.length : Int) - 4 := wrap64 (by omega) (by omega)
  have w2 : IntKind.i64.wrap ((i : Int) + 2) = (i : Int) + 2 := wrap64 (by omega) (by omega)
  have w3 : IntKind.i64.wrap ((i : Int) + 1) = (i : Int) + 1 := wrap64 (by omega) (by omega)
  have w4 : IntKind.i64.wrap ((i : Int) + 4) = (i : Int) + 4 := wrap64 (by omega) (by omega)
  have e2 : ((i : Int) + 2).toNat = i + 2 := by omega
  have hn := at2_range s (i + 2)
  refine run_seq (run_wpc _ _ _ _ _ ?_)
  simp only [hm,go_sem,↓reduceIte]
  refine run_seq (run_wpc _ _ _ _ _ ?_)
  simp only [w1, hm,go_sem,↓reduceIte]
  repeat' first | refine And.intro ?_ ?_ | intro _
  all_goals first
    | omega
    | exact chunkRes_no (chunkOk_no fun h1 _ _ _ _ => by omega)
    | skip
  refine run_seq (run_wpc _ _ _ _ _ ?_)
  simp only [w2, hm,go_sem,↓reduceIte]
  refine call_pure (hP ▸ s_WordGet s _ (by omega) (by omega)) rfl rfl ?_
  rw [e2]
  simp only [hm,go_sem,↓reduceIte]
  refine run_seq (run_wpc _ _ _ _ _ ?_)
  have w5 : IntKind.i64.wrap (at2 s (i + 2) - 4) = at2 s (i + 2) - 4 := wrap64 (by omega) (by omega)
  simp only [w5, hm,go_sem,↓reduceIte]
  repeat' first | refine And.intro ?_ ?_ | intro _
  all_goals first
    | omega
    | exact chunkRes_no (chunkOk_no fun h1 _ _ _ _ => by omega)
    | skip
  have w6 : IntKind.i64.wrap (at2 s (i + 2) + 3) = at2 s (i + 2) + 3 := wrap64 (by omega) (by omega)
  have w7 : IntKind.i64.wrap ((at2 s (i + 2) + 3).tdiv 4) = (at2 s (i + 2) + 3) / 4 := by rw [tdiv_nn (by omega), wrap64 (by omega) (by omega)]
  have w8 : IntKind.i64.wrap ((at2 s (i + 2) + 3) / 4 * 4) = (at2 s (i + 2) + 3) / 4 * 4 := wrap64 (by omega) (by omega)
  have w9 : IntKind.i64.wrap ((i : Int) + (at2 s (i + 2) + 3) / 4 * 4) = (endAt s i : Nat) := by rw [wrap64 (by omega) (by omega)]; unfold endAt; omega
  have w10 : IntKind.i64.wrap ((i : Int) + at2 s (i + 2)) = ((i + (at2 s (i + 2)).toNat : Nat) : Int) := by rw [wrap64 (by omega) (by omega)]; omega
  have hend : i + (at2 s (i + 2)).toNat ≤ endAt s i ∧ endAt s i ≤ i + (at2 s (i + 2)).toNat + 3 := by unfold endAt; omega
  refine run_seq (run_wpc _ _ _ _ _ ?_)
  simp only [w6, w7, w8, w9, hm,go_sem,↓reduceIte]
  refine run_seq (run_wpc _ _ _ _ _ ?_)
  simp only [hm,go_sem,↓reduceIte]
  repeat' first | refine And.intro ?_ ?_ | intro _
  all_goals first
    | omega
    | exact chunkRes_no (chunkOk_no fun h1 _ _ _ _ => by omega)
    | skip
  refine run_seq (run_wpc _ _ _ _ _ ?_)
  simp only [w10, hm,go_sem,↓reduceIte]
  refine run_exit 0 (fun t0 => t0 = ⟨[(0, .st s), (1, .i i), (4, .ptr 0 0 0), (7, .i (at2 s (i + 2))), (9, .i (endAt s i))], [(0, .var [.i 0, .i 0, .st []])], 1, []⟩ ∧ ∀ j, i + (at2 s (i + 2)).toNat ≤ j → j < endAt s i → s.getD j 0 = 0) ?_ ?_
  · refine lp_wpc (α := Nat) (fun t => ⟨[(0, .st s), (1, .i i), (4, .ptr 0 0 0), (7, .i (at2 s (i + 2))), (9, .i (endAt s i)), (10, .i ((i + (at2 s (i + 2)).toNat + t : Nat) : Int))], [(0, .var [.i 0, .i 0, .st []])], 1, []⟩)
      (fun t => i + (at2 s (i + 2)).toNat + t ≤ endAt s i ∧ ∀ j, i + (at2 s (i + 2)).toNat ≤ j → j < i + (at2 s (i + 2)).toNat + t → s.getD j 0 = 0) (fun t => endAt s i - t) 0 ⟨by omega, fun j h1 h2 => by omega⟩ (by (refine le_ev [] ?_; simp only [hm,go_sem,↓reduceIte]; first | done | rfl | exact ⟨rfl, rfl⟩)) ?_
    rintro t ⟨ht, hI⟩
    unfold pc68l0
    rcases Nat.lt_or_ge (i + (at2 s (i + 2)).toNat + t) (endAt s i) with hil | hil
    · have hw : IntKind.i64.wrap (((i + (at2 s (i + 2)).toNat + t : Nat) : Int) + 1) = ((i + (at2 s (i + 2)).toNat + (t + 1) : Nat) : Int) := by rw [wrap64 (by omega) (by omega)]; omega
      have hstep : s.getD (i + (at2 s (i + 2)).toNat + t) 0 = 0 → ∀ j, i + (at2 s (i + 2)).toNat ≤ j → j < i + (at2 s (i + 2)).toNat + (t + 1) → s.getD j 0 = 0 := fun h0 j h1 h2 => by
        rcases Nat.lt_or_ge j (i + (at2 s (i + 2)).toNat + t) with h3 | h3
        · exact hI j h1 h3
        · have : j = i + (at2 s (i + 2)).toNat + t := by omega
          rw [this]; exact h0
      simp only [hw, Int.toNat_natCast, hm,go_sem,↓reduceIte]
      repeat' first | refine And.intro ?_ ?_ | intro _
      all_goals first
        | omega
        | (refine ⟨t + 1, ⟨by omega, hstep (UInt8.toNat_inj.1 (by simpa using (by omega : (s.getD (i + (at2 s (i + 2)).toNat + t) 0).toNat = 0)))⟩, by omega, ?_⟩; (refine le_ev [] ?_; simp only [hm,go_sem,↓reduceIte]; first | done | rfl | exact ⟨rfl, rfl⟩))
        | (refine chunkRes_no (chunkOk_no fun h1 h2 h3 h4 h5 => ?_)
           have hne : s.getD (i + (at2 s (i + 2)).toNat + t) 0 ≠ 0 := fun e => by
             have e0 : (s.getD (i + (at2 s (i + 2)).toNat + t) 0).toNat = 0 := by rw [e]; rfl
             omega
           rw [zeros_not (by omega) hil h4 hne] at h5
           cases h5)
    · have : i + (at2 s (i + 2)).toNat + t = endAt s i := by omega
      simp only [this, hm,go_sem,↓reduceIte]
      repeat' first | refine And.intro ?_ ?_ | intro _
      all_goals first
        | omega
        | (refine ⟨_, ⟨rfl, fun j h1 h2 => hI j h1 (by omega)⟩, ?_⟩; (refine le_ev [] ?_; simp only [hm,go_sem,↓reduceIte]; first | done | rfl | exact ⟨rfl, rfl⟩))
  rintro t0 ⟨rfl, hz⟩
  have hok := chunkOk_yes (s := s) (i := i) (by omega) (by omega) (by omega) (by omega) (zeros_take hz (by omega))
  unfold chunkRes
  rw [hok, if_pos rfl]
  have b1 := wrap_byte (s.getD i 0)
  have b2 := wrap_byte (s.getD (i + 1) 0)
  have e1 : ((i : Int) + 1).toNat = i + 1 := by omega
  have e4 : ((i : Int) + 4).toNat = i + 4 := by omega
  refine run_seq (run_wpc _ _ _ _ _ ?_)
  simp only [w3, w4, w10, e1, e4, b1, b2, Int.toNat_natCast, hm,go_sem,↓reduceIte]
  repeat' first | refine And.intro ?_ ?_ | intro _
  all_goals first
    | omega
    | skip
  refine run_wpc _ _ _ _ _ ?_
  simp only [hm,go_sem,↓reduceIte]
  have hb : List.drop (i + 4) (List.take (i + (at2 s (i + 2)).toNat) s) = (s.drop (i + 4)).take ((at2 s (i + 2)).toNat - 4) := by
    rw [List.drop_take]
    congr 1
    omega
  rw [hb]
  rfl
structure PGQ (x : Packet × Int) (r : AV) (hp : List (Nat × Blk)) (nx : Nat) (gs : List Nat) : Prop where
  h : (x.1 = noPack ∧ r = .tup [.agg [.i 0, .i 0, .i 0, .r .nil], .i x.2]) ∨ (∃ b, r = .tup [.agg [.i x.1.fr, .i x.1.to, .i x.1.tag, .sl b 0 x.1.chunks.length], .i x.2] ∧ hget hp b = some (.row 3 (x.1.chunks.map Chunk.row)))
def pgSt (s : List UInt8) (pos : Nat) (l : List Chunk) : Nat → St
  | 0 => ⟨[(0, .st s), (2, .ptr 0 0 0), (6, .ptr 1 0 0), (7, .i pos)], [(0, .var [.i 0, .i 0, .i 0, .r .nil]), (1, .var [.i (at2 s 0), .i (at2 s 2), .i (at4 s 4), .r .nil])], 2, []⟩
  | n + 1 => ⟨[(0, .st s), (2, .ptr 0 0 0), (6, .ptr 1 0 0), (7, .i pos)], [(0, .var [.i 0, .i 0, .i 0, .r .nil]), (1, .var [.i (at2 s 0), .i (at2 s 2), .i (at4 s 4), .sl 2 0 (n + 1)]), (2, .row 3 (l.map Chunk.row))], 3, []⟩
theorem pgSt_zero (s : List UInt8) (pos : Nat) (l : List Chunk) : pgSt s pos l 0 = ⟨[(0, .st s), (2, .ptr 0 0 0), (6, .ptr 1 0 0), (7, .i pos)], [(0, .var [.i 0, .i 0, .i 0, .r .nil]), (1, .var [.i (at2 s 0), .i (at2 s 2), .i (at4 s 4), .r .nil])], 2, []⟩ := rfl
theorem pgSt_succ (s : List UInt8) (pos : Nat) (l : List Chunk) (n : Nat) : pgSt s pos l (n + 1) = ⟨[(0, .st s), (2, .ptr 0 0 0), (6, .ptr 1 0 0), (7, .i pos)], [(0, .var [.i 0, .i 0, .i 0, .r .nil]), (1, .var [.i (at2 s 0), .i (at2 s 2), .i (at4 s 4), .sl 2 0 (n + 1)]), (2, .row 3 (l.map Chunk.row))], 3, []⟩ := rfl
def pgFin (s : List UInt8) (l : List Chunk) : Nat → St
  | 0 => ⟨[(2, .ptr 0 0 0), (6, .ptr 1 0 0)], [(0, .var [.i 0, .i 0, .i 0, .r .nil]), (1, .var [.i (at2 s 0), .i (at2 s 2), .i (at4 s 4), .r .nil])], 2, []⟩
  | n + 1 => ⟨[(2, .ptr 0 0 0), (6, .ptr 1 0 0)], [(0, .var [.i 0, .i 0, .i 0, .r .nil]), (1, .var [.i (at2 s 0), .i (at2 s 2), .i (at4 s 4), .sl 2 0 (n + 1)]), (2, .row 3 (l.map Chunk.row))], 3, []⟩
theorem pgFin_zero (s : List UInt8) (l : List Chunk) : pgFin s l 0 = ⟨[(2, .ptr 0 0 0), (6, .ptr 1 0 0)], [(0, .var [.i 0, .i 0, .i 0, .r .nil]), (1, .var [.i (at2 s 0), .i (at2 s 2), .i (at4 s 4), .r .nil])], 2, []⟩ := rfl
theorem pgFin_succ (s : List UInt8) (l : List Chunk) (n : Nat) : pgFin s l (n + 1) = ⟨[(2, .ptr 0 0 0), (6, .ptr 1 0 0)], [(0, .var [.i 0, .i 0, .i 0, .r .nil]), (1, .var [.i (at2 s 0), .i (at2 s 2), .i (at4 s 4), .sl 2 0 (n + 1)]), (2, .row 3 (l.map Chunk.row))], 3, []⟩ := rfl
def pgInv (s : List UInt8) (pos : Nat) (l : List Chunk) : Prop := pos ≤ s.length ∧ l.length ≤ pos ∧ ∃ f, s.length - pos + 1 ≤ f ∧ chunksGet s.length s 12 = (chunksGet f s pos).map (l ++ ·)
theorem pgInv_step {s : List UInt8} {pos : Nat} {l : List Chunk} (h : pgInv s pos l) (hp : pos < s.length) (hc : chunkOk s pos = true) : pgInv s (endAt s pos) (l ++ [chunkAt s pos]) ∧ pos < endAt s pos := by
  obtain ⟨h1, h0, f, h2, h3⟩ := h
  have hc' := hc
  simp only [chunkOk, inB, Bool.and_eq_true, decide_eq_true_eq] at hc'
  obtain ⟨⟨⟨c1, c2⟩, c3⟩, c4⟩ := hc'
  have he : pos + 4 ≤ endAt s pos := by unfold endAt; omega
  refine ⟨⟨c3, by rw [List.length_append, List.length_singleton]; omega, f - 1, by omega, ?_⟩, by omega⟩
  rw [h3]
  obtain ⟨g, rfl⟩ : ∃ g, f = g + 1 := ⟨f - 1, by omega⟩
  rw [chunksGet, if_neg (by omega), hc, if_pos rfl, Nat.add_sub_cancel, Option.map_map]
  congr 1
  funext x
  simp
theorem pgInv_bad {s : List UInt8} {pos : Nat} {l : List Chunk} (h : pgInv s pos l) (hp : pos < s.length) (hc : chunkOk s pos = false) : chunksGet s.length s 12 = none := by
  obtain ⟨h1, h0, f, h2, h3⟩ := h
  obtain ⟨g, rfl⟩ : ∃ g, f = g + 1 := ⟨f - 1, by omega⟩
  rw [h3, chunksGet, if_neg (by omega), hc]
  rfl
theorem pgInv_end {s : List UInt8} {pos : Nat} {l : List Chunk} (h : pgInv s pos l) (hp : ¬ pos < s.length) : chunksGet s.length s 12 = some l := by
  obtain ⟨h1, h0, f, h2, h3⟩ := h
  obtain ⟨g, rfl⟩ : ∃ g, f = g + 1 := ⟨f - 1, by omega⟩
  rw [h3, chunksGet, if_pos (by omega)]
  simp
set_option maxHeartbeats 4000000 in
theorem s_implPacketGet0 (s : List UInt8) (hs : s.length ≤ 2000000) : Spec Tryz.prog 38 0 [] [.st s] (PGQ (packGet s)) := by
  refine mr38 rfl fun c hP hm => ?_
  unfold pc38
  refine run_seq (run_wpc _ _ _ _ _ ?_)
  simp only [hm,go_sem,↓reduceIte]
  refine run_seq (run_wpc _ _ _ _ _ ?_)
  simp only [hm,go_sem,↓reduceIte]
  refine ⟨fun h => ?_, fun h => ?_⟩
  · have : packGet s = (noPack, 1) := by unfold packGet; rw [if_pos (by omega)]
    rw [this]
    exact ⟨.inl ⟨rfl, rfl⟩⟩
  have hlen : ¬ s.length < 12 := by omega
  refine run_seq (run_wpc _ _ _ _ _ ?_)
  simp only [hm,go_sem,↓reduceIte]
  refine call_pure (hP ▸ s_LongGet s _ (by omega) (by omega)) rfl rfl ?_
  simp only [hm,go_sem,↓reduceIte]
  have htl : List.take ((s.length : Int)).toNat s = s := by rw [Int.toNat_natCast, List.take_length]
  refine run_seq (run_wpc _ _ _ _ _ ?_)
  simp only [htl, hm,go_sem,↓reduceIte]
  refine ⟨by omega, by rw [List.length_take]; omega, by omega, by rw [List.length_take, List.length_drop]; omega, ?_⟩
  refine call_pure (hP ▸ s_SumText (s.take 8 ++ [0, 0, 0, 0] ++ s.drop 12) (by simp only [List.length_append, List.length_take, List.length_drop, List.length_cons, List.length_nil]; omega)) rfl rfl ?_
  simp only [hm,go_sem,↓reduceIte]
  refine ⟨fun h => ?_, fun h => ?_⟩
  · have : packGet s = (noPack, 2) := by unfold packGet; rw [if_neg hlen, if_pos (fun e => h e.symm)]
    rw [this]
    exact ⟨.inl ⟨rfl, rfl⟩⟩
  have hsum : ¬ at4 s 8 ≠ sumOf (s.take 8 ++ [0, 0, 0, 0] ++ s.drop 12) := by rw [h]; simp
  have hpg : packGet s = match chunksGet s.length s 12 with
    | none => (noPack, 3)
    | some l => if packB (packOf s l) then (packOf s l, 0) else (noPack, 3) := by unfold packGet; rw [if_neg hlen, if_neg hsum]; rfl
  rw [hpg]
  clear hpg
  refine run_seq (run_wpc _ _ _ _ _ ?_)
  simp only [hm,go_sem,↓reduceIte]
  refine run_seq (run_wpc _ _ _ _ _ ?_)
  simp only [hm,go_sem,↓reduceIte]
  refine call_pure (hP ▸ s_WordGet s _ (by omega) (by omega)) rfl rfl ?_
  simp only [hm,go_sem,↓reduceIte]
  refine run_seq (run_wpc _ _ _ _ _ ?_)
  simp only [hm,go_sem,↓reduceIte]
  refine call_pure (hP ▸ s_WordGet s _ (by omega) (by omega)) rfl rfl ?_
  simp only [hm,go_sem,↓reduceIte]
  refine run_seq (run_wpc _ _ _ _ _ ?_)
  simp only [hm,go_sem,↓reduceIte]
  refine call_pure (hP ▸ s_LongGet s _ (by omega) (by omega)) rfl rfl ?_
  simp only [hm,go_sem,↓reduceIte]
  refine run_seq (run_wpc _ _ _ _ _ ?_)
  simp only [hm,go_sem,↓reduceIte]
  refine run_exit 0 (fun t0 => ∃ l, chunksGet s.length s 12 = some l ∧ l.length ≤ s.length ∧ t0 = pgFin s l l.length) ?_ ?_
  · refine lp_wpc (α := Nat × List Chunk) (fun y => pgSt s y.1 y.2 y.2.length) (fun y => pgInv s y.1 y.2) (fun y => s.length - y.1) (12, []) ⟨by omega, by simp, s.length, by omega, by cases chunksGet s.length s 12 <;> simp⟩ (by rw [List.length_nil, pgSt_zero]; (refine le_ev [] ?_; simp only [hm,go_sem,↓reduceIte]; first | done | rfl | exact ⟨rfl, rfl⟩)) ?_
    rintro ⟨pos, l⟩ hI
    unfold pc38l0
    simp only at hI ⊢
    have hcg := s_implChunkGet s pos (by omega) hI.1
    unfold chunkRes at hcg
    have hle := hI.2.1
    by_cases hp : pos < s.length
    · cases hok : chunkOk s pos
      · have hbad := pgInv_bad hI hp hok
        rw [hok, if_neg (by decide)] at hcg
        rw [hbad]
        cases hl : l.length with
        | zero =>
          rw [pgSt_zero]
          simp only [hm,go_sem,↓reduceIte]
          repeat' first
            | refine And.intro ?_ ?_
            | intro _
            | (refine call_pure (hP ▸ hcg) rfl rfl ?_; simp only [hm,go_sem,↓reduceIte])
          all_goals first
            | omega
            | exact ⟨.inl ⟨rfl, rfl⟩⟩
        | succ n =>
          rw [pgSt_succ]
          simp only [hm,go_sem,↓reduceIte]
          repeat' first
            | refine And.intro ?_ ?_
            | intro _
            | (refine call_pure (hP ▸ hcg) rfl rfl ?_; simp only [hm,go_sem,↓reduceIte])
          all_goals first
            | omega
            | exact ⟨.inl ⟨rfl, rfl⟩⟩
      · obtain ⟨hnx, hlt⟩ := pgInv_step hI hp hok
        rw [hok, if_pos rfl] at hcg
        unfold Chunk.av at hcg
        generalize chunkAt s pos = k at hnx hcg
        generalize endAt s pos = e at hnx hcg hlt
        have hll : (l ++ [k]).length = l.length + 1 := by simp
        cases hl : l.length with
        | zero =>
          have hl0 : l = [] := List.length_eq_zero_iff.1 hl
          subst hl0
          rw [pgSt_zero]
          simp only [hm,go_sem,↓reduceIte]
          repeat' first
            | refine And.intro ?_ ?_
            | intro _
            | (refine call_pure (hP ▸ hcg) rfl rfl ?_; simp only [hm,go_sem,↓reduceIte])
          all_goals first
            | omega
            | (refine ⟨(e, [k]), hnx, by simp only; omega, ?_⟩
               simp only [List.length_cons, List.length_nil]
               rw [pgSt_succ]
               simp only [List.map_cons, List.map_nil, Chunk.row]
               (refine le_ev [(2, 4)] ?_; simp only [hm,go_sem,↓reduceIte]; first | done | rfl | exact ⟨rfl, rfl⟩))
        | succ n =>
          rw [pgSt_succ]
          have hrt : List.take (n + 1) (l.map Chunk.row) = l.map Chunk.row := List.take_of_length_le (by simp; omega)
          simp only [hrt, hm,go_sem,↓reduceIte]
          repeat' first
            | refine And.intro ?_ ?_
            | intro _
            | (refine call_pure (hP ▸ hcg) rfl rfl ?_; simp only [hrt, hm,go_sem,↓reduceIte])
          all_goals first
            | omega
            | (simp only [List.length_map]; omega)
            | (refine ⟨(e, l ++ [k]), hnx, by simp only; omega, ?_⟩
               simp only [hll, hl]
               rw [pgSt_succ]
               simp only [List.map_append, List.map_cons, List.map_nil, Chunk.row]
               (refine le_ev [] ?_; simp only [hm,go_sem,↓reduceIte]; first | done | rfl | exact ⟨rfl, rfl⟩))
    · have hend := pgInv_end hI hp
      have hle2 : l.length ≤ s.length := Nat.le_trans hI.2.1 hI.1
      cases hl : l.length with
      | zero =>
        rw [pgSt_zero]
        simp only [hm,go_sem,↓reduceIte]
        repeat' first
          | refine And.intro ?_ ?_
          | intro _
        all_goals first
          | omega
          | (refine ⟨_, ⟨l, hend, hle2, rfl⟩, ?_⟩; rw [hl, pgFin_zero]; (refine le_ev [] ?_; simp only [hm,go_sem,↓reduceIte]; first | done | rfl | exact ⟨rfl, rfl⟩))
      | succ n =>
        rw [pgSt_succ]
        simp only [hm,go_sem,↓reduceIte]
        repeat' first
          | refine And.intro ?_ ?_
          | intro _
        all_goals first
          | omega
          | (refine ⟨_, ⟨l, hend, hle2, rfl⟩, ?_⟩; rw [hl, pgFin_succ]; (refine le_ev [] ?_; simp only [hm,go_sem,↓reduceIte]; first | done | rfl | exact ⟨rfl, rfl⟩))
  rintro t0 ⟨l, hg, hle, rfl⟩
  rw [hg]
  have hpv := s_implPacketValid (packOf s l)
  have hro : (packOf s l).ro = .agg [.i (at2 s 0), .i (at2 s 2), .i (at4 s 4), .r (.ro none (l.map Chunk.row))] := rfl
  rw [hro] at hpv
  cases hl : l.length with
  | zero =>
    have hl0 : l = [] := List.length_eq_zero_iff.1 hl
    subst hl0
    have hno : packB (packOf s []) = false := by simp [packB, packOf]
    rw [hno] at hpv
    simp only [hno, Bool.false_eq_true, if_false]
    rw [pgFin_zero]
    refine run_seq (run_wpc _ _ _ _ _ ?_)
    simp only [hm,go_sem,↓reduceIte]
    refine call_denil ?_
    simp only [hm,go_sem,↓reduceIte]
    refine call_pure (hP ▸ hpv) rfl rfl ?_
    simp only [hm,go_sem,↓reduceIte]
    exact ⟨.inl ⟨rfl, rfl⟩⟩
  | succ n =>
    rw [pgFin_succ, ← hl]
    refine run_seq (run_wpc _ _ _ _ _ ?_)
    simp only [hm,go_sem,↓reduceIte]
    refine call_flat (hP ▸ hpv) rfl (.cons (vw_agg (.cons (vw_self _ _ rfl) (.cons (vw_self _ _ rfl) (.cons (vw_self _ _ rfl) (.cons (Vw.full rfl (by simp)) .nil))))) .nil) ?_
    cases hb : packB (packOf s l)
    · simp only [hm,go_sem,↓reduceIte]
      exact ⟨.inl ⟨rfl, rfl⟩⟩
    · simp only [hm,go_sem,↓reduceIte]
      refine run_wpc _ _ _ _ _ ?_
      simp only [hm,go_sem,↓reduceIte]
      exact ⟨.inr ⟨2, rfl, rfl⟩⟩
theorem s_implPacketGet (s : List UInt8) (hs : s.length ≤ 2000000) : Spec Tryz.prog 38 0 [] [.st s] (Plain fun r => r = .tup [(packGet s).1.ro, .i (packGet s).2]) := by
  refine Spec.le (s_implPacketGet0 s hs) fun r hp nx gs h => ⟨_, [], 0, [], ⟨rfl, rfl, rfl, rfl⟩, fun c hc => ?_⟩
  obtain ⟨h⟩ := h
  generalize packGet s = x at h
  obtain ⟨x, k⟩ := x
  simp only at h
  rcases h with ⟨rfl, rfl⟩ | ⟨b, rfl, h0⟩
  · refine Le.trans (t := ⟨[(0, .tup [.agg [.i 0, .i 0, .i 0, .r .nil], .i k])], [], 0, []⟩) (le_ev [] (by simp only [hc,go_sem,↓reduceIte])) ?_
    exact le_denil
  · unfold Packet.ro
    refine Le.trans (t := ⟨[(0, .tup [.agg [.i x.fr, .i x.to, .i x.tag, .sl 0 0 x.chunks.length], .i k])], [(0, .row 3 (x.chunks.map Chunk.row))], 1, []⟩) (le_ev [(0, b)] (by simp only [hc, go_sem, ↓reduceIte, h0])) ?_
    refine Le.trans (le_frz 0 rfl (by simp only [List.length_map,go_sem,↓reduceIte]) (by simp only [go_sem, ↓reduceIte])) ?_
    simp only [take_map_len, List.drop_zero,go_sem,↓reduceIte]
    exact le_ev [] (by simp only [hc,go_sem,↓reduceIte])
end Go.Cap
namespace Go.Cap
theorem fndAt_app {l : List Fnd} {f : Fnd} {i : Nat} (h : i < l.length) : fndAt (l ++ [f]) i = fndAt l i := by
  simp [fndAt, List.getD_eq_getElem?_getD, List.getElem?_append_left h]
theorem foundB_mono {n : Int} {l : List Fnd} (h : foundB n l = true) : foundB (n + 1) l = true := allB_true fun i hi => by
  have := allB_iff.1 h i hi
  simp only [foundOne, fndB, inB, Bool.and_eq_true, Bool.or_eq_true, decide_eq_true_eq] at this ⊢
  exact ⟨⟨by omega, this.1.2⟩, this.2⟩
theorem foundB_snoc {n : Int} {l : List Fnd} {f : Fnd} (h : foundB n l = true) (hf : fndB n f = true) (hl : ∀ x, l.getLast? = some x → lessB x f = true) : foundB n (l ++ [f]) = true := allB_true fun i hi => by
  rw [List.length_append, List.length_cons, List.length_nil] at hi
  rcases Nat.lt_or_ge i l.length with hil | hil
  · have := allB_iff.1 h i hil
    unfold foundOne at this ⊢
    rw [fndAt_app hil, fndAt_app (by omega)]
    exact this
  · have : i = l.length := by omega
    subst this
    have e : fndAt (l ++ [f]) l.length = f := by simp [fndAt, List.getD_eq_getElem?_getD]
    unfold foundOne
    rw [e, hf]
    rcases Nat.eq_zero_or_pos l.length with h0 | h0
    · simp [h0]
    · rw [fndAt_app (by omega), fndAt_eq (by omega), hl _ (by rw [List.getLast?_eq_getElem?, List.getElem?_eq_getElem])]
      simp
def codeB (c : Int) : Prop := (1 ≤ c ∧ c ≤ 11) ∨ (101 ≤ c ∧ c ≤ 105)
theorem found_note {n : Int} : ∀ (codes : List Int) (l : List Fnd), 0 ≤ n → foundB (n + 1) l = true → (∀ x, l.getLast? = some x → x.rcd < n ∨ (x.rcd = n ∧ ∀ c ∈ codes, x.code < c)) → (∀ c ∈ codes, codeB c) → codes.Pairwise (· < ·) → foundB (n + 1) (l ++ codes.map fun c => (⟨n, c⟩ : Fnd)) = true
  | [], l, _, h, _, _, _ => by simpa using h
  | c :: codes, l, hn, h, hl, hc, hs => by
    rw [List.map_cons, List.append_cons]
    have hc0 := hc c (List.mem_cons_self ..)
    have hs' := List.pairwise_cons.1 hs
    refine found_note codes (l ++ [⟨n, c⟩]) hn (foundB_snoc h ?_ fun x hx => ?_) (fun x hx => ?_) (fun y hy => hc y (List.mem_cons_of_mem _ hy)) hs'.2
    · unfold codeB at hc0
      simp only [fndB, inB, Bool.and_eq_true, Bool.or_eq_true, decide_eq_true_eq]
      omega
    · have := hl x hx
      simp only [lessB, decide_eq_true_eq]
      rcases this with h1 | ⟨h1, h2⟩
      · exact .inl h1
      · exact .inr ⟨h1, h2 c (List.mem_cons_self ..)⟩
    · rw [List.getLast?_concat] at hx
      cases hx
      exact .inr ⟨rfl, hs'.1⟩
theorem found_old {n : Int} {l : List Fnd} (h : foundB n l = true) : ∀ x ∈ l, x.rcd < n := fun x hx => by
  obtain ⟨i, hi, rfl⟩ := List.getElem_of_mem hx
  have := allB_iff.1 h i hi
  simp only [foundOne, fndB, inB, Bool.and_eq_true, Bool.or_eq_true, decide_eq_true_eq, fndAt_eq hi] at this
  omega
theorem note_valid {m : Mon} {codes : List Int} (h : foundB m.records m.found = true) (h0 : 0 ≤ m.records) (hc : ∀ c ∈ codes, codeB c) (hs : codes.Pairwise (· < ·)) : foundB (m.records + 1) (m.found ++ codes.map fun c => (⟨m.records, c⟩ : Fnd)) = true :=
  found_note codes m.found h0 (foundB_mono h) (fun x hx => .inl (found_old h x (List.mem_of_getLast? hx))) hc hs
theorem rules_ok (b : Nat → Bool) : (∀ c ∈ rulesOf b, codeB c) ∧ (rulesOf b).Pairwise (· < ·) := by
  unfold rulesOf
  refine ⟨fun c hc => ?_, ?_⟩
  · obtain ⟨k, hk, rfl⟩ := List.mem_map.1 hc
    obtain ⟨h1, h2⟩ := List.mem_filter.1 hk
    have := List.mem_range.1 h1
    simp only [Bool.and_eq_true, decide_eq_true_eq] at h2
    exact .inl (by omega)
  · refine List.Pairwise.map _ (fun a b h => ?_) (List.Pairwise.filter _ List.pairwise_lt_range)
    exact Int.ofNat_lt.2 h
theorem assocStep_rules (a : Assoc) (p : Packet) : (∀ c ∈ (assocStep a p).2, codeB c) ∧ (assocStep a p).2.Pairwise (· < ·) := by
  unfold assocStep
  split
  · exact ⟨fun c hc => (List.not_mem_nil hc).elim, List.Pairwise.nil⟩
  · exact rules_ok _
def ports (a : Assoc) : Int × Int := (a.fr, a.to)
def apart (x y : Int × Int) : Prop := ¬ ((x.1 = y.1 ∧ x.2 = y.2) ∨ (x.1 = y.2 ∧ x.2 = y.1))
theorem listB_iff {l : List Assoc} : listB l = true ↔ (∀ a ∈ l, assocB a = true ∧ a.state ≠ 0) ∧ (l.map ports).Pairwise apart := by
  rw [listB, allB_iff, List.pairwise_iff_getElem]
  constructor
  · intro h
    refine ⟨fun a ha => ?_, fun i j hi hj hij => ?_⟩
    · obtain ⟨i, hi, rfl⟩ := List.getElem_of_mem ha
      have := h i hi
      simp only [listOne, Bool.and_eq_true, decide_eq_true_eq, assocAt_eq hi] at this
      exact this.1
    · rw [List.length_map] at hi hj
      have := h j hj
      simp only [listOne, Bool.and_eq_true, decide_eq_true_eq, assocAt_eq hj] at this
      have h2 := allB_iff.1 this.2 i hij
      simp only [Bool.not_eq_true', assocAt_eq hi, pairB, decide_eq_false_iff_not] at h2
      simpa [apart, ports] using h2
  · rintro ⟨h1, h2⟩ i hi
    obtain ⟨a1, a2⟩ := h1 _ (List.getElem_mem hi)
    unfold listOne
    rw [assocAt_eq hi, a1, decide_eq_true a2]
    simp only [Bool.true_and]
    refine allB_true fun j hj => ?_
    have := h2 j i (by rw [List.length_map]; omega) (by rw [List.length_map]; omega) hj
    rw [assocAt_eq (by omega)]
    simp only [List.getElem_map, apart, ports] at this
    simp only [pairB, Bool.not_eq_true', decide_eq_false_iff_not]
    exact this
theorem dropAt_sub (l : List Assoc) (k : Nat) : (dropAt l k).Sublist l := by
  unfold dropAt
  have h : (l.take k ++ l.drop (k + 1)).Sublist (l.take k ++ l.drop k) := List.Sublist.append_left (by
    have : l.drop (k + 1) = (l.drop k).drop 1 := by rw [List.drop_drop]
    rw [this]
    exact List.drop_sublist _ _) _
  rwa [List.take_append_drop] at h
theorem findIx_none' {f t : Int} {l : List Assoc} (h : findIx f t l = none) : ∀ a ∈ l, pairB a f t = false
  := by
  induction l with
  | nil => intro a ha; exact (List.not_mem_nil ha).elim
  | cons x l ih =>
    intro a ha
    simp only [findIx] at h
    cases hx : pairB x f t
    · rw [hx] at h
      simp only [Bool.false_eq_true, if_false, Option.map_eq_none_iff] at h
      rcases List.mem_cons.1 ha with rfl | ha
      · exact hx
      · exact ih h a ha
    · rw [hx] at h
      simp at h
theorem packGet_ok (s : List UInt8) : 0 ≤ (packGet s).2 ∧ (packGet s).2 ≤ 3 ∧ ((packGet s).2 = 0 → packB (packGet s).1 = true) := by
  unfold packGet
  split
  · exact ⟨by decide, by decide, fun h => by cases h⟩
  split
  · exact ⟨by decide, by decide, fun h => by cases h⟩
  split
  · exact ⟨by decide, by decide, fun h => by cases h⟩
  split
  · rename_i hp
    exact ⟨by simp only; omega, by simp only; omega, fun _ => hp⟩
  · exact ⟨by decide, by decide, fun h => by cases h⟩
theorem monB_iff {m : Mon} : monB m = true ↔ (0 ≤ m.records ∧ m.records ≤ 60) ∧ m.list.length ≤ 3 ∧ listB m.list = true ∧ foundB m.records m.found = true := by
  unfold monB inB
  simp only [Bool.and_eq_true, decide_eq_true_eq, and_assoc]
theorem beginMon_valid {m : Mon} {p : Packet} (h0 : 0 ≤ m.records ∧ m.records < 60) (h1 : m.list.length ≤ 3) (h2 : listB m.list = true) (h3 : foundB m.records m.found = true) (hp : packB p = true) (hn : ∀ a ∈ m.list, pairB a p.fr p.to = false) :
    monB (beginMon { m with records := m.records + 1 } p) = true := by
  have hnote : ∀ codes : List Int, (∀ c ∈ codes, codeB c) → codes.Pairwise (· < ·) → monB (note { m with records := m.records + 1 } codes) = true := fun codes hc hs => by
    refine monB_iff.2 ⟨by simp only [note]; omega, h1, h2, ?_⟩
    have := note_valid h3 h0.1 hc hs
    simpa [note, Int.add_sub_cancel] using this
  have hone : ∀ c : Int, codeB c → monB (note { m with records := m.records + 1 } [c]) = true := fun c hc => hnote [c] (fun x hx => by simp only [List.mem_singleton] at hx; subst hx; exact hc) (List.pairwise_singleton _ _)
  unfold beginMon
  simp only
  split
  · exact hone 104 (.inr (by decide))
  rename_i hk
  split
  · obtain ⟨r1, r2⟩ := assocStep_rules ⟨p.fr, p.to, 0, false, noSide, noSide⟩ p
    exact hnote _ r1 r2
  rename_i hr
  split
  · exact hone 105 (.inr (by decide))
  rename_i hl
  have hr' : (assocStep ⟨p.fr, p.to, 0, false, noSide, noSide⟩ p).2.isEmpty = true := by simpa using hr
  obtain ⟨v1, v2, v3, v4⟩ := assocStep_new hp (by omega) hr'
  refine monB_iff.2 ⟨by simp only; omega, by simp only [List.length_append, List.length_cons, List.length_nil]; omega, ?_, foundB_mono h3⟩
  obtain ⟨l1, l2⟩ := listB_iff.1 h2
  refine listB_iff.2 ⟨fun a ha => ?_, ?_⟩
  · rcases List.mem_append.1 ha with ha | ha
    · exact l1 a ha
    · simp only [List.mem_singleton] at ha
      subst ha
      exact ⟨v1, by omega⟩
  · simp only [List.map_append, List.map_cons, List.map_nil]
    refine List.pairwise_append.2 ⟨l2, List.pairwise_singleton _ _, fun x hx y hy => ?_⟩
    simp only [List.mem_singleton] at hy
    subst hy
    obtain ⟨a, ha, rfl⟩ := List.mem_map.1 hx
    have := hn a ha
    simp only [pairB, decide_eq_false_iff_not] at this
    simpa [apart, ports, v2, v3] using this
theorem stepMon_valid {m : Mon} {text : List UInt8} (h : monB m = true) (hr : m.records < 60) : monB (stepMon m text) = true := by
  obtain ⟨h0, h1, h2, h3⟩ := monB_iff.1 h
  obtain ⟨c0, c1, c2⟩ := packGet_ok text
  obtain ⟨l1, l2⟩ := listB_iff.1 h2
  unfold stepMon
  generalize packGet text = x at c0 c1 c2
  obtain ⟨p, code⟩ := x
  simp only at c0 c1 c2 ⊢
  split
  · refine monB_iff.2 ⟨by simp only [note]; omega, h1, h2, ?_⟩
    have := note_valid (codes := [100 + code]) h3 h0.1 (fun c hc => by simp only [List.mem_singleton] at hc; subst hc; exact .inr (by omega)) (List.pairwise_singleton _ _)
    simpa [note, Int.add_sub_cancel] using this
  rename_i hcode
  have hp := c2 (by omega)
  split
  · rename_i hf
    exact beginMon_valid ⟨h0.1, hr⟩ h1 h2 h3 hp (findIx_none' hf)
  · rename_i k hf
    obtain ⟨f1, f2⟩ := findIx_lt hf
    split
    · have hds := dropAt_sub m.list k
      have hdl : listB (dropAt m.list k) = true := listB_iff.2 ⟨fun a ha => l1 a (hds.subset ha), l2.sublist (hds.map ports)⟩
      refine beginMon_valid (m := { m with list := dropAt m.list k }) ⟨h0.1, hr⟩ (Nat.le_trans hds.length_le h1) hdl h3 hp fun a ha => ?_
      have hpw := List.pairwise_iff_getElem.1 l2
      simp only [pairB, assocAt_eq f1, decide_eq_true_eq] at f2
      simp only [pairB, decide_eq_false_iff_not]
      have hcase : ∃ j, ∃ hj : j < m.list.length, j ≠ k ∧ m.list[j] = a := by
        unfold dropAt at ha
        rcases List.mem_append.1 ha with ha | ha
        · obtain ⟨j, hj, rfl⟩ := List.getElem_of_mem ha
          rw [List.length_take] at hj
          exact ⟨j, by omega, by omega, by rw [List.getElem_take]⟩
        · obtain ⟨j, hj, rfl⟩ := List.getElem_of_mem ha
          rw [List.length_drop] at hj
          exact ⟨k + 1 + j, by omega, by omega, by rw [List.getElem_drop]⟩
      obtain ⟨j, hj, hne, rfl⟩ := hcase
      rcases Nat.lt_or_ge j k with hlt | hge
      · have := hpw j k (by rw [List.length_map]; omega) (by rw [List.length_map]; omega) hlt
        simp only [List.getElem_map, apart, ports] at this
        omega
      · have := hpw k j (by rw [List.length_map]; omega) (by rw [List.length_map]; omega) (by omega)
        simp only [List.getElem_map, apart, ports] at this
        omega
    · obtain ⟨a1, a2⟩ := l1 _ (List.getElem_mem f1)
      simp only [pairB, assocAt_eq f1, decide_eq_true_eq] at f2
      rw [assocAt_eq f1]
      obtain ⟨v1, v2, v3, v4⟩ := assocStep_valid (p := p) a1 hp (by omega)
      obtain ⟨r1, r2⟩ := assocStep_rules m.list[k] p
      refine monB_iff.2 ⟨by simp only [note]; omega, by simp only [note, List.length_set]; exact h1, ?_, ?_⟩
      · refine listB_iff.2 ⟨fun a ha => ?_, ?_⟩
        · rcases List.mem_or_eq_of_mem_set ha with ha | rfl
          · exact l1 a ha
          · have := (assocB_iff.1 a1).2.2.2.1
            exact ⟨v1, by have := v4 (by omega); omega⟩
        · have e : ((m.list.set k (assocStep m.list[k] p).1).map ports) = m.list.map ports := by
            rw [List.map_set]
            have : ports (assocStep m.list[k] p).1 = (m.list.map ports)[k]'(by rw [List.length_map]; exact f1) := by
              simp [ports, v2, v3]
            rw [this, List.set_getElem_self]
          simp only [note]
          rw [e]
          exact l2
      · have := note_valid (codes := (assocStep m.list[k] p).2) h3 h0.1 r1 r2
        simpa [note, Int.add_sub_cancel] using this
end Go.Cap
namespace Go.Cap
attribute [local irreducible] Call Run Spec
theorem get_denil : ∀ (sl : List (Nat × AV)) (i : Nat), get (sl.map fun p => (p.1, denil p.2)) i = denil (get sl i)
  | [], _ => rfl
  | (j, v) :: l, i => by
    simp only [List.map_cons, get]
    split
    · rfl
    · exact get_denil l i
theorem le_denilS {c : Cx} {sl : List (Nat × AV)} {hp : List (Nat × Blk)} {nx : Nat} {gs : List Nat} : Le c ⟨sl, hp, nx, gs⟩ ⟨sl.map fun p => (p.1, denil p.2), hp, nx, gs⟩ := by
  intro M ι a w h
  refine ⟨M, ι, h.wr, fun j => ?_, h.nt, h.df⟩
  have hj := h.slots j
  simp only at hj ⊢
  rw [get_denil]
  exact hj.denil
end Go.Cap
namespace Go.Cap
attribute [local irreducible] Le
theorem findIx_snoc (f t : Int) (a : Assoc) : ∀ l : List Assoc, findIx f t (l ++ [a]) = match findIx f t l with
    | some k => some k
    | none => if pairB a f t then some l.length else none
  | [] => by simp only [List.nil_append, findIx]; cases pairB a f t <;> rfl
  | x :: l => by
    simp only [List.cons_append, findIx]
    cases pairB x f t
    · simp only [Bool.false_eq_true, if_false]
      rw [findIx_snoc f t a l]
      cases findIx f t l with
      | some k => rfl
      | none => cases pairB a f t <;> simp
    · simp
theorem findIx_none_of {f t : Int} : ∀ {l : List Assoc}, (∀ a ∈ l, pairB a f t = false) → findIx f t l = none
  | [], _ => rfl
  | x :: l, h => by
    simp only [findIx]
    rw [h x (List.mem_cons_self ..), findIx_none_of fun a ha => h a (List.mem_cons_of_mem _ ha)]
    rfl
theorem find_one {l : List Assoc} (h : listB l = true) {i : Nat} (hi : i < l.length) {f t : Int} (hp : pairB l[i] f t = true) : findIx f t (l.take i) = none := by
  refine findIx_none_of fun a ha => ?_
  obtain ⟨j, hj, rfl⟩ := List.getElem_of_mem ha
  rw [List.length_take] at hj
  have h2 := List.pairwise_iff_getElem.1 (listB_iff.1 h).2 j i (by rw [List.length_map]; omega) (by rw [List.length_map]; omega) (by omega)
  simp only [List.getElem_map, apart, ports] at h2
  rw [List.getElem_take]
  simp only [pairB, decide_eq_true_eq, decide_eq_false_iff_not] at hp ⊢
  omega
theorem find_take {l : List Assoc} (h : listB l = true) {i : Nat} (hi : i < l.length) (f t : Int) : findIx f t (l.take (i + 1)) = if pairB l[i] f t then some i else findIx f t (l.take i) := by
  rw [take_get hi, findIx_snoc]
  by_cases hp : pairB l[i] f t = true
  · rw [find_one h hi hp, if_pos hp, if_pos hp, List.length_take, Nat.min_eq_left (by omega)]
  · rw [Bool.eq_false_iff.2 hp]
    cases findIx f t (l.take i) <;> rfl
def notesOf (n : Int) (rules : List Int) : List Fnd := rules.map fun c => ⟨n, c⟩
end Go.Cap
namespace Go.Cap
attribute [local irreducible] Call Run Spec Le
theorem note_eq (n : Int) (L : List Assoc) (F : List Fnd) (codes : List Int) : note ⟨n + 1, L, F⟩ codes = ⟨n + 1, L, F ++ notesOf n codes⟩ := by simp [note, notesOf, Int.add_sub_cancel]
theorem note_row (n q : Int) (F : List Fnd) : F.map Fnd.row ++ [[.n .i64 n, .n .i64 q]] = (F ++ notesOf n [q]).map Fnd.row := by rw [List.map_append]; rfl
theorem note_len (n q : Int) (F : List Fnd) : F.length + 1 = (F ++ notesOf n [q]).length := by simp [notesOf]
theorem rules_len (a : Assoc) (p : Packet) : (assocStep a p).2.length ≤ 12 := by
  unfold assocStep
  split
  · simp
  · simp only [rulesOf, List.length_map]
    exact Nat.le_trans (List.length_filter_le _ _) (by simp)
theorem new_assoc {p : Packet} (hp : packB p = true) : assocB ⟨p.fr, p.to, 0, false, noSide, noSide⟩ = true := by
  have hpb := hp
  simp only [packB, inB, Bool.and_eq_true, decide_eq_true_eq] at hpb
  exact assocB_iff.2 ⟨by simp only; omega, by simp only; omega, by simp only; omega, by simp only; omega, (show sideB noSide = true by decide), (show sideB noSide = true by decide), by simp [noSide], by simp [noSide], by simp [noSide], .inl rfl⟩
theorem noSide_fit : SFit noSide := ⟨by simp [noSide], fun d hd => by simp [noSide] at hd⟩
end Go.Cap
namespace Go.Cap
attribute [local irreducible] Call Run Spec
structure AG where
  a : Assoc
  ga : Nat
  gb : Nat
def AG.ca (x : AG) : RV := gc x.ga (x.a.a.sent.map Data.row)
def AG.cb (x : AG) : RV := gc x.gb (x.a.b.sent.map Data.row)
def AG.row (x : AG) : List RV := x.a.cellsX x.ca x.cb
def AG.av (x : AG) : AV := x.a.av (.r x.ca) (.r x.cb)
def AG.gs (x : AG) : List Nat := gl x.gb (x.a.b.sent.map Data.row) ++ gl x.ga (x.a.a.sent.map Data.row)
theorem sr_two {c : Cx} {M : Mem} {ι : Nat → Option BI} {a : Act} {w : World} {v : AV} {A B : List (List RV)} {b b1 nx : Nat} {hp : List (Nat × Blk)} {gs : List Nat} (hne : b ≠ b1) (h0 : hget hp b = some (.row 7 A)) (h1 : hget hp b1 = some (.row 7 B))
    (h : Sr c M ι ⟨[(0, v)], hp, nx, gs⟩ a w) (p0 : fzgP b A.length v) (p1 : ∀ X, fzgP b1 B.length (fzg b X v)) : ∃ ga gb M' ι', Sr c M' ι' ⟨[(0, fzg b1 (gc gb B) (fzg b (gc ga A) v))], [], nx, gl gb B ++ (gl ga A ++ gs)⟩ a w := by
  obtain ⟨M1, ι1, hs1⟩ := (le_hsub (c := c) (sl := [(0, v)]) (sl' := [(0, v)]) (hp := hp) (hp' := [(b, .row 7 A), (b1, .row 7 B)]) (nx := nx) (gs := gs) ⟨rfl, trivial⟩ fun q x hx => by
    simp only [hget] at hx
    split at hx
    · rename_i e; subst e; cases hx; exact h0
    · split at hx
      · rename_i e; subst e; cases hx; exact h1
      · cases hx) M ι a w h
  obtain ⟨ga, M2, ι2, hs2⟩ := sr_fzo (s := ⟨[(0, v)], [(b, .row 7 A), (b1, .row 7 B)], nx, gs⟩) b (sz := 7) (L := A) (by simp [hget]) ⟨p0, trivial⟩ ⟨trivial, trivial, trivial⟩ hs1
  have e2 : hdel (fzgH b (gc ga A) [(b, Blk.row 7 A), (b1, .row 7 B)]) b = [(b1, .row 7 B)] := by
    simp [fzgH, fzgB, hdel, Ne.symm hne]
  simp only [e2] at hs2
  obtain ⟨gb, M3, ι3, hs3⟩ := sr_fzo (s := ⟨[(0, fzg b (gc ga A) v)], [(b1, .row 7 B)], nx, gl ga A ++ gs⟩) b1 (sz := 7) (L := B) (by simp [hget]) ⟨p1 _, trivial⟩ ⟨trivial, trivial⟩ hs2
  have e3 : hdel (fzgH b1 (gc gb B) [(b1, Blk.row 7 B)]) b1 = [] := by
    simp [fzgH, fzgB, hdel]
  simp only [e3] at hs3
  exact ⟨ga, gb, M3, ι3, hs3⟩
theorem sr_three {c : Cx} {M : Mem} {ι : Nat → Option BI} {a : Act} {w : World} {v : AV} {A B C : List (List RV)} {b b1 b2 nx : Nat} {hp : List (Nat × Blk)} {gs : List Nat} (hne : b ≠ b1 ∧ b ≠ b2 ∧ b1 ≠ b2) (h0 : hget hp b = some (.row 7 A)) (h1 : hget hp b1 = some (.row 7 B)) (h2 : hget hp b2 = some (.row 1 C))
    (h : Sr c M ι ⟨[(0, v)], hp, nx, gs⟩ a w) (p0 : fzgP b A.length v) (p1 : ∀ X, fzgP b1 B.length (fzg b X v)) (p2 : ∀ X Y, frzP b2 C.length (fzg b1 Y (fzg b X v))) : ∃ ga gb M' ι', Sr c M' ι' ⟨[(0, frz b2 C (fzg b1 (gc gb B) (fzg b (gc ga A) v)))], [], nx, gl gb B ++ (gl ga A ++ gs)⟩ a w := by
  obtain ⟨n1, n2, n3⟩ := hne
  obtain ⟨M1, ι1, hs1⟩ := (le_hsub (c := c) (sl := [(0, v)]) (sl' := [(0, v)]) (hp := hp) (hp' := [(b, .row 7 A), (b1, .row 7 B), (b2, .row 1 C)]) (nx := nx) (gs := gs) ⟨rfl, trivial⟩ fun q x hx => by
    simp only [hget] at hx
    split at hx
    · rename_i e; subst e; cases hx; exact h0
    · split at hx
      · rename_i e; subst e; cases hx; exact h1
      · split at hx
        · rename_i e; subst e; cases hx; exact h2
        · cases hx) M ι a w h
  obtain ⟨ga, M2, ι2, hs2⟩ := sr_fzo (s := ⟨[(0, v)], [(b, .row 7 A), (b1, .row 7 B), (b2, .row 1 C)], nx, gs⟩) b (sz := 7) (L := A) (by simp [hget]) ⟨p0, trivial⟩ ⟨trivial, trivial, trivial, trivial⟩ hs1
  have e2 : hdel (fzgH b (gc ga A) [(b, Blk.row 7 A), (b1, .row 7 B), (b2, .row 1 C)]) b = [(b1, .row 7 B), (b2, .row 1 C)] := by
    simp [fzgH, fzgB, hdel, Ne.symm n1, Ne.symm n2]
  simp only [e2] at hs2
  obtain ⟨gb, M3, ι3, hs3⟩ := sr_fzo (s := ⟨[(0, fzg b (gc ga A) v)], [(b1, .row 7 B), (b2, .row 1 C)], nx, gl ga A ++ gs⟩) b1 (sz := 7) (L := B) (by simp [hget]) ⟨p1 _, trivial⟩ ⟨trivial, trivial, trivial⟩ hs2
  have e3 : hdel (fzgH b1 (gc gb B) [(b1, Blk.row 7 B), (b2, .row 1 C)]) b1 = [(b2, .row 1 C)] := by
    simp [fzgH, fzgB, hdel, Ne.symm n3]
  simp only [e3] at hs3
  obtain ⟨M4, ι4, hs4⟩ := le_frz (c := c) (s := ⟨[(0, fzg b1 (gc gb B) (fzg b (gc ga A) v))], [(b2, .row 1 C)], nx, gl gb B ++ (gl ga A ++ gs)⟩) b2 (sz := 1) (L := C) (by simp [hget]) ⟨p2 _ _, trivial⟩ ⟨trivial, trivial⟩ M3 ι3 a w hs3
  have e4 : hdel (frzH b2 C [(b2, Blk.row 1 C)]) b2 = [] := by
    simp [frzH, frzB, hdel]
  simp only [e4] at hs4
  exact ⟨ga, gb, M4, ι4, hs4⟩
theorem sr_low {c : Cx} (hc : c.m = 0) {M : Mem} {ι : Nat → Option BI} {a : Act} {w : World} {v : AV} {nx : Nat} {gs gs' : List Nat} (hv : dataA v = true) (h : Sr c M ι ⟨[(0, v)], [], nx, gs ++ gs'⟩ a w) : ∃ M' ι', Sr c M' ι' ⟨[(0, v)], [], 0, gs⟩ a w := by
  refine le_nums (c := c) (s := ⟨[(0, v)], [], nx, gs ++ gs'⟩) (t := ⟨[(0, v)], [], 0, gs⟩) [] (by simp) (by simp) (fun p hp => ?_) (fun p hp => by cases hp) (by simp) (by simp [hc]) ⟨(List.nodup_append.1 h.wr.gsn).1, fun g hg => List.mem_append_left _ hg⟩ M ι a w h
  simp only [List.mem_singleton] at hp
  subst hp
  right
  rw [ren_data v hv]
  simp [get]
theorem s_copyAssocG (a : Assoc) (h1 : a.a.sent.length ≤ 1000000) (h2 : a.b.sent.length ≤ 1000000) : Spec Tryz.prog 37 0 [] [a.ro] (fun r hp nx gs => (∃ x : AG, x.a = a ∧ r = x.av ∧ gs = x.gs) ∧ hp = [] ∧ nx = 0) := by
  refine Spec.leX (s_copyAssoc a h1 h2) fun r hp nx gs hq c hc M ι ac w h => ?_
  obtain ⟨rfl, rfl, rfl, rfl⟩ := hq
  obtain ⟨ga, gb, M1, ι1, h'⟩ := sr_two (b := 0) (b1 := 1) (A := a.a.sent.map Data.row) (B := a.b.sent.map Data.row) (by decide) rfl rfl h (by unfold Assoc.cells3; simp [fzgP, fzgP.fzgPL, fzg, fzg.fzgL, frzP, frzP.frzPL]) (fun X => by unfold Assoc.cells3; simp [fzgP, fzgP.fzgPL, fzg, fzg.fzgL, frzP, frzP.frzPL])
  have e : fzg 1 (gc gb (a.b.sent.map Data.row)) (fzg 0 (gc ga (a.a.sent.map Data.row)) (.agg (a.cells3 0 1))) = (AG.mk a ga gb).av := by
    unfold Assoc.cells3
    simp only [go_sem, ↓reduceIte]
    rfl
  rw [e, ← List.append_assoc] at h'
  obtain ⟨M2, ι2, h''⟩ := sr_low hc (by rfl) h'
  exact ⟨_, [], 0, _, M2, ι2, ⟨⟨AG.mk a ga gb, rfl, rfl, rfl⟩, rfl, rfl⟩, h''⟩
theorem s_implAssocStepG (a : Assoc) (p : Packet) (ha : SFit a.a) (hb : SFit a.b) (hno : assocStep a p ≠ (noAssoc, [])) : Spec Tryz.prog 41 0 [] [a.ro, p.ro] (fun r hp nx gs => (∃ x : AG, x.a = (assocStep a p).1 ∧ r = .tup [x.av, rulesA (assocStep a p).2] ∧ gs = x.gs) ∧ hp = [] ∧ nx = 0) := by
  refine Spec.leX (s_implAssocStep0 a p ha hb) fun r hp nx gs hq c hc M ι ac w h => ?_
  obtain ⟨hq⟩ := hq
  generalize assocStep a p = x at hq hno
  obtain ⟨x, rs⟩ := x
  simp only at hq
  rcases hq with ⟨e, _⟩ | ⟨b, b1, hne, rfl, rfl, h0, h1⟩ | ⟨b, b1, b2, hne, hn0, rfl, h0, h1, h2⟩
  · exact absurd e hno
  · have n1 := hne.1
    obtain ⟨ga, gb, M1, ι1, h'⟩ := sr_two (b := b) (b1 := b1) (A := x.a.sent.map Data.row) (B := x.b.sent.map Data.row) n1 h0 h1 h (by unfold Assoc.cells3; simp [fzgP, fzgP.fzgPL, n1, Ne.symm n1]) (fun X => by unfold Assoc.cells3; simp [fzgP, fzgP.fzgPL, fzg, fzg.fzgL, frzP, frzP.frzPL, n1, Ne.symm n1])
    have e : fzg b1 (gc gb (x.b.sent.map Data.row)) (fzg b (gc ga (x.a.sent.map Data.row)) (.tup [.agg (x.cells3 b b1), .r .nil])) = .tup [(AG.mk x ga gb).av, rulesA []] := by
      unfold Assoc.cells3
      simp only [n1, Ne.symm n1,go_sem,↓reduceIte]
      rfl
    rw [e, ← List.append_assoc] at h'
    obtain ⟨M2, ι2, h''⟩ := sr_low hc (by rfl) h'
    exact ⟨_, [], 0, _, M2, ι2, ⟨⟨AG.mk x ga gb, rfl, rfl, rfl⟩, rfl, rfl⟩, h''⟩
  · obtain ⟨n1, n2, n3⟩ := hne
    obtain ⟨ga, gb, M1, ι1, h'⟩ := sr_three (b := b) (b1 := b1) (b2 := b2) (A := x.a.sent.map Data.row) (B := x.b.sent.map Data.row) (C := rs.map intRow) ⟨n1, n2, n3⟩ h0 h1 h2 h (by unfold Assoc.cells3; simp [fzgP, fzgP.fzgPL, fzg, fzg.fzgL, frzP, frzP.frzPL, n1, n2, Ne.symm n1, Ne.symm n2]) (fun X => by unfold Assoc.cells3; simp [fzgP, fzgP.fzgPL, fzg, fzg.fzgL, frzP, frzP.frzPL, n1, n2, n3, Ne.symm n1, Ne.symm n2, Ne.symm n3]) (fun X Y => by unfold Assoc.cells3; simp [fzgP, fzgP.fzgPL, fzg, fzg.fzgL, frzP, frzP.frzPL, n1, n2, n3, Ne.symm n1, Ne.symm n2, Ne.symm n3])
    have e : frz b2 (rs.map intRow) (fzg b1 (gc gb (x.b.sent.map Data.row)) (fzg b (gc ga (x.a.sent.map Data.row)) (.tup [.agg (x.cells3 b b1), .sl b2 0 rs.length]))) = .tup [(AG.mk x ga gb).av, rulesA rs] := by
      have hra : rulesA rs = .r (.ro none (rs.map intRow)) := by cases rs with | nil => exact absurd rfl hn0 | cons => rfl
      rw [hra]
      unfold Assoc.cells3
      simp only [n1, n2, n3, Ne.symm n1, Ne.symm n2, Ne.symm n3, List.drop_zero, take_map_len,go_sem,↓reduceIte]
      rfl
    rw [e, ← List.append_assoc] at h'
    obtain ⟨M2, ι2, h''⟩ := sr_low hc (by unfold rulesA; split <;> rfl) h'
    exact ⟨_, [], 0, _, M2, ι2, ⟨⟨AG.mk x ga gb, rfl, rfl, rfl⟩, rfl, rfl⟩, h''⟩
end Go.Cap

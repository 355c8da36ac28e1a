import Derived.Test.YtfanhpebfnbobaaLawC
import Derived.Test.YtfanhpebfnbobaaPc
/- Contracts: the program's monitor takes a record. -/
namespace Go.Cap
open Go Go.Proofs
set_option maxRecDepth 100000
set_option linter.unusedSimpArgs false
set_option linter.unusedVariables false
attribute [local irreducible] Call Run Spec Le

theorem note_eq (n : Int) (L : List Assoc) (F : List Fnd) (codes : List Int) : note ⟨n + 1, L, F⟩ codes = ⟨n + 1, L, F ++ notesOf n codes⟩ := by simp [note, notesOf, Int.add_sub_cancel]
theorem note_row (n q : Int) (F : List Fnd) : F.map Fnd.row ++ [[.n .i64 n, .n .i64 q]] = (F ++ notesOf n [q]).map Fnd.row := by rw [List.map_append]; rfl
theorem note_len (n q : Int) (F : List Fnd) : F.length + 1 = (F ++ notesOf n [q]).length := by simp [notesOf]
theorem step_no {a : Assoc} {p : Packet} (h : assocB a = true) (hp : packB p = true) (hpt : (p.fr = a.fr ∧ p.to = a.to) ∨ (p.fr = a.to ∧ p.to = a.fr)) : assocStep a p ≠ (noAssoc, []) := fun e => by
  have h2 := (assocStep_valid h hp hpt).2.1
  rw [e] at h2
  have h1 := (assocB_iff.1 h).1
  simp only [noAssoc] at h2
  omega
theorem rules_len (a : Assoc) (p : Packet) : (assocStep a p).2.length ≤ 12 := by
  unfold assocStep
  split
  · simp
  · simp only [rulesOf, List.length_map]
    exact Nat.le_trans (List.length_filter_le _ _) (by simp)
theorem new_assoc {p : Packet} (hp : packB p = true) : assocB ⟨p.fr, p.to, 0, false, noSide, noSide⟩ = true := by
  have hpb := hp
  simp only [packB, inB, Bool.and_eq_true, decide_eq_true_eq] at hpb
  exact assocB_iff.2 ⟨by simp only; omega, by simp only; omega, by simp only; omega, by simp only; omega, (show sideB noSide = true by decide), (show sideB noSide = true by decide), by simp [noSide], by simp [noSide], by simp [noSide], .inl rfl⟩
theorem noSide_fit : SFit noSide := ⟨by simp [noSide], fun d hd => by simp [noSide] at hd⟩
structure MQ (m' : Mon) (r : AV) (hp : List (Nat × Blk)) (nx : Nat) (gs : List Nat) : Prop where
  h : (m' = noMon ∧ r = .agg [.i 0, .r .nil, .r .nil]) ∨
    (m'.list = [] ∧ ∃ b, r = .agg [.i m'.records, .r .nil, .sl b 0 m'.found.length] ∧ hget hp b = some (.row 2 (m'.found.map Fnd.row))) ∨
    (∃ b b1, b ≠ b1 ∧ r = .agg [.i m'.records, .sl b1 0 m'.list.length, .sl b 0 m'.found.length] ∧ hget hp b = some (.row 2 (m'.found.map Fnd.row)) ∧ hget hp b1 = some (.row 14 (m'.list.map Assoc.row)))
def msList (m : Mon) (text : List UInt8) : Nat → St
  | 0 => ⟨[(1, .st text), (2, .ptr 0 0 0), (4, .ptr 1 0 0), (5, .ptr 2 0 0), (37, .r (.ro none (m.list.map Assoc.row))), (38, .i m.list.length), (39, .i 0)], [(0, .var [.i m.records, .r (.ro none (m.list.map Assoc.row)), .r (.ro none (m.found.map Fnd.row))]), (1, .var [.i 0, .r .nil, .r .nil]), (2, .var [.i (m.records + 1), .r .nil, .sl 3 0 m.found.length]), (3, .row 2 (m.found.map Fnd.row))], 4, []⟩
  | i + 1 => ⟨[(1, .st text), (2, .ptr 0 0 0), (4, .ptr 1 0 0), (5, .ptr 2 0 0), (37, .r (.ro none (m.list.map Assoc.row))), (38, .i m.list.length), (39, .i ((i + 1 : Nat) : Int))], [(0, .var [.i m.records, .r (.ro none (m.list.map Assoc.row)), .r (.ro none (m.found.map Fnd.row))]), (1, .var [.i 0, .r .nil, .r .nil]), (2, .var [.i (m.records + 1), .sl 4 0 (i + 1), .sl 3 0 m.found.length]), (3, .row 2 (m.found.map Fnd.row)), (4, .row 14 ((m.list.take (i + 1)).map Assoc.row))], 5, []⟩
theorem msList_zero (m : Mon) (text : List UInt8) : msList m text 0 = ⟨[(1, .st text), (2, .ptr 0 0 0), (4, .ptr 1 0 0), (5, .ptr 2 0 0), (37, .r (.ro none (m.list.map Assoc.row))), (38, .i m.list.length), (39, .i 0)], [(0, .var [.i m.records, .r (.ro none (m.list.map Assoc.row)), .r (.ro none (m.found.map Fnd.row))]), (1, .var [.i 0, .r .nil, .r .nil]), (2, .var [.i (m.records + 1), .r .nil, .sl 3 0 m.found.length]), (3, .row 2 (m.found.map Fnd.row))], 4, []⟩ := rfl
theorem msList_succ (m : Mon) (text : List UInt8) (i : Nat) : msList m text (i + 1) = ⟨[(1, .st text), (2, .ptr 0 0 0), (4, .ptr 1 0 0), (5, .ptr 2 0 0), (37, .r (.ro none (m.list.map Assoc.row))), (38, .i m.list.length), (39, .i ((i + 1 : Nat) : Int))], [(0, .var [.i m.records, .r (.ro none (m.list.map Assoc.row)), .r (.ro none (m.found.map Fnd.row))]), (1, .var [.i 0, .r .nil, .r .nil]), (2, .var [.i (m.records + 1), .sl 4 0 (i + 1), .sl 3 0 m.found.length]), (3, .row 2 (m.found.map Fnd.row)), (4, .row 14 ((m.list.take (i + 1)).map Assoc.row))], 5, []⟩ := rfl
set_option maxHeartbeats 4000000 in
theorem s_implMonitorStep0 (m : Mon) (text : List UInt8) (hf : MFit m) (ht : text.length ≤ 1000000) : Spec Try.prog 50 0 [] [m.ro, .st text] (MQ (monStep m text)) := by
  have hmv := s_implMonitorValid m hf
  have hpg := s_implPacketGet text ht
  refine mr50 rfl fun c hP hm => ?_
  unfold pc50
  unfold Mon.ro at hmv ⊢
  refine run_seq (run_wpc _ _ _ _ _ ?_)
  simp only [hm, go_sem, ↓reduceIte]
  refine run_seq (run_wpc _ _ _ _ _ ?_)
  simp only [hm, go_sem, ↓reduceIte]
  refine call_pure (hP ▸ hmv) rfl rfl ?_
  cases hv : monB m
  · simp only [hm, go_sem, ↓reduceIte]
    have : monStep m text = noMon := by unfold monStep; rw [hv]; rfl
    rw [this]
    exact ⟨.inl ⟨rfl, rfl⟩⟩
  simp only [hm, go_sem, ↓reduceIte]
  refine ⟨fun h => ?_, fun h => ?_⟩
  · have : monStep m text = noMon := by unfold monStep; rw [hv, decide_eq_false (by omega)]; rfl
    rw [this]
    exact ⟨.inl ⟨rfl, rfl⟩⟩
  have hms : monStep m text = stepMon m text := by unfold monStep; rw [hv, decide_eq_true (by omega)]; rfl
  rw [hms]
  clear hms
  obtain ⟨v1, v2, v3, v4⟩ := monB_iff.1 hv
  have hw1 : IntKind.i64.wrap (m.records + 1) = m.records + 1 := wrap64 (by omega) (by omega)
  have hrf : ∀ r ∈ m.found.map Fnd.row, r.length = 2 := fun r hr => by obtain ⟨d, _, rfl⟩ := List.mem_map.1 hr; rfl
  have hnf := hf.nf
  refine run_join (fun t => t = ⟨[(1, .st text), (2, .ptr 0 0 0), (4, .ptr 1 0 0), (5, .ptr 2 0 0)], [(0, .var [.i m.records, .r (.ro none (m.list.map Assoc.row)), .r (.ro none (m.found.map Fnd.row))]), (1, .var [.i 0, .r .nil, .r .nil]), (2, .var [.i (m.records + 1), .r .nil, .sl 3 0 m.found.length]), (3, .row 2 (m.found.map Fnd.row))], 4, []⟩) (run_wpc _ _ _ _ _ ?_) ?_
  · simp only [hw1, hm, go_sem, ↓reduceIte]
    repeat' first | refine And.intro ?_ ?_ | intro _
    all_goals first
      | omega
      | exact hrf _ (by assumption)
      | (simp only [List.length_map, List.length_nil, List.length_append]; omega)
      | (refine ⟨_, rfl, ?_⟩; (refine le_ev [] ?_; simp only [hm, go_sem, ↓reduceIte]; first | done | rfl | exact ⟨rfl, rfl⟩))
      | (refine ⟨_, rfl, ?_⟩; (refine le_ev [(2, 3), (3, 2)] ?_; simp only [hm, go_sem, ↓reduceIte]; first | done | rfl | exact ⟨rfl, rfl⟩))
      | (refine ⟨_, rfl, ?_⟩; (refine le_ev [(2, 4), (3, 3)] ?_; simp only [hm, go_sem, ↓reduceIte]; first | done | rfl | exact ⟨rfl, rfl⟩))
      | (refine ⟨_, rfl, ?_⟩; (refine le_ev [(2, 2), (3, 4)] ?_; simp only [hm, go_sem, ↓reduceIte]; first | done | rfl | exact ⟨rfl, rfl⟩))
      | (refine ⟨_, rfl, ?_⟩; (refine le_ev [(2, 4), (3, 2)] ?_; simp only [hm, go_sem, ↓reduceIte]; first | done | rfl | exact ⟨rfl, rfl⟩))
  rintro t rfl
  refine run_seq (run_wpc _ _ _ _ _ ?_)
  simp only [hm, go_sem, ↓reduceIte]
  intro _
  have hsv : ∀ a ∈ m.list, assocB a = true := fun a ha => ((listB_iff.1 v3).1 a ha).1
  refine run_exit 0 (fun t0 => ∃ ls lh, ListR ls lh m.list ∧ t0 = ⟨[(1, .st text), (2, .ptr 0 0 0), (4, .ptr 1 0 0), (5, .ptr 2 0 0)], [(0, .var [.i m.records, .r (.ro none (m.list.map Assoc.row)), .r (.ro none (m.found.map Fnd.row))]), (1, .var [.i 0, .r .nil, .r .nil]), (2, .var [.i (m.records + 1), ls, .sl 3 0 m.found.length]), (3, .row 2 (m.found.map Fnd.row))] ++ lh, 5, []⟩) ?_ ?_
  · refine lp_wpc (α := Nat) (fun i => msList m text i) (fun i => i ≤ m.list.length) (fun i => m.list.length - i) 0 (Nat.zero_le _) (by rw [msList_zero]; (refine le_ev [] ?_; simp only [hm, go_sem, ↓reduceIte]; first | done | rfl | exact ⟨rfl, rfl⟩)) ?_
    intro i hi
    unfold pc50l0
    rcases Nat.lt_or_ge i m.list.length with hil | hil
    · have hw : IntKind.i64.wrap ((i : Int) + 1) = ((i + 1 : Nat) : Int) := by rw [wrap64 (by omega) (by omega)]; omega
      have hg := getD_map (f := Assoc.row) hil
      have htk := take_get hil
      have hav := assocB_AW (hsv _ (List.getElem_mem hil))
      generalize m.list[i] = a at hg htk hav
      have hcp := s_copyAssocD a (by have := hav.1.2.1; omega) (by have := hav.2.2.1; omega)
      have hu : a.ro = .agg a.cellsA := rfl
      rw [hu] at hcp
      unfold Assoc.cellsA at hcp
      have hrow : a.row = [.n .i64 a.fr, .n .i64 a.to, .n .i64 a.state, .b a.byB, .n .i64 a.a.tag, .n .i64 a.a.streams, .n .i64 a.a.first, .ro none (a.a.sent.map Data.row), .n .i64 a.a.acked, .n .i64 a.b.tag, .n .i64 a.b.streams, .n .i64 a.b.first, .ro none (a.b.sent.map Data.row), .n .i64 a.b.acked] := rfl
      rw [hrow] at hg
      cases i with
      | zero =>
        rw [msList_zero]
        have hw0 : IntKind.i64.wrap (0 + 1) = ((0 + 1 : Nat) : Int) := rfl
        have h00 : (0 : Int).toNat = 0 := rfl
        simp only [hw0, h00, hg, hm, go_sem, ↓reduceIte]
        repeat' first
          | refine And.intro ?_ ?_
          | intro _
          | (refine call_dataP (hP ▸ hcp) rfl rfl ?_; simp only [hw0, h00, hg, hm, go_sem, ↓reduceIte])
        all_goals first
          | omega
          | (refine ⟨0 + 1, hil, by omega, ?_⟩
             rw [msList_succ, htk]
             simp only [List.take_zero, List.nil_append, List.map_cons, List.map_nil, hrow]
             first
             | (refine le_ev [(4, 6)] ?_; simp only [hm, go_sem, ↓reduceIte]; first | done | rfl | exact ⟨rfl, rfl⟩)
             | (refine le_ev [(4, 5)] ?_; simp only [hm, go_sem, ↓reduceIte]; first | done | rfl | exact ⟨rfl, rfl⟩)
             | (refine le_ev [(4, 7)] ?_; simp only [hm, go_sem, ↓reduceIte]; first | done | rfl | exact ⟨rfl, rfl⟩))
      | succ i =>
        rw [msList_succ]
        have hl : ((m.list.take (i + 1)).map Assoc.row).length = i + 1 := by rw [List.length_map, List.length_take]; omega
        have hrt : List.take (i + 1) ((m.list.take (i + 1)).map Assoc.row) = (m.list.take (i + 1)).map Assoc.row := List.take_of_length_le (Nat.le_of_eq hl)
        rw [show i + 1 + 1 = (i + 1) + 1 from rfl] at htk
        generalize m.list.take (i + 1) = G at hrt hl htk ⊢
        simp only [hw, hrt, hl, Int.toNat_natCast, hg, hm, go_sem, ↓reduceIte]
        repeat' first
          | refine And.intro ?_ ?_
          | intro _
          | (refine call_dataP (hP ▸ hcp) rfl rfl ?_; simp only [hw, hrt, hl, Int.toNat_natCast, hg, hm, go_sem, ↓reduceIte])
        all_goals first
          | omega
          | (refine ⟨i + 1 + 1, hil, by omega, ?_⟩
             rw [msList_succ, htk]
             simp only [List.map_append, List.map_cons, List.map_nil, hrow]
             (refine le_ev [] ?_; simp only [hm, go_sem, ↓reduceIte]; first | done | rfl | exact ⟨rfl, rfl⟩))
    · have hie : i = m.list.length := by omega
      cases i with
      | zero =>
        rw [msList_zero]
        have hl0 : m.list = [] := List.length_eq_zero_iff.1 hie.symm
        have hl1 : (m.list.length : Int) = 0 := by omega
        simp only [hl1, hm, go_sem, ↓reduceIte]
        repeat' first | refine And.intro ?_ ?_ | intro _
        all_goals first
          | omega
          | (refine ⟨_, ⟨.r .nil, [], .inl ⟨rfl, rfl, hl0⟩, rfl⟩, ?_⟩; (refine le_ev [] ?_; simp only [hm, go_sem, ↓reduceIte]; first | done | rfl | exact ⟨rfl, rfl⟩))
      | succ i =>
        rw [msList_succ, hie, List.take_length]
        simp only [hm, go_sem, ↓reduceIte]
        repeat' first | refine And.intro ?_ ?_ | intro _
        all_goals first
          | omega
          | (refine ⟨_, ⟨.sl 4 0 m.list.length, _, .inr ⟨rfl, rfl⟩, rfl⟩, ?_⟩; (refine le_ev [] ?_; simp only [hm, go_sem, ↓reduceIte]; first | done | rfl | exact ⟨rfl, rfl⟩))
  rintro t0 ⟨ls, lh, hls, rfl⟩
  obtain ⟨R, hR⟩ : ∃ R, stepMon m text = R := ⟨_, rfl⟩
  rw [hR]
  unfold stepMon at hR
  obtain ⟨pg1, pg2, pg3⟩ := packGet_ok text
  generalize packGet text = pk at hpg pg1 pg2 pg3 hR
  obtain ⟨p, code⟩ := pk
  simp only at hpg pg1 pg2 pg3 hR
  unfold Packet.ro at hpg
  refine run_join (fun t => ∃ ls lh, ListR ls lh m.list ∧ t = ⟨[(2, .ptr 0 0 0), (4, .ptr 1 0 0), (5, .ptr 2 0 0), (8, .ptr 5 0 0), (9, .i code)], [(0, .var [.i m.records, .r (.ro none (m.list.map Assoc.row)), .r (.ro none (m.found.map Fnd.row))]), (1, .var [.i 0, .r .nil, .r .nil]), (2, .var [.i (m.records + 1), ls, .sl 3 0 m.found.length]), (3, .row 2 (m.found.map Fnd.row)), (5, .var [.i p.fr, .i p.to, .i p.tag, .r (.ro none (p.chunks.map Chunk.row))])] ++ lh, 6, []⟩) (run_wpc _ _ _ _ _ ?_) ?_
  · rcases hls with ⟨rfl, rfl, hL⟩ | ⟨rfl, rfl⟩
    all_goals
      simp only [List.cons_append, List.nil_append, hm, go_sem, ↓reduceIte]
      refine call_dataP (hP ▸ hpg) rfl rfl ?_
      simp only [hm, go_sem, ↓reduceIte]
      repeat' first | refine And.intro ?_ ?_ | intro _
    all_goals first
      | omega
      | (refine ⟨_, ⟨.r .nil, [], .inl ⟨rfl, rfl, hL⟩, rfl⟩, ?_⟩; (refine le_ev [] ?_; simp only [hm, go_sem, ↓reduceIte]; first | done | rfl | exact ⟨rfl, rfl⟩))
      | (refine ⟨_, ⟨.sl 4 0 _, _, .inr ⟨rfl, rfl⟩, rfl⟩, ?_⟩; (refine le_ev [] ?_; simp only [hm, go_sem, ↓reduceIte]; first | done | rfl | exact ⟨rfl, rfl⟩))
  rintro t ⟨ls, lh, hls, rfl⟩
  clear hpg
  refine run_join (fun t => ∃ ls lh, ListR ls lh m.list ∧ t = ⟨[(2, .ptr 0 0 0), (4, .ptr 1 0 0), (5, .ptr 2 0 0), (8, .ptr 5 0 0)], [(0, .var [.i m.records, .r (.ro none (m.list.map Assoc.row)), .r (.ro none (m.found.map Fnd.row))]), (1, .var [.i 0, .r .nil, .r .nil]), (2, .var [.i (m.records + 1), ls, .sl 3 0 m.found.length]), (3, .row 2 (m.found.map Fnd.row)), (5, .var [.i p.fr, .i p.to, .i p.tag, .r (.ro none (p.chunks.map Chunk.row))])] ++ lh, 6, []⟩ ∧ code = 0) (run_wpc _ _ _ _ _ ?_) ?_
  · have hwc : IntKind.i64.wrap (101 + code) = 101 + code := wrap64 (by omega) (by omega)
    have hwd : IntKind.i64.wrap (101 + code - 1) = 100 + code := by rw [wrap64 (by omega) (by omega)]; omega
    rcases hls with ⟨rfl, rfl, hL⟩ | ⟨rfl, rfl⟩
    all_goals
      simp only [List.cons_append, List.nil_append, hwc, hwd, take_map_len, List.length_map, hm, go_sem, ↓reduceIte]
      repeat' first | refine And.intro ?_ ?_ | intro _
    all_goals first
      | omega
      | (refine ⟨_, ⟨.r .nil, [], .inl ⟨rfl, rfl, hL⟩, rfl, by assumption⟩, ?_⟩; (refine le_ev [] ?_; simp only [hm, go_sem, ↓reduceIte]; first | done | rfl | exact ⟨rfl, rfl⟩))
      | (refine ⟨_, ⟨.sl 4 0 _, _, .inr ⟨rfl, rfl⟩, rfl, by assumption⟩, ?_⟩; (refine le_ev [] ?_; simp only [hm, go_sem, ↓reduceIte]; first | done | rfl | exact ⟨rfl, rfl⟩))
      | (rw [if_pos (by assumption), note_eq] at hR; rw [← hR, note_row, note_len]; exact ⟨.inr (.inl ⟨hL, 3, rfl, rfl⟩)⟩)
      | (rw [if_pos (by assumption), note_eq] at hR; rw [← hR, note_row, note_len]; exact ⟨.inr (.inr ⟨3, 4, by decide, rfl, rfl, rfl⟩)⟩)
  rintro t ⟨ls, lh, hls, rfl, hcode⟩
  rw [if_neg (fun h => h hcode)] at hR
  have hpk := pg3 hcode
  clear pg1 pg2 pg3
  refine run_join (fun t => ∃ ls lh, ListR ls lh m.list ∧ t = ⟨[(2, .ptr 0 0 0), (4, .ptr 1 0 0), (5, .ptr 2 0 0), (8, .ptr 5 0 0), (10, .i (-1))], [(0, .var [.i m.records, .r (.ro none (m.list.map Assoc.row)), .r (.ro none (m.found.map Fnd.row))]), (1, .var [.i 0, .r .nil, .r .nil]), (2, .var [.i (m.records + 1), ls, .sl 3 0 m.found.length]), (3, .row 2 (m.found.map Fnd.row)), (5, .var [.i p.fr, .i p.to, .i p.tag, .r (.ro none (p.chunks.map Chunk.row))])] ++ lh, 6, []⟩) (run_wpc _ _ _ _ _ ?_) ?_
  · rcases hls with ⟨rfl, rfl, hL⟩ | ⟨rfl, rfl⟩
    all_goals
      simp only [List.cons_append, List.nil_append, hm, go_sem, ↓reduceIte]
    all_goals first
      | (refine ⟨_, ⟨.r .nil, [], .inl ⟨rfl, rfl, hL⟩, rfl⟩, ?_⟩; (refine le_ev [] ?_; simp only [hm, go_sem, ↓reduceIte]; first | done | rfl | exact ⟨rfl, rfl⟩))
      | (refine ⟨_, ⟨.sl 4 0 _, _, .inr ⟨rfl, rfl⟩, rfl⟩, ?_⟩; (refine le_ev [] ?_; simp only [hm, go_sem, ↓reduceIte]; first | done | rfl | exact ⟨rfl, rfl⟩))
  rintro t ⟨ls, lh, hls, rfl⟩
  refine run_seq ?_
  refine run_mono (n := fun t => ∃ s, (∃ ls lh, ListR ls lh m.list ∧ s = ⟨[(2, .ptr 0 0 0), (4, .ptr 1 0 0), (5, .ptr 2 0 0), (8, .ptr 5 0 0), (10, .i (ixI (findIx p.fr p.to m.list)))], [(0, .var [.i m.records, .r (.ro none (m.list.map Assoc.row)), .r (.ro none (m.found.map Fnd.row))]), (1, .var [.i 0, .r .nil, .r .nil]), (2, .var [.i (m.records + 1), ls, .sl 3 0 m.found.length]), (3, .row 2 (m.found.map Fnd.row)), (5, .var [.i p.fr, .i p.to, .i p.tag, .r (.ro none (p.chunks.map Chunk.row))])] ++ lh, 6, []⟩) ∧ Le c t s) (x := fun _ _ => False) (r := fun _ => False) ?_ ?_ (fun _ _ h => h.elim) (fun _ h => h.elim)
  · rcases hls with ⟨rfl, rfl, hL⟩ | ⟨rfl, rfl⟩
    · refine run_wpc _ _ _ _ _ ?_
      simp only [List.append_nil, hm, go_sem, ↓reduceIte]
      refine run_exit 2 (fun t0 => t0 = ⟨[(2, .ptr 0 0 0), (4, .ptr 1 0 0), (5, .ptr 2 0 0), (8, .ptr 5 0 0), (10, .i (ixI (findIx p.fr p.to m.list)))], [(0, .var [.i m.records, .r (.ro none (m.list.map Assoc.row)), .r (.ro none (m.found.map Fnd.row))]), (1, .var [.i 0, .r .nil, .r .nil]), (2, .var [.i (m.records + 1), .r .nil, .sl 3 0 m.found.length]), (3, .row 2 (m.found.map Fnd.row)), (5, .var [.i p.fr, .i p.to, .i p.tag, .r (.ro none (p.chunks.map Chunk.row))])], 6, []⟩) ?_ (fun t0 h => ⟨_, ⟨.r .nil, [], .inl ⟨rfl, rfl, hL⟩, rfl⟩, by rw [h]; exact Le.refl _⟩)
      refine lp_wpc (α := Unit) (fun _ => ⟨[(2, .ptr 0 0 0), (4, .ptr 1 0 0), (5, .ptr 2 0 0), (8, .ptr 5 0 0), (10, .i (-1)), (71, .r .nil), (72, .i 0), (73, .i 0)], [(0, .var [.i m.records, .r (.ro none (m.list.map Assoc.row)), .r (.ro none (m.found.map Fnd.row))]), (1, .var [.i 0, .r .nil, .r .nil]), (2, .var [.i (m.records + 1), .r .nil, .sl 3 0 m.found.length]), (3, .row 2 (m.found.map Fnd.row)), (5, .var [.i p.fr, .i p.to, .i p.tag, .r (.ro none (p.chunks.map Chunk.row))])], 6, []⟩) (fun _ => True) (fun _ => 0) () trivial (by (refine le_ev [] ?_; simp only [hm, go_sem, ↓reduceIte]; first | done | rfl | exact ⟨rfl, rfl⟩)) ?_
      intro _ _
      unfold pc50l1
      have hix : findIx p.fr p.to m.list = none := by rw [hL]; rfl
      rw [hix]
      simp only [hm, go_sem, ↓reduceIte]
      repeat' first | refine And.intro ?_ ?_ | intro _
      all_goals first
        | omega
        | (refine ⟨_, rfl, ?_⟩; unfold ixI; (refine le_ev [] ?_; simp only [hm, go_sem, ↓reduceIte]; first | done | rfl | exact ⟨rfl, rfl⟩))
    · refine run_wpc _ _ _ _ _ ?_
      simp only [List.cons_append, List.nil_append, List.length_map, hm, go_sem, ↓reduceIte]
      try intro _
      refine run_exit 2 (fun t0 => t0 = ⟨[(2, .ptr 0 0 0), (4, .ptr 1 0 0), (5, .ptr 2 0 0), (8, .ptr 5 0 0), (10, .i (ixI (findIx p.fr p.to m.list)))], [(0, .var [.i m.records, .r (.ro none (m.list.map Assoc.row)), .r (.ro none (m.found.map Fnd.row))]), (1, .var [.i 0, .r .nil, .r .nil]), (2, .var [.i (m.records + 1), .sl 4 0 m.list.length, .sl 3 0 m.found.length]), (3, .row 2 (m.found.map Fnd.row)), (5, .var [.i p.fr, .i p.to, .i p.tag, .r (.ro none (p.chunks.map Chunk.row))]), (4, .row 14 (m.list.map Assoc.row))], 6, []⟩) ?_ (fun t0 h => ⟨_, ⟨.sl 4 0 m.list.length, _, .inr ⟨rfl, rfl⟩, rfl⟩, by rw [h]; exact Le.refl _⟩)
      refine lp_wpc (α := Nat) (fun i => ⟨[(2, .ptr 0 0 0), (4, .ptr 1 0 0), (5, .ptr 2 0 0), (8, .ptr 5 0 0), (10, .i (ixI (findIx p.fr p.to (m.list.take i)))), (71, .sl 4 0 m.list.length), (72, .i m.list.length), (73, .i i)], [(0, .var [.i m.records, .r (.ro none (m.list.map Assoc.row)), .r (.ro none (m.found.map Fnd.row))]), (1, .var [.i 0, .r .nil, .r .nil]), (2, .var [.i (m.records + 1), .sl 4 0 m.list.length, .sl 3 0 m.found.length]), (3, .row 2 (m.found.map Fnd.row)), (5, .var [.i p.fr, .i p.to, .i p.tag, .r (.ro none (p.chunks.map Chunk.row))]), (4, .row 14 (m.list.map Assoc.row))], 6, []⟩)
        (fun i => i ≤ m.list.length) (fun i => m.list.length - i) 0 (Nat.zero_le _) (by rw [show ixI (findIx p.fr p.to (m.list.take 0)) = -1 from rfl]; (refine le_ev [] ?_; simp only [hm, go_sem, ↓reduceIte]; first | done | rfl | exact ⟨rfl, rfl⟩)) ?_
      intro i hi
      unfold pc50l1
      rcases Nat.lt_or_ge i m.list.length with hil | hil
      · have hw : IntKind.i64.wrap ((i : Int) + 1) = ((i + 1 : Nat) : Int) := by rw [wrap64 (by omega) (by omega)]; omega
        have hg := getD_map (f := Assoc.row) hil
        have hft := find_take v3 hil p.fr p.to
        generalize m.list[i] = a at hg hft
        have hsp := s_samePorts a (.ro none (a.a.sent.map Data.row)) (.ro none (a.b.sent.map Data.row)) p.fr p.to
        unfold Assoc.av at hsp
        have hrow : a.row = [.n .i64 a.fr, .n .i64 a.to, .n .i64 a.state, .b a.byB, .n .i64 a.a.tag, .n .i64 a.a.streams, .n .i64 a.a.first, .ro none (a.a.sent.map Data.row), .n .i64 a.a.acked, .n .i64 a.b.tag, .n .i64 a.b.streams, .n .i64 a.b.first, .ro none (a.b.sent.map Data.row), .n .i64 a.b.acked] := rfl
        rw [hrow] at hg
        generalize pairB a p.fr p.to = pb at hsp hft
        simp only [hw, Int.toNat_natCast, List.length_map, hg, hm, go_sem, ↓reduceIte]
        repeat' first
          | refine And.intro ?_ ?_
          | intro _
          | (refine call_pure (hP ▸ hsp) rfl rfl ?_; simp only [hw, Int.toNat_natCast, hg, hm, go_sem, ↓reduceIte])
        all_goals first
          | omega
          | (rename_i hpb; refine ⟨i + 1, hil, by omega, ?_⟩; rw [hft, if_pos hpb]; unfold ixI; (refine le_ev [] ?_; simp only [hm, go_sem, ↓reduceIte]; first | done | rfl | exact ⟨rfl, rfl⟩))
          | (rename_i hpb; refine ⟨i + 1, hil, by omega, ?_⟩; rw [hft, if_neg (by rw [hpb]; decide)]; (refine le_ev [] ?_; simp only [hm, go_sem, ↓reduceIte]; first | done | rfl | exact ⟨rfl, rfl⟩))
      · have : i = m.list.length := by omega
        subst this
        rw [List.take_length]
        simp only [hm, go_sem, ↓reduceIte]
        repeat' first | refine And.intro ?_ ?_ | intro _
        all_goals first
          | omega
          | (refine ⟨_, rfl, ?_⟩; (refine le_ev [] ?_; simp only [hm, go_sem, ↓reduceIte]; first | done | rfl | exact ⟨rfl, rfl⟩))
  rintro t ⟨s, ⟨ls, lh, hls, rfl⟩, hle⟩
  refine run_le hle ?_
  clear hle
  have hpb := hpk
  simp only [packB, Bool.and_eq_true, decide_eq_true_eq, List.all_eq_true, chunkB] at hpb
  have hc0 : 0 < p.chunks.length := by omega
  have hcl : p.chunks.length ≤ 4 := by omega
  refine run_join (fun t => ∃ ls lh L at_, ListR ls lh L ∧ t = ⟨[(2, .ptr 0 0 0), (4, .ptr 1 0 0), (5, .ptr 2 0 0), (8, .ptr 5 0 0), (10, .i (ixI at_))], [(0, .var [.i m.records, .r (.ro none (m.list.map Assoc.row)), .r (.ro none (m.found.map Fnd.row))]), (1, .var [.i 0, .r .nil, .r .nil]), (2, .var [.i (m.records + 1), ls, .sl 3 0 m.found.length]), (3, .row 2 (m.found.map Fnd.row)), (5, .var [.i p.fr, .i p.to, .i p.tag, .r (.ro none (p.chunks.map Chunk.row))])] ++ lh, 6, []⟩ ∧ L.length ≤ 3 ∧ ((at_ = none ∧ R = beginMon ⟨m.records + 1, L, m.found⟩ p) ∨ ∃ k, at_ = some k ∧ L = m.list ∧ k < m.list.length ∧ pairB (assocAt m.list k) p.fr p.to = true ∧ R = note ⟨m.records + 1, m.list.set k (assocStep (assocAt m.list k) p).1, m.found⟩ (assocStep (assocAt m.list k) p).2)) (run_wpc _ _ _ _ _ ?_) ?_
  · cases hfx : findIx p.fr p.to m.list with
    | none =>
      rw [hfx] at hR
      simp only at hR
      rw [show ixI none = -1 from rfl]
      rcases hls with ⟨rfl, rfl, hL⟩ | ⟨rfl, rfl⟩
      all_goals
        simp only [List.append_nil, List.cons_append, List.nil_append, hm, go_sem, ↓reduceIte]
        repeat' first | refine And.intro ?_ ?_ | intro _
      all_goals first
        | omega
        | (refine ⟨_, ⟨.r .nil, [], m.list, none, .inl ⟨rfl, rfl, hL⟩, rfl, v2, .inl ⟨rfl, hR.symm⟩⟩, ?_⟩; unfold ixI; (refine le_ev [] ?_; simp only [hm, go_sem, ↓reduceIte]; first | done | rfl | exact ⟨rfl, rfl⟩))
        | (refine ⟨_, ⟨.sl 4 0 m.list.length, _, m.list, none, .inr ⟨rfl, rfl⟩, rfl, v2, .inl ⟨rfl, hR.symm⟩⟩, ?_⟩; unfold ixI; (refine le_ev [] ?_; simp only [hm, go_sem, ↓reduceIte]; first | done | rfl | exact ⟨rfl, rfl⟩))
    | some k =>
      rw [hfx] at hR
      simp only at hR
      obtain ⟨hk, hkp⟩ := findIx_lt hfx
      rw [show ixI (some k) = (k : Int) from rfl]
      rcases hls with ⟨rfl, rfl, hL⟩ | ⟨rfl, rfl⟩
      · rw [hL] at hk; exact absurd hk (Nat.not_lt_zero _)
      have hg := getD_map (f := Assoc.row) hk
      have hg0 := getD_map (f := Chunk.row) hc0
      have hbo := (hpb.2 _ (List.getElem_mem hc0)).2
      have hag : againB (assocAt m.list k) p = true ↔ (assocAt m.list k).state = 7 ∧ p.tag = 0 ∧ p.chunks.length = 1 ∧ (p.chunks[0]).kind = 1 ∧ (initGet p.chunks[0]).isSome = true := by
        have hk0 : kind0 p = (p.chunks[0]).kind := by unfold kind0; simp [List.getD_eq_getElem?_getD, hc0]
        have hc1 : p.chunks.getD 0 default = p.chunks[0] := by simp [List.getD_eq_getElem?_getD, hc0]
        unfold againB
        rw [hk0, hc1]
        simp only [Bool.and_eq_true, decide_eq_true_eq]
        constructor
        · rintro ⟨⟨⟨⟨a1, a2⟩, a3⟩, a4⟩, a5⟩
          refine ⟨a1, a4, ?_, a2, a5⟩
          unfold aloneB at a3
          rw [hpk] at a3
          simp only [Bool.true_and, Bool.or_eq_true, decide_eq_true_eq, List.all_eq_true] at a3
          rcases a3 with h | h
          · exact h
          · have := h _ (List.getElem_mem hc0)
            rw [a2] at this
            exact absurd this (by decide)
        · rintro ⟨a1, a2, a3, a4, a5⟩
          refine ⟨⟨⟨⟨a1, a4⟩, ?_⟩, a2⟩, a5⟩
          unfold aloneB
          rw [hpk, decide_eq_true a3]
          rfl
      have hat := assocAt_eq hk
      rw [hat] at hR hag hkp
      generalize hka : m.list[k] = a at hg hag hR hkp
      generalize p.chunks[0] = q at hg0 hag hbo
      have hig := s_implInitGet q (by omega)
      unfold Chunk.av Init.av at hig
      have hrow : a.row = [.n .i64 a.fr, .n .i64 a.to, .n .i64 a.state, .b a.byB, .n .i64 a.a.tag, .n .i64 a.a.streams, .n .i64 a.a.first, .ro none (a.a.sent.map Data.row), .n .i64 a.a.acked, .n .i64 a.b.tag, .n .i64 a.b.streams, .n .i64 a.b.first, .ro none (a.b.sent.map Data.row), .n .i64 a.b.acked] := rfl
      rw [hrow] at hg
      have hw : IntKind.i64.wrap ((k : Int) + 1) = ((k + 1 : Nat) : Int) := by rw [wrap64 (by omega) (by omega)]; omega
      have h00 : (0 : Int).toNat = 0 := rfl
      have hdl : (k - 0 + (List.take (m.list.length - (k + 1)) (List.drop (k + 1) (m.list.map Assoc.row))).length) = m.list.length - 1 := by rw [List.length_take, List.length_drop, List.length_map]; omega
      have hdr : List.take (k - 0) (m.list.map Assoc.row) ++ List.take (m.list.length - (k + 1)) (List.drop (k + 1) (m.list.map Assoc.row)) = (dropAt m.list k).map Assoc.row := by
        unfold dropAt
        rw [List.map_append, List.map_take, List.map_drop, Nat.sub_zero, List.take_of_length_le (i := m.list.length - (k + 1)) (by rw [List.length_drop, List.length_map]; omega)]
      have hdn0 : (dropAt m.list k).length = m.list.length - 1 := by unfold dropAt; rw [List.length_append, List.length_take, List.length_drop]; omega
      have hdl2 : (k - 0 + (List.take (m.list.length - (k + 1)) (List.drop (k + 1) (m.list.map Assoc.row))).length) = (dropAt m.list k).length := by rw [hdl, hdn0]
      have hdn : (dropAt m.list k).length ≤ 3 := by omega
      simp only [List.cons_append, List.nil_append, hw, Int.toNat_natCast, h00, hg, hg0, Chunk.row, List.length_map, hm, go_sem, ↓reduceIte]
      repeat' first
        | refine And.intro ?_ ?_
        | intro _
        | (refine call_pure (hP ▸ hig) rfl rfl ?_; simp only [hw, Int.toNat_natCast, h00, hg, hg0, List.length_map, hm, go_sem, ↓reduceIte])
      all_goals first
        | omega
        | (refine ⟨_, ⟨.sl 4 0 m.list.length, _, m.list, some k, .inr ⟨rfl, rfl⟩, rfl, v2, .inr ⟨k, rfl, rfl, hk, by rw [hat, hka]; exact hkp, ?_⟩⟩, ?_⟩
           · rw [← hR, if_neg (fun h => by have := hag.1 h; first | omega | (simp_all; done)), hat, hka]
           · unfold ixI; (refine le_ev [] ?_; simp only [hm, go_sem, ↓reduceIte]; first | done | rfl | exact ⟨rfl, rfl⟩))
        | (rw [hdl]; omega)
        | (rw [hdr, hdl2]
           refine ⟨_, ⟨.sl 4 0 (dropAt m.list k).length, _, dropAt m.list k, none, .inr ⟨rfl, rfl⟩, rfl, hdn, .inl ⟨rfl, ?_⟩⟩, ?_⟩
           · rw [← hR, if_pos (hag.2 ⟨by omega, by omega, by omega, by omega, by assumption⟩)]
           · unfold ixI; (refine le_ev [] ?_; simp only [hm, go_sem, ↓reduceIte]; first | done | rfl | exact ⟨rfl, rfl⟩))
  rintro t ⟨ls, lh, L, at_, hls, rfl, hL3, hW⟩
  clear hR
  refine run_join (fun t => ∃ ls lh, ListR ls lh L ∧ t = ⟨[(2, .ptr 0 0 0), (4, .ptr 1 0 0), (5, .ptr 2 0 0), (8, .ptr 5 0 0), (10, .i (ixI at_)), (15, .sl 6 0 0)], [(0, .var [.i m.records, .r (.ro none (m.list.map Assoc.row)), .r (.ro none (m.found.map Fnd.row))]), (1, .var [.i 0, .r .nil, .r .nil]), (2, .var [.i (m.records + 1), ls, .sl 3 0 m.found.length]), (3, .row 2 (m.found.map Fnd.row)), (5, .var [.i p.fr, .i p.to, .i p.tag, .r (.ro none (p.chunks.map Chunk.row))]), (6, .row 1 [])] ++ lh, 7, []⟩) (run_wpc _ _ _ _ _ ?_) ?_
  · rcases hls with ⟨rfl, rfl, hL⟩ | ⟨rfl, rfl⟩
    all_goals
      simp only [List.append_nil, List.cons_append, List.nil_append, hm, go_sem, ↓reduceIte]
    all_goals first
      | (refine ⟨_, ⟨.r .nil, [], .inl ⟨rfl, rfl, hL⟩, rfl⟩, ?_⟩; (refine le_ev [] ?_; simp only [hm, go_sem, ↓reduceIte]; first | done | rfl | exact ⟨rfl, rfl⟩))
      | (refine ⟨_, ⟨.sl 4 0 L.length, _, .inr ⟨rfl, rfl⟩, rfl⟩, ?_⟩; (refine le_ev [] ?_; simp only [hm, go_sem, ↓reduceIte]; first | done | rfl | exact ⟨rfl, rfl⟩))
  rintro t ⟨ls, lh, hls, rfl⟩
  have hg0 := getD_map (f := Chunk.row) hc0
  have hk0 : kind0 p = (p.chunks[0]).kind := by unfold kind0; simp [List.getD_eq_getElem?_getD, hc0]
  generalize p.chunks[0] = q at hg0 hk0
  have h00 : (0 : Int).toNat = 0 := rfl
  refine run_join (fun t => ∃ ls lh L rules, ListR ls lh L ∧ t = ⟨[(2, .ptr 0 0 0), (4, .ptr 1 0 0), (5, .ptr 2 0 0), (15, .r (.ro none (rules.map intRow)))], [(0, .var [.i m.records, .r (.ro none (m.list.map Assoc.row)), .r (.ro none (m.found.map Fnd.row))]), (1, .var [.i 0, .r .nil, .r .nil]), (2, .var [.i (m.records + 1), ls, .sl 3 0 m.found.length]), (3, .row 2 (m.found.map Fnd.row))] ++ lh, 5, []⟩ ∧ rules.length ≤ 1000 ∧ R = ⟨m.records + 1, L, m.found ++ notesOf m.records rules⟩) (run_wpc _ _ _ _ _ ?_) ?_
  · rcases hW with ⟨rfl, hR⟩ | ⟨k, rfl, rfl, hk, hkp, hR⟩
    · rw [show ixI none = -1 from rfl]
      unfold beginMon at hR
      simp only at hR
      rw [hk0] at hR
      by_cases hkd : q.kind = 1
      · rw [if_neg (fun h => h hkd)] at hR
        have hrl := rules_len ⟨p.fr, p.to, 0, false, noSide, noSide⟩ p
        have hst := s_implAssocStepN ⟨p.fr, p.to, 0, false, noSide, noSide⟩ p noSide_fit noSide_fit (step_no (new_assoc hpk) hpk (.inl ⟨rfl, rfl⟩))
        generalize assocStep ⟨p.fr, p.to, 0, false, noSide, noSide⟩ p = x at hst hR hrl
        obtain ⟨o, rs⟩ := x
        simp only at hst hR hrl
        have huo : o.ro = .agg o.cellsA := rfl
        have hu : Assoc.ro ⟨p.fr, p.to, 0, false, noSide, noSide⟩ = .agg [.i p.fr, .i p.to, .i 0, .bo false, .i 0, .i 0, .i 0, .r (.ro none []), .i 0, .i 0, .i 0, .i 0, .r (.ro none []), .i 0] := rfl
        rw [hu, huo] at hst
        unfold Assoc.cellsA Packet.ro at hst
        cases hrs : rs with
        | nil =>
          subst hrs
          rw [show rulesA [] = .r .nil from rfl] at hst
          rw [if_neg (by decide)] at hR
          by_cases h3 : 3 ≤ L.length
          · rw [if_pos h3, note_eq] at hR
            rcases hls with ⟨rfl, rfl, hL⟩ | ⟨rfl, rfl⟩
            · rw [hL] at h3; exact absurd h3 (by decide)
            simp only [List.append_nil, List.cons_append, List.nil_append, h00, hg0, Chunk.row, hm, go_sem, ↓reduceIte]
            repeat' first
              | refine And.intro ?_ ?_
              | intro _
              | (refine call_denil ?_; simp only [hm, go_sem, ↓reduceIte]; refine call_dataP (hP ▸ hst) rfl rfl ?_; simp only [h00, hg0, hm, go_sem, ↓reduceIte])
            all_goals first
              | omega
              | (refine ⟨_, ⟨.sl 4 0 L.length, _, L, [105], .inr ⟨rfl, rfl⟩, rfl, by simp, hR⟩, ?_⟩
                 refine Le.trans (le_frz 9 rfl (by simp only [List.length_cons, List.length_nil, go_sem, ↓reduceIte]) (by simp only [go_sem, ↓reduceIte])) ?_
                 simp only [List.map_cons, List.map_nil, intRow, List.length_cons, List.length_nil, List.drop_zero, List.take_succ_cons, List.take_nil, List.take_zero, go_sem, ↓reduceIte]
                 (refine le_ev [] ?_; simp only [hm, go_sem, ↓reduceIte]; first | done | rfl | exact ⟨rfl, rfl⟩))
          · rw [if_neg h3] at hR
            have hR2 : R = ⟨m.records + 1, L ++ [o], m.found ++ notesOf m.records []⟩ := by rw [hR]; simp [notesOf]
            have hrow : o.row = [.n .i64 o.fr, .n .i64 o.to, .n .i64 o.state, .b o.byB, .n .i64 o.a.tag, .n .i64 o.a.streams, .n .i64 o.a.first, .ro none (o.a.sent.map Data.row), .n .i64 o.a.acked, .n .i64 o.b.tag, .n .i64 o.b.streams, .n .i64 o.b.first, .ro none (o.b.sent.map Data.row), .n .i64 o.b.acked] := rfl
            have hmap : (L ++ [o]).map Assoc.row = L.map Assoc.row ++ [[.n .i64 o.fr, .n .i64 o.to, .n .i64 o.state, .b o.byB, .n .i64 o.a.tag, .n .i64 o.a.streams, .n .i64 o.a.first, .ro none (o.a.sent.map Data.row), .n .i64 o.a.acked, .n .i64 o.b.tag, .n .i64 o.b.streams, .n .i64 o.b.first, .ro none (o.b.sent.map Data.row), .n .i64 o.b.acked]] := by rw [List.map_append]; rfl
            have hlen : (L ++ [o]).length = L.length + 1 := by simp
            rcases hls with ⟨rfl, rfl, hL⟩ | ⟨rfl, rfl⟩
            all_goals
              simp only [List.append_nil, List.cons_append, List.nil_append, h00, hg0, Chunk.row, take_map_len, List.length_map, hm, go_sem, ↓reduceIte]
              repeat' first
                | refine And.intro ?_ ?_
                | intro _
                | (refine call_denil ?_; simp only [hm, go_sem, ↓reduceIte]; refine call_dataP (hP ▸ hst) rfl rfl ?_; simp only [h00, hg0, take_map_len, List.length_map, hm, go_sem, ↓reduceIte])
            all_goals first
              | omega
              | (refine ⟨_, ⟨.sl 4 0 (L ++ [o]).length, _, L ++ [o], [], .inr ⟨rfl, rfl⟩, rfl, by simp, hR2⟩, ?_⟩
                 refine Le.trans (t := ⟨[(2, .ptr 0 0 0), (4, .ptr 1 0 0), (5, .ptr 2 0 0), (15, .r .nil)], [(0, .var [.i m.records, .r (.ro none (m.list.map Assoc.row)), .r (.ro none (m.found.map Fnd.row))]), (1, .var [.i 0, .r .nil, .r .nil]), (2, .var [.i (m.records + 1), .sl 4 0 (L ++ [o]).length, .sl 3 0 m.found.length]), (3, .row 2 (m.found.map Fnd.row)), (4, .row 14 ((L ++ [o]).map Assoc.row))], 5, []⟩) (by rw [hmap, hlen]; (refine le_ev [] ?_; simp only [hm, go_sem, ↓reduceIte]; first | done | rfl | exact ⟨rfl, rfl⟩)) ?_
                 exact le_denilS)
              | (refine ⟨_, ⟨.sl 4 0 (L ++ [o]).length, _, L ++ [o], [], .inr ⟨rfl, rfl⟩, rfl, by simp, hR2⟩, ?_⟩
                 refine Le.trans (t := ⟨[(2, .ptr 0 0 0), (4, .ptr 1 0 0), (5, .ptr 2 0 0), (15, .r .nil)], [(0, .var [.i m.records, .r (.ro none (m.list.map Assoc.row)), .r (.ro none (m.found.map Fnd.row))]), (1, .var [.i 0, .r .nil, .r .nil]), (2, .var [.i (m.records + 1), .sl 4 0 (L ++ [o]).length, .sl 3 0 m.found.length]), (3, .row 2 (m.found.map Fnd.row)), (4, .row 14 ((L ++ [o]).map Assoc.row))], 5, []⟩) (by rw [hmap, hlen, hL]; simp only [List.map_nil, List.nil_append, List.length_nil]; (refine le_ev [(4, 9)] ?_; simp only [hm, go_sem, ↓reduceIte]; first | done | rfl | exact ⟨rfl, rfl⟩)) ?_
                 exact le_denilS)
        | cons r0 rs0 =>
          have hra : rulesA rs = .r (.ro none (rs.map intRow)) := by rw [hrs]; rfl
          have hne : rs.isEmpty = false := by rw [hrs]; rfl
          have hnl : rs.length ≠ 0 := by rw [hrs]; simp
          rw [hra] at hst
          rw [hne, if_pos (by decide), note_eq] at hR
          clear hra hrs
          rcases hls with ⟨rfl, rfl, hL⟩ | ⟨rfl, rfl⟩
          all_goals
            simp only [List.append_nil, List.cons_append, List.nil_append, h00, hg0, Chunk.row, hm, go_sem, ↓reduceIte]
            repeat' first
              | refine And.intro ?_ ?_
              | intro _
              | (refine call_denil ?_; simp only [hm, go_sem, ↓reduceIte]; refine call_dataP (hP ▸ hst) rfl rfl ?_; simp only [h00, hg0, hm, go_sem, ↓reduceIte])
          all_goals first
            | omega
            | (refine ⟨_, ⟨.r .nil, [], L, rs, .inl ⟨rfl, rfl, hL⟩, rfl, by omega, hR⟩, ?_⟩; (refine le_ev [] ?_; simp only [hm, go_sem, ↓reduceIte]; first | done | rfl | exact ⟨rfl, rfl⟩))
            | (refine ⟨_, ⟨.sl 4 0 L.length, _, L, rs, .inr ⟨rfl, rfl⟩, rfl, by omega, hR⟩, ?_⟩; (refine le_ev [] ?_; simp only [hm, go_sem, ↓reduceIte]; first | done | rfl | exact ⟨rfl, rfl⟩))
      · rw [if_pos hkd, note_eq] at hR
        rcases hls with ⟨rfl, rfl, hL⟩ | ⟨rfl, rfl⟩
        all_goals
          simp only [List.append_nil, List.cons_append, List.nil_append, h00, hg0, Chunk.row, hm, go_sem, ↓reduceIte]
          repeat' first
            | refine And.intro ?_ ?_
            | intro _
        all_goals first
          | omega
          | (first
             | (refine ⟨_, ⟨.r .nil, [], L, [104], .inl ⟨rfl, rfl, hL⟩, rfl, by simp, hR⟩, ?_⟩
                refine Le.trans (le_frz 6 rfl (by simp only [List.length_cons, List.length_nil, go_sem, ↓reduceIte]) (by simp only [go_sem, ↓reduceIte])) ?_
                simp only [List.map_cons, List.map_nil, intRow, List.length_cons, List.length_nil, List.drop_zero, List.take_succ_cons, List.take_nil, List.take_zero, go_sem, ↓reduceIte]
                (refine le_ev [] ?_; simp only [hm, go_sem, ↓reduceIte]; first | done | rfl | exact ⟨rfl, rfl⟩))
             | (refine ⟨_, ⟨.sl 4 0 L.length, _, L, [104], .inr ⟨rfl, rfl⟩, rfl, by simp, hR⟩, ?_⟩
                refine Le.trans (le_frz 6 rfl (by simp only [List.length_cons, List.length_nil, go_sem, ↓reduceIte]) (by simp only [go_sem, ↓reduceIte])) ?_
                simp only [List.map_cons, List.map_nil, intRow, List.length_cons, List.length_nil, List.drop_zero, List.take_succ_cons, List.take_nil, List.take_zero, go_sem, ↓reduceIte]
                (refine le_ev [] ?_; simp only [hm, go_sem, ↓reduceIte]; first | done | rfl | exact ⟨rfl, rfl⟩))
            )
    · rcases hls with ⟨rfl, rfl, hL⟩ | ⟨rfl, rfl⟩
      · rw [hL] at hk; exact absurd hk (Nat.not_lt_zero _)
      have hg := getD_map (f := Assoc.row) hk
      rw [assocAt_eq hk] at hkp hR
      have hav := hsv _ (List.getElem_mem hk)
      obtain ⟨hfa, hfb⟩ := hf.a _ (List.getElem_mem hk)
      generalize m.list[k] = a at hg hkp hR hav hfa hfb
      simp only [pairB, decide_eq_true_eq] at hkp
      have hst := s_implAssocStepN a p hfa hfb (step_no hav hpk (by omega))
      have hrl := rules_len a p
      generalize assocStep a p = x at hst hR hrl
      obtain ⟨o, rs⟩ := x
      simp only at hst hR hrl
      have hu : a.ro = .agg a.cellsA := rfl
      have huo : o.ro = .agg o.cellsA := rfl
      rw [hu, huo] at hst
      unfold Assoc.cellsA Packet.ro at hst
      have hrow : a.row = [.n .i64 a.fr, .n .i64 a.to, .n .i64 a.state, .b a.byB, .n .i64 a.a.tag, .n .i64 a.a.streams, .n .i64 a.a.first, .ro none (a.a.sent.map Data.row), .n .i64 a.a.acked, .n .i64 a.b.tag, .n .i64 a.b.streams, .n .i64 a.b.first, .ro none (a.b.sent.map Data.row), .n .i64 a.b.acked] := rfl
      rw [hrow] at hg
      rw [show ixI (some k) = (k : Int) from rfl]
      have hset : (m.list.map Assoc.row).set k [.n .i64 o.fr, .n .i64 o.to, .n .i64 o.state, .b o.byB, .n .i64 o.a.tag, .n .i64 o.a.streams, .n .i64 o.a.first, .ro none (o.a.sent.map Data.row), .n .i64 o.a.acked, .n .i64 o.b.tag, .n .i64 o.b.streams, .n .i64 o.b.first, .ro none (o.b.sent.map Data.row), .n .i64 o.b.acked] = (m.list.set k o).map Assoc.row := by rw [List.map_set]; rfl
      have hsl : (m.list.set k o).length = m.list.length := List.length_set
      rw [note_eq] at hR
      cases hrs : rs with
      | nil =>
        subst hrs
        rw [show rulesA [] = .r .nil from rfl] at hst
        simp only [List.cons_append, List.nil_append, Int.toNat_natCast, hg, List.length_map, hm, go_sem, ↓reduceIte]
        repeat' first
          | refine And.intro ?_ ?_
          | intro _
          | (refine call_dataP (hP ▸ hst) rfl rfl ?_; simp only [Int.toNat_natCast, hg, List.length_map, hm, go_sem, ↓reduceIte])
        all_goals first
          | omega
          | (rw [hset, ← hsl]
             refine ⟨_, ⟨.sl 4 0 (m.list.set k o).length, _, m.list.set k o, [], .inr ⟨rfl, rfl⟩, rfl, by simp, hR⟩, ?_⟩
             refine Le.trans (t := ⟨[(2, .ptr 0 0 0), (4, .ptr 1 0 0), (5, .ptr 2 0 0), (15, .r .nil)], [(0, .var [.i m.records, .r (.ro none (m.list.map Assoc.row)), .r (.ro none (m.found.map Fnd.row))]), (1, .var [.i 0, .r .nil, .r .nil]), (2, .var [.i (m.records + 1), .sl 4 0 (m.list.set k o).length, .sl 3 0 m.found.length]), (3, .row 2 (m.found.map Fnd.row)), (4, .row 14 ((m.list.set k o).map Assoc.row))], 5, []⟩) (by (refine le_ev [] ?_; simp only [hm, go_sem, ↓reduceIte]; first | done | rfl | exact ⟨rfl, rfl⟩)) ?_
             exact le_denilS)
      | cons r0 rs0 =>
        have hra : rulesA rs = .r (.ro none (rs.map intRow)) := by rw [hrs]; rfl
        rw [hra] at hst
        clear hra hrs
        simp only [List.cons_append, List.nil_append, Int.toNat_natCast, hg, List.length_map, hm, go_sem, ↓reduceIte]
        repeat' first
          | refine And.intro ?_ ?_
          | intro _
          | (refine call_dataP (hP ▸ hst) rfl rfl ?_; simp only [Int.toNat_natCast, hg, List.length_map, hm, go_sem, ↓reduceIte])
        all_goals first
          | omega
          | (rw [hset, ← hsl]
             refine ⟨_, ⟨.sl 4 0 (m.list.set k o).length, _, m.list.set k o, rs, .inr ⟨rfl, rfl⟩, rfl, by omega, hR⟩, ?_⟩
             (refine le_ev [] ?_; simp only [hm, go_sem, ↓reduceIte]; first | done | rfl | exact ⟨rfl, rfl⟩))
  rintro t ⟨ls, lh, L, rules, hls, rfl, hrl, hR⟩
  obtain ⟨G, hG⟩ : ∃ G, G = m.found ++ notesOf m.records rules := ⟨_, rfl⟩
  rw [← hG] at hR
  refine run_seq ?_
  refine run_mono (n := fun t => ∃ s, (∃ ls lh, ListR ls lh L ∧ s = ⟨[(4, .ptr 1 0 0), (5, .ptr 2 0 0)], [(1, .var [.i 0, .r .nil, .r .nil]), (2, .var [.i (m.records + 1), ls, .sl 3 0 G.length]), (3, .row 2 (G.map Fnd.row))] ++ lh, 5, []⟩) ∧ Le c t s) (x := fun _ _ => False) (r := fun _ => False) ?_ ?_ (fun _ _ h => h.elim) (fun _ h => h.elim)
  · rcases hls with ⟨rfl, rfl, hL⟩ | ⟨rfl, rfl⟩
    · refine run_wpc _ _ _ _ _ ?_
      simp only [List.append_nil, hm, go_sem, ↓reduceIte]
      intro _
      refine note_loop hP hm m.records rules hrl (.ro none (m.list.map Assoc.row)) (.ro none (m.found.map Fnd.row)) m.found (by omega) (L := L) (.inl ⟨rfl, rfl, hL⟩) (by simp only [List.append_nil]; (refine le_ev [] ?_; simp only [hm, go_sem, ↓reduceIte]; first | done | rfl | exact ⟨rfl, rfl⟩)) ?_
      exact ⟨_, ⟨.r .nil, [], .inl ⟨rfl, rfl, hL⟩, rfl⟩, by rw [hG]; exact Le.refl _⟩
    · refine run_wpc _ _ _ _ _ ?_
      simp only [List.cons_append, List.nil_append, hm, go_sem, ↓reduceIte]
      intro _
      refine note_loop hP hm m.records rules hrl (.ro none (m.list.map Assoc.row)) (.ro none (m.found.map Fnd.row)) m.found (by omega) (L := L) (.inr ⟨rfl, rfl⟩) (by simp only [List.cons_append, List.nil_append]; (refine le_ev [] ?_; simp only [hm, go_sem, ↓reduceIte]; first | done | rfl | exact ⟨rfl, rfl⟩)) ?_
      exact ⟨_, ⟨.sl 4 0 L.length, _, .inr ⟨rfl, rfl⟩, rfl⟩, by rw [hG]; exact Le.refl _⟩
  rintro t ⟨s, ⟨ls, lh, hls, rfl⟩, hle⟩
  refine run_le hle ?_
  rw [hR]
  clear hG
  refine run_wpc _ _ _ _ _ ?_
  rcases hls with ⟨rfl, rfl, hL⟩ | ⟨rfl, rfl⟩
  · simp only [List.append_nil, hm, go_sem, ↓reduceIte]
    exact ⟨.inr (.inl ⟨hL, 3, rfl, rfl⟩)⟩
  · simp only [List.cons_append, List.nil_append, hm, go_sem, ↓reduceIte]
    exact ⟨.inr (.inr ⟨3, 4, by decide, rfl, rfl, rfl⟩)⟩
end Go.Cap

/- Plain facts: the steps of a talk. -/
namespace Go.Cap
open Go Go.Proofs
set_option linter.unusedSimpArgs false
set_option linter.unusedVariables false

theorem one_rules {a : Assoc} {byB : Bool} {p : Packet} {c : Chunk} (hp : packB p = true) (hc : p.chunks = [c]) (ht : p.tag = tagOf a byB p) (r : Int) : brokenB a byB p [r] = fun (k : Nat) => [r].contains (k : Int) := by
  funext k
  have ha : aloneB p = true := by unfold aloneB; rw [hp, hc]; rfl
  unfold brokenB
  rw [ha, decide_eq_false (fun h => h ht)]
  simp
theorem rules_zero : rulesOf (fun (k : Nat) => [(0 : Int)].contains (k : Int)) = [] := by decide
theorem rules_nine : rulesOf (fun (k : Nat) => [(9 : Int)].contains (k : Int)) = [9] := by decide
theorem step_one {a : Assoc} {p : Packet} {c : Chunk} {byB : Bool} {a' : Assoc} {r : Int} (ha : assocB a = true) (hp : packB p = true) (hc : p.chunks = [c]) (hb : byBOf a p = byB) (hpt : byB = true ∨ (p.fr = a.fr ∧ p.to = a.to)) (ht : p.tag = tagOf a byB p) (hs : stepChunk a byB c = (a', r)) :
    (r = 0 → assocStep a p = (a', [])) ∧ (r = 9 → assocStep a p = (a, [9])) := by
  have hno : ¬ ((!assocB a || !packB p || (!byBOf a p && decide (p.fr ≠ a.fr ∨ p.to ≠ a.to))) = true) := by
    rw [ha, hp, hb]
    rcases hpt with rfl | ⟨h1, h2⟩
    · simp
    · simp [h1, h2]
  unfold assocStep
  rw [if_neg hno, hb]
  simp only [hc, stepChunks, hs, List.nil_append, one_rules hp hc ht]
  exact ⟨fun h => by subst h; rw [rules_zero]; rfl, fun h => by subst h; rw [rules_nine]; rfl⟩
theorem one_step {t : Talk} {a a' : Assoc} {b : Bool} {c : Chunk} {r : Int} (hv : talkB t = true) (hf : a.fr = t.fr) (ht : a.to = t.to) (ha : assocB a = true) (hc : chunkB c = true) (hk : c.kind ≠ 1) (hg : (a.other b).tag = (t.init (!b)).tag) (hs : stepChunk a b c = (a', r)) :
    (r = 0 → assocStep a (onePk t b c) = (a', [])) ∧ (r = 9 → assocStep a (onePk t b c) = (a, [9])) := by
  obtain ⟨h1, h2, h3, h4, h5⟩ := talk_head hv
  have hch : (onePk t b c).chunks = [c] := by cases b <;> rfl
  refine step_one ha (one_ok hv b hc) hch (byB := b) ?_ ?_ ?_ hs
  · unfold byBOf onePk
    cases b
    · simp only [Bool.false_eq_true, if_false, hf, ht, decide_eq_false_iff_not]; omega
    · simp [hf, ht]
  · cases b
    · exact .inr ⟨hf.symm, ht.symm⟩
    · exact .inl rfl
  · unfold tagOf
    rw [hch]
    simp only [List.any_cons, List.any_nil, Bool.or_false, decide_eq_true_eq]
    rw [if_neg hk, hg]
    cases b <;> rfl
/-- Both sides after some parts were heard. -/
def sAt (t : Talk) (b : Bool) (j : Nat) : Side := ⟨(t.init b).tag, (t.init b).streams, (t.init b).tsn, sideL b (t.all.take j), (sideL b (t.all.take j)).length⟩
def aAt (t : Talk) (j : Nat) : Assoc := ⟨t.fr, t.to, 4, false, sAt t false j, sAt t true j⟩
theorem init_tag {t : Talk} (hv : talkB t = true) (b : Bool) : 1 ≤ (t.init b).tag ∧ (t.init b).tag ≤ 4294967295 := by
  obtain ⟨_, _, _, h4, h5⟩ := talk_head hv
  cases b
  · exact h4
  · exact h5
theorem side_pre {t : Talk} (hv : talkB t = true) (b : Bool) (j : Nat) : ∃ r, talkParts t b = sideL b (t.all.take j) ++ r := by
  refine ⟨sideL b (t.all.drop j), ?_⟩
  rw [← sideL_app, List.take_append_drop, talk_side hv]
theorem talk_part {t : Talk} (hv : talkB t = true) (b : Bool) : (serialB (t.init b).tsn = true ∧ 1 ≤ (t.init b).streams ∧ (t.init b).streams ≤ 4) ∧ ∀ k (hk : k < (talkParts t b).length), partB l3 (talkSide t b) k (talkParts t b)[k] = true := by
  have h := talkSide_ok hv b
  have ht := (init_tag hv b).1
  unfold sideB at h
  rw [if_neg (by simp only [talkSide]; omega)] at h
  simp only [Bool.and_eq_true] at h
  obtain ⟨h1, h2⟩ := h
  simp only [headB, Bool.and_eq_true, decide_eq_true_eq] at h1
  refine ⟨⟨h1.1.1.2, h1.1.1.1.2⟩, fun k hk => ?_⟩
  have := sideLoop_may _ 0 h2 k hk
  rw [Nat.zero_add] at this
  exact this
structure NextP (t : Talk) (j : Nat) (b : Bool) (d : Data) : Prop where
  data : dataB d = true
  app : sideL b (t.all.take (j + 1)) = sideL b (t.all.take j) ++ [d]
  other : sideL (!b) (t.all.take (j + 1)) = sideL (!b) (t.all.take j)
  tsn : d.tsn = l3 (t.init b).tsn (sideL b (t.all.take j)).length
  stream : d.stream < (t.init b).streams
  may : mayB (sideL b (t.all.take j)) d = true
  len : (sideL b (t.all.take j)).length < 12
  first : 0 ≤ (t.init b).tsn ∧ (t.init b).tsn < 65536
theorem nextP {t : Talk} (hv : talkB t = true) {j : Nat} (hj : j < t.all.length) : NextP t j (t.all[j]).1 (t.all[j]).2 := by
  generalize hx : t.all[j] = x
  obtain ⟨b, d⟩ := x
  have e1 : sideL b (t.all.take (j + 1)) = sideL b (t.all.take j) ++ [d] := by rw [take_get hj, hx, sideL_app]; simp [sideL]
  have e2 : sideL (!b) (t.all.take (j + 1)) = sideL (!b) (t.all.take j) := by rw [take_get hj, hx, sideL_app]; simp [sideL]
  obtain ⟨r, hr⟩ := side_pre hv b (j + 1)
  rw [e1, List.append_assoc] at hr
  obtain ⟨⟨h1, h2⟩, h3⟩ := talk_part hv b
  have h12 := talkParts_12 t b hv
  have hlt : (sideL b (t.all.take j)).length < (talkParts t b).length := by rw [hr]; simp
  have hp := h3 _ hlt
  have hg : (talkParts t b)[(sideL b (t.all.take j)).length]? = some d := by rw [hr]; simp
  obtain ⟨_, hd⟩ := List.getElem?_eq_some_iff.1 hg
  have htake : (talkParts t b).take (sideL b (t.all.take j)).length = sideL b (t.all.take j) := by rw [hr]; simp
  simp only [partB, Bool.and_eq_true, beq_iff_eq, decide_eq_true_eq] at hp
  simp only [talkSide] at hp
  rw [hd, htake] at hp
  obtain ⟨⟨⟨p1, p2⟩, p3⟩, p4⟩ := hp
  unfold serialB at h1
  exact ⟨p1, e1, e2, p2, p3, p4, by simp only; omega, by simpa using h1⟩
def aMid (t : Talk) (j : Nat) (b : Bool) : Assoc := (aAt t j).put b ⟨(t.init b).tag, (t.init b).streams, (t.init b).tsn, sideL b (t.all.take (j + 1)), (sideL b (t.all.take j)).length⟩
theorem NextP.k {t : Talk} {j : Nat} {b : Bool} {d : Data} (h : NextP t j b d) : l3 d.tsn (-(t.init b).tsn) = (sideL b (t.all.take j)).length := by
  rw [h.tsn]
  have h1 := h.first
  have h2 := h.len
  unfold l3
  omega
theorem step_data {t : Talk} {j : Nat} {b : Bool} {d : Data} (h : NextP t j b d) : stepChunk (aAt t j) b (dataPut d) = (aMid t j b, 0) := by
  have ho : (aAt t j).own b = sAt t b j := by cases b <;> rfl
  have hkind : (dataPut d).kind = 0 := rfl
  have hst : (aAt t j).state = 4 := rfl
  unfold stepChunk
  rw [if_neg (by rw [hkind]; decide), if_pos hkind]
  unfold stepData
  simp only [ho, data_get h.data, hst, decide_true, Bool.true_or, Bool.not_true, Bool.false_eq_true, if_false]
  unfold aMid
  simp only [sAt, h.k, Int.lt_irrefl, if_false, Int.not_le.2 h.stream, h.may, Nat.not_le.2 h.len, Bool.not_true, Bool.false_eq_true, h.app]
theorem own_put (a : Assoc) (b : Bool) (s : Side) : (a.put b s).own b = s ∧ (a.put b s).other (!b) = s ∧ (a.put b s).state = a.state ∧ (a.put b s).fr = a.fr ∧ (a.put b s).to = a.to := by cases b <;> exact ⟨rfl, rfl, rfl, rfl, rfl⟩
theorem again_data {t : Talk} {j : Nat} {b : Bool} {d : Data} (h : NextP t j b d) : stepChunk (aMid t j b) b (dataPut d) = (aMid t j b, 0) := by
  have hkind : (dataPut d).kind = 0 := rfl
  have ho := (own_put (aAt t j) b ⟨(t.init b).tag, (t.init b).streams, (t.init b).tsn, sideL b (t.all.take (j + 1)), (sideL b (t.all.take j)).length⟩)
  have ho1 : (aMid t j b).own b = _ := ho.1
  have hst : (aMid t j b).state = 4 := ho.2.2.1
  have hlt : ((sideL b (t.all.take j)).length : Int) < ((sideL b (t.all.take (j + 1))).length : Int) := by rw [h.app, List.length_append]; simp only [List.length_cons, List.length_nil]; omega
  have hg : eqData ((sideL b (t.all.take (j + 1))).getD (sideL b (t.all.take j)).length noData) d = true := by
    rw [eqData_iff, h.app]
    simp [List.getD_eq_getElem?_getD]
  unfold stepChunk
  rw [if_neg (by rw [hkind]; decide), if_pos hkind]
  unfold stepData
  simp only [ho1, data_get h.data, hst, decide_true, Bool.true_or, Bool.not_true, Bool.false_eq_true, if_false, h.k, hlt, if_true, Int.toNat_natCast, hg]
theorem sack_one {t : Talk} {j : Nat} {b : Bool} {d : Data} {a : Assoc} {o : Side} (h : NextP t j b d) (hst : a.state = 4) (ho : a.other (!b) = o) (hf : o.first = (t.init b).tsn) :
    stepChunk a (!b) (sackPut ⟨d.tsn, []⟩) = if ((sideL b (t.all.take j)).length : Int) + 1 ≤ o.sent.length then (a.put b { o with acked := max o.acked ((sideL b (t.all.take j)).length + 1) }, 0) else (a, 9) := by
  have hkind : (sackPut ⟨d.tsn, []⟩).kind = 3 := rfl
  have hr := (data_ok h.data).1
  have he : l3d (l3 o.first (-1)) d.tsn = (sideL b (t.all.take j)).length + 1 := by
    rw [h.tsn, hf]
    have h1 := h.first
    have h2 := h.len
    have e : l3 (l3 (t.init b).tsn (sideL b (t.all.take j)).length) (-(l3 (t.init b).tsn (-1))) = (sideL b (t.all.take j)).length + 1 := by
      unfold l3
      omega
    unfold l3d
    rw [e, if_neg (by omega)]
  unfold stepChunk
  rw [if_neg (by rw [hkind]; decide), if_neg (by rw [hkind]; decide), if_pos hkind]
  unfold stepSack
  simp only [ho, hst, sack_get hr, he, inB, lastTo, List.getLast?_nil, Bool.not_not]
  by_cases hc : ((sideL b (t.all.take j)).length : Int) + 1 ≤ o.sent.length
  · rw [if_pos hc, if_neg (by decide), if_neg]
    simp only [Bool.or_eq_true, Bool.not_eq_true', decide_eq_false_iff_not, decide_eq_true_eq]
    omega
  · rw [if_neg hc, if_neg (by decide), if_pos]
    simp only [Bool.or_eq_true, Bool.not_eq_true', decide_eq_false_iff_not, decide_eq_true_eq]
    omega
theorem aAt_succ {t : Talk} {j : Nat} {b : Bool} {d : Data} (h : NextP t j b d) : aAt t (j + 1) = (aAt t j).put b (sAt t b (j + 1)) := by
  have e : sAt t (!b) (j + 1) = sAt t (!b) j := by unfold sAt; rw [h.other]
  unfold aAt Assoc.put
  cases b
  · simp only [Bool.not_false] at e
    simp [e]
  · simp only [Bool.not_true] at e
    simp [e]
theorem step_sack {t : Talk} {j : Nat} {b : Bool} {d : Data} (h : NextP t j b d) : stepChunk (aMid t j b) (!b) (sackPut ⟨d.tsn, []⟩) = (aAt t (j + 1), 0) := by
  have ho := (own_put (aAt t j) b ⟨(t.init b).tag, (t.init b).streams, (t.init b).tsn, sideL b (t.all.take (j + 1)), (sideL b (t.all.take j)).length⟩)
  have hl : (sideL b (t.all.take (j + 1))).length = (sideL b (t.all.take j)).length + 1 := by rw [h.app]; simp
  rw [sack_one h (a := aMid t j b) (o := ⟨(t.init b).tag, (t.init b).streams, (t.init b).tsn, sideL b (t.all.take (j + 1)), (sideL b (t.all.take j)).length⟩) ho.2.2.1 ho.2.1 rfl]
  rw [if_pos (by simp only [hl]; omega), aAt_succ h]
  have hm : max ((sideL b (t.all.take j)).length : Int) ((sideL b (t.all.take j)).length + 1) = (((sideL b (t.all.take j)).length + 1 : Nat) : Int) := by omega
  unfold aMid sAt
  simp only [hm, hl]
  cases b <;> rfl
theorem again_sack {t : Talk} {j : Nat} {b : Bool} {d : Data} (h : NextP t j b d) : stepChunk (aAt t (j + 1)) (!b) (sackPut ⟨d.tsn, []⟩) = (aAt t (j + 1), 0) := by
  have ho : (aAt t (j + 1)).other (!b) = sAt t b (j + 1) := by cases b <;> rfl
  have hl : (sideL b (t.all.take (j + 1))).length = (sideL b (t.all.take j)).length + 1 := by rw [h.app]; simp
  rw [sack_one h (a := aAt t (j + 1)) rfl ho rfl, if_pos (by simp only [sAt, hl]; omega)]
  have hm : max (sAt t b (j + 1)).acked ((sideL b (t.all.take j)).length + 1) = (sAt t b (j + 1)).acked := by simp only [sAt, hl]; omega
  rw [hm]
  cases b <;> rfl
end Go.Cap

/- Plain facts: the whole way of a talk. -/
namespace Go.Cap
open Go Go.Proofs
set_option linter.unusedSimpArgs false
set_option linter.unusedVariables false

def Good (t : Talk) (a : Assoc) : Prop := a.fr = t.fr ∧ a.to = t.to ∧ assocB a = true ∧ a.state ≠ 0 ∧ a.a.sent <+: talkParts t false
structure PkOne (t : Talk) (a : Assoc) (p : Packet) (a' : Assoc) : Prop where
  pack : packB p = true
  ports : (p.fr = t.fr ∧ p.to = t.to) ∨ (p.fr = t.to ∧ p.to = t.fr)
  st : a.state ≠ 7
  step : assocStep a p = (a', [])
structure PkTwo (t : Talk) (a : Assoc) (p : Packet) (a' : Assoc) : Prop where
  one : PkOne t a p a'
  again : PkOne t a' p a'
  good : Good t a'
inductive Way (t : Talk) : Assoc → List Packet → Assoc → Prop
  | nil (a : Assoc) : Way t a [] a
  | cons {a b c : Assoc} {p : Packet} {l : List Packet} : PkTwo t a p b → Way t b l c → Way t a (p :: l) c
theorem Way.append {t : Talk} {a b c : Assoc} {l r : List Packet} (h : Way t a l b) (k : Way t b r c) : Way t a (l ++ r) c := by
  induction h with
  | nil => exact k
  | cons h1 _ ih => exact .cons h1 (ih k)
theorem Way.one {t : Talk} {a b : Assoc} {p : Packet} (h : PkTwo t a p b) : Way t a [p] b := .cons h (.nil _)
def runM (m : Mon) (l : List Packet) : Mon := l.foldl (fun m p => stepMon m (packPut p)) m
theorem runM_cons (m : Mon) (p : Packet) (l : List Packet) : runM m (p :: l) = runM (stepMon m (packPut p)) l := rfl
theorem runM_app (m : Mon) (a b : List Packet) : runM m (a ++ b) = runM (runM m a) b := by unfold runM; rw [List.foldl_append]
theorem stepMon_at {a : Assoc} {p : Packet} {n : Int} {f : List Fnd} {r : List Int} {a' : Assoc} (hp : packB p = true) (hf : pairB a p.fr p.to = true) (hst : a.state ≠ 7) (hs : assocStep a p = (a', r)) : stepMon ⟨n, [a], f⟩ (packPut p) = ⟨n + 1, [a'], f ++ r.map fun c => (⟨n, c⟩ : Fnd)⟩ := by
  have hix : findIx p.fr p.to [a] = some 0 := by unfold findIx; rw [if_pos hf]
  have hag : againB a p = false := by unfold againB; rw [decide_eq_false hst]; simp
  have hat : assocAt [a] 0 = a := rfl
  unfold stepMon
  simp only [pack_get hp, hix, hat, hag, hs, Bool.false_eq_true, if_false, ne_eq, not_true_eq_false, note, List.set_cons_zero, Int.add_sub_cancel]
theorem PkOne.run {t : Talk} {a a' : Assoc} {p : Packet} (h : PkOne t a p a') (hf : a.fr = t.fr) (ht : a.to = t.to) (n : Int) (f : List Fnd) : stepMon ⟨n, [a], f⟩ (packPut p) = ⟨n + 1, [a'], f⟩ := by
  rw [stepMon_at h.pack _ h.st h.step]
  · simp
  · have := h.ports
    simp only [pairB, decide_eq_true_eq, hf, ht]
    omega
theorem Way.run {t : Talk} {a c : Assoc} {l : List Packet} (h : Way t a l c) : a.fr = t.fr → a.to = t.to → ∀ (n : Int) (f : List Fnd), runM ⟨n, [a], f⟩ l = ⟨n + l.length, [c], f⟩ := by
  induction h with
  | nil => intro _ _ n f; simp [runM]
  | cons h1 _ ih =>
    intro hf ht n f
    rw [runM_cons, h1.one.run hf ht, ih h1.good.1 h1.good.2.1, List.length_cons]
    congr 1
    omega
theorem Way.twice {t : Talk} {a c : Assoc} {l : List Packet} (h : Way t a l c) : a.fr = t.fr → a.to = t.to → ∀ (k : Nat), k < l.length → ∀ (n : Int) (f : List Fnd), runM ⟨n, [a], f⟩ (l.take (k + 1) ++ l.drop k) = ⟨n + l.length + 1, [c], f⟩ := by
  induction h with
  | nil => intro _ _ k hk; simp at hk
  | @cons a b c p l h1 h2 ih =>
    intro hf ht k hk n f
    cases k with
    | zero =>
      have e : (p :: l).take (0 + 1) ++ (p :: l).drop 0 = p :: p :: l := by simp
      rw [e, runM_cons, h1.one.run hf ht, runM_cons, h1.again.run h1.good.1 h1.good.2.1, h2.run h1.good.1 h1.good.2.1, List.length_cons]
      congr 1
      omega
    | succ k =>
      rw [List.take_succ_cons, List.drop_succ_cons, List.cons_append, runM_cons, h1.one.run hf ht, ih h1.good.1 h1.good.2.1 k (by simpa using hk), List.length_cons]
      congr 1
      omega
/-- The states. -/
def aNew (t : Talk) : Assoc := ⟨t.fr, t.to, 0, false, noSide, noSide⟩
def h1 (t : Talk) : Assoc := ⟨t.fr, t.to, 1, false, sAt t false 0, noSide⟩
def h2 (t : Talk) : Assoc := { aAt t 0 with state := 2 }
def h3 (t : Talk) : Assoc := { aAt t 0 with state := 3 }
def e5 (t : Talk) : Assoc := { aAt t t.all.length with state := 5 }
def e6 (t : Talk) : Assoc := { aAt t t.all.length with state := 6 }
def e7 (t : Talk) : Assoc := { aAt t t.all.length with state := 7 }
theorem sAt_zero (t : Talk) (b : Bool) : sAt t b 0 = ⟨(t.init b).tag, (t.init b).streams, (t.init b).tsn, [], 0⟩ := by simp [sAt, sideL]
theorem s1 {t : Talk} (hv : talkB t = true) : stepChunk (aNew t) false (initPut t.a false) = (h1 t, 0) := by
  have hi := init_get (show initB t.a = true from init_ok hv false) false
  have hk : (initPut t.a false).kind = 1 := rfl
  unfold stepChunk stepInit
  simp only [hk, hi]
  simp [aNew, h1, inB, Assoc.put, sAt_zero, Talk.init]
theorem s1' {t : Talk} (hv : talkB t = true) : stepChunk (h1 t) false (initPut t.a false) = (h1 t, 0) := by
  have hi := init_get (show initB t.a = true from init_ok hv false) false
  have hk : (initPut t.a false).kind = 1 := rfl
  unfold stepChunk stepInit
  simp only [hk, hi]
  simp [h1, inB, Assoc.own, sAt_zero, Talk.init]
theorem s2 {t : Talk} (hv : talkB t = true) : stepChunk (h1 t) true (initPut t.b true) = (h2 t, 0) := by
  have hi := init_get (show initB t.b = true from init_ok hv true) true
  have hk : (initPut t.b true).kind = 2 := rfl
  unfold stepChunk stepInit
  simp only [hk, hi]
  simp [h1, h2, aAt, inB, Assoc.put, sAt_zero, Talk.init]
theorem s2' {t : Talk} (hv : talkB t = true) : stepChunk (h2 t) true (initPut t.b true) = (h2 t, 0) := by
  have hi := init_get (show initB t.b = true from init_ok hv true) true
  have hk : (initPut t.b true).kind = 2 := rfl
  unfold stepChunk stepInit
  simp only [hk, hi]
  simp [h2, aAt, inB, Assoc.own, sAt_zero, Talk.init]
theorem s3 (t : Talk) : stepChunk (h2 t) false ⟨10, 0, []⟩ = (h3 t, 0) := by simp [stepChunk, stepRest, h2, h3, aAt, inB, show max (2 : Int) 3 = 3 by decide]
theorem s3' (t : Talk) : stepChunk (h3 t) false ⟨10, 0, []⟩ = (h3 t, 0) := by simp [stepChunk, stepRest, h3, aAt, inB]
theorem s4 (t : Talk) : stepChunk (h3 t) true ⟨11, 0, []⟩ = (aAt t 0, 0) := by simp [stepChunk, stepRest, h3, aAt, inB]
theorem s4' (t : Talk) : stepChunk (aAt t 0) true ⟨11, 0, []⟩ = (aAt t 0, 0) := by simp [stepChunk, stepRest, aAt, inB]
theorem s5 (t : Talk) : stepChunk (aAt t t.all.length) false ⟨7, 0, []⟩ = (e5 t, 0) := by simp [stepChunk, stepEnd, e5, aAt, sAt, Assoc.own, inB]
theorem s5' (t : Talk) : stepChunk (e5 t) false ⟨7, 0, []⟩ = (e5 t, 0) := by simp [stepChunk, stepEnd, e5, aAt, sAt, Assoc.own, inB]
theorem s6 (t : Talk) : stepChunk (e5 t) true ⟨8, 0, []⟩ = (e6 t, 0) := by simp [stepChunk, stepEnd, e5, e6, aAt, sAt, Assoc.own, inB]
theorem s6' (t : Talk) : stepChunk (e6 t) true ⟨8, 0, []⟩ = (e6 t, 0) := by simp [stepChunk, stepEnd, e6, aAt, sAt, Assoc.own, inB]
theorem s7 (t : Talk) : stepChunk (e6 t) false ⟨14, 0, []⟩ = (e7 t, 0) := by simp [stepChunk, stepEnd, e6, e7, aAt, sAt, Assoc.own, inB]
theorem pre_sent {t : Talk} (hv : talkB t = true) (b : Bool) (j : Nat) : sideL b (t.all.take j) <+: talkParts t b := by
  obtain ⟨r, hr⟩ := side_pre hv b j
  exact ⟨r, hr.symm⟩
theorem new_ok {t : Talk} (hv : talkB t = true) : assocB (aNew t) = true := by
  obtain ⟨h1, h2, h3, _⟩ := talk_head hv
  exact assocB_iff.2 ⟨h1, h2, h3, by simp [aNew], (show sideB noSide = true by decide), (show sideB noSide = true by decide), by simp [aNew, noSide], by simp [aNew, noSide], by simp [aNew, noSide], .inl rfl⟩
theorem one_ports {t : Talk} (b : Bool) (c : Chunk) : ((onePk t b c).fr = t.fr ∧ (onePk t b c).to = t.to) ∨ ((onePk t b c).fr = t.to ∧ (onePk t b c).to = t.fr) := by
  cases b
  · exact .inl ⟨rfl, rfl⟩
  · exact .inr ⟨rfl, rfl⟩
theorem two_mk {t : Talk} {a a' : Assoc} {b : Bool} {c : Chunk} (hv : talkB t = true) (ga : Good t a) (hst : a.state ≠ 7) (hst' : a'.state ≠ 7) (h0 : a'.state ≠ 0) (hpre : a'.a.sent <+: talkParts t false) (hc : chunkB c = true) (hk : c.kind ≠ 1)
    (hg : (a.other b).tag = (t.init (!b)).tag) (hg' : (a'.other b).tag = (t.init (!b)).tag) (hs : stepChunk a b c = (a', 0)) (hs' : stepChunk a' b c = (a', 0)) : PkTwo t a (onePk t b c) a' := by
  have hst1 := stepChunk_stays a b c
  have hv1 := stepChunk_valid a b c ga.2.2.1
  rw [hs] at hst1 hv1
  have hf' : a'.fr = t.fr := hst1.1.trans ga.1
  have ht' : a'.to = t.to := hst1.2.1.trans ga.2.1
  exact ⟨⟨one_ok hv b hc, one_ports b c, hst, (one_step hv ga.1 ga.2.1 ga.2.2.1 hc hk hg hs).1 rfl⟩, ⟨one_ok hv b hc, one_ports b c, hst', (one_step hv hf' ht' hv1 hc hk hg' hs').1 rfl⟩, hf', ht', hv1, h0, hpre⟩
def p0 (t : Talk) : Packet := ⟨t.fr, t.to, 0, [initPut t.a false]⟩
theorem p0_ok {t : Talk} (hv : talkB t = true) : packB (p0 t) = true := by
  obtain ⟨h1, h2, h3, h4, h5⟩ := talk_head hv
  unfold packB inB p0
  simp [initPut_ok]
  omega
theorem good1 {t : Talk} (hv : talkB t = true) : Good t (h1 t) := by
  have hv1 := stepChunk_valid (aNew t) false (initPut t.a false) (new_ok hv)
  rw [s1 hv] at hv1
  exact ⟨rfl, rfl, hv1, by simp [h1], pre_sent hv false 0⟩
theorem first_step {t : Talk} (hv : talkB t = true) {a : Assoc} (ha : assocB a = true) (hf : a.fr = t.fr) (ht : a.to = t.to) (hs : stepChunk a false (initPut t.a false) = (h1 t, 0)) : assocStep a (p0 t) = (h1 t, []) := by
  obtain ⟨q1, q2, q3, q4, q5⟩ := talk_head hv
  refine (step_one ha (p0_ok hv) (c := initPut t.a false) rfl (byB := false) ?_ (.inr ⟨hf.symm, ht.symm⟩) ?_ hs).1 rfl
  · simp only [byBOf, p0, hf, ht, decide_eq_false_iff_not]; omega
  · simp [tagOf, p0, initPut]
theorem one0 {t : Talk} (hv : talkB t = true) : PkOne t (h1 t) (p0 t) (h1 t) := ⟨p0_ok hv, .inl ⟨rfl, rfl⟩, by simp [h1], first_step hv (good1 hv).2.2.1 rfl rfl (s1' hv)⟩
theorem begin_step {t : Talk} (hv : talkB t = true) : stepMon noMon (packPut (p0 t)) = ⟨1, [h1 t], []⟩ := by
  have hs := first_step hv (new_ok hv) rfl rfl (s1 hv)
  have hk : kind0 (p0 t) = 1 := rfl
  unfold stepMon
  simp only [pack_get (p0_ok hv), noMon, findIx, ne_eq, not_true_eq_false, if_false]
  unfold beginMon
  have hs' : assocStep ⟨(p0 t).fr, (p0 t).to, 0, false, noSide, noSide⟩ (p0 t) = (h1 t, []) := hs
  simp only [hk, hs', ne_eq, not_true_eq_false, if_false, List.isEmpty_nil, Bool.not_true, Bool.false_eq_true, List.length_nil, List.nil_append]
  rfl
theorem mid_sent {t : Talk} {j : Nat} {b : Bool} (hv : talkB t = true) : (aMid t j b).a.sent <+: talkParts t false := by
  cases b
  · exact pre_sent hv false (j + 1)
  · exact pre_sent hv false j
theorem says_way {t : Talk} (hv : talkB t = true) (hg : Good t (aAt t 0)) : ∀ j, j ≤ t.all.length → Way t (aAt t 0) (saysPk t (t.all.take j)) (aAt t j) ∧ Good t (aAt t j)
  | 0, _ => ⟨.nil _, hg⟩
  | j + 1, hj => by
    obtain ⟨ih, ig⟩ := says_way hv hg j (by omega)
    have hn := nextP hv (show j < t.all.length by omega)
    rw [saysPk_take (show j < t.all.length by omega)]
    generalize t.all[j] = x at hn ⊢
    obtain ⟨b, d⟩ := x
    simp only at hn ⊢
    have w1 : PkTwo t (aAt t j) (onePk t b (dataPut d)) (aMid t j b) := two_mk hv ig (by simp [aAt]) (by rw [show (aMid t j b).state = 4 from (own_put (aAt t j) b _).2.2.1]; decide) (by rw [show (aMid t j b).state = 4 from (own_put (aAt t j) b _).2.2.1]; decide)
      (mid_sent hv) (dataPut_ok hn.data) (by simp [dataPut]) (by cases b <;> rfl) (by cases b <;> rfl) (step_data hn) (again_data hn)
    have w2 : PkTwo t (aMid t j b) (onePk t (!b) (sackPut ⟨d.tsn, []⟩)) (aAt t (j + 1)) := two_mk hv w1.good (by rw [show (aMid t j b).state = 4 from (own_put (aAt t j) b _).2.2.1]; decide) (by simp [aAt]) (by simp [aAt])
      (pre_sent hv false (j + 1)) (sackPut_ok _) (by simp [sackPut]) (by cases b <;> rfl) (by cases b <;> rfl) (step_sack hn) (again_sack hn)
    exact ⟨ih.append (.cons w1 (.one w2)), w2.good⟩
def helloR (t : Talk) : List Packet := [onePk t true (initPut t.b true), onePk t false ⟨10, 0, []⟩, onePk t true ⟨11, 0, []⟩]
theorem hello_way {t : Talk} (hv : talkB t = true) : Way t (h1 t) (helloR t) (aAt t 0) ∧ Good t (aAt t 0) := by
  have w1 : PkTwo t (h1 t) (onePk t true (initPut t.b true)) (h2 t) := two_mk hv (good1 hv) (by simp [h1]) (by simp [h2]) (by simp [h2]) (pre_sent hv false 0) (initPut_ok _ _) (by simp [initPut]) rfl rfl (s2 hv) (s2' hv)
  have w2 : PkTwo t (h2 t) (onePk t false ⟨10, 0, []⟩) (h3 t) := two_mk hv w1.good (by simp [h2]) (by simp [h3]) (by simp [h3]) (pre_sent hv false 0) (kind_ok (by omega)) (by simp) rfl rfl (s3 t) (s3' t)
  have w3 : PkTwo t (h3 t) (onePk t true ⟨11, 0, []⟩) (aAt t 0) := two_mk hv w2.good (by simp [h3]) (by simp [aAt]) (by simp [aAt]) (pre_sent hv false 0) (kind_ok (by omega)) (by simp) rfl rfl (s4 t) (s4' t)
  exact ⟨.cons w1 (.cons w2 (.one w3)), w3.good⟩
def lastP (t : Talk) : Packet := onePk t false ⟨14, 0, []⟩
def byeR (t : Talk) : List Packet := [onePk t false ⟨7, 0, []⟩, onePk t true ⟨8, 0, []⟩]
theorem bye_way {t : Talk} (hv : talkB t = true) (hg : Good t (aAt t t.all.length)) : Way t (aAt t t.all.length) (byeR t) (e6 t) ∧ Good t (e6 t) ∧ PkOne t (e6 t) (lastP t) (e7 t) ∧ Good t (e7 t) := by
  have w1 : PkTwo t (aAt t t.all.length) (onePk t false ⟨7, 0, []⟩) (e5 t) := two_mk hv hg (by simp [aAt]) (by simp [e5]) (by simp [e5]) (pre_sent hv false _) (kind_ok (by omega)) (by simp) rfl rfl (s5 t) (s5' t)
  have w2 : PkTwo t (e5 t) (onePk t true ⟨8, 0, []⟩) (e6 t) := two_mk hv w1.good (by simp [e5]) (by simp [e6]) (by simp [e6]) (pre_sent hv false _) (kind_ok (by omega)) (by simp) rfl rfl (s6 t) (s6' t)
  have hc : chunkB ⟨14, 0, []⟩ = true := kind_ok (by omega)
  have hv7 := stepChunk_valid (e6 t) false ⟨14, 0, []⟩ w2.good.2.2.1
  rw [s7 t] at hv7
  refine ⟨.cons w1 (.one w2), w2.good, ⟨one_ok hv false hc, one_ports false _, by simp [e6], (one_step hv w2.good.1 w2.good.2.1 w2.good.2.2.1 hc (by simp) rfl (s7 t)).1 rfl⟩, rfl, rfl, hv7, by simp [e7], pre_sent hv false _⟩
theorem talk_form {t : Talk} (hv : talkB t = true) : talkPk t = p0 t :: ((helloR t ++ saysPk t t.all ++ byeR t) ++ [lastP t]) := by
  unfold talkPk
  rw [if_pos hv]
  simp [hello, bye, p0, helloR, byeR, lastP]
theorem talk_way {t : Talk} (hv : talkB t = true) : Way t (h1 t) (helloR t ++ saysPk t t.all ++ byeR t) (e6 t) ∧ PkOne t (e6 t) (lastP t) (e7 t) ∧ Good t (e6 t) ∧ Good t (e7 t) := by
  obtain ⟨w1, g1⟩ := hello_way hv
  obtain ⟨w2, g2⟩ := says_way hv g1 _ (Nat.le_refl _)
  rw [List.take_length] at w2
  obtain ⟨w3, g3, o, g4⟩ := bye_way hv g2
  exact ⟨(w1.append w2).append w3, o, g3, g4⟩
end Go.Cap

/- Plain facts: what the monitor knows of a talk: whole, cut, with a packet twice, without a part. -/
namespace Go.Cap
open Go Go.Proofs
set_option linter.unusedSimpArgs false
set_option linter.unusedVariables false

theorem run_clean {t : Talk} (hv : talkB t = true) : runM noMon (talkPk t) = ⟨(talkPk t).length, [e7 t], []⟩ := by
  obtain ⟨w, o, g6, g7⟩ := talk_way hv
  rw [talk_form hv, runM_cons, begin_step hv, runM_app, w.run (good1 hv).1 (good1 hv).2.1, runM_cons, o.run g6.1 g6.2.1]
  simp only [runM, List.foldl_nil, List.length_cons, List.length_append, List.length_nil]
  congr 1
  omega
theorem run_twice {t : Talk} (hv : talkB t = true) {k : Nat} (hk : k + 1 < (talkPk t).length) : runM noMon ((talkPk t).take (k + 1) ++ (talkPk t).drop k) = ⟨(talkPk t).length + 1, [e7 t], []⟩ := by
  obtain ⟨w, o, g6, g7⟩ := talk_way hv
  have g1 := good1 hv
  rw [talk_form hv] at hk ⊢
  generalize helloR t ++ saysPk t t.all ++ byeR t = l at w hk ⊢
  cases k with
  | zero =>
    have e : (p0 t :: (l ++ [lastP t])).take (0 + 1) ++ (p0 t :: (l ++ [lastP t])).drop 0 = p0 t :: p0 t :: (l ++ [lastP t]) := by simp
    rw [e, runM_cons, begin_step hv, runM_cons, (one0 hv).run g1.1 g1.2.1, runM_app, w.run g1.1 g1.2.1, runM_cons, o.run g6.1 g6.2.1]
    simp only [runM, List.foldl_nil, List.length_cons, List.length_append, List.length_nil]
    congr 1
    omega
  | succ k =>
    have hkl : k < l.length := by simp at hk; omega
    have e : (p0 t :: (l ++ [lastP t])).take (k + 1 + 1) ++ (p0 t :: (l ++ [lastP t])).drop (k + 1) = p0 t :: ((l.take (k + 1) ++ l.drop k) ++ [lastP t]) := by
      rw [List.take_succ_cons, List.drop_succ_cons, List.cons_append, List.take_append_of_le_length (by omega), List.drop_append_of_le_length (by omega), List.append_assoc]
    rw [e, runM_cons, begin_step hv, runM_app, w.twice g1.1 g1.2.1 k hkl, runM_cons, o.run g6.1 g6.2.1]
    simp only [runM, List.foldl_nil, List.length_cons, List.length_append, List.length_nil]
    congr 1
    omega
/-- Records. -/
theorem recsFrom_iff : ∀ (last : Int) (l : List Rec), recsFrom last l = true ↔ (∀ x ∈ l, (last ≤ x.time ∧ x.time ≤ 4294967295) ∧ x.text.length ≤ 120) ∧ l.Pairwise (fun x y => x.time ≤ y.time)
  | last, [] => by simp [recsFrom]
  | last, x :: l => by
    simp only [recsFrom, inB, Bool.and_eq_true, decide_eq_true_eq, recsFrom_iff x.time l, List.pairwise_cons, List.mem_cons, forall_eq_or_imp]
    constructor
    · rintro ⟨⟨h1, h2⟩, h3, h4⟩
      exact ⟨⟨⟨h1, h2⟩, fun y hy => by have := h3 y hy; omega⟩, fun y hy => (h3 y hy).1.1, h4⟩
    · rintro ⟨⟨⟨h1, h2⟩, h3⟩, h4, h5⟩
      exact ⟨⟨h1, h2⟩, fun y hy => by have := h3 y hy; have := h4 y hy; omega, h5⟩
theorem capt_twice {l : List Rec} {k : Nat} (h : captB l = true) (hk : k < l.length) (hl : l.length < 60) : captB (l.take (k + 1) ++ l.drop k) = true := by
  unfold captB at h ⊢
  simp only [Bool.and_eq_true, decide_eq_true_eq, recsFrom_iff] at h ⊢
  refine ⟨⟨fun x hx => ?_, ?_⟩, ?_⟩
  · rcases List.mem_append.1 hx with hx | hx
    · exact h.1.1 x (List.mem_of_mem_take hx)
    · exact h.1.1 x (List.mem_of_mem_drop hx)
  · refine List.pairwise_append.2 ⟨h.1.2.sublist (List.take_sublist _ _), h.1.2.sublist (List.drop_sublist _ _), fun x hx y hy => ?_⟩
    obtain ⟨i, hi, rfl⟩ := List.getElem_of_mem hx
    obtain ⟨j, hj, rfl⟩ := List.getElem_of_mem hy
    rw [List.length_take] at hi
    rw [List.length_drop] at hj
    rw [List.getElem_take, List.getElem_drop]
    have hp := List.pairwise_iff_getElem.1 h.1.2
    rcases Nat.lt_or_ge i (k + j) with hlt | hge
    · exact hp i (k + j) (by omega) (by omega) hlt
    · have : i = k + j := by omega
      subst this
      exact Int.le_refl _
  · rw [List.length_append, List.length_take, List.length_drop]; omega
theorem recsOf_len (l : List Packet) (b : Int) : (recsOf l b).length = l.length := by simp [recsOf]
theorem recsOf_text (l : List Packet) (b : Int) : (recsOf l b).map (·.text) = l.map packPut := by
  refine List.ext_getElem (by simp [recsOf]) fun i h1 h2 => ?_
  simp only [List.length_map] at h2
  simp [recsOf, List.getD_eq_getElem?_getD, h2]
theorem monRun_eq {l : List Rec} (h : captB l = true) : monRun l = (l.map (·.text)).foldl stepMon noMon := by
  unfold monRun
  rw [if_pos h]
  rw [List.foldl_map]
theorem monRun_pk {l : List Rec} {p : List Packet} (h : captB l = true) (hp : l.map (·.text) = p.map packPut) : monRun l = runM noMon p := by
  rw [monRun_eq h, hp, List.foldl_map]
  rfl
theorem talk_pk_len {t : Talk} (hv : talkB t = true) : (talkPk t).length = 7 + 2 * t.all.length ∧ (talkPk t).length ≤ 55 := by
  have h1 := all_len hv
  have : (talkPk t).length = 7 + 2 * t.all.length := by rw [talk_form hv]; simp [saysPk_len, helloR, byeR]; omega
  omega
section
variable {t : Talk} {begin : Int} (hv : talkB t = true) (hc : captB (recsOf (talkPk t) begin) = true)
include hv hc
theorem mon_clean : monRun (recsOf (talkPk t) begin) = ⟨(talkPk t).length, [e7 t], []⟩ := by
  rw [monRun_pk hc (recsOf_text _ _), run_clean hv]
theorem mon_twice {k : Nat} (hk : k + 1 < (talkPk t).length) : monRun ((recsOf (talkPk t) begin).take (k + 1) ++ (recsOf (talkPk t) begin).drop k) = ⟨(talkPk t).length + 1, [e7 t], []⟩ := by
  have hl := talk_pk_len hv
  rw [monRun_pk (capt_twice hc (by rw [recsOf_len]; omega) (by rw [recsOf_len]; omega)) (p := (talkPk t).take (k + 1) ++ (talkPk t).drop k), run_twice hv hk]
  rw [List.map_append, List.map_take, List.map_drop, recsOf_text, List.map_append, List.map_take, List.map_drop]
end
end Go.Cap

/- Contracts: the program's monitor runs. -/
namespace Go.Cap
open Go Go.Proofs
set_option maxRecDepth 100000
set_option linter.unusedSimpArgs false
set_option linter.unusedVariables false
attribute [local irreducible] Call Run Spec Le

theorem s_implMonitorStep (m : Mon) (text : List UInt8) (hf : MFit m) (ht : text.length ≤ 1000000) : Spec Try.prog 50 0 [] [m.ro, .st text] (Plain fun r => r = (monStep m text).ro) := by
  refine Spec.le (s_implMonitorStep0 m text hf ht) fun r hp nx gs h => ⟨_, [], 0, [], ⟨rfl, rfl, rfl, rfl⟩, fun c hc => ?_⟩
  obtain ⟨h⟩ := h
  generalize monStep m text = x at h
  rcases h with ⟨rfl, rfl⟩ | ⟨hl, b, rfl, h0⟩ | ⟨b, b1, hne, rfl, h0, h1⟩
  · refine Le.trans (t := ⟨[(0, .agg [.i 0, .r .nil, .r .nil])], [], 0, []⟩) (le_ev [] (by simp only [hc, go_sem, ↓reduceIte])) ?_
    exact le_denil
  · refine Le.trans (t := ⟨[(0, .agg [.i x.records, .r .nil, .sl 0 0 x.found.length])], [(0, .row 2 (x.found.map Fnd.row))], 1, []⟩) (le_ev [(0, b)] (by simp only [hc, go_sem, ↓reduceIte, h0])) ?_
    refine Le.trans (le_frz 0 rfl (by simp only [List.length_map, go_sem, ↓reduceIte]) (by simp only [go_sem, ↓reduceIte])) ?_
    simp only [take_map_len, List.drop_zero, go_sem, ↓reduceIte]
    refine Le.trans le_denil ?_
    unfold Mon.ro
    rw [hl]
    exact le_ev [] (by simp only [hc, List.map_nil, go_sem, ↓reduceIte])
  · unfold Mon.ro
    refine Le.trans (t := ⟨[(0, .agg [.i x.records, .sl 1 0 x.list.length, .sl 0 0 x.found.length])], [(0, .row 2 (x.found.map Fnd.row)), (1, .row 14 (x.list.map Assoc.row))], 2, []⟩) (le_ev [(0, b), (1, b1)] (by simp only [hc, go_sem, ↓reduceIte, h0, h1]; omega)) ?_
    refine Le.trans (le_frz 0 rfl (by simp only [List.length_map, go_sem, ↓reduceIte]) (by simp only [go_sem, ↓reduceIte])) ?_
    simp only [take_map_len, List.drop_zero, go_sem, ↓reduceIte]
    refine Le.trans (le_frz 1 rfl (by simp only [List.length_map, go_sem, ↓reduceIte]) (by simp only [go_sem, ↓reduceIte])) ?_
    simp only [take_map_len, List.drop_zero, go_sem, ↓reduceIte]
    exact le_ev [] (by simp only [hc, go_sem, ↓reduceIte])
theorem stepMon_found (m : Mon) (text : List UInt8) : (stepMon m text).found.length ≤ m.found.length + 12 := by
  unfold stepMon beginMon note
  generalize packGet text = x
  obtain ⟨p, code⟩ := x
  simp only
  repeat' split
  all_goals
    try simp only [List.length_append, List.length_map, List.length_cons, List.length_nil]
  all_goals first
    | omega
    | (have := rules_len ⟨p.fr, p.to, 0, false, noSide, noSide⟩ p; omega)
    | (rename_i k _ _; have := rules_len (assocAt m.list k) p; omega)
def monAt (l : List Rec) (i : Nat) : Mon := ((l.take i).map (·.text)).foldl stepMon noMon
theorem monAt_succ {l : List Rec} {i : Nat} (h : i < l.length) : monAt l (i + 1) = stepMon (monAt l i) l[i].text := by
  unfold monAt
  rw [take_get h, List.map_append, List.foldl_append]
  rfl
theorem monAt_inv {l : List Rec} (hl : l.length ≤ 60) : ∀ i, i ≤ l.length → monB (monAt l i) = true ∧ (monAt l i).records = i ∧ (monAt l i).found.length ≤ 12 * i
  | 0, _ => ⟨(by decide : monB noMon = true), rfl, Nat.le_refl _⟩
  | i + 1, hi => by
    obtain ⟨h1, h2, h3⟩ := monAt_inv hl i (by omega)
    rw [monAt_succ (show i < l.length by omega)]
    refine ⟨stepMon_valid h1 (by omega), by rw [stepMon_records]; omega, ?_⟩
    have := stepMon_found (monAt l i) l[i].text
    omega
theorem mon_fit {m : Mon} (h : monB m = true) (hf : m.found.length ≤ 1000) : MFit m := by
  obtain ⟨_, h2, h3, _⟩ := monB_iff.1 h
  refine ⟨by omega, by omega, fun a ha => ?_⟩
  have hw := assocB_AW ((listB_iff.1 h3).1 a ha).1
  have := hw.1.2
  have := hw.2.2
  refine ⟨⟨by omega, fun d hd => ?_⟩, ⟨by omega, fun d hd => ?_⟩⟩
  · have := data_ok (hw.1.2.2 d hd)
    omega
  · have := data_ok (hw.2.2.2 d hd)
    omega
def mrSt (l : List Rec) : Nat → St
  | 0 => ⟨[(2, .ptr 0 0 0), (3, .ptr 1 0 0), (11, .r (.ro none (l.map Rec.row))), (12, .i l.length), (13, .i 0)], [(0, .var [.i 0, .r .nil, .r .nil]), (1, .var [.i 0, .r .nil, .r .nil])], 2, []⟩
  | i + 1 => ⟨[(2, .ptr 0 0 0), (3, .ptr 1 0 0), (11, .r (.ro none (l.map Rec.row))), (12, .i l.length), (13, .i ((i + 1 : Nat) : Int))], [(0, .var [.i 0, .r .nil, .r .nil]), (1, .var [.i (monAt l (i + 1)).records, .r (.ro none ((monAt l (i + 1)).list.map Assoc.row)), .r (.ro none ((monAt l (i + 1)).found.map Fnd.row))])], 2, []⟩
theorem mrSt_zero (l : List Rec) : mrSt l 0 = ⟨[(2, .ptr 0 0 0), (3, .ptr 1 0 0), (11, .r (.ro none (l.map Rec.row))), (12, .i l.length), (13, .i 0)], [(0, .var [.i 0, .r .nil, .r .nil]), (1, .var [.i 0, .r .nil, .r .nil])], 2, []⟩ := rfl
theorem mrSt_succ (l : List Rec) (i : Nat) : mrSt l (i + 1) = ⟨[(2, .ptr 0 0 0), (3, .ptr 1 0 0), (11, .r (.ro none (l.map Rec.row))), (12, .i l.length), (13, .i ((i + 1 : Nat) : Int))], [(0, .var [.i 0, .r .nil, .r .nil]), (1, .var [.i (monAt l (i + 1)).records, .r (.ro none ((monAt l (i + 1)).list.map Assoc.row)), .r (.ro none ((monAt l (i + 1)).found.map Fnd.row))])], 2, []⟩ := rfl
set_option maxHeartbeats 2000000 in
theorem s_implMonitorRun0 (l : List Rec) : Spec Try.prog 14 0 [] [.r (.ro none (l.map Rec.row))] (fun r _ _ _ => (monRun l = noMon ∧ r = .agg [.i 0, .r .nil, .r .nil]) ∨ r = (monRun l).ro) := by
  have hcv := s_implCaptureValid l
  refine mr14 rfl fun c hP hm => ?_
  unfold pc14
  refine run_seq (run_wpc _ _ _ _ _ ?_)
  simp only [hm, go_sem, ↓reduceIte]
  refine run_seq (run_wpc _ _ _ _ _ ?_)
  simp only [hm, go_sem, ↓reduceIte]
  refine run_seq (run_wpc _ _ _ _ _ ?_)
  simp only [hm, go_sem, ↓reduceIte]
  refine call_pure (hP ▸ hcv) rfl rfl ?_
  cases hc : captB l
  · simp only [hm, go_sem, ↓reduceIte]
    have : monRun l = noMon := by unfold monRun; rw [hc]; rfl
    first | exact .inl ⟨this, rfl⟩ | exact .inl this
  simp only [hm, go_sem, ↓reduceIte]
  have hcb := hc
  unfold captB at hcb
  simp only [Bool.and_eq_true, decide_eq_true_eq, recsFrom_iff] at hcb
  have hmr : monRun l = monAt l l.length := by rw [monRun_eq hc]; unfold monAt; rw [List.take_length]
  rw [hmr]
  refine run_seq (run_wpc _ _ _ _ _ ?_)
  simp only [hm, go_sem, ↓reduceIte]
  try intro _
  refine run_exit 0 (fun t0 => (l = [] ∧ t0 = ⟨[(2, .ptr 0 0 0), (3, .ptr 1 0 0)], [(0, .var [.i 0, .r .nil, .r .nil]), (1, .var [.i 0, .r .nil, .r .nil])], 2, []⟩) ∨ t0 = ⟨[(2, .ptr 0 0 0), (3, .ptr 1 0 0)], [(0, .var [.i 0, .r .nil, .r .nil]), (1, .var [.i (monAt l l.length).records, .r (.ro none ((monAt l l.length).list.map Assoc.row)), .r (.ro none ((monAt l l.length).found.map Fnd.row))])], 2, []⟩) ?_ ?_
  · refine lp_wpc (α := Nat) (fun i => mrSt l i) (fun i => i ≤ l.length) (fun i => l.length - i) 0 (Nat.zero_le _) (by rw [mrSt_zero]; (refine le_ev [] ?_; simp only [hm, go_sem, ↓reduceIte]; first | done | rfl | exact ⟨rfl, rfl⟩)) ?_
    intro i hi
    unfold pc14l0
    rcases Nat.lt_or_ge i l.length with hil | hil
    · have hw : IntKind.i64.wrap ((i : Int) + 1) = ((i + 1 : Nat) : Int) := by rw [wrap64 (by omega) (by omega)]; omega
      have hg := getD_map (f := Rec.row) hil
      obtain ⟨i1, i2, i3⟩ := monAt_inv hcb.2 i (by omega)
      have htx := (hcb.1.1 _ (List.getElem_mem hil)).2
      have hsu := monAt_succ hil
      have hst := s_implMonitorStep (monAt l i) l[i].text (mon_fit i1 (by omega)) (by omega)
      have hms : monStep (monAt l i) l[i].text = stepMon (monAt l i) l[i].text := by unfold monStep; rw [i1, decide_eq_true (by omega)]; rfl
      rw [hms, ← hsu] at hst
      generalize l[i] = x at hg hst
      clear hsu hms
      cases i with
      | zero =>
        rw [mrSt_zero]
        have hz : (monAt l 0).ro = .agg [.i 0, .r (.ro none []), .r (.ro none [])] := rfl
        rw [hz] at hst
        unfold Mon.ro at hst
        have hw0 : IntKind.i64.wrap (0 + 1) = ((0 + 1 : Nat) : Int) := rfl
        have h00 : (0 : Int).toNat = 0 := rfl
        simp only [hw0, h00, hg, Rec.row, hm, go_sem, ↓reduceIte]
        repeat' first
          | refine And.intro ?_ ?_
          | intro _
          | (refine call_denil ?_; simp only [hm, go_sem, ↓reduceIte]; refine call_dataP (hP ▸ hst) rfl rfl ?_; simp only [hw0, h00, hg, Rec.row, hm, go_sem, ↓reduceIte])
        all_goals first
          | omega
          | (refine ⟨0 + 1, hil, by omega, ?_⟩; rw [mrSt_succ]; (refine le_ev [] ?_; simp only [hm, go_sem, ↓reduceIte]; first | done | rfl | exact ⟨rfl, rfl⟩))
      | succ i =>
        rw [mrSt_succ]
        unfold Mon.ro at hst
        simp only [hw, Int.toNat_natCast, hg, Rec.row, hm, go_sem, ↓reduceIte]
        repeat' first
          | refine And.intro ?_ ?_
          | intro _
          | (refine call_dataP (hP ▸ hst) rfl rfl ?_; simp only [hw, Int.toNat_natCast, hg, Rec.row, hm, go_sem, ↓reduceIte])
        all_goals first
          | omega
          | (refine ⟨i + 1 + 1, hil, by omega, ?_⟩; rw [mrSt_succ]; (refine le_ev [] ?_; simp only [hm, go_sem, ↓reduceIte]; first | done | rfl | exact ⟨rfl, rfl⟩))
    · have hie : i = l.length := by omega
      cases i with
      | zero =>
        rw [mrSt_zero]
        have hl0 : l = [] := List.length_eq_zero_iff.1 hie.symm
        have hl1 : (l.length : Int) = 0 := by omega
        simp only [hl1, hm, go_sem, ↓reduceIte]
        repeat' first | refine And.intro ?_ ?_ | intro _
        all_goals first
          | omega
          | (refine ⟨_, .inl ⟨hl0, rfl⟩, ?_⟩; (refine le_ev [] ?_; simp only [hm, go_sem, ↓reduceIte]; first | done | rfl | exact ⟨rfl, rfl⟩))
      | succ i =>
        rw [mrSt_succ, hie]
        simp only [hm, go_sem, ↓reduceIte]
        repeat' first | refine And.intro ?_ ?_ | intro _
        all_goals first
          | omega
          | (refine ⟨_, .inr rfl, ?_⟩; (refine le_ev [] ?_; simp only [hm, go_sem, ↓reduceIte]; first | done | rfl | exact ⟨rfl, rfl⟩))
  rintro t0 (⟨hl0, rfl⟩ | rfl)
  · refine run_wpc _ _ _ _ _ ?_
    simp only [hm, go_sem, ↓reduceIte]
    first | exact .inl ⟨by rw [hl0]; rfl, rfl⟩ | exact .inl (by rw [hl0]; rfl)
  · refine run_wpc _ _ _ _ _ ?_
    simp only [hm, go_sem, ↓reduceIte]
    exact .inr rfl
theorem s_implMonitorRun (l : List Rec) : Spec Try.prog 14 0 [] [.r (.ro none (l.map Rec.row))] (Plain fun r => r = (monRun l).ro) := by
  refine Spec.le (s_implMonitorRun0 l) fun r hp nx gs h => ⟨_, [], 0, [], ⟨rfl, rfl, rfl, rfl⟩, fun c hc => ?_⟩
  generalize monRun l = x at h
  rcases h with ⟨rfl, rfl⟩ | rfl
  · refine Le.trans (t := ⟨[(0, .agg [.i 0, .r .nil, .r .nil])], [], 0, []⟩) (le_ev [] (by simp only [hc, go_sem, ↓reduceIte])) ?_
    exact le_denil
  · unfold Mon.ro
    exact le_ev [] (by simp only [hc, go_sem, ↓reduceIte])
end Go.Cap

/- Contracts: the records of a talk (the program's); draws; equality of records. -/
namespace Go.Cap
open Go Go.Proofs
set_option maxRecDepth 100000
set_option linter.unusedSimpArgs false
set_option linter.unusedVariables false
attribute [local irreducible] Call Run Spec Le

/-- The program's TalkRecords: nothing, or an own block. -/
def recsGood (l : List Packet) (n : Int) : Prop := 0 ≤ n ∧ n ≤ 4294967295 ∧ captB (recsW l n) = true
theorem s_implTalkRecordsG (t : Talk) (begin : Int) (hb : begin ≤ 9223372036854775807) (hl : t.says.length ≤ 1048576) (hx : ∀ s ∈ t.says, s.text.length ≤ 1048576) :
    Spec Try.prog 11 0 [] [t.ro, .i begin] (fun r hp _ _ => (r = .r .nil ∧ talkRecs t begin = [] ∧ ¬ recsGood (talkPk t) begin) ∨ (recsGood (talkPk t) begin ∧ ∃ b, r = .sl b 0 (talkRecs t begin).length ∧ hget hp b = some (.row 2 ((talkRecs t begin).map Rec.row)))) := by
  have hsm := talkPk_small (t := t)
  have hone := fun i (h : i < (talkPk t).length) => talkPk_one h
  have hbad : begin < 0 ∨ 4294967295 < begin → talkRecs t begin = [] := fun h => by
    rw [talkRecs_eq hb (by omega)]
    by_cases hn : talkPk t = []
    · rw [hn]; simp [recsW]
    · rcases h with h | h
      · rw [if_neg (fun k => by omega)]
      · rw [if_neg (fun k => by rw [(recs_bad ⟨h, hb⟩ hn).1] at k; cases k.2)]
  have heq := talkRecs_eq (t := t) (begin := begin) hb (by omega)
  generalize talkRecs t begin = TR at hbad heq
  refine mr11 rfl fun c hP hm => ?_
  unfold pc11 Talk.ro Talk.av
  refine run_seq (run_wpc _ _ _ _ _ ?_)
  simp only [hm, go_sem, ↓reduceIte]
  refine run_seq (run_wpc _ _ _ _ _ ?_)
  simp only [hm, go_sem, ↓reduceIte]
  refine call_dataP (hP ▸ s_implTalkPackets t hl hx) rfl rfl ?_
  simp only [hm, go_sem, ↓reduceIte]
  generalize talkPk t = l at hsm hone heq
  refine run_seq (run_wpc _ _ _ _ _ ?_)
  simp only [hm, go_sem, ↓reduceIte]
  repeat' first | refine And.intro ?_ ?_ | intro _
  all_goals first
    | (refine .inl ⟨hbad ?_, fun h => ?_⟩; omega; exact absurd h.1 (by omega))
    | (refine .inl ⟨hbad ?_, fun h => ?_⟩; omega; exact absurd h.2.1 (by omega))
    | (refine .inl ⟨rfl, hbad ?_, fun h => ?_⟩; omega; exact absurd h.1 (by omega))
    | (refine .inl ⟨rfl, hbad ?_, fun h => ?_⟩; omega; exact absurd h.2.1 (by omega))
    | skip
  refine run_seq (run_wpc _ _ _ _ _ ?_)
  simp only [hm, go_sem, ↓reduceIte]
  refine run_seq (run_wpc _ _ _ _ _ ?_)
  simp only [hm, go_sem, ↓reduceIte]
  intro _
  refine run_exit 0 (fun t0 => t0 = ⟨[(6, .sl 0 0 (recsW l begin).length)], [(0, .row 2 ((recsW l begin).map Rec.row))], 1, []⟩) ?_ ?_
  · refine lp_wpc (α := Nat) (fun i => ⟨[(1, .i begin), (6, .sl 0 0 ((recsW l begin).take i).length), (18, .r (.ro none (l.map Packet.row))), (19, .i l.length), (20, .i i)], [(0, .row 2 (((recsW l begin).take i).map Rec.row))], 1, []⟩)
      (fun i => i ≤ l.length) (fun i => l.length - i) 0 (Nat.zero_le _) (by rw [List.take_zero]; simp only [List.map_nil, List.length_nil]; (refine le_ev [(0, 1)] ?_; simp only [hm, go_sem, ↓reduceIte]; first | done | rfl | exact ⟨rfl, rfl⟩)) ?_
    intro i hi
    unfold pc11l0
    rcases Nat.lt_or_ge i l.length with hil | hil
    · have hw : IntKind.i64.wrap ((i : Int) + 1) = ((i + 1 : Nat) : Int) := by rw [wrap64 (by omega) (by omega)]; omega
      have hg := getD_map (f := Packet.row) hil
      have htk := recsW_take (begin := begin) hil
      have hlt : ((recsW l begin).take i).length ≤ 60 := by rw [List.length_take]; omega
      generalize l[i] = p at hg htk
      generalize (recsW l begin).take i = rs at htk hlt
      have hrt : List.take rs.length (rs.map Rec.row) = rs.map Rec.row := List.take_of_length_le (by simp)
      simp only [hw, hrt, Int.toNat_natCast, hg, Packet.row, hm, go_sem, ↓reduceIte]
      repeat' first | refine And.intro ?_ ?_ | intro _ | (refine call_pure (hP ▸ s_implPacketPut p) rfl rfl ?_; simp only [hw, hrt, Int.toNat_natCast, hg, Packet.row, hm, go_sem, ↓reduceIte])
      all_goals first
        | omega
        | rfl
        | (refine ⟨i + 1, hil, by omega, ?_⟩
           rw [htk]
           simp only [List.map_append, List.length_append, List.length_cons, List.length_nil, List.map_cons, List.map_nil, Rec.row]
           (refine le_ev [(0, 0)] ?_; simp only [hm, go_sem, ↓reduceIte]; first | done | rfl | exact ⟨rfl, rfl⟩))
    · have : i = l.length := by omega
      subst this
      have htl : (recsW l begin).take l.length = recsW l begin := by rw [← recsW_len l begin, List.take_length]
      rw [htl]
      simp only [hm, go_sem, ↓reduceIte]
      repeat' first | refine And.intro ?_ ?_ | intro _
      all_goals first
        | omega
        | (refine ⟨_, rfl, ?_⟩; (refine le_ev [] ?_; simp only [hm, go_sem, ↓reduceIte]; first | done | rfl | exact ⟨rfl, rfl⟩))
  rintro t0 rfl
  rw [if_pos rfl]
  have hwl := recsW_len l begin
  have hs : recsGood l begin ↔ captB (recsW l begin) = true := ⟨fun h => h.2.2, fun h => ⟨by omega, by omega, h⟩⟩
  generalize recsW l begin = rs at hwl heq hs
  refine run_wpc _ _ _ _ _ ?_
  simp only [hm, go_sem, ↓reduceIte]
  refine call_flat (hP ▸ s_implCaptureValid rs) rfl (.cons (Vw.full rfl (by simp)) .nil) ?_
  simp only [hm, go_sem, ↓reduceIte]
  repeat' first | refine And.intro ?_ ?_ | intro _
  all_goals first
    | omega
    | (rename_i hv; left; refine ⟨?_, fun h => by rw [hs, hv] at h; cases h⟩; rw [heq, if_neg (fun h => by rw [hv] at h; cases h.2)])
    | (rename_i hv; left; refine ⟨rfl, ?_, fun h => by rw [hs, hv] at h; cases h⟩; rw [heq, if_neg (fun h => by rw [hv] at h; cases h.2)])
    | (rename_i hv; right; refine ⟨hs.2 hv, ?_⟩; rw [heq, if_pos ⟨by omega, hv⟩]; exact ⟨0, rfl, rfl⟩)
theorem s_implTalkRecords (t : Talk) (begin : Int) (hb : begin ≤ 9223372036854775807) (hl : t.says.length ≤ 1048576) (hx : ∀ s ∈ t.says, s.text.length ≤ 1048576) :
    Spec Try.prog 11 0 [] [t.ro, .i begin] (fun r hp _ _ => (r = .r .nil ∧ talkRecs t begin = []) ∨ ∃ b, r = .sl b 0 (talkRecs t begin).length ∧ hget hp b = some (.row 2 ((talkRecs t begin).map Rec.row))) :=
  (s_implTalkRecordsG t begin hb hl hx).mono fun r hp nx gs h => by
    rcases h with ⟨h1, h2, _⟩ | ⟨_, h⟩
    · exact .inl ⟨h1, h2⟩
    · exact .inr h
theorem s_sameRecords (l : List Rec) : Spec Try.prog 13 0 [] [.r (.ro none (l.map Rec.row)), .r (.ro none (l.map Rec.row))] (fun r _ _ _ => r = .bo true) := by
  refine mk13 rfl fun c hP hm => ?_
  unfold pc13
  simp only [hm, go_sem, ↓reduceIte]
  intro hlen _
  refine lp_wpc (α := Nat) (fun i => ⟨[(0, .r (.ro none (l.map Rec.row))), (1, .r (.ro none (l.map Rec.row))), (5, .i i)], [], 0, []⟩) (fun i => i ≤ l.length) (fun i => l.length - i) 0 (Nat.zero_le _) (by (refine le_ev [] ?_; simp only [hm, go_sem, ↓reduceIte]; first | done | rfl | exact ⟨rfl, rfl⟩)) ?_
  intro i hi
  unfold pc13l0
  rcases Nat.lt_or_ge i l.length with hil | hil
  · have hw : IntKind.i64.wrap ((i : Int) + 1) = ((i + 1 : Nat) : Int) := by rw [wrap64 (by omega) (by omega)]; omega
    have hg := getD_map (f := Rec.row) hil
    generalize l[i] = x at hg
    simp only [hw, Int.toNat_natCast, hg, Rec.row, hm, go_sem, ↓reduceIte]
    repeat' first | refine And.intro ?_ ?_ | intro _
    all_goals first
      | omega
      | rfl
      | (refine ⟨i + 1, hil, by omega, ?_⟩; (refine le_ev [] ?_; simp only [hm, go_sem, ↓reduceIte]; first | done | rfl | exact ⟨rfl, rfl⟩))
  · have : i = l.length := by omega
    subst this
    simp only [hm, go_sem, ↓reduceIte]
    repeat' first | refine And.intro ?_ ?_ | intro _
    all_goals first
      | omega
      | rfl
theorem s_implTalkRecordsP (t : Talk) (begin : Int) (hb : begin ≤ 9223372036854775807) (hl : t.says.length ≤ 1048576) (hx : ∀ s ∈ t.says, s.text.length ≤ 1048576) :
    Spec Try.prog 11 0 [] [t.ro, .i begin] (Plain fun r => r = .r (.ro none ((talkRecs t begin).map Rec.row))) := by
  refine Spec.le (s_implTalkRecords t begin hb hl hx) fun r hp nx gs h => ⟨_, [], 0, [], ⟨rfl, rfl, rfl, rfl⟩, fun c hc => ?_⟩
  rcases h with ⟨rfl, h⟩ | ⟨b, rfl, h⟩
  · rw [h]
    exact Le.trans (t := ⟨[(0, .r .nil)], [], 0, []⟩) (le_ev [] (by simp only [hc, go_sem, ↓reduceIte])) le_nil
  · refine Le.trans (t := ⟨[(0, .sl 0 0 (talkRecs t begin).length)], [(0, .row 2 ((talkRecs t begin).map Rec.row))], 1, []⟩) (le_ev [(0, b)] (by simp only [hc, go_sem, ↓reduceIte, h])) ?_
    refine Le.trans (le_frz 0 rfl (by simp only [List.length_map, go_sem, ↓reduceIte]) (by simp only [go_sem, ↓reduceIte])) ?_
    simp only [take_map_len, List.drop_zero, go_sem, ↓reduceIte]
    exact le_ev [] (by simp only [hc, go_sem, ↓reduceIte])
theorem s_specTalkRecordsP (t : Talk) (begin : Int) (hb : begin ≤ 9223372036854775807) (hl : t.says.length ≤ 1048576) (hx : ∀ s ∈ t.says, s.text.length ≤ 1048576) :
    Spec Try.prog 12 0 [] [t.ro, .i begin] (Plain fun r => r = .r (.ro none ((talkRecs t begin).map Rec.row))) := by
  have := s_specTalkRecords t begin hb hl hx
  rw [← List.length_map (f := Rec.row)] at this
  exact this.dataP
theorem s_DrawTalkRecords (code : List UInt8) : Spec Try.prog 10 0 [] [.r (.ro none (code.map byteRow))] (Plain fun r => ∃ (t : Talk) (n : Int), r = .tup [t.ro, .i n] ∧ TalkIs t ∧ -1 ≤ n ∧ n ≤ 5000000000) := by
  refine Spec.le (Q := fun r hp _ _ => ∃ (t : Talk) (n : Int), ∃ b, r = .tup [t.av (.sl b 0 t.says.length), .i n] ∧ hget hp b = some (.row 4 (t.says.map Say.row)) ∧ TalkIs t ∧ -1 ≤ n ∧ n ≤ 5000000000) ?_ ?_
  · refine mk10 rfl fun c hP hm => ?_
    unfold pc10
    simp only [hm, go_sem, ↓reduceIte]
    refine call_newV (hP ▸ s_l6Open code) rfl rfl ?_
    simp only [hm, go_sem, ↓reduceIte]
    refine c_drawT (hP ▸ s_l92Odd _ 0 (by omega) (by simp; omega)) rfl fun t p1 h1 h2 h3 h4 => ?_
    simp only [Talk.av, hm, go_sem, ↓reduceIte]
    refine c_pick hP (by rfl) (by omega) (by simp; omega) fun u hu => ?_
    simp only [hm, go_sem, ↓reduceIte]
    repeat' first
      | refine And.intro ?_ ?_
      | intro _
      | (refine c_pick (n := 4) hP (by rfl) (by omega) (by simp; omega) fun v hv => ?_
         have hv4 : v = 0 ∨ v = 1 ∨ v = 2 ∨ v = 3 := by unfold Below at hv; omega
         rcases hv4 with rfl | rfl | rfl | rfl <;> simp only [Int.reduceToNat, List.getD_cons_zero, List.getD_cons_succ, hm, go_sem, ↓reduceIte])
      | (refine c_pick (n := 100) hP (by rfl) (by omega) (by simp; omega) fun v hv => ?_; simp only [hm, go_sem, ↓reduceIte])
    all_goals first
      | omega
      | rfl
      | exact ⟨t, _, 2, rfl, rfl, ⟨h3, h4⟩, by decide, by decide⟩
      | (have hb100 := ‹Below 100 _›; unfold Below at hb100; exact ⟨t, _, 2, rfl, rfl, ⟨h3, h4⟩, by omega, by omega⟩)
  · rintro r hp nx gs ⟨t, n, b, rfl, hb, ht⟩
    refine ⟨.tup [t.ro, .i n], [], 0, [], ⟨⟨t, n, rfl, ht⟩, rfl, rfl, rfl⟩, fun c hc => ?_⟩
    refine Le.trans (t := ⟨[(0, .tup [t.av (.sl 0 0 t.says.length), .i n])], [(0, .row 4 (t.says.map Say.row))], 1, []⟩) (le_ev [(0, b)] ?_) ?_
    · simp only [Talk.av, hc, go_sem, ↓reduceIte, hb]
    · refine Le.trans (le_frz 0 rfl (by simp only [List.length_map, Talk.av, go_sem, ↓reduceIte]) (by simp only [go_sem, ↓reduceIte])) ?_
      simp only [take_map_len, List.drop_zero, Talk.av, go_sem, ↓reduceIte]
      exact le_ev [] (by simp only [hc, Talk.ro, Talk.av, go_sem, ↓reduceIte])
end Go.Cap

/- Plain facts: the records of a talk are those of a valid talk. -/
namespace Go.Cap
open Go Go.Proofs
set_option linter.unusedSimpArgs false
set_option linter.unusedVariables false

theorem talkRecs_good {t : Talk} {n : Int} (h : talkRecs t n ≠ []) : talkB t = true ∧ talkRecs t n = recsOf (talkPk t) n ∧ captB (recsOf (talkPk t) n) = true := by
  have hv : talkB t = true := by
    cases hb : talkB t
    · exfalso
      apply h
      have hp : talkPk t = [] := by unfold talkPk; rw [hb]; rfl
      unfold talkRecs
      rw [hp]
      split <;> rfl
    · rfl
  unfold talkRecs at h ⊢
  split
  · rename_i hc; exact ⟨hv, rfl, hc.2⟩
  · rename_i hc; rw [if_neg hc] at h; exact absurd rfl h
end Go.Cap

import Derived.Test.YtpbkanglfmegpaaLawB
import Derived.Test.YtpbkanglfmegpaaPc
/- Contracts: a chunk, the tag, a packet alone, and the step of an association (the reference's). -/
namespace Go.Cap
open Go Go.Proofs
set_option maxRecDepth 100000
set_option linter.unusedSimpArgs false
set_option linter.unusedVariables false
attribute [local irreducible] Call Run Spec Le

theorem s_l31Chunk (a : Assoc) (byB : Bool) (k : Chunk) (hs : k.body.length ≤ 1000000) (hw : AW a) : Spec Try.prog 120 0 [] [a.ro, .bo byB, k.av] (fun r _ _ _ => r = resA (stepChunk a byB k)) := by
  have h1 := s_l31Init a byB k (by omega)
  have h2 := s_l31Data a byB k (by omega) hw
  have h3 := s_l31Sack a byB k hs hw
  have h4 := s_l31End a byB k.kind
  have h5 := s_l31Cookie a byB k.kind
  refine mk120 rfl fun c hP hm => ?_
  unfold pc120
  unfold Chunk.av at h1 h2 h3 ⊢
  have hu : a.ro = .agg [.i a.fr, .i a.to, .i a.state, .bo a.byB, .i a.a.tag, .i a.a.streams, .i a.a.first, .r (.ro none (a.a.sent.map Data.row)), .i a.a.acked, .i a.b.tag, .i a.b.streams, .i a.b.first, .r (.ro none (a.b.sent.map Data.row)), .i a.b.acked] := rfl
  rw [hu] at h1 h2 h3 h4 h5 ⊢
  unfold stepChunk
  generalize stepInit a byB k = r1 at h1
  generalize stepData a byB k = r2 at h2
  generalize stepSack a byB k = r3 at h3
  generalize stepEnd a byB k.kind = r4 at h4
  generalize stepRest a byB k.kind = r5 at h5
  unfold resA Assoc.ro Assoc.av at h1 h2 h3 h4 h5
  simp only [hm, go_sem, ↓reduceIte]
  repeat' first
    | refine And.intro ?_ ?_
    | intro _
    | (refine call_data (hP ▸ h1) rfl rfl ?_; simp only [hm, go_sem, ↓reduceIte])
    | (refine call_data (hP ▸ h2) rfl rfl ?_; simp only [hm, go_sem, ↓reduceIte])
    | (refine call_data (hP ▸ h3) rfl rfl ?_; simp only [hm, go_sem, ↓reduceIte])
    | (refine call_data (hP ▸ h4 (by omega)) rfl rfl ?_; simp only [hm, go_sem, ↓reduceIte])
    | (refine call_data (hP ▸ h5) rfl rfl ?_; simp only [hm, go_sem, ↓reduceIte])
  all_goals first
    | omega
    | (refine resA_a ?_
       repeat' split
       all_goals first
         | rfl
         | (exfalso; omega))
theorem s_l31Tag (a : Assoc) (byB : Bool) (p : Packet) (hl : p.chunks.length ≤ 1000000) : Spec Try.prog 119 0 [] [a.ro, .bo byB, p.ro] (fun r _ _ _ => r = .i (tagOf a byB p)) := by
  have hS := s_l31Side a byB
  unfold tagOf
  refine mr119 rfl fun c hP hm => ?_
  unfold pc119
  unfold Assoc.ro Assoc.av at hS ⊢
  unfold Packet.ro
  refine run_seq (run_wpc _ _ _ _ _ ?_)
  simp only [hm, go_sem, ↓reduceIte]
  refine run_seq (run_wpc _ _ _ _ _ ?_)
  simp only [hm, go_sem, ↓reduceIte]
  refine run_exit 0 (fun t0 => t0 = ⟨[(1, .bo byB), (3, .ptr 0 0 0)], [(0, .var [.i a.fr, .i a.to, .i a.state, .bo a.byB, .i a.a.tag, .i a.a.streams, .i a.a.first, .r (.ro none (a.a.sent.map Data.row)), .i a.a.acked, .i a.b.tag, .i a.b.streams, .i a.b.first, .r (.ro none (a.b.sent.map Data.row)), .i a.b.acked])], 1, []⟩ ∧ p.chunks.any (fun c => decide (c.kind = 1)) = false) ?_ ?_
  · refine lp_wpc (α := Nat) (fun i => ⟨[(1, .bo byB), (3, .ptr 0 0 0), (5, .ptr 1 0 0), (7, .i i)], [(0, .var [.i a.fr, .i a.to, .i a.state, .bo a.byB, .i a.a.tag, .i a.a.streams, .i a.a.first, .r (.ro none (a.a.sent.map Data.row)), .i a.a.acked, .i a.b.tag, .i a.b.streams, .i a.b.first, .r (.ro none (a.b.sent.map Data.row)), .i a.b.acked]), (1, .var [.i p.fr, .i p.to, .i p.tag, .r (.ro none (p.chunks.map Chunk.row))])], 2, []⟩)
      (fun i => i ≤ p.chunks.length ∧ ∀ c ∈ p.chunks.take i, c.kind ≠ 1) (fun i => p.chunks.length - i) 0 ⟨Nat.zero_le _, fun c hc => by simp at hc⟩ (by (refine le_ev [] ?_; simp only [hm, go_sem, ↓reduceIte]; first | done | rfl | exact ⟨rfl, rfl⟩)) ?_
    rintro i ⟨hi, hI⟩
    unfold pc119l0
    rcases Nat.lt_or_ge i p.chunks.length with hil | hil
    · have hw : IntKind.i64.wrap ((i : Int) + 1) = ((i + 1 : Nat) : Int) := by rw [wrap64 (by omega) (by omega)]; omega
      have hg := getD_map (f := Chunk.row) hil
      have htk := take_get hil
      have hmem := List.getElem_mem hil
      generalize p.chunks[i] = x at hg htk hmem
      simp only [hw, Int.toNat_natCast, hg, Chunk.row, hm, go_sem, ↓reduceIte]
      repeat' first | refine And.intro ?_ ?_ | intro _
      all_goals first
        | omega
        | rfl
        | (rename_i hk; rw [if_pos (List.any_eq_true.2 ⟨x, hmem, by simp [hk]⟩)])
        | (rename_i hk
           refine ⟨i + 1, ⟨hil, fun y hy => ?_⟩, by omega, ?_⟩
           · rw [htk] at hy
             rcases List.mem_append.1 hy with hy | hy
             · exact hI y hy
             · simp only [List.mem_singleton] at hy; subst hy; exact hk
           · (refine le_ev [] ?_; simp only [hm, go_sem, ↓reduceIte]; first | done | rfl | exact ⟨rfl, rfl⟩))
    · have : i = p.chunks.length := by omega
      subst this
      rw [List.take_length] at hI
      have hall : p.chunks.any (fun c => decide (c.kind = 1)) = false := by
        rw [Bool.eq_false_iff]
        intro h
        obtain ⟨x, hx, hk⟩ := List.any_eq_true.1 h
        exact hI x hx (by simpa using hk)
      simp only [hm, go_sem, ↓reduceIte]
      repeat' first | refine And.intro ?_ ?_ | intro _
      all_goals first
        | omega
        | (refine ⟨_, ⟨rfl, hall⟩, ?_⟩; (refine le_ev [] ?_; simp only [hm, go_sem, ↓reduceIte]; first | done | rfl | exact ⟨rfl, rfl⟩))
  rintro t0 ⟨rfl, hA⟩
  rw [hA]
  refine run_wpc _ _ _ _ _ ?_
  simp only [hm, go_sem, ↓reduceIte]
  refine call_data (hP ▸ hS) (by cases byB <;> rfl) rfl ?_
  generalize a.own byB = o'
  generalize a.other byB = o
  simp only [Side.ro, Side.av, Bool.false_eq_true, if_false, hm, go_sem, ↓reduceIte]
theorem s_l13Alone (k : Int) : Spec Try.prog 109 0 [] [.i k] (fun r _ _ _ => r = .bo (aloneK k)) := by
  refine mk109 rfl fun c hP hm => ?_
  unfold pc109
  simp only [hm, go_sem, ↓reduceIte]
  repeat' first | refine And.intro ?_ ?_ | intro _
  all_goals (apply bo_inj; simp [aloneK, beq_dec, *])
theorem s_specPacketAlone (p : Packet) (hl : p.chunks.length ≤ 1000000) : Spec Try.prog 92 0 [] [p.ro] (fun r _ _ _ => r = .bo (aloneB p)) := by
  refine mr92 rfl fun c hP hm => ?_
  unfold pc92 Packet.ro
  refine run_seq (run_wpc _ _ _ _ _ ?_)
  simp only [hm, go_sem, ↓reduceIte]
  refine run_seq (run_wpc _ _ _ _ _ ?_)
  simp only [hm, go_sem, ↓reduceIte]
  refine run_exit 0 (fun t0 => t0 = ⟨[(1, .ptr 0 0 0)], [(0, .var [.i p.fr, .i p.to, .i p.tag, .r (.ro none (p.chunks.map Chunk.row))])], 1, []⟩ ∧ ∀ c ∈ p.chunks, aloneK c.kind = true → p.chunks.length ≤ 1) ?_ ?_
  · refine lp_wpc (α := Nat) (fun i => ⟨[(1, .ptr 0 0 0), (3, .i i)], [(0, .var [.i p.fr, .i p.to, .i p.tag, .r (.ro none (p.chunks.map Chunk.row))])], 1, []⟩)
      (fun i => i ≤ p.chunks.length ∧ ∀ c ∈ p.chunks.take i, aloneK c.kind = true → p.chunks.length ≤ 1) (fun i => p.chunks.length - i) 0 ⟨Nat.zero_le _, fun c hc => by simp at hc⟩ (by (refine le_ev [] ?_; simp only [hm, go_sem, ↓reduceIte]; first | done | rfl | exact ⟨rfl, rfl⟩)) ?_
    rintro i ⟨hi, hI⟩
    unfold pc92l0
    rcases Nat.lt_or_ge i p.chunks.length with hil | hil
    · have hw : IntKind.i64.wrap ((i : Int) + 1) = ((i + 1 : Nat) : Int) := by rw [wrap64 (by omega) (by omega)]; omega
      have hg := getD_map (f := Chunk.row) hil
      have htk := take_get hil
      have hmem := List.getElem_mem hil
      generalize p.chunks[i] = x at hg htk hmem
      have hbad : aloneK x.kind = true → 1 < p.chunks.length → AV.r (RV.b false) = AV.bo (aloneB p) := fun h1 h2 => by
        apply bo_inj; symm; rw [Bool.eq_false_iff]; intro hh
        simp only [aloneB, Bool.and_eq_true, Bool.or_eq_true, decide_eq_true_eq, List.all_eq_true] at hh
        rcases hh.2 with h | h
        · omega
        · have := h x hmem; rw [h1] at this; cases this
      have hstep : (aloneK x.kind = true → p.chunks.length ≤ 1) → ∀ c ∈ p.chunks.take (i + 1), aloneK c.kind = true → p.chunks.length ≤ 1 := fun h c hc => by
        rw [htk] at hc
        rcases List.mem_append.1 hc with hc | hc
        · exact hI c hc
        · simp only [List.mem_singleton] at hc; subst hc; exact h
      simp only [hw, Int.toNat_natCast, hg, Chunk.row, hm, go_sem, ↓reduceIte]
      repeat' first | refine And.intro ?_ ?_ | intro _ | (refine call_pure (hP ▸ s_l13Alone x.kind) rfl rfl ?_; simp only [hw, Int.toNat_natCast, hg, Chunk.row, hm, go_sem, ↓reduceIte])
      all_goals first
        | omega
        | rfl
        | exact hbad (by assumption) (by omega)
        | (refine ⟨i + 1, ⟨hil, hstep fun h => by omega⟩, by omega, ?_⟩; (refine le_ev [] ?_; simp only [hm, go_sem, ↓reduceIte]; first | done | rfl | exact ⟨rfl, rfl⟩))
        | (rename_i hk; refine ⟨i + 1, ⟨hil, hstep fun h => by rw [hk] at h; cases h⟩, by omega, ?_⟩; (refine le_ev [] ?_; simp only [hm, go_sem, ↓reduceIte]; first | done | rfl | exact ⟨rfl, rfl⟩))
    · have : i = p.chunks.length := by omega
      subst this
      rw [List.take_length] at hI
      simp only [hm, go_sem, ↓reduceIte]
      repeat' first | refine And.intro ?_ ?_ | intro _
      all_goals first
        | omega
        | (refine ⟨_, ⟨rfl, hI⟩, ?_⟩; (refine le_ev [] ?_; simp only [hm, go_sem, ↓reduceIte]; first | done | rfl | exact ⟨rfl, rfl⟩))
  rintro t0 ⟨rfl, hG⟩
  have hal : aloneB p = packB p := by
    unfold aloneB
    cases hb : packB p
    · rfl
    · rw [Bool.true_and, Bool.or_eq_true, decide_eq_true_eq, List.all_eq_true]
      have hn : 1 ≤ p.chunks.length := by
        simp only [packB, Bool.and_eq_true, decide_eq_true_eq] at hb; omega
      by_cases h : p.chunks.length = 1
      · exact .inl h
      · right
        intro x hx
        cases hk : aloneK x.kind
        · rfl
        · have := hG x hx hk; omega
  have hpv := s_specPacketValid p hl
  unfold Packet.ro at hpv
  rw [hal]
  refine run_wpc _ _ _ _ _ ?_
  simp only [hm, go_sem, ↓reduceIte]
  refine call_pure (hP ▸ hpv) rfl rfl ?_
  simp only [hm, go_sem, ↓reduceIte]
theorem s_l31Side2 (s : Side) (hl : s.sent.length ≤ 1000000) : Spec Try.prog 83 0 [] [s.ro] (fun r _ _ _ => r = s.ro) := by
  refine mr83 rfl fun c hP hm => ?_
  unfold pc83 Side.ro Side.av
  refine run_seq (run_wpc _ _ _ _ _ ?_)
  simp only [hm, go_sem, ↓reduceIte]
  refine run_seq (run_wpc _ _ _ _ _ ?_)
  simp only [hm, go_sem, ↓reduceIte]
  refine ⟨⟨fun r hr => by obtain ⟨d, _, rfl⟩ := List.mem_map.1 hr; rfl, by omega⟩, ?_⟩
  refine run_frz 2 rfl (by first | (simp only [hm, List.length_map, go_sem, ↓reduceIte]; done) | (simp only [hm, List.length_map, go_sem, ↓reduceIte]; omega)) (by first | (simp only [hm, List.length_map, go_sem, ↓reduceIte]; done) | (simp only [hm, List.length_map, go_sem, ↓reduceIte]; omega)) ?_; simp only [hm, take_map_len, List.drop_zero, go_sem, ↓reduceIte]
  refine run_wpc _ _ _ _ _ ?_
  simp only [hm, go_sem, ↓reduceIte]
theorem s_l31Copy (a : Assoc) (ha : a.a.sent.length ≤ 1000000) (hb : a.b.sent.length ≤ 1000000) : Spec Try.prog 65 0 [] [a.ro] (fun r _ _ _ => r = a.ro) := by
  refine mk65 rfl fun c hP hm => ?_
  unfold pc65 Assoc.ro Assoc.av
  simp only [hm, go_sem, ↓reduceIte]
  refine call_data (hP ▸ s_l31Side2 a.a ha) rfl rfl ?_
  simp only [Side.ro, Side.av, hm, go_sem, ↓reduceIte]
  refine call_data (hP ▸ s_l31Side2 a.b hb) rfl rfl ?_
  simp only [Side.ro, Side.av, hm, go_sem, ↓reduceIte]
/-- Which rules are broken, as rows. -/
def bRows (b : Nat → Bool) : List (List RV) := (List.range 12).map fun k => [RV.b (b k)]
theorem bRows_len (b : Nat → Bool) : (bRows b).length = 12 := by simp [bRows]
theorem bRows_get (b : Nat → Bool) {k : Nat} (h : k < 12) : (bRows b).getD k [] = [.b (b k)] := by
  simp [bRows, List.getD_eq_getElem?_getD, h]
theorem bRows_set {b b' : Nat → Bool} {n : Nat} (h : ∀ k, b' k = (b k || k == n)) : (bRows b).set n [.b true] = bRows b' := by
  refine List.ext_getElem (by simp [bRows]) fun k h1 h2 => ?_
  simp only [bRows, List.getElem_set, List.getElem_map, List.getElem_range, h]
  by_cases e : n = k
  · subst e; simp
  · have : ¬ k = n := fun e' => e e'.symm
    simp [e, this]
theorem brokenB_add (a : Assoc) (byB : Bool) (p : Packet) (rs : List Int) {r : Int} (hr : 0 ≤ r) (k : Nat) : brokenB a byB p (rs ++ [r]) k = (brokenB a byB p rs k || k == r.toNat) := by
  unfold brokenB
  have e : (rs ++ [r]).contains (k : Int) = (rs.contains (k : Int) || k == r.toNat) := by
    rw [Bool.eq_iff_iff]
    simp only [List.contains_iff_mem, List.mem_append, List.mem_singleton, Bool.or_eq_true, beq_iff_eq]
    constructor
    · rintro (h | h)
      · exact .inl h
      · right; omega
    · rintro (h | h)
      · exact .inl h
      · right; omega
  rw [e]
  cases (k == 1 && !aloneB p) <;> cases (k == 2 && decide (p.tag ≠ tagOf a byB p)) <;> simp
theorem stepInit_ok (a : Assoc) (byB : Bool) (c : Chunk) (h : AW a) : AW (stepInit a byB c).1 ∧ 0 ≤ (stepInit a byB c).2 ∧ (stepInit a byB c).2 ≤ 11 := by
  unfold stepInit
  simp only
  split
  · exact ⟨h, by simp, by simp⟩
  · cases hg : initGet c with
    | none => exact ⟨h, by simp, by simp⟩
    | some x =>
      simp only
      split
      · split
        · exact ⟨h, by simp, by simp⟩
        · exact ⟨h, by simp, by simp⟩
      · refine ⟨AW.put (a := { a with state := a.state + 1 }) h byB ?_, by simp, by simp⟩
        have := initGet_ok hg
        simp only [initB, serialB, Bool.and_eq_true, decide_eq_true_eq] at this
        exact ⟨by simp only; omega, by simp, by simp⟩
theorem stepData_ok (a : Assoc) (byB : Bool) (c : Chunk) (h : AW a) : AW (stepData a byB c).1 ∧ 0 ≤ (stepData a byB c).2 ∧ (stepData a byB c).2 ≤ 11 := by
  unfold stepData
  simp only
  split
  · exact ⟨h, by simp, by simp⟩
  · cases hg : dataGet c with
    | none => exact ⟨h, by simp, by simp⟩
    | some d =>
      simp only
      split
      · split
        · exact ⟨h, by simp, by simp⟩
        · exact ⟨h, by simp, by simp⟩
      split
      · exact ⟨h, by simp, by simp⟩
      split
      · exact ⟨h, by simp, by simp⟩
      split
      · exact ⟨h, by simp, by simp⟩
      split
      · exact ⟨h, by simp, by simp⟩
      split
      · exact ⟨h, by simp, by simp⟩
      · rename_i hlen
        obtain ⟨h1, h2, h3⟩ := h.own byB
        refine ⟨h.put byB ⟨h1, by simp only [List.length_append, List.length_cons, List.length_nil]; omega, fun x hx => ?_⟩, by simp, by simp⟩
        rcases List.mem_append.1 hx with hx | hx
        · exact h3 x hx
        · simp only [List.mem_singleton] at hx; subst hx; exact dataGet_ok hg
theorem stepSack_ok (a : Assoc) (byB : Bool) (c : Chunk) (h : AW a) : AW (stepSack a byB c).1 ∧ 0 ≤ (stepSack a byB c).2 ∧ (stepSack a byB c).2 ≤ 11 := by
  unfold stepSack
  simp only
  split
  · exact ⟨h, by simp, by simp⟩
  · cases hg : sackGet c with
    | none => exact ⟨h, by simp, by simp⟩
    | some x =>
      simp only
      split
      · exact ⟨h, by simp, by simp⟩
      · exact ⟨h.put (!byB) (h.other byB), by simp, by simp⟩
theorem stepEnd_ok (a : Assoc) (byB : Bool) (k : Int) (h : AW a) : AW (stepEnd a byB k).1 ∧ 0 ≤ (stepEnd a byB k).2 ∧ (stepEnd a byB k).2 ≤ 11 := by
  unfold stepEnd
  simp only
  repeat' split
  all_goals exact ⟨h, by simp, by simp⟩
theorem stepRest_ok (a : Assoc) (byB : Bool) (k : Int) (h : AW a) : AW (stepRest a byB k).1 ∧ 0 ≤ (stepRest a byB k).2 ∧ (stepRest a byB k).2 ≤ 11 := by
  unfold stepRest
  repeat' split
  all_goals exact ⟨h, by simp, by simp⟩
theorem stepChunk_ok (a : Assoc) (byB : Bool) (c : Chunk) (h : AW a) : AW (stepChunk a byB c).1 ∧ 0 ≤ (stepChunk a byB c).2 ∧ (stepChunk a byB c).2 ≤ 11 := by
  unfold stepChunk
  split
  · exact stepInit_ok a byB c h
  split
  · exact stepData_ok a byB c h
  split
  · exact stepSack_ok a byB c h
  split
  · exact stepEnd_ok a byB _ h
  · exact stepRest_ok a byB _ h
theorem stepChunks_append (byB : Bool) (c : Chunk) : ∀ (l : List Chunk) (a : Assoc) (rs : List Int), stepChunks byB (l ++ [c]) a rs = ((stepChunk (stepChunks byB l a rs).1 byB c).1, (stepChunks byB l a rs).2 ++ [(stepChunk (stepChunks byB l a rs).1 byB c).2])
  | [], a, rs => rfl
  | x :: l, a, rs => by simp only [List.cons_append, stepChunks]; exact stepChunks_append byB c l _ _
theorem stepChunks_ok (byB : Bool) : ∀ (l : List Chunk) (a : Assoc) (rs : List Int), AW a → AW (stepChunks byB l a rs).1
  | [], a, rs, h => h
  | c :: l, a, rs, h => by simp only [stepChunks]; exact stepChunks_ok byB l _ _ (stepChunk_ok a byB c h).1
abbrev Assoc.cellsA (a : Assoc) : List AV := [.i a.fr, .i a.to, .i a.state, .bo a.byB, .i a.a.tag, .i a.a.streams, .i a.a.first, .r (.ro none (a.a.sent.map Data.row)), .i a.a.acked, .i a.b.tag, .i a.b.streams, .i a.b.first, .r (.ro none (a.b.sent.map Data.row)), .i a.b.acked]
theorem s_l31Step (a : Assoc) (byB : Bool) (p : Packet) (hw : AW a) (hp : packB p = true) : Spec Try.prog 110 0 [] [a.ro, .bo byB, p.ro] (Plain fun r => r = .tup [(stepChunks byB p.chunks a []).1.ro, .r (.ro none (bRows (brokenB a byB p (stepChunks byB p.chunks a []).2)))]) := by
  have hpb := hp
  simp only [packB, Bool.and_eq_true, decide_eq_true_eq, List.all_eq_true, chunkB] at hpb
  have hcl : p.chunks.length ≤ 4 := by omega
  have hbody : ∀ x ∈ p.chunks, x.body.length ≤ 60 := fun x hx => (hpb.2 x hx).2
  have hal := s_specPacketAlone p (by omega)
  have htg := s_l31Tag a byB p (by omega)
  unfold Packet.ro at hal htg
  have hu : a.ro = .agg [.i a.fr, .i a.to, .i a.state, .bo a.byB, .i a.a.tag, .i a.a.streams, .i a.a.first, .r (.ro none (a.a.sent.map Data.row)), .i a.a.acked, .i a.b.tag, .i a.b.streams, .i a.b.first, .r (.ro none (a.b.sent.map Data.row)), .i a.b.acked] := rfl
  rw [hu] at htg
  refine Spec.plain ?_ rfl
  refine mr110 rfl fun c hP hm => ?_
  unfold pc110 Packet.ro
  rw [hu]
  refine run_seq (run_wpc _ _ _ _ _ ?_)
  simp only [hm, go_sem, ↓reduceIte]
  refine run_seq (run_wpc _ _ _ _ _ ?_)
  simp only [hm, go_sem, ↓reduceIte]
  refine ⟨by omega, ?_⟩
  refine run_seq (run_wpc _ _ _ _ _ ?_)
  simp only [hm, go_sem, ↓reduceIte]
  refine call_pure (hP ▸ hal) rfl rfl ?_
  simp only [hm, go_sem, ↓reduceIte]
  refine run_seq (run_wpc _ _ _ _ _ ?_)
  simp only [hm, go_sem, ↓reduceIte]
  refine call_pure (hP ▸ htg) rfl rfl ?_
  simp only [hm, go_sem, ↓reduceIte]
  have e : (p.tag != tagOf a byB p) = decide (p.tag ≠ tagOf a byB p) := by by_cases h : p.tag = tagOf a byB p <;> simp [h]
  have hr0 : [[.b false], [.b (!aloneB p)], [.b (p.tag != tagOf a byB p)], [.b false], [.b false], [.b false], [.b false], [.b false], [.b false], [.b false], [.b false], [.b false]] = bRows (brokenB a byB p []) := by
    rw [e]
    simp [bRows, brokenB, List.range, List.range.loop]
  simp only [hr0, hm, go_sem, ↓reduceIte]
  refine run_seq (run_wpc _ _ _ _ _ ?_)
  simp only [hm, go_sem, ↓reduceIte]
  refine run_seq (run_wpc _ _ _ _ _ ?_)
  simp only [hm, go_sem, ↓reduceIte]
  refine run_exit 0 (fun t0 => t0 = ⟨[(6, .ptr 2 0 0), (8, .sl 3 0 12), (9, .ptr 4 0 0)], [(2, .var [.i 0, .i 0, .i 0, .bo false, .i 0, .i 0, .i 0, .r .nil, .i 0, .i 0, .i 0, .i 0, .r .nil, .i 0]), (3, .row 1 (bRows (brokenB a byB p (stepChunks byB p.chunks a []).2))), (4, .var (stepChunks byB p.chunks a []).1.cellsA)], 5, []⟩) ?_ ?_
  · refine lp_wpc (α := Nat) (fun i => ⟨[(1, .bo byB), (5, .ptr 1 0 0), (6, .ptr 2 0 0), (8, .sl 3 0 12), (9, .ptr 4 0 0), (10, .i i)], [(1, .var [.i p.fr, .i p.to, .i p.tag, .r (.ro none (p.chunks.map Chunk.row))]), (2, .var [.i 0, .i 0, .i 0, .bo false, .i 0, .i 0, .i 0, .r .nil, .i 0, .i 0, .i 0, .i 0, .r .nil, .i 0]), (3, .row 1 (bRows (brokenB a byB p (stepChunks byB (p.chunks.take i) a []).2))), (4, .var (stepChunks byB (p.chunks.take i) a []).1.cellsA)], 5, []⟩)
      (fun i => i ≤ p.chunks.length) (fun i => p.chunks.length - i) 0 (Nat.zero_le _) (by simp only [List.take_zero, stepChunks, Assoc.cellsA]; (refine le_ev [] ?_; simp only [hm, go_sem, ↓reduceIte]; first | done | rfl | exact ⟨rfl, rfl⟩)) ?_
    intro i hi
    unfold pc110l0
    rcases Nat.lt_or_ge i p.chunks.length with hil | hil
    · have hw1 : IntKind.i64.wrap ((i : Int) + 1) = ((i + 1 : Nat) : Int) := by rw [wrap64 (by omega) (by omega)]; omega
      have hg := getD_map (f := Chunk.row) hil
      have htk := take_get hil
      have hbx := hbody _ (List.getElem_mem hil)
      have hok := stepChunks_ok byB (p.chunks.take i) a [] hw
      have hap := stepChunks_append byB p.chunks[i] (p.chunks.take i) a []
      rw [← htk] at hap
      generalize p.chunks[i] = x at hg hbx hap
      generalize (stepChunks byB (p.chunks.take i) a []).1 = o at hok hap
      generalize (stepChunks byB (p.chunks.take i) a []).2 = rs at hap
      have hch := s_l31Chunk o byB x (by omega) hok
      have hsr := (stepChunk_ok o byB x hok).2
      unfold resA at hch
      generalize stepChunk o byB x = y at hch hsr hap
      have hset : (bRows (brokenB a byB p rs)).set y.2.toNat [.b true] = bRows (brokenB a byB p (rs ++ [y.2])) := bRows_set fun k => brokenB_add a byB p rs hsr.1 k
      have hlr := bRows_len (brokenB a byB p rs)
      have hu2 : o.ro = .agg o.cellsA := rfl
      have hu3 : y.1.ro = .agg y.1.cellsA := rfl
      rw [hu2, hu3] at hch
      unfold Assoc.cellsA at hch ⊢
      unfold Chunk.av at hch
      simp only [hw1, Int.toNat_natCast, hg, Chunk.row, hm, go_sem, ↓reduceIte]
      repeat' first
        | refine And.intro ?_ ?_
        | intro _
        | (refine call_data (hP ▸ hch) rfl rfl ?_; simp only [hw1, hset, Int.toNat_natCast, hg, Chunk.row, hm, go_sem, ↓reduceIte])
      all_goals first
        | omega
        | (refine ⟨i + 1, hil, by omega, ?_⟩; rw [hap]; simp only [Assoc.cellsA]; (refine le_ev [] ?_; simp only [hm, go_sem, ↓reduceIte]; first | done | rfl | exact ⟨rfl, rfl⟩))
    · have : i = p.chunks.length := by omega
      subst this
      rw [List.take_length]
      simp only [hm, go_sem, ↓reduceIte]
      repeat' first | refine And.intro ?_ ?_ | intro _
      all_goals first
        | omega
        | (refine ⟨_, rfl, ?_⟩; (refine le_ev [] ?_; simp only [hm, go_sem, ↓reduceIte]; first | done | rfl | exact ⟨rfl, rfl⟩))
  rintro t0 rfl
  rw [if_pos rfl]
  have hu3 : (stepChunks byB p.chunks a []).1.ro = .agg (stepChunks byB p.chunks a []).1.cellsA := rfl
  rw [hu3]
  generalize (stepChunks byB p.chunks a []).1 = o
  have hlr := bRows_len (brokenB a byB p (stepChunks byB p.chunks a []).2)
  generalize bRows (brokenB a byB p (stepChunks byB p.chunks a []).2) = R at *
  have h12 : (12 : Nat) = R.length := hlr.symm
  unfold Assoc.cellsA
  rw [h12]
  refine run_frz 3 rfl (by first | (simp only [hm, List.length_map, go_sem, ↓reduceIte]; done) | (simp only [hm, List.length_map, go_sem, ↓reduceIte]; omega)) (by first | (simp only [hm, List.length_map, go_sem, ↓reduceIte]; done) | (simp only [hm, List.length_map, go_sem, ↓reduceIte]; omega)) ?_; simp only [hm, take_map_len, List.drop_zero, go_sem, ↓reduceIte]
  refine run_wpc _ _ _ _ _ ?_
  simp only [hm, go_sem, ↓reduceIte]
  rw [List.take_length]
end Go.Cap

/- Contracts: the step of an association (the reference's). -/
namespace Go.Cap
open Go Go.Proofs
set_option maxRecDepth 100000
set_option linter.unusedSimpArgs false
set_option linter.unusedVariables false
attribute [local irreducible] Call Run Spec Le

theorem sideLoop_data {add : Int → Int → Int} {s : Side} : ∀ {i : Nat} {l : List Data}, sideLoop add s i l = true → ∀ d ∈ l, dataB d = true
  | _, [], _, _, h => by cases h
  | i, x :: l, h, d, hd => by
    simp only [sideLoop, partB, Bool.and_eq_true] at h
    rcases List.mem_cons.1 hd with rfl | hd
    · exact h.1.1.1.1
    · exact sideLoop_data h.2 d hd
theorem sideB_SW {s : Side} (h : sideB s = true) : SW s := by
  unfold sideB at h
  split at h
  · simp only [noneB, Bool.and_eq_true, beq_iff_eq, decide_eq_true_eq] at h
    obtain ⟨⟨⟨_, h2⟩, h3⟩, _⟩ := h
    have : s.sent = [] := List.length_eq_zero_iff.1 h3
    exact ⟨by omega, by omega, by rw [this]; simp⟩
  · simp only [headB, Bool.and_eq_true, decide_eq_true_eq, serialB] at h
    exact ⟨by omega, by omega, sideLoop_data h.2⟩
theorem assocB_AW {a : Assoc} (h : assocB a = true) : AW a := by
  have := assocB_iff.1 h
  exact ⟨sideB_SW this.2.2.2.2.1, sideB_SW this.2.2.2.2.2.1⟩
/-- The rules up to a number. -/
def rulesTo (b : Nat → Bool) (n : Nat) : List Int := ((List.range n).filter fun k => decide (1 ≤ k) && b k).map fun (k : Nat) => (k : Int)
theorem rulesTo_12 (b : Nat → Bool) : rulesTo b 12 = rulesOf b := rfl
theorem rulesTo_1 (b : Nat → Bool) : rulesTo b 1 = [] := rfl
theorem rulesTo_succ (b : Nat → Bool) {n : Nat} (h : 1 ≤ n) : rulesTo b (n + 1) = rulesTo b n ++ if b n = true then [(n : Int)] else [] := by
  unfold rulesTo
  rw [List.range_succ, List.filter_append, List.map_append]
  congr 1
  cases hb : b n <;> simp [h, hb]
theorem rulesTo_le (b : Nat → Bool) (n : Nat) : (rulesTo b n).length ≤ n := by
  unfold rulesTo
  rw [List.length_map]
  exact Nat.le_trans (List.length_filter_le ..) (by simp)
def zeroA : AV := noAssoc.av (.r .nil) (.r .nil)
def AStepQ (x : Assoc × List Int) : AV → List (Nat × Blk) → Nat → List Nat → Prop := fun r hp _ _ =>
  ∃ b, hget hp b = some (.row 1 (x.2.map intRow)) ∧ (r = .tup [x.1.ro, .sl b 0 x.2.length] ∨ (x.1 = noAssoc ∧ r = .tup [zeroA, .sl b 0 x.2.length]))
theorem s_specAssocStep0 (a : Assoc) (p : Packet) (ha : SFit a.a) (hb : SFit a.b) (hl : p.chunks.length ≤ 1000000) : Spec Try.prog 95 0 [] [a.ro, p.ro] (AStepQ (assocStep a p)) := by
  have hav := s_specAssocValid a ha hb
  have hpv := s_specPacketValid p hl
  have hu : a.ro = .agg a.cellsA := rfl
  have hz : byBOf a p = (p.fr == a.to && p.to == a.fr) := by
    unfold byBOf
    rw [beq_dec, beq_dec, ← Bool.decide_and]
  refine mr95 rfl fun c hP hm => ?_
  unfold pc95
  unfold Packet.ro at hpv ⊢
  rw [hu] at hav ⊢
  unfold Assoc.cellsA at hav ⊢
  refine run_seq (run_wpc _ _ _ _ _ ?_)
  simp only [hm, go_sem, ↓reduceIte]
  refine run_join (fun t => t = ⟨[(2, .ptr 0 0 0), (3, .ptr 1 0 0), (4, .ptr 2 0 0), (6, .bo (byBOf a p))], [(2, .var [.i 0, .i 0, .i 0, .bo false, .i 0, .i 0, .i 0, .r .nil, .i 0, .i 0, .i 0, .i 0, .r .nil, .i 0]), (1, .var [.i p.fr, .i p.to, .i p.tag, .r (.ro none (p.chunks.map Chunk.row))]), (0, .var a.cellsA)], 3, []⟩) (run_wpc _ _ _ _ _ ?_) ?_
  · rw [hz]
    simp only [hm, go_sem, ↓reduceIte]
    repeat' first | refine And.intro ?_ ?_ | intro _
    all_goals first
      | (refine ⟨_, rfl, ?_⟩; simp only [*, beq_self_eq_true, Bool.true_and, Bool.false_and]; (refine le_ev [] ?_; simp only [hm, go_sem, ↓reduceIte]; first | done | rfl | exact ⟨rfl, rfl⟩))
      | (refine ⟨_, rfl, ?_⟩; rw [beq_dec p.fr, decide_eq_false (by assumption), Bool.false_and]; (refine le_ev [] ?_; simp only [hm, go_sem, ↓reduceIte]; first | done | rfl | exact ⟨rfl, rfl⟩))
  rintro t rfl
  have hbad : (assocB a = false ∨ packB p = false ∨ (byBOf a p = false ∧ ¬ (p.fr = a.fr ∧ p.to = a.to))) → assocStep a p = (noAssoc, []) := fun h => by
    unfold assocStep
    rw [if_pos]
    rcases h with h | h | ⟨h1, h2⟩
    · rw [h]; rfl
    · rw [h]; simp
    · rw [h1]
      have : decide (p.fr ≠ a.fr ∨ p.to ≠ a.to) = true := by
        simp only [decide_eq_true_eq]
        by_cases e : p.fr = a.fr
        · exact .inr fun e2 => h2 ⟨e, e2⟩
        · exact .inl e
      rw [this]; simp
  have hgood : assocB a = true → packB p = true → (byBOf a p = true ∨ (p.fr = a.fr ∧ p.to = a.to)) → assocStep a p = (if (rulesOf (brokenB a (byBOf a p) p (stepChunks (byBOf a p) p.chunks a []).2)).isEmpty then (stepChunks (byBOf a p) p.chunks a []).1 else a, rulesOf (brokenB a (byBOf a p) p (stepChunks (byBOf a p) p.chunks a []).2)) := fun h1 h2 h3 => by
    unfold assocStep
    rw [if_neg]
    rw [h1, h2]
    rcases h3 with h | ⟨e1, e2⟩
    · rw [h]; simp
    · simp [e1, e2]
  generalize hbb : byBOf a p = byB at *
  clear hz
  unfold Assoc.cellsA
  refine run_seq (run_wpc _ _ _ _ _ ?_)
  simp only [hm, go_sem, ↓reduceIte]
  refine call_pure (hP ▸ hav) rfl rfl ?_
  cases h1 : assocB a
  · simp only [hm, go_sem, ↓reduceIte]
    rw [hbad (.inl h1)]
    exact ⟨_, rfl, .inr ⟨rfl, rfl⟩⟩
  simp only [hm, go_sem, ↓reduceIte]
  refine call_pure (hP ▸ hpv) rfl rfl ?_
  cases h2 : packB p
  · simp only [hm, go_sem, ↓reduceIte]
    rw [hbad (.inr (.inl h2))]
    exact ⟨_, rfl, .inr ⟨rfl, rfl⟩⟩
  have hAW := assocB_AW h1
  have hstep := s_l31Step a byB p hAW h2
  have hcA := s_l31Copy a (by have := hAW.1.2.1; omega) (by have := hAW.2.2.1; omega)
  have hCW := stepChunks_ok byB p.chunks a [] hAW
  unfold Packet.ro at hstep
  rw [hu] at hstep hcA
  unfold Assoc.cellsA at hstep hcA
  generalize (stepChunks byB p.chunks a []).1 = o at *
  generalize brokenB a byB p (stepChunks byB p.chunks a []).2 = B at *
  have hco := s_l31Copy o (by have := hCW.1.2.1; omega) (by have := hCW.2.2.1; omega)
  have huo : o.ro = .agg o.cellsA := rfl
  rw [huo] at hstep hco
  unfold Assoc.cellsA at hstep hco
  have key : byB = true ∨ (byB = false ∧ p.fr = a.fr ∧ p.to = a.to) ∨ (byB = false ∧ ¬ (p.fr = a.fr ∧ p.to = a.to)) := by
    cases byB
    · by_cases h : p.fr = a.fr ∧ p.to = a.to
      · exact .inr (.inl ⟨rfl, h⟩)
      · exact .inr (.inr ⟨rfl, h⟩)
    · exact .inl rfl
  rcases key with hk | hk | hk
  case inr.inr =>
    obtain ⟨rfl, hk2⟩ := hk
    rw [hbad (.inr (.inr ⟨rfl, hk2⟩))]
    have hne : p.fr ≠ a.fr ∨ p.to ≠ a.to := by
      by_cases e : p.fr = a.fr
      · exact .inr fun e2 => hk2 ⟨e, e2⟩
      · exact .inl e
    simp only [hm, go_sem, ↓reduceIte]
    repeat' first | refine And.intro ?_ ?_ | intro _
    all_goals first
      | exact ⟨_, rfl, .inr ⟨rfl, rfl⟩⟩
      | (exfalso; simp_all; done)
  case inl =>
    have hx := hgood h1 h2 (.inl hk)
    subst hk
    simp only [hm, go_sem, ↓reduceIte]
    refine run_seq (run_wpc _ _ _ _ _ ?_)
    simp only [hm, go_sem, ↓reduceIte]
    refine call_dataP (hP ▸ hstep) rfl rfl ?_
    simp only [hm, go_sem, ↓reduceIte]
    refine run_seq (run_wpc _ _ _ _ _ ?_)
    simp only [hm, go_sem, ↓reduceIte]
    refine run_seq (run_wpc _ _ _ _ _ ?_)
    simp only [hm, go_sem, ↓reduceIte]
    rw [hx]
    refine run_exit 0 (fun t0 => t0 = ⟨[(2, .ptr 0 0 0), (4, .ptr 2 0 0), (7, .ptr 3 0 0), (9, .sl 4 0 (rulesTo B 12).length)], [(0, .var a.cellsA), (2, .var [.i 0, .i 0, .i 0, .bo false, .i 0, .i 0, .i 0, .r .nil, .i 0, .i 0, .i 0, .i 0, .r .nil, .i 0]), (3, .var o.cellsA), (4, .row 1 ((rulesTo B 12).map intRow))], 5, []⟩) ?_ ?_
    · refine lp_wpc (α := Nat) (fun i => ⟨[(2, .ptr 0 0 0), (4, .ptr 2 0 0), (7, .ptr 3 0 0), (8, .r (.ro none (bRows B))), (9, .sl 4 0 (rulesTo B i).length), (10, .i i)], [(0, .var a.cellsA), (2, .var [.i 0, .i 0, .i 0, .bo false, .i 0, .i 0, .i 0, .r .nil, .i 0, .i 0, .i 0, .i 0, .r .nil, .i 0]), (3, .var o.cellsA), (4, .row 1 ((rulesTo B i).map intRow))], 5, []⟩)
        (fun i => 1 ≤ i ∧ i ≤ 12) (fun i => 12 - i) 1 (by omega) (by simp only [rulesTo_1, List.map_nil, List.length_nil, Assoc.cellsA]; (refine le_ev [] ?_; simp only [hm, go_sem, ↓reduceIte]; first | done | rfl | exact ⟨rfl, rfl⟩)) ?_
      rintro i ⟨hi1, hi⟩
      unfold pc95l0
      have hbl := bRows_len B
      rcases Nat.lt_or_ge i 12 with hil | hil
      · have hw1 : IntKind.i64.wrap ((i : Int) + 1) = ((i + 1 : Nat) : Int) := by rw [wrap64 (by omega) (by omega)]; omega
        have hg := bRows_get B hil
        have hs := rulesTo_succ B hi1
        have hle := rulesTo_le B i
        generalize rulesTo B i = rs at hs hle
        have hrt : List.take rs.length (rs.map intRow) = rs.map intRow := List.take_of_length_le (by simp)
        cases hBi : B i <;> rw [hBi] at hg hs <;> simp only [hw1, hg, hrt, hbl, Int.toNat_natCast, hm, go_sem, ↓reduceIte]
        all_goals
          repeat' first | refine And.intro ?_ ?_ | intro _
        all_goals first
          | omega
          | (refine ⟨i + 1, ⟨by omega, by omega⟩, by omega, ?_⟩; rw [hs]; simp only [Bool.false_eq_true, if_false, if_true, List.append_nil, List.map_append, List.length_append, List.length_cons, List.length_nil, List.map_cons, List.map_nil, intRow]; (refine le_ev [] ?_; simp only [hm, go_sem, ↓reduceIte]; first | done | rfl | exact ⟨rfl, rfl⟩))
      · have : i = 12 := by omega
        subst this
        simp only [hbl, hm, go_sem, ↓reduceIte]
        repeat' first | refine And.intro ?_ ?_ | intro _
        all_goals first
          | omega
          | (refine ⟨_, rfl, ?_⟩; (refine le_ev [] ?_; simp only [hm, go_sem, ↓reduceIte]; first | done | rfl | exact ⟨rfl, rfl⟩))
    rintro t0 rfl
    rw [if_pos rfl, rulesTo_12]
    generalize rulesOf B = rs at hx ⊢
    unfold Assoc.cellsA
    refine run_wpc _ _ _ _ _ ?_
    simp only [hm, go_sem, ↓reduceIte]
    cases rs with
    | nil =>
      simp only [List.length_nil, List.isEmpty_nil, if_true, hm, go_sem, ↓reduceIte]
      refine call_data (hP ▸ hco) rfl rfl ?_
      simp only [hm, go_sem, ↓reduceIte]
      exact ⟨4, rfl, .inl rfl⟩
    | cons r rs =>
      simp only [List.length_cons, List.isEmpty_cons, Bool.false_eq_true, if_false, hm, go_sem, ↓reduceIte]
      repeat' first | refine And.intro ?_ ?_ | intro _ | (refine call_data (hP ▸ hcA) rfl rfl ?_; simp only [hm, go_sem, ↓reduceIte])
      all_goals first
        | omega
        | exact ⟨4, rfl, .inl rfl⟩
        | (exfalso; omega)
  case inr.inl =>
    obtain ⟨rfl, hk1, hk2⟩ := hk
    have hx := hgood h1 h2 (.inr ⟨hk1, hk2⟩)
    rw [hk1, hk2] at hstep
    simp only [hk1, hk2, hm, go_sem, ↓reduceIte]
    refine run_seq (run_wpc _ _ _ _ _ ?_)
    simp only [hm, go_sem, ↓reduceIte]
    refine call_dataP (hP ▸ hstep) rfl rfl ?_
    simp only [hm, go_sem, ↓reduceIte]
    refine run_seq (run_wpc _ _ _ _ _ ?_)
    simp only [hm, go_sem, ↓reduceIte]
    refine run_seq (run_wpc _ _ _ _ _ ?_)
    simp only [hm, go_sem, ↓reduceIte]
    rw [hx]
    refine run_exit 0 (fun t0 => t0 = ⟨[(2, .ptr 0 0 0), (4, .ptr 2 0 0), (7, .ptr 3 0 0), (9, .sl 4 0 (rulesTo B 12).length)], [(0, .var a.cellsA), (2, .var [.i 0, .i 0, .i 0, .bo false, .i 0, .i 0, .i 0, .r .nil, .i 0, .i 0, .i 0, .i 0, .r .nil, .i 0]), (3, .var o.cellsA), (4, .row 1 ((rulesTo B 12).map intRow))], 5, []⟩) ?_ ?_
    · refine lp_wpc (α := Nat) (fun i => ⟨[(2, .ptr 0 0 0), (4, .ptr 2 0 0), (7, .ptr 3 0 0), (8, .r (.ro none (bRows B))), (9, .sl 4 0 (rulesTo B i).length), (10, .i i)], [(0, .var a.cellsA), (2, .var [.i 0, .i 0, .i 0, .bo false, .i 0, .i 0, .i 0, .r .nil, .i 0, .i 0, .i 0, .i 0, .r .nil, .i 0]), (3, .var o.cellsA), (4, .row 1 ((rulesTo B i).map intRow))], 5, []⟩)
        (fun i => 1 ≤ i ∧ i ≤ 12) (fun i => 12 - i) 1 (by omega) (by simp only [rulesTo_1, List.map_nil, List.length_nil, Assoc.cellsA]; (refine le_ev [] ?_; simp only [hm, go_sem, ↓reduceIte]; first | done | rfl | exact ⟨rfl, rfl⟩)) ?_
      rintro i ⟨hi1, hi⟩
      unfold pc95l0
      have hbl := bRows_len B
      rcases Nat.lt_or_ge i 12 with hil | hil
      · have hw1 : IntKind.i64.wrap ((i : Int) + 1) = ((i + 1 : Nat) : Int) := by rw [wrap64 (by omega) (by omega)]; omega
        have hg := bRows_get B hil
        have hs := rulesTo_succ B hi1
        have hle := rulesTo_le B i
        generalize rulesTo B i = rs at hs hle
        have hrt : List.take rs.length (rs.map intRow) = rs.map intRow := List.take_of_length_le (by simp)
        cases hBi : B i <;> rw [hBi] at hg hs <;> simp only [hw1, hg, hrt, hbl, Int.toNat_natCast, hm, go_sem, ↓reduceIte]
        all_goals
          repeat' first | refine And.intro ?_ ?_ | intro _
        all_goals first
          | omega
          | (refine ⟨i + 1, ⟨by omega, by omega⟩, by omega, ?_⟩; rw [hs]; simp only [Bool.false_eq_true, if_false, if_true, List.append_nil, List.map_append, List.length_append, List.length_cons, List.length_nil, List.map_cons, List.map_nil, intRow]; (refine le_ev [] ?_; simp only [hm, go_sem, ↓reduceIte]; first | done | rfl | exact ⟨rfl, rfl⟩))
      · have : i = 12 := by omega
        subst this
        simp only [hbl, hm, go_sem, ↓reduceIte]
        repeat' first | refine And.intro ?_ ?_ | intro _
        all_goals first
          | omega
          | (refine ⟨_, rfl, ?_⟩; (refine le_ev [] ?_; simp only [hm, go_sem, ↓reduceIte]; first | done | rfl | exact ⟨rfl, rfl⟩))
    rintro t0 rfl
    rw [if_pos rfl, rulesTo_12]
    generalize rulesOf B = rs at hx ⊢
    unfold Assoc.cellsA
    refine run_wpc _ _ _ _ _ ?_
    simp only [hm, go_sem, ↓reduceIte]
    cases rs with
    | nil =>
      simp only [List.length_nil, List.isEmpty_nil, if_true, hm, go_sem, ↓reduceIte]
      refine call_data (hP ▸ hco) rfl rfl ?_
      simp only [hm, go_sem, ↓reduceIte]
      exact ⟨4, rfl, .inl rfl⟩
    | cons r rs =>
      simp only [List.length_cons, List.isEmpty_cons, Bool.false_eq_true, if_false, hm, go_sem, ↓reduceIte]
      repeat' first | refine And.intro ?_ ?_ | intro _ | (refine call_data (hP ▸ hcA) rfl rfl ?_; simp only [hm, go_sem, ↓reduceIte])
      all_goals first
        | omega
        | exact ⟨4, rfl, .inl rfl⟩
        | (exfalso; omega)
theorem s_specAssocStep (a : Assoc) (p : Packet) (ha : SFit a.a) (hb : SFit a.b) (hl : p.chunks.length ≤ 1000000) : Spec Try.prog 95 0 [] [a.ro, p.ro] (Plain fun r => r = .tup [(assocStep a p).1.ro, .r (.ro none ((assocStep a p).2.map intRow))]) := by
  refine Spec.le (s_specAssocStep0 a p ha hb hl) fun r hp nx gs h => ⟨_, [], 0, [], ⟨rfl, rfl, rfl, rfl⟩, fun c hc => ?_⟩
  obtain ⟨b, hb, h⟩ := h
  generalize assocStep a p = x at hb h
  obtain ⟨x, rs⟩ := x
  simp only at hb h
  rcases h with rfl | ⟨rfl, rfl⟩
  · have hu : x.ro = .agg x.cellsA := rfl
    rw [hu]
    unfold Assoc.cellsA
    refine Le.trans (t := ⟨[(0, .tup [.agg x.cellsA, .sl 0 0 rs.length])], [(0, .row 1 (rs.map intRow))], 1, []⟩) (le_ev [(0, b)] (by simp only [hc, go_sem, ↓reduceIte, hb])) ?_
    refine Le.trans (le_frz 0 rfl (by simp only [List.length_map, go_sem, ↓reduceIte]) (by simp only [go_sem, ↓reduceIte])) ?_
    simp only [take_map_len, List.drop_zero, go_sem, ↓reduceIte]
    exact le_ev [] (by simp only [hc, go_sem, ↓reduceIte])
  · unfold zeroA
    refine Le.trans (t := ⟨[(0, .tup [noAssoc.av (.r .nil) (.r .nil), .sl 0 0 rs.length])], [(0, .row 1 (rs.map intRow))], 1, []⟩) (le_ev [(0, b)] (by simp only [Assoc.av, hc, go_sem, ↓reduceIte, hb])) ?_
    unfold Assoc.av
    refine Le.trans (le_frz 0 rfl (by simp only [List.length_map, go_sem, ↓reduceIte]) (by simp only [go_sem, ↓reduceIte])) ?_
    simp only [take_map_len, List.drop_zero, go_sem, ↓reduceIte]
    refine Le.trans le_denil ?_
    exact le_ev [] (by simp only [hc, Assoc.ro, Assoc.av, noAssoc, noSide, List.map_nil, go_sem, ↓reduceIte])
end Go.Cap

/- Contracts: captures are valid; the records of a talk, twice. -/
namespace Go.Cap
open Go Go.Proofs
set_option maxRecDepth 100000
set_option linter.unusedSimpArgs false
set_option linter.unusedVariables false
attribute [local irreducible] Call Run Spec Le

theorem recsFrom_drop {l : List Rec} {i : Nat} (h : i < l.length) (last : Int) : recsFrom last (l.drop i) = (inB l[i].time last 4294967295 && decide (l[i].text.length ≤ 120) && recsFrom l[i].time (l.drop (i + 1))) := by
  rw [List.drop_eq_getElem_cons h]; rfl
theorem s_l14Record (x : Rec) (last : Int) : Spec Try.prog 89 0 [] [x.av, .i last] (fun r _ _ _ => r = .bo (inB x.time last 4294967295 && decide (x.text.length ≤ 120))) := by
  refine mk89 rfl fun c hP hm => ?_
  unfold pc89 Rec.av
  simp only [hm, go_sem, ↓reduceIte]
  repeat' first | refine And.intro ?_ ?_ | intro _ | (refine c_l6In hP ?_; simp only [hm, go_sem, ↓reduceIte])
  all_goals (apply bo_inj; rw [Bool.eq_iff_iff]; simp [*] <;> omega)
theorem s_specCaptureValid (l : List Rec) (hl : l.length ≤ 1000000000) : Spec Try.prog 76 0 [] [.r (.ro none (l.map Rec.row))] (fun r _ _ _ => r = .bo (captB l)) := by
  refine mk76 rfl fun c hP hm => ?_
  unfold pc76
  simp only [hm, go_sem, ↓reduceIte]
  refine lp_wpc (α := Nat × Int) (fun y => ⟨[(0, .r (.ro none (l.map Rec.row))), (3, .i y.2), (4, .i y.1)], [], 0, []⟩)
    (fun y => y.1 ≤ l.length ∧ recsFrom y.2 (l.drop y.1) = recsFrom 0 l) (fun y => l.length - y.1) (0, 0) ⟨Nat.zero_le _, rfl⟩ (by (refine le_ev [] ?_; simp only [hm, go_sem, ↓reduceIte]; first | done | rfl | exact ⟨rfl, rfl⟩)) ?_
  rintro ⟨i, last⟩ ⟨hi, hI⟩
  simp only at hi hI
  unfold pc76l0
  rcases Nat.lt_or_ge i l.length with hil | hil
  · have hw : IntKind.i64.wrap ((i : Int) + 1) = ((i + 1 : Nat) : Int) := by rw [wrap64 (by omega) (by omega)]; omega
    rw [recsFrom_drop hil] at hI
    have hg := getD_map (f := Rec.row) hil
    generalize l[i] = x at hI hg
    have hok : recsFrom 0 l = false → AV.r (RV.b false) = AV.bo (captB l) := fun h => by simp [captB, h]
    have hcr := s_l14Record x last
    unfold Rec.av at hcr
    generalize (inB x.time last 4294967295 && decide (x.text.length ≤ 120)) = B at hI hcr
    simp only [hw, Int.toNat_natCast, hg, Rec.row, hm, go_sem, ↓reduceIte]
    repeat' first | refine And.intro ?_ ?_ | intro _ | (refine call_pure (hP ▸ hcr) rfl rfl ?_; simp only [hw, Int.toNat_natCast, hg, Rec.row, hm, go_sem, ↓reduceIte])
    all_goals first
      | omega
      | rfl
      | (rename_i hb; subst hb; refine hok ?_; rw [← hI]; rfl)
      | (rename_i hb; subst hb
         refine ⟨(i + 1, x.time), ⟨hil, by simpa using hI⟩, ?_, ?_⟩
         · simp only; omega
         · (refine le_ev [] ?_; simp only [hm, go_sem, ↓reduceIte]; first | done | rfl | exact ⟨rfl, rfl⟩))
  · have : i = l.length := by omega
    subst this
    rw [List.drop_eq_nil_of_le (Nat.le_refl _)] at hI
    simp only [hm, go_sem, ↓reduceIte]
    repeat' first | refine And.intro ?_ ?_ | intro _
    all_goals first
      | omega
      | (apply bo_inj; rw [Bool.eq_iff_iff]; simp only [captB, ← hI, recsFrom, Bool.true_and, decide_eq_true_eq]; omega)
/-- Records whose times may go round. -/
def recsW (l : List Packet) (begin : Int) : List Rec := (List.range l.length).map fun (i : Nat) => ⟨IntKind.i64.wrap (begin + (i : Int)), packPut (l.getD i default)⟩
theorem recsW_len (l : List Packet) (begin : Int) : (recsW l begin).length = l.length := by simp [recsW]
theorem recs_eq {l : List Packet} {begin : Int} (h : 0 ≤ begin ∧ begin ≤ 4294967295) (hl : l.length ≤ 1000) : recsW l begin = recsOf l begin := by
  unfold recsW recsOf
  refine List.map_congr_left fun i hi => ?_
  have := List.mem_range.1 hi
  rw [wrap64 (by omega) (by omega)]
theorem recs_bad {l : List Packet} {begin : Int} (h : 4294967295 < begin ∧ begin ≤ 9223372036854775807) (hl : l ≠ []) : captB (recsW l begin) = false ∧ captB (recsOf l begin) = false := by
  cases l with
  | nil => exact absurd rfl hl
  | cons p l =>
    have hi : inB begin 0 4294967295 = false := by unfold inB; rw [decide_eq_false (by omega)]
    have key : ∀ rs : List Rec, rs[0]? = some ⟨begin, packPut p⟩ → captB rs = false := fun rs hr => by
      cases rs with
      | nil => cases hr
      | cons x t =>
        have : x = ⟨begin, packPut p⟩ := by simpa using hr
        subst this
        simp [captB, recsFrom, hi]
    constructor
    · refine key _ ?_
      unfold recsW
      rw [List.getElem?_map, List.getElem?_range (by simp)]
      show some (Rec.mk (IntKind.i64.wrap (begin + ((0 : Nat) : Int))) (packPut p)) = _
      rw [wrap64 (by omega) (by omega)]; simp
    · refine key _ ?_
      unfold recsOf
      rw [List.getElem?_map, List.getElem?_range (by simp)]
      show some (Rec.mk (begin + ((0 : Nat) : Int)) (packPut p)) = _
      simp
theorem talkRecs_eq {t : Talk} {begin : Int} (hb : begin ≤ 9223372036854775807) (hl : (talkPk t).length ≤ 1000) : talkRecs t begin = if 0 ≤ begin ∧ captB (recsW (talkPk t) begin) = true then recsW (talkPk t) begin else [] := by
  unfold talkRecs
  by_cases h0 : 0 ≤ begin
  · by_cases h1 : begin ≤ 4294967295
    · rw [recs_eq ⟨h0, h1⟩ hl]
    · by_cases hn : talkPk t = []
      · rw [hn]; simp [recsOf, recsW]
      · obtain ⟨k1, k2⟩ := recs_bad (l := talkPk t) (begin := begin) ⟨by omega, hb⟩ hn
        rw [if_neg (by rw [k2]; simp), if_neg (by rw [k1]; simp)]
  · rw [if_neg (fun h => h0 h.1), if_neg (fun h => h0 h.1)]
theorem recsW_take {l : List Packet} {begin : Int} {i : Nat} (h : i < l.length) : (recsW l begin).take (i + 1) = (recsW l begin).take i ++ [⟨IntKind.i64.wrap (begin + (i : Int)), packPut l[i]⟩] := by
  have hi : i < (recsW l begin).length := by rw [recsW_len]; exact h
  have he : (recsW l begin)[i]? = some ⟨IntKind.i64.wrap (begin + (i : Int)), packPut l[i]⟩ := by
    unfold recsW
    rw [List.getElem?_map, List.getElem?_range h]
    simp [List.getD_eq_getElem?_getD, h]
  rw [take_get hi, Option.some.inj ((List.getElem?_eq_getElem hi).symm.trans he)]
theorem talkPk_small {t : Talk} : (talkPk t).length ≤ 60 := by
  by_cases hv : talkB t = true
  · have h1 := talkParts_12 t false hv
    have h2 := talkParts_12 t true hv
    rw [talkPk_len hv]; omega
  · have : talkPk t = [] := by unfold talkPk; rw [if_neg hv]
    rw [this]; simp
theorem talkPk_one {t : Talk} {i : Nat} (h : i < (talkPk t).length) : ((talkPk t)[i]).chunks.length ≤ 1000000 := by
  by_cases hv : talkB t = true
  · rw [(talkPk_props hv h).2.1]; decide
  · have : talkPk t = [] := by unfold talkPk; rw [if_neg hv]
    rw [this] at h; simp at h
theorem s_specTalkRecords (t : Talk) (begin : Int) (hb : begin ≤ 9223372036854775807) (hl : t.says.length ≤ 1048576) (hx : ∀ s ∈ t.says, s.text.length ≤ 1048576) : Spec Try.prog 63 0 [] [t.ro, .i begin] (New1 (.sl 0 0 (talkRecs t begin).length) 2 ((talkRecs t begin).map Rec.row)) := by
  refine Spec.new1 (r0 := .sl 0 0 (talkRecs t begin).length) (Q := fun r hp _ _ => ∃ b, r = .sl b 0 (talkRecs t begin).length ∧ hget hp b = some (.row 2 ((talkRecs t begin).map Rec.row))) ?_ (fun r hp nx gs h => h) (fun f g h => by simp only [go_sem, h])
  have hsm := talkPk_small (t := t)
  rw [talkRecs_eq hb (by omega)]
  have hone := fun i (h : i < (talkPk t).length) => talkPk_one h
  refine mr63 rfl fun c hP hm => ?_
  unfold pc63 Talk.ro Talk.av
  refine run_seq (run_wpc _ _ _ _ _ ?_)
  simp only [hm, go_sem, ↓reduceIte]
  refine run_seq (run_wpc _ _ _ _ _ ?_)
  simp only [hm, go_sem, ↓reduceIte]
  refine run_seq (run_wpc _ _ _ _ _ ?_)
  simp only [hm, go_sem, ↓reduceIte]
  refine call_dataP (hP ▸ s_specTalkPackets t hl hx) rfl rfl ?_
  simp only [hm, go_sem, ↓reduceIte]
  generalize talkPk t = l at hsm hone
  refine run_seq (run_wpc _ _ _ _ _ ?_)
  simp only [hm, go_sem, ↓reduceIte]
  refine run_exit 0 (fun t0 => t0 = ⟨[(1, .i begin), (5, .sl 0 0 (recsW l begin).length)], [(0, .row 2 ((recsW l begin).map Rec.row))], 1, []⟩) ?_ ?_
  · refine lp_wpc (α := Nat) (fun i => ⟨[(1, .i begin), (5, .sl 0 0 ((recsW l begin).take i).length), (6, .r (.ro none (l.map Packet.row))), (7, .i i)], [(0, .row 2 (((recsW l begin).take i).map Rec.row))], 1, []⟩)
      (fun i => i ≤ l.length) (fun i => l.length - i) 0 (Nat.zero_le _) (by rw [List.take_zero]; simp only [List.map_nil, List.length_nil]; (refine le_ev [(0, 1)] ?_; simp only [hm, go_sem, ↓reduceIte]; first | done | rfl | exact ⟨rfl, rfl⟩)) ?_
    intro i hi
    unfold pc63l0
    rcases Nat.lt_or_ge i l.length with hil | hil
    · have hw : IntKind.i64.wrap ((i : Int) + 1) = ((i + 1 : Nat) : Int) := by rw [wrap64 (by omega) (by omega)]; omega
      have hg := getD_map (f := Packet.row) hil
      have htk := recsW_take (begin := begin) hil
      have hc1 := hone i hil
      have hlt : ((recsW l begin).take i).length ≤ 60 := by rw [List.length_take]; omega
      generalize l[i] = p at hg htk hc1
      generalize (recsW l begin).take i = rs at htk hlt
      have hrt : List.take rs.length (rs.map Rec.row) = rs.map Rec.row := List.take_of_length_le (by simp)
      simp only [hw, hrt, Int.toNat_natCast, hg, Packet.row, hm, go_sem, ↓reduceIte]
      repeat' first | refine And.intro ?_ ?_ | intro _ | (refine call_pure (hP ▸ s_specPacketPut p hc1) rfl rfl ?_; simp only [hw, hrt, Int.toNat_natCast, hg, Packet.row, hm, go_sem, ↓reduceIte])
      all_goals first
        | omega
        | rfl
        | (refine ⟨i + 1, hil, by omega, ?_⟩
           rw [htk]
           simp only [List.map_append, List.length_append, List.length_cons, List.length_nil, List.map_cons, List.map_nil, Rec.row]
           (refine le_ev [(0, 0)] ?_; simp only [hm, go_sem, ↓reduceIte]; first | done | rfl | exact ⟨rfl, rfl⟩))
    · have : i = l.length := by omega
      subst this
      have htl : (recsW l begin).take l.length = recsW l begin := by rw [← recsW_len l begin, List.take_length]
      rw [htl]
      simp only [hm, go_sem, ↓reduceIte]
      repeat' first | refine And.intro ?_ ?_ | intro _
      all_goals first
        | omega
        | (refine ⟨_, rfl, ?_⟩; (refine le_ev [] ?_; simp only [hm, go_sem, ↓reduceIte]; first | done | rfl | exact ⟨rfl, rfl⟩))
  rintro t0 rfl
  rw [if_pos rfl]
  have hwl := recsW_len l begin
  generalize recsW l begin = rs at hwl
  refine run_wpc _ _ _ _ _ ?_
  simp only [hm, go_sem, ↓reduceIte]
  repeat' first | refine And.intro ?_ ?_ | intro _ | (refine call_flat (hP ▸ s_specCaptureValid rs (by omega)) rfl (.cons (Vw.full rfl (by simp)) .nil) ?_; simp only [hm, go_sem, ↓reduceIte])
  all_goals first
    | omega
    | (rename_i hv; rw [if_neg (fun h => by omega)]; exact ⟨1, rfl, rfl⟩)
    | (rename_i hv; rw [if_neg (fun h => by rw [hv] at h; cases h.2)]; exact ⟨1, rfl, rfl⟩)
    | (rename_i h0 hv; rw [if_pos ⟨by omega, hv⟩]; exact ⟨0, rfl, rfl⟩)
end Go.Cap

/- Contracts: the reference reads chunks and packets, as far as a draw needs it. -/
namespace Go.Cap
open Go Go.Proofs
set_option maxRecDepth 100000
set_option linter.unusedSimpArgs false
set_option linter.unusedVariables false
attribute [local irreducible] Call Run Spec Le

theorem byte_range (s : List UInt8) (i : Nat) : 0 ≤ ((s.getD i 0).toNat : Int) ∧ ((s.getD i 0).toNat : Int) < 256 := ⟨Int.natCast_nonneg _, byte_lt _⟩
theorem s_specChunkGetW (s : List UInt8) (i : Nat) (hs : s.length ≤ 10000) (hi : i ≤ 10000) : Spec Try.prog 108 0 [] [.st s, .i i] (Plain fun r => ∃ (k : Chunk) (n : Nat) (b : Bool), r = .tup [k.av, .i n, .bo b] ∧ (b = true → i + 4 ≤ n ∧ n ≤ s.length)) := by
  refine Spec.plainQ ?_ (by rintro r ⟨k, n, b, rfl, _⟩; rfl)
  refine mr108 rfl fun c hP hm => ?_
  unfold pc108
  have hno : ∃ (k : Chunk) (n : Nat) (b : Bool), AV.tup [.agg [.i 0, .i 0, .st []], .i 0, .bo false] = .tup [k.av, .i n, .bo b] ∧ (b = true → i + 4 ≤ n ∧ n ≤ s.length) := ⟨⟨0, 0, []⟩, 0, false, rfl, fun h => by cases h⟩
  have w1 : IntKind.i64.wrap ((s.length : Int) - 4) = (s.length : Int) - 4 := wrap64 (by omega) (by omega)
  have w2 : IntKind.i64.wrap ((i : Int) + 2) = (i : Int) + 2 := wrap64 (by omega) (by omega)
  have w3 : IntKind.i64.wrap ((i : Int) + 1) = (i : Int) + 1 := wrap64 (by omega) (by omega)
  have w4 : IntKind.i64.wrap ((i : Int) + 4) = (i : Int) + 4 := wrap64 (by omega) (by omega)
  have e2 : ((i : Int) + 2).toNat = i + 2 := by omega
  have hn := at2_range s (i + 2)
  refine run_seq (run_wpc _ _ _ _ _ ?_)
  simp only [hm, go_sem, ↓reduceIte]
  refine run_seq (run_wpc _ _ _ _ _ ?_)
  simp only [w1, hm, go_sem, ↓reduceIte]
  repeat' first | refine And.intro ?_ ?_ | intro _
  all_goals first
    | exact hno
    | omega
    | skip
  refine run_seq (run_wpc _ _ _ _ _ ?_)
  simp only [w2, hm, go_sem, ↓reduceIte]
  refine c_l1At hP (by omega) (by omega) ?_
  rw [e2]
  simp only [hm, go_sem, ↓reduceIte]
  generalize at2 s (i + 2) = n at hn
  have w5 : IntKind.i64.wrap ((i : Int) + n) = (i : Int) + n := wrap64 (by omega) (by omega)
  refine run_seq (run_wpc _ _ _ _ _ ?_)
  simp only [w5, hm, go_sem, ↓reduceIte]
  refine c_l6In hP ?_
  simp only [w5, inB_dec, hm, go_sem, ↓reduceIte]
  repeat' first | refine And.intro ?_ ?_ | intro _
  all_goals first
    | exact hno
    | omega
    | skip
  refine run_seq (run_wpc _ _ _ _ _ ?_)
  simp only [w3, w4, w5, hm, go_sem, ↓reduceIte]
  refine ⟨⟨by omega, by omega⟩, ⟨by omega, by omega⟩, ⟨by omega, by omega, by omega⟩, ⟨⟨by omega, by omega⟩, ⟨by omega, by omega⟩, by omega, by omega, by omega⟩, ?_⟩
  have hb1 := byte_range s (i : Int).toNat
  have hb2 := byte_range s ((i : Int) + 1).toNat
  rw [wrap64 (x := ((s.getD (i : Int).toNat 0).toNat : Int)) (by omega) (by omega), wrap64 (x := ((s.getD ((i : Int) + 1).toNat 0).toNat : Int)) (by omega) (by omega)]
  have hx : ∃ x : Chunk, x = ⟨((s.getD (i : Int).toNat 0).toNat : Int), ((s.getD ((i : Int) + 1).toNat 0).toNat : Int), List.drop ((i : Int) + 4).toNat (List.take ((i : Int) + n).toNat s)⟩ := ⟨_, rfl⟩
  obtain ⟨x, hx⟩ := hx
  have hcx : chunkB x = true := by
    rw [hx]
    simp only [chunkB, inB, Bool.and_eq_true, decide_eq_true_eq, List.length_drop, List.length_take]
    omega
  have hk1 : ((s.getD (i : Int).toNat 0).toNat : Int) = x.kind := by rw [hx]
  have hk2 : ((s.getD ((i : Int) + 1).toNat 0).toNat : Int) = x.flags := by rw [hx]
  have hk3 : List.drop ((i : Int) + 4).toNat (List.take ((i : Int) + n).toNat s) = x.body := by rw [hx]
  rw [hk1, hk2, hk3]
  clear hx hk1 hk2 hk3
  have hput := s_l11Put x hcx
  have hpl := chunkPut_len x
  have hle := chunkPut_le hcx
  unfold Chunk.av at hput
  generalize chunkPut x = T at *
  have w6 : IntKind.i64.wrap ((i : Int) + (T.length : Int)) = ((i + T.length : Nat) : Int) := by rw [wrap64 (by omega) (by omega)]; omega
  refine run_seq (run_wpc _ _ _ _ _ ?_)
  simp only [hm, go_sem, ↓reduceIte]
  refine call_pure (hP ▸ hput) rfl rfl ?_
  simp only [hm, go_sem, ↓reduceIte]
  refine run_wpc _ _ _ _ _ ?_
  simp only [w6, Int.toNat_natCast, hm, go_sem, ↓reduceIte]
  repeat' first | refine And.intro ?_ ?_ | intro _
  all_goals first
    | omega
    | exact hno
    | exact ⟨x, i + T.length, true, rfl, fun _ => by omega⟩
theorem s_specPacketGetW (s : List UInt8) (hs : s.length ≤ 10000) : Spec Try.prog 90 0 [] [.st s] (Plain fun r => ∃ (p : Packet) (n : Int), r = .tup [p.ro, .i n] ∧ (0 ≤ n ∧ n ≤ 3) ∧ (n = 0 → packB p = true)) := by
  refine Spec.le (Q := fun r hp _ _ => (∃ n : Int, r = .tup [.agg [.i 0, .i 0, .i 0, .r .nil], .i n] ∧ 1 ≤ n ∧ n ≤ 3) ∨ ∃ (p : Packet) (b : Nat), packB p = true ∧ r = .tup [.agg [.i p.fr, .i p.to, .i p.tag, .sl b 0 p.chunks.length], .i 0] ∧ hget hp b = some (.row 3 (p.chunks.map Chunk.row))) ?_ ?_
  · refine mr90 rfl fun c hP hm => ?_
    unfold pc90
    refine run_seq (run_wpc _ _ _ _ _ ?_)
    simp only [hm, go_sem, ↓reduceIte]
    refine run_seq (run_wpc _ _ _ _ _ ?_)
    simp only [hm, go_sem, ↓reduceIte]
    repeat' first | refine And.intro ?_ ?_ | intro _
    all_goals first
      | exact .inl ⟨1, rfl, by decide, by decide⟩
      | skip
    refine run_seq (run_wpc _ _ _ _ _ ?_)
    simp only [hm, go_sem, ↓reduceIte]
    repeat' first
      | refine And.intro ?_ ?_
      | intro _
      | (refine c_l1At hP (by omega) (by omega) ?_; simp only [hm, go_sem, ↓reduceIte])
      | (refine call_pure (hP ▸ s_l13Sum s (by omega)) rfl rfl ?_; simp only [hm, go_sem, ↓reduceIte])
    all_goals first
      | exact .inl ⟨2, rfl, by decide, by decide⟩
      | skip
    refine run_seq (run_wpc _ _ _ _ _ ?_)
    simp only [hm, go_sem, ↓reduceIte]
    repeat' first
      | refine And.intro ?_ ?_
      | intro _
      | (refine c_l1At hP (by omega) (by omega) ?_; simp only [hm, go_sem, ↓reduceIte])
    refine run_seq (run_wpc _ _ _ _ _ ?_)
    simp only [hm, go_sem, ↓reduceIte]
    refine run_seq (run_wpc _ _ _ _ _ ?_)
    simp only [hm, go_sem, ↓reduceIte]
    generalize at2 s 0 = f0
    generalize at2 s 2 = f1
    generalize IntKind.i64.wrap (IntKind.i64.wrap (65536 * at2 s 4) + at2 s 6) = f2
    refine run_exit 0 (fun t0 => ∃ cs : List Chunk, cs.length ≤ 10000 ∧ t0 = ⟨[(2, .ptr 0 0 0), (4, .ptr 2 0 0)], [(0, .var [.i 0, .i 0, .i 0, .r .nil]), (2, .var [.i f0, .i f1, .i f2, .sl 1 0 cs.length]), (1, .row 3 (cs.map Chunk.row))], 3, []⟩) ?_ ?_
    · refine lp_wpc (α := Nat × List Chunk) (fun y => ⟨[(0, .st s), (2, .ptr 0 0 0), (4, .ptr 2 0 0), (5, .i y.1)], [(0, .var [.i 0, .i 0, .i 0, .r .nil]), (2, .var [.i f0, .i f1, .i f2, .sl 1 0 y.2.length]), (1, .row 3 (y.2.map Chunk.row))], 3, []⟩)
        (fun y => y.1 ≤ 10000 ∧ y.2.length ≤ y.1) (fun y => 10000 - y.1) (12, []) ⟨by decide, by decide⟩ (by (refine le_ev [] ?_; simp only [hm, go_sem, ↓reduceIte]; first | done | rfl | exact ⟨rfl, rfl⟩)) ?_
      rintro ⟨at', cs⟩ ⟨h1, h2⟩
      simp only at h1 h2
      unfold pc90l0
      have hrt : List.take cs.length (cs.map Chunk.row) = cs.map Chunk.row := List.take_of_length_le (by simp)
      simp only [hm, go_sem, ↓reduceIte]
      refine ⟨fun hlt => ?_, fun hge => ?_⟩
      · refine call_plain (hP ▸ s_specChunkGetW s at' hs h1) rfl ?_
        rintro r ⟨k, n, b, rfl, hb⟩
        refine ⟨rfl, ?_⟩
        unfold Chunk.av
        cases b
        · simp only [hm, go_sem, ↓reduceIte]
          exact .inl ⟨3, rfl, by decide, by decide⟩
        · obtain ⟨b1, b2⟩ := hb rfl
          simp only [hrt, hm, go_sem, ↓reduceIte]
          repeat' first | refine And.intro ?_ ?_ | intro _
          all_goals first
            | omega
            | (refine ⟨(n, cs ++ [k]), ⟨by simp only; omega, by simp only [List.length_append, List.length_cons, List.length_nil]; omega⟩, by simp only; omega, ?_⟩
               simp only [List.map_append, List.length_append, List.length_cons, List.length_nil, List.map_cons, List.map_nil, Chunk.row]
               (refine le_ev [] ?_; simp only [hm, go_sem, ↓reduceIte]; first | done | rfl | exact ⟨rfl, rfl⟩))
      · refine ⟨_, ⟨cs, by omega, rfl⟩, ?_⟩
        (refine le_ev [] ?_; simp only [hm, go_sem, ↓reduceIte]; first | done | rfl | exact ⟨rfl, rfl⟩)
    rintro t0 ⟨cs, hcs, rfl⟩
    rw [if_pos rfl]
    have hpv := s_specPacketValid ⟨f0, f1, f2, cs⟩ (by simp only; omega)
    unfold Packet.ro at hpv
    refine run_wpc _ _ _ _ _ ?_
    simp only [hm, go_sem, ↓reduceIte]
    refine call_flat (hP ▸ hpv) rfl (.cons (vw_agg (.cons (vw_self _ _ rfl) (.cons (vw_self _ _ rfl) (.cons (vw_self _ _ rfl) (.cons (Vw.full rfl (by simp)) .nil))))) .nil) ?_
    simp only [hm, go_sem, ↓reduceIte]
    repeat' first | refine And.intro ?_ ?_ | intro _
    all_goals first
      | exact .inl ⟨3, rfl, by decide, by decide⟩
      | (rename_i hv; exact .inr ⟨⟨f0, f1, f2, cs⟩, 1, hv, rfl, rfl⟩)
  · rintro r hp nx gs h
    rcases h with ⟨n, rfl, h1, h2⟩ | ⟨p, b, hv, rfl, hb⟩
    · refine ⟨_, [], 0, [], ⟨⟨noPack, n, rfl, by omega, fun h => by omega⟩, rfl, rfl, rfl⟩, fun c hc => ?_⟩
      refine Le.trans (t := ⟨[(0, .tup [.agg [.i 0, .i 0, .i 0, .r .nil], .i n])], [], 0, []⟩) (le_ev [] (by simp only [hc, go_sem, ↓reduceIte])) le_denil
    · refine ⟨_, [], 0, [], ⟨⟨p, 0, rfl, by decide, fun _ => hv⟩, rfl, rfl, rfl⟩, fun c hc => ?_⟩
      refine Le.trans (t := ⟨[(0, .tup [.agg [.i p.fr, .i p.to, .i p.tag, .sl 0 0 p.chunks.length], .i 0])], [(0, .row 3 (p.chunks.map Chunk.row))], 1, []⟩) (le_ev [(0, b)] (by simp only [hc, go_sem, ↓reduceIte, hb])) ?_
      refine Le.trans (le_frz 0 rfl (by simp only [List.length_map, go_sem, ↓reduceIte]) (by simp only [go_sem, ↓reduceIte])) ?_
      simp only [take_map_len, List.drop_zero, go_sem, ↓reduceIte]
      exact le_ev [] (by simp only [hc, Packet.ro, go_sem, ↓reduceIte])
end Go.Cap

/- Contracts: the reference's monitor: its copy, its notes. -/
namespace Go.Cap
open Go Go.Proofs
set_option maxRecDepth 100000
set_option linter.unusedSimpArgs false
set_option linter.unusedVariables false
/-- Nil slices go into a call as empty data. -/
theorem call_denil {c : Cx} {f : Nat} {args : List AV} {s : St} {K : AV → St → Prop} (h : Call c f (args.map denil) s K) : Call c f args s K := by
  intro M ι w W vs hvs
  refine h M ι w W vs ⟨by rw [List.length_map]; exact hvs.1, fun j y v hy hv => ?_⟩
  rw [List.getElem?_map] at hy
  cases hj : args[j]? with
  | none => rw [hj] at hy; cases hy
  | some c0 =>
    rw [hj] at hy
    cases hy
    exact (hvs.2 j c0 v hj hv).denil
attribute [local irreducible] Call Run Spec Le
/-- A monitor with its own blocks. -/
def Mon.own (m : Mon) : AV := .agg [.i m.records, .sl 0 0 m.list.length, .sl 1 0 m.found.length]
theorem s_l32Copy (m : Mon) (hl : m.list.length ≤ 1000) (hf : m.found.length ≤ 1000000) (ha : ∀ a ∈ m.list, AW a) : Spec Try.prog 71 0 [] [m.ro] (fun r hp nx gs => r = m.own ∧ hp = [(0, .row 14 (m.list.map Assoc.row)), (1, .row 2 (m.found.map Fnd.row))] ∧ nx = 2 ∧ gs = []) := by
  refine Spec.le (Q := fun r hp _ _ => ∃ b1 b2, b1 ≠ b2 ∧ r = .agg [.i m.records, .sl b1 0 m.list.length, .sl b2 0 m.found.length] ∧ hget hp b1 = some (.row 14 (m.list.map Assoc.row)) ∧ hget hp b2 = some (.row 2 (m.found.map Fnd.row))) ?_ ?_
  · refine mr71 rfl fun c hP hm => ?_
    unfold pc71 Mon.ro
    have hrf : rowsN 2 (m.found.map Fnd.row) := fun r hr => by obtain ⟨d, _, rfl⟩ := List.mem_map.1 hr; rfl
    refine run_seq (run_wpc _ _ _ _ _ ?_)
    simp only [hm, go_sem, ↓reduceIte]
    refine run_join (fun t => t = ⟨[(1, .ptr 0 0 0), (2, .ptr 1 0 0), (3, .ptr 2 0 0)], [(0, .var [.i m.records, .r (.ro none (m.list.map Assoc.row)), .r (.ro none (m.found.map Fnd.row))]), (1, .var [.i 0, .r .nil, .r .nil]), (2, .var [.i m.records, .sl 3 0 0, .sl 4 0 m.found.length]), (3, .row 14 []), (4, .row 2 (m.found.map Fnd.row))], 5, []⟩) (run_wpc _ _ _ _ _ ?_) ?_
    · simp only [hm, go_sem, ↓reduceIte]
      repeat' first | refine And.intro ?_ ?_ | intro _
      all_goals first
        | omega
        | exact hrf
        | (rename_i r hr; exact hrf r hr)
        | (simp only [List.length_map]; omega)
        | (refine ⟨_, rfl, ?_⟩; (refine le_ev [(3, 2), (4, 3), (2, 4)] ?_; simp only [hm, go_sem, ↓reduceIte]; first | done | rfl | exact ⟨rfl, rfl⟩))
        | (refine ⟨_, rfl, ?_⟩; (refine le_ev [(3, 3), (4, 2), (2, 4)] ?_; simp only [hm, go_sem, ↓reduceIte]; first | done | rfl | exact ⟨rfl, rfl⟩))
        | (refine ⟨_, rfl, ?_⟩; (refine le_ev [(3, 2), (4, 4), (2, 3)] ?_; simp only [hm, go_sem, ↓reduceIte]; first | done | rfl | exact ⟨rfl, rfl⟩))
        | (refine ⟨_, rfl, ?_⟩; (refine le_ev [(3, 4), (4, 2), (2, 3)] ?_; simp only [hm, go_sem, ↓reduceIte]; first | done | rfl | exact ⟨rfl, rfl⟩))
        | (refine ⟨_, rfl, ?_⟩; (refine le_ev [(3, 3), (4, 4), (2, 2)] ?_; simp only [hm, go_sem, ↓reduceIte]; first | done | rfl | exact ⟨rfl, rfl⟩))
        | (refine ⟨_, rfl, ?_⟩; (refine le_ev [(3, 4), (4, 3), (2, 2)] ?_; simp only [hm, go_sem, ↓reduceIte]; first | done | rfl | exact ⟨rfl, rfl⟩))
    rintro t rfl
    refine run_seq (run_wpc _ _ _ _ _ ?_)
    simp only [hm, go_sem, ↓reduceIte]
    refine run_exit 0 (fun t0 => t0 = ⟨[(2, .ptr 1 0 0), (3, .ptr 2 0 0)], [(1, .var [.i 0, .r .nil, .r .nil]), (2, .var [.i m.records, .sl 3 0 m.list.length, .sl 4 0 m.found.length]), (3, .row 14 (m.list.map Assoc.row)), (4, .row 2 (m.found.map Fnd.row))], 5, []⟩) ?_ ?_
    · refine lp_wpc (α := Nat) (fun i => ⟨[(1, .ptr 0 0 0), (2, .ptr 1 0 0), (3, .ptr 2 0 0), (4, .i i)], [(0, .var [.i m.records, .r (.ro none (m.list.map Assoc.row)), .r (.ro none (m.found.map Fnd.row))]), (1, .var [.i 0, .r .nil, .r .nil]), (2, .var [.i m.records, .sl 3 0 (m.list.take i).length, .sl 4 0 m.found.length]), (3, .row 14 ((m.list.take i).map Assoc.row)), (4, .row 2 (m.found.map Fnd.row))], 5, []⟩)
        (fun i => i ≤ m.list.length) (fun i => m.list.length - i) 0 (Nat.zero_le _) (by rw [List.take_zero]; simp only [List.map_nil, List.length_nil]; (refine le_ev [] ?_; simp only [hm, go_sem, ↓reduceIte]; first | done | rfl | exact ⟨rfl, rfl⟩)) ?_
      intro i hi
      unfold pc71l0
      rcases Nat.lt_or_ge i m.list.length with hil | hil
      · have hw1 : IntKind.i64.wrap ((i : Int) + 1) = ((i + 1 : Nat) : Int) := by rw [wrap64 (by omega) (by omega)]; omega
        have hg := getD_map (f := Assoc.row) hil
        have htk := take_get hil
        have hax := ha _ (List.getElem_mem hil)
        have hlt : (m.list.take i).length ≤ 1000 := by rw [List.length_take]; omega
        generalize m.list[i] = x at hg htk hax
        generalize m.list.take i = l at htk hlt
        have hrt : List.take l.length (l.map Assoc.row) = l.map Assoc.row := List.take_of_length_le (by simp)
        have hcp := s_l31Copy x (by have := hax.1.2.1; omega) (by have := hax.2.2.1; omega)
        have hux : x.ro = .agg x.cellsA := rfl
        rw [hux] at hcp
        unfold Assoc.cellsA at hcp
        simp only [hw1, hrt, Int.toNat_natCast, hg, Assoc.row, Assoc.cellsX, hm, go_sem, ↓reduceIte]
        repeat' first
          | refine And.intro ?_ ?_
          | intro _
          | (refine call_data (hP ▸ hcp) rfl rfl ?_; simp only [hw1, hrt, Int.toNat_natCast, hg, Assoc.row, Assoc.cellsX, hm, go_sem, ↓reduceIte])
        all_goals first
          | omega
          | (refine ⟨i + 1, hil, by omega, ?_⟩
             rw [htk]
             simp only [List.map_append, List.length_append, List.length_cons, List.length_nil, List.map_cons, List.map_nil, Assoc.row, Assoc.cellsX]
             (refine le_ev [] ?_; simp only [hm, go_sem, ↓reduceIte]; first | done | rfl | exact ⟨rfl, rfl⟩))
      · have : i = m.list.length := by omega
        subst this
        rw [List.take_length]
        simp only [hm, go_sem, ↓reduceIte]
        repeat' first | refine And.intro ?_ ?_ | intro _
        all_goals first
          | omega
          | (refine ⟨_, rfl, ?_⟩; (refine le_ev [] ?_; simp only [hm, go_sem, ↓reduceIte]; first | done | rfl | exact ⟨rfl, rfl⟩))
    rintro t0 rfl
    rw [if_pos rfl]
    refine run_wpc _ _ _ _ _ ?_
    simp only [hm, go_sem, ↓reduceIte]
    exact ⟨3, 4, by decide, rfl, rfl, rfl⟩
  · rintro r hp nx gs ⟨b1, b2, hne, rfl, h1, h2⟩
    refine ⟨_, _, 2, [], ⟨rfl, rfl, rfl, rfl⟩, fun c hc => ?_⟩
    unfold Mon.own
    refine le_ev [(0, b1), (1, b2)] ?_
    simp only [hc, go_sem, ↓reduceIte, h1, h2, List.mem_cons, List.not_mem_nil, or_false, not_false_eq_true, and_self]
    exact fun e => hne e.symm
theorem s_l32Note (rc code : Int) (X : List (List RV)) (F : List Fnd) (hr : 0 ≤ rc ∧ rc ≤ 1000) (hF : F.length ≤ 1000000) : Spec Try.prog 91 1 [(0, .row 2 (F.map Fnd.row))] [.agg [.i rc, .r (.ro none X), .sl 0 0 F.length], .i code]
    (fun r hp nx gs => r = .agg [.i rc, .r (.ro none X), .sl 1 0 (F.length + 1)] ∧ hp = [(1, .row 2 ((F ++ [(⟨rc - 1, code⟩ : Fnd)]).map Fnd.row))] ∧ nx = 2 ∧ gs = []) := by
  refine Spec.le (Q := fun r hp _ _ => ∃ b, r = .agg [.i rc, .r (.ro none X), .sl b 0 (F.length + 1)] ∧ hget hp b = some (.row 2 ((F ++ [(⟨rc - 1, code⟩ : Fnd)]).map Fnd.row)) ∧ b ≠ 0) ?_ ?_
  · refine mk91 rfl fun c hP hm => ?_
    unfold pc91
    have hw : IntKind.i64.wrap (rc - 1) = rc - 1 := wrap64 (by omega) (by omega)
    have hrt : List.take F.length (F.map Fnd.row) = F.map Fnd.row := List.take_of_length_le (by simp)
    simp only [hw, hrt, hm, go_sem, ↓reduceIte]
    refine ⟨by omega, _, rfl, by simp [Fnd.row], by decide⟩
  · rintro r hp nx gs ⟨b, rfl, h1, h2⟩
    refine ⟨_, _, 2, [], ⟨rfl, rfl, rfl, rfl⟩, fun c hc => ?_⟩
    refine le_ev [(1, b)] ?_
    simp only [hc, go_sem, ↓reduceIte, h1]
theorem c_l32Note {c : Cx} (hP : c.P = Try.prog) {rc code : Int} {X : List (List RV)} {F : List Fnd} (hr : 0 ≤ rc ∧ rc ≤ 1000) (hF : F.length ≤ 1000000) {s : St} {K : AV → St → Prop} (b : Nat) (hb : hget s.hp b = some (.row 2 (F.map Fnd.row)))
    (hK : K (.agg [.i rc, .r (.ro none X), .sl s.nx 0 (F.length + 1)]) ⟨s.sl, (s.nx, .row 2 ((F ++ [(⟨rc - 1, code⟩ : Fnd)]).map Fnd.row)) :: hdel s.hp b, s.nx + 1, s.gs⟩) : Call c 91 [.agg [.i rc, .r (.ro none X), .sl b 0 F.length], .i code] s K :=
  call_named1G b (hP ▸ s_l32Note rc code X F hr hF) hb rfl rfl fun r hp' nx' gs' ⟨h1, h2, h3, h4⟩ => by
    subst h1; subst h2; subst h3; subst h4
    simpa [renA, renA.renL, renH, renB, idf] using hK
end Go.Cap

/- Contracts: the reference's monitor begins to watch an association. -/
namespace Go.Cap
open Go Go.Proofs
set_option maxRecDepth 100000
set_option linter.unusedSimpArgs false
set_option linter.unusedVariables false
attribute [local irreducible] Call Run Spec Le

/-- What is known of a monitor while a draw goes on. -/
def MW (n : Nat) (m : Mon) : Prop := m.list.length ≤ 3 ∧ (∀ a ∈ m.list, AW a) ∧ m.found.length ≤ n
def MonAny (n : Nat) (k : Int) : AV → List (Nat × Blk) → Nat → List Nat → Prop := fun r hp nx gs => (∃ m : Mon, r = m.ro ∧ MW n m ∧ m.records = k) ∧ hp = [] ∧ nx = 2 ∧ gs = []
theorem noSide_SW : SW noSide := ⟨by decide, by decide, fun d hd => by cases hd⟩
theorem assocStep_AW (a : Assoc) (p : Packet) : AW (assocStep a p).1 := by
  unfold assocStep
  split
  · exact ⟨noSide_SW, noSide_SW⟩
  · rename_i h
    have ha : assocB a = true := by
      cases hb : assocB a
      · rw [hb] at h; exact absurd rfl h
      · rfl
    simp only
    split
    · exact stepChunks_ok _ _ _ _ (assocB_AW ha)
    · exact assocB_AW ha
theorem assocStep_le (a : Assoc) (p : Packet) : (assocStep a p).2.length ≤ 12 := by
  unfold assocStep
  split
  · simp
  · exact rulesTo_le _ 12
theorem s_l32Begin (m : Mon) (p : Packet) (n : Nat) (hn : n ≤ 100000) (hw : MW n m) (hr : 0 ≤ m.records ∧ m.records ≤ 61) (hp : packB p = true) :
    Spec Try.prog 94 2 [(0, .row 14 (m.list.map Assoc.row)), (1, .row 2 (m.found.map Fnd.row))] [m.own, p.ro] (MonAny (n + 20) m.records) := by
  have hpb := hp
  simp only [packB, Bool.and_eq_true, decide_eq_true_eq, List.all_eq_true, chunkB] at hpb
  have hcl : p.chunks.length ≤ 4 ∧ 1 ≤ p.chunks.length := by omega
  have has := s_specAssocStep ⟨p.fr, p.to, 0, false, noSide, noSide⟩ p ⟨Nat.zero_le _, fun d hd => by cases hd⟩ ⟨Nat.zero_le _, fun d hd => by cases hd⟩ (by omega)
  have hAWs := assocStep_AW ⟨p.fr, p.to, 0, false, noSide, noSide⟩ p
  have hlen := assocStep_le ⟨p.fr, p.to, 0, false, noSide, noSide⟩ p
  generalize assocStep ⟨p.fr, p.to, 0, false, noSide, noSide⟩ p = x at *
  obtain ⟨o, rules⟩ := x
  simp only at hAWs hlen has
  obtain ⟨m1, m2, m3⟩ := hw
  refine Spec.le (Q := fun r hp _ _ => ∃ m' : Mon, (MW (n + 20) m' ∧ m'.records = m.records) ∧ ((∃ b1 b2, b1 ≠ b2 ∧ r = .agg [.i m'.records, .sl b1 0 m'.list.length, .sl b2 0 m'.found.length] ∧ hget hp b1 = some (.row 14 (m'.list.map Assoc.row)) ∧ hget hp b2 = some (.row 2 (m'.found.map Fnd.row)))
      ∨ (∃ b2, r = .agg [.i m'.records, .r (.ro none (m'.list.map Assoc.row)), .sl b2 0 m'.found.length] ∧ hget hp b2 = some (.row 2 (m'.found.map Fnd.row))))) ?_ ?_
  · refine mr94 rfl fun c hP hm => ?_
    unfold pc94 Mon.own Packet.ro
    have hu : (Assoc.mk p.fr p.to 0 false noSide noSide).ro = .agg (Assoc.mk p.fr p.to 0 false noSide noSide).cellsA := rfl
    have hu2 : o.ro = .agg o.cellsA := rfl
    unfold Packet.ro at has
    rw [hu, hu2] at has
    unfold Assoc.cellsA noSide at has
    simp only [List.map_nil] at has
    refine run_seq (run_wpc _ _ _ _ _ ?_)
    simp only [hm, go_sem, ↓reduceIte]
    refine run_seq (run_wpc _ _ _ _ _ ?_)
    simp only [hm, go_sem, ↓reduceIte]
    refine call_denil ?_
    simp only [List.map_cons, List.map_nil, hm, go_sem, ↓reduceIte]
    refine call_dataP (hP ▸ has) rfl rfl ?_
    simp only [hm, go_sem, ↓reduceIte]
    have hg0 : (p.chunks.map Chunk.row).getD 0 [] = (p.chunks[0]'(by omega)).row := getD_map (f := Chunk.row) (i := 0) (by omega)
    generalize p.chunks[0]'(by omega) = k0 at hg0
    have hre : m.records = m.records - 1 + 1 := by omega
    refine run_wpc _ _ _ _ _ ?_
    simp only [hg0, Chunk.row, List.length_map, hm, go_sem, ↓reduceIte]
    refine ⟨by omega, ?_⟩
    refine ⟨fun hk => ?_, fun hk => ?_⟩
    · refine call_frz 0 rfl rfl (by simp only [List.length_map, go_sem, ↓reduceIte]) ?_
      simp only [take_map_len, List.drop_zero, hm, go_sem, ↓reduceIte]
      refine c_l32Note hP (by omega) (by omega) 1 rfl ?_
      simp only [hm, go_sem, ↓reduceIte]
      exact ⟨{ m with found := m.found ++ [⟨m.records - 1, 104⟩] }, ⟨⟨m1, m2, by simp only [List.length_append, List.length_cons, List.length_nil]; omega⟩, rfl⟩, .inr ⟨6, by simp, rfl⟩⟩
    intro _
    refine ⟨fun hk => ?_, fun hk => ?_⟩
    · refine run_frz 0 rfl (by first | (simp only [hm, List.length_map, go_sem, ↓reduceIte]; done) | (simp only [hm, List.length_map, go_sem, ↓reduceIte]; omega)) (by first | (simp only [hm, List.length_map, go_sem, ↓reduceIte]; done) | (simp only [hm, List.length_map, go_sem, ↓reduceIte]; omega)) ?_; simp only [hm, take_map_len, List.drop_zero, go_sem, ↓reduceIte]
      refine run_exit 1 (fun t0 => ∃ F : List Fnd, F.length ≤ n + 12 ∧ t0 = ⟨[(2, .ptr 2 0 0), (4, .ptr 4 0 0)], [(2, .var [.i m.records, .r (.ro none (m.list.map Assoc.row)), .sl 5 0 F.length]), (4, .var [.i 0, .r .nil, .r .nil]), (5, .row 2 (F.map Fnd.row))], 6, []⟩) ?_ ?_
      · refine lp_wpc (α := Nat × List Fnd) (fun y => ⟨[(2, .ptr 2 0 0), (4, .ptr 4 0 0), (6, .r (.ro none (rules.map intRow))), (7, .i y.1)], [(2, .var [.i m.records, .r (.ro none (m.list.map Assoc.row)), .sl 5 0 y.2.length]), (4, .var [.i 0, .r .nil, .r .nil]), (5, .row 2 (y.2.map Fnd.row))], 6, []⟩)
          (fun y => y.1 ≤ rules.length ∧ y.2.length ≤ n + y.1) (fun y => rules.length - y.1) (0, m.found) ⟨Nat.zero_le _, by simp only; omega⟩ (by (refine le_ev [(5, 1)] ?_; simp only [hm, go_sem, ↓reduceIte]; first | done | rfl | exact ⟨rfl, rfl⟩)) ?_
        rintro ⟨i, F⟩ ⟨h1, h2⟩
        simp only at h1 h2
        unfold pc94l0
        rcases Nat.lt_or_ge i rules.length with hil | hil
        · have hw1 : IntKind.i64.wrap ((i : Int) + 1) = ((i + 1 : Nat) : Int) := by rw [wrap64 (by omega) (by omega)]; omega
          have hg := getD_map (f := intRow) hil
          simp only [hw1, Int.toNat_natCast, hg, intRow, hm, go_sem, ↓reduceIte]
          repeat' first
            | refine And.intro ?_ ?_
            | intro _
            | (refine c_l32Note hP (by omega) (by omega) 5 rfl ?_; simp only [hw1, Int.toNat_natCast, hg, intRow, hm, go_sem, ↓reduceIte])
          all_goals first
            | omega
            | (refine ⟨(i + 1, F ++ [⟨m.records - 1, rules[i]⟩]), ⟨hil, by simp only [List.length_append, List.length_cons, List.length_nil]; omega⟩, by simp only; omega, ?_⟩
               simp only [List.length_append, List.length_cons, List.length_nil]
               (refine le_ev [(5, 6)] ?_; simp only [hm, go_sem, ↓reduceIte]; first | done | rfl | exact ⟨rfl, rfl⟩))
        · have : i = rules.length := by omega
          subst this
          simp only [hm, go_sem, ↓reduceIte]
          repeat' first | refine And.intro ?_ ?_ | intro _
          all_goals first
            | omega
            | (refine ⟨_, ⟨F, by omega, rfl⟩, ?_⟩; (refine le_ev [] ?_; simp only [hm, go_sem, ↓reduceIte]; first | done | rfl | exact ⟨rfl, rfl⟩))
      rintro t0 ⟨F, hF, rfl⟩
      rw [if_pos rfl]
      simp only [hm, go_sem, ↓reduceIte]
      exact ⟨{ m with found := F }, ⟨⟨m1, m2, by simp only; omega⟩, rfl⟩, .inr ⟨5, rfl, rfl⟩⟩
    intro _
    refine ⟨fun hk => ?_, fun hk => ?_⟩
    · refine call_frz 0 rfl rfl (by simp only [List.length_map, go_sem, ↓reduceIte]) ?_
      simp only [take_map_len, List.drop_zero, hm, go_sem, ↓reduceIte]
      refine c_l32Note hP (by omega) (by omega) 1 rfl ?_
      simp only [hm, go_sem, ↓reduceIte]
      exact ⟨{ m with found := m.found ++ [⟨m.records - 1, 105⟩] }, ⟨⟨m1, m2, by simp only [List.length_append, List.length_cons, List.length_nil]; omega⟩, rfl⟩, .inr ⟨6, by simp, rfl⟩⟩
    · have hrt : List.take m.list.length (m.list.map Assoc.row) = m.list.map Assoc.row := List.take_of_length_le (by simp)
      simp only [hrt, hm, go_sem, ↓reduceIte]
      repeat' first | refine And.intro ?_ ?_ | intro _
      all_goals first
        | omega
        | (refine ⟨{ m with list := m.list ++ [o] }, ⟨⟨by simp only [List.length_append, List.length_cons, List.length_nil]; omega, fun a ha => ?_, by simp only; omega⟩, rfl⟩, .inl ⟨7, 1, by decide, by simp, by simp [Assoc.row, Assoc.cellsX], by simp⟩⟩
           rcases List.mem_append.1 ha with ha | ha
           · exact m2 a ha
           · simp only [List.mem_singleton] at ha; subst ha; exact hAWs)
  · rintro r hp nx gs ⟨m', ⟨hw, hk⟩, h⟩
    refine ⟨m'.ro, [], 2, [], ⟨⟨m', rfl, hw, hk⟩, rfl, rfl, rfl⟩, fun c hc => ?_⟩
    rcases h with ⟨b1, b2, hne, rfl, h1, h2⟩ | ⟨b2, rfl, h2⟩
    · refine Le.trans (t := ⟨[(0, .agg [.i m'.records, .sl 2 0 m'.list.length, .sl 3 0 m'.found.length])], [(2, .row 14 (m'.list.map Assoc.row)), (3, .row 2 (m'.found.map Fnd.row))], 4, []⟩) (le_ev [(2, b1), (3, b2)] ?_) ?_
      · simp only [hc, go_sem, ↓reduceIte, h1, h2, List.mem_cons, List.not_mem_nil, or_false, not_false_eq_true, and_self]
        exact fun e => hne e.symm
      refine Le.trans (le_frz 2 rfl (by simp only [List.length_map, go_sem, ↓reduceIte]) (by simp only [go_sem, ↓reduceIte])) ?_
      simp only [take_map_len, List.drop_zero, go_sem, ↓reduceIte]
      refine Le.trans (le_frz 3 rfl (by simp only [List.length_map, go_sem, ↓reduceIte]) (by simp only [go_sem, ↓reduceIte])) ?_
      simp only [take_map_len, List.drop_zero, go_sem, ↓reduceIte]
      exact le_ev [] (by simp only [hc, Mon.ro, go_sem, ↓reduceIte])
    · refine Le.trans (t := ⟨[(0, .agg [.i m'.records, .r (.ro none (m'.list.map Assoc.row)), .sl 3 0 m'.found.length])], [(3, .row 2 (m'.found.map Fnd.row))], 4, []⟩) (le_ev [(3, b2)] (by simp only [hc, go_sem, ↓reduceIte, h2])) ?_
      refine Le.trans (le_frz 3 rfl (by simp only [List.length_map, go_sem, ↓reduceIte]) (by simp only [go_sem, ↓reduceIte])) ?_
      simp only [take_map_len, List.drop_zero, go_sem, ↓reduceIte]
      exact le_ev [] (by simp only [hc, Mon.ro, go_sem, ↓reduceIte])
end Go.Cap

/- Contracts: the reference's monitor watches a record. -/
namespace Go.Cap
open Go Go.Proofs
set_option maxRecDepth 100000
set_option linter.unusedSimpArgs false
set_option linter.unusedVariables false
attribute [local irreducible] Call Run Spec Le

theorem c_l32Copy {c : Cx} (hP : c.P = Try.prog) {m : Mon} (hl : m.list.length ≤ 1000) (hf : m.found.length ≤ 1000000) (ha : ∀ a ∈ m.list, AW a) {s : St} {K : AV → St → Prop}
    (hK : K (.agg [.i m.records, .sl s.nx 0 m.list.length, .sl (s.nx + 1) 0 m.found.length]) ⟨s.sl, (s.nx, .row 14 (m.list.map Assoc.row)) :: (s.nx + 1, .row 2 (m.found.map Fnd.row)) :: s.hp, s.nx + 2, s.gs⟩) : Call c 71 [m.ro] s K := by
  refine call_spec [] (hP ▸ s_l32Copy m hl hf ha) (by simp) (by simp) (by simp) rfl fun r hp' nx' gs' h => ?_
  obtain ⟨rfl, rfl, rfl, rfl⟩ := h
  simpa [renA, renA.renL, renH, renB, idf, hdels, Mon.own] using hK
theorem c_l32Begin {c : Cx} (hP : c.P = Try.prog) {m : Mon} {p : Packet} {n : Nat} (hn : n ≤ 100000) (hw : MW n m) (hr : 0 ≤ m.records ∧ m.records ≤ 61) (hp : packB p = true) {s : St} {K : AV → St → Prop} (b0 b1 : Nat) (hne : b0 ≠ b1)
    (h0 : hget s.hp b0 = some (.row 14 (m.list.map Assoc.row))) (h1 : hget s.hp b1 = some (.row 2 (m.found.map Fnd.row)))
    (hK : ∀ m' : Mon, MW (n + 20) m' → m'.records = m.records → K m'.ro ⟨s.sl, hdel (hdel s.hp b0) b1, s.nx, s.gs⟩) : Call c 94 [.agg [.i m.records, .sl b0 0 m.list.length, .sl b1 0 m.found.length], p.ro] s K := by
  refine call_spec [b0, b1] (hP ▸ s_l32Begin m p n hn hw hr hp) (by simpa using hne) ?_ ?_ rfl fun r hp' nx' gs' h => ?_
  · intro q hq
    simp only [List.mem_cons, List.mem_singleton, List.not_mem_nil, or_false] at hq
    rcases hq with rfl | rfl
    · exact ⟨by simp, by rw [show idf [b0, b1] s.nx 0 = b0 from rfl, h0]; rfl⟩
    · exact ⟨by simp, by rw [show idf [b0, b1] s.nx 1 = b1 from rfl, h1]; rfl⟩
  · intro j hj
    have : j = 0 ∨ j = 1 := by simp at hj; omega
    rcases this with rfl | rfl
    · exact ⟨_, List.mem_cons_self ..⟩
    · exact ⟨_, List.mem_cons_of_mem _ (List.mem_cons_self ..)⟩
  · obtain ⟨⟨m', rfl, hw', hk'⟩, rfl, rfl, rfl⟩ := h
    have := hK m' hw' hk'
    simpa [renA, renA.renL, renH, renB, idf, hdels, Mon.ro] using this
theorem s_l32Step (m : Mon) (text : List UInt8) (n : Nat) (hn : n ≤ 90000) (hw : MW n m) (hr : 0 ≤ m.records ∧ m.records ≤ 60) (ht : text.length ≤ 10000) :
    Spec Try.prog 77 0 [] [m.ro, .st text] (Plain fun r => ∃ m' : Mon, r = m'.ro ∧ MW (n + 20) m' ∧ m'.records = m.records + 1) := by
  obtain ⟨m1, m2, m3⟩ := hw
  refine Spec.le (Q := fun r hp _ _ => ∃ m' : Mon, (MW (n + 20) m' ∧ m'.records = m.records + 1) ∧ (r = m'.ro ∨ (∃ b2, r = .agg [.i m'.records, .r (.ro none (m'.list.map Assoc.row)), .sl b2 0 m'.found.length] ∧ hget hp b2 = some (.row 2 (m'.found.map Fnd.row))))) ?_ ?_
  · refine mr77 rfl fun c hP hm => ?_
    unfold pc77
    have hwr : IntKind.i64.wrap (m.records + 1) = m.records + 1 := wrap64 (by omega) (by omega)
    have hcp := fun (s : St) (K : AV → St → Prop) h => @c_l32Copy c hP m (by omega) (by omega) m2 s K h
    unfold Mon.ro at hcp ⊢
    refine run_seq (run_wpc _ _ _ _ _ ?_)
    simp only [hm, go_sem, ↓reduceIte]
    refine run_seq (run_wpc _ _ _ _ _ ?_)
    simp only [hm, go_sem, ↓reduceIte]
    refine hcp _ _ ?_
    simp only [hm, go_sem, ↓reduceIte]
    refine run_seq (run_wpc _ _ _ _ _ ?_)
    simp only [hwr, hm, go_sem, ↓reduceIte]
    refine run_seq (run_wpc _ _ _ _ _ ?_)
    simp only [hm, go_sem, ↓reduceIte]
    refine call_plain (hP ▸ s_specPacketGetW text ht) rfl ?_
    rintro r ⟨p, code, rfl, hc, hp⟩
    refine ⟨rfl, ?_⟩
    unfold Packet.ro
    simp only [hm, go_sem, ↓reduceIte]
    have hwc : IntKind.i64.wrap (IntKind.i64.wrap (101 + code) - 1) = 100 + code := by rw [wrap64 (x := 101 + code) (by omega) (by omega), wrap64 (by omega) (by omega)]; omega
    refine run_seq (run_wpc _ _ _ _ _ ?_)
    simp only [hwc, hm, go_sem, ↓reduceIte]
    refine ⟨fun hc0 => ?_, fun hc0 => ?_⟩
    · refine call_frz 2 rfl rfl (by simp only [List.length_map, go_sem, ↓reduceIte]) ?_
      simp only [take_map_len, List.drop_zero, hm, go_sem, ↓reduceIte]
      refine c_l32Note hP (by omega) (by omega) 3 rfl ?_
      simp only [hm, go_sem, ↓reduceIte]
      exact ⟨⟨m.records + 1, m.list, m.found ++ [⟨m.records + 1 - 1, 100 + code⟩]⟩, ⟨⟨m1, m2, by simp only [List.length_append, List.length_cons, List.length_nil]; omega⟩, rfl⟩, .inr ⟨6, by simp, rfl⟩⟩
    have hpk := hp hc0
    have hpb := hpk
    simp only [packB, Bool.and_eq_true, decide_eq_true_eq, List.all_eq_true, chunkB] at hpb
    have hcl : p.chunks.length ≤ 4 ∧ 1 ≤ p.chunks.length := by omega
    have hk0 := (hpb.2 _ (List.getElem_mem (l := p.chunks) (n := 0) (by omega))).2
    have hg0 : (p.chunks.map Chunk.row).getD 0 [] = (p.chunks[0]'(by omega)).row := getD_map (f := Chunk.row) (i := 0) (by omega)
    generalize p.chunks[0]'(by omega) = k0 at hg0 hk0
    have hgi := s_specInitGet k0 (by omega)
    have hal := s_specPacketAlone p (by omega)
    have hf := s_l32Find ⟨m.records + 1, m.list, m.found⟩ p.fr p.to (by simp only; omega)
    unfold Mon.ro at hf
    simp only at hf
    unfold Packet.ro at hal
    unfold Chunk.av at hgi
    have hfx : ixOr (findIx p.fr p.to m.list) = -1 ∨ (0 ≤ ixOr (findIx p.fr p.to m.list) ∧ ixOr (findIx p.fr p.to m.list) < m.list.length) := by
      cases h : findIx p.fr p.to m.list with
      | none => exact .inl rfl
      | some k => have := (findIx_lt h).1; right; simp only [ixOr]; omega
    generalize ixOr (findIx p.fr p.to m.list) = k at hf hfx
    refine run_seq (run_wpc _ _ _ _ _ ?_)
    simp only [hm, go_sem, ↓reduceIte]
    refine call_flat (hP ▸ hf) rfl (.cons (vw_agg (.cons (vw_self _ _ rfl) (.cons (Vw.full rfl (by simp)) (.cons (Vw.full rfl (by simp)) .nil)))) (.cons (.r _) (.cons (.r _) .nil))) ?_
    simp only [hm, go_sem, ↓reduceIte]
    refine run_join (fun t => ∃ (L : List Assoc) (k : Int), L.length ≤ 3 ∧ (∀ a ∈ L, AW a) ∧ (k = -1 ∨ (0 ≤ k ∧ k < L.length)) ∧ t = ⟨[(4, .ptr 1 0 0), (5, .ptr 4 0 0), (6, .ptr 5 0 0), (8, .i k)], [(1, .var [.i 0, .r .nil, .r .nil]), (4, .var [.i (m.records + 1), .sl 2 0 L.length, .sl 3 0 m.found.length]), (5, .var [.i p.fr, .i p.to, .i p.tag, .r (.ro none (p.chunks.map Chunk.row))]), (2, .row 14 (L.map Assoc.row)), (3, .row 2 (m.found.map Fnd.row))], 6, []⟩) (run_wpc _ _ _ _ _ ?_) ?_
    · have hkn : ∀ hh : (0 ≤ k ∧ k < m.list.length), k.toNat < m.list.length := fun hh => by omega
      have hrw14 : ∀ l : List Assoc, rowsN 14 (l.map Assoc.row) := fun l r hr => by obtain ⟨d, _, rfl⟩ := List.mem_map.1 hr; rfl
      rcases hfx with rfl | hk
      · simp only [hm, go_sem, ↓reduceIte]
        repeat' first | refine And.intro ?_ ?_ | intro _
        all_goals first
          | omega
          | (refine ⟨_, ⟨m.list, -1, by omega, m2, .inl rfl, rfl⟩, ?_⟩; (refine le_ev [] ?_; simp only [hm, go_sem, ↓reduceIte]; first | done | rfl | exact ⟨rfl, rfl⟩))
      · have hil : k.toNat < m.list.length := by omega
        have hga := getD_map (f := Assoc.row) hil
        generalize m.list[k.toNat] = a at hga
        have hwk : IntKind.i64.wrap (k + 1) = k + 1 := wrap64 (by omega) (by omega)
        have hA : List.take (k.toNat - 0) (m.list.map Assoc.row) = (m.list.take k.toNat).map Assoc.row := by rw [Nat.sub_zero, List.map_take]
        have hB : List.take ((m.list.length : Int).toNat - (k + 1).toNat) (List.drop (k + 1).toNat (m.list.map Assoc.row)) = (m.list.drop (k.toNat + 1)).map Assoc.row := by
          have e : (k + 1).toNat = k.toNat + 1 := by omega
          rw [e, List.map_drop, List.take_of_length_le]
          simp only [List.length_drop, List.length_map]; omega
        simp only [hga, hg0, hwk, Assoc.row, Assoc.cellsX, Chunk.row, hm, go_sem, ↓reduceIte]
        repeat' first
          | refine And.intro ?_ ?_
          | intro _
          | (refine call_pure (hP ▸ hal) rfl rfl ?_; simp only [hA, hB, take_map_len, List.length_map, hga, hg0, hwk, Assoc.cellsX, Chunk.row, hm, go_sem, ↓reduceIte])
          | (refine call_data (hP ▸ hgi) rfl rfl ?_; simp only [Init.av, hA, hB, take_map_len, List.length_map, hga, hg0, hwk, Chunk.row, hm, go_sem, ↓reduceIte])
        all_goals first
          | omega
          | (refine ⟨_, ⟨m.list, k, by omega, m2, .inr hk, rfl⟩, ?_⟩; (refine le_ev [] ?_; simp only [hm, go_sem, ↓reduceIte]; first | done | rfl | exact ⟨rfl, rfl⟩))
          | (rename_i r hr; exact hrw14 _ r hr)
          | (simp only [List.length_map, List.length_take, List.length_drop]; omega)
          | (refine ⟨_, ⟨m.list.take k.toNat ++ m.list.drop (k.toNat + 1), -1, by simp only [List.length_append, List.length_take, List.length_drop]; omega, fun a ha => ?_, .inl rfl, rfl⟩, ?_⟩
             · rcases List.mem_append.1 ha with ha | ha
               · exact m2 a (List.mem_of_mem_take ha)
               · exact m2 a (List.mem_of_mem_drop ha)
             · simp only [List.map_append, List.length_append]
               (refine le_ev [(2, 7)] ?_; simp only [hm, go_sem, ↓reduceIte]; first | done | rfl | exact ⟨rfl, rfl⟩))
    rintro t ⟨L, k, l1, l2, l3, rfl⟩
    have hal' := hal
    clear hal hgi hf hfx
    rcases l3 with rfl | hk
    · refine run_wpc _ _ _ _ _ ?_
      simp only [hm, go_sem, ↓reduceIte]
      refine c_l32Begin hP (m := ⟨m.records + 1, L, m.found⟩) (p := p) (n := n) (by omega) ⟨l1, l2, m3⟩ (by simp only; omega) hpk 2 3 (by decide) rfl rfl fun m' hm' hk' => ?_
      unfold Mon.ro
      simp only [hm, go_sem, ↓reduceIte]
      exact ⟨m', ⟨hm', hk'⟩, .inl rfl⟩
    · have hil : k.toNat < L.length := by omega
      have hga := getD_map (f := Assoc.row) hil
      have hax := l2 _ (List.getElem_mem hil)
      generalize L[k.toNat] = a at hga hax
      have has := s_specAssocStep a p ⟨by have := hax.1.2.1; omega, fun d hd => by have := dataB_text (hax.1.2.2 d hd); omega⟩ ⟨by have := hax.2.2.1; omega, fun d hd => by have := dataB_text (hax.2.2.2 d hd); omega⟩ (by omega)
      have hAWs := assocStep_AW a p
      have hlen := assocStep_le a p
      generalize assocStep a p = x at *
      obtain ⟨o, rules⟩ := x
      simp only at hAWs hlen has
      have hu : a.ro = .agg a.cellsA := rfl
      have hu2 : o.ro = .agg o.cellsA := rfl
      rw [hu, hu2] at has
      unfold Packet.ro Assoc.cellsA at has
      refine run_seq (run_wpc _ _ _ _ _ ?_)
      simp only [hm, go_sem, ↓reduceIte]
      repeat' first | refine And.intro ?_ ?_ | intro _
      all_goals first
        | omega
        | skip
      refine run_join (fun t => t = ⟨[(4, .ptr 1 0 0), (5, .ptr 4 0 0), (8, .i k), (11, .ptr 6 0 0), (12, .r (.ro none (rules.map intRow)))], [(1, .var [.i 0, .r .nil, .r .nil]), (4, .var [.i (m.records + 1), .sl 2 0 L.length, .sl 3 0 m.found.length]), (2, .row 14 (L.map Assoc.row)), (3, .row 2 (m.found.map Fnd.row)), (6, .var o.cellsA)], 7, []⟩) (run_wpc _ _ _ _ _ ?_) ?_
      · simp only [hga, Assoc.row, Assoc.cellsX, hm, go_sem, ↓reduceIte]
        repeat' first
          | refine And.intro ?_ ?_
          | intro _
          | (refine call_dataP (hP ▸ has) rfl rfl ?_; simp only [hga, Assoc.row, Assoc.cellsX, hm, go_sem, ↓reduceIte])
        all_goals first
          | omega
          | (refine ⟨_, rfl, ?_⟩; unfold Assoc.cellsA; (refine le_ev [] ?_; simp only [hm, go_sem, ↓reduceIte]; first | done | rfl | exact ⟨rfl, rfl⟩))
      rintro t rfl
      unfold Assoc.cellsA
      refine run_seq (run_wpc _ _ _ _ _ ?_)
      simp only [hm, go_sem, ↓reduceIte]
      refine ⟨hk, hil, ?_⟩
      have hrow : (L.map Assoc.row).set k.toNat [RV.n IntKind.i64 o.fr, RV.n IntKind.i64 o.to, RV.n IntKind.i64 o.state, RV.b o.byB, RV.n IntKind.i64 o.a.tag, RV.n IntKind.i64 o.a.streams, RV.n IntKind.i64 o.a.first, RV.ro none (o.a.sent.map Data.row), RV.n IntKind.i64 o.a.acked, RV.n IntKind.i64 o.b.tag, RV.n IntKind.i64 o.b.streams, RV.n IntKind.i64 o.b.first, RV.ro none (o.b.sent.map Data.row), RV.n IntKind.i64 o.b.acked] = (L.set k.toNat o).map Assoc.row := by rw [List.map_set]; rfl
      rw [hrow]
      have hll : (L.set k.toNat o).length ≤ 3 := by rw [List.length_set]; exact l1
      have hL2 : ∀ a ∈ L.set k.toNat o, AW a := fun a ha => by
        rcases List.mem_or_eq_of_mem_set ha with ha | rfl
        · exact l2 a ha
        · exact hAWs
      have hlen2 : L.length = (L.set k.toNat o).length := by rw [List.length_set]
      rw [hlen2]
      generalize L.set k.toNat o = L2 at hll hL2
      refine run_frz 2 rfl (by first | (simp only [hm, List.length_map, go_sem, ↓reduceIte]; done) | (simp only [hm, List.length_map, go_sem, ↓reduceIte]; omega)) (by first | (simp only [hm, List.length_map, go_sem, ↓reduceIte]; done) | (simp only [hm, List.length_map, go_sem, ↓reduceIte]; omega)) ?_; simp only [hm, take_map_len, List.drop_zero, go_sem, ↓reduceIte]
      refine run_wpc _ _ _ _ _ ?_
      simp only [hm, go_sem, ↓reduceIte]
      refine run_exit 0 (fun t0 => ∃ F : List Fnd, F.length ≤ n + 12 ∧ t0 = ⟨[(4, .ptr 1 0 0), (5, .ptr 4 0 0)], [(1, .var [.i 0, .r .nil, .r .nil]), (4, .var [.i (m.records + 1), .r (.ro none (L2.map Assoc.row)), .sl 7 0 F.length]), (7, .row 2 (F.map Fnd.row))], 8, []⟩) ?_ ?_
      · refine lp_wpc (α := Nat × List Fnd) (fun y => ⟨[(4, .ptr 1 0 0), (5, .ptr 4 0 0), (12, .r (.ro none (rules.map intRow))), (13, .i y.1)], [(1, .var [.i 0, .r .nil, .r .nil]), (4, .var [.i (m.records + 1), .r (.ro none (L2.map Assoc.row)), .sl 7 0 y.2.length]), (7, .row 2 (y.2.map Fnd.row))], 8, []⟩)
          (fun y => y.1 ≤ rules.length ∧ y.2.length ≤ n + y.1) (fun y => rules.length - y.1) (0, m.found) ⟨Nat.zero_le _, by simp only; omega⟩ (by (refine le_ev [(7, 3)] ?_; simp only [hm, go_sem, ↓reduceIte]; first | done | rfl | exact ⟨rfl, rfl⟩)) ?_
        rintro ⟨i, F⟩ ⟨h1, h2⟩
        simp only at h1 h2
        unfold pc77l0
        rcases Nat.lt_or_ge i rules.length with hil | hil
        · have hw1 : IntKind.i64.wrap ((i : Int) + 1) = ((i + 1 : Nat) : Int) := by rw [wrap64 (by omega) (by omega)]; omega
          have hg := getD_map (f := intRow) hil
          simp only [hw1, Int.toNat_natCast, hg, intRow, hm, go_sem, ↓reduceIte]
          repeat' first
            | refine And.intro ?_ ?_
            | intro _
            | (refine c_l32Note hP (by omega) (by omega) 7 rfl ?_; simp only [hw1, Int.toNat_natCast, hg, intRow, hm, go_sem, ↓reduceIte])
          all_goals first
            | omega
            | (refine ⟨(i + 1, F ++ [⟨m.records + 1 - 1, rules[i]⟩]), ⟨hil, by simp only [List.length_append, List.length_cons, List.length_nil]; omega⟩, by simp only; omega, ?_⟩
               simp only [List.length_append, List.length_cons, List.length_nil]
               (refine le_ev [(7, 8)] ?_; simp only [hm, go_sem, ↓reduceIte]; first | done | rfl | exact ⟨rfl, rfl⟩))
        · have : i = rules.length := by omega
          subst this
          simp only [hm, go_sem, ↓reduceIte]
          repeat' first | refine And.intro ?_ ?_ | intro _
          all_goals first
            | omega
            | (refine ⟨_, ⟨F, by omega, rfl⟩, ?_⟩; (refine le_ev [] ?_; simp only [hm, go_sem, ↓reduceIte]; first | done | rfl | exact ⟨rfl, rfl⟩))
      rintro t0 ⟨F, hF, rfl⟩
      simp only [hm, go_sem, ↓reduceIte]
      exact ⟨⟨m.records + 1, L2, F⟩, ⟨⟨hll, hL2, by simp only; omega⟩, rfl⟩, .inr ⟨7, rfl, rfl⟩⟩
  · rintro r hp nx gs ⟨m', ⟨hw, hk⟩, h⟩
    rcases h with rfl | ⟨b2, rfl, h2⟩
    · refine ⟨m'.ro, [], 0, [], ⟨⟨m', rfl, hw, hk⟩, rfl, rfl, rfl⟩, fun c hc => ?_⟩
      unfold Mon.ro
      exact le_ev [] (by simp only [hc, go_sem, ↓reduceIte])
    · refine ⟨m'.ro, [], 0, [], ⟨⟨m', rfl, hw, hk⟩, rfl, rfl, rfl⟩, fun c hc => ?_⟩
      refine Le.trans (t := ⟨[(0, .agg [.i m'.records, .r (.ro none (m'.list.map Assoc.row)), .sl 0 0 m'.found.length])], [(0, .row 2 (m'.found.map Fnd.row))], 1, []⟩) (le_ev [(0, b2)] (by simp only [hc, go_sem, ↓reduceIte, h2])) ?_
      refine Le.trans (le_frz 0 rfl (by simp only [List.length_map, go_sem, ↓reduceIte]) (by simp only [go_sem, ↓reduceIte])) ?_
      simp only [take_map_len, List.drop_zero, go_sem, ↓reduceIte]
      exact le_ev [] (by simp only [hc, Mon.ro, go_sem, ↓reduceIte])
end Go.Cap

/- Contracts: the reference's monitor, as data, as far as the draws need it. -/
namespace Go.Cap
open Go Go.Proofs
set_option maxRecDepth 100000
set_option linter.unusedSimpArgs false
set_option linter.unusedVariables false
attribute [local irreducible] Call Run Spec Le

theorem MW.fit {n : Nat} {m : Mon} (hn : n ≤ 90000) (h : MW n m) : MFit m := by
  obtain ⟨h1, h2, h3⟩ := h
  refine ⟨by omega, by omega, fun x hx => ?_⟩
  obtain ⟨⟨_, a2, a3⟩, ⟨_, b2, b3⟩⟩ := h2 x hx
  exact ⟨⟨by omega, fun d hd => by have := dataB_text (a3 d hd); omega⟩, ⟨by omega, fun d hd => by have := dataB_text (b3 d hd); omega⟩⟩
theorem MW.no (n : Nat) : MW n noMon := ⟨by decide, fun a ha => (List.not_mem_nil ha).elim, Nat.zero_le _⟩
theorem s_specMonitorStepW (m : Mon) (text : List UInt8) (n : Nat) (hn : n ≤ 80000) (hw : MW n m) (ht : text.length ≤ 10000) :
    Spec Try.prog 86 0 [] [m.ro, .st text] (Plain fun r => ∃ m' : Mon, r = m'.ro ∧ MW (n + 20) m') := by
  refine Spec.le (Q := fun r hp _ _ => ∃ m' : Mon, MW (n + 20) m' ∧ (r = m'.ro ∨ (m' = noMon ∧ r = .agg [.i 0, .r .nil, .r .nil]))) ?_ ?_
  · refine mr86 rfl fun c hP hm => ?_
    unfold pc86
    have hv := s_specMonitorValid m (hw.fit (by omega))
    have hst := fun hr => s_l32Step m text n (by omega) hw hr ht
    unfold Mon.ro at hv hst ⊢
    refine run_seq (run_wpc _ _ _ _ _ ?_)
    simp only [hm, go_sem, ↓reduceIte]
    refine run_seq (run_wpc _ _ _ _ _ ?_)
    simp only [hm, go_sem, ↓reduceIte]
    refine call_pure (hP ▸ hv) rfl rfl ?_
    by_cases hb : monB m = true
    · have hrec : 0 ≤ m.records ∧ m.records ≤ 60 := by
        unfold monB inB at hb
        simp only [Bool.and_eq_true, decide_eq_true_eq] at hb
        exact hb.1.1.1
      simp only [hb, hm, go_sem, ↓reduceIte]
      refine ⟨fun hge => ?_, fun hge => ?_⟩
      · exact ⟨noMon, MW.no _, .inr rfl⟩
      · refine run_wpc _ _ _ _ _ ?_
        simp only [hm, go_sem, ↓reduceIte]
        refine call_plain (hP ▸ hst hrec) rfl ?_
        rintro r ⟨m', rfl, hw', hk'⟩
        refine ⟨rfl, ?_⟩
        simp only [hm, go_sem, ↓reduceIte]
        exact ⟨m', hw', .inl rfl⟩
    · simp only [hb, hm, go_sem, ↓reduceIte]
      exact ⟨noMon, MW.no _, .inr rfl⟩
  · rintro r hp nx gs ⟨m', hw, h⟩
    refine ⟨m'.ro, [], 0, [], ⟨⟨m', rfl, hw⟩, rfl, rfl, rfl⟩, fun c hc => ?_⟩
    rcases h with rfl | ⟨rfl, rfl⟩
    · unfold Mon.ro
      exact le_ev [] (by simp only [hc, go_sem, ↓reduceIte])
    · refine Le.trans le_denil ?_
      exact le_ev [] (by simp only [hc, noMon, Mon.ro, List.map_nil, go_sem, ↓reduceIte])
theorem s_specMonitorRunW (l : List Rec) (ht : ∀ x ∈ l, x.text.length ≤ 10000) (hl : l.length ≤ 100000) :
    Spec Try.prog 62 0 [] [.r (.ro none (l.map Rec.row))] (Plain fun r => ∃ m' : Mon, r = m'.ro ∧ MW 1500 m') := by
  refine Spec.le (Q := fun r hp _ _ => ∃ m' : Mon, MW 1500 m' ∧ r = m'.ro) ?_ ?_
  · refine mr62 rfl fun c hP hm => ?_
    unfold pc62
    refine run_seq (run_wpc _ _ _ _ _ ?_)
    simp only [hm, go_sem, ↓reduceIte]
    refine run_seq (run_wpc _ _ _ _ _ ?_)
    simp only [hm, go_sem, ↓reduceIte]
    refine run_frz 1 rfl (by first | (simp only [hm, List.length_map, go_sem, ↓reduceIte]; done) | (simp only [hm, List.length_map, go_sem, ↓reduceIte]; omega)) (by first | (simp only [hm, List.length_map, go_sem, ↓reduceIte]; done) | (simp only [hm, List.length_map, go_sem, ↓reduceIte]; omega)) ?_; simp only [hm, take_map_len, List.drop_zero, go_sem, ↓reduceIte]
    refine run_frz 2 rfl (by first | (simp only [hm, List.length_map, go_sem, ↓reduceIte]; done) | (simp only [hm, List.length_map, go_sem, ↓reduceIte]; omega)) (by first | (simp only [hm, List.length_map, go_sem, ↓reduceIte]; done) | (simp only [hm, List.length_map, go_sem, ↓reduceIte]; omega)) ?_; simp only [hm, take_map_len, List.drop_zero, go_sem, ↓reduceIte]
    refine run_wpc _ _ _ _ _ ?_
    simp only [hm, go_sem, ↓reduceIte]
    refine run_exit 0 (fun t0 => ∃ m : Mon, MW 1500 m ∧ t0 = ⟨[(2, .ptr 0 0 0), (3, .ptr 3 0 0)], [(3, .var [.i m.records, .r (.ro none (m.list.map Assoc.row)), .r (.ro none (m.found.map Fnd.row))]), (0, .var [.i 0, .r .nil, .r .nil])], 4, []⟩) ?_ ?_
    rotate_left
    · rintro t0 ⟨m, hw, rfl⟩
      simp only [hm, go_sem, ↓reduceIte]
      exact ⟨m, hw, rfl⟩
    refine lp_wpc (α := Nat × Mon) (fun y => ⟨[(0, .r (.ro none (l.map Rec.row))), (2, .ptr 0 0 0), (3, .ptr 3 0 0), (4, .i y.1)], [(3, .var [.i y.2.records, .r (.ro none (y.2.list.map Assoc.row)), .r (.ro none (y.2.found.map Fnd.row))]), (0, .var [.i 0, .r .nil, .r .nil])], 4, []⟩)
      (fun y => y.1 ≤ l.length ∧ MW (20 * y.1) y.2 ∧ y.2.records = y.1 ∧ (0 < y.1 → captB l = true)) (fun y => l.length - y.1) (0, noMon) ⟨Nat.zero_le _, MW.no _, rfl, fun h => absurd h (Nat.lt_irrefl 0)⟩ (by simp only [noMon, List.map_nil]; (refine le_ev [] ?_; simp only [hm, go_sem, ↓reduceIte]; first | done | rfl | exact ⟨rfl, rfl⟩)) ?_
    rintro ⟨i, m⟩ ⟨h1, h2, h3, h4⟩
    simp only at h1 h2 h3 h4
    unfold pc62l0
    have hcap : captB l = true → l.length ≤ 60 := fun h => by
      unfold captB at h
      simp only [Bool.and_eq_true, decide_eq_true_eq] at h
      exact h.2
    have h5 : i ≤ 60 := by
      rcases Nat.eq_zero_or_pos i with h | h
      · omega
      · have := hcap (h4 h); omega
    have hfin : MW 1500 m := ⟨h2.1, h2.2.1, by have := h2.2.2; omega⟩
    rcases Nat.lt_or_ge i l.length with hil | hil
    · have hw1 : IntKind.i64.wrap ((i : Int) + 1) = ((i + 1 : Nat) : Int) := by rw [wrap64 (by omega) (by omega)]; omega
      have hg := getD_map (f := Rec.row) hil
      have hxt := ht _ (List.getElem_mem hil)
      generalize l[i] = x at hg hxt
      cases hb : captB l
      · simp only [hw1, Int.toNat_natCast, hg, Rec.row, hm, go_sem, ↓reduceIte]
        repeat' first
          | refine And.intro ?_ ?_
          | intro _
          | (refine call_pure (hP ▸ s_specCaptureValid l (by omega)) rfl rfl ?_; simp only [hb, hw1, Int.toNat_natCast, hg, Rec.row, hm, go_sem, ↓reduceIte])
        all_goals first
          | omega
          | (refine ⟨_, ⟨m, hfin, rfl⟩, ?_⟩; (refine le_ev [] ?_; simp only [hm, go_sem, ↓reduceIte]; first | done | rfl | exact ⟨rfl, rfl⟩))
      · have h60 := hcap hb
        have hst := s_l32Step m x.text (20 * i) (by omega) h2 (by omega) hxt
        unfold Mon.ro at hst
        simp only [hw1, Int.toNat_natCast, hg, Rec.row, hm, go_sem, ↓reduceIte]
        repeat' first
          | refine And.intro ?_ ?_
          | intro _
          | (refine call_pure (hP ▸ s_specCaptureValid l (by omega)) rfl rfl ?_; simp only [hb, hw1, Int.toNat_natCast, hg, Rec.row, hm, go_sem, ↓reduceIte])
          | (refine call_plain (hP ▸ hst) rfl ?_; rintro r ⟨m', rfl, hw', hk'⟩; refine ⟨rfl, ?_⟩; simp only [hw1, hm, go_sem, ↓reduceIte])
        all_goals first
          | omega
          | (refine ⟨(i + 1, m'), ⟨hil, by rw [Nat.mul_add]; exact hw', by simp only; omega⟩, by simp only; omega, ?_⟩; (refine le_ev [] ?_; simp only [hm, go_sem, ↓reduceIte]; first | done | rfl | exact ⟨rfl, rfl⟩))
    · have : i = l.length := by omega
      subst this
      simp only [hm, go_sem, ↓reduceIte]
      repeat' first | refine And.intro ?_ ?_ | intro _
      all_goals first
        | omega
        | (refine ⟨_, ⟨m, hfin, rfl⟩, ?_⟩; (refine le_ev [] ?_; simp only [hm, go_sem, ↓reduceIte]; first | done | rfl | exact ⟨rfl, rfl⟩))
  · rintro r hp nx gs ⟨m', hw, rfl⟩
    refine ⟨m'.ro, [], 0, [], ⟨⟨m', rfl, hw⟩, rfl, rfl, rfl⟩, fun c hc => ?_⟩
    unfold Mon.ro
    exact le_ev [] (by simp only [hc, go_sem, ↓reduceIte])
end Go.Cap

/- Contracts: the records of a talk (the program's); draws; equality of records. -/
namespace Go.Cap
open Go Go.Proofs
set_option maxRecDepth 100000
set_option linter.unusedSimpArgs false
set_option linter.unusedVariables false
attribute [local irreducible] Call Run Spec Le

theorem s_specTalkRecordsP (t : Talk) (begin : Int) (hb : begin ≤ 9223372036854775807) (hl : t.says.length ≤ 1048576) (hx : ∀ s ∈ t.says, s.text.length ≤ 1048576) :
    Spec Try.prog 63 0 [] [t.ro, .i begin] (Plain fun r => r = .r (.ro none ((talkRecs t begin).map Rec.row))) := by
  have := s_specTalkRecords t begin hb hl hx
  rw [← List.length_map (f := Rec.row)] at this
  exact this.dataP
end Go.Cap

/- Contracts: a monitor and an association are drawn. -/
namespace Go.Cap
open Go Go.Proofs
set_option maxRecDepth 100000
set_option linter.unusedSimpArgs false
set_option linter.unusedVariables false
attribute [local irreducible] Call Run Spec Le

theorem recsFrom_text : ∀ {l : List Rec} {n : Int}, recsFrom n l = true → ∀ x ∈ l, x.text.length ≤ 120
  | [], _, _, x, hx => (List.not_mem_nil hx).elim
  | y :: l, n, h, x, hx => by
    simp only [recsFrom, Bool.and_eq_true, decide_eq_true_eq] at h
    rcases List.mem_cons.1 hx with rfl | hx
    · exact h.1.2
    · exact recsFrom_text h.2 x hx
theorem talkRecs_text (t : Talk) (b : Int) : (talkRecs t b).length ≤ 60 ∧ ∀ x ∈ talkRecs t b, x.text.length ≤ 120 := by
  unfold talkRecs
  split
  · rename_i h
    have h2 := h.2
    simp only [captB, Bool.and_eq_true, decide_eq_true_eq] at h2
    exact ⟨h2.2, recsFrom_text h2.1⟩
  · exact ⟨by simp, fun x hx => (List.not_mem_nil hx).elim⟩
def MonIs (n : Nat) (r : AV) : Prop := ∃ m : Mon, r = m.ro ∧ MW n m
theorem s_l92Monitor (code : List UInt8) (p : Int) (hp : 0 ≤ p ∧ p ≤ 980000) (hc : code.length ≤ 2000) : Spec Try.prog 72 1 [(0, rdB code p)] [.ptr 0 0 0] (NamedP (DrawP (MonIs 2500) code p 1500)) := by
  refine Spec.le (Q := fun r hp _ _ => ∃ (m : Mon) (p' : Int), MW 2500 m ∧ r = m.ro ∧ hget hp 0 = some (rdB code p') ∧ p ≤ p' ∧ p' ≤ p + 1500) ?_ ?_
  · refine mr72 rfl fun c hP hm => ?_
    unfold pc72
    refine run_seq (run_wpc _ _ _ _ _ ?_)
    simp only [hm, go_sem, ↓reduceIte]
    refine run_seq (run_wpc _ _ _ _ _ ?_)
    simp only [hm, go_sem, ↓reduceIte]
    refine c_drawT (hP ▸ s_l92Talk code p (by omega) hc) rfl fun t p1 h1 h2 h3 h4 => ?_
    simp only [Talk.av, hm, go_sem, ↓reduceIte]
    refine call_frz 2 rfl rfl (by simp only [List.length_map, go_sem, ↓reduceIte]) ?_
    simp only [take_map_len, List.drop_zero, hm, go_sem, ↓reduceIte]
    refine call_dataP (hP ▸ s_specTalkRecordsP t 0 (by omega) (by omega) (fun s hs => by have := h4 s hs; omega)) rfl rfl ?_
    obtain ⟨k1, k2⟩ := talkRecs_text t 0
    generalize talkRecs t 0 = l at k1 k2
    simp only [hm, go_sem, ↓reduceIte]
    refine run_seq (run_wpc _ _ _ _ _ ?_)
    simp only [hm, go_sem, ↓reduceIte]
    refine run_frz 3 rfl (by first | (simp only [hm, List.length_map, go_sem, ↓reduceIte]; done) | (simp only [hm, List.length_map, go_sem, ↓reduceIte]; omega)) (by first | (simp only [hm, List.length_map, go_sem, ↓reduceIte]; done) | (simp only [hm, List.length_map, go_sem, ↓reduceIte]; omega)) ?_; simp only [hm, take_map_len, List.drop_zero, go_sem, ↓reduceIte]
    refine run_frz 4 rfl (by first | (simp only [hm, List.length_map, go_sem, ↓reduceIte]; done) | (simp only [hm, List.length_map, go_sem, ↓reduceIte]; omega)) (by first | (simp only [hm, List.length_map, go_sem, ↓reduceIte]; done) | (simp only [hm, List.length_map, go_sem, ↓reduceIte]; omega)) ?_; simp only [hm, take_map_len, List.drop_zero, go_sem, ↓reduceIte]
    refine run_seq (run_wpc _ _ _ _ _ ?_)
    have hwl : IntKind.i64.wrap ((l.length : Int) + 1) = (l.length : Int) + 1 := wrap64 (by omega) (by omega)
    simp only [hwl, hm, go_sem, ↓reduceIte]
    intro _
    refine c_pick hP (by rfl) (by omega) hc fun k hk => ?_
    have hk' : 0 ≤ k ∧ k ≤ l.length := by unfold Below at hk; omega
    simp only [hm, go_sem, ↓reduceIte]
    refine run_wpc _ _ _ _ _ ?_
    simp only [hm, go_sem, ↓reduceIte]
    refine run_exit 0 (fun t0 => ∃ (m : Mon) (q : Int), MW 2500 m ∧ p ≤ q ∧ q ≤ p + 1500 ∧ t0 = ⟨[(2, .ptr 1 0 0), (4, .ptr 5 0 0)], [(5, .var [.i m.records, .r (.ro none (m.list.map Assoc.row)), .r (.ro none (m.found.map Fnd.row))]), (0, rdB code q), (1, .var [.i 0, .r .nil, .r .nil])], 6, []⟩) ?_ ?_
    rotate_left
    · rintro t0 ⟨m, q, hw, q1, q2, rfl⟩
      simp only [hm, go_sem, ↓reduceIte]
      exact ⟨m, q, hw, rfl, rfl, q1, q2⟩
    refine lp_wpc (α := Nat × Mon × Int) (fun y => ⟨[(0, .ptr 0 0 0), (2, .ptr 1 0 0), (3, .r (.ro none (l.map Rec.row))), (4, .ptr 5 0 0), (5, .i k), (6, .i y.1)], [(5, .var [.i y.2.1.records, .r (.ro none (y.2.1.list.map Assoc.row)), .r (.ro none (y.2.1.found.map Fnd.row))]), (0, rdB code y.2.2), (1, .var [.i 0, .r .nil, .r .nil])], 6, []⟩)
      (fun y => (y.1 : Int) ≤ k ∧ MW (40 * y.1) y.2.1 ∧ p ≤ y.2.2 ∧ y.2.2 ≤ p + 110 + 20 * y.1) (fun y => (k - y.1).toNat) (0, noMon, p1 + 1) ⟨by simp only; omega, MW.no _, by simp only; omega, by simp only; omega⟩ (by simp only [noMon, List.map_nil]; (refine le_ev [] ?_; simp only [hm, go_sem, ↓reduceIte]; first | done | rfl | exact ⟨rfl, rfl⟩)) ?_
    rintro ⟨i, m, q⟩ ⟨i1, i2, i3, i4⟩
    simp only at i1 i2 i3 i4
    unfold pc72l0
    rcases Int.lt_or_le (i : Int) k with hlt | hge
    · have hil : i < l.length := by omega
      have hw1 : IntKind.i64.wrap ((i : Int) + 1) = ((i + 1 : Nat) : Int) := by rw [wrap64 (by omega) (by omega)]; omega
      have hg := getD_map (f := Rec.row) hil
      have hxt := k2 _ (List.getElem_mem hil)
      generalize l[i] = x at hg hxt
      have step : ∀ (m : Mon) (n : Nat) (w : List UInt8), n ≤ 80000 → MW n m → w.length ≤ 10000 → _ := fun m n w a1 a2 a3 => s_specMonitorStepW m w n a1 a2 a3
      unfold Mon.ro at step
      simp only [hw1, Int.toNat_natCast, hg, Rec.row, hm, go_sem, ↓reduceIte]
      refine ⟨fun _ => ?_, fun h => absurd hlt (by omega)⟩
      refine c_pick hP (by rfl) (by omega) hc fun v1 hv1 => ?_
      simp only [hw1, Int.toNat_natCast, hg, Rec.row, hm, go_sem, ↓reduceIte]
      refine ⟨fun _ => ?_, fun _ => ?_⟩
      · refine ⟨⟨by omega, by omega⟩, ?_⟩
        refine call_plain (hP ▸ step m (40 * i) x.text (by omega) i2 (by omega)) rfl ?_
        rintro r ⟨m1, rfl, hw'⟩
        refine ⟨rfl, ?_⟩
        simp only [hw1, Int.toNat_natCast, hg, Rec.row, hm, go_sem, ↓reduceIte]
        refine c_pick hP (by rfl) (by omega) hc fun v2 hv2 => ?_
        simp only [hw1, Int.toNat_natCast, hg, Rec.row, hm, go_sem, ↓reduceIte]
        refine ⟨fun _ => ?_, fun _ => ?_⟩
        · intro _
          refine c_pick hP (by rfl) (by omega) hc fun u hu => ?_
          have hu' : 0 ≤ u ∧ u < l.length := by unfold Below at hu; omega
          have hun : u.toNat < l.length := by omega
          have hgu := getD_map (f := Rec.row) hun
          have hxu := k2 _ (List.getElem_mem hun)
          generalize l[u.toNat] = y at hgu hxu
          simp only [hgu, hw1, Int.toNat_natCast, Rec.row, hm, go_sem, ↓reduceIte]
          refine ⟨⟨by omega, by omega⟩, ?_⟩
          refine c_drawS (hP ▸ s_l91Spoil code (q + 1 + 1 + 1) y.text (by omega) hc (by omega)) rfl rfl fun tx p2 g1 g2 g3 => ?_
          simp only [hgu, hw1, Int.toNat_natCast, Rec.row, hm, go_sem, ↓reduceIte]
          refine call_plain (hP ▸ step m1 (40 * i + 20) tx (by omega) hw' (by omega)) rfl ?_
          rintro r ⟨m2, rfl, hw2⟩
          refine ⟨rfl, ?_⟩
          simp only [hw1, Int.toNat_natCast, hg, Rec.row, hm, go_sem, ↓reduceIte]
          refine ⟨(i + 1, m2, p2), ⟨by simp only; omega, by rw [Nat.mul_add]; exact hw2, by simp only; omega, by simp only; omega⟩, by simp only; omega, ?_⟩
          (refine le_ev [] ?_; simp only [hm, go_sem, ↓reduceIte]; first | done | rfl | exact ⟨rfl, rfl⟩)
        · refine ⟨(i + 1, m1, q + 1 + 1), ⟨by simp only; omega, ⟨hw'.1, hw'.2.1, by have := hw'.2.2; simp only; omega⟩, by simp only; omega, by simp only; omega⟩, by simp only; omega, ?_⟩
          (refine le_ev [] ?_; simp only [hm, go_sem, ↓reduceIte]; first | done | rfl | exact ⟨rfl, rfl⟩)
      · have hw' : MW (40 * i + 20) m := ⟨i2.1, i2.2.1, by have := i2.2.2; omega⟩
        refine c_pick hP (by rfl) (by omega) hc fun v2 hv2 => ?_
        simp only [hw1, Int.toNat_natCast, hg, Rec.row, hm, go_sem, ↓reduceIte]
        refine ⟨fun _ => ?_, fun _ => ?_⟩
        · intro _
          refine c_pick hP (by rfl) (by omega) hc fun u hu => ?_
          have hu' : 0 ≤ u ∧ u < l.length := by unfold Below at hu; omega
          have hun : u.toNat < l.length := by omega
          have hgu := getD_map (f := Rec.row) hun
          have hxu := k2 _ (List.getElem_mem hun)
          generalize l[u.toNat] = y at hgu hxu
          simp only [hgu, hw1, Int.toNat_natCast, Rec.row, hm, go_sem, ↓reduceIte]
          refine ⟨⟨by omega, by omega⟩, ?_⟩
          refine c_drawS (hP ▸ s_l91Spoil code (q + 1 + 1 + 1) y.text (by omega) hc (by omega)) rfl rfl fun tx p2 g1 g2 g3 => ?_
          simp only [hgu, hw1, Int.toNat_natCast, Rec.row, hm, go_sem, ↓reduceIte]
          refine call_plain (hP ▸ step m (40 * i + 20) tx (by omega) hw' (by omega)) rfl ?_
          rintro r ⟨m2, rfl, hw2⟩
          refine ⟨rfl, ?_⟩
          simp only [hw1, Int.toNat_natCast, hg, Rec.row, hm, go_sem, ↓reduceIte]
          refine ⟨(i + 1, m2, p2), ⟨by simp only; omega, by rw [Nat.mul_add]; exact hw2, by simp only; omega, by simp only; omega⟩, by simp only; omega, ?_⟩
          (refine le_ev [] ?_; simp only [hm, go_sem, ↓reduceIte]; first | done | rfl | exact ⟨rfl, rfl⟩)
        · refine ⟨(i + 1, m, q + 1 + 1), ⟨by simp only; omega, ⟨hw'.1, hw'.2.1, by have := hw'.2.2; simp only; omega⟩, by simp only; omega, by simp only; omega⟩, by simp only; omega, ?_⟩
          (refine le_ev [] ?_; simp only [hm, go_sem, ↓reduceIte]; first | done | rfl | exact ⟨rfl, rfl⟩)
    · have : k = i := by omega
      subst this
      simp only [hm, go_sem, ↓reduceIte]
      repeat' first | refine And.intro ?_ ?_ | intro _
      all_goals first
        | omega
        | (refine ⟨_, ⟨m, q, ⟨i2.1, i2.2.1, by have := i2.2.2; omega⟩, by omega, by omega, rfl⟩, ?_⟩; (refine le_ev [] ?_; simp only [hm, go_sem, ↓reduceIte]; first | done | rfl | exact ⟨rfl, rfl⟩))
  · rintro r hp nx gs ⟨m, p', hw, rfl, hb, h1, h2⟩
    refine ⟨m.ro, [(0, rdB code p')], 1, [], ⟨_, ⟨⟨m, rfl, hw⟩, p', rfl, h1, h2⟩, rfl, rfl, rfl⟩, fun c hc => ?_⟩
    unfold Mon.ro
    exact le_ev [] (by simp only [hc, go_sem, ↓reduceIte, hb])
end Go.Cap

/- Contracts: an association is drawn; copies in memory of one's own. -/
namespace Go.Cap
open Go Go.Proofs
set_option maxRecDepth 100000
set_option linter.unusedSimpArgs false
set_option linter.unusedVariables false
attribute [local irreducible] Call Run Spec Le

def AssocIs (r : AV) : Prop := ∃ a : Assoc, r = a.ro ∧ AW a
theorem dataA_mon {n : Nat} {r : AV} (h : MonIs n r) : dataA r = true := by obtain ⟨m, rfl, _⟩ := h; rfl
theorem dataA_assoc {r : AV} (h : AssocIs r) : dataA r = true := by obtain ⟨m, rfl, _⟩ := h; rfl
theorem s_l31SideN (s : Side) (hl : s.sent.length ≤ 1000000) : Spec Try.prog 83 0 [] [s.ro] (New1 (s.av (.sl 0 0 s.sent.length)) 7 (s.sent.map Data.row)) := by
  refine Spec.new1 (Q := fun r hp _ _ => ∃ b, r = s.av (.sl b 0 s.sent.length) ∧ hget hp b = some (.row 7 (s.sent.map Data.row))) ?_ (fun r hp nx gs h => h) (fun f g h => by simp only [Side.av, go_sem, h])
  refine mr83 rfl fun c hP hm => ?_
  unfold pc83 Side.ro Side.av
  refine run_seq (run_wpc _ _ _ _ _ ?_)
  simp only [hm, go_sem, ↓reduceIte]
  refine run_seq (run_wpc _ _ _ _ _ ?_)
  simp only [hm, go_sem, ↓reduceIte]
  refine ⟨⟨fun r hr => by obtain ⟨d, _, rfl⟩ := List.mem_map.1 hr; rfl, by omega⟩, ?_⟩
  refine run_wpc _ _ _ _ _ ?_
  simp only [hm, go_sem, ↓reduceIte]
  exact ⟨_, rfl, rfl⟩
theorem s_l31CopyN (a : Assoc) (ha : a.a.sent.length ≤ 1000000) (hb : a.b.sent.length ≤ 1000000) : Spec Try.prog 65 0 [] [a.ro] (New2 (a.av (.sl 0 0 a.a.sent.length) (.sl 1 0 a.b.sent.length)) 7 (a.a.sent.map Data.row) 7 (a.b.sent.map Data.row)) := by
  refine Spec.new2 (Q := fun r hp _ _ => ∃ b b1, b ≠ b1 ∧ r = a.av (.sl b 0 a.a.sent.length) (.sl b1 0 a.b.sent.length) ∧ hget hp b = some (.row 7 (a.a.sent.map Data.row)) ∧ hget hp b1 = some (.row 7 (a.b.sent.map Data.row))) ?_ (fun r hp nx gs h => by simpa [Assoc.av, renA, renA.renL] using h) (fun f g h h1 => by simp only [Assoc.av, go_sem, h, h1])
  refine mk65 rfl fun c hP hm => ?_
  unfold pc65 Assoc.ro Assoc.av
  simp only [hm, go_sem, ↓reduceIte]
  refine call_new1p (hP ▸ s_l31SideN a.a ha) rfl ?_
  simp only [Side.ro, Side.av, hm, go_sem, ↓reduceIte]
  refine call_new1p (hP ▸ s_l31SideN a.b hb) rfl ?_
  simp only [Side.ro, Side.av, hm, go_sem, ↓reduceIte]
  exact ⟨_, _, by decide, rfl, rfl, rfl⟩
theorem c_l31CopyN {c : Cx} (hP : c.P = Try.prog) {a : Assoc} (ha : a.a.sent.length ≤ 1000000) (hb : a.b.sent.length ≤ 1000000) {s : St} {K : AV → St → Prop}
    (hK : K (a.av (.sl s.nx 0 a.a.sent.length) (.sl (s.nx + 1) 0 a.b.sent.length)) ⟨s.sl, (s.nx, .row 7 (a.a.sent.map Data.row)) :: (s.nx + 1, .row 7 (a.b.sent.map Data.row)) :: s.hp, s.nx + 2, s.gs⟩) : Call c 65 [a.ro] s K := by
  refine call_spec [] (hP ▸ s_l31CopyN a ha hb) (by simp) (by simp) (by simp) rfl fun r hp' nx' gs' h => ?_
  obtain ⟨rfl, rfl, rfl, rfl⟩ := h
  simpa [renA, renA.renL, renH, renB, idf, hdels, Assoc.av] using hK
theorem s_l92Assoc (code : List UInt8) (p : Int) (hp : 0 ≤ p ∧ p ≤ 970000) (hc : code.length ≤ 2000) : Spec Try.prog 61 1 [(0, rdB code p)] [.ptr 0 0 0] (NamedP (DrawP AssocIs code p 1510)) := by
  refine Spec.le (Q := fun r hp _ _ => ∃ (a : Assoc) (p' : Int), AW a ∧ (r = a.ro ∨ ∃ b b1, b ≠ b1 ∧ b ≠ 0 ∧ b1 ≠ 0 ∧ r = a.av (.sl b 0 a.a.sent.length) (.sl b1 0 a.b.sent.length) ∧ hget hp b = some (.row 7 (a.a.sent.map Data.row)) ∧ hget hp b1 = some (.row 7 (a.b.sent.map Data.row))) ∧ hget hp 0 = some (rdB code p') ∧ p ≤ p' ∧ p' ≤ p + 1510) ?_ ?_
  · refine mr61 rfl fun c hP hm => ?_
    unfold pc61
    refine run_seq (run_wpc _ _ _ _ _ ?_)
    simp only [hm, go_sem, ↓reduceIte]
    refine run_seq (run_wpc _ _ _ _ _ ?_)
    simp only [hm, go_sem, ↓reduceIte]
    refine c_drawP (hP ▸ s_l92Monitor code p (by omega) hc) rfl rfl (fun r h => dataA_mon h) ?_
    rintro r p1 ⟨m, rfl, hw⟩ h1 h2
    unfold Mon.ro
    simp only [hm, go_sem, ↓reduceIte]
    obtain ⟨w1, w2, w3⟩ := hw
    refine run_wpc _ _ _ _ _ ?_
    simp only [hm, go_sem, ↓reduceIte]
    cases hl : m.list with
    | nil =>
      simp only [List.map_nil, List.length_nil, hm, go_sem, ↓reduceIte]
      refine c_pick hP (by rfl) (by omega) hc fun v1 hv1 => ?_
      simp only [hm, go_sem, ↓reduceIte]
      refine c_pick hP (by rfl) (by omega) hc fun v2 hv2 => ?_
      simp only [hm, go_sem, ↓reduceIte]
      exact ⟨⟨IntKind.i64.wrap (1 + v1), IntKind.i64.wrap (6 + v2), 0, false, noSide, noSide⟩, _, ⟨noSide_SW, noSide_SW⟩, .inr ⟨3, 4, by decide, by decide, by decide, rfl, rfl, rfl⟩, rfl, by omega, by omega⟩
    | cons a l =>
      have hax := w2 a (by rw [hl]; exact List.mem_cons_self ..)
      simp only [List.map_cons, List.length_cons, Assoc.row, Assoc.cellsX, List.getD_cons_zero, hm, go_sem, ↓reduceIte]
      repeat' first | refine And.intro ?_ ?_ | intro _
      all_goals first
        | omega
        | exact ⟨a, p1, hax, .inl rfl, rfl, by omega, by omega⟩
        | (exfalso; omega)
  · rintro r hp nx gs ⟨a, p', hw, h, hb, h1, h2⟩
    refine ⟨a.ro, [(0, rdB code p')], 1, [], ⟨_, ⟨⟨a, rfl, hw⟩, p', rfl, h1, h2⟩, rfl, rfl, rfl⟩, fun c hc => ?_⟩
    rcases h with rfl | ⟨b, b1, hne, hn0, hn1, rfl, k1, k2⟩
    · unfold Assoc.ro Assoc.av
      exact le_ev [] (by simp only [hc, go_sem, ↓reduceIte, hb])
    · refine Le.trans (t := ⟨[(0, a.av (.sl 1 0 a.a.sent.length) (.sl 2 0 a.b.sent.length))], [(0, rdB code p'), (1, .row 7 (a.a.sent.map Data.row)), (2, .row 7 (a.b.sent.map Data.row))], 3, []⟩) (le_ev [(1, b), (2, b1)] ?_) ?_
      · simp only [hc, go_sem, ↓reduceIte, Assoc.av, hb, k1, k2, List.mem_cons, List.not_mem_nil, or_false, not_false_eq_true, and_self]
        exact ⟨hn0, fun e => e.elim (fun e => hne e.symm) hn1⟩
      unfold Assoc.ro Assoc.av
      refine Le.trans (le_frz 1 rfl (by simp only [List.length_map, go_sem, ↓reduceIte]) (by simp only [go_sem, ↓reduceIte])) ?_
      simp only [take_map_len, List.drop_zero, go_sem, ↓reduceIte]
      refine Le.trans (le_frz 2 rfl (by simp only [List.length_map, go_sem, ↓reduceIte]) (by simp only [go_sem, ↓reduceIte])) ?_
      simp only [take_map_len, List.drop_zero, go_sem, ↓reduceIte]
      exact le_ev [] (by simp only [hc, go_sem, ↓reduceIte])
end Go.Cap

/- Contracts: a side is drawn. -/
namespace Go.Cap
open Go Go.Proofs
set_option maxRecDepth 100000
set_option linter.unusedSimpArgs false
set_option linter.unusedVariables false
attribute [local irreducible] Call Run Spec Le

def SideW (s : Side) : Prop := s.sent.length ≤ 12 ∧ ∀ d ∈ s.sent, d.text.length ≤ 200
def SideIs (r : AV) : Prop := ∃ s : Side, r = s.ro ∧ SideW s
theorem dataA_side {r : AV} (h : SideIs r) : dataA r = true := by obtain ⟨m, rfl, _⟩ := h; rfl
theorem SW.w {s : Side} (h : SW s) : SideW s := ⟨h.2.1, fun d hd => by have := dataB_text (h.2.2 d hd); omega⟩
theorem s_l92Side (code : List UInt8) (p : Int) (hp : 0 ≤ p ∧ p ≤ 960000) (hc : code.length ≤ 2000) : Spec Try.prog 37 1 [(0, rdB code p)] [.ptr 0 0 0] (NamedP (DrawP SideIs code p 1700)) := by
  refine Spec.le (Q := fun r hp _ _ => ∃ (s : Side) (p' : Int) (b : Nat), SideW s ∧ b ≠ 0 ∧ r = s.av (.sl b 0 s.sent.length) ∧ hget hp b = some (.row 7 (s.sent.map Data.row)) ∧ hget hp 0 = some (rdB code p') ∧ p ≤ p' ∧ p' ≤ p + 1700) ?_ ?_
  · refine mr37 rfl fun c hP hm => ?_
    unfold pc37
    refine run_seq (run_wpc _ _ _ _ _ ?_)
    simp only [hm, go_sem, ↓reduceIte]
    refine run_seq (run_wpc _ _ _ _ _ ?_)
    simp only [hm, go_sem, ↓reduceIte]
    refine c_drawP (hP ▸ s_l92Assoc code p (by omega) hc) rfl rfl (fun r h => dataA_assoc h) ?_
    rintro r p1 ⟨a, rfl, hw⟩ h1 h2
    unfold Assoc.ro Assoc.av
    simp only [hm, go_sem, ↓reduceIte]
    refine run_join (fun t => ∃ (a : Assoc) (q : Int), AW a ∧ p ≤ q ∧ q ≤ p + 1620 ∧ t = ⟨[(0, .ptr 0 0 0), (2, .ptr 1 0 0), (3, .ptr 2 0 0)], [(2, .var a.cellsA), (0, rdB code q), (1, .var [.i 0, .i 0, .i 0, .r .nil, .i 0])], 3, []⟩) (run_wpc _ _ _ _ _ ?_) ?_
    · simp only [hm, go_sem, ↓reduceIte]
      refine c_pick hP (by rfl) (by omega) hc fun v1 hv1 => ?_
      simp only [hm, go_sem, ↓reduceIte]
      refine ⟨fun _ => ?_, fun _ => ?_⟩
      · refine c_drawT (hP ▸ s_l92Talk code (p1 + 1) (by omega) hc) rfl fun t p2 g1 g2 g3 g4 => ?_
        simp only [Talk.av, hm, go_sem, ↓reduceIte]
        refine call_frz 3 rfl rfl (by simp only [List.length_map, go_sem, ↓reduceIte]) ?_
        simp only [take_map_len, List.drop_zero, hm, go_sem, ↓reduceIte]
        refine call_dataP (hP ▸ s_specTalkRecordsP t 0 (by omega) (by omega) (fun s hs => by have := g4 s hs; omega)) rfl rfl ?_
        obtain ⟨k1, k2⟩ := talkRecs_text t 0
        generalize talkRecs t 0 = l at k1 k2
        simp only [hm, go_sem, ↓reduceIte]
        refine call_plain (hP ▸ s_specMonitorRunW l (fun x hx => by have := k2 x hx; omega) (by omega)) rfl ?_
        rintro r ⟨m, rfl, hmw⟩
        refine ⟨rfl, ?_⟩
        unfold Mon.ro
        obtain ⟨w1, w2, w3⟩ := hmw
        cases hl : m.list with
        | nil =>
          simp only [List.map_nil, List.length_nil, hm, go_sem, ↓reduceIte]
          refine ⟨_, ⟨a, p2, hw, by omega, by omega, rfl⟩, ?_⟩
          unfold Assoc.cellsA
          (refine le_ev [] ?_; simp only [hm, go_sem, ↓reduceIte]; first | done | rfl | exact ⟨rfl, rfl⟩)
        | cons a2 l2 =>
          have hax := w2 a2 (by rw [hl]; exact List.mem_cons_self ..)
          simp only [List.map_cons, List.length_cons, Assoc.row, Assoc.cellsX, List.getD_cons_zero, hm, go_sem, ↓reduceIte]
          repeat' first | refine And.intro ?_ ?_ | intro _
          all_goals first
            | omega
            | (refine ⟨_, ⟨a2, p2, hax, by omega, by omega, rfl⟩, ?_⟩
               unfold Assoc.cellsA
               (refine le_ev [] ?_; simp only [hm, go_sem, ↓reduceIte]; first | done | rfl | exact ⟨rfl, rfl⟩))
            | (exfalso; omega)
      · refine ⟨_, ⟨a, p1 + 1, hw, by omega, by omega, rfl⟩, ?_⟩
        unfold Assoc.cellsA
        (refine le_ev [] ?_; simp only [hm, go_sem, ↓reduceIte]; first | done | rfl | exact ⟨rfl, rfl⟩)
    rintro t ⟨a, q, hw, q1, q2, rfl⟩
    have hla := hw.1.2.1
    have hlb := hw.2.2.1
    unfold Assoc.cellsA
    refine run_seq (run_wpc _ _ _ _ _ ?_)
    simp only [hm, go_sem, ↓reduceIte]
    refine c_l31CopyN hP (a := a) (by omega) (by omega) ?_
    unfold Assoc.av
    simp only [hm, go_sem, ↓reduceIte]
    refine run_join (fun t => ∃ (s : Side) (q2 : Int), SideW s ∧ q ≤ q2 ∧ q2 ≤ q + 1 ∧ t = ⟨[(0, .ptr 0 0 0), (2, .ptr 1 0 0), (5, .ptr 2 0 0)], [(2, .var [.i s.tag, .i s.streams, .i s.first, .sl 3 0 s.sent.length, .i s.acked]), (3, .row 7 (s.sent.map Data.row)), (0, rdB code q2), (1, .var [.i 0, .i 0, .i 0, .r .nil, .i 0])], 4, []⟩) (run_wpc _ _ _ _ _ ?_) ?_
    · simp only [hm, go_sem, ↓reduceIte]
      refine c_pick hP (by rfl) (by omega) hc fun v1 hv1 => ?_
      simp only [hm, go_sem, ↓reduceIte]
      have hcp := fun (s : St) (K : AV → St → Prop) h => @c_l31CopyN c hP a (by omega) (by omega) s K h
      unfold Assoc.ro Assoc.av at hcp
      repeat' first
        | refine And.intro ?_ ?_
        | intro _
        | (refine hcp _ _ ?_; simp only [hm, go_sem, ↓reduceIte])
      all_goals first
        | omega
        | (refine ⟨_, ⟨a.a, q + 1, hw.1.w, by omega, by omega, rfl⟩, ?_⟩; (refine le_ev [(2, 5), (3, 3)] ?_; simp only [hm, go_sem, ↓reduceIte]; first | done | rfl | exact ⟨rfl, rfl⟩))
        | (refine ⟨_, ⟨a.b, q + 1, hw.2.w, by omega, by omega, rfl⟩, ?_⟩; (refine le_ev [(2, 5), (3, 7)] ?_; simp only [hm, go_sem, ↓reduceIte]; first | done | rfl | exact ⟨rfl, rfl⟩))
    rintro t ⟨s, q2, ⟨s1, s2⟩, q3, q4, rfl⟩
    refine run_join (fun t => ∃ (s : Side) (q2 : Int), SideW s ∧ q ≤ q2 ∧ q2 ≤ q + 60 ∧ t = ⟨[(2, .ptr 1 0 0), (5, .ptr 2 0 0)], [(2, .var [.i s.tag, .i s.streams, .i s.first, .sl 3 0 s.sent.length, .i s.acked]), (3, .row 7 (s.sent.map Data.row)), (0, rdB code q2), (1, .var [.i 0, .i 0, .i 0, .r .nil, .i 0])], 4, []⟩) (run_wpc _ _ _ _ _ ?_) ?_
    · simp only [hm, go_sem, ↓reduceIte]
      refine c_pick hP (by rfl) (by omega) hc fun v1 hv1 => ?_
      simp only [hm, go_sem, ↓reduceIte]
      have fin : ∀ (s : Side) (q3 : Int), SideW s → q ≤ q3 → q3 ≤ q + 60 → ∀ st, Le c st ⟨[(2, .ptr 1 0 0), (5, .ptr 2 0 0)], [(2, .var [.i s.tag, .i s.streams, .i s.first, .sl 3 0 s.sent.length, .i s.acked]), (3, .row 7 (s.sent.map Data.row)), (0, rdB code q3), (1, .var [.i 0, .i 0, .i 0, .r .nil, .i 0])], 4, []⟩ →
        ∃ t, (∃ (s : Side) (q2 : Int), SideW s ∧ q ≤ q2 ∧ q2 ≤ q + 60 ∧ t = ⟨[(2, .ptr 1 0 0), (5, .ptr 2 0 0)], [(2, .var [.i s.tag, .i s.streams, .i s.first, .sl 3 0 s.sent.length, .i s.acked]), (3, .row 7 (s.sent.map Data.row)), (0, rdB code q2), (1, .var [.i 0, .i 0, .i 0, .r .nil, .i 0])], 4, []⟩) ∧ Le c st t := fun s q3 a1 a2 a3 st h => ⟨_, ⟨s, q3, a1, a2, a3, rfl⟩, h⟩
      refine ⟨fun _ => ?_, fun _ => ⟨fun _ => ?_, fun _ => ⟨fun _ => ?_, fun _ => ⟨fun _ => ?_, fun _ => ⟨fun _ => ?_, fun _ => ?_⟩⟩⟩⟩⟩
      · refine c_pick hP (by rfl) (by omega) hc fun v hv => ?_
        simp only [hm, go_sem, ↓reduceIte]
        exact fin ⟨v, s.streams, s.first, s.sent, s.acked⟩ (q2 + 1 + 1) ⟨s1, s2⟩ (by omega) (by omega) _ (by (refine le_ev [] ?_; simp only [hm, go_sem, ↓reduceIte]; first | done | rfl | exact ⟨rfl, rfl⟩))
      · refine c_pick hP (by rfl) (by omega) hc fun v hv => ?_
        simp only [hm, go_sem, ↓reduceIte]
        exact fin ⟨s.tag, s.streams, s.first, s.sent, IntKind.i64.wrap (v - 1)⟩ (q2 + 1 + 1) ⟨s1, s2⟩ (by omega) (by omega) _ (by (refine le_ev [] ?_; simp only [hm, go_sem, ↓reduceIte]; first | done | rfl | exact ⟨rfl, rfl⟩))
      · refine c_draw (hP ▸ s_l91Word code (q2 + 1) (by omega) hc) rfl fun v q5 g1 g2 g3 g4 => ?_
        simp only [hm, go_sem, ↓reduceIte]
        exact fin ⟨s.tag, s.streams, v, s.sent, s.acked⟩ q5 ⟨s1, s2⟩ (by omega) (by omega) _ (by (refine le_ev [] ?_; simp only [hm, go_sem, ↓reduceIte]; first | done | rfl | exact ⟨rfl, rfl⟩))
      · refine c_pick hP (by rfl) (by omega) hc fun v hv => ?_
        simp only [hm, go_sem, ↓reduceIte]
        exact fin ⟨s.tag, IntKind.i64.wrap (v - 1), s.first, s.sent, s.acked⟩ (q2 + 1 + 1) ⟨s1, s2⟩ (by omega) (by omega) _ (by (refine le_ev [] ?_; simp only [hm, go_sem, ↓reduceIte]; first | done | rfl | exact ⟨rfl, rfl⟩))
      · intro _
        refine ⟨fun _ => ?_, fun _ => ?_⟩
        · intro _
          refine c_pick hP (by rfl) (by omega) hc fun v hv => ?_
          have hv' : 0 ≤ v ∧ v < s.sent.length := by unfold Below at hv; omega
          have hvn : v.toNat < s.sent.length := by omega
          simp only [hm, go_sem, ↓reduceIte]
          refine c_drawD (hP ▸ s_l91Part code (q2 + 1 + 1) (by omega) hc) rfl fun d q5 g1 g2 g3 => ?_
          simp only [Data.av, hm, go_sem, ↓reduceIte]
          have hset : (s.sent.map Data.row).set v.toNat [.n .i64 d.tsn, .n .i64 d.stream, .n .i64 d.ssn, .b d.first, .b d.last, .b d.loose, .s d.text] = (s.sent.set v.toNat d).map Data.row := by
            rw [List.map_set]; rfl
          rw [hset]
          repeat' first | refine And.intro ?_ ?_ | intro _
          all_goals first
            | omega
            | skip
          refine fin ⟨s.tag, s.streams, s.first, s.sent.set v.toNat d, s.acked⟩ q5 ⟨by rw [List.length_set]; exact s1, fun x hx => ?_⟩ (by omega) (by omega) _ (by simp only [List.length_set]; (refine le_ev [] ?_; simp only [hm, go_sem, ↓reduceIte]; first | done | rfl | exact ⟨rfl, rfl⟩))
          rcases List.mem_or_eq_of_mem_set hx with hx | rfl
          · exact s2 x hx
          · exact g3
        · exact fin s (q2 + 1) ⟨s1, s2⟩ (by omega) (by omega) _ (by (refine le_ev [] ?_; simp only [hm, go_sem, ↓reduceIte]; first | done | rfl | exact ⟨rfl, rfl⟩))
      · exact fin s (q2 + 1) ⟨s1, s2⟩ (by omega) (by omega) _ (by (refine le_ev [] ?_; simp only [hm, go_sem, ↓reduceIte]; first | done | rfl | exact ⟨rfl, rfl⟩))
    rintro t ⟨s, q2, hs, q3, q4, rfl⟩
    refine run_wpc _ _ _ _ _ ?_
    simp only [hm, go_sem, ↓reduceIte]
    exact ⟨s, q2, 3, hs, by decide, rfl, rfl, rfl, by omega, by omega⟩
  · rintro r hp nx gs ⟨s, p', b, hw, hne, rfl, k1, hb, h1, h2⟩
    refine ⟨s.ro, [(0, rdB code p')], 1, [], ⟨_, ⟨⟨s, rfl, hw⟩, p', rfl, h1, h2⟩, rfl, rfl, rfl⟩, fun c hc => ?_⟩
    refine Le.trans (t := ⟨[(0, s.av (.sl 1 0 s.sent.length))], [(0, rdB code p'), (1, .row 7 (s.sent.map Data.row))], 2, []⟩) (le_ev [(1, b)] ?_) ?_
    · simp only [hc, go_sem, ↓reduceIte, Side.av, hb, k1, List.mem_cons, List.not_mem_nil, or_false, not_false_eq_true, and_self]
      exact hne
    unfold Side.ro Side.av
    refine Le.trans (le_frz 1 rfl (by simp only [List.length_map, go_sem, ↓reduceIte]) (by simp only [go_sem, ↓reduceIte])) ?_
    simp only [take_map_len, List.drop_zero, go_sem, ↓reduceIte]
    exact le_ev [] (by simp only [hc, go_sem, ↓reduceIte])
end Go.Cap

/- Contracts: what the laws on sides draw. -/
namespace Go.Cap
open Go Go.Proofs
set_option maxRecDepth 100000
set_option linter.unusedSimpArgs false
set_option linter.unusedVariables false
attribute [local irreducible] Call Run Spec Le

theorem s_DrawSideSaid (code : List UInt8) : Spec Try.prog 26 0 [] [.r (.ro none (code.map byteRow))] (Plain SideIs) := by
  refine Spec.le (Q := fun r hp _ _ => SideIs r) ?_ ?_
  · refine mk26 rfl fun c hP hm => ?_
    unfold pc26
    simp only [hm, go_sem, ↓reduceIte]
    refine call_newV (hP ▸ s_l6Open code) rfl rfl ?_
    simp only [hm, go_sem, ↓reduceIte]
    have hc : (code.take 2000).length ≤ 2000 := by simp; omega
    generalize code.take 2000 = code at hc
    refine c_drawP (hP ▸ s_l92Side code 0 (by omega) hc) rfl rfl (fun r h => dataA_side h) ?_
    rintro r p1 ⟨s, rfl, hw⟩ h1 h2
    unfold Side.ro Side.av
    simp only [hm, go_sem, ↓reduceIte]
    exact ⟨s, rfl, hw⟩
  · rintro r hp nx gs ⟨s, rfl, hw⟩
    exact ⟨s.ro, [], 0, [], ⟨⟨s, rfl, hw⟩, rfl, rfl, rfl⟩, fun c hc => le_data hc rfl⟩
end Go.Cap

/- Contracts: what a side said and what is known of it, as data. -/
namespace Go.Cap
open Go Go.Proofs
set_option maxRecDepth 100000
set_option linter.unusedSimpArgs false
set_option linter.unusedVariables false
attribute [local irreducible] Call Run Spec Le

theorem s_implSideSaidP (s : Side) (hl : s.sent.length ≤ 2000000) (hx : ∀ d ∈ s.sent, d.text.length ≤ 9223372036854775807) : Spec Try.prog 27 0 [] [s.ro] (Plain fun r => r = .r (.ro none ((sideSaid s).map Msg.row))) := by
  by_cases hv : sideB s = true
  · have := s_implSideSaid1 s hl hx hv
    rw [← List.length_map (f := Msg.row)] at this
    exact this.dataP
  · have e : sideSaid s = [] := if_neg hv
    rw [e]
    exact (s_implSideSaid0 s hl hx hv).nilP
theorem s_specSideSaidP (s : Side) (hl : s.sent.length ≤ 2000000) (hx : ∀ d ∈ s.sent, d.text.length ≤ 9223372036854775807) : Spec Try.prog 28 0 [] [s.ro] (Plain fun r => r = .r (.ro none ((sideSaid s).map Msg.row))) := by
  have := s_specSideSaid s hl hx
  rw [← List.length_map (f := Msg.row)] at this
  exact this.dataP
theorem side_acked {s : Side} (h : sideB s = true) : 0 ≤ s.acked ∧ s.acked ≤ s.sent.length := by
  unfold sideB at h
  split at h
  · simp only [noneB, Bool.and_eq_true, decide_eq_true_eq, beq_iff_eq] at h
    omega
  · simp only [headB, Bool.and_eq_true, decide_eq_true_eq] at h
    exact h.1.2
end Go.Cap

/- Plain facts of what a side said and what is known of it. -/
namespace Go.Cap
open Go Go.Proofs
set_option maxRecDepth 100000
set_option linter.unusedSimpArgs false
set_option linter.unusedVariables false

/-- Last parts. -/
def lasts (l : List Data) : Nat := l.countP (·.last)
theorem said_lasts' : ∀ (l : List Data) (x : List Msg × List UInt8), (l.foldl saidStep x).1.length = x.1.length + lasts l
  | [], x => by simp [lasts]
  | d :: l, x => by
    rw [List.foldl_cons, said_lasts' l]
    unfold saidStep lasts
    rw [List.countP_cons]
    split <;> simp [*] <;> omega
theorem said_lasts (l : List Data) : (said l).length = lasts l := by
  have := said_lasts' l ([], [])
  simpa [said, saidSt] using this
/-- What a valid side's parts are. -/
theorem side_seq {s : Side} (h : sideB s = true) (ht : s.tag ≠ 0) : ∃ n : Nat, s.streams = n ∧ (1 ≤ n ∧ n ≤ 4) ∧ serialB s.first = true ∧ SeqP s.first n s.sent := by
  unfold sideB at h
  rw [if_neg ht] at h
  simp only [headB, Bool.and_eq_true, decide_eq_true_eq] at h
  obtain ⟨⟨⟨⟨⟨h1, h2⟩, h3⟩, h4⟩, h5⟩, h6⟩ := h
  refine ⟨s.streams.toNat, by omega, by omega, h3, fun i hi => ?_⟩
  have := sideLoop_may s.sent 0 h6 i hi
  simp only [partB, Nat.zero_add, Bool.and_eq_true, beq_iff_eq, decide_eq_true_eq] at this
  obtain ⟨⟨⟨p1, p2⟩, p3⟩, p4⟩ := this
  exact ⟨p1, p2, by omega, p4⟩
end Go.Cap

import Derived.Test.YtpbkanglfmegpaaLawB
import Derived.Test.YtpbkanglfmegpaaPc
/- Contracts: the reference's monitor watches a record. -/
namespace Go.Cap
open Go Go.Proofs
set_option maxRecDepth 100000
set_option linter.unusedSimpArgs false
set_option linter.unusedVariables false
attribute [local irreducible] Call Run Spec Le

theorem c_l32Copy {c : Cx} (hP : c.P = Try.prog) {m : Mon} (hl : m.list.length ≤ 1000) (hf : m.found.length ≤ 1000000) (ha : ∀ a ∈ m.list, AW a) {s : St} {K : AV → St → Prop}
    (hK : K (.agg [.i m.records, .sl s.nx 0 m.list.length, .sl (s.nx + 1) 0 m.found.length]) ⟨s.sl, (s.nx, .row 14 (m.list.map Assoc.row)) :: (s.nx + 1, .row 2 (m.found.map Fnd.row)) :: s.hp, s.nx + 2, s.gs⟩) : Call c 71 [m.ro] s K := by
  refine call_spec [] (hP ▸ s_l32Copy m hl hf ha) (by simp) (by simp) (by simp) rfl fun r hp' nx' gs' h => ?_
  obtain ⟨rfl, rfl, rfl, rfl⟩ := h
  simpa [renA, renA.renL, renH, renB, idf, hdels, Mon.own] using hK
theorem c_l32Begin {c : Cx} (hP : c.P = Try.prog) {m : Mon} {p : Packet} {n : Nat} (hn : n ≤ 100000) (hw : MW n m) (hr : 0 ≤ m.records ∧ m.records ≤ 61) (hp : packB p = true) {s : St} {K : AV → St → Prop} (b0 b1 : Nat) (hne : b0 ≠ b1)
    (h0 : hget s.hp b0 = some (.row 14 (m.list.map Assoc.row))) (h1 : hget s.hp b1 = some (.row 2 (m.found.map Fnd.row)))
    (hK : ∀ m' : Mon, MW (n + 20) m' → m'.records = m.records → K m'.ro ⟨s.sl, hdel (hdel s.hp b0) b1, s.nx, s.gs⟩) : Call c 94 [.agg [.i m.records, .sl b0 0 m.list.length, .sl b1 0 m.found.length], p.ro] s K := by
  refine call_spec [b0, b1] (hP ▸ s_l32Begin m p n hn hw hr hp) (by simpa using hne) ?_ ?_ rfl fun r hp' nx' gs' h => ?_
  · intro q hq
    simp only [List.mem_cons, List.mem_singleton, List.not_mem_nil, or_false] at hq
    rcases hq with rfl | rfl
    · exact ⟨by simp, by rw [show idf [b0, b1] s.nx 0 = b0 from rfl, h0]; rfl⟩
    · exact ⟨by simp, by rw [show idf [b0, b1] s.nx 1 = b1 from rfl, h1]; rfl⟩
  · intro j hj
    have : j = 0 ∨ j = 1 := by simp at hj; omega
    rcases this with rfl | rfl
    · exact ⟨_, List.mem_cons_self ..⟩
    · exact ⟨_, List.mem_cons_of_mem _ (List.mem_cons_self ..)⟩
  · obtain ⟨⟨m', rfl, hw', hk'⟩, rfl, rfl, rfl⟩ := h
    have := hK m' hw' hk'
    simpa [renA, renA.renL, renH, renB, idf, hdels, Mon.ro] using this
theorem s_l32Step (m : Mon) (text : List UInt8) (n : Nat) (hn : n ≤ 90000) (hw : MW n m) (hr : 0 ≤ m.records ∧ m.records ≤ 60) (ht : text.length ≤ 10000) :
    Spec Try.prog 77 0 [] [m.ro, .st text] (Plain fun r => ∃ m' : Mon, r = m'.ro ∧ MW (n + 20) m' ∧ m'.records = m.records + 1) := by
  obtain ⟨m1, m2, m3⟩ := hw
  refine Spec.le (Q := fun r hp _ _ => ∃ m' : Mon, (MW (n + 20) m' ∧ m'.records = m.records + 1) ∧ (r = m'.ro ∨ (∃ b2, r = .agg [.i m'.records, .r (.ro none (m'.list.map Assoc.row)), .sl b2 0 m'.found.length] ∧ hget hp b2 = some (.row 2 (m'.found.map Fnd.row))))) ?_ ?_
  · refine mr77 rfl fun c hP hm => ?_
    unfold pc77
    have hwr : IntKind.i64.wrap (m.records + 1) = m.records + 1 := wrap64 (by omega) (by omega)
    have hcp := fun (s : St) (K : AV → St → Prop) h => @c_l32Copy c hP m (by omega) (by omega) m2 s K h
    unfold Mon.ro at hcp ⊢
    refine run_seq (run_wpc _ _ _ _ _ ?_)
    simp only [hm, go_sem, ↓reduceIte]
    refine run_seq (run_wpc _ _ _ _ _ ?_)
    simp only [hm, go_sem, ↓reduceIte]
    refine hcp _ _ ?_
    simp only [hm, go_sem, ↓reduceIte]
    refine run_seq (run_wpc _ _ _ _ _ ?_)
    simp only [hwr, hm, go_sem, ↓reduceIte]
    refine run_seq (run_wpc _ _ _ _ _ ?_)
    simp only [hm, go_sem, ↓reduceIte]
    refine call_plain (hP ▸ s_specPacketGetW text ht) rfl ?_
    rintro r ⟨p, code, rfl, hc, hp⟩
    refine ⟨rfl, ?_⟩
    unfold Packet.ro
    simp only [hm, go_sem, ↓reduceIte]
    have hwc : IntKind.i64.wrap (IntKind.i64.wrap (101 + code) - 1) = 100 + code := by rw [wrap64 (x := 101 + code) (by omega) (by omega), wrap64 (by omega) (by omega)]; omega
    refine run_seq (run_wpc _ _ _ _ _ ?_)
    simp only [hwc, hm, go_sem, ↓reduceIte]
    refine ⟨fun hc0 => ?_, fun hc0 => ?_⟩
    · refine call_frz 2 rfl rfl (by simp only [List.length_map, go_sem, ↓reduceIte]) ?_
      simp only [take_map_len, List.drop_zero, hm, go_sem, ↓reduceIte]
      refine c_l32Note hP (by omega) (by omega) 3 rfl ?_
      simp only [hm, go_sem, ↓reduceIte]
      exact ⟨⟨m.records + 1, m.list, m.found ++ [⟨m.records + 1 - 1, 100 + code⟩]⟩, ⟨⟨m1, m2, by simp only [List.length_append, List.length_cons, List.length_nil]; omega⟩, rfl⟩, .inr ⟨6, by simp, rfl⟩⟩
    have hpk := hp hc0
    have hpb := hpk
    simp only [packB, Bool.and_eq_true, decide_eq_true_eq, List.all_eq_true, chunkB] at hpb
    have hcl : p.chunks.length ≤ 4 ∧ 1 ≤ p.chunks.length := by omega
    have hk0 := (hpb.2 _ (List.getElem_mem (l := p.chunks) (n := 0) (by omega))).2
    have hg0 : (p.chunks.map Chunk.row).getD 0 [] = (p.chunks[0]'(by omega)).row := getD_map (f := Chunk.row) (i := 0) (by omega)
    generalize p.chunks[0]'(by omega) = k0 at hg0 hk0
    have hgi := s_specInitGet k0 (by omega)
    have hal := s_specPacketAlone p (by omega)
    have hf := s_l32Find ⟨m.records + 1, m.list, m.found⟩ p.fr p.to (by simp only; omega)
    unfold Mon.ro at hf
    simp only at hf
    unfold Packet.ro at hal
    unfold Chunk.av at hgi
    have hfx : ixOr (findIx p.fr p.to m.list) = -1 ∨ (0 ≤ ixOr (findIx p.fr p.to m.list) ∧ ixOr (findIx p.fr p.to m.list) < m.list.length) := by
      cases h : findIx p.fr p.to m.list with
      | none => exact .inl rfl
      | some k => have := (findIx_lt h).1; right; simp only [ixOr]; omega
    generalize ixOr (findIx p.fr p.to m.list) = k at hf hfx
    refine run_seq (run_wpc _ _ _ _ _ ?_)
    simp only [hm, go_sem, ↓reduceIte]
    refine call_flat (hP ▸ hf) rfl (.cons (vw_agg (.cons (vw_self _ _ rfl) (.cons (Vw.full rfl (by simp)) (.cons (Vw.full rfl (by simp)) .nil)))) (.cons (.r _) (.cons (.r _) .nil))) ?_
    simp only [hm, go_sem, ↓reduceIte]
    refine run_join (fun t => ∃ (L : List Assoc) (k : Int), L.length ≤ 3 ∧ (∀ a ∈ L, AW a) ∧ (k = -1 ∨ (0 ≤ k ∧ k < L.length)) ∧ t = ⟨[(4, .ptr 1 0 0), (5, .ptr 4 0 0), (6, .ptr 5 0 0), (8, .i k)], [(1, .var [.i 0, .r .nil, .r .nil]), (4, .var [.i (m.records + 1), .sl 2 0 L.length, .sl 3 0 m.found.length]), (5, .var [.i p.fr, .i p.to, .i p.tag, .r (.ro none (p.chunks.map Chunk.row))]), (2, .row 14 (L.map Assoc.row)), (3, .row 2 (m.found.map Fnd.row))], 6, []⟩) (run_wpc _ _ _ _ _ ?_) ?_
    · have hkn : ∀ hh : (0 ≤ k ∧ k < m.list.length), k.toNat < m.list.length := fun hh => by omega
      have hrw14 : ∀ l : List Assoc, rowsN 14 (l.map Assoc.row) := fun l r hr => by obtain ⟨d, _, rfl⟩ := List.mem_map.1 hr; rfl
      rcases hfx with rfl | hk
      · simp only [hm, go_sem, ↓reduceIte]
        repeat' first | refine And.intro ?_ ?_ | intro _
        all_goals first
          | omega
          | (refine ⟨_, ⟨m.list, -1, by omega, m2, .inl rfl, rfl⟩, ?_⟩; (refine le_ev [] ?_; simp only [hm, go_sem, ↓reduceIte]; first | done | rfl | exact ⟨rfl, rfl⟩))
      · have hil : k.toNat < m.list.length := by omega
        have hga := getD_map (f := Assoc.row) hil
        generalize m.list[k.toNat] = a at hga
        have hwk : IntKind.i64.wrap (k + 1) = k + 1 := wrap64 (by omega) (by omega)
        have hA : List.take (k.toNat - 0) (m.list.map Assoc.row) = (m.list.take k.toNat).map Assoc.row := by rw [Nat.sub_zero, List.map_take]
        have hB : List.take ((m.list.length : Int).toNat - (k + 1).toNat) (List.drop (k + 1).toNat (m.list.map Assoc.row)) = (m.list.drop (k.toNat + 1)).map Assoc.row := by
          have e : (k + 1).toNat = k.toNat + 1 := by omega
          rw [e, List.map_drop, List.take_of_length_le]
          simp only [List.length_drop, List.length_map]; omega
        simp only [hga, hg0, hwk, Assoc.row, Assoc.cellsX, Chunk.row, hm, go_sem, ↓reduceIte]
        repeat' first
          | refine And.intro ?_ ?_
          | intro _
          | (refine call_pure (hP ▸ hal) rfl rfl ?_; simp only [hA, hB, take_map_len, List.length_map, hga, hg0, hwk, Assoc.cellsX, Chunk.row, hm, go_sem, ↓reduceIte])
          | (refine call_data (hP ▸ hgi) rfl rfl ?_; simp only [Init.av, hA, hB, take_map_len, List.length_map, hga, hg0, hwk, Chunk.row, hm, go_sem, ↓reduceIte])
        all_goals first
          | omega
          | (refine ⟨_, ⟨m.list, k, by omega, m2, .inr hk, rfl⟩, ?_⟩; (refine le_ev [] ?_; simp only [hm, go_sem, ↓reduceIte]; first | done | rfl | exact ⟨rfl, rfl⟩))
          | (rename_i r hr; exact hrw14 _ r hr)
          | (simp only [List.length_map, List.length_take, List.length_drop]; omega)
          | (refine ⟨_, ⟨m.list.take k.toNat ++ m.list.drop (k.toNat + 1), -1, by simp only [List.length_append, List.length_take, List.length_drop]; omega, fun a ha => ?_, .inl rfl, rfl⟩, ?_⟩
             · rcases List.mem_append.1 ha with ha | ha
               · exact m2 a (List.mem_of_mem_take ha)
               · exact m2 a (List.mem_of_mem_drop ha)
             · simp only [List.map_append, List.length_append]
               (refine le_ev [(2, 7)] ?_; simp only [hm, go_sem, ↓reduceIte]; first | done | rfl | exact ⟨rfl, rfl⟩))
    rintro t ⟨L, k, l1, l2, l3, rfl⟩
    have hal' := hal
    clear hal hgi hf hfx
    rcases l3 with rfl | hk
    · refine run_wpc _ _ _ _ _ ?_
      simp only [hm, go_sem, ↓reduceIte]
      refine c_l32Begin hP (m := ⟨m.records + 1, L, m.found⟩) (p := p) (n := n) (by omega) ⟨l1, l2, m3⟩ (by simp only; omega) hpk 2 3 (by decide) rfl rfl fun m' hm' hk' => ?_
      unfold Mon.ro
      simp only [hm, go_sem, ↓reduceIte]
      exact ⟨m', ⟨hm', hk'⟩, .inl rfl⟩
    · have hil : k.toNat < L.length := by omega
      have hga := getD_map (f := Assoc.row) hil
      have hax := l2 _ (List.getElem_mem hil)
      generalize L[k.toNat] = a at hga hax
      have has := s_specAssocStep a p ⟨by have := hax.1.2.1; omega, fun d hd => by have := dataB_text (hax.1.2.2 d hd); omega⟩ ⟨by have := hax.2.2.1; omega, fun d hd => by have := dataB_text (hax.2.2.2 d hd); omega⟩ (by omega)
      have hAWs := assocStep_AW a p
      have hlen := assocStep_le a p
      generalize assocStep a p = x at *
      obtain ⟨o, rules⟩ := x
      simp only at hAWs hlen has
      have hu : a.ro = .agg a.cellsA := rfl
      have hu2 : o.ro = .agg o.cellsA := rfl
      rw [hu, hu2] at has
      unfold Packet.ro Assoc.cellsA at has
      refine run_seq (run_wpc _ _ _ _ _ ?_)
      simp only [hm, go_sem, ↓reduceIte]
      repeat' first | refine And.intro ?_ ?_ | intro _
      all_goals first
        | omega
        | skip
      refine run_join (fun t => t = ⟨[(4, .ptr 1 0 0), (5, .ptr 4 0 0), (8, .i k), (11, .ptr 6 0 0), (12, .r (.ro none (rules.map intRow)))], [(1, .var [.i 0, .r .nil, .r .nil]), (4, .var [.i (m.records + 1), .sl 2 0 L.length, .sl 3 0 m.found.length]), (2, .row 14 (L.map Assoc.row)), (3, .row 2 (m.found.map Fnd.row)), (6, .var o.cellsA)], 7, []⟩) (run_wpc _ _ _ _ _ ?_) ?_
      · simp only [hga, Assoc.row, Assoc.cellsX, hm, go_sem, ↓reduceIte]
        repeat' first
          | refine And.intro ?_ ?_
          | intro _
          | (refine call_dataP (hP ▸ has) rfl rfl ?_; simp only [hga, Assoc.row, Assoc.cellsX, hm, go_sem, ↓reduceIte])
        all_goals first
          | omega
          | (refine ⟨_, rfl, ?_⟩; unfold Assoc.cellsA; (refine le_ev [] ?_; simp only [hm, go_sem, ↓reduceIte]; first | done | rfl | exact ⟨rfl, rfl⟩))
      rintro t rfl
      unfold Assoc.cellsA
      refine run_seq (run_wpc _ _ _ _ _ ?_)
      simp only [hm, go_sem, ↓reduceIte]
      refine ⟨hk, hil, ?_⟩
      have hrow : (L.map Assoc.row).set k.toNat [RV.n IntKind.i64 o.fr, RV.n IntKind.i64 o.to, RV.n IntKind.i64 o.state, RV.b o.byB, RV.n IntKind.i64 o.a.tag, RV.n IntKind.i64 o.a.streams, RV.n IntKind.i64 o.a.first, RV.ro none (o.a.sent.map Data.row), RV.n IntKind.i64 o.a.acked, RV.n IntKind.i64 o.b.tag, RV.n IntKind.i64 o.b.streams, RV.n IntKind.i64 o.b.first, RV.ro none (o.b.sent.map Data.row), RV.n IntKind.i64 o.b.acked] = (L.set k.toNat o).map Assoc.row := by rw [List.map_set]; rfl
      rw [hrow]
      have hll : (L.set k.toNat o).length ≤ 3 := by rw [List.length_set]; exact l1
      have hL2 : ∀ a ∈ L.set k.toNat o, AW a := fun a ha => by
        rcases List.mem_or_eq_of_mem_set ha with ha | rfl
        · exact l2 a ha
        · exact hAWs
      have hlen2 : L.length = (L.set k.toNat o).length := by rw [List.length_set]
      rw [hlen2]
      generalize L.set k.toNat o = L2 at hll hL2
      refine run_frz 2 rfl (by first | (simp only [hm, List.length_map, go_sem, ↓reduceIte]; done) | (simp only [hm, List.length_map, go_sem, ↓reduceIte]; omega)) (by first | (simp only [hm, List.length_map, go_sem, ↓reduceIte]; done) | (simp only [hm, List.length_map, go_sem, ↓reduceIte]; omega)) ?_; simp only [hm, take_map_len, List.drop_zero, go_sem, ↓reduceIte]
      refine run_wpc _ _ _ _ _ ?_
      simp only [hm, go_sem, ↓reduceIte]
      refine run_exit 0 (fun t0 => ∃ F : List Fnd, F.length ≤ n + 12 ∧ t0 = ⟨[(4, .ptr 1 0 0), (5, .ptr 4 0 0)], [(1, .var [.i 0, .r .nil, .r .nil]), (4, .var [.i (m.records + 1), .r (.ro none (L2.map Assoc.row)), .sl 7 0 F.length]), (7, .row 2 (F.map Fnd.row))], 8, []⟩) ?_ ?_
      · refine lp_wpc (α := Nat × List Fnd) (fun y => ⟨[(4, .ptr 1 0 0), (5, .ptr 4 0 0), (12, .r (.ro none (rules.map intRow))), (13, .i y.1)], [(1, .var [.i 0, .r .nil, .r .nil]), (4, .var [.i (m.records + 1), .r (.ro none (L2.map Assoc.row)), .sl 7 0 y.2.length]), (7, .row 2 (y.2.map Fnd.row))], 8, []⟩)
          (fun y => y.1 ≤ rules.length ∧ y.2.length ≤ n + y.1) (fun y => rules.length - y.1) (0, m.found) ⟨Nat.zero_le _, by simp only; omega⟩ (by (refine le_ev [(7, 3)] ?_; simp only [hm, go_sem, ↓reduceIte]; first | done | rfl | exact ⟨rfl, rfl⟩)) ?_
        rintro ⟨i, F⟩ ⟨h1, h2⟩
        simp only at h1 h2
        unfold pc77l0
        rcases Nat.lt_or_ge i rules.length with hil | hil
        · have hw1 : IntKind.i64.wrap ((i : Int) + 1) = ((i + 1 : Nat) : Int) := by rw [wrap64 (by omega) (by omega)]; omega
          have hg := getD_map (f := intRow) hil
          simp only [hw1, Int.toNat_natCast, hg, intRow, hm, go_sem, ↓reduceIte]
          repeat' first
            | refine And.intro ?_ ?_
            | intro _
            | (refine c_l32Note hP (by omega) (by omega) 7 rfl ?_; simp only [hw1, Int.toNat_natCast, hg, intRow, hm, go_sem, ↓reduceIte])
          all_goals first
            | omega
            | (refine ⟨(i + 1, F ++ [⟨m.records + 1 - 1, rules[i]⟩]), ⟨hil, by simp only [List.length_append, List.length_cons, List.length_nil]; omega⟩, by simp only; omega, ?_⟩
               simp only [List.length_append, List.length_cons, List.length_nil]
               (refine le_ev [(7, 8)] ?_; simp only [hm, go_sem, ↓reduceIte]; first | done | rfl | exact ⟨rfl, rfl⟩))
        · have : i = rules.length := by omega
          subst this
          simp only [hm, go_sem, ↓reduceIte]
          repeat' first | refine And.intro ?_ ?_ | intro _
          all_goals first
            | omega
            | (refine ⟨_, ⟨F, by omega, rfl⟩, ?_⟩; (refine le_ev [] ?_; simp only [hm, go_sem, ↓reduceIte]; first | done | rfl | exact ⟨rfl, rfl⟩))
      rintro t0 ⟨F, hF, rfl⟩
      simp only [hm, go_sem, ↓reduceIte]
      exact ⟨⟨m.records + 1, L2, F⟩, ⟨⟨hll, hL2, by simp only; omega⟩, rfl⟩, .inr ⟨7, rfl, rfl⟩⟩
  · rintro r hp nx gs ⟨m', ⟨hw, hk⟩, h⟩
    rcases h with rfl | ⟨b2, rfl, h2⟩
    · refine ⟨m'.ro, [], 0, [], ⟨⟨m', rfl, hw, hk⟩, rfl, rfl, rfl⟩, fun c hc => ?_⟩
      unfold Mon.ro
      exact le_ev [] (by simp only [hc, go_sem, ↓reduceIte])
    · refine ⟨m'.ro, [], 0, [], ⟨⟨m', rfl, hw, hk⟩, rfl, rfl, rfl⟩, fun c hc => ?_⟩
      refine Le.trans (t := ⟨[(0, .agg [.i m'.records, .r (.ro none (m'.list.map Assoc.row)), .sl 0 0 m'.found.length])], [(0, .row 2 (m'.found.map Fnd.row))], 1, []⟩) (le_ev [(0, b2)] (by simp only [hc, go_sem, ↓reduceIte, h2])) ?_
      refine Le.trans (le_frz 0 rfl (by simp only [List.length_map, go_sem, ↓reduceIte]) (by simp only [go_sem, ↓reduceIte])) ?_
      simp only [take_map_len, List.drop_zero, go_sem, ↓reduceIte]
      exact le_ev [] (by simp only [hc, Mon.ro, go_sem, ↓reduceIte])
end Go.Cap

/- Contracts: the reference's monitor, as data, as far as the draws need it. -/
namespace Go.Cap
open Go Go.Proofs
set_option maxRecDepth 100000
set_option linter.unusedSimpArgs false
set_option linter.unusedVariables false
attribute [local irreducible] Call Run Spec Le

theorem MW.fit {n : Nat} {m : Mon} (hn : n ≤ 90000) (h : MW n m) : MFit m := by
  obtain ⟨h1, h2, h3⟩ := h
  refine ⟨by omega, by omega, fun x hx => ?_⟩
  obtain ⟨⟨_, a2, a3⟩, ⟨_, b2, b3⟩⟩ := h2 x hx
  exact ⟨⟨by omega, fun d hd => by have := dataB_text (a3 d hd); omega⟩, ⟨by omega, fun d hd => by have := dataB_text (b3 d hd); omega⟩⟩
theorem MW.no (n : Nat) : MW n noMon := ⟨by decide, fun a ha => (List.not_mem_nil ha).elim, Nat.zero_le _⟩
theorem s_specMonitorStepW (m : Mon) (text : List UInt8) (n : Nat) (hn : n ≤ 80000) (hw : MW n m) (ht : text.length ≤ 10000) :
    Spec Try.prog 86 0 [] [m.ro, .st text] (Plain fun r => ∃ m' : Mon, r = m'.ro ∧ MW (n + 20) m') := by
  refine Spec.le (Q := fun r hp _ _ => ∃ m' : Mon, MW (n + 20) m' ∧ (r = m'.ro ∨ (m' = noMon ∧ r = .agg [.i 0, .r .nil, .r .nil]))) ?_ ?_
  · refine mr86 rfl fun c hP hm => ?_
    unfold pc86
    have hv := s_specMonitorValid m (hw.fit (by omega))
    have hst := fun hr => s_l32Step m text n (by omega) hw hr ht
    unfold Mon.ro at hv hst ⊢
    refine run_seq (run_wpc _ _ _ _ _ ?_)
    simp only [hm, go_sem, ↓reduceIte]
    refine run_seq (run_wpc _ _ _ _ _ ?_)
    simp only [hm, go_sem, ↓reduceIte]
    refine call_pure (hP ▸ hv) rfl rfl ?_
    by_cases hb : monB m = true
    · have hrec : 0 ≤ m.records ∧ m.records ≤ 60 := by
        unfold monB inB at hb
        simp only [Bool.and_eq_true, decide_eq_true_eq] at hb
        exact hb.1.1.1
      simp only [hb, hm, go_sem, ↓reduceIte]
      refine ⟨fun hge => ?_, fun hge => ?_⟩
      · exact ⟨noMon, MW.no _, .inr rfl⟩
      · refine run_wpc _ _ _ _ _ ?_
        simp only [hm, go_sem, ↓reduceIte]
        refine call_plain (hP ▸ hst hrec) rfl ?_
        rintro r ⟨m', rfl, hw', hk'⟩
        refine ⟨rfl, ?_⟩
        simp only [hm, go_sem, ↓reduceIte]
        exact ⟨m', hw', .inl rfl⟩
    · simp only [hb, hm, go_sem, ↓reduceIte]
      exact ⟨noMon, MW.no _, .inr rfl⟩
  · rintro r hp nx gs ⟨m', hw, h⟩
    refine ⟨m'.ro, [], 0, [], ⟨⟨m', rfl, hw⟩, rfl, rfl, rfl⟩, fun c hc => ?_⟩
    rcases h with rfl | ⟨rfl, rfl⟩
    · unfold Mon.ro
      exact le_ev [] (by simp only [hc, go_sem, ↓reduceIte])
    · refine Le.trans le_denil ?_
      exact le_ev [] (by simp only [hc, noMon, Mon.ro, List.map_nil, go_sem, ↓reduceIte])
theorem s_specMonitorRunW (l : List Rec) (ht : ∀ x ∈ l, x.text.length ≤ 10000) (hl : l.length ≤ 100000) :
    Spec Try.prog 62 0 [] [.r (.ro none (l.map Rec.row))] (Plain fun r => ∃ m' : Mon, r = m'.ro ∧ MW 1500 m') := by
  refine Spec.le (Q := fun r hp _ _ => ∃ m' : Mon, MW 1500 m' ∧ r = m'.ro) ?_ ?_
  · refine mr62 rfl fun c hP hm => ?_
    unfold pc62
    refine run_seq (run_wpc _ _ _ _ _ ?_)
    simp only [hm, go_sem, ↓reduceIte]
    refine run_seq (run_wpc _ _ _ _ _ ?_)
    simp only [hm, go_sem, ↓reduceIte]
    refine run_frz 1 rfl (by first | (simp only [hm, List.length_map, go_sem, ↓reduceIte]; done) | (simp only [hm, List.length_map, go_sem, ↓reduceIte]; omega)) (by first | (simp only [hm, List.length_map, go_sem, ↓reduceIte]; done) | (simp only [hm, List.length_map, go_sem, ↓reduceIte]; omega)) ?_; simp only [hm, take_map_len, List.drop_zero, go_sem, ↓reduceIte]
    refine run_frz 2 rfl (by first | (simp only [hm, List.length_map, go_sem, ↓reduceIte]; done) | (simp only [hm, List.length_map, go_sem, ↓reduceIte]; omega)) (by first | (simp only [hm, List.length_map, go_sem, ↓reduceIte]; done) | (simp only [hm, List.length_map, go_sem, ↓reduceIte]; omega)) ?_; simp only [hm, take_map_len, List.drop_zero, go_sem, ↓reduceIte]
    refine run_wpc _ _ _ _ _ ?_
    simp only [hm, go_sem, ↓reduceIte]
    refine run_exit 0 (fun t0 => ∃ m : Mon, MW 1500 m ∧ t0 = ⟨[(2, .ptr 0 0 0), (3, .ptr 3 0 0)], [(3, .var [.i m.records, .r (.ro none (m.list.map Assoc.row)), .r (.ro none (m.found.map Fnd.row))]), (0, .var [.i 0, .r .nil, .r .nil])], 4, []⟩) ?_ ?_
    rotate_left
    · rintro t0 ⟨m, hw, rfl⟩
      simp only [hm, go_sem, ↓reduceIte]
      exact ⟨m, hw, rfl⟩
    refine lp_wpc (α := Nat × Mon) (fun y => ⟨[(0, .r (.ro none (l.map Rec.row))), (2, .ptr 0 0 0), (3, .ptr 3 0 0), (4, .i y.1)], [(3, .var [.i y.2.records, .r (.ro none (y.2.list.map Assoc.row)), .r (.ro none (y.2.found.map Fnd.row))]), (0, .var [.i 0, .r .nil, .r .nil])], 4, []⟩)
      (fun y => y.1 ≤ l.length ∧ MW (20 * y.1) y.2 ∧ y.2.records = y.1 ∧ (0 < y.1 → captB l = true)) (fun y => l.length - y.1) (0, noMon) ⟨Nat.zero_le _, MW.no _, rfl, fun h => absurd h (Nat.lt_irrefl 0)⟩ (by simp only [noMon, List.map_nil]; (refine le_ev [] ?_; simp only [hm, go_sem, ↓reduceIte]; first | done | rfl | exact ⟨rfl, rfl⟩)) ?_
    rintro ⟨i, m⟩ ⟨h1, h2, h3, h4⟩
    simp only at h1 h2 h3 h4
    unfold pc62l0
    have hcap : captB l = true → l.length ≤ 60 := fun h => by
      unfold captB at h
      simp only [Bool.and_eq_true, decide_eq_true_eq] at h
      exact h.2
    have h5 : i ≤ 60 := by
      rcases Nat.eq_zero_or_pos i with h | h
      · omega
      · have := hcap (h4 h); omega
    have hfin : MW 1500 m := ⟨h2.1, h2.2.1, by have := h2.2.2; omega⟩
    rcases Nat.lt_or_ge i l.length with hil | hil
    · have hw1 : IntKind.i64.wrap ((i : Int) + 1) = ((i + 1 : Nat) : Int) := by rw [wrap64 (by omega) (by omega)]; omega
      have hg := getD_map (f := Rec.row) hil
      have hxt := ht _ (List.getElem_mem hil)
      generalize l[i] = x at hg hxt
      cases hb : captB l
      · simp only [hw1, Int.toNat_natCast, hg, Rec.row, hm, go_sem, ↓reduceIte]
        repeat' first
          | refine And.intro ?_ ?_
          | intro _
          | (refine call_pure (hP ▸ s_specCaptureValid l (by omega)) rfl rfl ?_; simp only [hb, hw1, Int.toNat_natCast, hg, Rec.row, hm, go_sem, ↓reduceIte])
        all_goals first
          | omega
          | (refine ⟨_, ⟨m, hfin, rfl⟩, ?_⟩; (refine le_ev [] ?_; simp only [hm, go_sem, ↓reduceIte]; first | done | rfl | exact ⟨rfl, rfl⟩))
      · have h60 := hcap hb
        have hst := s_l32Step m x.text (20 * i) (by omega) h2 (by omega) hxt
        unfold Mon.ro at hst
        simp only [hw1, Int.toNat_natCast, hg, Rec.row, hm, go_sem, ↓reduceIte]
        repeat' first
          | refine And.intro ?_ ?_
          | intro _
          | (refine call_pure (hP ▸ s_specCaptureValid l (by omega)) rfl rfl ?_; simp only [hb, hw1, Int.toNat_natCast, hg, Rec.row, hm, go_sem, ↓reduceIte])
          | (refine call_plain (hP ▸ hst) rfl ?_; rintro r ⟨m', rfl, hw', hk'⟩; refine ⟨rfl, ?_⟩; simp only [hw1, hm, go_sem, ↓reduceIte])
        all_goals first
          | omega
          | (refine ⟨(i + 1, m'), ⟨hil, by rw [Nat.mul_add]; exact hw', by simp only; omega⟩, by simp only; omega, ?_⟩; (refine le_ev [] ?_; simp only [hm, go_sem, ↓reduceIte]; first | done | rfl | exact ⟨rfl, rfl⟩))
    · have : i = l.length := by omega
      subst this
      simp only [hm, go_sem, ↓reduceIte]
      repeat' first | refine And.intro ?_ ?_ | intro _
      all_goals first
        | omega
        | (refine ⟨_, ⟨m, hfin, rfl⟩, ?_⟩; (refine le_ev [] ?_; simp only [hm, go_sem, ↓reduceIte]; first | done | rfl | exact ⟨rfl, rfl⟩))
  · rintro r hp nx gs ⟨m', hw, rfl⟩
    refine ⟨m'.ro, [], 0, [], ⟨⟨m', rfl, hw⟩, rfl, rfl, rfl⟩, fun c hc => ?_⟩
    unfold Mon.ro
    exact le_ev [] (by simp only [hc, go_sem, ↓reduceIte])
end Go.Cap

/- Contracts: the records of a talk (the program's); draws; equality of records. -/
namespace Go.Cap
open Go Go.Proofs
set_option maxRecDepth 100000
set_option linter.unusedSimpArgs false
set_option linter.unusedVariables false
attribute [local irreducible] Call Run Spec Le

theorem s_specTalkRecordsP (t : Talk) (begin : Int) (hb : begin ≤ 9223372036854775807) (hl : t.says.length ≤ 1048576) (hx : ∀ s ∈ t.says, s.text.length ≤ 1048576) :
    Spec Try.prog 63 0 [] [t.ro, .i begin] (Plain fun r => r = .r (.ro none ((talkRecs t begin).map Rec.row))) := by
  have := s_specTalkRecords t begin hb hl hx
  rw [← List.length_map (f := Rec.row)] at this
  exact this.dataP
end Go.Cap

/- Contracts: a monitor and an association are drawn. -/
namespace Go.Cap
open Go Go.Proofs
set_option maxRecDepth 100000
set_option linter.unusedSimpArgs false
set_option linter.unusedVariables false
attribute [local irreducible] Call Run Spec Le

theorem recsFrom_text : ∀ {l : List Rec} {n : Int}, recsFrom n l = true → ∀ x ∈ l, x.text.length ≤ 120
  | [], _, _, x, hx => (List.not_mem_nil hx).elim
  | y :: l, n, h, x, hx => by
    simp only [recsFrom, Bool.and_eq_true, decide_eq_true_eq] at h
    rcases List.mem_cons.1 hx with rfl | hx
    · exact h.1.2
    · exact recsFrom_text h.2 x hx
theorem talkRecs_text (t : Talk) (b : Int) : (talkRecs t b).length ≤ 60 ∧ ∀ x ∈ talkRecs t b, x.text.length ≤ 120 := by
  unfold talkRecs
  split
  · rename_i h
    have h2 := h.2
    simp only [captB, Bool.and_eq_true, decide_eq_true_eq] at h2
    exact ⟨h2.2, recsFrom_text h2.1⟩
  · exact ⟨by simp, fun x hx => (List.not_mem_nil hx).elim⟩
def MonIs (n : Nat) (r : AV) : Prop := ∃ m : Mon, r = m.ro ∧ MW n m
theorem s_l92Monitor (code : List UInt8) (p : Int) (hp : 0 ≤ p ∧ p ≤ 980000) (hc : code.length ≤ 2000) : Spec Try.prog 72 1 [(0, rdB code p)] [.ptr 0 0 0] (NamedP (DrawP (MonIs 2500) code p 1500)) := by
  refine Spec.le (Q := fun r hp _ _ => ∃ (m : Mon) (p' : Int), MW 2500 m ∧ r = m.ro ∧ hget hp 0 = some (rdB code p') ∧ p ≤ p' ∧ p' ≤ p + 1500) ?_ ?_
  · refine mr72 rfl fun c hP hm => ?_
    unfold pc72
    refine run_seq (run_wpc _ _ _ _ _ ?_)
    simp only [hm, go_sem, ↓reduceIte]
    refine run_seq (run_wpc _ _ _ _ _ ?_)
    simp only [hm, go_sem, ↓reduceIte]
    refine c_drawT (hP ▸ s_l92Talk code p (by omega) hc) rfl fun t p1 h1 h2 h3 h4 => ?_
    simp only [Talk.av, hm, go_sem, ↓reduceIte]
    refine call_frz 2 rfl rfl (by simp only [List.length_map, go_sem, ↓reduceIte]) ?_
    simp only [take_map_len, List.drop_zero, hm, go_sem, ↓reduceIte]
    refine call_dataP (hP ▸ s_specTalkRecordsP t 0 (by omega) (by omega) (fun s hs => by have := h4 s hs; omega)) rfl rfl ?_
    obtain ⟨k1, k2⟩ := talkRecs_text t 0
    generalize talkRecs t 0 = l at k1 k2
    simp only [hm, go_sem, ↓reduceIte]
    refine run_seq (run_wpc _ _ _ _ _ ?_)
    simp only [hm, go_sem, ↓reduceIte]
    refine run_frz 3 rfl (by first | (simp only [hm, List.length_map, go_sem, ↓reduceIte]; done) | (simp only [hm, List.length_map, go_sem, ↓reduceIte]; omega)) (by first | (simp only [hm, List.length_map, go_sem, ↓reduceIte]; done) | (simp only [hm, List.length_map, go_sem, ↓reduceIte]; omega)) ?_; simp only [hm, take_map_len, List.drop_zero, go_sem, ↓reduceIte]
    refine run_frz 4 rfl (by first | (simp only [hm, List.length_map, go_sem, ↓reduceIte]; done) | (simp only [hm, List.length_map, go_sem, ↓reduceIte]; omega)) (by first | (simp only [hm, List.length_map, go_sem, ↓reduceIte]; done) | (simp only [hm, List.length_map, go_sem, ↓reduceIte]; omega)) ?_; simp only [hm, take_map_len, List.drop_zero, go_sem, ↓reduceIte]
    refine run_seq (run_wpc _ _ _ _ _ ?_)
    have hwl : IntKind.i64.wrap ((l.length : Int) + 1) = (l.length : Int) + 1 := wrap64 (by omega) (by omega)
    simp only [hwl, hm, go_sem, ↓reduceIte]
    intro _
    refine c_pick hP (by rfl) (by omega) hc fun k hk => ?_
    have hk' : 0 ≤ k ∧ k ≤ l.length := by unfold Below at hk; omega
    simp only [hm, go_sem, ↓reduceIte]
    refine run_wpc _ _ _ _ _ ?_
    simp only [hm, go_sem, ↓reduceIte]
    refine run_exit 0 (fun t0 => ∃ (m : Mon) (q : Int), MW 2500 m ∧ p ≤ q ∧ q ≤ p + 1500 ∧ t0 = ⟨[(2, .ptr 1 0 0), (4, .ptr 5 0 0)], [(5, .var [.i m.records, .r (.ro none (m.list.map Assoc.row)), .r (.ro none (m.found.map Fnd.row))]), (0, rdB code q), (1, .var [.i 0, .r .nil, .r .nil])], 6, []⟩) ?_ ?_
    rotate_left
    · rintro t0 ⟨m, q, hw, q1, q2, rfl⟩
      simp only [hm, go_sem, ↓reduceIte]
      exact ⟨m, q, hw, rfl, rfl, q1, q2⟩
    refine lp_wpc (α := Nat × Mon × Int) (fun y => ⟨[(0, .ptr 0 0 0), (2, .ptr 1 0 0), (3, .r (.ro none (l.map Rec.row))), (4, .ptr 5 0 0), (5, .i k), (6, .i y.1)], [(5, .var [.i y.2.1.records, .r (.ro none (y.2.1.list.map Assoc.row)), .r (.ro none (y.2.1.found.map Fnd.row))]), (0, rdB code y.2.2), (1, .var [.i 0, .r .nil, .r .nil])], 6, []⟩)
      (fun y => (y.1 : Int) ≤ k ∧ MW (40 * y.1) y.2.1 ∧ p ≤ y.2.2 ∧ y.2.2 ≤ p + 110 + 20 * y.1) (fun y => (k - y.1).toNat) (0, noMon, p1 + 1) ⟨by simp only; omega, MW.no _, by simp only; omega, by simp only; omega⟩ (by simp only [noMon, List.map_nil]; (refine le_ev [] ?_; simp only [hm, go_sem, ↓reduceIte]; first | done | rfl | exact ⟨rfl, rfl⟩)) ?_
    rintro ⟨i, m, q⟩ ⟨i1, i2, i3, i4⟩
    simp only at i1 i2 i3 i4
    unfold pc72l0
    rcases Int.lt_or_le (i : Int) k with hlt | hge
    · have hil : i < l.length := by omega
      have hw1 : IntKind.i64.wrap ((i : Int) + 1) = ((i + 1 : Nat) : Int) := by rw [wrap64 (by omega) (by omega)]; omega
      have hg := getD_map (f := Rec.row) hil
      have hxt := k2 _ (List.getElem_mem hil)
      generalize l[i] = x at hg hxt
      have step : ∀ (m : Mon) (n : Nat) (w : List UInt8), n ≤ 80000 → MW n m → w.length ≤ 10000 → _ := fun m n w a1 a2 a3 => s_specMonitorStepW m w n a1 a2 a3
      unfold Mon.ro at step
      simp only [hw1, Int.toNat_natCast, hg, Rec.row, hm, go_sem, ↓reduceIte]
      refine ⟨fun _ => ?_, fun h => absurd hlt (by omega)⟩
      refine c_pick hP (by rfl) (by omega) hc fun v1 hv1 => ?_
      simp only [hw1, Int.toNat_natCast, hg, Rec.row, hm, go_sem, ↓reduceIte]
      refine ⟨fun _ => ?_, fun _ => ?_⟩
      · refine ⟨⟨by omega, by omega⟩, ?_⟩
        refine call_plain (hP ▸ step m (40 * i) x.text (by omega) i2 (by omega)) rfl ?_
        rintro r ⟨m1, rfl, hw'⟩
        refine ⟨rfl, ?_⟩
        simp only [hw1, Int.toNat_natCast, hg, Rec.row, hm, go_sem, ↓reduceIte]
        refine c_pick hP (by rfl) (by omega) hc fun v2 hv2 => ?_
        simp only [hw1, Int.toNat_natCast, hg, Rec.row, hm, go_sem, ↓reduceIte]
        refine ⟨fun _ => ?_, fun _ => ?_⟩
        · intro _
          refine c_pick hP (by rfl) (by omega) hc fun u hu => ?_
          have hu' : 0 ≤ u ∧ u < l.length := by unfold Below at hu; omega
          have hun : u.toNat < l.length := by omega
          have hgu := getD_map (f := Rec.row) hun
          have hxu := k2 _ (List.getElem_mem hun)
          generalize l[u.toNat] = y at hgu hxu
          simp only [hgu, hw1, Int.toNat_natCast, Rec.row, hm, go_sem, ↓reduceIte]
          refine ⟨⟨by omega, by omega⟩, ?_⟩
          refine c_drawS (hP ▸ s_l91Spoil code (q + 1 + 1 + 1) y.text (by omega) hc (by omega)) rfl rfl fun tx p2 g1 g2 g3 => ?_
          simp only [hgu, hw1, Int.toNat_natCast, Rec.row, hm, go_sem, ↓reduceIte]
          refine call_plain (hP ▸ step m1 (40 * i + 20) tx (by omega) hw' (by omega)) rfl ?_
          rintro r ⟨m2, rfl, hw2⟩
          refine ⟨rfl, ?_⟩
          simp only [hw1, Int.toNat_natCast, hg, Rec.row, hm, go_sem, ↓reduceIte]
          refine ⟨(i + 1, m2, p2), ⟨by simp only; omega, by rw [Nat.mul_add]; exact hw2, by simp only; omega, by simp only; omega⟩, by simp only; omega, ?_⟩
          (refine le_ev [] ?_; simp only [hm, go_sem, ↓reduceIte]; first | done | rfl | exact ⟨rfl, rfl⟩)
        · refine ⟨(i + 1, m1, q + 1 + 1), ⟨by simp only; omega, ⟨hw'.1, hw'.2.1, by have := hw'.2.2; simp only; omega⟩, by simp only; omega, by simp only; omega⟩, by simp only; omega, ?_⟩
          (refine le_ev [] ?_; simp only [hm, go_sem, ↓reduceIte]; first | done | rfl | exact ⟨rfl, rfl⟩)
      · have hw' : MW (40 * i + 20) m := ⟨i2.1, i2.2.1, by have := i2.2.2; omega⟩
        refine c_pick hP (by rfl) (by omega) hc fun v2 hv2 => ?_
        simp only [hw1, Int.toNat_natCast, hg, Rec.row, hm, go_sem, ↓reduceIte]
        refine ⟨fun _ => ?_, fun _ => ?_⟩
        · intro _
          refine c_pick hP (by rfl) (by omega) hc fun u hu => ?_
          have hu' : 0 ≤ u ∧ u < l.length := by unfold Below at hu; omega
          have hun : u.toNat < l.length := by omega
          have hgu := getD_map (f := Rec.row) hun
          have hxu := k2 _ (List.getElem_mem hun)
          generalize l[u.toNat] = y at hgu hxu
          simp only [hgu, hw1, Int.toNat_natCast, Rec.row, hm, go_sem, ↓reduceIte]
          refine ⟨⟨by omega, by omega⟩, ?_⟩
          refine c_drawS (hP ▸ s_l91Spoil code (q + 1 + 1 + 1) y.text (by omega) hc (by omega)) rfl rfl fun tx p2 g1 g2 g3 => ?_
          simp only [hgu, hw1, Int.toNat_natCast, Rec.row, hm, go_sem, ↓reduceIte]
          refine call_plain (hP ▸ step m (40 * i + 20) tx (by omega) hw' (by omega)) rfl ?_
          rintro r ⟨m2, rfl, hw2⟩
          refine ⟨rfl, ?_⟩
          simp only [hw1, Int.toNat_natCast, hg, Rec.row, hm, go_sem, ↓reduceIte]
          refine ⟨(i + 1, m2, p2), ⟨by simp only; omega, by rw [Nat.mul_add]; exact hw2, by simp only; omega, by simp only; omega⟩, by simp only; omega, ?_⟩
          (refine le_ev [] ?_; simp only [hm, go_sem, ↓reduceIte]; first | done | rfl | exact ⟨rfl, rfl⟩)
        · refine ⟨(i + 1, m, q + 1 + 1), ⟨by simp only; omega, ⟨hw'.1, hw'.2.1, by have := hw'.2.2; simp only; omega⟩, by simp only; omega, by simp only; omega⟩, by simp only; omega, ?_⟩
          (refine le_ev [] ?_; simp only [hm, go_sem, ↓reduceIte]; first | done | rfl | exact ⟨rfl, rfl⟩)
    · have : k = i := by omega
      subst this
      simp only [hm, go_sem, ↓reduceIte]
      repeat' first | refine And.intro ?_ ?_ | intro _
      all_goals first
        | omega
        | (refine ⟨_, ⟨m, q, ⟨i2.1, i2.2.1, by have := i2.2.2; omega⟩, by omega, by omega, rfl⟩, ?_⟩; (refine le_ev [] ?_; simp only [hm, go_sem, ↓reduceIte]; first | done | rfl | exact ⟨rfl, rfl⟩))
  · rintro r hp nx gs ⟨m, p', hw, rfl, hb, h1, h2⟩
    refine ⟨m.ro, [(0, rdB code p')], 1, [], ⟨_, ⟨⟨m, rfl, hw⟩, p', rfl, h1, h2⟩, rfl, rfl, rfl⟩, fun c hc => ?_⟩
    unfold Mon.ro
    exact le_ev [] (by simp only [hc, go_sem, ↓reduceIte, hb])
end Go.Cap

/- Contracts: an association is drawn; copies in memory of one's own. -/
namespace Go.Cap
open Go Go.Proofs
set_option maxRecDepth 100000
set_option linter.unusedSimpArgs false
set_option linter.unusedVariables false
attribute [local irreducible] Call Run Spec Le

def AssocIs (r : AV) : Prop := ∃ a : Assoc, r = a.ro ∧ AW a
theorem dataA_mon {n : Nat} {r : AV} (h : MonIs n r) : dataA r = true := by obtain ⟨m, rfl, _⟩ := h; rfl
theorem dataA_assoc {r : AV} (h : AssocIs r) : dataA r = true := by obtain ⟨m, rfl, _⟩ := h; rfl
theorem s_l31SideN (s : Side) (hl : s.sent.length ≤ 1000000) : Spec Try.prog 83 0 [] [s.ro] (New1 (s.av (.sl 0 0 s.sent.length)) 7 (s.sent.map Data.row)) := by
  refine Spec.new1 (Q := fun r hp _ _ => ∃ b, r = s.av (.sl b 0 s.sent.length) ∧ hget hp b = some (.row 7 (s.sent.map Data.row))) ?_ (fun r hp nx gs h => h) (fun f g h => by simp only [Side.av, go_sem, h])
  refine mr83 rfl fun c hP hm => ?_
  unfold pc83 Side.ro Side.av
  refine run_seq (run_wpc _ _ _ _ _ ?_)
  simp only [hm, go_sem, ↓reduceIte]
  refine run_seq (run_wpc _ _ _ _ _ ?_)
  simp only [hm, go_sem, ↓reduceIte]
  refine ⟨⟨fun r hr => by obtain ⟨d, _, rfl⟩ := List.mem_map.1 hr; rfl, by omega⟩, ?_⟩
  refine run_wpc _ _ _ _ _ ?_
  simp only [hm, go_sem, ↓reduceIte]
  exact ⟨_, rfl, rfl⟩
theorem s_l31CopyN (a : Assoc) (ha : a.a.sent.length ≤ 1000000) (hb : a.b.sent.length ≤ 1000000) : Spec Try.prog 65 0 [] [a.ro] (New2 (a.av (.sl 0 0 a.a.sent.length) (.sl 1 0 a.b.sent.length)) 7 (a.a.sent.map Data.row) 7 (a.b.sent.map Data.row)) := by
  refine Spec.new2 (Q := fun r hp _ _ => ∃ b b1, b ≠ b1 ∧ r = a.av (.sl b 0 a.a.sent.length) (.sl b1 0 a.b.sent.length) ∧ hget hp b = some (.row 7 (a.a.sent.map Data.row)) ∧ hget hp b1 = some (.row 7 (a.b.sent.map Data.row))) ?_ (fun r hp nx gs h => by simpa [Assoc.av, renA, renA.renL] using h) (fun f g h h1 => by simp only [Assoc.av, go_sem, h, h1])
  refine mk65 rfl fun c hP hm => ?_
  unfold pc65 Assoc.ro Assoc.av
  simp only [hm, go_sem, ↓reduceIte]
  refine call_new1p (hP ▸ s_l31SideN a.a ha) rfl ?_
  simp only [Side.ro, Side.av, hm, go_sem, ↓reduceIte]
  refine call_new1p (hP ▸ s_l31SideN a.b hb) rfl ?_
  simp only [Side.ro, Side.av, hm, go_sem, ↓reduceIte]
  exact ⟨_, _, by decide, rfl, rfl, rfl⟩
theorem c_l31CopyN {c : Cx} (hP : c.P = Try.prog) {a : Assoc} (ha : a.a.sent.length ≤ 1000000) (hb : a.b.sent.length ≤ 1000000) {s : St} {K : AV → St → Prop}
    (hK : K (a.av (.sl s.nx 0 a.a.sent.length) (.sl (s.nx + 1) 0 a.b.sent.length)) ⟨s.sl, (s.nx, .row 7 (a.a.sent.map Data.row)) :: (s.nx + 1, .row 7 (a.b.sent.map Data.row)) :: s.hp, s.nx + 2, s.gs⟩) : Call c 65 [a.ro] s K := by
  refine call_spec [] (hP ▸ s_l31CopyN a ha hb) (by simp) (by simp) (by simp) rfl fun r hp' nx' gs' h => ?_
  obtain ⟨rfl, rfl, rfl, rfl⟩ := h
  simpa [renA, renA.renL, renH, renB, idf, hdels, Assoc.av] using hK
theorem s_l92Assoc (code : List UInt8) (p : Int) (hp : 0 ≤ p ∧ p ≤ 970000) (hc : code.length ≤ 2000) : Spec Try.prog 61 1 [(0, rdB code p)] [.ptr 0 0 0] (NamedP (DrawP AssocIs code p 1510)) := by
  refine Spec.le (Q := fun r hp _ _ => ∃ (a : Assoc) (p' : Int), AW a ∧ (r = a.ro ∨ ∃ b b1, b ≠ b1 ∧ b ≠ 0 ∧ b1 ≠ 0 ∧ r = a.av (.sl b 0 a.a.sent.length) (.sl b1 0 a.b.sent.length) ∧ hget hp b = some (.row 7 (a.a.sent.map Data.row)) ∧ hget hp b1 = some (.row 7 (a.b.sent.map Data.row))) ∧ hget hp 0 = some (rdB code p') ∧ p ≤ p' ∧ p' ≤ p + 1510) ?_ ?_
  · refine mr61 rfl fun c hP hm => ?_
    unfold pc61
    refine run_seq (run_wpc _ _ _ _ _ ?_)
    simp only [hm, go_sem, ↓reduceIte]
    refine run_seq (run_wpc _ _ _ _ _ ?_)
    simp only [hm, go_sem, ↓reduceIte]
    refine c_drawP (hP ▸ s_l92Monitor code p (by omega) hc) rfl rfl (fun r h => dataA_mon h) ?_
    rintro r p1 ⟨m, rfl, hw⟩ h1 h2
    unfold Mon.ro
    simp only [hm, go_sem, ↓reduceIte]
    obtain ⟨w1, w2, w3⟩ := hw
    refine run_wpc _ _ _ _ _ ?_
    simp only [hm, go_sem, ↓reduceIte]
    cases hl : m.list with
    | nil =>
      simp only [List.map_nil, List.length_nil, hm, go_sem, ↓reduceIte]
      refine c_pick hP (by rfl) (by omega) hc fun v1 hv1 => ?_
      simp only [hm, go_sem, ↓reduceIte]
      refine c_pick hP (by rfl) (by omega) hc fun v2 hv2 => ?_
      simp only [hm, go_sem, ↓reduceIte]
      exact ⟨⟨IntKind.i64.wrap (1 + v1), IntKind.i64.wrap (6 + v2), 0, false, noSide, noSide⟩, _, ⟨noSide_SW, noSide_SW⟩, .inr ⟨3, 4, by decide, by decide, by decide, rfl, rfl, rfl⟩, rfl, by omega, by omega⟩
    | cons a l =>
      have hax := w2 a (by rw [hl]; exact List.mem_cons_self ..)
      simp only [List.map_cons, List.length_cons, Assoc.row, Assoc.cellsX, List.getD_cons_zero, hm, go_sem, ↓reduceIte]
      repeat' first | refine And.intro ?_ ?_ | intro _
      all_goals first
        | omega
        | exact ⟨a, p1, hax, .inl rfl, rfl, by omega, by omega⟩
        | (exfalso; omega)
  · rintro r hp nx gs ⟨a, p', hw, h, hb, h1, h2⟩
    refine ⟨a.ro, [(0, rdB code p')], 1, [], ⟨_, ⟨⟨a, rfl, hw⟩, p', rfl, h1, h2⟩, rfl, rfl, rfl⟩, fun c hc => ?_⟩
    rcases h with rfl | ⟨b, b1, hne, hn0, hn1, rfl, k1, k2⟩
    · unfold Assoc.ro Assoc.av
      exact le_ev [] (by simp only [hc, go_sem, ↓reduceIte, hb])
    · refine Le.trans (t := ⟨[(0, a.av (.sl 1 0 a.a.sent.length) (.sl 2 0 a.b.sent.length))], [(0, rdB code p'), (1, .row 7 (a.a.sent.map Data.row)), (2, .row 7 (a.b.sent.map Data.row))], 3, []⟩) (le_ev [(1, b), (2, b1)] ?_) ?_
      · simp only [hc, go_sem, ↓reduceIte, Assoc.av, hb, k1, k2, List.mem_cons, List.not_mem_nil, or_false, not_false_eq_true, and_self]
        exact ⟨hn0, fun e => e.elim (fun e => hne e.symm) hn1⟩
      unfold Assoc.ro Assoc.av
      refine Le.trans (le_frz 1 rfl (by simp only [List.length_map, go_sem, ↓reduceIte]) (by simp only [go_sem, ↓reduceIte])) ?_
      simp only [take_map_len, List.drop_zero, go_sem, ↓reduceIte]
      refine Le.trans (le_frz 2 rfl (by simp only [List.length_map, go_sem, ↓reduceIte]) (by simp only [go_sem, ↓reduceIte])) ?_
      simp only [take_map_len, List.drop_zero, go_sem, ↓reduceIte]
      exact le_ev [] (by simp only [hc, go_sem, ↓reduceIte])
end Go.Cap

/- Contracts: a side is drawn. -/
namespace Go.Cap
open Go Go.Proofs
set_option maxRecDepth 100000
set_option linter.unusedSimpArgs false
set_option linter.unusedVariables false
attribute [local irreducible] Call Run Spec Le

def SideW (s : Side) : Prop := s.sent.length ≤ 12 ∧ ∀ d ∈ s.sent, d.text.length ≤ 200
def SideIs (r : AV) : Prop := ∃ s : Side, r = s.ro ∧ SideW s
theorem dataA_side {r : AV} (h : SideIs r) : dataA r = true := by obtain ⟨m, rfl, _⟩ := h; rfl
theorem SW.w {s : Side} (h : SW s) : SideW s := ⟨h.2.1, fun d hd => by have := dataB_text (h.2.2 d hd); omega⟩
theorem s_l92Side (code : List UInt8) (p : Int) (hp : 0 ≤ p ∧ p ≤ 960000) (hc : code.length ≤ 2000) : Spec Try.prog 37 1 [(0, rdB code p)] [.ptr 0 0 0] (NamedP (DrawP SideIs code p 1700)) := by
  refine Spec.le (Q := fun r hp _ _ => ∃ (s : Side) (p' : Int) (b : Nat), SideW s ∧ b ≠ 0 ∧ r = s.av (.sl b 0 s.sent.length) ∧ hget hp b = some (.row 7 (s.sent.map Data.row)) ∧ hget hp 0 = some (rdB code p') ∧ p ≤ p' ∧ p' ≤ p + 1700) ?_ ?_
  · refine mr37 rfl fun c hP hm => ?_
    unfold pc37
    refine run_seq (run_wpc _ _ _ _ _ ?_)
    simp only [hm, go_sem, ↓reduceIte]
    refine run_seq (run_wpc _ _ _ _ _ ?_)
    simp only [hm, go_sem, ↓reduceIte]
    refine c_drawP (hP ▸ s_l92Assoc code p (by omega) hc) rfl rfl (fun r h => dataA_assoc h) ?_
    rintro r p1 ⟨a, rfl, hw⟩ h1 h2
    unfold Assoc.ro Assoc.av
    simp only [hm, go_sem, ↓reduceIte]
    refine run_join (fun t => ∃ (a : Assoc) (q : Int), AW a ∧ p ≤ q ∧ q ≤ p + 1620 ∧ t = ⟨[(0, .ptr 0 0 0), (2, .ptr 1 0 0), (3, .ptr 2 0 0)], [(2, .var a.cellsA), (0, rdB code q), (1, .var [.i 0, .i 0, .i 0, .r .nil, .i 0])], 3, []⟩) (run_wpc _ _ _ _ _ ?_) ?_
    · simp only [hm, go_sem, ↓reduceIte]
      refine c_pick hP (by rfl) (by omega) hc fun v1 hv1 => ?_
      simp only [hm, go_sem, ↓reduceIte]
      refine ⟨fun _ => ?_, fun _ => ?_⟩
      · refine c_drawT (hP ▸ s_l92Talk code (p1 + 1) (by omega) hc) rfl fun t p2 g1 g2 g3 g4 => ?_
        simp only [Talk.av, hm, go_sem, ↓reduceIte]
        refine call_frz 3 rfl rfl (by simp only [List.length_map, go_sem, ↓reduceIte]) ?_
        simp only [take_map_len, List.drop_zero, hm, go_sem, ↓reduceIte]
        refine call_dataP (hP ▸ s_specTalkRecordsP t 0 (by omega) (by omega) (fun s hs => by have := g4 s hs; omega)) rfl rfl ?_
        obtain ⟨k1, k2⟩ := talkRecs_text t 0
        generalize talkRecs t 0 = l at k1 k2
        simp only [hm, go_sem, ↓reduceIte]
        refine call_plain (hP ▸ s_specMonitorRunW l (fun x hx => by have := k2 x hx; omega) (by omega)) rfl ?_
        rintro r ⟨m, rfl, hmw⟩
        refine ⟨rfl, ?_⟩
        unfold Mon.ro
        obtain ⟨w1, w2, w3⟩ := hmw
        cases hl : m.list with
        | nil =>
          simp only [List.map_nil, List.length_nil, hm, go_sem, ↓reduceIte]
          refine ⟨_, ⟨a, p2, hw, by omega, by omega, rfl⟩, ?_⟩
          unfold Assoc.cellsA
          (refine le_ev [] ?_; simp only [hm, go_sem, ↓reduceIte]; first | done | rfl | exact ⟨rfl, rfl⟩)
        | cons a2 l2 =>
          have hax := w2 a2 (by rw [hl]; exact List.mem_cons_self ..)
          simp only [List.map_cons, List.length_cons, Assoc.row, Assoc.cellsX, List.getD_cons_zero, hm, go_sem, ↓reduceIte]
          repeat' first | refine And.intro ?_ ?_ | intro _
          all_goals first
            | omega
            | (refine ⟨_, ⟨a2, p2, hax, by omega, by omega, rfl⟩, ?_⟩
               unfold Assoc.cellsA
               (refine le_ev [] ?_; simp only [hm, go_sem, ↓reduceIte]; first | done | rfl | exact ⟨rfl, rfl⟩))
            | (exfalso; omega)
      · refine ⟨_, ⟨a, p1 + 1, hw, by omega, by omega, rfl⟩, ?_⟩
        unfold Assoc.cellsA
        (refine le_ev [] ?_; simp only [hm, go_sem, ↓reduceIte]; first | done | rfl | exact ⟨rfl, rfl⟩)
    rintro t ⟨a, q, hw, q1, q2, rfl⟩
    have hla := hw.1.2.1
    have hlb := hw.2.2.1
    unfold Assoc.cellsA
    refine run_seq (run_wpc _ _ _ _ _ ?_)
    simp only [hm, go_sem, ↓reduceIte]
    refine c_l31CopyN hP (a := a) (by omega) (by omega) ?_
    unfold Assoc.av
    simp only [hm, go_sem, ↓reduceIte]
    refine run_join (fun t => ∃ (s : Side) (q2 : Int), SideW s ∧ q ≤ q2 ∧ q2 ≤ q + 1 ∧ t = ⟨[(0, .ptr 0 0 0), (2, .ptr 1 0 0), (5, .ptr 2 0 0)], [(2, .var [.i s.tag, .i s.streams, .i s.first, .sl 3 0 s.sent.length, .i s.acked]), (3, .row 7 (s.sent.map Data.row)), (0, rdB code q2), (1, .var [.i 0, .i 0, .i 0, .r .nil, .i 0])], 4, []⟩) (run_wpc _ _ _ _ _ ?_) ?_
    · simp only [hm, go_sem, ↓reduceIte]
      refine c_pick hP (by rfl) (by omega) hc fun v1 hv1 => ?_
      simp only [hm, go_sem, ↓reduceIte]
      have hcp := fun (s : St) (K : AV → St → Prop) h => @c_l31CopyN c hP a (by omega) (by omega) s K h
      unfold Assoc.ro Assoc.av at hcp
      repeat' first
        | refine And.intro ?_ ?_
        | intro _
        | (refine hcp _ _ ?_; simp only [hm, go_sem, ↓reduceIte])
      all_goals first
        | omega
        | (refine ⟨_, ⟨a.a, q + 1, hw.1.w, by omega, by omega, rfl⟩, ?_⟩; (refine le_ev [(2, 5), (3, 3)] ?_; simp only [hm, go_sem, ↓reduceIte]; first | done | rfl | exact ⟨rfl, rfl⟩))
        | (refine ⟨_, ⟨a.b, q + 1, hw.2.w, by omega, by omega, rfl⟩, ?_⟩; (refine le_ev [(2, 5), (3, 7)] ?_; simp only [hm, go_sem, ↓reduceIte]; first | done | rfl | exact ⟨rfl, rfl⟩))
    rintro t ⟨s, q2, ⟨s1, s2⟩, q3, q4, rfl⟩
    refine run_join (fun t => ∃ (s : Side) (q2 : Int), SideW s ∧ q ≤ q2 ∧ q2 ≤ q + 60 ∧ t = ⟨[(2, .ptr 1 0 0), (5, .ptr 2 0 0)], [(2, .var [.i s.tag, .i s.streams, .i s.first, .sl 3 0 s.sent.length, .i s.acked]), (3, .row 7 (s.sent.map Data.row)), (0, rdB code q2), (1, .var [.i 0, .i 0, .i 0, .r .nil, .i 0])], 4, []⟩) (run_wpc _ _ _ _ _ ?_) ?_
    · simp only [hm, go_sem, ↓reduceIte]
      refine c_pick hP (by rfl) (by omega) hc fun v1 hv1 => ?_
      simp only [hm, go_sem, ↓reduceIte]
      have fin : ∀ (s : Side) (q3 : Int), SideW s → q ≤ q3 → q3 ≤ q + 60 → ∀ st, Le c st ⟨[(2, .ptr 1 0 0), (5, .ptr 2 0 0)], [(2, .var [.i s.tag, .i s.streams, .i s.first, .sl 3 0 s.sent.length, .i s.acked]), (3, .row 7 (s.sent.map Data.row)), (0, rdB code q3), (1, .var [.i 0, .i 0, .i 0, .r .nil, .i 0])], 4, []⟩ →
        ∃ t, (∃ (s : Side) (q2 : Int), SideW s ∧ q ≤ q2 ∧ q2 ≤ q + 60 ∧ t = ⟨[(2, .ptr 1 0 0), (5, .ptr 2 0 0)], [(2, .var [.i s.tag, .i s.streams, .i s.first, .sl 3 0 s.sent.length, .i s.acked]), (3, .row 7 (s.sent.map Data.row)), (0, rdB code q2), (1, .var [.i 0, .i 0, .i 0, .r .nil, .i 0])], 4, []⟩) ∧ Le c st t := fun s q3 a1 a2 a3 st h => ⟨_, ⟨s, q3, a1, a2, a3, rfl⟩, h⟩
      refine ⟨fun _ => ?_, fun _ => ⟨fun _ => ?_, fun _ => ⟨fun _ => ?_, fun _ => ⟨fun _ => ?_, fun _ => ⟨fun _ => ?_, fun _ => ?_⟩⟩⟩⟩⟩
      · refine c_pick hP (by rfl) (by omega) hc fun v hv => ?_
        simp only [hm, go_sem, ↓reduceIte]
        exact fin ⟨v, s.streams, s.first, s.sent, s.acked⟩ (q2 + 1 + 1) ⟨s1, s2⟩ (by omega) (by omega) _ (by (refine le_ev [] ?_; simp only [hm, go_sem, ↓reduceIte]; first | done | rfl | exact ⟨rfl, rfl⟩))
      · refine c_pick hP (by rfl) (by omega) hc fun v hv => ?_
        simp only [hm, go_sem, ↓reduceIte]
        exact fin ⟨s.tag, s.streams, s.first, s.sent, IntKind.i64.wrap (v - 1)⟩ (q2 + 1 + 1) ⟨s1, s2⟩ (by omega) (by omega) _ (by (refine le_ev [] ?_; simp only [hm, go_sem, ↓reduceIte]; first | done | rfl | exact ⟨rfl, rfl⟩))
      · refine c_draw (hP ▸ s_l91Word code (q2 + 1) (by omega) hc) rfl fun v q5 g1 g2 g3 g4 => ?_
        simp only [hm, go_sem, ↓reduceIte]
        exact fin ⟨s.tag, s.streams, v, s.sent, s.acked⟩ q5 ⟨s1, s2⟩ (by omega) (by omega) _ (by (refine le_ev [] ?_; simp only [hm, go_sem, ↓reduceIte]; first | done | rfl | exact ⟨rfl, rfl⟩))
      · refine c_pick hP (by rfl) (by omega) hc fun v hv => ?_
        simp only [hm, go_sem, ↓reduceIte]
        exact fin ⟨s.tag, IntKind.i64.wrap (v - 1), s.first, s.sent, s.acked⟩ (q2 + 1 + 1) ⟨s1, s2⟩ (by omega) (by omega) _ (by (refine le_ev [] ?_; simp only [hm, go_sem, ↓reduceIte]; first | done | rfl | exact ⟨rfl, rfl⟩))
      · intro _
        refine ⟨fun _ => ?_, fun _ => ?_⟩
        · intro _
          refine c_pick hP (by rfl) (by omega) hc fun v hv => ?_
          have hv' : 0 ≤ v ∧ v < s.sent.length := by unfold Below at hv; omega
          have hvn : v.toNat < s.sent.length := by omega
          simp only [hm, go_sem, ↓reduceIte]
          refine c_drawD (hP ▸ s_l91Part code (q2 + 1 + 1) (by omega) hc) rfl fun d q5 g1 g2 g3 => ?_
          simp only [Data.av, hm, go_sem, ↓reduceIte]
          have hset : (s.sent.map Data.row).set v.toNat [.n .i64 d.tsn, .n .i64 d.stream, .n .i64 d.ssn, .b d.first, .b d.last, .b d.loose, .s d.text] = (s.sent.set v.toNat d).map Data.row := by
            rw [List.map_set]; rfl
          rw [hset]
          repeat' first | refine And.intro ?_ ?_ | intro _
          all_goals first
            | omega
            | skip
          refine fin ⟨s.tag, s.streams, s.first, s.sent.set v.toNat d, s.acked⟩ q5 ⟨by rw [List.length_set]; exact s1, fun x hx => ?_⟩ (by omega) (by omega) _ (by simp only [List.length_set]; (refine le_ev [] ?_; simp only [hm, go_sem, ↓reduceIte]; first | done | rfl | exact ⟨rfl, rfl⟩))
          rcases List.mem_or_eq_of_mem_set hx with hx | rfl
          · exact s2 x hx
          · exact g3
        · exact fin s (q2 + 1) ⟨s1, s2⟩ (by omega) (by omega) _ (by (refine le_ev [] ?_; simp only [hm, go_sem, ↓reduceIte]; first | done | rfl | exact ⟨rfl, rfl⟩))
      · exact fin s (q2 + 1) ⟨s1, s2⟩ (by omega) (by omega) _ (by (refine le_ev [] ?_; simp only [hm, go_sem, ↓reduceIte]; first | done | rfl | exact ⟨rfl, rfl⟩))
    rintro t ⟨s, q2, hs, q3, q4, rfl⟩
    refine run_wpc _ _ _ _ _ ?_
    simp only [hm, go_sem, ↓reduceIte]
    exact ⟨s, q2, 3, hs, by decide, rfl, rfl, rfl, by omega, by omega⟩
  · rintro r hp nx gs ⟨s, p', b, hw, hne, rfl, k1, hb, h1, h2⟩
    refine ⟨s.ro, [(0, rdB code p')], 1, [], ⟨_, ⟨⟨s, rfl, hw⟩, p', rfl, h1, h2⟩, rfl, rfl, rfl⟩, fun c hc => ?_⟩
    refine Le.trans (t := ⟨[(0, s.av (.sl 1 0 s.sent.length))], [(0, rdB code p'), (1, .row 7 (s.sent.map Data.row))], 2, []⟩) (le_ev [(1, b)] ?_) ?_
    · simp only [hc, go_sem, ↓reduceIte, Side.av, hb, k1, List.mem_cons, List.not_mem_nil, or_false, not_false_eq_true, and_self]
      exact hne
    unfold Side.ro Side.av
    refine Le.trans (le_frz 1 rfl (by simp only [List.length_map, go_sem, ↓reduceIte]) (by simp only [go_sem, ↓reduceIte])) ?_
    simp only [take_map_len, List.drop_zero, go_sem, ↓reduceIte]
    exact le_ev [] (by simp only [hc, go_sem, ↓reduceIte])
end Go.Cap

/- Contracts: associations and monitors that are sometimes invalid are drawn. -/
namespace Go.Cap
open Go Go.Proofs
set_option maxRecDepth 100000
set_option linter.unusedSimpArgs false
set_option linter.unusedVariables false
attribute [local irreducible] Call Run Spec Le

def AssocW (a : Assoc) : Prop := SideW a.a ∧ SideW a.b
def AssocIsW (r : AV) : Prop := ∃ a : Assoc, r = a.ro ∧ AssocW a
theorem dataA_assocW {r : AV} (h : AssocIsW r) : dataA r = true := by obtain ⟨m, rfl, _⟩ := h; rfl
theorem AW.w {a : Assoc} (h : AW a) : AssocW a := ⟨h.1.w, h.2.w⟩
theorem s_l92Wrong (code : List UInt8) (p : Int) (hp : 0 ≤ p ∧ p ≤ 950000) (hc : code.length ≤ 2000) : Spec Try.prog 47 1 [(0, rdB code p)] [.ptr 0 0 0] (NamedP (DrawP AssocIsW code p 3300)) := by
  refine Spec.le (Q := fun r hp _ _ => ∃ (a : Assoc) (p' : Int), AssocW a ∧ r = a.ro ∧ hget hp 0 = some (rdB code p') ∧ p ≤ p' ∧ p' ≤ p + 3300) ?_ ?_
  · refine mr47 rfl fun c hP hm => ?_
    unfold pc47
    refine run_seq (run_wpc _ _ _ _ _ ?_)
    simp only [hm, go_sem, ↓reduceIte]
    refine run_seq (run_wpc _ _ _ _ _ ?_)
    simp only [hm, go_sem, ↓reduceIte]
    refine c_drawP (hP ▸ s_l92Assoc code p (by omega) hc) rfl rfl (fun r h => dataA_assoc h) ?_
    rintro r p1 ⟨a, rfl, hw⟩ h1 h2
    have hla := hw.1.2.1
    have hlb := hw.2.2.1
    have hcp := s_l31Copy a (by omega) (by omega)
    have hww := hw.w
    unfold Assoc.ro Assoc.av at hcp ⊢
    simp only [hm, go_sem, ↓reduceIte]
    refine call_data (hP ▸ hcp) rfl rfl ?_
    simp only [hm, go_sem, ↓reduceIte]
    refine run_join (fun t => ∃ (a : Assoc) (q : Int), AssocW a ∧ p ≤ q ∧ q ≤ p + 3300 ∧ t = ⟨[(2, .ptr 1 0 0), (3, .ptr 2 0 0)], [(2, .var a.cellsA), (0, rdB code q), (1, .var [.i 0, .i 0, .i 0, .bo false, .i 0, .i 0, .i 0, .r .nil, .i 0, .i 0, .i 0, .i 0, .r .nil, .i 0])], 3, []⟩) (run_wpc _ _ _ _ _ ?_) ?_
    · simp only [hm, go_sem, ↓reduceIte]
      refine c_pick hP (by rfl) (by omega) hc fun v1 hv1 => ?_
      simp only [hm, go_sem, ↓reduceIte]
      have fin : ∀ (a : Assoc) (q3 : Int), AssocW a → p ≤ q3 → q3 ≤ p + 3300 → ∀ st, Le c st ⟨[(2, .ptr 1 0 0), (3, .ptr 2 0 0)], [(2, .var a.cellsA), (0, rdB code q3), (1, .var [.i 0, .i 0, .i 0, .bo false, .i 0, .i 0, .i 0, .r .nil, .i 0, .i 0, .i 0, .i 0, .r .nil, .i 0])], 3, []⟩ →
        ∃ t, (∃ (a : Assoc) (q : Int), AssocW a ∧ p ≤ q ∧ q ≤ p + 3300 ∧ t = ⟨[(2, .ptr 1 0 0), (3, .ptr 2 0 0)], [(2, .var a.cellsA), (0, rdB code q), (1, .var [.i 0, .i 0, .i 0, .bo false, .i 0, .i 0, .i 0, .r .nil, .i 0, .i 0, .i 0, .i 0, .r .nil, .i 0])], 3, []⟩) ∧ Le c st t := fun a q3 a1 a2 a3 st h => ⟨_, ⟨a, q3, a1, a2, a3, rfl⟩, h⟩
      refine ⟨fun _ => ?_, fun _ => ⟨fun _ => ?_, fun _ => ⟨fun _ => ?_, fun _ => ⟨fun _ => ?_, fun _ => ⟨fun _ => ?_, fun _ => ?_⟩⟩⟩⟩⟩
      · refine c_pick hP (by rfl) (by omega) hc fun v hv => ?_
        simp only [hm, go_sem, ↓reduceIte]
        exact fin { a with state := IntKind.i64.wrap (v - 1) } (p1 + 1 + 1) hww (by omega) (by omega) _ (by unfold Assoc.cellsA; (refine le_ev [] ?_; simp only [hm, go_sem, ↓reduceIte]; first | done | rfl | exact ⟨rfl, rfl⟩))
      · refine c_drawP (hP ▸ s_l92Side code (p1 + 1) (by omega) hc) rfl rfl (fun r h => dataA_side h) ?_
        rintro r p2 ⟨s, rfl, hs⟩ g1 g2
        unfold Side.ro Side.av
        simp only [hm, go_sem, ↓reduceIte]
        exact fin { a with a := s } p2 ⟨hs, hww.2⟩ (by omega) (by omega) _ (by unfold Assoc.cellsA; (refine le_ev [] ?_; simp only [hm, go_sem, ↓reduceIte]; first | done | rfl | exact ⟨rfl, rfl⟩))
      · refine c_drawP (hP ▸ s_l92Side code (p1 + 1) (by omega) hc) rfl rfl (fun r h => dataA_side h) ?_
        rintro r p2 ⟨s, rfl, hs⟩ g1 g2
        unfold Side.ro Side.av
        simp only [hm, go_sem, ↓reduceIte]
        exact fin { a with b := s } p2 ⟨hww.1, hs⟩ (by omega) (by omega) _ (by unfold Assoc.cellsA; (refine le_ev [] ?_; simp only [hm, go_sem, ↓reduceIte]; first | done | rfl | exact ⟨rfl, rfl⟩))
      · exact fin { a with byB := !a.byB } (p1 + 1) hww (by omega) (by omega) _ (by unfold Assoc.cellsA; (refine le_ev [] ?_; simp only [hm, go_sem, ↓reduceIte]; first | done | rfl | exact ⟨rfl, rfl⟩))
      · refine c_draw (hP ▸ s_l91Word code (p1 + 1) (by omega) hc) rfl fun v q5 g1 g2 g3 g4 => ?_
        simp only [hm, go_sem, ↓reduceIte]
        exact fin { a with fr := v } q5 hww (by omega) (by omega) _ (by unfold Assoc.cellsA; (refine le_ev [] ?_; simp only [hm, go_sem, ↓reduceIte]; first | done | rfl | exact ⟨rfl, rfl⟩))
      · exact fin a (p1 + 1) hww (by omega) (by omega) _ (by unfold Assoc.cellsA; (refine le_ev [] ?_; simp only [hm, go_sem, ↓reduceIte]; first | done | rfl | exact ⟨rfl, rfl⟩))
    rintro t ⟨a, q2, hs, q3, q4, rfl⟩
    unfold Assoc.cellsA
    refine run_wpc _ _ _ _ _ ?_
    simp only [hm, go_sem, ↓reduceIte]
    exact ⟨a, q2, hs, rfl, rfl, by omega, by omega⟩
  · rintro r hp nx gs ⟨a, p', hw, rfl, hb, h1, h2⟩
    refine ⟨a.ro, [(0, rdB code p')], 1, [], ⟨_, ⟨⟨a, rfl, hw⟩, p', rfl, h1, h2⟩, rfl, rfl, rfl⟩, fun c hc => ?_⟩
    unfold Assoc.ro Assoc.av
    exact le_ev [] (by simp only [hc, go_sem, ↓reduceIte, hb])
def MonW (m : Mon) : Prop := m.list.length ≤ 6 ∧ (∀ a ∈ m.list, AssocW a) ∧ m.found.length ≤ 3000
end Go.Cap

/- Contracts: what the laws on associations and monitors draw. -/
namespace Go.Cap
open Go Go.Proofs
set_option maxRecDepth 100000
set_option linter.unusedSimpArgs false
set_option linter.unusedVariables false
attribute [local irreducible] Call Run Spec Le

theorem s_DrawAssocValid (code : List UInt8) : Spec Try.prog 19 0 [] [.r (.ro none (code.map byteRow))] (Plain AssocIsW) := by
  refine Spec.le (Q := fun r hp _ _ => AssocIsW r) ?_ ?_
  · refine mk19 rfl fun c hP hm => ?_
    unfold pc19
    simp only [hm, go_sem, ↓reduceIte]
    refine call_newV (hP ▸ s_l6Open code) rfl rfl ?_
    simp only [hm, go_sem, ↓reduceIte]
    have hc : (code.take 2000).length ≤ 2000 := by simp; omega
    generalize code.take 2000 = code at hc
    refine c_drawP (hP ▸ s_l92Wrong code 0 (by omega) hc) rfl rfl (fun r h => dataA_assocW h) ?_
    rintro r p1 ⟨s, rfl, hw⟩ h1 h2
    unfold Assoc.ro Assoc.av
    simp only [hm, go_sem, ↓reduceIte]
    exact ⟨s, rfl, hw⟩
  · rintro r hp nx gs ⟨s, rfl, hw⟩
    exact ⟨s.ro, [], 0, [], ⟨⟨s, rfl, hw⟩, rfl, rfl, rfl⟩, fun c hc => le_data hc rfl⟩
end Go.Cap

/- Plain facts of monitors and of what is found in them. -/
namespace Go.Cap
open Go Go.Proofs
set_option maxRecDepth 100000
set_option linter.unusedSimpArgs false
set_option linter.unusedVariables false

theorem SideW.fit {s : Side} (h : SideW s) : SFit s := ⟨by have := h.1; omega, fun d hd => by have := h.2 d hd; omega⟩
theorem MonW.fit {m : Mon} (h : MonW m) : MFit m := ⟨by have := h.1; omega, by have := h.2.2; omega, fun a ha => ⟨(h.2.1 a ha).1.fit, (h.2.1 a ha).2.fit⟩⟩
theorem side_tag {s : Side} (h : sideB s = true) : 0 ≤ s.tag := by
  unfold sideB at h
  split at h
  · omega
  · simp only [headB, Bool.and_eq_true, decide_eq_true_eq] at h
    omega
end Go.Cap

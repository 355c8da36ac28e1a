/- Contracts of functions, text D. -/
import Derived.Test.YtggbmeiomhbmpaaGreatLawC
import Derived.Test.YtggbmeiomhbmpaaGreatPc
open Go Go.Proofs
set_option maxRecDepth 100000
set_option linter.unusedSimpArgs false
set_option linter.unusedVariables false
namespace Go.Cap
attribute [local irreducible] Call Run Spec Le
theorem c_l32BeginX {c : Cx} (hP : c.P = Tryz.prog) {m : Mon} {p : Packet} {n : Nat} (hn : n ≤ 100000) (hw : MW n m) (hr : 0 ≤ m.records ∧ m.records ≤ 61) (hp : packB p = true) {s : St} {K : AV → St → Prop} (b0 b1 : Nat) (hne : b0 ≠ b1)
    (h0 : hget s.hp b0 = some (.row 14 (m.list.map Assoc.row))) (h1 : hget s.hp b1 = some (.row 2 (m.found.map Fnd.row)))
    (hK : K (beginMon m p).ro ⟨s.sl, hdel (hdel s.hp b0) b1, s.nx, s.gs⟩) : Call c 49 [.agg [.i m.records, .sl b0 0 m.list.length, .sl b1 0 m.found.length], p.ro] s K := by
  refine call_spec [b0, b1] (hP ▸ s_l32BeginX m p n hn hw hr hp) (by simpa using hne) ?_ ?_ rfl fun r hp' nx' gs' h => ?_
  · intro q hq
    simp only [List.mem_cons, List.mem_singleton, List.not_mem_nil, or_false] at hq
    rcases hq with rfl | rfl
    · exact ⟨by simp, by rw [show idf [b0, b1] s.nx 0 = b0 from rfl, h0]; rfl⟩
    · exact ⟨by simp, by rw [show idf [b0, b1] s.nx 1 = b1 from rfl, h1]; rfl⟩
  · intro j hj
    have : j = 0 ∨ j = 1 := by simp at hj; omega
    rcases this with rfl | rfl
    · exact ⟨_, List.mem_cons_self ..⟩
    · exact ⟨_, List.mem_cons_of_mem _ (List.mem_cons_self ..)⟩
  · obtain ⟨rfl, rfl, rfl, rfl⟩ := h
    have := hK
    simpa [renA, renA.renL, renH, renB, idf, hdels, Mon.ro] using this
theorem s_l32StepX (m : Mon) (text : List UInt8) (n : Nat) (hn : n ≤ 90000) (hw : MW n m) (hr : 0 ≤ m.records ∧ m.records ≤ 60) (ht : text.length ≤ 2000000) :
    Spec Tryz.prog 20 0 [] [m.ro, .st text] (Plain fun r => r = (stepMon m text).ro) := by
  obtain ⟨m1, m2, m3⟩ := hw
  refine Spec.le (Q := fun r hp _ _ => ∃ m' : Mon, m' = stepMon m text ∧ (r = m'.ro ∨ (∃ b2, r = .agg [.i m'.records, .r (.ro none (m'.list.map Assoc.row)), .sl b2 0 m'.found.length] ∧ hget hp b2 = some (.row 2 (m'.found.map Fnd.row))))) ?_ ?_
  · refine mr20 rfl fun c hP hm => ?_
    unfold pc20
    have hwr : IntKind.i64.wrap (m.records + 1) = m.records + 1 := wrap64 (by omega) (by omega)
    have hcp := fun (s : St) (K : AV → St → Prop) h => @c_l32Copy c hP m (by omega) (by omega) m2 s K h
    unfold Mon.ro at hcp ⊢
    refine run_seq (run_wpc _ _ _ _ _ ?_)
    simp only [hm,go_sem,↓reduceIte]
    refine run_seq (run_wpc _ _ _ _ _ ?_)
    simp only [hm,go_sem,↓reduceIte]
    refine hcp _ _ ?_
    simp only [hm,go_sem,↓reduceIte]
    refine run_seq (run_wpc _ _ _ _ _ ?_)
    simp only [hwr, hm,go_sem,↓reduceIte]
    refine run_seq (run_wpc _ _ _ _ _ ?_)
    simp only [hm,go_sem,↓reduceIte]
    have hpg := s_specPacketGet text ht
    obtain ⟨pg1, pg2, hp⟩ := packGet_ok text
    obtain ⟨R, hR⟩ : ∃ R, stepMon m text = R := ⟨_, rfl⟩
    rw [hR]
    unfold stepMon at hR
    generalize packGet text = pk at hpg pg1 pg2 hp hR
    obtain ⟨p, code⟩ := pk
    simp only at hpg pg1 pg2 hp hR
    unfold Packet.ro at hpg
    refine call_dataP (hP ▸ hpg) rfl rfl ?_
    simp only [hm,go_sem,↓reduceIte]
    have hwc : IntKind.i64.wrap (IntKind.i64.wrap (101 + code) - 1) = 100 + code := by rw [wrap64 (x := 101 + code) (by omega) (by omega), wrap64 (by omega) (by omega)]; omega
    refine run_seq (run_wpc _ _ _ _ _ ?_)
    simp only [hwc, hm,go_sem,↓reduceIte]
    refine ⟨fun hc0 => ?_, fun hc0 => ?_⟩
    · refine call_frz 2 rfl rfl (by simp only [List.length_map,go_sem,↓reduceIte]) ?_
      simp only [take_map_len, List.drop_zero, hm,go_sem,↓reduceIte]
      refine c_l32Note hP (by omega) (by omega) 3 rfl ?_
      simp only [hm,go_sem,↓reduceIte]
      exact ⟨⟨m.records + 1, m.list, m.found ++ [⟨m.records + 1 - 1, 100 + code⟩]⟩, by rw [← hR, if_pos hc0]; rfl, .inr ⟨6, by simp, rfl⟩⟩
    have hpk := hp hc0
    rw [if_neg (fun h => h hc0)] at hR
    have hpb := hpk
    simp only [packB, Bool.and_eq_true, decide_eq_true_eq, List.all_eq_true, chunkB] at hpb
    have hcl : p.chunks.length ≤ 4 ∧ 1 ≤ p.chunks.length := by omega
    have hk0 := (hpb.2 _ (List.getElem_mem (l := p.chunks) (n := 0) (by omega))).2
    have hg0 : (p.chunks.map Chunk.row).getD 0 [] = (p.chunks[0]'(by omega)).row := getD_map (f := Chunk.row) (i := 0) (by omega)
    have hkd : kind0 p = (p.chunks[0]'(by omega)).kind := by unfold kind0; simp [List.getD_eq_getElem?_getD, show 0 < p.chunks.length by omega]
    have hc1 : p.chunks.getD 0 default = p.chunks[0]'(by omega) := by simp [List.getD_eq_getElem?_getD, show 0 < p.chunks.length by omega]
    have hag : ∀ a : Assoc, againB a p = true ↔ (a.state = 7 ∧ (p.chunks[0]'(by omega)).kind = 1 ∧ aloneB p = true ∧ p.tag = 0 ∧ (initGet (p.chunks[0]'(by omega))).isSome = true) := fun a => by
      unfold againB
      rw [hkd, hc1]
      simp only [Bool.and_eq_true, decide_eq_true_eq]
      constructor
      · rintro ⟨⟨⟨⟨a1, a2⟩, a3⟩, a4⟩, a5⟩; exact ⟨a1, a2, a3, a4, a5⟩
      · rintro ⟨a1, a2, a3, a4, a5⟩; exact ⟨⟨⟨⟨a1, a2⟩, a3⟩, a4⟩, a5⟩
    generalize p.chunks[0]'(by omega) = k0 at hg0 hk0 hag
    have hgi := s_specInitGet k0 (by omega)
    have hal := s_specPacketAlone p (by omega)
    have hf := s_l32Find ⟨m.records + 1, m.list, m.found⟩ p.fr p.to (by simp only; omega)
    unfold Mon.ro at hf
    simp only at hf
    unfold Packet.ro at hal
    unfold Chunk.av at hgi
    have hfx : ixOr (findIx p.fr p.to m.list) = -1 ∨ (0 ≤ ixOr (findIx p.fr p.to m.list) ∧ ixOr (findIx p.fr p.to m.list) < m.list.length) := by
      cases h : findIx p.fr p.to m.list with
      | none => exact .inl rfl
      | some k => have := (findIx_lt h).1; right; simp only [ixOr]; omega
    obtain ⟨fi, hfi⟩ : ∃ fi, findIx p.fr p.to m.list = fi := ⟨_, rfl⟩
    have hfl : ∀ k, fi = some k → k < m.list.length := fun k h => (findIx_lt (hfi.trans h)).1
    rw [hfi] at hf hfx hR
    clear hfi
    refine run_seq (run_wpc _ _ _ _ _ ?_)
    simp only [hm,go_sem,↓reduceIte]
    refine call_flat (hP ▸ hf) rfl (.cons (vw_agg (.cons (vw_self _ _ rfl) (.cons (Vw.full rfl (by simp)) (.cons (Vw.full rfl (by simp)) .nil)))) (.cons (.r _) (.cons (.r _) .nil))) ?_
    simp only [hm,go_sem,↓reduceIte]
    refine run_join (fun t => ∃ (L : List Assoc) (o : Option Nat), L.length ≤ 3 ∧ (∀ a ∈ L, AW a) ∧ ((o = none ∧ R = beginMon ⟨m.records + 1, L, m.found⟩ p) ∨ ∃ k, o = some k ∧ k < L.length ∧ R = note ⟨m.records + 1, L.set k (assocStep (assocAt L k) p).1, m.found⟩ (assocStep (assocAt L k) p).2) ∧ t = ⟨[(4, .ptr 1 0 0), (5, .ptr 4 0 0), (6, .ptr 5 0 0), (8, .i (ixOr o))], [(1, .var [.i 0, .r .nil, .r .nil]), (4, .var [.i (m.records + 1), .sl 2 0 L.length, .sl 3 0 m.found.length]), (5, .var [.i p.fr, .i p.to, .i p.tag, .r (.ro none (p.chunks.map Chunk.row))]), (2, .row 14 (L.map Assoc.row)), (3, .row 2 (m.found.map Fnd.row))], 6, []⟩) (run_wpc _ _ _ _ _ ?_) ?_
    · have hrw14 : ∀ l : List Assoc, rowsN 14 (l.map Assoc.row) := fun l r hr => by obtain ⟨d, _, rfl⟩ := List.mem_map.1 hr; rfl
      cases fi with
      | none =>
        simp only at hR
        rw [show ixOr none = -1 from rfl]
        simp only [hm,go_sem,↓reduceIte]
        repeat' first | refine And.intro ?_ ?_ | intro _
        all_goals first
          | omega
          | (refine ⟨_, ⟨m.list, none, by omega, m2, .inl ⟨rfl, hR.symm⟩, rfl⟩, ?_⟩; rw [show ixOr none = -1 from rfl]; (refine le_ev [] ?_; simp only [hm,go_sem,↓reduceIte]; first | done | rfl | exact ⟨rfl, rfl⟩))
      | some kn =>
        simp only at hR
        have hil := hfl kn rfl
        have hk : 0 ≤ (kn : Int) ∧ (kn : Int) < m.list.length := ⟨by omega, by omega⟩
        rw [show ixOr (some kn) = (kn : Int) from rfl]
        have hga := getD_map (f := Assoc.row) hil
        have hat := assocAt_eq hil
        have hagk := hag (assocAt m.list kn)
        rw [hat] at hagk
        generalize hma : m.list[kn] = a at hga hat hagk
        have hwk : IntKind.i64.wrap ((kn : Int) + 1) = (kn : Int) + 1 := wrap64 (by omega) (by omega)
        have hkt : ((kn : Int)).toNat = kn := by omega
        have hA : List.take (kn - 0) (m.list.map Assoc.row) = (m.list.take kn).map Assoc.row := by rw [Nat.sub_zero, List.map_take]
        have hB : List.take ((m.list.length : Int).toNat - ((kn : Int) + 1).toNat) (List.drop ((kn : Int) + 1).toNat (m.list.map Assoc.row)) = (m.list.drop (kn + 1)).map Assoc.row := by
          have e : ((kn : Int) + 1).toNat = kn + 1 := by omega
          rw [e, List.map_drop, List.take_of_length_le]
          simp only [List.length_drop, List.length_map]; omega
        have hno : (¬ (a.state = 7 ∧ k0.kind = 1 ∧ aloneB p = true ∧ p.tag = 0 ∧ (initGet k0).isSome = true)) → ((some kn = none ∧ R = beginMon ⟨m.records + 1, m.list, m.found⟩ p) ∨ ∃ k, some kn = some k ∧ k < m.list.length ∧ R = note ⟨m.records + 1, m.list.set k (assocStep (assocAt m.list k) p).1, m.found⟩ (assocStep (assocAt m.list k) p).2) := fun h => .inr ⟨kn, rfl, hil, by rw [← hR, if_neg (fun h' => h (hagk.1 (by rw [← hat]; exact h')))]⟩
        have hyes : a.state = 7 ∧ k0.kind = 1 ∧ aloneB p = true ∧ p.tag = 0 ∧ (initGet k0).isSome = true → R = beginMon ⟨m.records + 1, m.list.take kn ++ m.list.drop (kn + 1), m.found⟩ p := fun h => by
          rw [← hR, if_pos (by rw [hat]; exact hagk.2 h)]
          rfl
        simp only [hga, hg0, hwk, hkt, Assoc.row, Assoc.cellsX, Chunk.row, hm,go_sem,↓reduceIte]
        repeat' first
          | refine And.intro ?_ ?_
          | intro _
          | (refine call_pure (hP ▸ hal) rfl rfl ?_; simp only [hA, hB, hkt, take_map_len, List.length_map, hga, hg0, hwk, Assoc.cellsX, Chunk.row, hm,go_sem,↓reduceIte])
          | (refine call_data (hP ▸ hgi) rfl rfl ?_; simp only [Init.av, hA, hB, hkt, take_map_len, List.length_map, hga, hg0, hwk, Chunk.row, hm,go_sem,↓reduceIte])
        all_goals first
          | omega
          | (refine ⟨_, ⟨m.list, some kn, by omega, m2, hno ?_, rfl⟩, ?_⟩
             · rintro ⟨g1, g2, g3, g4, g5⟩; first | omega | (simp_all; done)
             · rw [show ixOr (some kn) = (kn : Int) from rfl]; (refine le_ev [] ?_; simp only [hm,go_sem,↓reduceIte]; first | done | rfl | exact ⟨rfl, rfl⟩))
          | (rename_i r hr; exact hrw14 _ r hr)
          | (simp only [List.length_map, List.length_take, List.length_drop]; omega)
          | (refine ⟨_, ⟨m.list.take kn ++ m.list.drop (kn + 1), none, by simp only [List.length_append, List.length_take, List.length_drop]; omega, fun a ha => ?_, .inl ⟨rfl, hyes ⟨by first | omega | assumption, by first | omega | assumption, by first | assumption | (simp_all; done), by first | omega | assumption, by first | assumption | (simp_all; done)⟩⟩, rfl⟩, ?_⟩
             · rcases List.mem_append.1 ha with ha | ha
               · exact m2 a (List.mem_of_mem_take ha)
               · exact m2 a (List.mem_of_mem_drop ha)
             · rw [show ixOr none = -1 from rfl]
               simp only [List.map_append, List.length_append]
               (refine le_ev [(2, 7)] ?_; simp only [hm,go_sem,↓reduceIte]; first | done | rfl | exact ⟨rfl, rfl⟩))
    rintro t ⟨L, o, l1, l2, l3, rfl⟩
    clear hal hgi hf hfx hR hfl hag
    rcases l3 with ⟨rfl, hR⟩ | ⟨k, rfl, hil, hR⟩
    · refine run_wpc _ _ _ _ _ ?_
      simp only [hm,go_sem,↓reduceIte]
      rw [show ixOr none = -1 from rfl]
      simp only [hm,go_sem,↓reduceIte]
      refine c_l32BeginX hP (m := ⟨m.records + 1, L, m.found⟩) (p := p) (n := n) (by omega) ⟨l1, l2, m3⟩ (by simp only; omega) hpk 2 3 (by decide) rfl rfl ?_
      rw [← hR]
      unfold Mon.ro
      simp only [hm,go_sem,↓reduceIte]
      exact ⟨R, rfl, .inl rfl⟩
    · rw [show ixOr (some k) = (k : Int) from rfl]
      have hk : 0 ≤ (k : Int) ∧ (k : Int) < L.length := ⟨by omega, by omega⟩
      have hkt : ((k : Int)).toNat = k := by omega
      rw [assocAt_eq hil] at hR
      have hga := getD_map (f := Assoc.row) hil
      have hax := l2 _ (List.getElem_mem hil)
      generalize L[k] = a at hga hax hR
      have has := s_specAssocStep a p ⟨by have := hax.1.2.1; omega, fun d hd => by have := dataB_text (hax.1.2.2 d hd); omega⟩ ⟨by have := hax.2.2.1; omega, fun d hd => by have := dataB_text (hax.2.2.2 d hd); omega⟩ (by omega)
      have hAWs := assocStep_AW a p
      have hlen := assocStep_le a p
      generalize assocStep a p = x at *
      obtain ⟨o, rules⟩ := x
      simp only at hAWs hlen has
      have hu : a.ro = .agg a.cellsA := rfl
      have hu2 : o.ro = .agg o.cellsA := rfl
      rw [hu, hu2] at has
      unfold Packet.ro Assoc.cellsA at has
      refine run_seq (run_wpc _ _ _ _ _ ?_)
      simp only [hm,go_sem,↓reduceIte]
      repeat' first | refine And.intro ?_ ?_ | intro _
      all_goals first
        | omega
        | skip
      refine run_join (fun t => t = ⟨[(4, .ptr 1 0 0), (5, .ptr 4 0 0), (8, .i (k : Int)), (11, .ptr 6 0 0), (12, .r (.ro none (rules.map intRow)))], [(1, .var [.i 0, .r .nil, .r .nil]), (4, .var [.i (m.records + 1), .sl 2 0 L.length, .sl 3 0 m.found.length]), (2, .row 14 (L.map Assoc.row)), (3, .row 2 (m.found.map Fnd.row)), (6, .var o.cellsA)], 7, []⟩) (run_wpc _ _ _ _ _ ?_) ?_
      · simp only [hkt, hga, Assoc.row, Assoc.cellsX, hm,go_sem,↓reduceIte]
        repeat' first
          | refine And.intro ?_ ?_
          | intro _
          | (refine call_dataP (hP ▸ has) rfl rfl ?_; simp only [hkt, hga, Assoc.row, Assoc.cellsX, hm,go_sem,↓reduceIte])
        all_goals first
          | omega
          | (refine ⟨_, rfl, ?_⟩; unfold Assoc.cellsA; (refine le_ev [] ?_; simp only [hm,go_sem,↓reduceIte]; first | done | rfl | exact ⟨rfl, rfl⟩))
      rintro t rfl
      unfold Assoc.cellsA
      refine run_seq (run_wpc _ _ _ _ _ ?_)
      simp only [hm,go_sem,↓reduceIte]
      simp only [hkt]
      refine ⟨hk, hil, ?_⟩
      have hrow : (L.map Assoc.row).set k [RV.n IntKind.i64 o.fr, RV.n IntKind.i64 o.to, RV.n IntKind.i64 o.state, RV.b o.byB, RV.n IntKind.i64 o.a.tag, RV.n IntKind.i64 o.a.streams, RV.n IntKind.i64 o.a.first, RV.ro none (o.a.sent.map Data.row), RV.n IntKind.i64 o.a.acked, RV.n IntKind.i64 o.b.tag, RV.n IntKind.i64 o.b.streams, RV.n IntKind.i64 o.b.first, RV.ro none (o.b.sent.map Data.row), RV.n IntKind.i64 o.b.acked] = (L.set k o).map Assoc.row := by rw [List.map_set]; rfl
      rw [hrow]
      have hll : (L.set k o).length ≤ 3 := by rw [List.length_set]; exact l1
      have hL2 : ∀ a ∈ L.set k o, AW a := fun a ha => by
        rcases List.mem_or_eq_of_mem_set ha with ha | rfl
        · exact l2 a ha
        · exact hAWs
      have hlen2 : L.length = (L.set k o).length := by rw [List.length_set]
      rw [hlen2]
      generalize L.set k o = L2 at hll hL2 hR
      refine run_frz 2 rfl (by first | (simp only [hm, List.length_map,go_sem,↓reduceIte]; done) | (simp only [hm, List.length_map,go_sem,↓reduceIte]; omega)) (by first | (simp only [hm, List.length_map,go_sem,↓reduceIte]; done) | (simp only [hm, List.length_map,go_sem,↓reduceIte]; omega)) ?_; simp only [hm, take_map_len, List.drop_zero,go_sem,↓reduceIte]
      refine run_wpc _ _ _ _ _ ?_
      simp only [hm,go_sem,↓reduceIte]
      refine run_exit 0 (fun t0 => ∃ F : List Fnd, F = m.found ++ rules.map (fun c => (⟨m.records + 1 - 1, c⟩ : Fnd)) ∧ t0 = ⟨[(4, .ptr 1 0 0), (5, .ptr 4 0 0)], [(1, .var [.i 0, .r .nil, .r .nil]), (4, .var [.i (m.records + 1), .r (.ro none (L2.map Assoc.row)), .sl 7 0 F.length]), (7, .row 2 (F.map Fnd.row))], 8, []⟩) ?_ ?_
      · refine lp_wpc (α := Nat × List Fnd) (fun y => ⟨[(4, .ptr 1 0 0), (5, .ptr 4 0 0), (12, .r (.ro none (rules.map intRow))), (13, .i y.1)], [(1, .var [.i 0, .r .nil, .r .nil]), (4, .var [.i (m.records + 1), .r (.ro none (L2.map Assoc.row)), .sl 7 0 y.2.length]), (7, .row 2 (y.2.map Fnd.row))], 8, []⟩)
          (fun y => y.1 ≤ rules.length ∧ y.2 = m.found ++ (rules.take y.1).map (fun c => (⟨m.records + 1 - 1, c⟩ : Fnd))) (fun y => rules.length - y.1) (0, m.found) ⟨Nat.zero_le _, by simp⟩ (by (refine le_ev [(7, 3)] ?_; simp only [hm,go_sem,↓reduceIte]; first | done | rfl | exact ⟨rfl, rfl⟩)) ?_
        rintro ⟨i, F⟩ ⟨h1, h2⟩
        simp only at h1 h2
        have hFl : F.length ≤ n + 12 := by rw [h2, List.length_append, List.length_map, List.length_take]; omega
        unfold pc20l0
        rcases Nat.lt_or_ge i rules.length with hil | hil
        · have hw1 : IntKind.i64.wrap ((i : Int) + 1) = ((i + 1 : Nat) : Int) := by rw [wrap64 (by omega) (by omega)]; omega
          have hg := getD_map (f := intRow) hil
          simp only [hw1, Int.toNat_natCast, hg, intRow, hm,go_sem,↓reduceIte]
          repeat' first
            | refine And.intro ?_ ?_
            | intro _
            | (refine c_l32Note hP (by omega) (by omega) 7 rfl ?_; simp only [hw1, Int.toNat_natCast, hg, intRow, hm,go_sem,↓reduceIte])
          all_goals first
            | omega
            | (refine ⟨(i + 1, F ++ [⟨m.records + 1 - 1, rules[i]⟩]), ⟨hil, by rw [take_get hil, List.map_append, ← List.append_assoc, ← h2]; rfl⟩, by simp only; omega, ?_⟩
               simp only [List.length_append, List.length_cons, List.length_nil]
               (refine le_ev [(7, 8)] ?_; simp only [hm,go_sem,↓reduceIte]; first | done | rfl | exact ⟨rfl, rfl⟩))
        · have : i = rules.length := by omega
          subst this
          simp only [hm,go_sem,↓reduceIte]
          repeat' first | refine And.intro ?_ ?_ | intro _
          all_goals first
            | omega
            | (refine ⟨_, ⟨F, by rw [h2, List.take_length], rfl⟩, ?_⟩; (refine le_ev [] ?_; simp only [hm,go_sem,↓reduceIte]; first | done | rfl | exact ⟨rfl, rfl⟩))
      rintro t0 ⟨F, hF, rfl⟩
      simp only [hm,go_sem,↓reduceIte]
      exact ⟨⟨m.records + 1, L2, F⟩, by rw [hR, hF]; rfl, .inr ⟨7, rfl, rfl⟩⟩
  · rintro r hp nx gs ⟨m', hw, h⟩
    subst hw
    rcases h with rfl | ⟨b2, rfl, h2⟩
    · refine ⟨(stepMon m text).ro, [], 0, [], ⟨rfl, rfl, rfl, rfl⟩, fun c hc => ?_⟩
      generalize stepMon m text = m' at *
      unfold Mon.ro
      exact le_ev [] (by simp only [hc,go_sem,↓reduceIte])
    · refine ⟨(stepMon m text).ro, [], 0, [], ⟨rfl, rfl, rfl, rfl⟩, fun c hc => ?_⟩
      generalize stepMon m text = m' at *
      refine Le.trans (t := ⟨[(0, .agg [.i m'.records, .r (.ro none (m'.list.map Assoc.row)), .sl 0 0 m'.found.length])], [(0, .row 2 (m'.found.map Fnd.row))], 1, []⟩) (le_ev [(0, b2)] (by simp only [hc, go_sem, ↓reduceIte, h2])) ?_
      refine Le.trans (le_frz 0 rfl (by simp only [List.length_map,go_sem,↓reduceIte]) (by simp only [go_sem, ↓reduceIte])) ?_
      simp only [take_map_len, List.drop_zero,go_sem,↓reduceIte]
      exact le_ev [] (by simp only [hc, Mon.ro,go_sem,↓reduceIte])
end Go.Cap

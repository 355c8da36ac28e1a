import Derived.Test.YtfanhpebfnbobaaLawC
/- FnExactAssocStep: its contract. -/
namespace Go.Cap
open Go Go.Proofs
set_option maxRecDepth 100000
set_option linter.unusedSimpArgs false
set_option linter.unusedVariables false
attribute [local irreducible] Call Run Spec Le

theorem spec_FnExactAssocStep {xs ys : List RV} (h : RowOk assocRow xs) (h' : RowOk packetRow ys) : Spec Try.prog 8 0 [] [.agg (xs.map .r), .agg (ys.map .r)] (fun r _ _ _ => r = .bo true) := by
  obtain ⟨a, e, hs⟩ := assoc_arg h
  obtain ⟨p, e', hp⟩ := packet_of h'
  rw [e, e']
  clear e e' h h'
  have hu : a.ro = .agg a.cellsA := rfl
  refine mr8 rfl fun c hP hm => ?_
  have hsz := s_szAssoc a 1048576 (by omega) hs
  unfold pc8
  rw [hu] at hsz ⊢
  unfold Assoc.cellsA at hsz ⊢
  unfold Packet.ro
  refine run_seq (run_wpc _ _ _ _ _ ?_)
  simp only [hm, go_sem, ↓reduceIte]
  refine run_seq (run_wpc _ _ _ _ _ ?_)
  simp only [hm, go_sem, ↓reduceIte]
  refine run_seq (run_wpc _ _ _ _ _ ?_)
  simp only [hm, go_sem, ↓reduceIte]
  refine call_pure (hP ▸ hsz) rfl rfl ?_
  simp only [hm, go_sem, ↓reduceIte]
  refine run_seq (run_wpc _ _ _ _ _ ?_)
  simp only [hm, go_sem, ↓reduceIte]
  intro hz
  obtain ⟨fa, fb⟩ := szA_fit (by omega) hz
  have hle := szA_le a 1048576
  have hszp := s_szPacket p (szA a 1048576) ⟨hz, by omega⟩ hp
  unfold Packet.ro at hszp
  refine run_seq (run_wpc _ _ _ _ _ ?_)
  simp only [hm, go_sem, ↓reduceIte]
  refine call_pure (hP ▸ hszp) rfl rfl ?_
  simp only [hm, go_sem, ↓reduceIte]
  refine run_seq (run_wpc _ _ _ _ _ ?_)
  simp only [hm, go_sem, ↓reduceIte]
  intro hzp
  have fp := szP_fit (by omega) hzp
  have hta := s_toAssocP a fa.1 fb.1
  have htp := s_toPacketP p fp
  have hsp := s_specAssocStep a p fa.s fb.s (by omega)
  unfold Packet.ro at htp hsp
  rw [hu] at hta hsp
  have hux : (assocStep a p).1.ro = .agg (assocStep a p).1.cellsA := rfl
  rw [hux] at hsp
  unfold Assoc.cellsA at hta hsp
  refine run_join (fun t => t = ⟨[(2, .ptr 0 0 0), (3, .ptr 1 0 0), (6, .ptr 2 0 0), (7, .r (.ro none ((assocStep a p).2.map intRow)))], [(2, .var (assocStep a p).1.cellsA), (1, .var [.i p.fr, .i p.to, .i p.tag, .r (.ro none (p.chunks.map Chunk.row))]), (0, .var a.cellsA)], 3, []⟩) (run_wpc _ _ _ _ _ ?_) ?_
  · simp only [hm, go_sem, ↓reduceIte]
    repeat' first
      | refine And.intro ?_ ?_
      | (refine call_data (hP ▸ hta) rfl rfl ?_; simp only [hm, go_sem, ↓reduceIte])
      | (refine call_data (hP ▸ htp) rfl rfl ?_; simp only [hm, go_sem, ↓reduceIte])
      | (refine call_dataP (hP ▸ hsp) rfl rfl ?_; simp only [hm, go_sem, ↓reduceIte])
    all_goals first
      | rfl
      | (unfold Assoc.cellsA; refine ⟨_, rfl, ?_⟩; (refine le_ev [] ?_; simp only [hm, go_sem, ↓reduceIte]; first | done | rfl | exact ⟨rfl, rfl⟩))
  rintro t rfl
  clear hsp
  have hTA := s_toAssoc a fa.1 fb.1
  have hTP := s_toPacket p fp
  rw [hu] at hTA
  unfold Assoc.cellsA Assoc.cells3 at hTA
  unfold Packet.ro Packet.avS at hTP
  unfold Assoc.cellsA
  refine run_seq (run_wpc _ _ _ _ _ ?_)
  simp only [hm, go_sem, ↓reduceIte]
  refine call_new2 (hP ▸ hTA) rfl (dataClosed _) (dataClosed _) (vws_self _ _ rfl) ?_
  simp only [hm, go_sem, ↓reduceIte]
  refine run_seq (run_wpc _ _ _ _ _ ?_)
  simp only [hm, go_sem, ↓reduceIte]
  refine call_new1 (hP ▸ hTP) rfl (chunkClosed _) (vws_self _ _ rfl) ?_
  simp only [hm, go_sem, ↓reduceIte]
  -- cases
  have hMA := s_markAssoc a 1 (by omega) (by have := fa.1; omega) (by have := fb.1; omega)
  have hMP := s_markPacket p (1 + 7 * a.a.sent.length + 7 * a.b.sent.length) (by have := fa.1; have := fb.1; omega) (by omega)
  have hfit := assocStep_fit a p
  have hrl := step_rules a p
  have hIA := s_implAssocStepA a p fa.s fb.s
  have hIB := s_implAssocStepB a p fa.s fb.s
  have hIC := s_implAssocStepC a p fa.s fb.s
  have hID := s_implAssocStep a p fa.s fb.s
  have hEA := s_eqAssoc (assocStep a p).1
  rw [show (assocStep a p).1.ro = .agg (assocStep a p).1.cellsA from rfl] at hEA
  have ka := fa.1
  have kb := fb.1
  generalize assocStep a p = X at *
  unfold Assoc.cells3 rowsD at hMA
  unfold Packet.avS at hMP
  rw [hu] at hIA hIB hIC hID
  unfold Packet.ro at hIA hIB hIC hID
  rw [show X.1.ro = .agg X.1.cellsA from rfl] at hID
  unfold Assoc.cellsA at hIA hIB hIC hID hEA
  by_cases hx2 : X.2 = []
  · have hE0 : X.2.map intRow = [] := by rw [hx2]; rfl
    by_cases hX : X = (noAssoc, [])
    · subst hX
      have hI := hIA rfl
      have hMZ := s_markAssoc_nil 1
      have hHA := s_heldAssoc noAssoc 0 0 1 (by omega) (by omega) (by omega)
      have hHI := s_heldIntS 0 1 (by omega) (by omega)
      rw [show noAssoc.marked 0 0 1 = noAssoc from rfl] at hHA
      rw [show (marks id 1 0 1).map intRow = [] from rfl, show (1 : Int) + 1 * ((0 : Nat) : Int) = 1 from rfl] at hHI
      rw [show (1 : Int) + 7 * ((0 : Nat) : Int) + 7 * ((0 : Nat) : Int) = 1 from rfl] at hHA
      unfold zeroC at hI hMZ
      simp only [List.map_nil] at hID hEA ⊢
      refine run_seq (run_wpc _ _ _ _ _ ?_)
      simp only [hm, go_sem, ↓reduceIte]
      refine call_val (hP ▸ hI) rfl (fun _ => rfl) (.cons (vw_assoc rfl rfl rfl) (.cons (vw_packet rfl) .nil)) ?_
      simp only [hm, go_sem, ↓reduceIte]
      refine run_seq (run_wpc _ _ _ _ _ ?_)
      simp only [hm, go_sem, ↓reduceIte]
      refine call_flat (hP ▸ s_eqAssoc noAssoc) rfl (.cons vw_zero (.cons (vw_self _ _ rfl) .nil)) ?_
      simp only [hm, go_sem, ↓reduceIte]
      refine call_flat (hP ▸ s_eqIntS []) rfl (.cons Vw.nil (.cons (.r _) .nil)) ?_
      simp only [hm, go_sem, ↓reduceIte]
      refine run_seq (run_wpc _ _ _ _ _ ?_)
      simp only [hm, go_sem, ↓reduceIte]
      refine call_data (hP ▸ hta) rfl rfl ?_
      simp only [hm, go_sem, ↓reduceIte]
      refine call_flat (hP ▸ s_eqAssoc a) rfl (.cons (vw_assoc rfl rfl rfl) (.cons (vw_self _ _ rfl) .nil)) ?_
      simp only [hm, go_sem, ↓reduceIte]
      refine run_seq (run_wpc _ _ _ _ _ ?_)
      simp only [hm, go_sem, ↓reduceIte]
      refine call_data (hP ▸ htp) rfl rfl ?_
      simp only [hm, go_sem, ↓reduceIte]
      refine call_flat (hP ▸ s_eqPacket p) rfl (.cons (vw_packet rfl) (.cons (vw_self _ _ rfl) .nil)) ?_
      simp only [hm, go_sem, ↓reduceIte]
      refine run_seq (run_wpc _ _ _ _ _ ?_)
      simp only [hm, go_sem, ↓reduceIte]
      refine run_seq (run_wpc _ _ _ _ _ ?_)
      simp only [hm, go_sem, ↓reduceIte]
      refine call_named2 3 4 (hP ▸ hMA) (by decide) rfl rfl rfl rfl rfl ?_ ?_
      · rintro r B B1 ⟨rfl, rfl, rfl⟩; exact ⟨rfl, rfl, rfl⟩
      rintro r B B1 ⟨rfl, rfl, rfl⟩
      simp only [hm, go_sem, ↓reduceIte]
      refine run_seq (run_wpc _ _ _ _ _ ?_)
      simp only [hm, go_sem, ↓reduceIte]
      refine call_named 6 (hP ▸ hMP) rfl rfl rfl ?_ ?_
      · rintro r B ⟨rfl, rfl⟩; exact ⟨rfl, rfl⟩
      rintro r B ⟨rfl, rfl⟩
      simp only [hm, go_sem, ↓reduceIte]
      refine run_seq (run_wpc _ _ _ _ _ ?_)
      simp only [hm, go_sem, ↓reduceIte]
      refine ⟨fun _ => ?_, fun hneg => absurd hneg (by omega)⟩
      refine call_flat (hP ▸ s_eqAssoc noAssoc) rfl (.cons vw_zero (.cons (vw_self _ _ rfl) .nil)) ?_
      simp only [hm, go_sem, ↓reduceIte]
      refine call_flat (hP ▸ s_eqIntS []) rfl (.cons Vw.nil (.cons (.r _) .nil)) ?_
      simp only [hm, go_sem, ↓reduceIte]
      refine run_seq (run_wpc _ _ _ _ _ ?_)
      simp only [hm, go_sem, ↓reduceIte]
      refine run_seq (run_wpc _ _ _ _ _ ?_)
      simp only [hm, go_sem, ↓reduceIte]
      refine call_pure (hP ▸ hMZ) rfl rfl ?_
      simp only [hm, go_sem, ↓reduceIte]
      refine run_seq (run_wpc _ _ _ _ _ ?_)
      simp only [hm, go_sem, ↓reduceIte]
      refine call_pure (hP ▸ s_markIntS_nil _) rfl rfl ?_
      simp only [hm, go_sem, ↓reduceIte]
      refine run_seq (run_wpc _ _ _ _ _ ?_)
      simp only [hm, go_sem, ↓reduceIte]
      refine run_seq (run_wpc _ _ _ _ _ ?_)
      simp only [hm, go_sem, ↓reduceIte]
      refine call_flat (hP ▸ hHA) rfl (.cons vw_zero (.cons (.r _) .nil)) ?_
      simp only [hm, go_sem, ↓reduceIte]
      refine run_seq (run_wpc _ _ _ _ _ ?_)
      simp only [hm, go_sem, ↓reduceIte]
      try refine ⟨fun hneg => absurd hneg (by omega), fun _ => ?_⟩
      refine run_seq (run_wpc _ _ _ _ _ ?_)
      simp only [hm, go_sem, ↓reduceIte]
      refine call_flat (hP ▸ hHI) rfl (.cons Vw.nil (.cons (.r _) .nil)) ?_
      simp only [hm, go_sem, ↓reduceIte]
      refine run_seq (run_wpc _ _ _ _ _ ?_)
      simp only [hm, go_sem, ↓reduceIte]
      try refine ⟨fun hneg => absurd hneg (by omega), fun _ => ?_⟩
      refine run_seq (run_wpc _ _ _ _ _ ?_)
      simp only [hm, go_sem, ↓reduceIte]
      refine run_join (fun t => t = ⟨[(6, .ptr 2 0 0), (7, .r (.ro none ([]))), (10, .ptr 8 0 0), (11, .r .nil), (13, .i 1), (15, .ptr 9 0 0), (16, .r (.ro none ([])))], [(9, .var noAssoc.cellsA), (8, .var zeroC), (2, .var noAssoc.cellsA)], 10, []⟩) (run_wpc _ _ _ _ _ ?_) ?_
      · simp only [hm, go_sem, ↓reduceIte]
        repeat' first
          | refine And.intro ?_ ?_
          | (refine call_data (hP ▸ hta) rfl rfl ?_; simp only [hm, go_sem, ↓reduceIte])
          | (refine call_data (hP ▸ htp) rfl rfl ?_; simp only [hm, go_sem, ↓reduceIte])
          | (refine call_dataP (hP ▸ hID) rfl rfl ?_; simp only [hm, go_sem, ↓reduceIte])
        all_goals first
          | rfl
          | (unfold Assoc.cellsA zeroC; refine ⟨_, rfl, ?_⟩; (refine le_ev [] ?_; simp only [hm, go_sem, ↓reduceIte]; first | done | rfl | exact ⟨rfl, rfl⟩))
      rintro t rfl
      unfold Assoc.cellsA zeroC
      refine run_seq (run_wpc _ _ _ _ _ ?_)
      simp only [hm, go_sem, ↓reduceIte]
      refine call_pure (hP ▸ hEA) rfl rfl ?_
      simp only [hm, go_sem, ↓reduceIte]
      refine call_pure (hP ▸ s_eqIntS []) rfl rfl ?_
      simp only [hm, go_sem, ↓reduceIte]
      refine run_seq (run_wpc _ _ _ _ _ ?_)
      simp only [hm, go_sem, ↓reduceIte]
      refine run_seq (run_wpc _ _ _ _ _ ?_)
      simp only [hm, go_sem, ↓reduceIte]
      refine call_flat (hP ▸ hHA) rfl (.cons vw_zero (.cons (.r _) .nil)) ?_
      simp only [hm, go_sem, ↓reduceIte]
      refine run_seq (run_wpc _ _ _ _ _ ?_)
      simp only [hm, go_sem, ↓reduceIte]
      try refine ⟨fun hneg => absurd hneg (by omega), fun _ => ?_⟩
      refine run_seq (run_wpc _ _ _ _ _ ?_)
      simp only [hm, go_sem, ↓reduceIte]
      refine call_flat (hP ▸ hHI) rfl (.cons Vw.nil (.cons (.r _) .nil)) ?_
      simp only [hm, go_sem, ↓reduceIte]
      refine run_seq (run_wpc _ _ _ _ _ ?_)
      simp only [hm, go_sem, ↓reduceIte]
      try refine ⟨fun hneg => absurd hneg (by omega), fun _ => ?_⟩
      refine run_seq (run_wpc _ _ _ _ _ ?_)
      simp only [hm, go_sem, ↓reduceIte]
      refine run_wpc _ _ _ _ _ ?_
      simp only [hm, go_sem, ↓reduceIte]
    · have hI := hIB hX hx2
      obtain ⟨hf1, hf2⟩ := hfit hX
      have hXa := hf1.2.1
      have hXb := hf2.2.1
      have hMX := s_markAssoc X.1 1 (by omega) (by omega) (by omega)
      have hHA := s_heldAssoc X.1 X.1.a.sent.length X.1.b.sent.length 1 (by omega) (by omega) (by omega)
      have hHI := s_heldIntS 0 (1 + 7 * X.1.a.sent.length + 7 * X.1.b.sent.length) (by omega) (by omega)
      rw [show (marks id 1 0 (1 + 7 * X.1.a.sent.length + 7 * X.1.b.sent.length)).map intRow = [] from rfl, show (1 + 7 * X.1.a.sent.length + 7 * X.1.b.sent.length : Int) + 1 * ((0 : Nat) : Int) = 1 + 7 * X.1.a.sent.length + 7 * X.1.b.sent.length by omega] at hHI
      unfold Assoc.cells3 at hI
      unfold Assoc.cells3 rowsD at hMX
      rw [hE0] at hID ⊢
      refine run_seq (run_wpc _ _ _ _ _ ?_)
      simp only [hm, go_sem, ↓reduceIte]
      refine call_new2 (hP ▸ hI) rfl (dataClosed _) (dataClosed _) (.cons (vw_assoc rfl rfl rfl) (.cons (vw_packet rfl) .nil)) ?_
      simp only [hm, go_sem, ↓reduceIte]
      refine run_seq (run_wpc _ _ _ _ _ ?_)
      simp only [hm, go_sem, ↓reduceIte]
      refine call_flat (hP ▸ s_eqAssoc X.1) rfl (.cons (vw_assoc rfl rfl rfl) (.cons (vw_self _ _ rfl) .nil)) ?_
      simp only [hm, go_sem, ↓reduceIte]
      refine call_flat (hP ▸ s_eqIntS []) rfl (.cons Vw.nil (.cons (.r _) .nil)) ?_
      simp only [hm, go_sem, ↓reduceIte]
      refine run_seq (run_wpc _ _ _ _ _ ?_)
      simp only [hm, go_sem, ↓reduceIte]
      refine call_data (hP ▸ hta) rfl rfl ?_
      simp only [hm, go_sem, ↓reduceIte]
      refine call_flat (hP ▸ s_eqAssoc a) rfl (.cons (vw_assoc rfl rfl rfl) (.cons (vw_self _ _ rfl) .nil)) ?_
      simp only [hm, go_sem, ↓reduceIte]
      refine run_seq (run_wpc _ _ _ _ _ ?_)
      simp only [hm, go_sem, ↓reduceIte]
      refine call_data (hP ▸ htp) rfl rfl ?_
      simp only [hm, go_sem, ↓reduceIte]
      refine call_flat (hP ▸ s_eqPacket p) rfl (.cons (vw_packet rfl) (.cons (vw_self _ _ rfl) .nil)) ?_
      simp only [hm, go_sem, ↓reduceIte]
      refine run_seq (run_wpc _ _ _ _ _ ?_)
      simp only [hm, go_sem, ↓reduceIte]
      refine run_seq (run_wpc _ _ _ _ _ ?_)
      simp only [hm, go_sem, ↓reduceIte]
      refine call_named2 3 4 (hP ▸ hMA) (by decide) rfl rfl rfl rfl rfl ?_ ?_
      · rintro r B B1 ⟨rfl, rfl, rfl⟩; exact ⟨rfl, rfl, rfl⟩
      rintro r B B1 ⟨rfl, rfl, rfl⟩
      simp only [hm, go_sem, ↓reduceIte]
      refine run_seq (run_wpc _ _ _ _ _ ?_)
      simp only [hm, go_sem, ↓reduceIte]
      refine call_named 6 (hP ▸ hMP) rfl rfl rfl ?_ ?_
      · rintro r B ⟨rfl, rfl⟩; exact ⟨rfl, rfl⟩
      rintro r B ⟨rfl, rfl⟩
      simp only [hm, go_sem, ↓reduceIte]
      refine run_seq (run_wpc _ _ _ _ _ ?_)
      simp only [hm, go_sem, ↓reduceIte]
      refine ⟨fun _ => ?_, fun hneg => absurd hneg (by omega)⟩
      refine call_flat (hP ▸ s_eqAssoc X.1) rfl (.cons (vw_assoc rfl rfl rfl) (.cons (vw_self _ _ rfl) .nil)) ?_
      simp only [hm, go_sem, ↓reduceIte]
      refine call_flat (hP ▸ s_eqIntS []) rfl (.cons Vw.nil (.cons (.r _) .nil)) ?_
      simp only [hm, go_sem, ↓reduceIte]
      refine run_seq (run_wpc _ _ _ _ _ ?_)
      simp only [hm, go_sem, ↓reduceIte]
      refine run_seq (run_wpc _ _ _ _ _ ?_)
      simp only [hm, go_sem, ↓reduceIte]
      refine call_named2 8 9 (hP ▸ hMX) (by decide) rfl rfl rfl rfl rfl ?_ ?_
      · rintro r B B1 ⟨rfl, rfl, rfl⟩; exact ⟨rfl, rfl, rfl⟩
      rintro r B B1 ⟨rfl, rfl, rfl⟩
      simp only [hm, go_sem, ↓reduceIte]
      refine run_seq (run_wpc _ _ _ _ _ ?_)
      simp only [hm, go_sem, ↓reduceIte]
      refine call_pure (hP ▸ s_markIntS_nil _) rfl rfl ?_
      simp only [hm, go_sem, ↓reduceIte]
      refine run_seq (run_wpc _ _ _ _ _ ?_)
      simp only [hm, go_sem, ↓reduceIte]
      refine run_seq (run_wpc _ _ _ _ _ ?_)
      simp only [hm, go_sem, ↓reduceIte]
      refine call_flat (hP ▸ hHA) rfl (.cons (vw_assoc (by simp only [Assoc.cells3, Assoc.marked, marks_len]; rfl) rfl rfl) (.cons (.r _) .nil)) ?_
      simp only [hm, go_sem, ↓reduceIte]
      refine run_seq (run_wpc _ _ _ _ _ ?_)
      simp only [hm, go_sem, ↓reduceIte]
      try refine ⟨fun hneg => absurd hneg (by omega), fun _ => ?_⟩
      refine run_seq (run_wpc _ _ _ _ _ ?_)
      simp only [hm, go_sem, ↓reduceIte]
      refine call_flat (hP ▸ hHI) rfl (.cons Vw.nil (.cons (.r _) .nil)) ?_
      simp only [hm, go_sem, ↓reduceIte]
      refine run_seq (run_wpc _ _ _ _ _ ?_)
      simp only [hm, go_sem, ↓reduceIte]
      try refine ⟨fun hneg => absurd hneg (by omega), fun _ => ?_⟩
      refine run_seq (run_wpc _ _ _ _ _ ?_)
      simp only [hm, go_sem, ↓reduceIte]
      refine run_join (fun t => t = ⟨[(6, .ptr 2 0 0), (7, .r (.ro none ([]))), (10, .ptr 10 0 0), (11, .r .nil), (13, .i (1 + 7 * X.1.a.sent.length + 7 * X.1.b.sent.length)), (15, .ptr 11 0 0), (16, .r (.ro none ([])))], [(11, .var X.1.cellsA), (8, .row 7 ((marks markData 7 X.1.a.sent.length 1).map Data.row)), (9, .row 7 ((marks markData 7 X.1.b.sent.length (1 + 7 * X.1.a.sent.length)).map Data.row)), (10, .var (X.1.cells3 8 9)), (2, .var X.1.cellsA)], 12, []⟩) (run_wpc _ _ _ _ _ ?_) ?_
      · simp only [hm, go_sem, ↓reduceIte]
        repeat' first
          | refine And.intro ?_ ?_
          | (refine call_data (hP ▸ hta) rfl rfl ?_; simp only [hm, go_sem, ↓reduceIte])
          | (refine call_data (hP ▸ htp) rfl rfl ?_; simp only [hm, go_sem, ↓reduceIte])
          | (refine call_dataP (hP ▸ hID) rfl rfl ?_; simp only [hm, go_sem, ↓reduceIte])
        all_goals first
          | rfl
          | (unfold Assoc.cellsA Assoc.cells3; refine ⟨_, rfl, ?_⟩; (refine le_ev [] ?_; simp only [hm, go_sem, ↓reduceIte]; first | done | rfl | exact ⟨rfl, rfl⟩))
      rintro t rfl
      unfold Assoc.cellsA Assoc.cells3
      refine run_seq (run_wpc _ _ _ _ _ ?_)
      simp only [hm, go_sem, ↓reduceIte]
      refine call_pure (hP ▸ hEA) rfl rfl ?_
      simp only [hm, go_sem, ↓reduceIte]
      refine call_pure (hP ▸ s_eqIntS []) rfl rfl ?_
      simp only [hm, go_sem, ↓reduceIte]
      refine run_seq (run_wpc _ _ _ _ _ ?_)
      simp only [hm, go_sem, ↓reduceIte]
      refine run_seq (run_wpc _ _ _ _ _ ?_)
      simp only [hm, go_sem, ↓reduceIte]
      refine call_flat (hP ▸ hHA) rfl (.cons (vw_assoc (by simp only [Assoc.cells3, Assoc.marked, marks_len]; rfl) rfl rfl) (.cons (.r _) .nil)) ?_
      simp only [hm, go_sem, ↓reduceIte]
      refine run_seq (run_wpc _ _ _ _ _ ?_)
      simp only [hm, go_sem, ↓reduceIte]
      try refine ⟨fun hneg => absurd hneg (by omega), fun _ => ?_⟩
      refine run_seq (run_wpc _ _ _ _ _ ?_)
      simp only [hm, go_sem, ↓reduceIte]
      refine call_flat (hP ▸ hHI) rfl (.cons Vw.nil (.cons (.r _) .nil)) ?_
      simp only [hm, go_sem, ↓reduceIte]
      refine run_seq (run_wpc _ _ _ _ _ ?_)
      simp only [hm, go_sem, ↓reduceIte]
      try refine ⟨fun hneg => absurd hneg (by omega), fun _ => ?_⟩
      refine run_seq (run_wpc _ _ _ _ _ ?_)
      simp only [hm, go_sem, ↓reduceIte]
      refine run_wpc _ _ _ _ _ ?_
      simp only [hm, go_sem, ↓reduceIte]
  · have hI := hIC hx2
    obtain ⟨hf1, hf2⟩ := hfit (fun h => hx2 (by rw [h]))
    have hXa := hf1.2.1
    have hXb := hf2.2.1
    have hMX := s_markAssoc X.1 1 (by omega) (by omega) (by omega)
    have hMI := s_markIntS X.2 (1 + 7 * X.1.a.sent.length + 7 * X.1.b.sent.length) (by omega) (by omega)
    have hHA := s_heldAssoc X.1 X.1.a.sent.length X.1.b.sent.length 1 (by omega) (by omega) (by omega)
    have hHI := s_heldIntS X.2.length (1 + 7 * X.1.a.sent.length + 7 * X.1.b.sent.length) (by omega) (by omega)
    unfold Assoc.cells3 at hI
    unfold Assoc.cells3 rowsD at hMX
    refine run_seq (run_wpc _ _ _ _ _ ?_)
    simp only [hm, go_sem, ↓reduceIte]
    refine call_new3 (hP ▸ hI) rfl (dataClosed _) (dataClosed _) (intClosed _) (.cons (vw_assoc rfl rfl rfl) (.cons (vw_packet rfl) .nil)) ?_
    simp only [hm, go_sem, ↓reduceIte]
    refine run_seq (run_wpc _ _ _ _ _ ?_)
    simp only [hm, go_sem, ↓reduceIte]
    refine call_flat (hP ▸ s_eqAssoc X.1) rfl (.cons (vw_assoc rfl rfl rfl) (.cons (vw_self _ _ rfl) .nil)) ?_
    simp only [hm, go_sem, ↓reduceIte]
    refine call_flat (hP ▸ s_eqIntS X.2) rfl (.cons (Vw.full rfl (by simp)) (.cons (.r _) .nil)) ?_
    simp only [hm, go_sem, ↓reduceIte]
    refine run_seq (run_wpc _ _ _ _ _ ?_)
    simp only [hm, go_sem, ↓reduceIte]
    refine call_data (hP ▸ hta) rfl rfl ?_
    simp only [hm, go_sem, ↓reduceIte]
    refine call_flat (hP ▸ s_eqAssoc a) rfl (.cons (vw_assoc rfl rfl rfl) (.cons (vw_self _ _ rfl) .nil)) ?_
    simp only [hm, go_sem, ↓reduceIte]
    refine run_seq (run_wpc _ _ _ _ _ ?_)
    simp only [hm, go_sem, ↓reduceIte]
    refine call_data (hP ▸ htp) rfl rfl ?_
    simp only [hm, go_sem, ↓reduceIte]
    refine call_flat (hP ▸ s_eqPacket p) rfl (.cons (vw_packet rfl) (.cons (vw_self _ _ rfl) .nil)) ?_
    simp only [hm, go_sem, ↓reduceIte]
    refine run_seq (run_wpc _ _ _ _ _ ?_)
    simp only [hm, go_sem, ↓reduceIte]
    refine run_seq (run_wpc _ _ _ _ _ ?_)
    simp only [hm, go_sem, ↓reduceIte]
    refine call_named2 3 4 (hP ▸ hMA) (by decide) rfl rfl rfl rfl rfl ?_ ?_
    · rintro r B B1 ⟨rfl, rfl, rfl⟩; exact ⟨rfl, rfl, rfl⟩
    rintro r B B1 ⟨rfl, rfl, rfl⟩
    simp only [hm, go_sem, ↓reduceIte]
    refine run_seq (run_wpc _ _ _ _ _ ?_)
    simp only [hm, go_sem, ↓reduceIte]
    refine call_named 6 (hP ▸ hMP) rfl rfl rfl ?_ ?_
    · rintro r B ⟨rfl, rfl⟩; exact ⟨rfl, rfl⟩
    rintro r B ⟨rfl, rfl⟩
    simp only [hm, go_sem, ↓reduceIte]
    refine run_seq (run_wpc _ _ _ _ _ ?_)
    simp only [hm, go_sem, ↓reduceIte]
    refine ⟨fun _ => ?_, fun hneg => absurd hneg (by omega)⟩
    refine call_flat (hP ▸ s_eqAssoc X.1) rfl (.cons (vw_assoc rfl rfl rfl) (.cons (vw_self _ _ rfl) .nil)) ?_
    simp only [hm, go_sem, ↓reduceIte]
    refine call_flat (hP ▸ s_eqIntS X.2) rfl (.cons (Vw.full rfl (by simp)) (.cons (.r _) .nil)) ?_
    simp only [hm, go_sem, ↓reduceIte]
    refine run_seq (run_wpc _ _ _ _ _ ?_)
    simp only [hm, go_sem, ↓reduceIte]
    refine run_seq (run_wpc _ _ _ _ _ ?_)
    simp only [hm, go_sem, ↓reduceIte]
    refine call_named2 8 9 (hP ▸ hMX) (by decide) rfl rfl rfl rfl rfl ?_ ?_
    · rintro r B B1 ⟨rfl, rfl, rfl⟩; exact ⟨rfl, rfl, rfl⟩
    rintro r B B1 ⟨rfl, rfl, rfl⟩
    simp only [hm, go_sem, ↓reduceIte]
    refine run_seq (run_wpc _ _ _ _ _ ?_)
    simp only [hm, go_sem, ↓reduceIte]
    refine call_named 10 (hP ▸ hMI) rfl rfl rfl ?_ ?_
    · rintro r B ⟨rfl, rfl⟩; exact ⟨rfl, rfl⟩
    rintro r B ⟨rfl, rfl⟩
    simp only [hm, go_sem, ↓reduceIte]
    refine run_seq (run_wpc _ _ _ _ _ ?_)
    simp only [hm, go_sem, ↓reduceIte]
    refine run_seq (run_wpc _ _ _ _ _ ?_)
    simp only [hm, go_sem, ↓reduceIte]
    refine call_flat (hP ▸ hHA) rfl (.cons (vw_assoc (by simp only [Assoc.cells3, Assoc.marked, marks_len]; rfl) rfl rfl) (.cons (.r _) .nil)) ?_
    simp only [hm, go_sem, ↓reduceIte]
    refine run_seq (run_wpc _ _ _ _ _ ?_)
    simp only [hm, go_sem, ↓reduceIte]
    try refine ⟨fun hneg => absurd hneg (by omega), fun _ => ?_⟩
    refine run_seq (run_wpc _ _ _ _ _ ?_)
    simp only [hm, go_sem, ↓reduceIte]
    refine call_flat (hP ▸ hHI) rfl (.cons (Vw.full rfl (by simp [marks_len])) (.cons (.r _) .nil)) ?_
    simp only [hm, go_sem, ↓reduceIte]
    refine run_seq (run_wpc _ _ _ _ _ ?_)
    simp only [hm, go_sem, ↓reduceIte]
    try refine ⟨fun hneg => absurd hneg (by omega), fun _ => ?_⟩
    refine run_seq (run_wpc _ _ _ _ _ ?_)
    simp only [hm, go_sem, ↓reduceIte]
    refine run_join (fun t => t = ⟨[(6, .ptr 2 0 0), (7, .r (.ro none (X.2.map intRow))), (10, .ptr 11 0 0), (11, .sl 10 0 X.2.length), (13, .i (1 + 7 * X.1.a.sent.length + 7 * X.1.b.sent.length + 1 * X.2.length)), (15, .ptr 12 0 0), (16, .r (.ro none (X.2.map intRow)))], [(12, .var X.1.cellsA), (10, .row 1 ((marks id 1 X.2.length (1 + 7 * X.1.a.sent.length + 7 * X.1.b.sent.length)).map intRow)), (8, .row 7 ((marks markData 7 X.1.a.sent.length 1).map Data.row)), (9, .row 7 ((marks markData 7 X.1.b.sent.length (1 + 7 * X.1.a.sent.length)).map Data.row)), (11, .var (X.1.cells3 8 9)), (2, .var X.1.cellsA)], 13, []⟩) (run_wpc _ _ _ _ _ ?_) ?_
    · simp only [hm, go_sem, ↓reduceIte]
      repeat' first
        | refine And.intro ?_ ?_
        | (refine call_data (hP ▸ hta) rfl rfl ?_; simp only [hm, go_sem, ↓reduceIte])
        | (refine call_data (hP ▸ htp) rfl rfl ?_; simp only [hm, go_sem, ↓reduceIte])
        | (refine call_dataP (hP ▸ hID) rfl rfl ?_; simp only [hm, go_sem, ↓reduceIte])
      all_goals first
        | rfl
        | (unfold Assoc.cellsA Assoc.cells3; refine ⟨_, rfl, ?_⟩; (refine le_ev [] ?_; simp only [hm, go_sem, ↓reduceIte]; first | done | rfl | exact ⟨rfl, rfl⟩))
    rintro t rfl
    unfold Assoc.cellsA Assoc.cells3
    refine run_seq (run_wpc _ _ _ _ _ ?_)
    simp only [hm, go_sem, ↓reduceIte]
    refine call_pure (hP ▸ hEA) rfl rfl ?_
    simp only [hm, go_sem, ↓reduceIte]
    refine call_pure (hP ▸ s_eqIntS X.2) rfl rfl ?_
    simp only [hm, go_sem, ↓reduceIte]
    refine run_seq (run_wpc _ _ _ _ _ ?_)
    simp only [hm, go_sem, ↓reduceIte]
    refine run_seq (run_wpc _ _ _ _ _ ?_)
    simp only [hm, go_sem, ↓reduceIte]
    refine call_flat (hP ▸ hHA) rfl (.cons (vw_assoc (by simp only [Assoc.cells3, Assoc.marked, marks_len]; rfl) rfl rfl) (.cons (.r _) .nil)) ?_
    simp only [hm, go_sem, ↓reduceIte]
    refine run_seq (run_wpc _ _ _ _ _ ?_)
    simp only [hm, go_sem, ↓reduceIte]
    try refine ⟨fun hneg => absurd hneg (by omega), fun _ => ?_⟩
    refine run_seq (run_wpc _ _ _ _ _ ?_)
    simp only [hm, go_sem, ↓reduceIte]
    refine call_flat (hP ▸ hHI) rfl (.cons (Vw.full rfl (by simp [marks_len])) (.cons (.r _) .nil)) ?_
    simp only [hm, go_sem, ↓reduceIte]
    refine run_seq (run_wpc _ _ _ _ _ ?_)
    simp only [hm, go_sem, ↓reduceIte]
    try refine ⟨fun hneg => absurd hneg (by omega), fun _ => ?_⟩
    refine run_seq (run_wpc _ _ _ _ _ ?_)
    simp only [hm, go_sem, ↓reduceIte]
    refine run_wpc _ _ _ _ _ ?_
    simp only [hm, go_sem, ↓reduceIte]
end Go.Cap

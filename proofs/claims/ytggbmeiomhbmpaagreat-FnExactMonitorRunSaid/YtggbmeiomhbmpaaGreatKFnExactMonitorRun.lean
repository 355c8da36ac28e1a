import Derived.Test.YtggbmeiomhbmpaaGreatLawE
/- FnExactMonitorRun: its contract. -/
namespace Go.Cap
open Go Go.Proofs
set_option maxRecDepth 100000
set_option linter.unusedSimpArgs false
set_option linter.unusedVariables false
attribute [local irreducible] Call Run Spec Le

theorem monRun_MW (l : List Rec) : MW 1200 (monRun l) := by
  cases hb : captB l
  · have : monRun l = noMon := by unfold monRun; rw [hb]; rfl
    rw [this]; exact MW.no _
  · have hl : l.length ≤ 60 := by
      unfold captB at hb
      simp only [Bool.and_eq_true, decide_eq_true_eq] at hb
      exact hb.2
    have : monRun l = monAt l l.length := by rw [monRun_eq hb]; unfold monAt; rw [List.take_length]
    rw [this]
    obtain ⟨h1, h2, h3⟩ := monAt_MW hl (Nat.le_refl _)
    exact ⟨h1, h2, by omega⟩
theorem MW.szOk {n : Nat} {m : Mon} (h : MW n m) : SzOk (m.list.map sz2) := by
  obtain ⟨h1, h2, h3⟩ := h
  refine ⟨by rw [List.length_map]; omega, fun s hs => ?_⟩
  obtain ⟨a, ha, rfl⟩ := List.mem_map.1 hs
  obtain ⟨⟨_, a2, a3⟩, ⟨_, b2, b3⟩⟩ := h2 a ha
  exact ⟨by show a.a.sent.length ≤ 1000; omega, by show a.b.sent.length ≤ 1000; omega⟩
set_option maxHeartbeats 2000000 in
theorem s_exactMonitorRun (l : List Rec) (hl : l.length ≤ maxLen) (hx : ∀ s ∈ l, s.text.length ≤ maxLen) : Spec Tryz.prog 3 0 [] [.r (.ro none (l.map Rec.row))] (fun r _ _ _ => r = .bo true) := by
  have e : maxLen = 9223372036854775807 := by decide
  rw [e] at hl hx
  refine mr3 rfl fun c hP hm => ?_
  have hsz := s_szRecordS l 1048576 (by omega) (by omega) (fun s hs => by have := hx s hs; omega)
  unfold pc3
  refine run_seq (run_wpc _ _ _ _ _ ?_)
  simp only [hm,go_sem,↓reduceIte]
  refine run_seq (run_wpc _ _ _ _ _ ?_)
  simp only [hm,go_sem,↓reduceIte]
  refine run_seq (run_wpc _ _ _ _ _ ?_)
  simp only [hm,go_sem,↓reduceIte]
  refine call_pure (hP ▸ hsz) rfl rfl ?_
  simp only [hm,go_sem,↓reduceIte]
  refine run_seq (run_wpc _ _ _ _ _ ?_)
  simp only [hm,go_sem,↓reduceIte]
  intro hz
  have hz' : 0 ≤ szRecs l 1048576 := by omega
  obtain ⟨hl', hx'⟩ := szRecs_ok hz'
  have hx2 : ∀ x ∈ l, x.text.length ≤ 2000000 := fun x h => by have := hx' x h; omega
  have htd := s_toRecordSP l hl'
  have hto := s_toRecordS l hl'
  have hsp := s_specMonitorRun l hx2 (by omega)
  have hmt := s_markRecordS l 1 (by omega) (by omega)
  have hw := monRun_MW l
  have hs := hw.szOk
  have hf : (monRun l).found.length ≤ 1000000 := by have := hw.2.2; omega
  have hown := s_implMonitorRunM l
  have hheld := s_heldMonitor (monRun l) 1 (by omega) hs hf
  have heq := s_eqMonitor (monRun l)
  have hend : 0 ≤ endMon (monRun l) 1 := by
    have := hs.at ((monRun l).list.map sz2).length
    rw [List.take_length] at this
    unfold endMon; omega
  generalize monRun l = x at *
  refine run_seq (run_wpc _ _ _ _ _ ?_)
  simp only [hm,go_sem,↓reduceIte]
  refine call_dataP (hP ▸ htd) rfl rfl ?_
  simp only [hm,go_sem,↓reduceIte]
  refine call_dataP (hP ▸ hsp) rfl rfl ?_
  unfold Mon.ro
  simp only [hm,go_sem,↓reduceIte]
  refine run_seq (run_wpc _ _ _ _ _ ?_)
  simp only [hm,go_sem,↓reduceIte]
  refine call_new1 (hP ▸ hto) rfl (recClosed _) (vws_self _ _ rfl) ?_
  simp only [hm,go_sem,↓reduceIte]
  refine run_seq (run_wpc _ _ _ _ _ ?_)
  simp only [hm,go_sem,↓reduceIte]
  refine c_ownM (hP ▸ hown) (.cons (Vw.full rfl (by simp)) .nil) fun lc fc hp1 n hH hq => ?_
  simp only [hm,go_sem,↓reduceIte]
  obtain ⟨B, hB⟩ : ∃ B, 2 + n = B := ⟨_, rfl⟩
  have e0 : (B = 0) = False := by simp; omega
  have e1 : (B = 1) = False := by simp; omega
  have e2 : (0 = B) = False := by simp; omega
  have e3 : (1 = B) = False := by simp; omega
  have e4 : (B + 1 = B) = False := by simp
  have e5 : (B = B + 1) = False := by simp
  have e6 : (B + 1 = 0) = False := by simp
  have e7 : (B + 1 = 1) = False := by simp; omega
  have e8 : (0 = B + 1) = False := by simp
  have e9 : (1 = B + 1) = False := by simp; omega
  have h0 := hq 0 (show 0 < 2 by decide)
  have h1 := hq 1 (show 1 < 2 by decide)
  simp only [go_sem, ↓reduceIte] at h0 h1
  rw [hB]
  replace hH : HeldM x 2 n (.agg [.i x.records, lc, fc]) hp1 := hH
  have hH1 : HeldM x 2 n (.agg [.i x.records, lc, fc]) ((B, .var [.i x.records, lc, fc]) :: hp1) := hH.congr fun q q1 q2 => by rw [hget_cons, if_neg (by omega)]
  obtain ⟨H, hH0⟩ : ∃ H, (B, .var [.i x.records, lc, fc]) :: hp1 = H := ⟨_, rfl⟩
  have g0 : hget H 0 = some (.var [.i x.records, .r (.ro none (x.list.map Assoc.row)), .r (.ro none (x.found.map Fnd.row))]) := by rw [← hH0, hget_cons, if_neg (by omega)]; exact h0
  have g1 : hget H 1 = some (.row 2 (l.map Rec.row)) := by rw [← hH0, hget_cons, if_neg (by omega)]; exact h1
  have gB : hget H B = some (.var [.i x.records, lc, fc]) := by rw [← hH0, hget_cons, if_pos rfl]
  rw [hH0] at hH1 ⊢
  clear hH0 h0 h1 hq hH hp1
  refine run_seq (run_wpc _ _ _ _ _ ?_)
  simp only [g0, g1, gB, e0, e1, e2, e3, hm,go_sem,↓reduceIte]
  refine call_flat (hP ▸ heq) rfl (.cons hH1.vw (.cons (vw_self _ x.ro rfl) .nil)) ?_
  simp only [g0, g1, gB, e0, e1, e2, e3, e4, e5, e6, e7, e8, e9, hm,go_sem,↓reduceIte]
  refine run_seq (run_wpc _ _ _ _ _ ?_)
  simp only [g0, g1, gB, e0, e1, e2, e3, e4, e5, e6, e7, e8, e9, hm,go_sem,↓reduceIte]
  refine call_dataP (hP ▸ htd) rfl rfl ?_
  simp only [g0, g1, gB, e0, e1, e2, e3, e4, e5, e6, e7, e8, e9, hm,go_sem,↓reduceIte]
  refine call_flat (hP ▸ s_eqRecordS l) rfl (.cons (Vw.full g1 (by simp)) (.cons (.r _) .nil)) ?_
  simp only [g0, g1, gB, e0, e1, e2, e3, e4, e5, e6, e7, e8, e9, hm,go_sem,↓reduceIte]
  refine run_seq (run_wpc _ _ _ _ _ ?_)
  simp only [g0, g1, gB, e0, e1, e2, e3, e4, e5, e6, e7, e8, e9, hm,go_sem,↓reduceIte]
  refine run_seq (run_wpc _ _ _ _ _ ?_)
  simp only [g0, g1, gB, e0, e1, e2, e3, e4, e5, e6, e7, e8, e9, hm,go_sem,↓reduceIte]
  refine call_named 1 (hP ▸ hmt) g1 rfl rfl ?_ ?_
  · rintro r B ⟨rfl, rfl⟩; exact ⟨rfl, rfl⟩
  rintro r B1 ⟨rfl, rfl⟩
  simp only [g0, g1, gB, e0, e1, e2, e3, e4, e5, e6, e7, e8, e9, hm,go_sem,↓reduceIte]
  obtain ⟨H2, hH2⟩ : ∃ H2, (1, Blk.row 2 ((marks markRec 2 l.length 1).map Rec.row)) :: hdel H 1 = H2 := ⟨_, rfl⟩
  have g0' : hget H2 0 = some (.var [.i x.records, .r (.ro none (x.list.map Assoc.row)), .r (.ro none (x.found.map Fnd.row))]) := by rw [← hH2, hget_cons, if_neg (by omega), hget_hdel, if_neg (by omega)]; exact g0
  have gB' : hget H2 B = some (.var [.i x.records, lc, fc]) := by rw [← hH2, hget_cons, if_neg (by omega), hget_hdel, if_neg (by omega)]; exact gB
  have hH1' : HeldM x 2 n (.agg [.i x.records, lc, fc]) H2 := hH1.congr fun q q1 q2 => by rw [← hH2, hget_cons, if_neg (by omega), hget_hdel, if_neg (by omega)]
  rw [hH2]
  clear hH2 g0 g1 gB hH1
  have g0 := g0'
  have gB := gB'
  have hH1 := hH1'
  clear g0' gB' hH1'
  refine run_seq (run_wpc _ _ _ _ _ ?_)
  simp only [g0, gB, e0, e1, e2, e3, e4, e5, e6, e7, e8, e9, hm,go_sem,↓reduceIte]
  refine ⟨fun _ => ?_, fun hneg => absurd hneg (by omega)⟩
  refine call_flat (hP ▸ heq) rfl (.cons hH1.vw (.cons (vw_self _ x.ro rfl) .nil)) ?_
  simp only [g0, gB, e0, e1, e2, e3, e4, e5, e6, e7, e8, e9, hm,go_sem,↓reduceIte]
  refine run_seq (run_wpc _ _ _ _ _ ?_)
  simp only [g0, gB, e0, e1, e2, e3, e4, e5, e6, e7, e8, e9, hm,go_sem,↓reduceIte]
  refine run_seq (run_wpc _ _ _ _ _ ?_)
  simp only [g0, gB, e0, e1, e2, e3, e4, e5, e6, e7, e8, e9, hm,go_sem,↓reduceIte]
  refine c_markMonitor hP hH1 (show 2 + n ≤ B + 1 by omega) 1 (by omega) hs.b (by omega) fun H3 hH3 hout => ?_
  have g0' := hout 0 (.inl (by omega))
  have gB' := hout B (.inr (by omega))
  simp only [g0, gB,go_sem,↓reduceIte] at g0' gB'
  clear g0 gB hH1 hout
  have g0 := g0'
  have gB := gB'
  have hH1 := hH3
  clear g0' gB' hH3
  simp only [g0, gB, e0, e1, e2, e3, e4, e5, e6, e7, e8, e9, hm,go_sem,↓reduceIte]
  refine run_seq (run_wpc _ _ _ _ _ ?_)
  simp only [g0, gB, e0, e1, e2, e3, e4, e5, e6, e7, e8, e9, hm,go_sem,↓reduceIte]
  refine run_seq (run_wpc _ _ _ _ _ ?_)
  simp only [g0, gB, e0, e1, e2, e3, e4, e5, e6, e7, e8, e9, hm,go_sem,↓reduceIte]
  refine call_flat (hP ▸ hheld) rfl (.cons hH1.vw (.cons (.r _) .nil)) ?_
  simp only [g0, gB, e0, e1, e2, e3, e4, e5, e6, e7, e8, e9, hm,go_sem,↓reduceIte]
  refine run_seq (run_wpc _ _ _ _ _ ?_)
  simp only [g0, gB, e0, e1, e2, e3, e4, e5, e6, e7, e8, e9, hm,go_sem,↓reduceIte]
  try refine ⟨fun hneg => absurd hneg (by omega), fun _ => ?_⟩
  refine run_seq (run_wpc _ _ _ _ _ ?_)
  simp only [g0, gB, e0, e1, e2, e3, e4, e5, e6, e7, e8, e9, hm,go_sem,↓reduceIte]
  try refine ⟨fun hneg => absurd hneg (by omega), fun _ => ?_⟩
  refine run_seq (run_wpc _ _ _ _ _ ?_)
  simp only [g0, gB, e0, e1, e2, e3, e4, e5, e6, e7, e8, e9, hm,go_sem,↓reduceIte]
  refine call_dataP (hP ▸ htd) rfl rfl ?_
  simp only [g0, gB, e0, e1, e2, e3, e4, e5, e6, e7, e8, e9, hm,go_sem,↓reduceIte]
  refine c_ownM (hP ▸ hown) (.cons (.r _) .nil) fun lc2 fc2 hp5 n2 hH5 hq5 => ?_
  have g0' := hq5 0 (show 0 < B + 1 by omega)
  have gB' := hq5 B (show B < B + 1 by omega)
  simp only [g0, gB,go_sem,↓reduceIte] at g0' gB'
  obtain ⟨B2, hB2⟩ : ∃ B2, B + 1 + n2 = B2 := ⟨_, rfl⟩
  replace hH5 : HeldM x (B + 1) n2 (.agg [.i x.records, lc2, fc2]) hp5 := hH5
  have hH6 : HeldM x (B + 1) n2 (.agg [.i x.records, lc2, fc2]) ((B2, .var [.i x.records, lc2, fc2]) :: hp5) := hH5.congr fun q q1 q2 => by rw [hget_cons, if_neg (by omega)]
  have hH7 : HeldM (markMon x 1) 2 n (.agg [.i x.records, lc, fc]) ((B2, .var [.i x.records, lc2, fc2]) :: hp5) := hH1.congr fun q q1 q2 => by
    rw [hget_cons, if_neg (by omega)]
    exact hq5 q (show q < B + 1 by omega)
  clear g0 gB hH1 hH5 hq5
  have g0 := g0'
  have gB := gB'
  clear g0' gB'
  have k0 : (B2 = 0) = False := by simp; omega
  have k1 : (B2 = B) = False := by simp; omega
  have k2 : (0 = B2) = False := by simp; omega
  have k3 : (B = B2) = False := by simp; omega
  simp only [hB2, g0, gB, k0, k1, k2, k3, e0, e2, hm,go_sem,↓reduceIte]
  refine run_seq (run_wpc _ _ _ _ _ ?_)
  simp only [g0, gB, k0, k1, k2, k3, e0, e2, hm,go_sem,↓reduceIte]
  refine call_flat (hP ▸ heq) rfl (.cons hH6.vw (.cons (vw_self _ x.ro rfl) .nil)) ?_
  simp only [g0, gB, k0, k1, k2, k3, e0, e2, hm,go_sem,↓reduceIte]
  refine run_seq (run_wpc _ _ _ _ _ ?_)
  simp only [g0, gB, k0, k1, k2, k3, e0, e2, hm,go_sem,↓reduceIte]
  refine run_seq (run_wpc _ _ _ _ _ ?_)
  simp only [g0, gB, k0, k1, k2, k3, e0, e2, hm,go_sem,↓reduceIte]
  refine call_flat (hP ▸ hheld) rfl (.cons hH7.vw (.cons (.r _) .nil)) ?_
  simp only [g0, gB, k0, k1, k2, k3, e0, e2, hm,go_sem,↓reduceIte]
  refine run_seq (run_wpc _ _ _ _ _ ?_)
  simp only [g0, gB, k0, k1, k2, k3, e0, e2, hm,go_sem,↓reduceIte]
  try refine ⟨fun hneg => absurd hneg (by omega), fun _ => ?_⟩
  refine run_seq (run_wpc _ _ _ _ _ ?_)
  simp only [g0, gB, k0, k1, k2, k3, e0, e2, hm,go_sem,↓reduceIte]
  try refine ⟨fun hneg => absurd hneg (by omega), fun _ => ?_⟩
  refine run_wpc _ _ _ _ _ ?_
  simp only [g0, gB, k0, k1, k2, k3, e0, e2, hm,go_sem,↓reduceIte]
theorem spec_FnExactMonitorRun {L : List (List RV)} (h : Okc (.sl recRow) (.ro none L)) : Spec Tryz.prog 3 0 [] [.r (.ro none L)] (fun r _ _ _ => r = .bo true) := by
  obtain ⟨l, rfl, hl, hx⟩ := recs_of h
  exact s_exactMonitorRun l hl hx
end Go.Cap

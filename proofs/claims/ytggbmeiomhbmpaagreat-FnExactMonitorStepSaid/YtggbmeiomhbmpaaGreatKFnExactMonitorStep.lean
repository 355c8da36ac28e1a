import Derived.Test.YtggbmeiomhbmpaaGreatLawE
/- FnExactMonitorStep: its contract. -/
namespace Go.Cap
open Go Go.Proofs
set_option maxRecDepth 100000
set_option linter.unusedSimpArgs false
set_option linter.unusedVariables false
attribute [local irreducible] Call Run Spec Le

set_option maxHeartbeats 2000000 in
theorem s_exactMonitorStep (m : Mon) (text : List UInt8) (hl : m.list.length ≤ 9223372036854775807) (hf : m.found.length ≤ 9223372036854775807) (hs : ∀ a ∈ m.list, ALen a) (htx : text.length ≤ 9223372036854775807) : Spec Tryz.prog 4 0 [] [m.ro, .st text] (fun r _ _ _ => r = .bo true) := by
  refine mr4 rfl fun c hP hm => ?_
  have hsz := s_szMonitor m 1048576 (by omega) hl hf hs
  unfold Mon.ro at hsz
  unfold pc4 Mon.ro
  refine run_seq (run_wpc _ _ _ _ _ ?_)
  simp only [hm,go_sem,↓reduceIte]
  refine run_seq (run_wpc _ _ _ _ _ ?_)
  simp only [hm,go_sem,↓reduceIte]
  intro hlt
  refine run_seq (run_wpc _ _ _ _ _ ?_)
  simp only [hm,go_sem,↓reduceIte]
  refine run_seq (run_wpc _ _ _ _ _ ?_)
  simp only [hm,go_sem,↓reduceIte]
  refine call_pure (hP ▸ hsz) rfl rfl ?_
  simp only [hm,go_sem,↓reduceIte]
  refine run_seq (run_wpc _ _ _ _ _ ?_)
  simp only [hm,go_sem,↓reduceIte]
  intro hz
  have hz' : 0 ≤ szM m 1048576 := by omega
  obtain ⟨z1, z2, z3⟩ := szM_fit hz'
  have hfit := BFit.m hz'
  have hzb := szM_SzB hz'
  have z4 : ∀ a ∈ m.list, a.a.sent.length ≤ 1048576 ∧ a.b.sent.length ≤ 1048576 := fun a ha => ⟨(z3 a ha).1.1, (z3 a ha).2.1⟩
  have htd := s_toMonitorP m z1 z2 z4
  have hto := s_toMonitorM m z1 z2 z4
  have hsp := s_specMonitorStepX m text hfit (by omega)
  have hown := s_implMonitorStepM m text hfit (by omega)
  have hw := monStep_MW m text
  have hs2 := hw.szOk1
  have hf2 : (monStep m text).found.length ≤ 1000000 := by have := hw.2.2; omega
  have hheld := s_heldMonitor (monStep m text) 1 (by omega) hs2 hf2
  have heq := s_eqMonitor (monStep m text)
  have heqm := s_eqMonitor m
  have hend : 0 ≤ endMon (monStep m text) 1 := by
    have := hs2.at ((monStep m text).list.map sz2).length
    rw [List.take_length] at this
    unfold endMon; omega
  have hendm : 0 ≤ endMon m 1 := by
    have := hzb.at (m.list.map sz2).length
    rw [List.take_length] at this
    unfold endMon; omega
  generalize monStep m text = x at *
  clear hsz
  refine run_seq (run_wpc _ _ _ _ _ ?_)
  simp only [hm,go_sem,↓reduceIte]
  refine call_data (hP ▸ htd) rfl rfl ?_
  unfold Mon.ro
  simp only [hm,go_sem,↓reduceIte]
  refine call_dataP (hP ▸ hsp) rfl rfl ?_
  unfold Mon.ro
  simp only [hm,go_sem,↓reduceIte]
  refine run_seq (run_wpc _ _ _ _ _ ?_)
  simp only [hm,go_sem,↓reduceIte]
  refine c_ownM (hP ▸ hto) (.cons (vw_self _ m.ro rfl) .nil) fun lc fc hp1 n hH hq => ?_
  simp only [hm,go_sem,↓reduceIte]
  obtain ⟨B, hB⟩ : ∃ B, 2 + n = B := ⟨_, rfl⟩
  have e0 : (B = 0) = False := by simp; omega
  have e1 : (B = 1) = False := by simp; omega
  have e2 : (0 = B) = False := by simp; omega
  have e3 : (1 = B) = False := by simp; omega
  have h0 := hq 0 (show 0 < 2 by decide)
  have h1 := hq 1 (show 1 < 2 by decide)
  simp only [go_sem, ↓reduceIte] at h0 h1
  rw [hB]
  replace hH : HeldM m 2 n (.agg [.i m.records, lc, fc]) hp1 := hH
  have hX : HeldM m 2 n (.agg [.i m.records, lc, fc]) ((B, .var [.i m.records, lc, fc]) :: hp1) := hH.congr fun q q1 q2 => by rw [hget_cons, if_neg (by omega)]
  obtain ⟨H, hH0⟩ : ∃ H, (B, .var [.i m.records, lc, fc]) :: hp1 = H := ⟨_, rfl⟩
  have g0 : hget H 0 = some (.var [.i m.records, .r (.ro none (m.list.map Assoc.row)), .r (.ro none (m.found.map Fnd.row))]) := by rw [← hH0, hget_cons, if_neg (by omega)]; exact h0
  have g1 : hget H 1 = some (.var [.i x.records, .r (.ro none (x.list.map Assoc.row)), .r (.ro none (x.found.map Fnd.row))]) := by rw [← hH0, hget_cons, if_neg (by omega)]; exact h1
  have gB : hget H B = some (.var [.i m.records, lc, fc]) := by rw [← hH0, hget_cons, if_pos rfl]
  rw [hH0] at hX ⊢
  clear hH0 h0 h1 hq hH hp1
  refine run_seq (run_wpc _ _ _ _ _ ?_)
  simp only [g0, g1, gB, e0, e1, e2, e3, hm,go_sem,↓reduceIte]
  refine c_ownM (hP ▸ hown) (.cons hX.vw (.cons (.r _) .nil)) fun lc2 fc2 hp2 n2 hG0 hq => ?_
  have h0 := hq 0 (show 0 < B + 1 by omega)
  have h1 := hq 1 (show 1 < B + 1 by omega)
  have hBB := hq B (show B < B + 1 by omega)
  simp only [g0, g1, gB,go_sem,↓reduceIte] at h0 h1 hBB
  obtain ⟨B2, hB2⟩ : ∃ B2, B + 1 + n2 = B2 := ⟨_, rfl⟩
  replace hG0 : HeldM x (B + 1) n2 (.agg [.i x.records, lc2, fc2]) hp2 := hG0
  have hX' : HeldM m 2 n (.agg [.i m.records, lc, fc]) ((B2, .var [.i x.records, lc2, fc2]) :: hp2) := hX.congr fun q q1 q2 => by
    rw [hget_cons, if_neg (by omega)]
    exact hq q (show q < B + 1 by omega)
  have hG : HeldM x (B + 1) n2 (.agg [.i x.records, lc2, fc2]) ((B2, .var [.i x.records, lc2, fc2]) :: hp2) := hG0.congr fun q q1 q2 => by rw [hget_cons, if_neg (by omega)]
  have k0 : (B2 = 0) = False := by simp; omega
  have k1 : (B2 = 1) = False := by simp; omega
  have k2 : (0 = B2) = False := by simp; omega
  have k3 : (1 = B2) = False := by simp; omega
  have k4 : (B2 = B) = False := by simp; omega
  have k5 : (B = B2) = False := by simp; omega
  simp only [hB2, e0, e1, e2, e3, k0, k1, k2, k3, k4, k5, hm,go_sem,↓reduceIte]
  obtain ⟨H2, hH0⟩ : ∃ H2, (B2, .var [.i x.records, lc2, fc2]) :: hp2 = H2 := ⟨_, rfl⟩
  rw [hH0] at hX' hG ⊢
  have g0' : hget H2 0 = some (.var [.i m.records, .r (.ro none (m.list.map Assoc.row)), .r (.ro none (m.found.map Fnd.row))]) := by rw [← hH0, hget_cons, if_neg (by omega)]; exact h0
  have g1' : hget H2 1 = some (.var [.i x.records, .r (.ro none (x.list.map Assoc.row)), .r (.ro none (x.found.map Fnd.row))]) := by rw [← hH0, hget_cons, if_neg (by omega)]; exact h1
  have gB' : hget H2 B = some (.var [.i m.records, lc, fc]) := by rw [← hH0, hget_cons, if_neg (by omega)]; exact hBB
  have gC : hget H2 B2 = some (.var [.i x.records, lc2, fc2]) := by rw [← hH0, hget_cons, if_pos rfl]
  clear hH0 h0 h1 hBB hq hX hG0 g0 g1 gB H hp2
  have hX := hX'
  clear hX'
  -- both are as the reference has them
  refine run_seq (run_wpc _ _ _ _ _ ?_)
  simp only [g0', g1', gB', gC, e0, e1, e2, e3, k0, k1, k2, k3, k4, k5, hm,go_sem,↓reduceIte]
  refine call_flat (hP ▸ heq) rfl (.cons hG.vw (.cons (vw_self _ x.ro rfl) .nil)) ?_
  simp only [g0', g1', gB', gC, e0, e1, e2, e3, k0, k1, k2, k3, k4, k5, hm,go_sem,↓reduceIte]
  refine run_seq (run_wpc _ _ _ _ _ ?_)
  simp only [g0', g1', gB', gC, e0, e1, e2, e3, k0, k1, k2, k3, k4, k5, hm,go_sem,↓reduceIte]
  refine call_data (hP ▸ htd) rfl rfl ?_
  unfold Mon.ro
  simp only [g0', g1', gB', gC, e0, e1, e2, e3, k0, k1, k2, k3, k4, k5, hm,go_sem,↓reduceIte]
  refine call_flat (hP ▸ heqm) rfl (.cons hX.vw (.cons (vw_self _ m.ro rfl) .nil)) ?_
  simp only [g0', g1', gB', gC, e0, e1, e2, e3, k0, k1, k2, k3, k4, k5, hm,go_sem,↓reduceIte]
  -- what was handed in is marked
  refine run_seq (run_wpc _ _ _ _ _ ?_)
  simp only [g0', g1', gB', gC, e0, e1, e2, e3, k0, k1, k2, k3, k4, k5, hm,go_sem,↓reduceIte]
  refine run_seq (run_wpc _ _ _ _ _ ?_)
  simp only [g0', g1', gB', gC, e0, e1, e2, e3, k0, k1, k2, k3, k4, k5, hm,go_sem,↓reduceIte]
  refine c_markMonitor hP hX (show 2 + n ≤ B2 + 1 by omega) 1 (by omega) hzb (by omega) fun H3 hH3 hout => ?_
  have h0 := hout 0 (.inl (by omega))
  have h1 := hout 1 (.inl (by omega))
  have hCC := hout B2 (.inr (by omega))
  simp only [g0', g1', gC,go_sem,↓reduceIte] at h0 h1 hCC
  have hG' : HeldM x (B + 1) n2 (.agg [.i x.records, lc2, fc2]) H3 := hG.congr fun q q1 q2 => hout q (.inr (by omega))
  clear g0' g1' gB' gC hX hG hH3 hout
  have hG := hG'
  clear hG'
  simp only [h0, h1, hCC, e0, e1, e2, e3, k0, k1, k2, k3, k4, k5, hm,go_sem,↓reduceIte]
  clear H2
  refine run_seq (run_wpc _ _ _ _ _ ?_)
  simp only [h0, h1, hCC, e0, e1, e2, e3, k0, k1, k2, k3, k4, k5, hm,go_sem,↓reduceIte]
  refine ⟨fun _ => ?_, fun hneg => absurd hneg (by omega)⟩
  refine call_flat (hP ▸ heq) rfl (.cons hG.vw (.cons (vw_self _ x.ro rfl) .nil)) ?_
  simp only [h0, h1, hCC, e0, e1, e2, e3, k0, k1, k2, k3, k4, k5, hm,go_sem,↓reduceIte]
  refine run_seq (run_wpc _ _ _ _ _ ?_)
  simp only [h0, h1, hCC, e0, e1, e2, e3, k0, k1, k2, k3, k4, k5, hm,go_sem,↓reduceIte]
  -- the result is marked and seen
  refine run_seq (run_wpc _ _ _ _ _ ?_)
  simp only [h0, h1, hCC, e0, e1, e2, e3, k0, k1, k2, k3, k4, k5, hm,go_sem,↓reduceIte]
  refine c_markMonitor hP hG (show B + 1 + n2 ≤ B2 + 1 by omega) 1 (by omega) hs2.b (by omega) fun H4 hH4 hout => ?_
  have h0' := hout 0 (.inl (by omega))
  have h1' := hout 1 (.inl (by omega))
  have hC' := hout B2 (.inr (by omega))
  simp only [h0, h1, hCC,go_sem,↓reduceIte] at h0' h1' hC'
  clear h0 h1 hCC hG hout
  have hG := hH4
  clear hH4
  simp only [h0', h1', hC', e0, e1, e2, e3, k0, k1, k2, k3, k4, k5, hm,go_sem,↓reduceIte]
  clear H3
  refine run_seq (run_wpc _ _ _ _ _ ?_)
  simp only [h0', h1', hC', e0, e1, e2, e3, k0, k1, k2, k3, k4, k5, hm,go_sem,↓reduceIte]
  refine run_seq (run_wpc _ _ _ _ _ ?_)
  simp only [h0', h1', hC', e0, e1, e2, e3, k0, k1, k2, k3, k4, k5, hm,go_sem,↓reduceIte]
  refine call_flat (hP ▸ hheld) rfl (.cons hG.vw (.cons (.r _) .nil)) ?_
  simp only [h0', h1', hC', e0, e1, e2, e3, k0, k1, k2, k3, k4, k5, hm,go_sem,↓reduceIte]
  refine run_seq (run_wpc _ _ _ _ _ ?_)
  simp only [h0', h1', hC', e0, e1, e2, e3, k0, k1, k2, k3, k4, k5, hm,go_sem,↓reduceIte]
  try refine ⟨fun hneg => absurd hneg (by omega), fun _ => ?_⟩
  refine run_seq (run_wpc _ _ _ _ _ ?_)
  simp only [h0', h1', hC', e0, e1, e2, e3, k0, k1, k2, k3, k4, k5, hm,go_sem,↓reduceIte]
  try refine ⟨fun hneg => absurd hneg (by omega), fun _ => ?_⟩
  refine run_seq (run_wpc _ _ _ _ _ ?_)
  simp only [h0', h1', hC', e0, e1, e2, e3, k0, k1, k2, k3, k4, k5, hm,go_sem,↓reduceIte]
  refine call_data (hP ▸ htd) rfl rfl ?_
  unfold Mon.ro
  simp only [h0', h1', hC', e0, e1, e2, e3, k0, k1, k2, k3, k4, k5, hm,go_sem,↓reduceIte]
  refine c_ownM (hP ▸ hown) (.cons (vw_self _ m.ro rfl) (.cons (.r _) .nil)) fun lc3 fc3 hp3 n3 hH5 hq => ?_
  have g1 := hq 1 (show 1 < B2 + 1 by omega)
  have gC := hq B2 (show B2 < B2 + 1 by omega)
  simp only [h1', hC',go_sem,↓reduceIte] at g1 gC
  obtain ⟨B3, hB3⟩ : ∃ B3, B2 + 1 + n3 = B3 := ⟨_, rfl⟩
  replace hH5 : HeldM x (B2 + 1) n3 (.agg [.i x.records, lc3, fc3]) hp3 := hH5
  have hH6 : HeldM x (B2 + 1) n3 (.agg [.i x.records, lc3, fc3]) ((B3, .var [.i x.records, lc3, fc3]) :: hp3) := hH5.congr fun q q1 q2 => by rw [hget_cons, if_neg (by omega)]
  have hH7 : HeldM (markMon x 1) (B + 1) n2 (.agg [.i x.records, lc2, fc2]) ((B3, .var [.i x.records, lc3, fc3]) :: hp3) := hG.congr fun q q1 q2 => by
    rw [hget_cons, if_neg (by omega)]
    exact hq q (show q < B2 + 1 by omega)
  clear hG hH5 hq
  have j1 : (B3 = 1) = False := by simp; omega
  have j2 : (1 = B3) = False := by simp; omega
  have j3 : (B3 = B2) = False := by simp; omega
  have j4 : (B2 = B3) = False := by simp; omega
  have j5 : (B3 = 0) = False := by simp; omega
  have j6 : (0 = B3) = False := by simp; omega
  simp only [hB3, g1, gC, j1, j2, j3, j4, j5, j6, k0, k1, k2, k3, hm,go_sem,↓reduceIte]
  refine run_seq (run_wpc _ _ _ _ _ ?_)
  simp only [g1, gC, j1, j2, j3, j4, j5, j6, k0, k1, k2, k3, hm,go_sem,↓reduceIte]
  refine call_flat (hP ▸ heq) rfl (.cons hH6.vw (.cons (vw_self _ x.ro rfl) .nil)) ?_
  simp only [g1, gC, j1, j2, j3, j4, j5, j6, k0, k1, k2, k3, hm,go_sem,↓reduceIte]
  refine run_seq (run_wpc _ _ _ _ _ ?_)
  simp only [g1, gC, j1, j2, j3, j4, j5, j6, k0, k1, k2, k3, hm,go_sem,↓reduceIte]
  refine run_seq (run_wpc _ _ _ _ _ ?_)
  simp only [g1, gC, j1, j2, j3, j4, j5, j6, k0, k1, k2, k3, hm,go_sem,↓reduceIte]
  refine call_flat (hP ▸ hheld) rfl (.cons hH7.vw (.cons (.r _) .nil)) ?_
  simp only [g1, gC, j1, j2, j3, j4, j5, j6, k0, k1, k2, k3, hm,go_sem,↓reduceIte]
  refine run_seq (run_wpc _ _ _ _ _ ?_)
  simp only [g1, gC, j1, j2, j3, j4, j5, j6, k0, k1, k2, k3, hm,go_sem,↓reduceIte]
  try refine ⟨fun hneg => absurd hneg (by omega), fun _ => ?_⟩
  refine run_seq (run_wpc _ _ _ _ _ ?_)
  simp only [g1, gC, j1, j2, j3, j4, j5, j6, k0, k1, k2, k3, hm,go_sem,↓reduceIte]
  try refine ⟨fun hneg => absurd hneg (by omega), fun _ => ?_⟩
  refine run_wpc _ _ _ _ _ ?_
  simp only [g1, gC, j1, j2, j3, j4, j5, j6, k0, k1, k2, k3, hm,go_sem,↓reduceIte]
theorem spec_FnExactMonitorStep {xs : List RV} {text : List UInt8} (h : RowOk monRow xs) (ht : text.length ≤ maxLen) : Spec Tryz.prog 4 0 [] [.agg (xs.map .r), .st text] (fun r _ _ _ => r = .bo true) := by
  obtain ⟨m, e, hl, hf, hs⟩ := mon_of h
  have e2 : maxLen = 9223372036854775807 := by decide
  rw [e2] at ht
  rw [e]
  exact s_exactMonitorStep m text hl hf hs ht
end Go.Cap

import Derived.Test.YtpkemdacmcjgmaaG4
/- FnTalkBack: its contract. -/
namespace Go.Cap
open Go Go.Proofs
set_option maxRecDepth 100000
set_option linter.unusedSimpArgs false
set_option linter.unusedVariables false
attribute [local irreducible] Call Run Spec Le

theorem back_step {l : List Data} {k : Nat} (h : k < l.length) : (l.drop (l.length - (k + 1))).reverse = (l.drop (l.length - k)).reverse ++ [l[l.length - 1 - k]] := by
  have : l.drop (l.length - (k + 1)) = l[l.length - 1 - k] :: l.drop (l.length - k) := by
    rw [List.drop_eq_getElem_cons (by omega)]
    congr 2 <;> omega
  rw [this, List.reverse_cons]
theorem loop_talkBack0 {c : Cx} (hm : c.m = 0) (ps : List Data) (hl : ps.length ≤ 12) (t : Talk) (byB : Bool) (n : Int) {s0 : St} {nn r : St → Prop} {x : Nat → St → Prop}
    (hs : Le c s0 ⟨[(3, .ptr 1 0 0), (4, .bo byB), (5, .sl 2 0 ps.length), (7, .i n), (8, .sl 3 0 0), (9, .i ((ps.length : Int) - 1))], [(3, .row 7 []), (2, .row 7 (ps.map Data.row)), (1, .var [.i t.fr, .i t.to, .i t.a.tag, .i t.a.window, .i t.a.streams, .i t.a.tsn, .i t.b.tag, .i t.b.window, .i t.b.streams, .i t.b.tsn, .i t.size, .sl 0 0 t.says.length]), (0, .row 4 (t.says.map Say.row))], 4, []⟩)
    (hx0 : x 0 ⟨[(3, .ptr 1 0 0), (4, .bo byB), (7, .i n), (8, .sl 3 0 ps.length)], [(3, .row 7 (ps.reverse.map Data.row)), (1, .var [.i t.fr, .i t.to, .i t.a.tag, .i t.a.window, .i t.a.streams, .i t.a.tsn, .i t.b.tag, .i t.b.window, .i t.b.streams, .i t.b.tsn, .i t.size, .sl 0 0 t.says.length]), (0, .row 4 (t.says.map Say.row))], 4, []⟩) :
    Run c (.lp pc13l0) s0 nn x r := by
  refine run_exit 0 (fun t0 => t0 = ⟨[(3, .ptr 1 0 0), (4, .bo byB), (7, .i n), (8, .sl 3 0 ps.length)], [(3, .row 7 (ps.reverse.map Data.row)), (1, .var [.i t.fr, .i t.to, .i t.a.tag, .i t.a.window, .i t.a.streams, .i t.a.tsn, .i t.b.tag, .i t.b.window, .i t.b.streams, .i t.b.tsn, .i t.size, .sl 0 0 t.says.length]), (0, .row 4 (t.says.map Say.row))], 4, []⟩) ?_ (fun t0 h => by rw [h]; exact hx0)
  refine lp_wpc (α := Nat) (fun k => ⟨[(3, .ptr 1 0 0), (4, .bo byB), (5, .sl 2 0 ps.length), (7, .i n), (8, .sl 3 0 (ps.drop (ps.length - k)).reverse.length), (9, .i ((ps.length : Int) - 1 - k))], [(3, .row 7 ((ps.drop (ps.length - k)).reverse.map Data.row)), (2, .row 7 (ps.map Data.row)), (1, .var [.i t.fr, .i t.to, .i t.a.tag, .i t.a.window, .i t.a.streams, .i t.a.tsn, .i t.b.tag, .i t.b.window, .i t.b.streams, .i t.b.tsn, .i t.size, .sl 0 0 t.says.length]), (0, .row 4 (t.says.map Say.row))], 4, []⟩)
    (fun k => k ≤ ps.length) (fun k => ps.length - k) 0 (Nat.zero_le _) (by simpa using hs) ?_
  intro k hk
  unfold pc13l0
  rcases Nat.lt_or_ge k ps.length with hil | hil
  · have hb := back_step hil
    have hpk : ps.length - 1 - k < ps.length := by omega
    have hi : ((ps.length : Int) - 1 - k).toNat = ps.length - 1 - k := by omega
    have hlen : (ps.drop (ps.length - k)).reverse.length = k := by rw [List.length_reverse, List.length_drop]; omega
    simp only [hi, getD_map hpk, Data.row, hm, go_sem, ↓reduceIte]
    generalize (ps.drop (ps.length - k)).reverse = acc at hb hlen ⊢
    generalize ps[ps.length - 1 - k] = d at hb ⊢
    simp only [List.take_of_length_le (i := acc.length) (l := acc.map Data.row) (by simp)]
    rw [wrap64 (x := (ps.length : Int) - 1 - k - 1) (by omega) (by omega)]
    repeat' first | refine And.intro ?_ ?_ | intro _
    all_goals first
      | omega
      | (exfalso; omega)
      | (refine ⟨k + 1, hil, by omega, ?_⟩
         have e2 : (ps.length : Int) - 1 - k - 1 = (ps.length : Int) - 1 - ((k + 1 : Nat) : Int) := by omega
         rw [hb, e2]
         simp only [List.map_append, List.map_cons, List.map_nil, List.length_append, List.length_singleton, Data.row]
         (refine le_ev [] ?_; simp only [hm, go_sem, ↓reduceIte]; first | done | rfl | exact ⟨rfl, rfl⟩))
  · have : k = ps.length := by omega
    subst this
    have e2 : (ps.length : Int) - 1 - ps.length = -1 := by omega
    simp only [e2, Nat.sub_self, List.drop_zero, List.length_reverse, hm, go_sem, ↓reduceIte]
    exact ⟨_, rfl, by (refine le_ev [] ?_; simp only [hm, go_sem, ↓reduceIte]; first | done | rfl | exact ⟨rfl, rfl⟩)⟩
theorem loop_talkBack1 {c : Cx} (hP : c.P = Try.prog) (hm : c.m = 0) (X Y : List Msg) (n : Nat) (hn : n ≤ 4) (hX : X.length ≤ 1000) (hY : Y.length ≤ 1000) (he : ∀ s, ofStr s X = ofStr s Y) {s0 : St} {nn r : St → Prop} {x : Nat → St → Prop}
    (hs : Le c s0 ⟨[(7, .i n), (10, .sl 0 0 X.length), (11, .sl 1 0 Y.length), (12, .i 0)], [(0, .row 4 (X.map Msg.row)), (1, .row 4 (Y.map Msg.row))], 2, []⟩)
    (hx0 : x 2 ⟨[(10, .sl 0 0 X.length), (11, .sl 1 0 Y.length)], [(0, .row 4 (X.map Msg.row)), (1, .row 4 (Y.map Msg.row))], 2, []⟩) :
    Run c (.lp pc13l1) s0 nn x r := by
  refine run_exit 2 (fun t0 => t0 = ⟨[(10, .sl 0 0 X.length), (11, .sl 1 0 Y.length)], [(0, .row 4 (X.map Msg.row)), (1, .row 4 (Y.map Msg.row))], 2, []⟩) ?_ (fun t0 h => by rw [h]; exact hx0)
  refine lp_wpc (α := Nat) (fun k => ⟨[(7, .i n), (10, .sl 0 0 X.length), (11, .sl 1 0 Y.length), (12, .i k)], [(0, .row 4 (X.map Msg.row)), (1, .row 4 (Y.map Msg.row))], 2, []⟩)
    (fun k => k ≤ n) (fun k => n - k) 0 (Nat.zero_le _) hs ?_
  intro k hk
  unfold pc13l1
  simp only [hm, go_sem, ↓reduceIte]
  refine ⟨fun hlt => ?_, fun hge => ?_⟩
  · refine call_new1 (hP ▸ s_ofStream X k (by omega)) rfl (msgClosed _) (.cons (Vw.full rfl (by simp)) (.cons (vw_self _ _ rfl) .nil)) ?_
    simp only [hm, go_sem, ↓reduceIte]
    refine call_new1 (hP ▸ s_ofStream Y k (by omega)) rfl (msgClosed _) (.cons (Vw.full rfl (by simp)) (.cons (vw_self _ _ rfl) .nil)) ?_
    simp only [he, hm, go_sem, ↓reduceIte]
    refine call_flat (hP ▸ s_sameMessages (ofStr k Y)) rfl (.cons (Vw.full rfl (by simp)) (.cons (Vw.full rfl (by simp)) .nil)) ?_
    simp only [hm, go_sem, ↓reduceIte]
    rw [wrap64 (x := (k : Int) + 1) (by omega) (by omega)]
    exact ⟨k + 1, by omega, by omega, by (refine le_ev [] ?_; simp only [hm, go_sem, ↓reduceIte]; first | done | rfl | exact ⟨rfl, rfl⟩)⟩
  · exact ⟨_, rfl, by (refine le_ev [] ?_; simp only [hm, go_sem, ↓reduceIte]; first | done | rfl | exact ⟨rfl, rfl⟩)⟩
theorem spec_FnTalkBack {L : List (List RV)} (h : Okc (.sl [.i .u8]) (.ro none L)) : Spec Try.prog 13 0 [] [.r (.ro none L)] (fun r _ _ _ => r = .bo true) := by
  obtain ⟨code, rfl, hlen⟩ := bytes_of h
  have e : maxLen = 9223372036854775807 := by decide
  rw [e] at hlen
  refine mk13 rfl fun c hP hm => ?_
  unfold pc13
  simp only [go_sem, ↓reduceIte]
  intro _
  intro hcut
  refine c_drawTB (hP ▸ s_DrawTalkParts code) fun t byB h3 h4 => ?_
  simp only [Talk.av, go_sem, ↓reduceIte]
  by_cases hv : talkB t = true
  · refine call_new1 (hP ▸ s_implTalkParts1 t byB (by omega) hv) rfl (dataClosed _) (.cons (vw_talk (t := t) rfl rfl) (.cons (.r _) .nil)) ?_
    simp only [go_sem, ↓reduceIte]
    refine call_new1 (hP ▸ s_specTalkParts t byB (by omega) (fun s hs => Nat.le_trans (h4 s hs) (by decide))) rfl (dataClosed _) (.cons (vw_talk (t := t) rfl rfl) (.cons (.r _) .nil)) ?_
    simp only [go_sem, ↓reduceIte]
    refine call_flat (hP ▸ s_sameParts (talkParts t byB)) rfl (.cons (Vw.full rfl (by simp)) (.cons (Vw.full rfl (by simp)) .nil)) ?_
    simp only [go_sem, ↓reduceIte]
    refine call_flat (hP ▸ s_specTalkValid t (by omega) (fun s hs => Nat.le_trans (h4 s hs) (by decide))) rfl (.cons (vw_talk (t := t) rfl rfl) .nil) ?_
    simp only [hv, go_sem, ↓reduceIte]
    have h12 := talkParts_12 t byB hv
    have htx := talkParts_texts t byB
    obtain ⟨n, en, hn, hseq, hlast⟩ := talk_seq hv byB
    obtain ⟨hrl, hrs⟩ := hseq.any h12 hn hlast (List.reverse_perm _)
    have hcall := s_implAsmRun1 n (talkParts t byB).reverse hn (by rw [List.length_reverse]; omega) (fun d hd => by have := htx d (List.mem_reverse.1 hd); omega)
    have hsl : (said (talkParts t byB)).length ≤ 12 := Nat.le_trans (saidSt_len _ 9223372036854775807 (fun d hd => by have := htx d hd; omega)).1 h12
    cases byB
    all_goals
      simp only [Talk.init, Bool.false_eq_true, if_false, if_true] at en
      rw [← en] at hcall hrl hrs
      simp only [go_sem, ↓reduceIte]
      intro _
      rw [wrap64 (by omega) (by omega)]
      refine loop_talkBack0 hm (talkParts t _) h12 t _ _ (by (refine le_ev [(2, 2), (3, 4)] ?_; simp only [hm, go_sem, ↓reduceIte]; first | done | rfl | exact ⟨rfl, rfl⟩)) ?_
      simp only [hm, go_sem, ↓reduceIte]
      refine call_new1 (hP ▸ hcall) rfl (msgClosed _) (.cons (.r _) (.cons (Vw.full rfl (by simp)) .nil)) ?_
      simp only [hm, go_sem, ↓reduceIte]
      refine call_new1 (hP ▸ s_implTalkSaid1 t _ (by omega) hv) rfl (msgClosed _) (.cons (vw_talk (t := t) rfl rfl) (.cons (.r _) .nil)) ?_
      simp only [en, hm, go_sem, ↓reduceIte] at hrl hrs ⊢
      refine loop_talkBack1 hP hm _ (talkSaid t _) n hn.2 (by rw [hrl]; omega) (by unfold talkSaid; omega) hrs (by (refine le_ev [(0, 4), (1, 5)] ?_; simp only [hm, go_sem, ↓reduceIte]; first | done | rfl | exact ⟨rfl, rfl⟩)) ?_
      simp only [hrl, hm, go_sem, ↓reduceIte]
      intro _ _
      simp [talkSaid]
  · refine call_val (hP ▸ s_implTalkParts0 t byB (by omega) hv) rfl (fun _ => rfl) (.cons (vw_talk (t := t) rfl rfl) (.cons (.r _) .nil)) ?_
    simp only [go_sem, ↓reduceIte]
    refine call_new1 (hP ▸ s_specTalkParts t byB (by omega) (fun s hs => Nat.le_trans (h4 s hs) (by decide))) rfl (dataClosed _) (.cons (vw_talk (t := t) rfl rfl) (.cons (.r _) .nil)) ?_
    simp only [talkParts_bad hv, go_sem, ↓reduceIte]
    refine call_flat (hP ▸ s_sameParts_nil) rfl (.cons (.r _) (.cons (Vw.full rfl (by simp)) .nil)) ?_
    simp only [go_sem, ↓reduceIte]
    refine call_flat (hP ▸ s_specTalkValid t (by omega) (fun s hs => Nat.le_trans (h4 s hs) (by decide))) rfl (.cons (vw_talk (t := t) rfl rfl) .nil) ?_
    simp only [hv, go_sem, ↓reduceIte]
    refine call_flat (hP ▸ s_sameParts_nil) rfl (.cons (.r _) (.cons (Vw.full rfl (by simp)) .nil)) ?_
    simp only [go_sem, ↓reduceIte]
end Go.Cap

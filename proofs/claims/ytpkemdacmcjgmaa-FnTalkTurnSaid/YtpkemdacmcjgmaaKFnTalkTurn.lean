import Derived.Test.YtpkemdacmcjgmaaG4
/- FnTalkTurn: its contract. -/
namespace Go.Cap
open Go Go.Proofs
set_option maxRecDepth 100000
set_option linter.unusedSimpArgs false
set_option linter.unusedVariables false
attribute [local irreducible] Call Run Spec Le

theorem loop_talkTurn0 {c : Cx} (hP : c.P = Try.prog) (hm : c.m = 0) (X Y : List Msg) (n : Nat) (hn : n ≤ 4) (hX : X.length ≤ 1000) (hY : Y.length ≤ 1000) (he : ∀ s, ofStr s X = ofStr s Y) {s0 : St} {nn r : St → Prop} {x : Nat → St → Prop}
    (hs : Le c s0 ⟨[(9, .i n), (11, .sl 0 0 X.length), (12, .sl 1 0 Y.length), (13, .i 0)], [(0, .row 4 (X.map Msg.row)), (1, .row 4 (Y.map Msg.row))], 2, []⟩)
    (hx0 : x 0 ⟨[(11, .sl 0 0 X.length), (12, .sl 1 0 Y.length)], [(0, .row 4 (X.map Msg.row)), (1, .row 4 (Y.map Msg.row))], 2, []⟩) :
    Run c (.lp pc14l0) s0 nn x r := by
  refine run_exit 0 (fun t0 => t0 = ⟨[(11, .sl 0 0 X.length), (12, .sl 1 0 Y.length)], [(0, .row 4 (X.map Msg.row)), (1, .row 4 (Y.map Msg.row))], 2, []⟩) ?_ (fun t0 h => by rw [h]; exact hx0)
  refine lp_wpc (α := Nat) (fun k => ⟨[(9, .i n), (11, .sl 0 0 X.length), (12, .sl 1 0 Y.length), (13, .i k)], [(0, .row 4 (X.map Msg.row)), (1, .row 4 (Y.map Msg.row))], 2, []⟩)
    (fun k => k ≤ n) (fun k => n - k) 0 (Nat.zero_le _) hs ?_
  intro k hk
  unfold pc14l0
  simp only [hm, go_sem, ↓reduceIte]
  refine ⟨fun hlt => ?_, fun hge => ?_⟩
  · refine call_new1 (hP ▸ s_ofStream X k (by omega)) rfl (msgClosed _) (.cons (Vw.full rfl (by simp)) (.cons (vw_self _ _ rfl) .nil)) ?_
    simp only [hm, go_sem, ↓reduceIte]
    refine call_new1 (hP ▸ s_ofStream Y k (by omega)) rfl (msgClosed _) (.cons (Vw.full rfl (by simp)) (.cons (vw_self _ _ rfl) .nil)) ?_
    simp only [he, hm, go_sem, ↓reduceIte]
    refine call_flat (hP ▸ s_sameMessages (ofStr k Y)) rfl (.cons (Vw.full rfl (by simp)) (.cons (Vw.full rfl (by simp)) .nil)) ?_
    simp only [hm, go_sem, ↓reduceIte]
    rw [wrap64 (x := (k : Int) + 1) (by omega) (by omega)]
    exact ⟨k + 1, by omega, by omega, by (refine le_ev [] ?_; simp only [hm, go_sem, ↓reduceIte]; first | done | rfl | exact ⟨rfl, rfl⟩)⟩
  · exact ⟨_, rfl, by (refine le_ev [] ?_; simp only [hm, go_sem, ↓reduceIte]; first | done | rfl | exact ⟨rfl, rfl⟩)⟩
theorem spec_FnTalkTurn {L : List (List RV)} (h : Okc (.sl [.i .u8]) (.ro none L)) {L2 : List (List RV)} (h2 : Okc (.sl [.i .u8]) (.ro none L2)) : Spec Try.prog 14 0 [] [.r (.ro none L), .r (.ro none L2)] (fun r _ _ _ => r = .bo true) := by
  obtain ⟨code, rfl, hlen⟩ := bytes_of h
  obtain ⟨more, rfl, hlen2⟩ := bytes_of h2
  have e : maxLen = 9223372036854775807 := by decide
  rw [e] at hlen hlen2
  refine mk14 rfl fun c hP hm => ?_
  unfold pc14
  simp only [go_sem, ↓reduceIte]
  intro _ hcut _ hcut2
  refine c_drawTB (hP ▸ s_DrawTalkParts code) fun t byB h3 h4 => ?_
  simp only [Talk.av, go_sem, ↓reduceIte]
  by_cases hv : talkB t = true
  · refine call_new1 (hP ▸ s_implTalkParts1 t byB (by omega) hv) rfl (dataClosed _) (.cons (vw_talk (t := t) rfl rfl) (.cons (.r _) .nil)) ?_
    simp only [go_sem, ↓reduceIte]
    refine call_new1 (hP ▸ s_specTalkParts t byB (by omega) (fun s hs => Nat.le_trans (h4 s hs) (by decide))) rfl (dataClosed _) (.cons (vw_talk (t := t) rfl rfl) (.cons (.r _) .nil)) ?_
    simp only [go_sem, ↓reduceIte]
    refine call_flat (hP ▸ s_sameParts (talkParts t byB)) rfl (.cons (Vw.full rfl (by simp)) (.cons (Vw.full rfl (by simp)) .nil)) ?_
    simp only [go_sem, ↓reduceIte]
    refine call_flat (hP ▸ s_specTalkValid t (by omega) (fun s hs => Nat.le_trans (h4 s hs) (by decide))) rfl (.cons (vw_talk (t := t) rfl rfl) .nil) ?_
    simp only [hv, go_sem, ↓reduceIte]
    have h12 := talkParts_12 t byB hv
    have htx := talkParts_texts t byB
    obtain ⟨n, en, hn, hseq, hlast⟩ := talk_seq hv byB
    have hsl : (said (talkParts t byB)).length ≤ 12 := Nat.le_trans (saidSt_len _ 9223372036854775807 (fun d hd => by have := htx d hd; omega)).1 h12
    refine fun _ => ⟨fun h0 => ?_, fun h0 => ?_⟩
    · refine call_flat (hP ▸ s_sameParts (talkParts t byB)) rfl (.cons (Vw.full rfl (by simp)) (.cons (Vw.full rfl (by simp)) .nil)) ?_
      simp only [go_sem, ↓reduceIte]
    · obtain ⟨k, hkd⟩ : ∃ k, k = more.length % (talkParts t byB).length := ⟨_, rfl⟩
      have hpos : 0 < (talkParts t byB).length := by omega
      have hk : k < (talkParts t byB).length := by rw [hkd]; exact Nat.mod_lt _ hpos
      have htm : ((more.length : Int).tmod (talkParts t byB).length) = (k : Int) := by rw [hkd]; rfl
      have e1 : List.take ((talkParts t byB).length - k) (List.drop k ((talkParts t byB).map Data.row)) = ((talkParts t byB).drop k).map Data.row := by rw [← List.map_drop, List.take_of_length_le (by simp)]
      have e2 : List.take k ((talkParts t byB).map Data.row) = ((talkParts t byB).take k).map Data.row := List.map_take.symm
      have hperm : ((talkParts t byB).drop k ++ (talkParts t byB).take k).Perm (talkParts t byB) := by
        conv => rhs; rw [← List.take_append_drop k (talkParts t byB)]
        exact List.perm_append_comm
      obtain ⟨hrl, hrs⟩ := hseq.any h12 hn hlast hperm
      have hql : ((talkParts t byB).drop k ++ (talkParts t byB).take k).length = (talkParts t byB).length := hperm.length_eq
      have hcall := s_implAsmRun1 n ((talkParts t byB).drop k ++ (talkParts t byB).take k) hn (by rw [hql]; omega) (fun d hd => by have := htx d (hperm.mem_iff.1 hd); omega)
      have hl1 : ((talkParts t byB).drop k).length = (talkParts t byB).length - k := List.length_drop
      have hl2 : ((talkParts t byB).take k).length = k := by rw [List.length_take]; omega
      simp only [htm, Int.toNat_natCast, Nat.sub_zero, e1, e2, List.length_map, hl1, hl2]
      cases byB
      all_goals
        simp only [Talk.init, Bool.false_eq_true, if_false, if_true] at en
        rw [← en] at hcall hrl hrs
        simp only [hm, go_sem, ↓reduceIte]
        refine fun _ _ => ⟨by omega, by omega, by omega, by omega, by omega, by omega, by omega, ?_⟩
        rw [List.take_of_length_le (i := (talkParts t _).length - k) (l := (List.drop k (talkParts t _)).map Data.row) (by simp), ← List.map_append]
        refine call_new1 (hP ▸ hcall) rfl (msgClosed _) (.cons (.r _) (.cons (Vw.full rfl (by rw [List.length_map, hql]; omega)) .nil)) ?_
        simp only [hm, go_sem, ↓reduceIte]
        refine call_new1 (hP ▸ s_implTalkSaid1 t _ (by omega) hv) rfl (msgClosed _) (.cons (vw_talk (t := t) rfl rfl) (.cons (.r _) .nil)) ?_
        simp only [en, hm, go_sem, ↓reduceIte] at hrl hrs ⊢
        refine loop_talkTurn0 hP hm _ (talkSaid t _) n hn.2 (by rw [hrl]; omega) (by unfold talkSaid; omega) hrs (by (refine le_ev [(0, 5), (1, 6)] ?_; simp only [hm, go_sem, ↓reduceIte]; first | done | rfl | exact ⟨rfl, rfl⟩)) ?_
        simp only [hrl, hm, go_sem, ↓reduceIte]
        intro _ _
        simp [talkSaid]
  · refine call_val (hP ▸ s_implTalkParts0 t byB (by omega) hv) rfl (fun _ => rfl) (.cons (vw_talk (t := t) rfl rfl) (.cons (.r _) .nil)) ?_
    simp only [go_sem, ↓reduceIte]
    refine call_new1 (hP ▸ s_specTalkParts t byB (by omega) (fun s hs => Nat.le_trans (h4 s hs) (by decide))) rfl (dataClosed _) (.cons (vw_talk (t := t) rfl rfl) (.cons (.r _) .nil)) ?_
    simp only [talkParts_bad hv, go_sem, ↓reduceIte]
    refine call_flat (hP ▸ s_sameParts_nil) rfl (.cons (.r _) (.cons (Vw.full rfl (by simp)) .nil)) ?_
    simp only [go_sem, ↓reduceIte]
    refine call_flat (hP ▸ s_specTalkValid t (by omega) (fun s hs => Nat.le_trans (h4 s hs) (by decide))) rfl (.cons (vw_talk (t := t) rfl rfl) .nil) ?_
    simp only [hv, go_sem, ↓reduceIte]
    refine call_flat (hP ▸ s_sameParts_nil) rfl (.cons (.r _) (.cons (Vw.full rfl (by simp)) .nil)) ?_
    simp only [go_sem, ↓reduceIte]
end Go.Cap

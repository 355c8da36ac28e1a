import Derived.Test.YtfanhpebfnbobaaLawB
/- FnExactTalkPackets: its contract. -/
namespace Go.Cap
open Go Go.Proofs
set_option maxRecDepth 100000
set_option linter.unusedSimpArgs false
set_option linter.unusedVariables false
attribute [local irreducible] Call Run Spec Le

theorem talkPk_few {t : Talk} : (talkPk t).length ≤ 60 := by
  by_cases hv : talkB t = true
  · have h1 := talkParts_12 t false hv
    have h2 := talkParts_12 t true hv
    rw [talkPk_len hv]; omega
  · have : talkPk t = [] := by unfold talkPk; rw [if_neg hv]
    rw [this]; simp
theorem s_toSaySP (l : List Say) (hl : l.length ≤ 1048576) : Spec Try.prog 83 0 [] [.r (.ro none (l.map Say.row))] (Plain fun r => r = .r (.ro none (l.map Say.row))) := by
  have := s_toSayS l hl
  rw [← List.length_map (f := Say.row)] at this
  exact this.dataP
theorem s_toTalkP (t : Talk) (hl : t.says.length ≤ 1048576) : Spec Try.prog 36 0 [] [t.ro] (fun r _ _ _ => r = t.ro) := by
  refine mk36 rfl fun c hP hm => ?_
  unfold pc36 Talk.ro Talk.av
  simp only [go_sem, ↓reduceIte]
  refine call_pure (hP ▸ s_toInit t.a) rfl rfl ?_
  simp only [Init.av, go_sem, ↓reduceIte]
  refine call_pure (hP ▸ s_toInit t.b) rfl rfl ?_
  simp only [Init.av, go_sem, ↓reduceIte]
  refine call_dataP (hP ▸ s_toSaySP t.says hl) rfl rfl ?_
  simp only [go_sem, ↓reduceIte]
theorem s_implTalkPackets0 (t : Talk) (hl : t.says.length ≤ 1048576) (hx : ∀ s ∈ t.says, s.text.length ≤ 1048576) (hv : talkB t = false) : Spec Try.prog 37 0 [] [t.ro] (fun r _ _ _ => r = .r .nil) := by
  refine mr37 rfl fun c hP hm => ?_
  unfold pc37 Talk.ro Talk.av
  refine run_seq (run_wpc _ _ _ _ _ ?_)
  simp only [hm, go_sem, ↓reduceIte]
  refine run_seq (run_wpc _ _ _ _ _ ?_)
  simp only [hm, go_sem, ↓reduceIte]
  refine call_pure (hP ▸ s_implTalkValid t (by omega)) rfl rfl ?_
  simp only [hv, hm, go_sem, ↓reduceIte]
theorem s_markPacketS_nil (n : Int) : Spec Try.prog 41 0 [] [.r .nil, .i n] (fun r _ _ _ => r = .i n) := by
  refine mk41 rfl fun c hP hm => ?_
  unfold pc41
  simp only [go_sem, ↓reduceIte]
  refine lp_wpc (α := Unit) (fun _ => ⟨[(0, .r .nil), (1, .i n), (5, .i 0)], [], 0, []⟩) (fun _ => True) (fun _ => 0) () trivial (Le.refl _) ?_
  intro i hi
  unfold pc41l0
  simp only [go_sem, ↓reduceIte]
theorem s_exactTalkPackets (t : Talk) (hl : t.says.length ≤ maxLen) (hx : ∀ s ∈ t.says, s.text.length ≤ maxLen) : Spec Try.prog 9 0 [] [t.ro] (fun r _ _ _ => r = .bo true) := by
  have e : maxLen = 9223372036854775807 := by decide
  rw [e] at hl hx
  refine mr9 rfl fun c hP hm => ?_
  have hsz := s_szTalk t 1048576 (by omega) (by omega) (fun s hs => by have := hx s hs; omega)
  unfold pc9
  unfold Talk.ro Talk.av at hsz ⊢
  refine run_seq (run_wpc _ _ _ _ _ ?_)
  simp only [hm, go_sem, ↓reduceIte]
  refine run_seq (run_wpc _ _ _ _ _ ?_)
  simp only [hm, go_sem, ↓reduceIte]
  refine run_seq (run_wpc _ _ _ _ _ ?_)
  simp only [hm, go_sem, ↓reduceIte]
  refine call_pure (hP ▸ hsz) rfl rfl ?_
  simp only [hm, go_sem, ↓reduceIte]
  refine run_seq (run_wpc _ _ _ _ _ ?_)
  simp only [hm, go_sem, ↓reduceIte]
  intro hz
  have hz' : 0 ≤ szSays t.says 1048576 := by
    split at hz
    · omega
    · omega
  obtain ⟨hl', hx'⟩ := szSays_ok hz'
  have htd := s_toTalkP t hl'
  have hto := s_toTalk t hl'
  have hsp := s_specTalkPackets t hl' hx'
  have hpd := s_implTalkPackets t hl' hx'
  have hmt := s_markTalk t 1 (by omega) hl'
  unfold Talk.ro Talk.av at htd
  unfold Talk.ro at hto
  unfold Talk.av at hto hmt
  unfold Talk.ro Talk.av at hsp hpd
  refine run_seq (run_wpc _ _ _ _ _ ?_)
  simp only [hm, go_sem, ↓reduceIte]
  refine call_data (hP ▸ htd) rfl rfl ?_
  simp only [hm, go_sem, ↓reduceIte]
  refine call_dataP (hP ▸ hsp) rfl rfl ?_
  simp only [hm, go_sem, ↓reduceIte]
  refine run_seq (run_wpc _ _ _ _ _ ?_)
  simp only [hm, go_sem, ↓reduceIte]
  refine call_new1 (hP ▸ hto) rfl (sayClosed _) (vws_self _ _ rfl) ?_
  simp only [hm, go_sem, ↓reduceIte]
  refine run_seq (run_wpc _ _ _ _ _ ?_)
  simp only [hm, go_sem, ↓reduceIte]
  by_cases hv : talkB t = true
  · refine c_talkPackets hP t hl' hx' hv (.cons (vw_talk (t := t) rfl rfl) .nil) fun cs hN hF => ?_
    simp only [hm, go_sem, ↓reduceIte]
    have hN : Nest (3 + 1) (talkPk t) cs := hN
    have hF : Forms (3 + 1) (talkPk t).length cs := hF
    have hch : ∀ p ∈ talkPk t, p.chunks.length = 1 := fun p hp => by
      obtain ⟨i, hi, rfl⟩ := List.getElem_of_mem hp
      exact (talkPk_props hv hi).2.1
    have hpl := talkPk_few (t := t)
    have hml : (marks markPk 6 (talkPk t).length 1).length = (talkPk t).length := marks_len ..
    have hheld := s_heldPacketS (talkPk t).length 1 (by omega) (by omega)
    generalize talkPk t = pk at *
    refine run_le (le_hsub (sl' := [(1, .ptr 0 0 0), (4, .r (.ro none (pk.map Packet.row))), (5, .ptr 2 0 0), (6, .sl 3 0 pk.length)]) (hp' := [(2, .var [.i t.fr, .i t.to, .i t.a.tag, .i t.a.window, .i t.a.streams, .i t.a.tsn, .i t.b.tag, .i t.b.window, .i t.b.streams, .i t.b.tsn, .i t.size, .sl 1 0 t.says.length]), (1, .row 4 (t.says.map Say.row)), (0, .var t.cells)] ++ (3, .var cs) :: nestP (3 + 1) pk) (by simp only [go_sem, ↓reduceIte]) (nest_last rfl)) ?_
    refine run_seq (run_wpc _ _ _ _ _ ?_)
    simp only [hm, go_sem, ↓reduceIte]
    refine call_flat (hP ▸ s_eqPacketS pk) rfl (.cons (vw_nest (b := 3) rfl hN (nest_at (C := [(2, .var [.i t.fr, .i t.to, .i t.a.tag, .i t.a.window, .i t.a.streams, .i t.a.tsn, .i t.b.tag, .i t.b.window, .i t.b.streams, .i t.b.tsn, .i t.size, .sl 1 0 t.says.length]), (1, .row 4 (t.says.map Say.row)), (0, .var t.cells)]) rfl)) (.cons (.r _) .nil)) ?_
    simp only [hm, go_sem, ↓reduceIte]
    refine run_seq (run_wpc _ _ _ _ _ ?_)
    simp only [hm, go_sem, ↓reduceIte]
    refine call_data (hP ▸ htd) rfl rfl ?_
    simp only [hm, go_sem, ↓reduceIte]
    refine call_flat (hP ▸ s_eqTalk t) rfl (.cons (vw_talk (t := t) rfl rfl) (.cons (vw_self _ _ rfl) .nil)) ?_
    simp only [hm, go_sem, ↓reduceIte]
    refine run_seq (run_wpc _ _ _ _ _ ?_)
    simp only [hm, go_sem, ↓reduceIte]
    refine run_seq (run_wpc _ _ _ _ _ ?_)
    simp only [hm, go_sem, ↓reduceIte]
    refine call_named 1 (hP ▸ hmt) rfl rfl rfl ?_ ?_
    · rintro r B ⟨rfl, rfl⟩; exact ⟨rfl, rfl⟩
    rintro r B ⟨rfl, rfl⟩
    simp only [hm, go_sem, ↓reduceIte]
    rw [show hdel (nestP 4 pk) 1 = nestP 4 pk from hdel_nestP (by decide)]
    refine run_seq (run_wpc _ _ _ _ _ ?_)
    simp only [hm, go_sem, ↓reduceIte]
    refine ⟨fun _ => ?_, fun h => absurd h (by omega)⟩
    refine call_flat (hP ▸ s_eqPacketS pk) rfl (.cons (vw_nest (b := 3) rfl hN (nest_at (C := [(1, .row 4 ((marks markSay 4 t.says.length 1).map Say.row)), (2, .var [.i t.fr, .i t.to, .i t.a.tag, .i t.a.window, .i t.a.streams, .i t.a.tsn, .i t.b.tag, .i t.b.window, .i t.b.streams, .i t.b.tsn, .i t.size, .sl 1 0 t.says.length]), (0, .var t.cells)]) rfl)) (.cons (.r _) .nil)) ?_
    simp only [hm, go_sem, ↓reduceIte]
    refine run_seq (run_wpc _ _ _ _ _ ?_)
    simp only [hm, go_sem, ↓reduceIte]
    refine run_seq (run_wpc _ _ _ _ _ ?_)
    simp only [hm, go_sem, ↓reduceIte]
    refine c_markPacketS hP 3 pk cs 1 (by omega) (by omega) hch rfl (nest_at (C := [(1, .row 4 ((marks markSay 4 t.says.length 1).map Say.row)), (2, .var [.i t.fr, .i t.to, .i t.a.tag, .i t.a.window, .i t.a.streams, .i t.a.tsn, .i t.b.tag, .i t.b.window, .i t.b.streams, .i t.b.tsn, .i t.size, .sl 1 0 t.says.length]), (0, .var t.cells)]) rfl) hN hF fun cs' hp' hN' hq => ?_
    simp only [hm, go_sem, ↓reduceIte]
    refine run_le (le_hsub (sl' := [(1, .ptr 0 0 0), (4, .r (.ro none (pk.map Packet.row))), (6, .sl 3 0 pk.length), (8, .i (1 + 6 * pk.length))]) (hp' := [(1, .row 4 ((marks markSay 4 t.says.length 1).map Say.row)), (2, .var [.i t.fr, .i t.to, .i t.a.tag, .i t.a.window, .i t.a.streams, .i t.a.tsn, .i t.b.tag, .i t.b.window, .i t.b.streams, .i t.b.tsn, .i t.size, .sl 1 0 t.says.length]), (0, .var t.cells)] ++ (3, .var cs') :: nestP (3 + 1) (marks markPk 6 pk.length 1)) (by simp only [go_sem, ↓reduceIte]) (nest_marked (C := [(1, .row 4 ((marks markSay 4 t.says.length 1).map Say.row)), (2, .var [.i t.fr, .i t.to, .i t.a.tag, .i t.a.window, .i t.a.streams, .i t.a.tsn, .i t.b.tag, .i t.b.window, .i t.b.streams, .i t.b.tsn, .i t.size, .sl 1 0 t.says.length]), (0, .var t.cells)]) (v := .var cs) (O := pk) rfl hml hq)) ?_
    have hvw : Vw ([(1, .row 4 ((marks markSay 4 t.says.length 1).map Say.row)), (2, .var [.i t.fr, .i t.to, .i t.a.tag, .i t.a.window, .i t.a.streams, .i t.a.tsn, .i t.b.tag, .i t.b.window, .i t.b.streams, .i t.b.tsn, .i t.size, .sl 1 0 t.says.length]), (0, .var t.cells)] ++ (3, .var cs') :: nestP (3 + 1) (marks markPk 6 pk.length 1)) (.sl 3 0 pk.length) (.r (.ro none ((marks markPk 6 pk.length 1).map Packet.row))) := by
      have := vw_nest (b := 3) (hp := [(1, .row 4 ((marks markSay 4 t.says.length 1).map Say.row)), (2, .var [.i t.fr, .i t.to, .i t.a.tag, .i t.a.window, .i t.a.streams, .i t.a.tsn, .i t.b.tag, .i t.b.window, .i t.b.streams, .i t.b.tsn, .i t.size, .sl 1 0 t.says.length]), (0, .var t.cells)] ++ (3, .var cs') :: nestP (3 + 1) (marks markPk 6 pk.length 1)) rfl hN' (nest_at (C := [(1, .row 4 ((marks markSay 4 t.says.length 1).map Say.row)), (2, .var [.i t.fr, .i t.to, .i t.a.tag, .i t.a.window, .i t.a.streams, .i t.a.tsn, .i t.b.tag, .i t.b.window, .i t.b.streams, .i t.b.tsn, .i t.size, .sl 1 0 t.says.length]), (0, .var t.cells)]) rfl)
      rwa [hml] at this
    refine run_seq (run_wpc _ _ _ _ _ ?_)
    simp only [hm, go_sem, ↓reduceIte]
    refine run_seq (run_wpc _ _ _ _ _ ?_)
    simp only [hm, go_sem, ↓reduceIte]
    refine call_flat (hP ▸ hheld) rfl (.cons hvw (.cons (.r _) .nil)) ?_
    simp only [hm, go_sem, ↓reduceIte]
    refine run_seq (run_wpc _ _ _ _ _ ?_)
    simp only [hm, go_sem, ↓reduceIte]
    refine ⟨fun h => absurd h (by omega), fun _ => ?_⟩
    refine run_seq (run_wpc _ _ _ _ _ ?_)
    simp only [hm, go_sem, ↓reduceIte]
    refine run_seq (run_wpc _ _ _ _ _ ?_)
    simp only [hm, go_sem, ↓reduceIte]
    refine call_data (hP ▸ htd) rfl rfl ?_
    simp only [hm, go_sem, ↓reduceIte]
    refine call_dataP (hP ▸ hpd) rfl rfl ?_
    simp only [hm, go_sem, ↓reduceIte]
    refine run_seq (run_wpc _ _ _ _ _ ?_)
    simp only [hm, go_sem, ↓reduceIte]
    refine call_pure (hP ▸ s_eqPacketS pk) rfl rfl ?_
    simp only [hm, go_sem, ↓reduceIte]
    refine run_seq (run_wpc _ _ _ _ _ ?_)
    simp only [hm, go_sem, ↓reduceIte]
    refine run_seq (run_wpc _ _ _ _ _ ?_)
    simp only [hm, go_sem, ↓reduceIte]
    refine call_flat (hP ▸ hheld) rfl (.cons hvw (.cons (.r _) .nil)) ?_
    simp only [hm, go_sem, ↓reduceIte]
    refine run_seq (run_wpc _ _ _ _ _ ?_)
    simp only [hm, go_sem, ↓reduceIte]
    refine ⟨fun h => absurd h (by omega), fun _ => ?_⟩
    refine run_seq (run_wpc _ _ _ _ _ ?_)
    simp only [hm, go_sem, ↓reduceIte]
    refine run_wpc _ _ _ _ _ ?_
    simp only [hm, go_sem, ↓reduceIte]
  · have hv' : talkB t = false := by simpa using hv
    have hb : talkPk t = [] := by unfold talkPk; rw [if_neg hv]
    have hp0 := s_implTalkPackets0 t hl' hx' hv'
    rw [hb] at hpd ⊢
    have hheld := s_heldPacketS 0 1 (by omega) (by omega)
    rw [show (marks markPk 6 0 1).map Packet.row = [] from rfl, show (1 : Int) + 6 * ((0 : Nat) : Int) = 1 from rfl] at hheld
    refine call_val (hP ▸ hp0) rfl (fun _ => rfl) (.cons (vw_talk (t := t) rfl rfl) .nil) ?_
    simp only [hm, go_sem, ↓reduceIte]
    refine run_seq (run_wpc _ _ _ _ _ ?_)
    simp only [hm, go_sem, ↓reduceIte]
    refine call_flat (hP ▸ s_eqPacketS []) rfl (.cons Vw.nil (.cons (.r _) .nil)) ?_
    simp only [hm, go_sem, ↓reduceIte]
    refine run_seq (run_wpc _ _ _ _ _ ?_)
    simp only [hm, go_sem, ↓reduceIte]
    refine call_data (hP ▸ htd) rfl rfl ?_
    simp only [hm, go_sem, ↓reduceIte]
    refine call_flat (hP ▸ s_eqTalk t) rfl (.cons (vw_talk (t := t) rfl rfl) (.cons (vw_self _ _ rfl) .nil)) ?_
    simp only [hm, go_sem, ↓reduceIte]
    refine run_seq (run_wpc _ _ _ _ _ ?_)
    simp only [hm, go_sem, ↓reduceIte]
    refine run_seq (run_wpc _ _ _ _ _ ?_)
    simp only [hm, go_sem, ↓reduceIte]
    refine call_named 1 (hP ▸ hmt) rfl rfl rfl ?_ ?_
    · rintro r B ⟨rfl, rfl⟩; exact ⟨rfl, rfl⟩
    rintro r B ⟨rfl, rfl⟩
    simp only [hm, go_sem, ↓reduceIte]
    refine run_seq (run_wpc _ _ _ _ _ ?_)
    simp only [hm, go_sem, ↓reduceIte]
    refine ⟨fun _ => ?_, fun h => absurd h (by omega)⟩
    refine call_flat (hP ▸ s_eqPacketS []) rfl (.cons Vw.nil (.cons (.r _) .nil)) ?_
    simp only [hm, go_sem, ↓reduceIte]
    refine run_seq (run_wpc _ _ _ _ _ ?_)
    simp only [hm, go_sem, ↓reduceIte]
    refine run_seq (run_wpc _ _ _ _ _ ?_)
    simp only [hm, go_sem, ↓reduceIte]
    refine call_pure (hP ▸ s_markPacketS_nil 1) rfl rfl ?_
    simp only [hm, go_sem, ↓reduceIte]
    refine run_seq (run_wpc _ _ _ _ _ ?_)
    simp only [hm, go_sem, ↓reduceIte]
    refine run_seq (run_wpc _ _ _ _ _ ?_)
    simp only [hm, go_sem, ↓reduceIte]
    refine call_flat (hP ▸ hheld) rfl (.cons Vw.nil (.cons (.r _) .nil)) ?_
    simp only [hm, go_sem, ↓reduceIte]
    refine run_seq (run_wpc _ _ _ _ _ ?_)
    simp only [hm, go_sem, ↓reduceIte]
    try refine ⟨fun h => absurd h (by omega), fun _ => ?_⟩
    refine run_seq (run_wpc _ _ _ _ _ ?_)
    simp only [hm, go_sem, ↓reduceIte]
    refine run_seq (run_wpc _ _ _ _ _ ?_)
    simp only [hm, go_sem, ↓reduceIte]
    refine call_data (hP ▸ htd) rfl rfl ?_
    simp only [hm, go_sem, ↓reduceIte]
    refine call_dataP (hP ▸ hpd) rfl rfl ?_
    simp only [hm, go_sem, ↓reduceIte]
    refine run_seq (run_wpc _ _ _ _ _ ?_)
    simp only [hm, go_sem, ↓reduceIte]
    refine call_pure (hP ▸ s_eqPacketS []) rfl rfl ?_
    simp only [hm, go_sem, ↓reduceIte]
    refine run_seq (run_wpc _ _ _ _ _ ?_)
    simp only [hm, go_sem, ↓reduceIte]
    refine run_seq (run_wpc _ _ _ _ _ ?_)
    simp only [hm, go_sem, ↓reduceIte]
    refine call_flat (hP ▸ hheld) rfl (.cons Vw.nil (.cons (.r _) .nil)) ?_
    simp only [hm, go_sem, ↓reduceIte]
    refine run_seq (run_wpc _ _ _ _ _ ?_)
    simp only [hm, go_sem, ↓reduceIte]
    try refine ⟨fun h => absurd h (by omega), fun _ => ?_⟩
    refine run_seq (run_wpc _ _ _ _ _ ?_)
    simp only [hm, go_sem, ↓reduceIte]
    refine run_wpc _ _ _ _ _ ?_
    simp only [hm, go_sem, ↓reduceIte]
theorem spec_FnExactTalkPackets {xs : List RV} (h : RowOk talkRow xs) : Spec Try.prog 9 0 [] [.agg (xs.map .r)] (fun r _ _ _ => r = .bo true) := by
  obtain ⟨t, e, hl, hx⟩ := talk_of h
  rw [e]
  exact s_exactTalkPackets t hl hx
end Go.Cap

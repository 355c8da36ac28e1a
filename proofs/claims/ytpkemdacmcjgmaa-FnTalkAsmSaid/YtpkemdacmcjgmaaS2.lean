import Derived.Test.YtpkemdacmcjgmaaS1
/- Contracts: TalkSaid of the program and of the reference. -/
namespace Go.Cap
open Go Go.Proofs
set_option maxRecDepth 100000
set_option linter.unusedSimpArgs false
set_option linter.unusedVariables false
attribute [local irreducible] Call Run Spec Le

theorem part_len (z : Nat) (tsn ssn : Int) (s : Say) (j : Nat) : (part z tsn ssn s j).text.length ≤ s.text.length := by
  simp only [part, List.length_drop, List.length_take]; omega
theorem partsAcc_texts {m : Nat} {z : Nat} {f : Int} {byB : Bool} : ∀ (l : List Say) (out : List Data), (∀ s ∈ l, s.text.length ≤ m) → (∀ d ∈ out, d.text.length ≤ m) → ∀ d ∈ partsAcc z f byB l out, d.text.length ≤ m
  | [], out, _, ho => ho
  | s :: l, out, hl, ho => by
    refine partsAcc_texts l _ (fun x hx => hl x (List.mem_cons_of_mem _ hx)) ?_
    split
    · intro d hd
      rcases List.mem_append.1 hd with hd | hd
      · exact ho d hd
      · simp only [nextParts, chunks, List.mem_map, List.mem_range] at hd
        obtain ⟨j, hj, rfl⟩ := hd
        have h1 := part_len z (l3 f out.length) (ssnOf out s) s j
        have h2 := hl s (List.mem_cons_self ..)
        omega
    · exact ho
theorem talkParts_texts (t : Talk) (byB : Bool) : ∀ d ∈ talkParts t byB, d.text.length ≤ 60 := by
  unfold talkParts
  split
  · rename_i hv
    obtain ⟨_, _, hsays, _⟩ := talk_ok hv
    exact partsAcc_texts _ _ (fun s hs => (hsays s hs).2.1) (fun d hd => by cases hd)
  · intro d hd; cases hd
theorem cnt_get {f : List Data} {x : Int} (h : 0 ≤ x ∧ x < 4) : aget (cnt f) x.toNat = .i (ssnIn f x) := by
  rcases stream4 h with rfl | rfl | rfl | rfl <;> rfl
theorem cnt_set {z : Nat} (hz : 1 ≤ z) {tsn : Int} {f : List Data} {s : Say} (h1 : 1 ≤ s.text.length) (h : 0 ≤ s.stream ∧ s.stream < 4) (hl : s.loose = false) : (cnt f).set s.stream.toNat (.i ((ssnIn f s.stream : Int) + 1)) = cnt (f ++ nextParts z tsn f s) := by
  have e := fun y => ssnIn_next hz tsn f s h1 y
  unfold cnt
  rw [e 0, e 1, e 2, e 3]
  rcases stream4 h with h | h | h | h <;> simp [h, hl]
theorem cnt_loose {z : Nat} (hz : 1 ≤ z) {tsn : Int} {f : List Data} {s : Say} (h1 : 1 ≤ s.text.length) (hl : s.loose = true) : cnt (f ++ nextParts z tsn f s) = cnt f := by
  have e := fun y => ssnIn_next hz tsn f s h1 y
  unfold cnt
  rw [e 0, e 1, e 2, e 3]; simp [hl]
def cntR (f : List Data) : List RV := [.n .i64 (ssnIn f 0), .n .i64 (ssnIn f 1), .n .i64 (ssnIn f 2), .n .i64 (ssnIn f 3)]
theorem cntR_map (f : List Data) : cnt f = (cntR f).map .r := rfl
@[go_sem] theorem cnt_len (f : List Data) : (cnt f).length = 4 := (rfl)
@[go_sem] theorem cntR_len (f : List Data) : (cntR f).length = 4 := (rfl)
theorem loop_TalkSaid {c : Cx} (hP : c.P = Try.prog) (hm : c.m = 0) (t : Talk) (byB : Bool) (hv : talkB t = true) {s0 : St} {n r : St → Prop} {x : Nat → St → Prop}
    (hs : Le c s0 ⟨[(1, .bo byB), (5, .sl 1 0 0), (6, .ptr 2 0 0), (16, .r (.ro none (t.says.map Say.row))), (17, .i t.says.length), (18, .i 0)], [(2, .var ((cntR []).map .r)), (1, .row 4 [])], 3, []⟩)
    (hx : x 0 ⟨[(5, .sl 1 0 (talkSaid t byB).length)], [(1, .row 4 ((talkSaid t byB).map Msg.row))], 2, []⟩) :
    Run c (.lp pc21l0) s0 n x r := by
  obtain ⟨hsz, hlen, hsays, hta, htb, hsa, hsb⟩ := talk_ok hv
  refine run_exit 0 (fun t0 => t0 = ⟨[(5, .sl 1 0 (talkSaid t byB).length)], [(1, .row 4 ((talkSaid t byB).map Msg.row))], 2, []⟩) ?_ (fun t0 h => by rw [h]; exact hx)
  refine lp_wpc (α := Nat × List Msg × List Data) (fun y => ⟨[(1, .bo byB), (5, .sl 1 0 y.2.1.length), (6, .ptr 2 0 0), (16, .r (.ro none (t.says.map Say.row))), (17, .i t.says.length), (18, .i y.1)], [(2, .var ((cntR y.2.2).map .r)), (1, .row 4 (y.2.1.map Msg.row))], 3, []⟩)
    (fun y => y.1 ≤ t.says.length ∧ y.2.1.length ≤ y.1 ∧ y.2.2.length ≤ 60 * y.1 ∧ y.2.1 ++ saidOf t.size.toNat (t.tsn byB) byB (t.says.drop y.1) y.2.2 = talkSaid t byB) (fun y => t.says.length - y.1) (0, [], [])
    ⟨Nat.zero_le _, Nat.le_refl _, Nat.zero_le _, by rw [talkSaid_eq t byB hv]; rfl⟩ hs ?_
  rintro ⟨i, out, f⟩ ⟨hi, ho, hf, hI⟩
  simp only at hi ho hf hI
  unfold pc21l0
  rcases Nat.lt_or_ge i t.says.length with hil | hil
  · rw [saidOf_drop hil] at hI
    obtain ⟨q1, q2, q3, q4⟩ := hsays _ (List.getElem_mem hil)
    simp only [Int.toNat_natCast, getD_map hil, Say.row, hm, go_sem, ↓reduceIte]
    generalize t.says[i] = s at hI q1 q2 q3 q4
    have hml := many_le2 (n := s.text.length) (sz := t.size.toNat) (by omega)
    have h4 : 0 ≤ s.stream ∧ s.stream < 4 := by
      refine ⟨q3, ?_⟩
      cases hb : s.byB <;> simp only [hb, if_true, if_false, Bool.false_eq_true] at q4 <;> omega
    rw [← cntR_map]
    simp only [cnt_get h4, hm, go_sem, ↓reduceIte]
    have hle := ssnIn_le f s.stream
    rw [wrap64 (x := (i : Int) + 1) (by omega) (by omega), wrap64 (x := (ssnIn f s.stream : Int) + 1) (by omega) (by omega)]
    have hnl : (f ++ nextParts t.size.toNat (t.tsn byB) f s).length ≤ 60 * (i + 1) := by rw [List.length_append, nextParts_len]; omega
    have hrow : List.take out.length (out.map Msg.row) ++ [[.n .i64 s.stream, .n .i64 (ssnOf f s), .b s.loose, .s s.text]] = (out ++ [(⟨s.stream, ssnOf f s, s.loose, s.text⟩ : Msg)]).map Msg.row := by
      rw [List.take_of_length_le (by simp)]; simp [Msg.row]
    refine ⟨fun hlt => ⟨⟨by omega, by omega⟩, fun hb => ?_, fun hb => ⟨fun hlo => ?_, fun hlo => ?_⟩⟩, fun hge => absurd hge (by omega)⟩
    · rw [if_neg hb] at hI
      exact ⟨(i + 1, out, f), ⟨hil, by simp only; omega, by simp only; omega, hI⟩, by simp only; omega, le_ev [] (by simp only [cntR_map, hm, go_sem, ↓reduceIte]; rfl)⟩
    · rw [if_pos hb] at hI
      have hso : ssnOf f s = ssnIn f s.stream := by simp [ssnOf, hlo]
      have hset := cnt_set (z := t.size.toNat) (by omega) (tsn := t.tsn byB) (f := f) q1 h4 hlo
      rw [hso] at hrow hI
      refine ⟨h4, by omega, h4, by omega, h4, by omega, by omega, (i + 1, out ++ [(⟨s.stream, ssnIn f s.stream, s.loose, s.text⟩ : Msg)], f ++ nextParts t.size.toNat (t.tsn byB) f s), ⟨hil, by simp only [List.length_append, List.length_cons, List.length_nil]; omega, hnl, by simp only [List.append_assoc, List.cons_append, List.nil_append]; exact hI⟩, by simp only; omega, ?_⟩
      rw [hrow, hset]
      exact le_ev [] (by simp only [cntR_map, hm, go_sem, ↓reduceIte]; rfl)
    · rw [if_pos hb] at hI
      have hso : ssnOf f s = 0 := by simp [ssnOf, hlo]
      have hset : (cntR (f ++ nextParts t.size.toNat (t.tsn byB) f s)).map AV.r = (cntR f).map AV.r := cnt_loose (z := t.size.toNat) (by omega) (tsn := t.tsn byB) (f := f) q1 hlo
      rw [hso] at hrow hI
      refine ⟨by omega, (i + 1, out ++ [(⟨s.stream, 0, s.loose, s.text⟩ : Msg)], f ++ nextParts t.size.toNat (t.tsn byB) f s), ⟨hil, by simp only [List.length_append, List.length_cons, List.length_nil]; omega, hnl, by simp only [List.append_assoc, List.cons_append, List.nil_append]; exact hI⟩, by simp only; omega, ?_⟩
      rw [hrow]
      exact le_ev [] (by simp only [cntR_map, hset, hm, go_sem, ↓reduceIte]; rfl)
  · have : i = t.says.length := by omega
    subst this
    rw [List.drop_eq_nil_of_le (Nat.le_refl _)] at hI
    simp only [saidOf, List.append_nil] at hI
    rw [← hI]
    simp only [go_sem, ↓reduceIte]
    exact ⟨_, rfl, le_ev [] (by simp only [hm, go_sem, ↓reduceIte, Nat.reduceLeDiff])⟩
theorem s_implTalkSaid1 (t : Talk) (byB : Bool) (hl : t.says.length ≤ 1048576) (hv : talkB t = true) : Spec Try.prog 21 0 [] [t.ro, .bo byB] (New1 (.sl 0 0 (talkSaid t byB).length) 4 ((talkSaid t byB).map Msg.row)) := by
  refine Spec.new1 (Q := fun r hp _ _ => r = .sl 1 0 (talkSaid t byB).length ∧ hget hp 1 = some (.row 4 ((talkSaid t byB).map Msg.row))) ?_ (fun r hp nx gs h => ⟨1, h.1, h.2⟩) (fun f g h => by simp only [go_sem, h])
  refine mk21 rfl fun c hP hm => ?_
  unfold pc21 Talk.ro Talk.av
  simp only [go_sem, ↓reduceIte]
  refine call_pure (hP ▸ s_implTalkValid t hl) rfl rfl ?_
  simp only [hv, go_sem, ↓reduceIte]
  intro _
  refine loop_TalkSaid hP hm t byB hv (le_ev [] (by simp only [hm, cntR, ssnIn, List.countP_nil, go_sem, ↓reduceIte])) ?_
  simp only [hm, go_sem, ↓reduceIte]
theorem s_sameMessages (l : List Msg) : Spec Try.prog 23 0 [] [.r (.ro none (l.map Msg.row)), .r (.ro none (l.map Msg.row))] (fun r _ _ _ => r = .bo true) := by
  refine mk23 rfl fun c hP hm => ?_
  unfold pc23
  simp only [go_sem, ↓reduceIte]
  intro hlen _
  refine lp_wpc (α := Nat) (fun i => ⟨[(0, .r (.ro none (l.map Msg.row))), (1, .r (.ro none (l.map Msg.row))), (5, .i i)], [], 0, []⟩) (fun i => i ≤ l.length) (fun i => l.length - i) 0 (Nat.zero_le _) (Le.refl _) ?_
  intro i hi
  unfold pc23l0
  simp only [go_sem, ↓reduceIte]
  intro _
  intro hlt
  have hil : i < l.length := by omega
  simp only [Int.toNat_natCast, getD_map hil, Msg.row, go_sem, ↓reduceIte]
  rw [wrap64 (by omega) (by omega)]
  exact ⟨⟨by omega, by omega⟩, ⟨by omega, by omega⟩, i + 1, hil, by omega, Le.refl _⟩
end Go.Cap

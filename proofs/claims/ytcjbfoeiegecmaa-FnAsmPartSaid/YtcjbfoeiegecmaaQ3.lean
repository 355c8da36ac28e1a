import Derived.Test.YtcjbfoeiegecmaaQ2
/- Contracts of the reference: taking a message out, adding a part. -/
namespace Go.Cap
open Go Go.Proofs
set_option maxRecDepth 100000
set_option linter.unusedSimpArgs false
set_option linter.unusedVariables false
attribute [local irreducible] Call Run Spec Le

theorem s_specTake (a : Asm) (p : List Nat) (h : AsmOk a) (hd : DueOk a p) (hx : ∀ d ∈ a.parts, d.text.length ≤ 100000) : Spec Try.prog 49 0 [] [a.ro, .r (.ro none (p.map natRow))] (New2 (.tup [.agg [.sl 0 0 (takeOut a p).next.length, .sl 1 0 (takeOut a p).parts.length], (msgOf a p).av]) 1 ((takeOut a p).next.map intRow) 7 ((takeOut a p).parts.map Data.row)) := by
  obtain ⟨k0, pt, hp0⟩ : ∃ k0 pt, p = k0 :: pt := by cases p with
    | nil => exact absurd rfl hd.ne
    | cons a b => exact ⟨a, b, rfl⟩
  have hk0 : k0 < a.parts.length := hd.lt k0 (by rw [hp0]; simp)
  have hg0 : (p.map natRow).getD 0 [] = [.n .i64 (k0 : Int)] := by rw [hp0]; rfl
  have hpl : 0 < p.length := by rw [hp0]; simp
  have hdk := dataAt_eq hk0
  have hgk : (a.parts.map Data.row).getD k0 [] = (dataAt a.parts k0).row := by rw [hdk]; exact getD_map hk0
  have hp13 : p.length ≤ 13 := Nat.le_trans (nodup_le hd.nodup hd.lt) h.len
  have hl := h.len
  refine Spec.new2 (Q := fun r hp _ _ => ∃ b b1, b ≠ b1 ∧ r = .tup [.agg [.sl b 0 (takeOut a p).next.length, .sl b1 0 (takeOut a p).parts.length], (msgOf a p).av] ∧ hget hp b = some (.row 1 ((takeOut a p).next.map intRow)) ∧ hget hp b1 = some (.row 7 ((takeOut a p).parts.map Data.row))) ?_ (fun r hp nx gs h => h) (fun f g h1 h2 => by simp only [go_sem, h1, h2]; rfl)
  refine mr49 rfl fun c hP hm => ?_
  unfold pc49 Asm.ro
  refine run_seq (run_wpc _ _ _ _ _ ?_)
  simp only [hm, go_sem, ↓reduceIte]
  refine run_seq (run_wpc _ _ _ _ _ ?_)
  simp only [hg0, Int.toNat_natCast, hgk, Data.row, hm, go_sem, ↓reduceIte]
  refine ⟨by omega, by omega, ⟨by omega, by omega, by omega⟩, ?_⟩
  refine run_seq (run_wpc _ _ _ _ _ ?_)
  simp only [hm, go_sem, ↓reduceIte]
  refine run_seq (run_wpc _ _ _ _ _ ?_)
  simp only [hm, go_sem, ↓reduceIte]
  refine run_exit 0 (fun t0 => t0 = ⟨[(1, .r (.ro none (p.map natRow))), (2, .ptr 0 0 0), (4, .ptr 1 0 0), (5, .ptr 2 0 0), (6, .ptr 3 0 0), (7, .ptr 4 0 0)], [(4, .var [.i (dataAt a.parts k0).stream, .i (dataAt a.parts k0).ssn, .bo (dataAt a.parts k0).loose, .st (textOfIx a.parts p)]), (3, .var [.i (dataAt a.parts k0).tsn, .i (dataAt a.parts k0).stream, .i (dataAt a.parts k0).ssn, .bo (dataAt a.parts k0).first, .bo (dataAt a.parts k0).last, .bo (dataAt a.parts k0).loose, .st (dataAt a.parts k0).text]), (2, .var [.i 0, .i 0, .bo false, .st []]), (1, .var [.r .nil, .r .nil]), (0, .var [.r (.ro none (a.next.map intRow)), .r (.ro none (a.parts.map Data.row))])], 5, []⟩) ?_ ?_
  · refine lp_wpc (α := Nat) (fun i => ⟨[(1, .r (.ro none (p.map natRow))), (2, .ptr 0 0 0), (4, .ptr 1 0 0), (5, .ptr 2 0 0), (6, .ptr 3 0 0), (7, .ptr 4 0 0), (8, .i i)], [(4, .var [.i (dataAt a.parts k0).stream, .i (dataAt a.parts k0).ssn, .bo (dataAt a.parts k0).loose, .st (textOfIx a.parts (p.take i))]), (3, .var [.i (dataAt a.parts k0).tsn, .i (dataAt a.parts k0).stream, .i (dataAt a.parts k0).ssn, .bo (dataAt a.parts k0).first, .bo (dataAt a.parts k0).last, .bo (dataAt a.parts k0).loose, .st (dataAt a.parts k0).text]), (2, .var [.i 0, .i 0, .bo false, .st []]), (1, .var [.r .nil, .r .nil]), (0, .var [.r (.ro none (a.next.map intRow)), .r (.ro none (a.parts.map Data.row))])], 5, []⟩) (fun i => i ≤ p.length) (fun i => p.length - i) 0 (Nat.zero_le _) (by simp only [List.take_zero, textOfIx, List.flatMap_nil]; (refine le_ev [] ?_; simp only [hm, go_sem, ↓reduceIte]; first | done | rfl | exact ⟨rfl, rfl⟩)) ?_
    intro i hi
    unfold pc49l0
    rcases Nat.lt_or_ge i p.length with hil | hil
    · have hk := hd.lt _ (List.getElem_mem hil)
      have e1 : textOfIx a.parts (p.take (i + 1)) = textOfIx a.parts (p.take i) ++ (dataAt a.parts p[i]).text := by
        unfold textOfIx; rw [take_get hil, List.flatMap_append, List.flatMap_cons, List.flatMap_nil, List.append_nil]
      have hxk := hx _ (List.getElem_mem hk)
      have hdp := dataAt_eq hk
      rw [← hdp] at hxk
      have hgp : (p.map natRow).getD i [] = [.n .i64 (p[i] : Int)] := getD_map hil
      have hgd : (a.parts.map Data.row).getD p[i] [] = (dataAt a.parts p[i]).row := by rw [hdp]; exact getD_map hk
      have htl := textOfIx_len a.parts hx (p.take i) (fun j hj => hd.lt j (List.mem_of_mem_take hj))
      have htk : (p.take i).length ≤ p.length := by rw [List.length_take]; omega
      clear hdp
      generalize p[i] = k at hk e1 hxk hgp hgd
      have hw : IntKind.i64.wrap ((i : Int) + 1) = (i : Int) + 1 := wrap64 (by omega) (by omega)
      simp only [Int.toNat_natCast, hgp, hgd, Data.row, hm, go_sem, ↓reduceIte]
      repeat' first | refine And.intro ?_ ?_ | intro _
      all_goals first
        | omega
        | (refine ⟨i + 1, hil, by omega, ?_⟩
           rw [hw, e1]
           (refine le_ev [] ?_; simp only [hm, go_sem, ↓reduceIte]; first | done | rfl | exact ⟨rfl, rfl⟩))
    · have : i = p.length := by omega
      subst this
      simp only [hm, go_sem, ↓reduceIte]
      intro _
      exact ⟨_, rfl, by rw [List.take_length]; (refine le_ev [] ?_; simp only [hm, go_sem, ↓reduceIte]; first | done | rfl | exact ⟨rfl, rfl⟩)⟩
  rintro t0 rfl
  simp only [hm, go_sem, ↓reduceIte]
  refine run_seq (run_wpc _ _ _ _ _ ?_)
  have hnl := h.nlen
  simp only [hm, go_sem, ↓reduceIte]
  refine ⟨⟨fun r hr => by obtain ⟨_, _, rfl⟩ := List.mem_map.1 hr; rfl, by omega⟩, ?_⟩
  refine run_seq (run_wpc _ _ _ _ _ ?_)
  simp only [hm, go_sem, ↓reduceIte]
  refine run_exit 2 (fun t0 => t0 = ⟨[(1, .r (.ro none (p.map natRow))), (2, .ptr 0 0 0), (4, .ptr 1 0 0), (5, .ptr 2 0 0), (6, .ptr 3 0 0), (7, .ptr 4 0 0), (9, .ptr 7 0 0)], [(7, .var [.sl 5 0 a.next.length, .sl 6 0 (restFrom p 0 a.parts).length]), (6, .row 7 ((restFrom p 0 a.parts).map Data.row)), (5, .row 1 (a.next.map intRow)), (4, .var [.i (dataAt a.parts k0).stream, .i (dataAt a.parts k0).ssn, .bo (dataAt a.parts k0).loose, .st (textOfIx a.parts p)]), (3, .var [.i (dataAt a.parts k0).tsn, .i (dataAt a.parts k0).stream, .i (dataAt a.parts k0).ssn, .bo (dataAt a.parts k0).first, .bo (dataAt a.parts k0).last, .bo (dataAt a.parts k0).loose, .st (dataAt a.parts k0).text]), (2, .var [.i 0, .i 0, .bo false, .st []]), (1, .var [.r .nil, .r .nil]), (0, .var [.r (.ro none (a.next.map intRow)), .r (.ro none (a.parts.map Data.row))])], 8, []⟩) ?_ ?_
  · refine lp_wpc (α := Nat × List Data) (fun y => ⟨[(1, .r (.ro none (p.map natRow))), (2, .ptr 0 0 0), (4, .ptr 1 0 0), (5, .ptr 2 0 0), (6, .ptr 3 0 0), (7, .ptr 4 0 0), (9, .ptr 7 0 0), (10, .i y.1)], [(7, .var [.sl 5 0 a.next.length, .sl 6 0 (y.2).length]), (6, .row 7 ((y.2).map Data.row)), (5, .row 1 (a.next.map intRow)), (4, .var [.i (dataAt a.parts k0).stream, .i (dataAt a.parts k0).ssn, .bo (dataAt a.parts k0).loose, .st (textOfIx a.parts p)]), (3, .var [.i (dataAt a.parts k0).tsn, .i (dataAt a.parts k0).stream, .i (dataAt a.parts k0).ssn, .bo (dataAt a.parts k0).first, .bo (dataAt a.parts k0).last, .bo (dataAt a.parts k0).loose, .st (dataAt a.parts k0).text]), (2, .var [.i 0, .i 0, .bo false, .st []]), (1, .var [.r .nil, .r .nil]), (0, .var [.r (.ro none (a.next.map intRow)), .r (.ro none (a.parts.map Data.row))])], 8, []⟩) (fun y => y.1 ≤ a.parts.length ∧ y.2.length ≤ y.1 ∧ y.2 ++ restFrom p y.1 (a.parts.drop y.1) = restFrom p 0 a.parts) (fun y => a.parts.length - y.1) (0, []) ⟨Nat.zero_le _, Nat.le_refl _, rfl⟩ ?_ ?_
    · (refine le_ev [] ?_; simp only [hm, go_sem, ↓reduceIte]; first | done | rfl | exact ⟨rfl, rfl⟩)
    rintro ⟨i, acc⟩ ⟨hi, ha, hI⟩
    simp only at hi ha hI
    unfold pc49l1
    rcases Nat.lt_or_ge i a.parts.length with hil | hil
    · rw [restFrom_drop hil] at hI
      have hga : (a.parts.map Data.row).getD i [] = a.parts[i].row := getD_map hil
      generalize a.parts[i] = d at hI hga
      have hrow : List.take acc.length (acc.map Data.row) ++ [[.n .i64 d.tsn, .n .i64 d.stream, .n .i64 d.ssn, .b d.first, .b d.last, .b d.loose, .s d.text]] = (acc ++ [d]).map Data.row := by
        rw [List.take_of_length_le (by simp), List.map_append]; rfl
      have hw : IntKind.i64.wrap ((i : Int) + 1) = (i : Int) + 1 := wrap64 (by omega) (by omega)
      simp only [hm, go_sem, ↓reduceIte]
      refine fun _ => ⟨fun hil2 => ?_, fun _ => (by exfalso; omega)⟩
      refine call_pure (hP ▸ s_l21Has p i (by omega)) rfl rfl ?_
      by_cases hmem : i ∈ p
      · rw [if_pos hmem] at hI
        simp only [decide_eq_true hmem, hga, Int.toNat_natCast, Data.row, hm, go_sem, ↓reduceIte]
        refine ⟨(i + 1, acc), ⟨hil, by simp only; omega, hI⟩, by simp only; omega, ?_⟩
        rw [hw]
        (refine le_ev [] ?_; simp only [hm, go_sem, ↓reduceIte]; first | done | rfl | exact ⟨rfl, rfl⟩)
      · rw [if_neg hmem] at hI
        simp only [decide_eq_false hmem, hga, Int.toNat_natCast, Data.row, hm, go_sem, ↓reduceIte]
        repeat' first | refine And.intro ?_ ?_ | intro _
        all_goals first
          | omega
          | (refine ⟨(i + 1, acc ++ [d]), ⟨hil, by simp only [List.length_append, List.length_singleton]; omega, by simp only [List.append_assoc, List.cons_append, List.nil_append]; exact hI⟩, by simp only; omega, ?_⟩
             rw [hw, hrow]
             simp only [List.length_append, List.length_singleton]
             (refine le_ev [] ?_; simp only [hm, go_sem, ↓reduceIte]; first | done | rfl | exact ⟨rfl, rfl⟩))
    · have : i = a.parts.length := by omega
      subst this
      rw [List.drop_eq_nil_of_le (Nat.le_refl _), restFrom, List.append_nil] at hI
      rw [← hI]
      simp only [hm, go_sem, ↓reduceIte]
      intro _
      exact ⟨_, rfl, by (refine le_ev [] ?_; simp only [hm, go_sem, ↓reduceIte]; first | done | rfl | exact ⟨rfl, rfl⟩)⟩
  rintro t0 rfl
  have hst := h.stream _ (List.getElem_mem hk0)
  rw [← hdk] at hst
  have hsn : (dataAt a.parts k0).stream.toNat < a.next.length := by omega
  have hmsg : msgOf a p = ⟨(dataAt a.parts k0).stream, (dataAt a.parts k0).ssn, (dataAt a.parts k0).loose, textOfIx a.parts p⟩ := by unfold msgOf; rw [hp0]; rfl
  have hnrow : ∀ v : Int, (a.next.map intRow).set (dataAt a.parts k0).stream.toNat [.n .i64 v] = (a.next.set (dataAt a.parts k0).stream.toNat v).map intRow := fun v => by rw [List.map_set]; rfl
  have hnser : serialB (nextAt a (dataAt a.parts k0).stream) = true := by
    refine h.next _ ?_
    have : nextAt a (dataAt a.parts k0).stream = a.next[(dataAt a.parts k0).stream.toNat] := by simp [nextAt, List.getD_eq_getElem?_getD, hsn]
    rw [this]; exact List.getElem_mem hsn
  have hpar : (takeOut a p).parts = restFrom p 0 a.parts := rfl
  have hhead : p.headD 0 = k0 := by rw [hp0]; rfl
  have hss := hd.ssn
  rw [hhead] at hss
  simp only [hm, go_sem, ↓reduceIte]
  refine run_wpc _ _ _ _ _ ?_
  simp only [hm, go_sem, ↓reduceIte]
  refine ⟨fun hlo => ?_, fun hlo => ?_⟩
  · have hs1 : (dataAt a.parts k0).ssn = nextAt a (dataAt a.parts k0).stream := by
      rcases hss with h | h
      · rw [hlo] at h; cases h
      · exact h
    simp only [serialB, decide_eq_true_eq] at hnser
    refine call_pure (hP ▸ s_l3Add _ 1 (by rw [hs1]; exact hnser)) rfl rfl ?_
    have hnext : (takeOut a p).next = a.next.set (dataAt a.parts k0).stream.toNat (l3 (nextAt a (dataAt a.parts k0).stream) 1) := by unfold takeOut; rw [hmsg]; simp [hlo]
    simp only [hnrow, hs1, Int.toNat_natCast, hm, go_sem, ↓reduceIte]
    refine ⟨by omega, hsn, ?_⟩
    rw [hnext, hpar, hmsg, hs1, List.length_set]
    exact ⟨5, 6, by decide, rfl, rfl, rfl⟩
  · have hnext : (takeOut a p).next = a.next := by unfold takeOut; rw [hmsg]; simp [hlo]
    rw [hnext, hpar, hmsg]
    exact ⟨5, 6, by decide, rfl, rfl, rfl⟩
/-- What the reference's AsmAdd leaves. -/
def AddQs (x : Asm × List Msg × Int) (r : AV) (hp : List (Nat × Blk)) : Prop :=
  if x.2.2 = 3 then ∃ b, hget hp b = some (.row 4 []) ∧ r = .tup [.agg [.r .nil, .r .nil], .sl b 0 0, .i 3]
  else ∃ b0 b1 b2, (b0 ≠ b1 ∧ b0 ≠ b2 ∧ b1 ≠ b2) ∧ hget hp b0 = some (.row 1 (x.1.next.map intRow)) ∧ hget hp b1 = some (.row 7 (x.1.parts.map Data.row)) ∧ hget hp b2 = some (.row 4 (x.2.1.map Msg.row)) ∧
    r = .tup [.agg [.sl b0 0 x.1.next.length, .sl b1 0 x.1.parts.length], .sl b2 0 x.2.1.length, .i x.2.2]
theorem loop_specAsmAdd0 {c : Cx} (hP : c.P = Try.prog) (hm : c.m = 0) (res : Asm × List Msg) {s0 : St} {n r : St → Prop} {x : Nat → St → Prop} (a0 : Asm) (h0 : AsmOk a0) (hx0 : ∀ d ∈ a0.parts, d.text.length ≤ 20) (hres : settle (a0.parts.length + 1) a0 [] = res)
    (hs : Le c s0 ⟨[(4, .ptr 0 0 0), (7, .ptr 1 0 0), (8, .sl 4 0 0), (9, .sl 5 0 (dueL (due a0)).length)], [(5, .row 1 ((dueL (due a0)).map natRow)), (4, .row 4 []), (3, .row 7 (a0.parts.map Data.row)), (2, .row 1 (a0.next.map intRow)), (1, .var [.sl 2 0 a0.next.length, .sl 3 0 a0.parts.length]), (0, .var [.r .nil, .r .nil])], 6, []⟩)
    (hx1 : x 1 ⟨[(4, .ptr 0 0 0), (7, .ptr 1 0 0), (8, .sl 4 0 res.2.length)], [(4, .row 4 (res.2.map Msg.row)), (3, .row 7 (res.1.parts.map Data.row)), (2, .row 1 (res.1.next.map intRow)), (1, .var [.sl 2 0 res.1.next.length, .sl 3 0 res.1.parts.length]), (0, .var [.r .nil, .r .nil])], 5, []⟩) :
    Run c (.lp pc26l0) s0 n x r := by
  refine run_exit 1 (fun t0 => t0 = ⟨[(4, .ptr 0 0 0), (7, .ptr 1 0 0), (8, .sl 4 0 res.2.length)], [(4, .row 4 (res.2.map Msg.row)), (3, .row 7 (res.1.parts.map Data.row)), (2, .row 1 (res.1.next.map intRow)), (1, .var [.sl 2 0 res.1.next.length, .sl 3 0 res.1.parts.length]), (0, .var [.r .nil, .r .nil])], 5, []⟩) ?_ (fun t0 h => by rw [h]; exact hx1)
  refine lp_wpc (α := Asm × List Msg) (fun y => ⟨[(4, .ptr 0 0 0), (7, .ptr 1 0 0), (8, .sl 4 0 y.2.length), (9, .sl 5 0 (dueL (due y.1)).length)], [(5, .row 1 ((dueL (due y.1)).map natRow)), (4, .row 4 (y.2.map Msg.row)), (3, .row 7 (y.1.parts.map Data.row)), (2, .row 1 (y.1.next.map intRow)), (1, .var [.sl 2 0 y.1.next.length, .sl 3 0 y.1.parts.length]), (0, .var [.r .nil, .r .nil])], 6, []⟩)
    (fun y => AsmOk y.1 ∧ (∀ d ∈ y.1.parts, d.text.length ≤ 20) ∧ y.2.length + y.1.parts.length ≤ 13 ∧ settle (y.1.parts.length + 1) y.1 y.2 = res) (fun y => y.1.parts.length) (a0, []) ⟨h0, hx0, by have := h0.len; simpa using this, hres⟩ hs ?_
  rintro ⟨a, ms⟩ ⟨ha, hx, hms, hset⟩
  simp only at ha hx hms hset
  have hl := ha.len
  unfold pc26l0
  cases hd : due a with
  | none =>
    rw [settle, hd] at hset
    subst hset
    simp only [dueL, Option.getD_none, List.length_nil, List.map_nil, hm, go_sem, ↓reduceIte]
    exact ⟨_, rfl, by (refine le_ev [] ?_; simp only [hm, go_sem, ↓reduceIte]; first | done | rfl | exact ⟨rfl, rfl⟩)⟩
  | some p =>
    have hdo := due_ok ha hd
    have hpl := List.length_pos_iff.2 hdo.ne
    simp only [dueL, Option.getD_some, hm, go_sem, ↓reduceIte]
    refine fun _ => ⟨fun _ => ?_, fun h => (by exfalso; omega)⟩
    refine call_new2 (hP ▸ s_specTake a p ha hdo (fun d hd => by have := hx d hd; omega)) rfl (intClosed _) (dataClosed _) (.cons (vw_asm rfl rfl) (.cons (Vw.full rfl (by simp)) .nil)) ?_
    simp only [Msg.av, hm, go_sem, ↓reduceIte]
    have hlt := takeOut_lt hdo
    have hok := takeOut_ok (p := p) ha
    have hset2 : settle ((takeOut a p).parts.length + 1) (takeOut a p) (ms ++ [msgOf a p]) = res := by
      rw [settle, hd] at hset
      simp only at hset
      rw [← hset]
      have := settle_more ((takeOut a p).parts.length + 1) (takeOut a p) (ms ++ [msgOf a p]) hok (by omega) (a.parts.length - ((takeOut a p).parts.length + 1))
      rw [← this]; congr 1; omega
    have hx2 : ∀ d ∈ (takeOut a p).parts, d.text.length ≤ 20 := fun d hd => hx d (restFrom_mem p a.parts 0 d hd)
    have hms2 : (ms ++ [msgOf a p]).length + (takeOut a p).parts.length ≤ 13 := by simp only [List.length_append, List.length_cons, List.length_nil]; omega
    have hrow : List.take ms.length (ms.map Msg.row) ++ [[.n .i64 (msgOf a p).stream, .n .i64 (msgOf a p).ssn, .b (msgOf a p).loose, .s (msgOf a p).text]] = (ms ++ [msgOf a p]).map Msg.row := by
      rw [List.take_of_length_le (by simp), List.map_append]; rfl
    rw [hrow]
    refine ⟨by omega, ?_⟩
    refine call_new1 (hP ▸ s_specFind (takeOut a p) hok) rfl (natClosed _) (.cons (vw_asm rfl rfl) .nil) ?_
    simp only [hm, go_sem, ↓reduceIte]
    refine ⟨(takeOut a p, ms ++ [msgOf a p]), ⟨hok, hx2, hms2, hset2⟩, hlt, ?_⟩
    simp only [List.length_append, List.length_singleton]
    (refine le_ev [(5, 11), (2, 6), (3, 7)] ?_; simp only [hm, go_sem, ↓reduceIte]; first | done | rfl | exact ⟨rfl, rfl⟩)
end Go.Cap

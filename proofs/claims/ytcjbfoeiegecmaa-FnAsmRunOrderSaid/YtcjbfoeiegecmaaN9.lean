import Derived.Test.YtcjbfoeiegecmaaN8
import Derived.Test.YtcjbfoeiegecmaaG2
/- Contracts: an assembly's run (the program's). -/
namespace Go.Cap
open Go Go.Proofs
set_option maxRecDepth 100000
set_option linter.unusedSimpArgs false
set_option linter.unusedVariables false
attribute [local irreducible] Call Run Spec Le

theorem intClosed (l : List Int) : closL2 (l.map intRow) := closL2_map (fun s x hx => by
  simp only [intRow, List.mem_cons, List.not_mem_nil, or_false] at hx
  rcases hx with rfl; rfl) l
theorem c_implAsmAdd {c : Cx} (hP : c.P = Try.prog) {a : Asm} {d : Data} {va vd : AV} {s : St} {K : AV → St → Prop} (hn : a.next.length ≤ 2000000) (hl : a.parts.length ≤ 2000000) (hx : ∀ d ∈ a.parts, d.text.length ≤ 9223372036854775807) (hd : d.text.length ≤ 9223372036854775807)
    (hv : Vws s.hp [va, vd] [a.ro, d.av])
    (k3 : (asmAdd a d).2.2 = 3 → K (.tup [.agg [.r .nil, .r .nil], .r .nil, .i 3]) s)
    (k0 : (asmAdd a d).2.2 = 0 → K (.tup [.agg [.sl s.nx 0 (asmAdd a d).1.next.length, .sl (s.nx + 1) 0 (asmAdd a d).1.parts.length], .sl (s.nx + 2) 0 (asmAdd a d).2.1.length, .i 0])
      ⟨s.sl, (s.nx, .row 1 ((asmAdd a d).1.next.map intRow)) :: (s.nx + 1, .row 7 ((asmAdd a d).1.parts.map Data.row)) :: (s.nx + 2, .row 4 ((asmAdd a d).2.1.map Msg.row)) :: s.hp, s.nx + 3, s.gs⟩)
    (k12 : (asmAdd a d).2.2 ≠ 3 → (asmAdd a d).2.2 ≠ 0 → K (.tup [.agg [.sl s.nx 0 (asmAdd a d).1.next.length, .sl (s.nx + 1) 0 (asmAdd a d).1.parts.length], .r .nil, .i (asmAdd a d).2.2])
      ⟨s.sl, (s.nx, .row 1 ((asmAdd a d).1.next.map intRow)) :: (s.nx + 1, .row 7 ((asmAdd a d).1.parts.map Data.row)) :: s.hp, s.nx + 2, s.gs⟩) : Call c 23 [va, vd] s K := by
  have hs := s_implAsmAdd a d hn hl hx hd
  generalize asmAdd a d = x at hs k3 k0 k12
  obtain ⟨a', ms, code⟩ := x
  simp only at k3 k0 k12
  by_cases h3 : code = 3
  · subst h3
    exact call_val (hP ▸ hs) rfl (fun _ => rfl) hv (k3 rfl)
  · by_cases h0 : code = 0
    · subst h0
      have h2 := Spec.new3 (r0 := .tup [.agg [.sl 0 0 a'.next.length, .sl 1 0 a'.parts.length], .sl 2 0 ms.length, .i 0]) (sz := 1) (L := a'.next.map intRow) (sz1 := 7) (L1 := a'.parts.map Data.row) (sz2 := 4) (L2 := ms.map Msg.row) hs (fun r hp nx gs hq => by
        unfold AddQ at hq
        simp only [Int.reduceEq, if_false, if_true] at hq
        obtain ⟨b0, b1, n1, h1, h2, b2, n2, n3, h3, rfl⟩ := hq
        exact ⟨b0, b1, b2, ⟨n1, n2, n3⟩, rfl, h1, h2, h3⟩) (fun f g e0 e1 e2 => by simp only [go_sem, e0, e1, e2])
      rw [← hP] at h2
      exact call_new3 h2 rfl (intClosed _) (dataClosed _) (msgClosed _) hv (k0 rfl)
    · have h2 := Spec.new2 (r0 := .tup [.agg [.sl 0 0 a'.next.length, .sl 1 0 a'.parts.length], .r .nil, .i code]) (sz := 1) (L := a'.next.map intRow) (sz1 := 7) (L1 := a'.parts.map Data.row) hs (fun r hp nx gs hq => by
        unfold AddQ at hq
        simp only [h3, h0, if_false] at hq
        obtain ⟨b0, b1, n1, h1, h2, rfl⟩ := hq
        exact ⟨b0, b1, n1, rfl, h1, h2⟩) (fun f g e0 e1 => by simp only [go_sem, e0, e1])
      rw [← hP] at h2
      exact call_new2 h2 rfl (intClosed _) (dataClosed _) hv (k12 h3 h0)
/-- A new assembly. -/
theorem s_implAsmNew1 (n : Nat) (hn : 1 ≤ n ∧ n ≤ 4) : Spec Try.prog 22 0 [] [.i n] (New1 (.tup [.agg [.sl 0 0 n, .r .nil], .bo true]) 1 ((asmNew n).next.map intRow)) := by
  refine Spec.new1 (Q := fun r hp _ _ => r = .tup [.agg [.sl 1 0 n, .r .nil], .bo true] ∧ hget hp 1 = some (.row 1 ((asmNew n).next.map intRow))) ?_ (fun r hp nx gs h => ⟨1, h.1, h.2⟩) (fun f g h => by simp only [go_sem, h])
  refine mk22 rfl fun c hP hm => ?_
  unfold pc22
  simp only [hm, go_sem, ↓reduceIte]
  simp only [asmNew, List.map_replicate, intRow]
  repeat' first | refine And.intro ?_ ?_ | intro _
  all_goals first | omega | (exfalso; omega) | (rw [Int.toNat_natCast])
theorem s_implAsmNew0 (n : Int) (hn : ¬ (1 ≤ n ∧ n ≤ 4)) : Spec Try.prog 22 0 [] [.i n] (fun r _ _ _ => r = .tup [.agg [.r .nil, .r .nil], .bo false]) := by
  refine mk22 rfl fun c hP hm => ?_
  unfold pc22
  simp only [hm, go_sem, ↓reduceIte]
  repeat' first | refine And.intro ?_ ?_ | intro _
  all_goals first | omega | (exfalso; omega) | rfl
/-- What one part adds at most. -/
theorem settle_len : ∀ (k : Nat) (a : Asm) (ms : List Msg), AsmOk a → (settle k a ms).2.length + (settle k a ms).1.parts.length ≤ ms.length + a.parts.length ∧ (settle k a ms).1.next.length = a.next.length ∧ ∀ d ∈ (settle k a ms).1.parts, d ∈ a.parts
  | 0, a, ms, _ => ⟨Nat.le_refl _, rfl, fun d h => h⟩
  | k + 1, a, ms, h => by
    rw [settle]
    cases hd : due a with
    | none => exact ⟨Nat.le_refl _, rfl, fun d h => h⟩
    | some p =>
      have hlt := takeOut_lt (due_ok h hd)
      obtain ⟨h1, h2, h3⟩ := settle_len k (takeOut a p) (ms ++ [msgOf a p]) (takeOut_ok h)
      have hn : (takeOut a p).next.length = a.next.length := by unfold takeOut; simp only; split <;> simp
      simp only
      refine ⟨?_, by rw [h2, hn], fun d hd => restFrom_mem p a.parts 0 d (h3 d hd)⟩
      rw [List.length_append, List.length_singleton] at h1; omega
theorem add_len (a : Asm) (d : Data) : (asmAdd a d).2.2 = 0 → (asmAdd a d).2.1.length ≤ 13 ∧ (asmAdd a d).1.next.length ≤ 4 ∧ (asmAdd a d).1.parts.length ≤ 13 ∧ ∀ x ∈ (asmAdd a d).1.parts, x.text.length ≤ 20 := by
  unfold asmAdd
  split
  · intro h; cases h
  · rename_i hc
    have hc : asmB a = true ∧ dataB d = true ∧ d.stream < a.next.length := by
      cases h1 : asmB a <;> cases h2 : dataB d <;> simp [h1, h2] at hc ⊢
      exact hc
    split
    · intro h; cases h
    · split
      · intro h; cases h
      · intro _
        obtain ⟨k1, k2, k3, k4⟩ := asm_ok hc.1
        obtain ⟨h1, h2, h3⟩ := settle_len (a.parts.length + 2) ⟨a.next, a.parts ++ [d]⟩ [] (add_ok hc.1 hc.2.1 hc.2.2)
        simp only [List.length_append, List.length_singleton, List.length_nil] at h1 h2
        refine ⟨by simp only; omega, by simp only; omega, by simp only; omega, fun x hx => ?_⟩
        rcases List.mem_append.1 (h3 x hx) with hx | hx
        · exact (data_ok (k4 x hx).1).2.2.2.2
        · simp only [List.mem_singleton] at hx; subst hx; exact (data_ok hc.2.1).2.2.2.2
def runSt (n : Nat) (l : List Data) : Asm × List Msg := l.foldl asmStep (asmNew n, [])
theorem runSt_take {n : Nat} {l : List Data} {i : Nat} (h : i < l.length) : runSt n (l.take (i + 1)) = asmStep (runSt n (l.take i)) l[i] := by unfold runSt; rw [take_get h, List.foldl_append]; rfl
theorem runSt_len (n : Nat) (hn : n ≤ 4) : ∀ (l : List Data), (runSt n l).1.next.length ≤ 4 ∧ (runSt n l).1.parts.length ≤ 13 ∧ (runSt n l).2.length ≤ 13 * l.length ∧ ∀ d ∈ (runSt n l).1.parts, d.text.length ≤ 20 := by
  intro l
  induction h : l.length generalizing l with
  | zero =>
    rw [List.eq_nil_of_length_eq_zero h]
    exact ⟨by simpa [runSt, asmNew] using hn, by simp [runSt, asmNew], by simp [runSt], by simp [runSt, asmNew]⟩
  | succ m ih =>
    rcases l.eq_nil_or_concat with rfl | ⟨l0, x, rfl⟩
    · simp at h
    · rw [List.concat_eq_append] at h ⊢
      rw [List.length_append, List.length_singleton] at h
      obtain ⟨h1, h2, h3, h4⟩ := ih l0 (by omega)
      have e : runSt n (l0 ++ [x]) = asmStep (runSt n l0) x := by unfold runSt; rw [List.foldl_append]; rfl
      rw [e]
      unfold asmStep
      split
      · rename_i h0
        obtain ⟨a1, a2, a3, a4⟩ := add_len _ _ h0
        refine ⟨a2, a3, ?_, a4⟩
        simp only [List.length_append]; omega
      · exact ⟨h1, h2, by omega, h4⟩
def runS (l : List Data) (o : Bool) (a : Asm) (ms : List Msg) (i : Nat) : St :=
  if o then ⟨[(5, .ptr 0 0 0), (7, .sl 3 0 ms.length), (21, .r (.ro none (l.map Data.row))), (22, .i l.length), (23, .i i)], [(3, .row 4 (ms.map Msg.row)), (2, .row 7 (a.parts.map Data.row)), (1, .row 1 (a.next.map intRow)), (0, .var [.sl 1 0 a.next.length, .sl 2 0 a.parts.length])], 4, []⟩
  else ⟨[(5, .ptr 0 0 0), (7, .sl 2 0 ms.length), (21, .r (.ro none (l.map Data.row))), (22, .i l.length), (23, .i i)], [(2, .row 4 (ms.map Msg.row)), (1, .row 1 (a.next.map intRow)), (0, .var [.sl 1 0 a.next.length, .r .nil])], 3, []⟩
theorem s_implAsmRun1 (n : Nat) (l : List Data) (hn : 1 ≤ n ∧ n ≤ 4) (hl : l.length ≤ 1000000) (hx : ∀ d ∈ l, d.text.length ≤ 9223372036854775807) : Spec Try.prog 19 0 [] [.i n, .r (.ro none (l.map Data.row))] (New1 (.sl 0 0 (asmRun n l).length) 4 ((asmRun n l).map Msg.row)) := by
  have hrun : asmRun n l = (runSt n l).2 := by unfold asmRun; rw [if_pos (by omega), Int.toNat_natCast]; rfl
  rw [hrun]
  refine Spec.new1 (Q := fun r hp _ _ => ∃ b, r = .sl b 0 (runSt n l).2.length ∧ hget hp b = some (.row 4 ((runSt n l).2.map Msg.row))) ?_ (fun r hp nx gs h => h) (fun f g h => by simp only [go_sem, h])
  refine mk19 rfl fun c hP hm => ?_
  unfold pc19
  simp only [hm, go_sem, ↓reduceIte]
  refine call_new1 (hP ▸ s_implAsmNew1 n hn) rfl (intClosed _) (vws_self _ _ rfl) ?_
  simp only [hm, go_sem, ↓reduceIte]
  intro _
  refine run_exit 0 (fun t0 => ∃ o, t0 = runS l o (runSt n l).1 (runSt n l).2 l.length) ?_ (fun t0 h => ?_)
  rotate_left
  · obtain ⟨o, rfl⟩ := h
    cases o <;> simp only [runS, hm, go_sem, ↓reduceIte, Bool.false_eq_true]
    · exact ⟨_, rfl, rfl⟩
    · exact ⟨_, rfl, rfl⟩
  refine lp_wpc (α := Bool × Nat) (fun y => runS l y.1 (runSt n (l.take y.2)).1 (runSt n (l.take y.2)).2 y.2) (fun y => y.2 ≤ l.length ∧ (y.1 = false → (runSt n (l.take y.2)).1.parts = [])) (fun y => l.length - y.2) (false, 0) ⟨Nat.zero_le _, fun _ => rfl⟩ ?_ ?_
  · have : (asmNew n).next.length = n := by simp [asmNew]
    simp only [List.take_zero, runSt, List.foldl_nil, runS, Bool.false_eq_true, if_false, this]
    (refine le_ev [(0, 1), (1, 0)] ?_; simp only [hm, go_sem, ↓reduceIte]; first | done | rfl | exact ⟨rfl, rfl⟩)
  rintro ⟨o, i⟩ ⟨hi, ho⟩
  simp only at hi ho
  unfold pc19l0
  rcases Nat.lt_or_ge i l.length with hil | hil
  · have hst := runSt_take (n := n) hil
    obtain ⟨r1, r2, r3, r4⟩ := runSt_len n hn.2 (l.take i)
    have hti : (l.take i).length = i := by rw [List.length_take]; omega
    rw [hti] at r3
    have hdx := hx _ (List.getElem_mem hil)
    have hgd : (l.map Data.row).getD i [] = l[i].row := getD_map hil
    generalize runSt n (l.take i) = y at hst r1 r2 r3 r4 ho
    generalize l[i] = d at hst hdx hgd
    obtain ⟨a, ms⟩ := y
    simp only at r1 r2 r3 r4 ho
    have e0 := add_len a d
    unfold asmStep at hst
    simp only at hst
    cases o <;> simp only [runS, Bool.false_eq_true, if_false, if_true, Int.toNat_natCast, hgd, Data.row, hm, go_sem, ↓reduceIte]
    all_goals repeat' first | refine And.intro ?_ ?_ | intro _
    all_goals try omega
    · refine c_implAsmAdd hP (a := a) (d := d) (by omega) (by omega) (fun x hx => by have := r4 x hx; omega) hdx (.cons (vw_agg (.cons (Vw.full rfl (by simp)) (.cons (by rw [ho rfl]; exact Vw.nil) .nil))) (.cons (vw_self _ _ rfl) .nil)) (fun h3 => ?_) (fun h0 => ?_) (fun h3 h0 => ?_)
      · rw [if_neg (by rw [h3]; decide)] at hst
        simp only [hm, go_sem, ↓reduceIte]
        rw [wrap64 (x := (i : Int) + 1) (by omega) (by omega)]
        refine ⟨(false, i + 1), ⟨hil, fun h => by rw [hst]; exact ho h⟩, by omega, ?_⟩
        simp only [hst, Bool.false_eq_true, if_false, if_true]
        (refine le_ev [] ?_; simp only [hm, go_sem, ↓reduceIte]; first | done | rfl | exact ⟨rfl, rfl⟩)
      · rw [if_pos h0] at hst
        obtain ⟨q1, q2, q3, q4⟩ := e0 h0
        simp only [List.length_append, hm, go_sem, ↓reduceIte]
        rw [wrap64 (x := (i : Int) + 1) (by omega) (by omega)]
        simp only [List.take_of_length_le (i := ms.length) (l := ms.map Msg.row) (by simp), List.take_of_length_le (i := (asmAdd a d).2.1.length) (l := (asmAdd a d).2.1.map Msg.row) (by simp), List.drop_zero, ← List.map_append]
        repeat' first | refine And.intro ?_ ?_ | intro _
        all_goals first
          | omega
          | (rw [List.length_map]; omega)
          | (refine ⟨(true, i + 1), ⟨hil, fun h => by cases h⟩, by omega, ?_⟩
             simp only [hst, if_true, List.length_append]
             (refine le_ev [(3, 2), (2, 5), (1, 4)] ?_; simp only [hm, go_sem, ↓reduceIte]; first | done | rfl | exact ⟨rfl, rfl⟩))
      · rw [if_neg h0] at hst
        simp only [hm, go_sem, ↓reduceIte]
        simp only [h0, hm, go_sem, ↓reduceIte]
        rw [wrap64 (x := (i : Int) + 1) (by omega) (by omega)]
        refine ⟨(false, i + 1), ⟨hil, fun h => by rw [hst]; exact ho h⟩, by omega, ?_⟩
        simp only [hst, Bool.false_eq_true, if_false, if_true]
        (refine le_ev [] ?_; simp only [hm, go_sem, ↓reduceIte]; first | done | rfl | exact ⟨rfl, rfl⟩)
    · refine c_implAsmAdd hP (a := a) (d := d) (by omega) (by omega) (fun x hx => by have := r4 x hx; omega) hdx (.cons (vw_agg (.cons (Vw.full rfl (by simp)) (.cons (Vw.full rfl (by simp)) .nil))) (.cons (vw_self _ _ rfl) .nil)) (fun h3 => ?_) (fun h0 => ?_) (fun h3 h0 => ?_)
      · rw [if_neg (by rw [h3]; decide)] at hst
        simp only [hm, go_sem, ↓reduceIte]
        rw [wrap64 (x := (i : Int) + 1) (by omega) (by omega)]
        refine ⟨(true, i + 1), ⟨hil, fun h => by rw [hst]; exact ho h⟩, by omega, ?_⟩
        simp only [hst, Bool.false_eq_true, if_false, if_true]
        (refine le_ev [] ?_; simp only [hm, go_sem, ↓reduceIte]; first | done | rfl | exact ⟨rfl, rfl⟩)
      · rw [if_pos h0] at hst
        obtain ⟨q1, q2, q3, q4⟩ := e0 h0
        simp only [List.length_append, hm, go_sem, ↓reduceIte]
        rw [wrap64 (x := (i : Int) + 1) (by omega) (by omega)]
        simp only [List.take_of_length_le (i := ms.length) (l := ms.map Msg.row) (by simp), List.take_of_length_le (i := (asmAdd a d).2.1.length) (l := (asmAdd a d).2.1.map Msg.row) (by simp), List.drop_zero, ← List.map_append]
        repeat' first | refine And.intro ?_ ?_ | intro _
        all_goals first
          | omega
          | (rw [List.length_map]; omega)
          | (refine ⟨(true, i + 1), ⟨hil, fun h => by cases h⟩, by omega, ?_⟩
             simp only [hst, if_true, List.length_append]
             (refine le_ev [(3, 3), (2, 6), (1, 5)] ?_; simp only [hm, go_sem, ↓reduceIte]; first | done | rfl | exact ⟨rfl, rfl⟩))
      · rw [if_neg h0] at hst
        simp only [hm, go_sem, ↓reduceIte]
        simp only [h0, hm, go_sem, ↓reduceIte]
        rw [wrap64 (x := (i : Int) + 1) (by omega) (by omega)]
        refine ⟨(true, i + 1), ⟨hil, fun h => by rw [hst]; exact ho h⟩, by omega, ?_⟩
        simp only [hst, Bool.false_eq_true, if_false, if_true]
        (refine le_ev [] ?_; simp only [hm, go_sem, ↓reduceIte]; first | done | rfl | exact ⟨rfl, rfl⟩)
  · have : i = l.length := by omega
    subst this
    cases o <;> simp only [runS, Bool.false_eq_true, if_false, if_true, hm, List.take_length, go_sem, ↓reduceIte]
    · exact ⟨_, ⟨false, rfl⟩, by simp only [runS, Bool.false_eq_true, if_false]; exact le_ev [] (by simp only [hm, go_sem, ↓reduceIte])⟩
    · exact ⟨_, ⟨true, rfl⟩, by simp only [runS, if_true]; exact le_ev [] (by simp only [hm, go_sem, ↓reduceIte])⟩
theorem s_implAsmRun0 (n : Int) (l : List Data) (hn : ¬ (1 ≤ n ∧ n ≤ 4)) : Spec Try.prog 19 0 [] [.i n, .r (.ro none (l.map Data.row))] (fun r _ _ _ => r = .r .nil) := by
  refine mk19 rfl fun c hP hm => ?_
  unfold pc19
  simp only [hm, go_sem, ↓reduceIte]
  refine call_val (hP ▸ s_implAsmNew0 n hn) rfl (fun _ => rfl) (vws_self _ _ rfl) ?_
  simp only [hm, go_sem, ↓reduceIte]
end Go.Cap

import Derived.Test.YtcjbfoeiegecmaaT1
import Derived.Test.YtcjbfoeiegecmaaM1
import Derived.Test.YtcjbfoeiegecmaaEngC
/- Contracts: serial numbers; the reference's parts. -/
namespace Go.Cap
open Go Go.Proofs
set_option maxRecDepth 100000
set_option linter.unusedSimpArgs false
set_option linter.unusedVariables false
attribute [local irreducible] Call Run Spec Le

theorem tmod64k (n : Int) : -65536 < n.tmod 65536 ∧ n.tmod 65536 < 65536 ∧ (n.tmod 65536 - n) % 65536 = 0 := by
  rcases Int.lt_or_le n 0 with h | h
  · have e : n.tmod 65536 = -((-n).tmod 65536) := by rw [← Int.neg_tmod, Int.neg_neg]
    rw [e, Int.tmod_eq_emod_of_nonneg (by omega)]; omega
  · rw [Int.tmod_eq_emod_of_nonneg h]; omega
theorem s_l3Add (a n : Int) (ha : 0 ≤ a ∧ a < 65536) : Spec Try.prog 46 0 [] [.i a, .i n] (fun r _ _ _ => r = .i (l3 a n)) := by
  refine mk46 rfl fun c hP hm => ?_
  unfold pc46
  simp only [go_sem, ↓reduceIte]
  obtain ⟨h1, h2, h3⟩ := tmod64k n
  simp (disch := omega) only [wrap64]
  rw [Int.tmod_eq_emod_of_nonneg (by omega)]
  unfold l3
  congr 2; omega
theorem dataClosed (l : List Data) : closL2 (l.map Data.row) := closL2_map (fun s x hx => by
  simp only [Data.row, List.mem_cons, List.not_mem_nil, or_false] at hx
  rcases hx with rfl | rfl | rfl | rfl | rfl | rfl | rfl <;> rfl) l
theorem s_l31Ssn (l : List Data) (x : Int) (hl : l.length ≤ 4000000) : Spec Try.prog 65 0 [] [.r (.ro none (l.map Data.row)), .i x] (fun r _ _ _ => r = .i (ssnIn l x)) := by
  refine mk65 rfl fun c hP hm => ?_
  unfold pc65
  simp only [go_sem, ↓reduceIte]
  refine lp_wpc (α := Nat) (fun i => ⟨[(0, .r (.ro none (l.map Data.row))), (1, .i x), (5, .i (ssnIn (l.take i) x)), (6, .i i)], [], 0, []⟩) (fun i => i ≤ l.length) (fun i => l.length - i) 0 (Nat.zero_le _) (le_eq (by simp [ssnIn])) ?_
  intro i hi
  unfold pc65l0
  simp only [go_sem, ↓reduceIte]
  intro _
  refine ⟨fun hlt => ?_, fun hge => ?_⟩
  · have hil : i < l.length := by omega
    have hs := ssnIn_take hil x
    have hle := ssnIn_le (l.take i) x
    simp only [List.length_take] at hle
    simp only [Int.toNat_natCast, getD_map hil, Data.row, go_sem, ↓reduceIte]
    generalize hd : l[i] = d at hs
    obtain ⟨a, b, e, f, g, h, k⟩ := d
    simp only at hs
    simp only [Data.row, go_sem, ↓reduceIte]
    refine ⟨⟨by omega, by omega⟩, ?_⟩
    have e1 : IntKind.i64.wrap ((i : Int) + 1) = ((i + 1 : Nat) : Int) := by rw [wrap64 (by omega) (by omega)]; omega
    have e2 : IntKind.i64.wrap ((ssnIn (l.take i) x : Int) + 1) = ((ssnIn (l.take i) x + 1 : Nat) : Int) := by rw [wrap64 (by omega) (by omega)]; omega
    rw [e1, e2]
    repeat' first | refine And.intro ?_ ?_ | intro _
    all_goals first
      | omega
      | (simp only [*, if_true, if_false, Bool.false_eq_true, and_self, true_and, false_and, and_false, reduceCtorEq] at hs
         exact ⟨i + 1, hil, by omega, le_eq (by rw [hs] <;> rfl)⟩)
  · have : i = l.length := by omega
    subst this
    simp

/-- What a valid talk promises. -/
theorem loop_l41Parts {c : Cx} (hP : c.P = Try.prog) (hm : c.m = 0) (t : Talk) (byB : Bool) (f : Int) (z : Nat) (hv : talkB t = true) (hz : t.size = z) (hf : 0 ≤ f ∧ f < 65536) {n r : St → Prop} {x : Nat → St → Prop}
    (hx : ∀ v k, x 0 ⟨[(1, .bo byB), (2, .ptr 0 0 0), (5, .i f), (6, .sl 1 0 (partsAcc z f byB t.says []).length), (7, k), (25, v)],
      [(1, .row 7 ((partsAcc z f byB t.says []).map Data.row)), (0, .var [.i t.fr, .i t.to, .i t.a.tag, .i t.a.window, .i t.a.streams, .i t.a.tsn, .i t.b.tag, .i t.b.window, .i t.b.streams, .i t.b.tsn, .i t.size, .r (.ro none (t.says.map Say.row))])], 2, []⟩) :
    Run c (.lp pc62l1) ⟨[(1, .bo byB), (2, .ptr 0 0 0), (5, .i f), (6, .sl 1 0 0), (7, .i 0)],
      [(1, .row 7 []), (0, .var [.i t.fr, .i t.to, .i t.a.tag, .i t.a.window, .i t.a.streams, .i t.a.tsn, .i t.b.tag, .i t.b.window, .i t.b.streams, .i t.b.tsn, .i t.size, .r (.ro none (t.says.map Say.row))])], 2, []⟩ n x r := by
  obtain ⟨hsz, hlen, hsays, hta, htb, _, _⟩ := talk_ok hv
  have hz1 : 1 ≤ z ∧ z ≤ 20 := by omega
  refine lp_wpc (α := Nat × List Data) (fun y => ⟨[(1, .bo byB), (2, .ptr 0 0 0), (5, .i f), (6, .sl 1 0 y.2.length), (7, .i y.1)],
      [(1, .row 7 (y.2.map Data.row)), (0, .var [.i t.fr, .i t.to, .i t.a.tag, .i t.a.window, .i t.a.streams, .i t.a.tsn, .i t.b.tag, .i t.b.window, .i t.b.streams, .i t.b.tsn, .i t.size, .r (.ro none (t.says.map Say.row))])], 2, []⟩)
    (fun y => y.1 ≤ t.says.length ∧ y.2.length ≤ 60 * y.1 ∧ partsAcc z f byB (t.says.drop y.1) y.2 = partsAcc z f byB t.says []) (fun y => t.says.length - y.1) (0, [])
    ⟨Nat.zero_le _, Nat.zero_le _, rfl⟩ (Le.refl _) ?_
  rintro ⟨i, out⟩ ⟨hi, ho, hI⟩
  simp only at hi ho hI
  unfold pc62l1
  simp only [go_sem, ↓reduceIte]
  intro _
  refine ⟨fun hlt => ?_, fun hge => ?_⟩
  · have hil : i < t.says.length := by omega
    rw [partsAcc_drop hil] at hI
    obtain ⟨q1, q2, q3, q4⟩ := hsays _ (List.getElem_mem hil)
    simp only [Int.toNat_natCast, getD_map hil, Say.row, go_sem, ↓reduceIte]
    generalize t.says[i] = s at hI q1 q2 q3 q4
    refine ⟨⟨by omega, by omega⟩, ?_⟩
    -- the inner loop
    have hml := many_le2 (n := s.text.length) hz1.1
    have inner : ∀ (ssn : Int), ssn = ssnOf out s → ∀ {n r : St → Prop} {x : Nat → St → Prop}, (∀ out', partsAcc z f byB (t.says.drop (i + 1)) out' = partsAcc z f byB t.says [] → out'.length ≤ 60 * (i + 1) → x 2 ⟨[(1, .bo byB), (2, .ptr 0 0 0), (5, .i f), (6, .sl 1 0 out'.length), (7, .i i)],
          [(1, .row 7 (out'.map Data.row)), (0, .var [.i t.fr, .i t.to, .i t.a.tag, .i t.a.window, .i t.a.streams, .i t.a.tsn, .i t.b.tag, .i t.b.window, .i t.b.streams, .i t.b.tsn, .i t.size, .r (.ro none (t.says.map Say.row))])], 2, []⟩) →
        Run c (.lp pc62l0) ⟨[(1, .bo byB), (2, .ptr 0 0 0), (5, .i f), (6, .sl 1 0 out.length), (7, .i i), (8, .ptr 2 0 0), (9, .i ssn), (10, .i 0)],
        [(2, .var [.bo s.byB, .i s.stream, .bo s.loose, .st s.text]), (1, .row 7 (out.map Data.row)), (0, .var [.i t.fr, .i t.to, .i t.a.tag, .i t.a.window, .i t.a.streams, .i t.a.tsn, .i t.b.tag, .i t.b.window, .i t.b.streams, .i t.b.tsn, .i t.size, .r (.ro none (t.says.map Say.row))])], 3, []⟩ n x r := by
      intro ssn hssn n r x hx
      refine run_exit 2 (fun t0 => ∃ out', t0 = ⟨[(1, .bo byB), (2, .ptr 0 0 0), (5, .i f), (6, .sl 1 0 out'.length), (7, .i i)], [(1, .row 7 (out'.map Data.row)), (0, .var [.i t.fr, .i t.to, .i t.a.tag, .i t.a.window, .i t.a.streams, .i t.a.tsn, .i t.b.tag, .i t.b.window, .i t.b.streams, .i t.b.tsn, .i t.size, .r (.ro none (t.says.map Say.row))])], 2, []⟩ ∧ partsAcc z f byB (t.says.drop (i + 1)) out' = partsAcc z f byB t.says [] ∧ out'.length ≤ 60 * (i + 1)) ?_
        (fun t0 ⟨out', h1, h2, h3⟩ => by rw [h1]; exact hx out' h2 h3)
      refine lp_wpc (α := Nat) (fun j => ⟨[(1, .bo byB), (2, .ptr 0 0 0), (5, .i f), (6, .sl 1 0 (out.length + j)), (7, .i i), (8, .ptr 2 0 0), (9, .i ssn), (10, .i (j * z : Nat))],
        [(2, .var [.bo s.byB, .i s.stream, .bo s.loose, .st s.text]), (1, .row 7 ((out ++ (nextParts z f out s).take j).map Data.row)), (0, .var [.i t.fr, .i t.to, .i t.a.tag, .i t.a.window, .i t.a.streams, .i t.a.tsn, .i t.b.tag, .i t.b.window, .i t.b.streams, .i t.b.tsn, .i t.size, .r (.ro none (t.says.map Say.row))])], 3, []⟩)
        (fun j => if s.byB = byB then j ≤ manyN s.text.length z else j = 0) (fun j => manyN s.text.length z - j) 0 (by simp) (le_eq (by simp)) ?_
      intro j hj
      unfold pc62l0
      simp only [go_sem, ↓reduceIte]
      have hout : ∀ j, j ≤ manyN s.text.length z → (out ++ (nextParts z f out s).take j).length = out.length + j := fun j hj => by
        simp [nextParts_len]; omega
      have hjs : j ≤ manyN s.text.length z := by split at hj <;> omega
      refine ⟨fun hlt2 => ?_, fun hge2 => ?_⟩
      · refine ⟨fun hb => ?_, fun hb => ?_⟩
        · rw [if_pos hb] at hj
          intro _
          have hjm : j < manyN s.text.length z := (many_lt hz1.1).2 (by omega)
          have hadd : (j + 1) * z = j * z + z := by rw [Nat.add_mul, Nat.one_mul]
          have e1 : IntKind.i64.wrap (((j * z : Nat) : Int) + t.size) = (((j + 1) * z : Nat) : Int) := by rw [wrap64 (by omega) (by omega)]; omega
          rw [e1]
          generalize hE : (if (s.text.length : Int) < (((j + 1) * z : Nat) : Int) then (s.text.length : Int) else (((j + 1) * z : Nat) : Int)) = E
          have hE1 : E = min (s.text.length : Int) (((j + 1) * z : Nat) : Int) := by rw [← hE]; split <;> omega
          refine ⟨⟨by omega, by omega, by omega⟩, ?_⟩
          have hpart : (part z (l3 f out.length) ssn s j).row = [.n .i64 (l3 f ((out.length + j : Nat) : Int)), .n .i64 s.stream, .n .i64 ssn, .b (((j * z : Nat) : Int) == 0), .b (E == s.text.length), .b s.loose, .s ((s.text.take E.toNat).drop ((j * z : Nat) : Int).toNat)] := by
            simp only [part, Data.row, l3_l3]
            have k1 : (decide (j = 0)) = (((j * z : Nat) : Int) == 0) := by
              rw [Bool.eq_iff_iff]; simp only [decide_eq_true_eq, beq_iff_eq]
              constructor
              · rintro rfl; simp
              · intro h
                have : j * z = 0 := by omega
                rcases Nat.mul_eq_zero.1 this with h | h <;> omega
            have k2 : (decide (s.text.length ≤ (j + 1) * z)) = (E == s.text.length) := by
              rw [Bool.eq_iff_iff]; simp only [decide_eq_true_eq, beq_iff_eq]; omega
            have k3 : s.text.take ((j + 1) * z) = s.text.take E.toNat := by
              rcases Nat.lt_or_ge s.text.length ((j + 1) * z) with h | h
              · have : E.toNat = s.text.length := by omega
                rw [this, List.take_of_length_le (by omega), List.take_of_length_le (by omega)]
              · have : E.toNat = (j + 1) * z := by omega
                rw [this]
            rw [k1, k2, k3, Int.toNat_natCast, show ((out.length : Int) + (j : Int)) = ((out.length + j : Nat) : Int) by omega]
          have hstep : (out ++ (nextParts z f out s).take j).map Data.row ++ [(part z (l3 f out.length) ssn s j).row] = (out ++ (nextParts z f out s).take (j + 1)).map Data.row := by
            rw [show (nextParts z f out s).take (j + 1) = (nextParts z f out s).take j ++ [part z (l3 f out.length) ssn s j] by rw [hssn]; exact take_chunks hjm]
            simp
          rw [hpart] at hstep
          have e2 : IntKind.i64.wrap (((j * z : Nat) : Int) + t.size) = (((j + 1) * z : Nat) : Int) := e1
          have htk2 : List.take (out.length + j) (List.map Data.row (out ++ List.take j (nextParts z f out s))) = List.map Data.row (out ++ List.take j (nextParts z f out s)) := List.take_of_length_le (by rw [List.length_map, hout j (by omega)]; omega)
          have hlk : (List.take j (nextParts z f out s)).length = j := by simp [nextParts_len]; omega
          repeat' first
            | refine And.intro ?_ ?_
            | (refine call_pure (hP ▸ s_l3Add f ((out.length + j : Nat) : Int) hf) rfl rfl ?_
               simp only [hm, go_sem, ↓reduceIte]
               rw [htk2, hstep, e2])
          all_goals first
            | omega
            | (refine ⟨j + 1, by rw [if_pos hb]; omega, by omega, le_ev [] ?_⟩
               simp only [hm, go_sem, ↓reduceIte]
               rfl)
        · rw [if_neg hb] at hj hI
          subst hj
          exact ⟨_, ⟨out, rfl, hI, by omega⟩, le_ev [] (by simp only [hm, go_sem, ↓reduceIte, List.take_zero, List.append_nil, Nat.add_zero, Nat.reduceLeDiff])⟩
      · by_cases hb : s.byB = byB
        · rw [if_pos hb] at hj hI
          have hjm : j = manyN s.text.length z := by
            rcases Nat.lt_or_ge j (manyN s.text.length z) with h | h
            · have := (many_lt hz1.1).1 h; omega
            · omega
          have htk : (nextParts z f out s).take j = nextParts z f out s := List.take_of_length_le (by rw [nextParts_len]; omega)
          rw [htk]
          have hl : out.length + j = (out ++ nextParts z f out s).length := by rw [List.length_append, nextParts_len]; omega
          exact ⟨_, ⟨out ++ nextParts z f out s, rfl, hI, by rw [← hl]; omega⟩, le_ev [] (by simp only [hm, hl, go_sem, ↓reduceIte, Nat.reduceLeDiff])⟩
        · rw [if_neg hb] at hj hI
          subst hj
          exact ⟨_, ⟨out, rfl, hI, by omega⟩, le_ev [] (by simp only [hm, go_sem, ↓reduceIte, List.take_zero, List.append_nil, Nat.add_zero, Nat.reduceLeDiff])⟩
    refine ⟨fun hlo => ?_, fun hlo => ?_⟩
    · refine call_flat (hP ▸ s_l31Ssn out s.stream (by omega)) rfl (.cons (Vw.full rfl (by simp)) (.cons (.r _) .nil)) ?_
      simp only [go_sem, ↓reduceIte]
      refine inner _ (by simp [ssnOf, hlo]) fun out' h1 h2 => ?_
      simp only [go_sem, ↓reduceIte]
      rw [wrap64 (by omega) (by omega)]
      exact ⟨(i + 1, out'), ⟨hil, h2, h1⟩, by simp only; omega, Le.refl _⟩
    · refine inner _ (by simp [ssnOf, hlo]) fun out' h1 h2 => ?_
      simp only [go_sem, ↓reduceIte]
      rw [wrap64 (by omega) (by omega)]
      exact ⟨(i + 1, out'), ⟨hil, h2, h1⟩, by simp only; omega, Le.refl _⟩
  · have : i = t.says.length := by omega
    subst this
    rw [List.drop_eq_nil_of_le (Nat.le_refl _)] at hI
    simp only [partsAcc] at hI
    rw [hI]
    exact hx _ _

theorem s_l41Parts (t : Talk) (byB : Bool) (hv : talkB t = true) : Spec Try.prog 62 0 [] [t.ro, .bo byB] (New1 (.sl 0 0 (talkParts t byB).length) 7 ((talkParts t byB).map Data.row)) := by
  refine Spec.new1 (Q := fun r hp _ _ => r = .sl 1 0 (talkParts t byB).length ∧ hget hp 1 = some (.row 7 ((talkParts t byB).map Data.row))) ?_ (fun r hp nx gs h => ⟨1, h.1, h.2⟩) (fun f g h => by simp only [go_sem, h])
  obtain ⟨hsz, hlen, hsays, hta, htb, _, _⟩ := talk_ok hv
  have hz : t.size = (t.size.toNat : Int) := by omega
  refine mk62 rfl fun c hP hm => ?_
  unfold pc62 Talk.ro Talk.av talkParts
  rw [if_pos hv]
  cases byB
  all_goals
    simp only [Talk.tsn, if_true, if_false, Bool.false_eq_true]
    simp only [go_sem, ↓reduceIte]
  · refine loop_l41Parts hP hm t false t.a.tsn _ hv hz hta fun v k => ?_
    simp only [go_sem, ↓reduceIte]
  · refine loop_l41Parts hP hm t true t.b.tsn _ hv hz htb fun v k => ?_
    simp only [go_sem, ↓reduceIte]
theorem s_specTalkParts (t : Talk) (byB : Bool) (hl : t.says.length ≤ 1048576) (hx : ∀ s ∈ t.says, s.text.length ≤ 1048576) : Spec Try.prog 54 0 [] [t.ro, .bo byB] (New1 (.sl 0 0 (talkParts t byB).length) 7 ((talkParts t byB).map Data.row)) := by
  refine Spec.new1 (Q := fun r hp _ _ => ∃ b, r = .sl b 0 (talkParts t byB).length ∧ hget hp b = some (.row 7 ((talkParts t byB).map Data.row))) ?_ (fun r hp nx gs ⟨b, h1, h2⟩ => ⟨b, h1, h2⟩) (fun f g h => by simp only [go_sem, h])
  refine mk54 rfl fun c hP hm => ?_
  unfold pc54 Talk.ro Talk.av
  simp only [go_sem, ↓reduceIte]
  refine call_pure (hP ▸ s_specTalkValid t hl hx) rfl rfl ?_
  simp only [go_sem, ↓reduceIte]
  refine ⟨fun hv => ?_, fun hv => ?_⟩
  · exact ⟨1, by simp [talkParts, hv], by simp [talkParts, hv]⟩
  · refine call_new1 (hP ▸ s_l41Parts t byB hv) rfl (dataClosed _) (vws_self _ _ rfl) ?_
    simp only [go_sem, ↓reduceIte]
    exact ⟨1, rfl, rfl⟩
end Go.Cap

import Derived.Test.YtpkemdacmcjgmaaV2
import Derived.Test.YtpkemdacmcjgmaaS2
/- Contracts: SideSaid of the program and of the reference. -/
namespace Go.Cap
open Go Go.Proofs
set_option maxRecDepth 100000
set_option linter.unusedSimpArgs false
set_option linter.unusedVariables false
attribute [local irreducible] Call Run Spec Le

def sinStep (x : List Msg × List UInt8) (d : Data) : List Msg × List UInt8 :=
  let acc := (if d.first then [] else x.2) ++ d.text
  if d.last then (x.1 ++ [⟨d.stream, d.ssn, d.loose, acc⟩], acc) else (x.1, acc)
def sinSt (l : List Data) : List Msg × List UInt8 := l.foldl sinStep ([], [])
theorem sinSt_take {l : List Data} {i : Nat} (h : i < l.length) : sinSt (l.take (i + 1)) = sinStep (sinSt (l.take i)) l[i] := by rw [take_get h]; unfold sinSt; rw [List.foldl_append]; rfl
theorem sinSt_len' (m : Nat) : ∀ (l : List Data) (x : List Msg × List UInt8), (∀ d ∈ l, d.text.length ≤ m) → (l.foldl sinStep x).1.length ≤ x.1.length + l.length ∧ (l.foldl sinStep x).2.length ≤ x.2.length + m * l.length
  | [], x, _ => by simp
  | d :: l, x, h => by
    have h3 := h d (List.mem_cons_self ..)
    obtain ⟨h1, h2⟩ := sinSt_len' m l (sinStep x d) (fun y hy => h y (List.mem_cons_of_mem _ hy))
    have e : m * (l.length + 1) = m * l.length + m := by rw [Nat.mul_add, Nat.mul_one]
    simp only [List.foldl_cons, List.length_cons]
    have k1 : (sinStep x d).1.length ≤ x.1.length + 1 := by unfold sinStep; dsimp only; split <;> simp
    have k2 : (sinStep x d).2.length ≤ x.2.length + m := by unfold sinStep; cases d.first <;> cases d.last <;> simp <;> omega
    omega
theorem sinSt_len (l : List Data) (m : Nat) (h : ∀ d ∈ l, d.text.length ≤ m) : (sinSt l).1.length ≤ l.length ∧ (sinSt l).2.length ≤ m * l.length := by
  have := sinSt_len' m l ([], []) h
  simpa [sinSt] using this
theorem sin_eq {l : List Data} (h : ∀ i (hi : i < l.length), mayB (l.take i) l[i] = true) : ∀ i, i ≤ l.length → (sinSt (l.take i)).1 = (saidSt (l.take i)).1 ∧
    (match (l.take i).getLast? with | some x => if x.last then (saidSt (l.take i)).2 = [] else (saidSt (l.take i)).2 = (sinSt (l.take i)).2 | none => (saidSt (l.take i)).2 = [])
  | 0, _ => by simp [sinSt, saidSt]
  | i + 1, hi => by
    have hil : i < l.length := by omega
    obtain ⟨h1, h2⟩ := sin_eq h i (by omega)
    have hm := h i hil
    rw [sinSt_take hil, saidSt_take hil]
    have hg : (l.take (i + 1)).getLast? = some l[i] := by rw [take_get hil]; exact List.getLast?_concat
    rw [hg]
    generalize l[i] = d at hm
    unfold mayB at hm
    generalize sinSt (l.take i) = A at h1 h2
    generalize saidSt (l.take i) = B at h1 h2
    obtain ⟨a1, a2⟩ := A
    obtain ⟨b1, b2⟩ := B
    simp only at h1 h2
    subst h1
    have key : (if d.first then ([] : List UInt8) else a2) = b2 := by
      cases hl : (l.take i).getLast? with
      | none =>
        rw [hl] at hm h2
        simp only [Bool.and_eq_true] at hm h2
        rw [if_pos hm.1, h2]
      | some x =>
        rw [hl] at hm h2
        simp only at hm h2
        cases hx : x.last
        · rw [hx] at hm h2
          simp only [Bool.false_eq_true, if_false, Bool.and_eq_true, Bool.not_eq_true'] at hm h2
          rw [if_neg (by simp [hm.1]), h2]
        · rw [hx] at hm h2
          simp only [if_true, Bool.and_eq_true] at hm h2
          rw [if_pos hm.1, h2]
    simp only [sinStep, saidStep, key]
    cases d.last <;> simp
theorem sin_said {l : List Data} (h : ∀ i (hi : i < l.length), mayB (l.take i) l[i] = true) : (sinSt l).1 = said l := by
  have := (sin_eq h l.length (Nat.le_refl _)).1
  rwa [List.take_length] at this
theorem sideLoop_may {add : Int → Int → Int} {s : Side} : ∀ (l : List Data) (i : Nat), sideLoop add s i l = true → ∀ j (hj : j < l.length), partB add s (i + j) l[j] = true
  | [], i, h, j, hj => by simp at hj
  | d :: l, i, h, 0, hj => by simp only [sideLoop, Bool.and_eq_true] at h; exact h.1
  | d :: l, i, h, j + 1, hj => by
    simp only [sideLoop, Bool.and_eq_true] at h
    have := sideLoop_may l (i + 1) h.2 j (by simpa using hj)
    simpa [Nat.add_assoc, Nat.add_comm 1 j] using this
/-- What a valid side promises. -/
theorem side_ok {s : Side} (h : sideB s = true) : s.sent.length ≤ 12 ∧ (∀ d ∈ s.sent, d.text.length ≤ 20) ∧ ∀ i (hi : i < s.sent.length), mayB (s.sent.take i) s.sent[i] = true := by
  unfold sideB at h
  split at h
  · simp only [noneB, Bool.and_eq_true, decide_eq_true_eq] at h
    have h0 : s.sent = [] := List.eq_nil_of_length_eq_zero h.1.2
    rw [h0]
    exact ⟨by simp, fun d hd => by simp at hd, fun i hi => by simp at hi⟩
  · simp only [headB, Bool.and_eq_true, decide_eq_true_eq] at h
    obtain ⟨⟨⟨⟨⟨h1, h2⟩, h3⟩, h4⟩, h5⟩, h6⟩ := h
    have key := sideLoop_may s.sent 0 h6
    refine ⟨h4, fun d hd => ?_, fun i hi => ?_⟩
    · obtain ⟨i, hi, rfl⟩ := List.getElem_of_mem hd
      have := key i hi
      simp only [partB, dataB, Bool.and_eq_true, decide_eq_true_eq] at this
      omega
    · have := key i hi
      simp only [partB, Bool.and_eq_true, Nat.zero_add] at this
      exact this.2
theorem s_saidIn (l : List Data) (hl : l.length ≤ 100000) (hx : ∀ d ∈ l, d.text.length ≤ 100000) : Spec Try.prog 65 0 [] [.r (.ro none (l.map Data.row))] (New1 (.sl 0 0 (sinSt l).1.length) 4 ((sinSt l).1.map Msg.row)) := by
  refine Spec.new1 (Q := fun r hp _ _ => r = .sl 0 0 (sinSt l).1.length ∧ hget hp 0 = some (.row 4 ((sinSt l).1.map Msg.row))) ?_ (fun r hp nx gs h => ⟨0, h.1, h.2⟩) (fun f g h => by simp only [go_sem, h])
  refine mk65 rfl fun c hP hm => ?_
  unfold pc65
  simp only [go_sem, ↓reduceIte]
  intro _
  refine run_exit 0 (fun t0 => t0 = ⟨[(3, .sl 0 0 (sinSt l).1.length)], [(0, .row 4 ((sinSt l).1.map Msg.row))], 1, []⟩) ?_ (fun t0 h => by rw [h]; simp only [go_sem, ↓reduceIte])
  refine lp_wpc (α := Nat) (fun i => ⟨[(3, .sl 0 0 (sinSt (l.take i)).1.length), (4, .st (sinSt (l.take i)).2), (8, .r (.ro none (l.map Data.row))), (9, .i l.length), (10, .i i)], [(0, .row 4 ((sinSt (l.take i)).1.map Msg.row))], 1, []⟩) (fun i => i ≤ l.length) (fun i => l.length - i) 0 (Nat.zero_le _) (le_ev [] (by simp only [hm, List.take_zero, sinSt, List.foldl_nil, go_sem, ↓reduceIte])) ?_
  intro i hi
  unfold pc65l0
  rcases Nat.lt_or_ge i l.length with hil | hil
  · obtain ⟨k1, k2⟩ := sinSt_len (l.take i) 100000 (fun d hd => hx d (List.mem_of_mem_take hd))
    have hd := hx _ (List.getElem_mem hil)
    have hs := sinSt_take hil
    simp only [Int.toNat_natCast, getD_map hil, Data.row, hm, go_sem, ↓reduceIte]
    have hti : (l.take i).length = i := by rw [List.length_take]; omega
    generalize sinSt (l.take i) = st at k1 k2 hs
    obtain ⟨ms, acc⟩ := st
    simp only at k1 k2
    generalize l[i] = d at hs hd
    simp only [List.take_of_length_le (i := ms.length) (l := ms.map Msg.row) (by simp)]
    rw [wrap64 (x := (i : Int) + 1) (by omega) (by omega)]
    repeat' first | refine And.intro ?_ ?_ | intro _
    all_goals first
      | omega
      | (simp only [List.length_nil]; omega)
      | (refine ⟨i + 1, hil, by omega, ?_⟩
         rw [hs]
         simp only [sinStep, *, if_true, if_false, Bool.false_eq_true]
         exact le_ev [] (by simp only [hm, List.map_append, Msg.row, go_sem, ↓reduceIte]; first | rfl | exact ⟨rfl, rfl⟩))
  · have : i = l.length := by omega
    subst this
    simp only [go_sem, ↓reduceIte]
    exact ⟨_, rfl, le_ev [] (by simp only [hm, List.take_length, go_sem, ↓reduceIte])⟩
def sideSaid (s : Side) : List Msg := if sideB s then said s.sent else []
theorem s_implSideSaid1 (s : Side) (hl : s.sent.length ≤ 2000000) (hx : ∀ d ∈ s.sent, d.text.length ≤ 9223372036854775807) (hv : sideB s = true) : Spec Try.prog 33 0 [] [s.ro] (New1 (.sl 0 0 (sideSaid s).length) 4 ((sideSaid s).map Msg.row)) := by
  obtain ⟨h1, h2, h3⟩ := side_ok hv
  have he : sideSaid s = (sinSt s.sent).1 := by unfold sideSaid; rw [if_pos hv, sin_said h3]
  rw [he]
  refine Spec.new1 (Q := fun r hp _ _ => r = .sl 1 0 (sinSt s.sent).1.length ∧ hget hp 1 = some (.row 4 ((sinSt s.sent).1.map Msg.row))) ?_ (fun r hp nx gs h => ⟨1, h.1, h.2⟩) (fun f g h => by simp only [go_sem, h])
  refine mk33 rfl fun c hP hm => ?_
  unfold pc33 Side.ro Side.av
  simp only [go_sem, ↓reduceIte]
  refine call_pure (hP ▸ s_implSideValid s hl hx) rfl rfl ?_
  simp only [hv, go_sem, ↓reduceIte]
  refine call_new1 (hP ▸ s_saidIn s.sent (by omega) (fun d hd => by have := h2 d hd; omega)) rfl (msgClosed _) (vws_self _ _ rfl) ?_
  simp only [go_sem, ↓reduceIte]
theorem s_implSideSaid0 (s : Side) (hl : s.sent.length ≤ 2000000) (hx : ∀ d ∈ s.sent, d.text.length ≤ 9223372036854775807) (hv : ¬ sideB s = true) : Spec Try.prog 33 0 [] [s.ro] (fun r _ _ _ => r = .r .nil) := by
  refine mk33 rfl fun c hP hm => ?_
  unfold pc33 Side.ro Side.av
  simp only [go_sem, ↓reduceIte]
  refine call_pure (hP ▸ s_implSideValid s hl hx) rfl rfl ?_
  simp only [hv, go_sem, ↓reduceIte]
theorem s_specSideSaid (s : Side) (hl : s.sent.length ≤ 2000000) (hx : ∀ d ∈ s.sent, d.text.length ≤ 9223372036854775807) : Spec Try.prog 31 0 [] [s.ro] (New1 (.sl 0 0 (sideSaid s).length) 4 ((sideSaid s).map Msg.row)) := by
  refine Spec.new1 (Q := fun r hp _ _ => r = .sl 1 0 (sideSaid s).length ∧ hget hp 1 = some (.row 4 ((sideSaid s).map Msg.row))) ?_ (fun r hp nx gs h => ⟨1, h.1, h.2⟩) (fun f g h => by simp only [go_sem, h])
  refine mk31 rfl fun c hP hm => ?_
  unfold pc31 Side.ro Side.av
  simp only [go_sem, ↓reduceIte]
  refine call_pure (hP ▸ s_specSideValid s hl hx) rfl rfl ?_
  unfold sideSaid
  by_cases hv : sideB s = true
  · obtain ⟨h1, h2, h3⟩ := side_ok hv
    simp only [hv, go_sem, ↓reduceIte]
    refine call_new1 (hP ▸ s_l31Said s.sent (by omega) (fun d hd => by have := h2 d hd; omega)) rfl (msgClosed _) (vws_self _ _ rfl) ?_
    simp only [go_sem, ↓reduceIte]
  · simp only [hv, go_sem, ↓reduceIte]
theorem vw_side {hp : List (Nat × Blk)} {b : Nat} {s : Side} {n : Nat} (h : hget hp b = some (.row 7 (s.sent.map Data.row))) (hn : n = s.sent.length) : Vw hp (s.av (.sl b 0 n)) s.ro :=
  vw_agg (.cons (.r _) (.cons (.r _) (.cons (.r _) (.cons (Vw.full h (by simpa using hn)) (.cons (.r _) .nil)))))
end Go.Cap

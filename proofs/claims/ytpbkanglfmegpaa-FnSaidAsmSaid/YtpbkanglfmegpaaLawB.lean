import Derived.Test.YtpbkanglfmegpaaEngC
import Derived.Test.YtpbkanglfmegpaaLawA
import Derived.Test.YtpbkanglfmegpaaPc
/- Contracts: SideSaid of the program and of the reference. -/
namespace Go.Cap
open Go Go.Proofs
set_option maxRecDepth 100000
set_option linter.unusedSimpArgs false
set_option linter.unusedVariables false
attribute [local irreducible] Call Run Spec Le

def sinStep (x : List Msg × List UInt8) (d : Data) : List Msg × List UInt8 :=
  let acc := (if d.first then [] else x.2) ++ d.text
  if d.last then (x.1 ++ [⟨d.stream, d.ssn, d.loose, acc⟩], acc) else (x.1, acc)
def sinSt (l : List Data) : List Msg × List UInt8 := l.foldl sinStep ([], [])
theorem sinSt_take {l : List Data} {i : Nat} (h : i < l.length) : sinSt (l.take (i + 1)) = sinStep (sinSt (l.take i)) l[i] := by rw [take_get h]; unfold sinSt; rw [List.foldl_append]; rfl
theorem sinSt_len' (m : Nat) : ∀ (l : List Data) (x : List Msg × List UInt8), (∀ d ∈ l, d.text.length ≤ m) → (l.foldl sinStep x).1.length ≤ x.1.length + l.length ∧ (l.foldl sinStep x).2.length ≤ x.2.length + m * l.length
  | [], x, _ => by simp
  | d :: l, x, h => by
    have h3 := h d (List.mem_cons_self ..)
    obtain ⟨h1, h2⟩ := sinSt_len' m l (sinStep x d) (fun y hy => h y (List.mem_cons_of_mem _ hy))
    have e : m * (l.length + 1) = m * l.length + m := by rw [Nat.mul_add, Nat.mul_one]
    simp only [List.foldl_cons, List.length_cons]
    have k1 : (sinStep x d).1.length ≤ x.1.length + 1 := by unfold sinStep; dsimp only; split <;> simp
    have k2 : (sinStep x d).2.length ≤ x.2.length + m := by unfold sinStep; cases d.first <;> cases d.last <;> simp <;> omega
    omega
theorem sinSt_len (l : List Data) (m : Nat) (h : ∀ d ∈ l, d.text.length ≤ m) : (sinSt l).1.length ≤ l.length ∧ (sinSt l).2.length ≤ m * l.length := by
  have := sinSt_len' m l ([], []) h
  simpa [sinSt] using this
theorem sin_eq {l : List Data} (h : ∀ i (hi : i < l.length), mayB (l.take i) l[i] = true) : ∀ i, i ≤ l.length → (sinSt (l.take i)).1 = (saidSt (l.take i)).1 ∧
    (match (l.take i).getLast? with | some x => if x.last then (saidSt (l.take i)).2 = [] else (saidSt (l.take i)).2 = (sinSt (l.take i)).2 | none => (saidSt (l.take i)).2 = [])
  | 0, _ => by simp [sinSt, saidSt]
  | i + 1, hi => by
    have hil : i < l.length := by omega
    obtain ⟨h1, h2⟩ := sin_eq h i (by omega)
    have hm := h i hil
    rw [sinSt_take hil, saidSt_take hil]
    have hg : (l.take (i + 1)).getLast? = some l[i] := by rw [take_get hil]; exact List.getLast?_concat
    rw [hg]
    generalize l[i] = d at hm
    unfold mayB at hm
    generalize sinSt (l.take i) = A at h1 h2
    generalize saidSt (l.take i) = B at h1 h2
    obtain ⟨a1, a2⟩ := A
    obtain ⟨b1, b2⟩ := B
    simp only at h1 h2
    subst h1
    have key : (if d.first then ([] : List UInt8) else a2) = b2 := by
      cases hl : (l.take i).getLast? with
      | none =>
        rw [hl] at hm h2
        simp only [Bool.and_eq_true] at hm h2
        rw [if_pos hm.1, h2]
      | some x =>
        rw [hl] at hm h2
        simp only at hm h2
        cases hx : x.last
        · rw [hx] at hm h2
          simp only [Bool.false_eq_true, if_false, Bool.and_eq_true, Bool.not_eq_true'] at hm h2
          rw [if_neg (by simp [hm.1]), h2]
        · rw [hx] at hm h2
          simp only [if_true, Bool.and_eq_true] at hm h2
          rw [if_pos hm.1, h2]
    simp only [sinStep, saidStep, key]
    cases d.last <;> simp
theorem sin_said {l : List Data} (h : ∀ i (hi : i < l.length), mayB (l.take i) l[i] = true) : (sinSt l).1 = said l := by
  have := (sin_eq h l.length (Nat.le_refl _)).1
  rwa [List.take_length] at this
theorem sideLoop_may {add : Int → Int → Int} {s : Side} : ∀ (l : List Data) (i : Nat), sideLoop add s i l = true → ∀ j (hj : j < l.length), partB add s (i + j) l[j] = true
  | [], i, h, j, hj => by simp at hj
  | d :: l, i, h, 0, hj => by simp only [sideLoop, Bool.and_eq_true] at h; exact h.1
  | d :: l, i, h, j + 1, hj => by
    simp only [sideLoop, Bool.and_eq_true] at h
    have := sideLoop_may l (i + 1) h.2 j (by simpa using hj)
    simpa [Nat.add_assoc, Nat.add_comm 1 j] using this
/-- What a valid side promises. -/
theorem side_ok {s : Side} (h : sideB s = true) : s.sent.length ≤ 12 ∧ (∀ d ∈ s.sent, d.text.length ≤ 20) ∧ ∀ i (hi : i < s.sent.length), mayB (s.sent.take i) s.sent[i] = true := by
  unfold sideB at h
  split at h
  · simp only [noneB, Bool.and_eq_true, decide_eq_true_eq] at h
    have h0 : s.sent = [] := List.eq_nil_of_length_eq_zero h.1.2
    rw [h0]
    exact ⟨by simp, fun d hd => by simp at hd, fun i hi => by simp at hi⟩
  · simp only [headB, Bool.and_eq_true, decide_eq_true_eq] at h
    obtain ⟨⟨⟨⟨⟨h1, h2⟩, h3⟩, h4⟩, h5⟩, h6⟩ := h
    have key := sideLoop_may s.sent 0 h6
    refine ⟨h4, fun d hd => ?_, fun i hi => ?_⟩
    · obtain ⟨i, hi, rfl⟩ := List.getElem_of_mem hd
      have := key i hi
      simp only [partB, dataB, Bool.and_eq_true, decide_eq_true_eq] at this
      omega
    · have := key i hi
      simp only [partB, Bool.and_eq_true, Nat.zero_add] at this
      exact this.2
theorem s_saidIn (l : List Data) (hl : l.length ≤ 100000) (hx : ∀ d ∈ l, d.text.length ≤ 100000) : Spec Try.prog 49 0 [] [.r (.ro none (l.map Data.row))] (New1 (.sl 0 0 (sinSt l).1.length) 4 ((sinSt l).1.map Msg.row)) := by
  refine Spec.new1 (Q := fun r hp _ _ => r = .sl 0 0 (sinSt l).1.length ∧ hget hp 0 = some (.row 4 ((sinSt l).1.map Msg.row))) ?_ (fun r hp nx gs h => ⟨0, h.1, h.2⟩) (fun f g h => by simp only [go_sem, h])
  refine mk49 rfl fun c hP hm => ?_
  unfold pc49
  simp only [go_sem, ↓reduceIte]
  intro _
  refine run_exit 0 (fun t0 => t0 = ⟨[(3, .sl 0 0 (sinSt l).1.length)], [(0, .row 4 ((sinSt l).1.map Msg.row))], 1, []⟩) ?_ (fun t0 h => by rw [h]; simp only [go_sem, ↓reduceIte])
  refine lp_wpc (α := Nat) (fun i => ⟨[(3, .sl 0 0 (sinSt (l.take i)).1.length), (4, .st (sinSt (l.take i)).2), (8, .r (.ro none (l.map Data.row))), (9, .i l.length), (10, .i i)], [(0, .row 4 ((sinSt (l.take i)).1.map Msg.row))], 1, []⟩) (fun i => i ≤ l.length) (fun i => l.length - i) 0 (Nat.zero_le _) (le_ev [] (by simp only [hm, List.take_zero, sinSt, List.foldl_nil, go_sem, ↓reduceIte])) ?_
  intro i hi
  unfold pc49l0
  rcases Nat.lt_or_ge i l.length with hil | hil
  · obtain ⟨k1, k2⟩ := sinSt_len (l.take i) 100000 (fun d hd => hx d (List.mem_of_mem_take hd))
    have hd := hx _ (List.getElem_mem hil)
    have hs := sinSt_take hil
    simp only [Int.toNat_natCast, getD_map hil, Data.row, hm, go_sem, ↓reduceIte]
    have hti : (l.take i).length = i := by rw [List.length_take]; omega
    generalize sinSt (l.take i) = st at k1 k2 hs
    obtain ⟨ms, acc⟩ := st
    simp only at k1 k2
    generalize l[i] = d at hs hd
    simp only [List.take_of_length_le (i := ms.length) (l := ms.map Msg.row) (by simp)]
    rw [wrap64 (x := (i : Int) + 1) (by omega) (by omega)]
    repeat' first | refine And.intro ?_ ?_ | intro _
    all_goals first
      | omega
      | (simp only [List.length_nil]; omega)
      | (refine ⟨i + 1, hil, by omega, ?_⟩
         rw [hs]
         simp only [sinStep, *, if_true, if_false, Bool.false_eq_true]
         exact le_ev [] (by simp only [hm, List.map_append, Msg.row, go_sem, ↓reduceIte]; first | rfl | exact ⟨rfl, rfl⟩))
  · have : i = l.length := by omega
    subst this
    simp only [go_sem, ↓reduceIte]
    exact ⟨_, rfl, le_ev [] (by simp only [hm, List.take_length, go_sem, ↓reduceIte])⟩
def sideSaid (s : Side) : List Msg := if sideB s then said s.sent else []
theorem s_implSideSaid1 (s : Side) (hl : s.sent.length ≤ 2000000) (hx : ∀ d ∈ s.sent, d.text.length ≤ 9223372036854775807) (hv : sideB s = true) : Spec Try.prog 27 0 [] [s.ro] (New1 (.sl 0 0 (sideSaid s).length) 4 ((sideSaid s).map Msg.row)) := by
  obtain ⟨h1, h2, h3⟩ := side_ok hv
  have he : sideSaid s = (sinSt s.sent).1 := by unfold sideSaid; rw [if_pos hv, sin_said h3]
  rw [he]
  refine Spec.new1 (Q := fun r hp _ _ => r = .sl 1 0 (sinSt s.sent).1.length ∧ hget hp 1 = some (.row 4 ((sinSt s.sent).1.map Msg.row))) ?_ (fun r hp nx gs h => ⟨1, h.1, h.2⟩) (fun f g h => by simp only [go_sem, h])
  refine mk27 rfl fun c hP hm => ?_
  unfold pc27 Side.ro Side.av
  simp only [go_sem, ↓reduceIte]
  refine call_pure (hP ▸ s_implSideValid s hl hx) rfl rfl ?_
  simp only [hv, go_sem, ↓reduceIte]
  refine call_new1 (hP ▸ s_saidIn s.sent (by omega) (fun d hd => by have := h2 d hd; omega)) rfl (msgClosed _) (vws_self _ _ rfl) ?_
  simp only [go_sem, ↓reduceIte]
theorem s_implSideSaid0 (s : Side) (hl : s.sent.length ≤ 2000000) (hx : ∀ d ∈ s.sent, d.text.length ≤ 9223372036854775807) (hv : ¬ sideB s = true) : Spec Try.prog 27 0 [] [s.ro] (fun r _ _ _ => r = .r .nil) := by
  refine mk27 rfl fun c hP hm => ?_
  unfold pc27 Side.ro Side.av
  simp only [go_sem, ↓reduceIte]
  refine call_pure (hP ▸ s_implSideValid s hl hx) rfl rfl ?_
  simp only [hv, go_sem, ↓reduceIte]
theorem s_specSideSaid (s : Side) (hl : s.sent.length ≤ 2000000) (hx : ∀ d ∈ s.sent, d.text.length ≤ 9223372036854775807) : Spec Try.prog 28 0 [] [s.ro] (New1 (.sl 0 0 (sideSaid s).length) 4 ((sideSaid s).map Msg.row)) := by
  refine Spec.new1 (Q := fun r hp _ _ => r = .sl 1 0 (sideSaid s).length ∧ hget hp 1 = some (.row 4 ((sideSaid s).map Msg.row))) ?_ (fun r hp nx gs h => ⟨1, h.1, h.2⟩) (fun f g h => by simp only [go_sem, h])
  refine mk28 rfl fun c hP hm => ?_
  unfold pc28 Side.ro Side.av
  simp only [go_sem, ↓reduceIte]
  refine call_pure (hP ▸ s_specSideValid s hl hx) rfl rfl ?_
  unfold sideSaid
  by_cases hv : sideB s = true
  · obtain ⟨h1, h2, h3⟩ := side_ok hv
    simp only [hv, go_sem, ↓reduceIte]
    refine call_new1 (hP ▸ s_l31Said s.sent (by omega) (fun d hd => by have := h2 d hd; omega)) rfl (msgClosed _) (vws_self _ _ rfl) ?_
    simp only [go_sem, ↓reduceIte]
  · simp only [hv, go_sem, ↓reduceIte]
end Go.Cap

/- The parts of a talk are those of a valid side. -/
namespace Go.Cap
open Go Go.Proofs
set_option maxRecDepth 100000
set_option linter.unusedSimpArgs false
set_option linter.unusedVariables false
attribute [local irreducible] Call Run Spec Le

theorem mayB_first {f : List Data} {d : Data} (hl : ∀ x, f.getLast? = some x → x.last = true) (hd : d.first = true) (hs : d.loose = true ∨ d.ssn = ssnIn f d.stream) : mayB f d = true := by
  unfold mayB
  cases h : f.getLast? with
  | none => simp [hd]; rcases hs with hs | hs <;> simp [hs]
  | some x =>
    have := hl x h
    simp only [this, if_true]
    simp [hd]; rcases hs with hs | hs <;> simp [hs]
theorem mayB_next {f : List Data} {x d : Data} (hl : f.getLast? = some x) (hx : x.last = false) (hd : d.first = false) (hk : likeB d x = true) : mayB f d = true := by
  unfold mayB
  rw [hl]
  simp [hx, hd, hk]
/-- Every part may follow the ones ahead of it. -/
structure Fit (f : Int) (streams : Int) (out : List Data) : Prop where
  ok : ∀ i (hi : i < out.length), dataB out[i] = true ∧ out[i].tsn = l3 f i ∧ out[i].stream < streams ∧ mayB (out.take i) out[i] = true
  last : ∀ x, out.getLast? = some x → x.last = true
theorem Fit.next {z : Nat} (hz : 1 ≤ z ∧ z ≤ 20) {f streams : Int} {out : List Data} (h : Fit f streams out) (ho : out.length ≤ 60000) {s : Say} (h1 : 1 ≤ s.text.length) (hs : 0 ≤ s.stream ∧ s.stream < streams) (hs4 : streams ≤ 4) : Fit f streams (out ++ nextParts z f out s) := by
  have hnl : (nextParts z f out s).length = manyN s.text.length z := nextParts_len ..
  refine ⟨fun i hi => ?_, fun x hx => ?_⟩
  · rcases Nat.lt_or_ge i out.length with hio | hio
    · rw [List.getElem_append_left hio, List.take_append_of_le_length (by omega)]
      exact h.ok i hio
    · obtain ⟨j, rfl⟩ : ∃ j, i = out.length + j := ⟨i - out.length, by omega⟩
      have hj : j < manyN s.text.length z := by rw [List.length_append, hnl] at hi; omega
      have hget : (out ++ nextParts z f out s)[out.length + j] = part z (l3 f out.length) (ssnOf out s) s j := by
        have h2 : (out ++ nextParts z f out s)[out.length + j]? = some (part z (l3 f out.length) (ssnOf out s) s j) := by
          rw [List.getElem?_append_right (by omega), Nat.add_sub_cancel_left]; exact chunks_get hj
        rw [List.getElem?_eq_getElem hi] at h2
        exact Option.some.inj h2
      have htake : (out ++ nextParts z f out s).take (out.length + j) = out ++ (nextParts z f out s).take j := by
        rw [List.take_append, List.take_of_length_le (by omega), Nat.add_sub_cancel_left]
      rw [hget, htake]
      have hlt := (many_lt hz.1).1 hj
      have hadd : (j + 1) * z = j * z + z := by rw [Nat.add_mul, Nat.one_mul]
      have hssn := ssnIn_le out s.stream
      have hrange := l3_range (l3 f out.length) j
      refine ⟨?_, ?_, hs.2, ?_⟩
      · have k1 : serialB (l3 (l3 f out.length) j) = true := serial_l3 _ _
        have k2 : serialB s.stream = true := by simp only [serialB, decide_eq_true_eq]; omega
        have k3 : serialB (ssnOf out s) = true := by unfold ssnOf; simp only [serialB, decide_eq_true_eq]; split <;> omega
        have k4 : 1 ≤ (part z (l3 f out.length) (ssnOf out s) s j).text.length ∧ (part z (l3 f out.length) (ssnOf out s) s j).text.length ≤ 20 := by
          simp only [part, List.length_drop, List.length_take]; omega
        unfold dataB
        rw [decide_eq_true k4]
        show (serialB (l3 (l3 f out.length) j) && serialB s.stream && serialB (ssnOf out s) && true) = true
        rw [k1, k2, k3]; rfl
      · simp only [part, l3_l3]; congr 1
      · cases j with
        | zero =>
          rw [List.take_zero, List.append_nil]
          refine mayB_first h.last (by simp [part]) ?_
          simp only [part, ssnOf]
          cases s.loose <;> simp
        | succ j =>
          have hj' : j < manyN s.text.length z := by omega
          refine mayB_next (x := part z (l3 f out.length) (ssnOf out s) s j) ?_ ?_ (by simp [part]) (by simp [likeB, part])
          · rw [show (nextParts z f out s).take (j + 1) = (nextParts z f out s).take j ++ [part z (l3 f out.length) (ssnOf out s) s j] from take_chunks hj', ← List.append_assoc]
            exact List.getLast?_concat
          · simp only [part, decide_eq_false_iff_not]; omega
  · have hm : 0 < manyN s.text.length z := (many_lt hz.1).2 (by omega)
    obtain ⟨m, hmm⟩ : ∃ m, manyN s.text.length z = m + 1 := ⟨manyN s.text.length z - 1, by omega⟩
    have hn : ¬ (m + 1) * z < s.text.length := fun h => by have := (many_lt hz.1).2 h; omega
    unfold nextParts chunks at hx
    rw [hmm, List.range_succ, List.map_append, ← List.append_assoc, List.map_cons, List.map_nil, List.getLast?_concat] at hx
    cases hx
    simp only [part, decide_eq_true_eq]; omega
theorem fit_parts {z : Nat} (hz : 1 ≤ z ∧ z ≤ 20) {f streams : Int} (hs4 : streams ≤ 4) {byB : Bool} : ∀ (l : List Say) (out : List Data), (∀ s ∈ l, s.byB = byB → 1 ≤ s.text.length ∧ s.text.length ≤ 60 ∧ 0 ≤ s.stream ∧ s.stream < streams) → out.length + 60 * l.length ≤ 60000 → Fit f streams out → Fit f streams (partsAcc z f byB l out)
  | [], out, _, _, h => h
  | s :: l, out, hl, hb, h => by
    have hl' : ∀ x ∈ l, x.byB = byB → 1 ≤ x.text.length ∧ x.text.length ≤ 60 ∧ 0 ≤ x.stream ∧ x.stream < streams := fun x hx => hl x (List.mem_cons_of_mem _ hx)
    rw [List.length_cons] at hb
    simp only [partsAcc]
    split
    · rename_i hbb
      obtain ⟨q1, q2, q3, q4⟩ := hl s (List.mem_cons_self ..) hbb
      have ml := many_le2 (n := s.text.length) hz.1
      exact fit_parts hz hs4 l _ hl' (by rw [List.length_append, nextParts_len]; omega) (h.next hz (by omega) q1 ⟨q3, q4⟩ hs4)
    · exact fit_parts hz hs4 l _ hl' (by omega) h
def Talk.init (t : Talk) (byB : Bool) : Init := if byB then t.b else t.a
theorem init_ok {t : Talk} (hv : talkB t = true) (byB : Bool) : initB (t.init byB) = true := by
  simp only [talkB, talkHead, Bool.and_eq_true] at hv
  cases byB
  · exact hv.1.1.1.1.2
  · exact hv.1.1.1.2
theorem talk_fit {t : Talk} (hv : talkB t = true) (byB : Bool) : Fit (t.init byB).tsn (t.init byB).streams (talkParts t byB) := by
  obtain ⟨hsz, hlen, hsays, hta, htb, hsa, hsb⟩ := talk_ok hv
  unfold talkParts
  rw [if_pos hv]
  have e : t.tsn byB = (t.init byB).tsn := by cases byB <;> rfl
  rw [e]
  refine fit_parts (by omega) ?_ t.says [] ?_ (by simp only [List.length_nil]; omega) ⟨fun i hi => by simp at hi, fun x hx => by simp at hx⟩
  · cases byB <;> simp [Talk.init] <;> omega
  · intro s hs hb
    have := hsays s hs
    rw [hb] at this
    cases byB <;> simpa [Talk.init] using this
end Go.Cap

/- Plain model: numbers as bytes, sums, chunks, packets, records. -/
namespace Go.Cap
open Go Go.Proofs
set_option linter.unusedSimpArgs false
set_option linter.unusedVariables false

def u8 (x : Int) : UInt8 := UInt8.ofNat x.toNat
def word (n : Int) : List UInt8 := [u8 (n / 256), u8 (n % 256)]
def long (n : Int) : List UInt8 := word (n / 65536) ++ word (n % 65536)
def at2 (s : List UInt8) (i : Nat) : Int := 256 * (s.getD i 0).toNat + (s.getD (i + 1) 0).toNat
theorem byte_lt (b : UInt8) : (b.toNat : Int) < 256 := by have := b.toNat_lt; omega
theorem at2_range (s : List UInt8) (i : Nat) : 0 ≤ at2 s i ∧ at2 s i < 65536 := by
  have h1 := byte_lt (s.getD i 0)
  have h2 := byte_lt (s.getD (i + 1) 0)
  unfold at2; omega
/-- The sum. -/
def adl : List UInt8 → Int → Int → Int × Int
  | [], a, b => (a, b)
  | c :: l, a, b => adl l ((a + c.toNat) % 65521) ((b + (a + c.toNat) % 65521) % 65521)
def sumOf (s : List UInt8) : Int := 65536 * (adl s 1 0).2 + (adl s 1 0).1
theorem adl_range : ∀ (s : List UInt8) (a b : Int), (0 ≤ a ∧ a < 65521) → (0 ≤ b ∧ b < 65521) → (0 ≤ (adl s a b).1 ∧ (adl s a b).1 < 65521) ∧ (0 ≤ (adl s a b).2 ∧ (adl s a b).2 < 65521)
  | [], a, b, ha, hb => ⟨ha, hb⟩
  | c :: l, a, b, ha, hb => adl_range l _ _ (by omega) (by omega)
theorem sumOf_range (s : List UInt8) : 0 ≤ sumOf s ∧ sumOf s < 4294967296 := by
  have := adl_range s 1 0 (by omega) (by omega)
  unfold sumOf; omega
theorem adl_take {s : List UInt8} {i : Nat} (h : i < s.length) (a b : Int) : adl (s.take (i + 1)) a b = (((adl (s.take i) a b).1 + s[i].toNat) % 65521, ((adl (s.take i) a b).2 + ((adl (s.take i) a b).1 + s[i].toNat) % 65521) % 65521) := by
  induction s generalizing i a b with
  | nil => simp at h
  | cons c s ih =>
    cases i with
    | zero => simp [adl]
    | succ i =>
      rw [List.take_succ_cons, List.take_succ_cons, adl, adl, ih (by simpa using h)]
      rfl
structure Chunk where
  kind : Int
  flags : Int
  body : List UInt8
  deriving Inhabited
def Chunk.row (c : Chunk) : List RV := [.n .i64 c.kind, .n .i64 c.flags, .s c.body]
def Chunk.av (c : Chunk) : AV := .agg [.i c.kind, .i c.flags, .st c.body]
def chunkB (c : Chunk) : Bool := inB c.kind 0 255 && inB c.flags 0 255 && decide (c.body.length ≤ 60)
def padN (n : Nat) : Nat := (4 - n % 4) % 4
def chunkPut (c : Chunk) : List UInt8 := [u8 c.kind, u8 c.flags] ++ word (4 + c.body.length : Nat) ++ c.body ++ List.replicate (padN c.body.length) 0
theorem chunkPut_len (c : Chunk) : (chunkPut c).length = 4 + c.body.length + padN c.body.length := by
  unfold chunkPut word
  simp only [List.length_append, List.length_replicate, List.length_cons, List.length_nil]
theorem padN_lt (n : Nat) : padN n < 4 ∧ (n + padN n) % 4 = 0 := by unfold padN; omega
structure Packet where
  fr : Int
  to : Int
  tag : Int
  chunks : List Chunk
  deriving Inhabited
def Packet.ro (p : Packet) : AV := .agg [.i p.fr, .i p.to, .i p.tag, .r (.ro none (p.chunks.map Chunk.row))]
def Packet.row (p : Packet) : List RV := [.n .i64 p.fr, .n .i64 p.to, .n .i64 p.tag, .ro none (p.chunks.map Chunk.row)]
def packB (p : Packet) : Bool := inB p.fr 1 65535 && inB p.to 1 65535 && decide (p.fr ≠ p.to) && inB p.tag 0 4294967295 && decide (1 ≤ p.chunks.length ∧ p.chunks.length ≤ 4) && p.chunks.all chunkB
def packHead (p : Packet) : List UInt8 := word p.fr ++ word p.to ++ long p.tag
def packRest (p : Packet) : List UInt8 := p.chunks.flatMap chunkPut
def packRaw (p : Packet) : List UInt8 := packHead p ++ long (sumOf (packHead p ++ [0, 0, 0, 0] ++ packRest p)) ++ packRest p
def packPut (p : Packet) : List UInt8 := if packB p then packRaw p else []
def bit (b : Bool) (n : Int) : Int := if b then n else 0
def dataPut (d : Data) : Chunk := ⟨0, bit d.last 1 + bit d.first 2 + bit d.loose 4, word d.tsn ++ word d.stream ++ word d.ssn ++ d.text⟩
def initPut (x : Init) (ans : Bool) : Chunk := ⟨if ans then 2 else 1, 0, long x.tag ++ word x.window ++ word x.streams ++ word x.tsn⟩
structure Gap where
  fr : Int
  to : Int
  deriving Inhabited
def Gap.row (g : Gap) : List RV := [.n .i64 g.fr, .n .i64 g.to]
structure Sack where
  cum : Int
  gaps : List Gap
  deriving Inhabited
def gapsB : Int → List Gap → Bool
  | _, [] => true
  | last, g :: l => decide (last + 2 ≤ g.fr ∧ g.fr ≤ g.to ∧ g.to ≤ 16) && gapsB g.to l
def sackB (s : Sack) : Bool := serialB s.cum && decide (s.gaps.length ≤ 8) && gapsB 0 s.gaps
def sackPut (s : Sack) : Chunk := ⟨3, 0, word s.cum ++ s.gaps.flatMap fun g => word g.fr ++ word g.to⟩
/-- All parts of a talk, in the order in which they are said, with their sides. -/
def talkAll (z : Nat) (ta tb : Int) : List Say → List Data → List Data → List (Bool × Data)
  | [], _, _ => []
  | s :: l, oa, ob => if s.byB then (nextParts z tb ob s).map (fun d => (true, d)) ++ talkAll z ta tb l oa (ob ++ nextParts z tb ob s)
    else (nextParts z ta oa s).map (fun d => (false, d)) ++ talkAll z ta tb l (oa ++ nextParts z ta oa s) ob
def onePk (t : Talk) (byB : Bool) (c : Chunk) : Packet := if byB then ⟨t.to, t.fr, t.a.tag, [c]⟩ else ⟨t.fr, t.to, t.b.tag, [c]⟩
def hello (t : Talk) : List Packet := [⟨t.fr, t.to, 0, [initPut t.a false]⟩, onePk t true (initPut t.b true), onePk t false ⟨10, 0, []⟩, onePk t true ⟨11, 0, []⟩]
def saysPk (t : Talk) (l : List (Bool × Data)) : List Packet := l.flatMap fun x => [onePk t x.1 (dataPut x.2), onePk t (!x.1) (sackPut ⟨x.2.tsn, []⟩)]
def bye (t : Talk) : List Packet := [onePk t false ⟨7, 0, []⟩, onePk t true ⟨8, 0, []⟩, onePk t false ⟨14, 0, []⟩]
def Talk.all (t : Talk) : List (Bool × Data) := talkAll t.size.toNat t.a.tsn t.b.tsn t.says [] []
def talkPk (t : Talk) : List Packet := if talkB t then hello t ++ saysPk t t.all ++ bye t else []
structure Rec where
  time : Int
  text : List UInt8
  deriving Inhabited
def Rec.row (x : Rec) : List RV := [.n .i64 x.time, .s x.text]
def Rec.av (x : Rec) : AV := .agg [.i x.time, .st x.text]
def recsFrom : Int → List Rec → Bool
  | _, [] => true
  | last, x :: l => inB x.time last 4294967295 && decide (x.text.length ≤ 120) && recsFrom x.time l
def captB (l : List Rec) : Bool := recsFrom 0 l && decide (l.length ≤ 60)
def recsOf (l : List Packet) (begin : Int) : List Rec := (List.range l.length).map fun (i : Nat) => ⟨begin + (i : Int), packPut (l.getD i default)⟩
def talkRecs (t : Talk) (begin : Int) : List Rec := if 0 ≤ begin ∧ captB (recsOf (talkPk t) begin) then recsOf (talkPk t) begin else []
end Go.Cap

/- Plain model: associations, findings, monitors; reading packets. -/
namespace Go.Cap
open Go Go.Proofs
set_option linter.unusedSimpArgs false
set_option linter.unusedVariables false

structure Assoc where
  fr : Int
  to : Int
  state : Int
  byB : Bool
  a : Side
  b : Side
def Assoc.cellsX (a : Assoc) (x y : RV) : List RV := [.n .i64 a.fr, .n .i64 a.to, .n .i64 a.state, .b a.byB, .n .i64 a.a.tag, .n .i64 a.a.streams, .n .i64 a.a.first, x, .n .i64 a.a.acked, .n .i64 a.b.tag, .n .i64 a.b.streams, .n .i64 a.b.first, y, .n .i64 a.b.acked]
def Assoc.row (a : Assoc) : List RV := a.cellsX (.ro none (a.a.sent.map Data.row)) (.ro none (a.b.sent.map Data.row))
def Assoc.av (a : Assoc) (x y : AV) : AV := .agg [.i a.fr, .i a.to, .i a.state, .bo a.byB, .i a.a.tag, .i a.a.streams, .i a.a.first, x, .i a.a.acked, .i a.b.tag, .i a.b.streams, .i a.b.first, y, .i a.b.acked]
def Assoc.ro (a : Assoc) : AV := a.av (.r (.ro none (a.a.sent.map Data.row))) (.r (.ro none (a.b.sent.map Data.row)))
def assocB (a : Assoc) : Bool :=
  inB a.fr 1 65535 && inB a.to 1 65535 && decide (a.fr ≠ a.to) && inB a.state 0 7 && sideB a.a && sideB a.b && (decide (0 < a.a.tag) == decide (1 ≤ a.state)) &&
  (decide (a.state = 7) || (decide (0 < a.b.tag) == decide (2 ≤ a.state))) && (decide (3 ≤ a.state) || decide (a.a.sent.length + a.b.sent.length = 0)) && (!a.byB || decide (5 ≤ a.state))
theorem assocB_iff {a : Assoc} : assocB a = true ↔ (1 ≤ a.fr ∧ a.fr ≤ 65535) ∧ (1 ≤ a.to ∧ a.to ≤ 65535) ∧ a.fr ≠ a.to ∧ (0 ≤ a.state ∧ a.state ≤ 7) ∧ sideB a.a = true ∧ sideB a.b = true ∧ (0 < a.a.tag ↔ 1 ≤ a.state) ∧
    (a.state = 7 ∨ (0 < a.b.tag ↔ 2 ≤ a.state)) ∧ (3 ≤ a.state ∨ a.a.sent.length + a.b.sent.length = 0) ∧ (a.byB = false ∨ 5 ≤ a.state) := by
  simp only [assocB, inB, Bool.and_eq_true, Bool.or_eq_true, decide_eq_true_eq, beq_iff_eq, decide_eq_decide, Bool.not_eq_true']
  constructor
  · rintro ⟨⟨⟨⟨⟨⟨⟨⟨⟨h1, h2⟩, h3⟩, h4⟩, h5⟩, h6⟩, h7⟩, h8⟩, h9⟩, h10⟩
    exact ⟨h1, h2, h3, h4, h5, h6, h7, h8, h9, h10⟩
  · rintro ⟨h1, h2, h3, h4, h5, h6, h7, h8, h9, h10⟩
    exact ⟨⟨⟨⟨⟨⟨⟨⟨⟨h1, h2⟩, h3⟩, h4⟩, h5⟩, h6⟩, h7⟩, h8⟩, h9⟩, h10⟩
structure Fnd where
  rcd : Int
  code : Int
  deriving Inhabited
def Fnd.row (f : Fnd) : List RV := [.n .i64 f.rcd, .n .i64 f.code]
def Fnd.av (f : Fnd) : AV := .agg [.i f.rcd, .i f.code]
structure Mon where
  records : Int
  list : List Assoc
  found : List Fnd
def Mon.ro (m : Mon) : AV := .agg [.i m.records, .r (.ro none (m.list.map Assoc.row)), .r (.ro none (m.found.map Fnd.row))]
def fndB (n : Int) (f : Fnd) : Bool := inB f.rcd 0 (n - 1) && (inB f.code 1 11 || inB f.code 101 105)
def lessB (a b : Fnd) : Bool := decide (a.rcd < b.rcd ∨ (a.rcd = b.rcd ∧ a.code < b.code))
/-- All numbers below one. -/
def allB (n : Nat) (p : Nat → Bool) : Bool := (List.range n).all p
theorem allB_true {n : Nat} {p : Nat → Bool} (h : ∀ i, i < n → p i = true) : allB n p = true := List.all_eq_true.2 fun i hi => h i (List.mem_range.1 hi)
theorem allB_false {n : Nat} {p : Nat → Bool} {i : Nat} (hi : i < n) (h : p i = false) : allB n p = false := by
  rw [Bool.eq_false_iff]
  intro h2
  have := List.all_eq_true.1 h2 i (List.mem_range.2 hi)
  rw [h] at this; cases this
def noSide : Side := ⟨0, 0, 0, [], 0⟩
def noAssoc : Assoc := ⟨0, 0, 0, false, noSide, noSide⟩
def assocAt (l : List Assoc) (i : Nat) : Assoc := l.getD i noAssoc
def fndAt (l : List Fnd) (i : Nat) : Fnd := l.getD i default
theorem assocAt_eq {l : List Assoc} {i : Nat} (h : i < l.length) : assocAt l i = l[i] := by simp [assocAt, List.getD_eq_getElem?_getD, h]
theorem fndAt_eq {l : List Fnd} {i : Nat} (h : i < l.length) : fndAt l i = l[i] := by simp [fndAt, List.getD_eq_getElem?_getD, h]
def foundOne (n : Int) (l : List Fnd) (i : Nat) : Bool := fndB n (fndAt l i) && (decide (i = 0) || lessB (fndAt l (i - 1)) (fndAt l i))
def foundB (n : Int) (l : List Fnd) : Bool := allB l.length (foundOne n l)
def pairB (a : Assoc) (fr to : Int) : Bool := decide ((a.fr = fr ∧ a.to = to) ∨ (a.fr = to ∧ a.to = fr))
def listOne (l : List Assoc) (i : Nat) : Bool := assocB (assocAt l i) && decide ((assocAt l i).state ≠ 0) && allB i fun k => !pairB (assocAt l k) (assocAt l i).fr (assocAt l i).to
def listB (l : List Assoc) : Bool := allB l.length (listOne l)
def monB (m : Mon) : Bool := inB m.records 0 60 && decide (m.list.length ≤ 3) && listB m.list && foundB m.records m.found
/-- The index of the first association between two ports. -/
def findIx (fr to : Int) : List Assoc → Option Nat
  | [] => none
  | a :: l => if pairB a fr to then some 0 else (findIx fr to l).map (· + 1)
end Go.Cap

/- Plain model: reading chunks and packets; steps of associations and monitors. -/
namespace Go.Cap
open Go Go.Proofs
set_option linter.unusedSimpArgs false
set_option linter.unusedVariables false

def at4 (s : List UInt8) (i : Nat) : Int := 65536 * at2 s i + at2 s (i + 2)
def noPack : Packet := ⟨0, 0, 0, []⟩
def aloneK (k : Int) : Bool := decide (k = 1 ∨ k = 2 ∨ k = 14)
def aloneB (p : Packet) : Bool := packB p && (decide (p.chunks.length = 1) || p.chunks.all fun c => !aloneK c.kind)
def noData : Data := ⟨0, 0, 0, false, false, false, []⟩
def dataOf (c : Chunk) : Data := ⟨at2 c.body 0, at2 c.body 2, at2 c.body 4, decide (c.flags / 2 % 2 = 1), decide (c.flags % 2 = 1), decide (c.flags / 4 = 1), c.body.drop 6⟩
def dataGet (c : Chunk) : Option Data := if decide (c.kind = 0) && inB c.flags 0 7 && decide (6 ≤ c.body.length) && dataB (dataOf c) then some (dataOf c) else none
def noInit : Init := ⟨0, 0, 0, 0⟩
def initOf (c : Chunk) : Init := ⟨at4 c.body 0, at2 c.body 4, at2 c.body 6, at2 c.body 8⟩
def initGet (c : Chunk) : Option Init := if decide (c.kind = 1 ∨ c.kind = 2) && decide (c.flags = 0) && decide (c.body.length = 10) && initB (initOf c) then some (initOf c) else none
def gapsOf : List UInt8 → List Gap
  | a :: b :: c :: d :: l => ⟨256 * a.toNat + b.toNat, 256 * c.toNat + d.toNat⟩ :: gapsOf l
  | _ => []
def sackOf (c : Chunk) : Sack := ⟨at2 c.body 0, gapsOf (c.body.drop 2)⟩
def sackGet (c : Chunk) : Option Sack := if decide (c.kind = 3) && decide (c.flags = 0) && decide (c.body.length % 4 = 2) && sackB (sackOf c) then some (sackOf c) else none
/-- Steps of an association. -/
def Assoc.own (a : Assoc) (byB : Bool) : Side := if byB then a.b else a.a
def Assoc.other (a : Assoc) (byB : Bool) : Side := if byB then a.a else a.b
def Assoc.put (a : Assoc) (byB : Bool) (s : Side) : Assoc := if byB then { a with b := s } else { a with a := s }
def l3d (a b : Int) : Int := if 32768 < l3 b (-a) then l3 b (-a) - 65536 else l3 b (-a)
def stepInit (a : Assoc) (byB : Bool) (c : Chunk) : Assoc × Int :=
  let first := (decide (a.state = 0) && !byB && decide (c.kind = 1)) || (decide (a.state = 1) && byB && decide (c.kind = 2))
  let again := (inB a.state 1 2 && !byB && decide (c.kind = 1)) || (decide (a.state = 2) && byB && decide (c.kind = 2))
  if !first && !again then (a, 3)
  else match initGet c with
    | none => (a, 4)
    | some x => if again then (if x.tag ≠ (a.own byB).tag ∨ x.streams ≠ (a.own byB).streams ∨ x.tsn ≠ (a.own byB).first then (a, 7) else (a, 0))
      else (({ a with state := a.state + 1 } : Assoc).put byB ⟨x.tag, x.streams, x.tsn, [], 0⟩, 0)
/-- Two parts that are alike in all. -/
def eqData (x y : Data) : Bool := x.tsn == y.tsn && (x.stream == y.stream && (x.ssn == y.ssn && (x.first == y.first && (x.last == y.last && (x.loose == y.loose && x.text == y.text)))))
def stepData (a : Assoc) (byB : Bool) (c : Chunk) : Assoc × Int :=
  let s := a.own byB
  let mayNew := decide (a.state = 4) || (decide (a.state = 3) && !byB)
  let mayOld := mayNew || (decide (a.state = 5) && byB != a.byB)
  if !mayOld then (a, 3)
  else match dataGet c with
    | none => (a, 4)
    | some d =>
      let k := l3 d.tsn (-s.first)
      if k < s.sent.length then (if eqData (s.sent.getD k.toNat noData) d then (a, 0) else (a, 7))
      else if !mayNew then (a, 3)
      else if s.streams ≤ d.stream then (a, 5)
      else if s.sent.length < k then (a, 6)
      else if !mayB s.sent d then (a, 8)
      else if 12 ≤ s.sent.length then (a, 11)
      else (a.put byB { s with sent := s.sent ++ [d] }, 0)
def lastTo (l : List Gap) : Int := match l.getLast? with | none => 0 | some g => g.to
def stepSack (a : Assoc) (byB : Bool) (c : Chunk) : Assoc × Int :=
  let o := a.other byB
  if !inB a.state 4 5 then (a, 3)
  else match sackGet c with
    | none => (a, 4)
    | some x =>
      let e := l3d (l3 o.first (-1)) x.cum
      if !inB e 0 o.sent.length || decide ((o.sent.length : Int) < e + lastTo x.gaps) then (a, 9)
      else (a.put (!byB) { o with acked := max o.acked e }, 0)
def stepEnd (a : Assoc) (byB : Bool) (k : Int) : Assoc × Int :=
  let s := a.own byB
  let done := decide (s.acked = s.sent.length)
  if k = 6 then (if inB a.state 1 6 then ({ a with state := 7 }, 0) else (a, 3))
  else if k = 7 then (if a.state = 4 then (if done then ({ a with state := 5, byB := byB }, 0) else (a, 10)) else if inB a.state 5 6 && byB == a.byB then (a, 0) else (a, 3))
  else if k = 8 then (if inB a.state 5 6 && byB != a.byB then (if a.state = 5 && !done then (a, 10) else ({ a with state := 6 }, 0)) else (a, 3))
  else (if a.state = 6 && byB == a.byB then ({ a with state := 7 }, 0) else (a, 3))
def stepRest (a : Assoc) (byB : Bool) (k : Int) : Assoc × Int :=
  if k = 10 then (if !byB && inB a.state 2 4 then ({ a with state := max a.state 3 }, 0) else (a, 3))
  else if k = 11 then (if byB && inB a.state 3 4 then ({ a with state := 4 }, 0) else (a, 3))
  else if k = 4 ∨ k = 5 ∨ k = 9 then (if inB a.state 3 6 then (a, 0) else (a, 3))
  else (a, 3)
def stepChunk (a : Assoc) (byB : Bool) (c : Chunk) : Assoc × Int :=
  if c.kind = 1 ∨ c.kind = 2 then stepInit a byB c
  else if c.kind = 0 then stepData a byB c
  else if c.kind = 3 then stepSack a byB c
  else if c.kind = 6 ∨ c.kind = 7 ∨ c.kind = 8 ∨ c.kind = 14 then stepEnd a byB c.kind
  else stepRest a byB c.kind
def stepChunks (byB : Bool) : List Chunk → Assoc → List Int → Assoc × List Int
  | [], a, rs => (a, rs)
  | c :: l, a, rs => stepChunks byB l (stepChunk a byB c).1 (rs ++ [(stepChunk a byB c).2])
def tagOf (a : Assoc) (byB : Bool) (p : Packet) : Int := if p.chunks.any (fun c => decide (c.kind = 1)) then 0 else (a.other byB).tag
def brokenB (a : Assoc) (byB : Bool) (p : Packet) (rs : List Int) (k : Nat) : Bool := (k == 1 && !aloneB p) || (k == 2 && decide (p.tag ≠ tagOf a byB p)) || rs.contains (k : Int)
def rulesOf (b : Nat → Bool) : List Int := ((List.range 12).filter fun k => decide (1 ≤ k) && b k).map fun (k : Nat) => (k : Int)
def byBOf (a : Assoc) (p : Packet) : Bool := decide (p.fr = a.to ∧ p.to = a.fr)
def assocStep (a : Assoc) (p : Packet) : Assoc × List Int :=
  if !assocB a || !packB p || (!byBOf a p && decide (p.fr ≠ a.fr ∨ p.to ≠ a.to)) then (noAssoc, [])
  else
    let x := stepChunks (byBOf a p) p.chunks a []
    let rules := rulesOf (brokenB a (byBOf a p) p x.2)
    (if rules.isEmpty then x.1 else a, rules)
/-- Steps of a monitor. -/
def noMon : Mon := ⟨0, [], []⟩
end Go.Cap

/- Parts that follow one another make groups; what an assembly gives of them, in order and in any order. -/
namespace Go.Cap
open Go Go.Proofs
set_option linter.unusedSimpArgs false
set_option linter.unusedVariables false

/-- The parts of a message that is still open. -/
structure PreG (g : List Data) : Prop where
  first : ∀ j (h : j < g.length), g[j].first = decide (j = 0)
  last : ∀ j (h : j + 1 < g.length), g[j].last = false
  like : ∀ j (h : j + 1 < g.length), likeB g[j + 1] g[j] = true
  tsn : ∀ j (h : j + 1 < g.length), g[j + 1].tsn = l3 g[j].tsn 1
theorem PreG.snoc {c : List Data} {d : Data} (h : PreG c) (hl : ∀ x ∈ c, x.last = false) (hf : d.first = decide (c.length = 0)) (hk : ∀ x, c.getLast? = some x → likeB d x = true ∧ d.tsn = l3 x.tsn 1) : PreG (c ++ [d]) := by
  have hlast : ∀ j (hj : j + 1 = c.length), c.getLast? = some (c[j]'(by omega)) := fun j hj => by
    rw [List.getLast?_eq_getElem?, List.getElem?_eq_getElem (by omega)]; congr 2; omega
  refine ⟨fun j hj => ?_, fun j hj => ?_, fun j hj => ?_, fun j hj => ?_⟩
  · rw [List.length_append, List.length_singleton] at hj
    rcases Nat.lt_or_ge j c.length with h1 | h1
    · rw [List.getElem_append_left h1]; exact h.first j h1
    · have : j = c.length := by omega
      subst this
      rw [List.getElem_concat_length rfl, hf]
  · rw [List.length_append, List.length_singleton] at hj
    rw [List.getElem_append_left (by omega)]; exact hl _ (List.getElem_mem _)
  · rw [List.length_append, List.length_singleton] at hj
    rcases Nat.lt_or_ge (j + 1) c.length with h1 | h1
    · rw [List.getElem_append_left h1, List.getElem_append_left (by omega)]; exact h.like j h1
    · have h2 : j + 1 = c.length := by omega
      rw [List.getElem_concat_length h2, List.getElem_append_left (by omega)]
      exact (hk _ (hlast j h2)).1
  · rw [List.length_append, List.length_singleton] at hj
    rcases Nat.lt_or_ge (j + 1) c.length with h1 | h1
    · rw [List.getElem_append_left h1, List.getElem_append_left (by omega)]; exact h.tsn j h1
    · have h2 : j + 1 = c.length := by omega
      rw [List.getElem_concat_length h2, List.getElem_append_left (by omega)]
      exact (hk _ (hlast j h2)).2
theorem PreG.close {c : List Data} {d : Data} (h : PreG (c ++ [d])) (hd : d.last = true) : Grp (c ++ [d]) := by
  refine ⟨by simp, h.first, fun j hj => ?_, h.like, h.tsn⟩
  by_cases h1 : j + 1 = (c ++ [d]).length
  · rw [decide_eq_true h1]
    rw [List.length_append, List.length_singleton] at h1
    have : j = c.length := by omega
    subst this
    rw [List.getElem_concat_length rfl]; exact hd
  · rw [decide_eq_false h1]; exact h.last j (by omega)
/-- Parts, cut into groups and what is still open. -/
structure Cut (P : List Data) (gs : List (List Data)) (cur : List Data) : Prop where
  eq : P = gs.flatten ++ cur
  grp : ∀ g ∈ gs, Grp g
  pre : PreG cur
  lst : ∀ x ∈ cur, x.last = false
  said : saidSt P = (gs.map msgG, cur.flatMap Data.text)
  rank : ∀ i (h : i < gs.length), (hd gs[i]).loose = false → (hd gs[i]).ssn = ((gs.take i).countP (ord (hd gs[i]).stream) : Nat)
  crank : cur ≠ [] → (hd cur).loose = false → (hd cur).ssn = (gs.countP (ord (hd cur).stream) : Nat)
  cnt : ∀ s, ssnIn P s = gs.countP (ord s) + (if cur ≠ [] ∧ ord s cur = true then 1 else 0)
theorem Cut.nil : Cut [] [] [] := ⟨rfl, fun g h => (List.not_mem_nil h).elim, ⟨fun j h => by simp at h, fun j h => by simp at h, fun j h => by simp at h, fun j h => by simp at h⟩, fun x h => (List.not_mem_nil h).elim, rfl, fun i h => by simp at h, fun h => absurd rfl h, fun s => by simp [ssnIn]⟩
theorem flat_last {gs : List (List Data)} (h : ∀ g ∈ gs, Grp g) {x : Data} (hx : gs.flatten.getLast? = some x) : x.last = true := by
  rcases gs.eq_nil_or_concat with rfl | ⟨g0, g, rfl⟩
  · simp at hx
  · rw [List.concat_eq_append] at h hx
    have hg := h g (by simp)
    rcases g.eq_nil_or_concat with rfl | ⟨c, y, rfl⟩
    · exact absurd rfl hg.ne
    · rw [List.concat_eq_append] at hx hg
      rw [List.flatten_append, List.flatten_singleton, ← List.append_assoc, List.getLast?_concat] at hx
      cases hx
      have := hg.last c.length (by simp)
      rw [List.getElem_concat_length rfl] at this
      rw [this]; simp
theorem hd_app {c : List Data} {d : Data} (h : c ≠ []) : hd (c ++ [d]) = hd c := by cases c with
  | nil => exact absurd rfl h
  | cons a l => rfl
theorem Cut.next {P : List Data} {gs : List (List Data)} {cur : List Data} {d : Data} (h : Cut P gs cur) (hm : mayB P d = true) (ht : ∀ x, P.getLast? = some x → d.tsn = l3 x.tsn 1) : ∃ gs' cur', Cut (P ++ [d]) gs' cur' := by
  -- what is known of the part that comes
  have hnew : cur = [] → d.first = true ∧ (d.loose = true ∨ d.ssn = (ssnIn P d.stream : Nat)) := fun hc => by
    have hP : P = gs.flatten := by rw [h.eq, hc, List.append_nil]
    unfold mayB at hm
    cases hx : P.getLast? with
    | none => rw [hx] at hm; simpa using hm
    | some x =>
      rw [hx] at hm
      have := flat_last h.grp (hP ▸ hx)
      simp only [this, if_true] at hm
      simpa using hm
  have hold : ∀ x, cur.getLast? = some x → d.first = false ∧ likeB d x = true ∧ d.tsn = l3 x.tsn 1 := fun x hx => by
    have hP : P.getLast? = some x := by rw [h.eq, List.getLast?_append, hx]; rfl
    have hxl := h.lst x (List.mem_of_getLast? hx)
    unfold mayB at hm
    rw [hP] at hm
    simp only [hxl, Bool.false_eq_true, if_false, Bool.and_eq_true, Bool.not_eq_true'] at hm
    exact ⟨hm.1, hm.2, ht x hP⟩
  have hfirst : d.first = decide (cur.length = 0) := by
    by_cases hc : cur = []
    · rw [(hnew hc).1, hc]; rfl
    · obtain ⟨x, hx⟩ : ∃ x, cur.getLast? = some x := by cases hg : cur.getLast? with
        | none => exact absurd (List.getLast?_eq_none_iff.1 hg) hc
        | some x => exact ⟨x, rfl⟩
      rw [(hold x hx).1, decide_eq_false (fun e => hc (List.eq_nil_of_length_eq_zero e))]
  have hpre : PreG (cur ++ [d]) := h.pre.snoc h.lst hfirst fun x hx => (hold x hx).2
  have hhd : hd (cur ++ [d]) = if cur = [] then d else hd cur := by
    split
    · rename_i hc; rw [hc]; rfl
    · rename_i hc; exact hd_app hc
  have hrk : (hd (cur ++ [d])).loose = false → (hd (cur ++ [d])).ssn = (gs.countP (ord (hd (cur ++ [d])).stream) : Nat) := by
    by_cases hc : cur = []
    · rw [hhd, if_pos hc]
      intro hl
      rcases (hnew hc).2 with h1 | h1
      · rw [h1] at hl; cases hl
      · rw [h1, h.cnt, hc]; simp
    · rw [hhd, if_neg hc]; exact h.crank hc
  have hcnt : ∀ s, ssnIn (P ++ [d]) s = gs.countP (ord s) + (if ord s (cur ++ [d]) = true then 1 else 0) := fun s => by
    rw [ssnIn_app, h.cnt s]
    by_cases hc : cur = []
    · have h1 := (hnew hc).1
      subst hc
      simp [ssnIn, ord, h1, hd, List.countP_cons]
    · have h1 : d.first = false := by rw [hfirst, decide_eq_false (fun e => hc (List.eq_nil_of_length_eq_zero e))]
      have h2 : ord s (cur ++ [d]) = ord s cur := by unfold ord; rw [hd_app hc]
      rw [h2]
      simp [ssnIn, h1, hc, List.countP_cons]
  have htxt : (cur ++ [d]).flatMap Data.text = cur.flatMap Data.text ++ d.text := by simp
  by_cases hdl : d.last = true
  · have hg := hpre.close hdl
    obtain ⟨k1, k2, k3⟩ := like_mem hg (d := d) (by simp)
    refine ⟨gs ++ [cur ++ [d]], [], ?_⟩
    refine ⟨by rw [h.eq]; simp, fun g hgm => ?_, Cut.nil.pre, fun x hx => (List.not_mem_nil hx).elim, ?_, fun i hi => ?_, fun hx => absurd rfl hx, fun s => ?_⟩
    · rcases List.mem_append.1 hgm with hgm | hgm
      · exact h.grp g hgm
      · simp only [List.mem_singleton] at hgm; subst hgm; exact hg
    · rw [saidSt_app, h.said]
      simp only [List.foldl_cons, List.foldl_nil, saidStep, hdl, if_true, List.map_append, List.map_cons, List.map_nil, List.flatMap_nil]
      unfold msgG
      rw [← k1, ← k2, ← k3, htxt]
    · rw [List.length_append, List.length_singleton] at hi
      rcases Nat.lt_or_ge i gs.length with h1 | h1
      · rw [List.getElem_append_left h1, List.take_append_of_le_length (by omega)]; exact h.rank i h1
      · have : i = gs.length := by omega
        subst this
        rw [List.getElem_concat_length rfl, List.take_left]
        exact hrk
    · rw [hcnt, List.countP_append, List.countP_cons, List.countP_nil]; simp
  · have hdl' : d.last = false := by simpa using hdl
    refine ⟨gs, cur ++ [d], ?_⟩
    refine ⟨by rw [h.eq, List.append_assoc], h.grp, hpre, fun x hx => ?_, ?_, h.rank, fun _ => hrk, fun s => ?_⟩
    · rcases List.mem_append.1 hx with hx | hx
      · exact h.lst x hx
      · simp only [List.mem_singleton] at hx; subst hx; exact hdl'
    · rw [saidSt_app, h.said]
      simp only [List.foldl_cons, List.foldl_nil, saidStep, hdl', Bool.false_eq_true, if_false, htxt]
    · rw [hcnt]; simp
/-- Parts of a side: numbered, each one may follow the ones ahead of it. -/
def SeqP (f : Int) (n : Nat) (P : List Data) : Prop := ∀ i (hi : i < P.length), dataB P[i] = true ∧ P[i].tsn = l3 f i ∧ P[i].stream < n ∧ mayB (P.take i) P[i] = true
theorem SeqP.cut {f : Int} {n : Nat} {P : List Data} (h : SeqP f n P) : ∃ gs cur, Cut P gs cur := by
  have key : ∀ i, i ≤ P.length → ∃ gs cur, Cut (P.take i) gs cur := by
    intro i
    induction i with
    | zero => intro _; exact ⟨[], [], by rw [List.take_zero]; exact Cut.nil⟩
    | succ i ih =>
      intro hi
      obtain ⟨gs, cur, hc⟩ := ih (by omega)
      have hil : i < P.length := by omega
      rw [take_get hil]
      refine hc.next (h i hil).2.2.2 fun x hx => ?_
      have hlen : (P.take i).length = i := by rw [List.length_take]; omega
      rw [List.getLast?_eq_getElem?, hlen] at hx
      rcases Nat.eq_zero_or_pos i with h0 | h0
      · subst h0; simp at hx
      · rw [List.getElem?_take_of_lt (by omega), List.getElem?_eq_getElem (by omega)] at hx
        cases hx
        rw [(h i hil).2.1, (h (i - 1) (by omega)).2.1, l3_l3]
        congr 1; omega
  have := key P.length (Nat.le_refl _)
  rwa [List.take_length] at this
theorem grps_of {gs : List (List Data)} {f : Int} (hg : ∀ g ∈ gs, Grp g) (ht : ∀ j (h : j < gs.flatten.length), gs.flatten[j].tsn = l3 f j) (hl : gs.flatten.length ≤ 13)
    (hr : ∀ i (h : i < gs.length), (hd gs[i]).loose = false → (hd gs[i]).ssn = ((gs.take i).countP (ord (hd gs[i]).stream) : Nat)) : Grps gs := by
  refine ⟨hg, fun d hd e he hde => ?_, ?_, fun d hd => ?_, hr⟩
  · obtain ⟨i, hi, rfl⟩ := List.getElem_of_mem hd
    obtain ⟨j, hj, rfl⟩ := List.getElem_of_mem he
    rw [ht i hi, ht j hj] at hde
    have := l3_inj (by omega) (by omega) hde
    subst this; rfl
  · refine List.pairwise_iff_getElem.2 fun i j hi hj hij e => ?_
    have h1 := ht i hi
    rw [e, ht j hj] at h1
    have := l3_inj (by omega) (by omega) h1
    omega
  · obtain ⟨i, hi, rfl⟩ := List.getElem_of_mem hd
    rw [ht i hi]; exact l3_range f i
theorem SeqP.str {f : Int} {n : Nat} {P : List Data} (h : SeqP f n P) : ∀ d ∈ P, 0 ≤ d.stream ∧ d.stream < n := fun d hd => by
  obtain ⟨i, hi, rfl⟩ := List.getElem_of_mem hd
  exact ⟨(data_ok (h i hi).1).2.1.1, (h i hi).2.2.1⟩
theorem SeqP.ok {f : Int} {n : Nat} {P : List Data} (h : SeqP f n P) : ∀ d ∈ P, dataB d = true := fun d hd => by
  obtain ⟨i, hi, rfl⟩ := List.getElem_of_mem hd
  exact (h i hi).1
theorem groups_len {gs : List (List Data)} (h : ∀ g ∈ gs, Grp g) : gs.length ≤ gs.flatten.length := by
  induction gs with
  | nil => simp
  | cons g gs ih =>
    have h1 := ih fun x hx => h x (List.mem_cons_of_mem _ hx)
    have h2 := List.length_pos_iff.2 (h g (List.mem_cons_self ..)).ne
    rw [List.flatten_cons, List.length_append, List.length_cons]; omega
/-- What is open is closed by a part that never comes. -/
theorem SeqP.base {f : Int} {n : Nat} {P : List Data} {gs : List (List Data)} {cur : List Data} (h : SeqP f n P) (C : Cut P gs cur) (hl : P.length ≤ 12) (hn : 1 ≤ n ∧ n ≤ 4) :
    ∃ ge, Base ge n ∧ (∀ d ∈ P, d ∈ ge.flatten) ∧ P.Nodup ∧ (ge = gs ∧ cur = [] ∨ ∃ e, ge = gs ++ [cur ++ [e]] ∧ e ∉ P ∧ cur ≠ []) := by
  by_cases hc : cur = []
  · have hP : P = gs.flatten := by rw [C.eq, hc, List.append_nil]
    have G : Grps gs := grps_of C.grp (f := f) (by rw [← hP]; exact fun j hj => (h j hj).2.1) (by rw [← hP]; omega) C.rank
    refine ⟨gs, ⟨G, hn, ?_, by rw [← hP]; exact h.str⟩, fun d hd => hP ▸ hd, hP ▸ G.nd, .inl ⟨rfl, hc⟩⟩
    have := groups_len C.grp
    rw [← hP] at this; omega
  · obtain ⟨x, hx⟩ : ∃ x, cur.getLast? = some x := by cases hg : cur.getLast? with
      | none => exact absurd (List.getLast?_eq_none_iff.1 hg) hc
      | some x => exact ⟨x, rfl⟩
    have hxm := List.mem_of_getLast? hx
    have hpos : 0 < cur.length := List.length_pos_iff.2 hc
    have hPl : P.length = gs.flatten.length + cur.length := by rw [C.eq, List.length_append]
    have hxt : x.tsn = l3 f (P.length - 1 : Nat) := by
      have h1 : P.getLast? = some x := by rw [C.eq, List.getLast?_append, hx]; rfl
      rw [List.getLast?_eq_getElem?, List.getElem?_eq_getElem (by omega)] at h1
      cases h1
      exact (h _ _).2.1
    let e : Data := ⟨l3 f P.length, x.stream, x.ssn, false, true, x.loose, []⟩
    have hpre : PreG (cur ++ [e]) := C.pre.snoc C.lst (by rw [decide_eq_false (by omega)]) fun y hy => by
      rw [hx] at hy; cases hy
      refine ⟨by simp [likeB, e], ?_⟩
      show l3 f P.length = _
      rw [hxt, l3_l3]; congr 1; omega
    have hge : (gs ++ [cur ++ [e]]).flatten = P ++ [e] := by rw [C.eq]; simp
    have htsn : ∀ j (hj : j < (P ++ [e]).length), (P ++ [e])[j].tsn = l3 f j := fun j hj => by
      rw [List.length_append, List.length_singleton] at hj
      rcases Nat.lt_or_ge j P.length with h1 | h1
      · rw [List.getElem_append_left h1]; exact (h j h1).2.1
      · have : j = P.length := by omega
        subst this
        rw [List.getElem_concat_length rfl]
    have hgrp : ∀ g ∈ gs ++ [cur ++ [e]], Grp g := fun g hg => by
      rcases List.mem_append.1 hg with hg | hg
      · exact C.grp g hg
      · simp only [List.mem_singleton] at hg; subst hg; exact hpre.close rfl
    have G : Grps (gs ++ [cur ++ [e]]) := grps_of hgrp (f := f) (by rw [hge]; exact htsn) (by rw [hge]; simp; omega) fun i hi => by
      rw [List.length_append, List.length_singleton] at hi
      rcases Nat.lt_or_ge i gs.length with h1 | h1
      · rw [List.getElem_append_left h1, List.take_append_of_le_length (by omega)]; exact C.rank i h1
      · have : i = gs.length := by omega
        subst this
        rw [List.getElem_concat_length rfl, List.take_left, hd_app hc]
        exact C.crank hc
    have hnd := G.nd
    rw [hge] at hnd
    refine ⟨gs ++ [cur ++ [e]], ⟨G, hn, ?_, ?_⟩, fun d hd => by rw [hge]; exact List.mem_append_left _ hd, (List.nodup_append.1 hnd).1, .inr ⟨e, rfl, fun he => absurd rfl ((List.nodup_append.1 hnd).2.2 e he e (by simp)), hc⟩⟩
    · have := groups_len hgrp
      rw [hge] at this
      have h2 : (P ++ [e]).length ≤ 13 := by rw [List.length_append, List.length_singleton]; omega
      omega
    · rw [hge]
      intro d hd
      rcases List.mem_append.1 hd with hd | hd
      · exact h.str d hd
      · simp only [List.mem_singleton] at hd
        subst hd
        have : x ∈ P := by rw [C.eq]; exact List.mem_append_right _ hxm
        exact h.str x this
theorem only_one {α : Type} {l : List α} {y : α} (hn : l.Nodup) (h : ∀ x ∈ l, x = y) (hy : y ∈ l) : l = [y] := by
  cases l with
  | nil => cases hy
  | cons a l =>
    have ha := h a (List.mem_cons_self ..)
    subst ha
    cases l with
    | nil => rfl
    | cons b l =>
      have hb := h b (by simp)
      subst hb
      simp at hn
/-- In order, each group is told when its last part comes. -/
theorem SeqP.order {f : Int} {n : Nat} {P : List Data} {gs : List (List Data)} {cur : List Data} (h : SeqP f n P) (C : Cut P gs cur) (hl : P.length ≤ 12) (hn : 1 ≤ n ∧ n ≤ 4) :
    ∃ ge a, Base ge n ∧ AInv ge n P a (gs.map msgG) gs ∧ P.foldl asmStep (asmNew n, []) = (a, gs.map msgG) ∧ Sub ge P ∧ (cur = [] → ge = gs) := by
  obtain ⟨ge, B, hsub, hPn, hge⟩ := h.base C hl hn
  have hgl : gs.length ≤ ge.length := by rcases hge with ⟨e, _⟩ | ⟨e, he, _, _⟩ <;> simp [*]
  have hget : ∀ i (hi : i < gs.length), ge[i]'(by omega) = gs[i] := fun i hi => by
    rcases hge with ⟨e, _⟩ | ⟨e, he, _, _⟩
    · subst e; rfl
    · subst he; exact List.getElem_append_left hi
  have hmem : ∀ g ∈ gs, g ∈ ge := fun g hg => by
    obtain ⟨i, hi, rfl⟩ := List.getElem_of_mem hg
    rw [← hget i hi]; exact List.getElem_mem _
  have hgn : gs.Nodup := by
    have := B.G.nodup
    rcases hge with ⟨e, _⟩ | ⟨e, he, _, _⟩
    · exact e ▸ this
    · rw [he] at this; exact (List.nodup_append.1 this).1
  have hAP : Sub ge P := ⟨hsub, hPn⟩
  have hdue0 : due (asmNew n) = none := rfl
  have hpfx : ∀ m, m ≤ gs.length → ∃ more, P = (gs.take m).flatten ++ more := fun m hm => by
    refine ⟨(gs.drop m).flatten ++ cur, ?_⟩
    rw [← List.append_assoc, ← List.flatten_append, List.take_append_drop]; exact C.eq
  have key : ∀ m, m ≤ gs.length → ∃ a, AInv ge n (gs.take m).flatten a ((gs.take m).map msgG) (gs.take m) ∧ due a = none ∧ (gs.take m).flatten.foldl asmStep (asmNew n, []) = (a, (gs.take m).map msgG) := by
    intro m
    induction m with
    | zero => intro _; exact ⟨asmNew n, AInv.start ge n, hdue0, rfl⟩
    | succ m ih =>
      intro hm
      obtain ⟨a, I, hd0, hf⟩ := ih (by omega)
      have hml : m < gs.length := by omega
      have htk : (gs.take (m + 1)).flatten = (gs.take m).flatten ++ gs[m] := by rw [take_get hml, List.flatten_append, List.flatten_singleton]
      obtain ⟨more, hP⟩ := hpfx (m + 1) hm
      have A : Sub ge ((gs.take m).flatten ++ gs[m]) := by rw [← htk]; rw [hP] at hAP; exact hAP.left
      have hlen : ((gs.take m).flatten ++ gs[m]).length ≤ 12 := by rw [← htk]; have := congrArg List.length hP; rw [List.length_append] at this; omega
      obtain ⟨T', I', hd'⟩ := I.run B gs[m] _ _ _ _ A hd0 hlen fun x hx => h.ok x (by rw [hP, htk]; exact List.mem_append_left _ hx)
      have hT' : T' = [gs[m]] := by
        have hnd := List.nodup_append.1 I'.nd
        refine only_one hnd.2.1 (fun t ht => ?_) ?_
        · have htg := I'.sub t (List.mem_append_right _ ht)
          have hm0 := hd_mem (B.G.grp t htg).ne
          have := I'.in_ t (List.mem_append_right _ ht) _ hm0
          rcases List.mem_append.1 this with h1 | h1
          · obtain ⟨g, hg, hgd⟩ := List.mem_flatten.1 h1
            have := B.G.same htg (I.sub g hg) hm0 hgd
            subst this
            exact absurd rfl (hnd.2.2 t hg t ht)
          · exact B.G.same htg (hmem _ (List.getElem_mem hml)) hm0 h1
        · have := I'.whole B A hd' m (by omega) fun j hj d hdm => by
            rw [hget j (by omega)] at hdm
            rw [← htk]
            exact Grps.mem (List.mem_take_iff_getElem.2 ⟨j, by omega, rfl⟩) hdm
          rw [hget m hml] at this
          rcases List.mem_append.1 this with h1 | h1
          · obtain ⟨j, hj, hj2⟩ := List.mem_take_iff_getElem.1 h1
            have := nd_inj hgn (i := j) (j := m) (by omega) hml hj2
            omega
          · exact h1
      have hms : (gs[m].foldl asmStep (a, (gs.take m).map msgG)).2 = (gs.take (m + 1)).map msgG := by
        rw [I'.ms, hT', take_get hml]
      refine ⟨(gs[m].foldl asmStep (a, (gs.take m).map msgG)).1, ?_, hd', ?_⟩
      · rw [hT', hms, ← htk, ← take_get hml] at I'; exact I'
      · rw [htk, List.foldl_append, hf, ← hms]
  obtain ⟨a, I, hd0, hf⟩ := key gs.length (Nat.le_refl _)
  rw [List.take_length] at I hf
  have hPe := C.eq
  obtain ⟨T', I', hd'⟩ := I.run B cur _ _ _ _ (hPe ▸ hAP) hd0 (hPe ▸ hl) (hPe ▸ h.ok)
  have hT' : T' = [] := by
    cases hT : T' with
    | nil => rfl
    | cons t T2 =>
      exfalso
      have ht : t ∈ T' := by rw [hT]; simp
      have hnd := List.nodup_append.1 I'.nd
      have htg := I'.sub t (List.mem_append_right _ ht)
      have hm0 := hd_mem (B.G.grp t htg).ne
      have hin := I'.in_ t (List.mem_append_right _ ht)
      rcases hge with ⟨e, hc⟩ | ⟨e, he, heP, hcn⟩
      · subst e
        exact absurd rfl (hnd.2.2 t htg t ht)
      · rw [he] at htg
        rcases List.mem_append.1 htg with h1 | h1
        · exact absurd rfl (hnd.2.2 t h1 t ht)
        · simp only [List.mem_singleton] at h1
          have := hin e (by rw [h1]; simp)
          rw [← hPe] at this
          exact heP this
  refine ⟨ge, (cur.foldl asmStep (a, gs.map msgG)).1, B, ?_, ?_, hAP, ?_⟩
  · have hms2 := I'.ms
    rw [hT', List.append_nil] at hms2
    rw [hms2, hT', List.append_nil, ← hPe] at I'; exact I'
  · have hms : (cur.foldl asmStep (a, gs.map msgG)).2 = gs.map msgG := by rw [I'.ms, hT', List.append_nil]
    conv => lhs; rw [hPe, List.foldl_append, hf]
    exact Prod.ext rfl hms
  · intro hc
    rcases hge with ⟨e, _⟩ | ⟨e, he, heP, hcn⟩
    · exact e
    · exact absurd hc hcn
theorem SeqP.run {f : Int} {n : Nat} {P : List Data} (h : SeqP f n P) (hl : P.length ≤ 12) (hn : 1 ≤ n ∧ n ≤ 4) : asmRun n P = said P := by
  obtain ⟨gs, cur, C⟩ := h.cut
  obtain ⟨ge, a, B, I, hf, _, _⟩ := h.order C hl hn
  unfold asmRun
  rw [if_pos (by omega), Int.toNat_natCast, hf]
  unfold said
  rw [C.said]
/-- The ordered messages of a stream. -/
def ofStr (s : Int) (ms : List Msg) : List Msg := ms.filter fun m => m.stream == s && !m.loose
theorem ofStr_map (s : Int) (gs : List (List Data)) : ofStr s (gs.map msgG) = (gs.filter (ord s)).map msgG := by
  unfold ofStr
  rw [List.filter_map]
  congr 2
  funext g
  simp only [Function.comp, msgG, ord]
  exact Bool.and_comm _ _
/-- In any order: the same ordered messages in each stream, and as many messages. -/
theorem SeqP.any {f : Int} {n : Nat} {P Q : List Data} (h : SeqP f n P) (hl : P.length ≤ 12) (hn : 1 ≤ n ∧ n ≤ 4) (hlast : ∀ x, P.getLast? = some x → x.last = true) (hQ : Q.Perm P) :
    (asmRun n Q).length = (said P).length ∧ ∀ s, ofStr s (asmRun n Q) = ofStr s (said P) := by
  obtain ⟨gs, cur, C⟩ := h.cut
  have hc : cur = [] := by
    cases hg : cur.getLast? with
    | none => exact List.getLast?_eq_none_iff.1 hg
    | some x =>
      have hP : P.getLast? = some x := by rw [C.eq, List.getLast?_append, hg]; rfl
      have h1 := hlast x hP
      rw [C.lst x (List.mem_of_getLast? hg)] at h1; cases h1
  obtain ⟨ge, a, B, I, hf, hAP, hge⟩ := h.order C hl hn
  have hge := hge hc
  subst hge
  have hP : P = ge.flatten := by rw [C.eq, hc, List.append_nil]
  have AQ : Sub ge ([] ++ Q) := ⟨fun d hd => hAP.mem d (hQ.mem_iff.1 hd), hQ.nodup_iff.2 hAP.nd⟩
  have hlQ : ([] ++ Q).length ≤ 12 := by rw [List.nil_append, hQ.length_eq]; exact hl
  obtain ⟨T, IQ, hdQ⟩ := (AInv.start ge n).run B Q [] _ _ _ AQ rfl hlQ fun x hx => h.ok x (hQ.mem_iff.1 hx)
  rw [List.nil_append] at IQ AQ
  rw [List.nil_append] at IQ
  have hall : ∀ g ∈ ge, g ∈ T := fun g hg => by
    obtain ⟨i, hi, rfl⟩ := List.getElem_of_mem hg
    exact IQ.whole B AQ hdQ i hi fun j hj d hdm => hQ.mem_iff.2 (hP ▸ Grps.mem (List.getElem_mem _) hdm)
  have hrun : asmRun n Q = T.map msgG := by
    unfold asmRun
    rw [if_pos (by omega), Int.toNat_natCast, IQ.ms]
  have hsaid : said P = ge.map msgG := by unfold said; rw [C.said]
  have hlen : ∀ p : List Data → Bool, (T.filter p).length = (ge.filter p).length := fun p => by
    apply Nat.le_antisymm
    · refine List.Nodup.length_le_of_subset (IQ.nd.filter _) fun g hg => ?_
      rw [List.mem_filter] at hg ⊢; exact ⟨IQ.sub g hg.1, hg.2⟩
    · refine List.Nodup.length_le_of_subset (I.nd.filter _) fun g hg => ?_
      rw [List.mem_filter] at hg ⊢; exact ⟨hall g hg.1, hg.2⟩
  rw [hrun, hsaid]
  refine ⟨?_, fun s => ?_⟩
  · have := hlen fun _ => true
    rw [List.filter_eq_self.2 (fun _ _ => rfl), List.filter_eq_self.2 (fun _ _ => rfl)] at this
    simpa using this
  · rw [ofStr_map, ofStr_map]
    congr 1
    refine List.ext_getElem (hlen _) fun i h1 h2 => ?_
    have r1 := IQ.rk i s h1
    have r2 := I.rk i s h2
    have m1 := List.mem_filter.1 (List.getElem_mem h1)
    have m2 := List.mem_filter.1 (List.getElem_mem h2)
    generalize (T.filter (ord s))[i] = x at r1 m1
    generalize (ge.filter (ord s))[i] = y at r2 m2
    obtain ⟨j, hj, rfl⟩ := List.getElem_of_mem (IQ.sub x m1.1)
    obtain ⟨k, hk, rfl⟩ := List.getElem_of_mem m2.1
    have o1 := m1.2
    have o2 := m2.2
    simp only [ord, Bool.and_eq_true, Bool.not_eq_true', beq_iff_eq] at o1 o2
    rw [B.G.rank j hj o1.1, o1.2] at r1
    rw [B.G.rank k hk o2.1, o2.2] at r2
    have := B.G.rank_inj hj hk m1.2 m2.2 (by omega)
    subst this; rfl
end Go.Cap

/- The parts of a talk are a side's. -/
namespace Go.Cap
open Go Go.Proofs
set_option linter.unusedSimpArgs false
set_option linter.unusedVariables false

/-- The parts of a talk, in any order. -/
theorem talk_seq {t : Talk} (hv : talkB t = true) (byB : Bool) : ∃ n : Nat, (t.init byB).streams = n ∧ (1 ≤ n ∧ n ≤ 4) ∧ SeqP (t.init byB).tsn n (talkParts t byB) ∧ ∀ x, (talkParts t byB).getLast? = some x → x.last = true := by
  have hi := init_ok hv byB
  have hf := talk_fit hv byB
  simp only [initB, Bool.and_eq_true, decide_eq_true_eq] at hi
  obtain ⟨⟨⟨i1, i2, i3, i4⟩, _⟩, i6⟩ := hi
  refine ⟨(t.init byB).streams.toNat, by omega, by omega, fun i h => ?_, hf.last⟩
  obtain ⟨k1, k2, k3, k4⟩ := hf.ok i h
  exact ⟨k1, k2, by omega, k4⟩
end Go.Cap

/- Plain facts: the parts of a talk in the order in which they are said; the packets of a talk. -/
namespace Go.Cap
open Go Go.Proofs
set_option linter.unusedSimpArgs false
set_option linter.unusedVariables false

def sideL (b : Bool) (l : List (Bool × Data)) : List Data := (l.filter fun x => x.1 == b).map (·.2)
theorem sideL_app (b : Bool) (x y : List (Bool × Data)) : sideL b (x ++ y) = sideL b x ++ sideL b y := by simp [sideL]
theorem sideL_same (b : Bool) (l : List Data) : sideL b (l.map fun d => (b, d)) = l := by
  unfold sideL
  induction l with
  | nil => rfl
  | cons d l ih => simp at ih ⊢; exact ih
theorem sideL_other {b c : Bool} (h : c ≠ b) (l : List Data) : sideL b (l.map fun d => (c, d)) = [] := by
  unfold sideL
  induction l with
  | nil => rfl
  | cons d l ih => simp [h]
theorem talkAll_side (z : Nat) (ta tb : Int) : ∀ (l : List Say) (oa ob : List Data), partsAcc z ta false l oa = oa ++ sideL false (talkAll z ta tb l oa ob) ∧ partsAcc z tb true l ob = ob ++ sideL true (talkAll z ta tb l oa ob)
  | [], oa, ob => by simp [partsAcc, talkAll, sideL]
  | s :: l, oa, ob => by
    simp only [partsAcc, talkAll]
    cases hb : s.byB
    · obtain ⟨h1, h2⟩ := talkAll_side z ta tb l (oa ++ nextParts z ta oa s) ob
      simp only [Bool.false_eq_true, if_false, if_true, sideL_app, sideL_same, sideL_other (show (false : Bool) ≠ true by decide), List.nil_append]
      exact ⟨by rw [h1, List.append_assoc], by first | exact h2 | (rw [if_neg (by decide)]; exact h2)⟩
    · obtain ⟨h1, h2⟩ := talkAll_side z ta tb l oa (ob ++ nextParts z tb ob s)
      simp only [Bool.true_eq_false, if_false, if_true, sideL_app, sideL_same, sideL_other (show (true : Bool) ≠ false by decide), List.nil_append]
      exact ⟨by first | exact h1 | (rw [if_neg (by decide)]; exact h1), by rw [h2, List.append_assoc]⟩
theorem talk_side {t : Talk} (hv : talkB t = true) (b : Bool) : sideL b t.all = talkParts t b := by
  obtain ⟨h1, h2⟩ := talkAll_side t.size.toNat t.a.tsn t.b.tsn t.says [] []
  unfold talkParts Talk.all
  rw [if_pos hv]
  cases b
  · rw [show t.tsn false = t.a.tsn from rfl, h1]; rfl
  · rw [show t.tsn true = t.b.tsn from rfl, h2]; rfl
theorem sides_len : ∀ (l : List (Bool × Data)), l.length = (sideL false l).length + (sideL true l).length
  | [] => rfl
  | (b, d) :: l => by
    have := sides_len l
    cases b <;> simp [sideL] at this ⊢ <;> omega
theorem saysPk_len (t : Talk) (l : List (Bool × Data)) : (saysPk t l).length = 2 * l.length := by
  induction l with
  | nil => rfl
  | cons x l ih =>
    have : saysPk t (x :: l) = [onePk t x.1 (dataPut x.2), onePk t (!x.1) (sackPut ⟨x.2.tsn, []⟩)] ++ saysPk t l := by simp [saysPk]
    rw [this, List.length_append, ih]; simp; omega
theorem talkPk_len {t : Talk} (hv : talkB t = true) : (talkPk t).length = 7 + 2 * (talkParts t false).length + 2 * (talkParts t true).length := by
  unfold talkPk
  rw [if_pos hv]
  simp only [List.length_append, saysPk_len, hello, bye, List.length_cons, List.length_nil]
  rw [sides_len t.all, talk_side hv, talk_side hv]
  omega
theorem talkAll_mem {t : Talk} (hv : talkB t = true) {x : Bool × Data} (h : x ∈ t.all) : x.2 ∈ talkParts t x.1 := by
  rw [← talk_side hv]
  unfold sideL
  exact List.mem_map.2 ⟨x, List.mem_filter.2 ⟨h, by simp⟩, rfl⟩
theorem talkAll_data {t : Talk} (hv : talkB t = true) {x : Bool × Data} (h : x ∈ t.all) : dataB x.2 = true := by
  obtain ⟨n, en, hn, hseq, _⟩ := talk_seq hv x.1
  exact hseq.ok _ (talkAll_mem hv h)
/-- Packets with one chunk. -/
theorem dataPut_ok {d : Data} (h : dataB d = true) : chunkB (dataPut d) = true := by
  have := (data_ok h).2.2.2
  unfold chunkB dataPut inB bit word
  cases d.last <;> cases d.first <;> cases d.loose <;> simp <;> omega
theorem initPut_ok (x : Init) (b : Bool) : chunkB (initPut x b) = true := by
  unfold chunkB initPut inB long word
  cases b <;> simp
theorem sackPut_ok (n : Int) : chunkB (sackPut ⟨n, []⟩) = true := by
  unfold chunkB sackPut inB word; simp
theorem kind_ok {k : Int} (h : 0 ≤ k ∧ k ≤ 255) : chunkB ⟨k, 0, []⟩ = true := by
  unfold chunkB inB; simp; omega
theorem talk_head {t : Talk} (hv : talkB t = true) : (1 ≤ t.fr ∧ t.fr ≤ 65535) ∧ (1 ≤ t.to ∧ t.to ≤ 65535) ∧ t.fr ≠ t.to ∧ (1 ≤ t.a.tag ∧ t.a.tag ≤ 4294967295) ∧ (1 ≤ t.b.tag ∧ t.b.tag ≤ 4294967295) := by
  simp only [talkB, talkHead, inB, initB, serialB, Bool.and_eq_true, decide_eq_true_eq, bne_iff_ne, Bool.not_eq_true', decide_eq_false_iff_not, beq_eq_false_iff_ne] at hv
  omega
theorem one_ok {t : Talk} (hv : talkB t = true) (b : Bool) {c : Chunk} (hc : chunkB c = true) : packB (onePk t b c) = true := by
  obtain ⟨h1, h2, h3, h4, h5⟩ := talk_head hv
  unfold packB onePk inB
  cases b <;> simp [hc] <;> omega
end Go.Cap
namespace Go.Cap
/-- The parts of the first says are the first parts. -/
theorem talkAll_app (z : Nat) (ta tb : Int) : ∀ (l1 l2 : List Say) (oa ob : List Data), talkAll z ta tb (l1 ++ l2) oa ob = talkAll z ta tb l1 oa ob ++ talkAll z ta tb l2 (oa ++ sideL false (talkAll z ta tb l1 oa ob)) (ob ++ sideL true (talkAll z ta tb l1 oa ob))
  | [], l2, oa, ob => by simp [talkAll, sideL]
  | s :: l, l2, oa, ob => by
    simp only [List.cons_append, talkAll]
    cases hb : s.byB
    · simp only [Bool.false_eq_true, if_false, sideL_app, sideL_same, sideL_other (show (false : Bool) ≠ true by decide), List.nil_append]
      rw [talkAll_app z ta tb l l2, List.append_assoc, List.append_assoc]
    · simp only [if_true, sideL_app, sideL_same, sideL_other (show (true : Bool) ≠ false by decide), List.nil_append]
      rw [talkAll_app z ta tb l l2, List.append_assoc, List.append_assoc]
def Talk.q (t : Talk) (i : Nat) : Nat := (talkAll t.size.toNat t.a.tsn t.b.tsn (t.says.take i) [] []).length
theorem talk_q {t : Talk} {i : Nat} (h : i < t.says.length) : t.q (i + 1) = t.q i + manyN t.says[i].text.length t.size.toNat ∧ ∀ k (hk : k < t.all.length), t.q i ≤ k → k < t.q (i + 1) → (t.all[k]).1 = t.says[i].byB := by
  have e1 : t.says.take (i + 1) = t.says.take i ++ [t.says[i]] := take_get h
  have hstep := talkAll_app t.size.toNat t.a.tsn t.b.tsn (t.says.take i) [t.says[i]] [] []
  rw [← e1] at hstep
  have hone : ∀ oa ob, ∃ ps : List Data, ps.length = manyN t.says[i].text.length t.size.toNat ∧ talkAll t.size.toNat t.a.tsn t.b.tsn [t.says[i]] oa ob = ps.map fun d => (t.says[i].byB, d) := fun oa ob => by
    simp only [talkAll]
    cases hb : t.says[i].byB
    · exact ⟨nextParts t.size.toNat t.a.tsn oa t.says[i], nextParts_len _ _ _ _, by simp⟩
    · exact ⟨nextParts t.size.toNat t.b.tsn ob t.says[i], nextParts_len _ _ _ _, by simp⟩
  obtain ⟨ps, hps, hpe⟩ := hone ([] ++ sideL false (talkAll t.size.toNat t.a.tsn t.b.tsn (t.says.take i) [] [])) ([] ++ sideL true (talkAll t.size.toNat t.a.tsn t.b.tsn (t.says.take i) [] []))
  rw [hpe] at hstep
  refine ⟨by unfold Talk.q; rw [hstep, List.length_append, List.length_map, hps], fun k hk h1 h2 => ?_⟩
  have hall : ∃ rest, t.all = talkAll t.size.toNat t.a.tsn t.b.tsn (t.says.take i) [] [] ++ (ps.map fun d => (t.says[i].byB, d)) ++ rest := by
    have := talkAll_app t.size.toNat t.a.tsn t.b.tsn (t.says.take (i + 1)) (t.says.drop (i + 1)) [] []
    rw [List.take_append_drop, hstep] at this
    exact ⟨_, this⟩
  obtain ⟨rest, hr⟩ := hall
  have hq : t.q i = (talkAll t.size.toNat t.a.tsn t.b.tsn (t.says.take i) [] []).length := rfl
  have hq2 : t.q (i + 1) = t.q i + ps.length := by unfold Talk.q; rw [hstep, List.length_append, List.length_map]
  have : t.all[k]? = some ((ps[k - t.q i]'(by omega)) |> fun d => (t.says[i].byB, d)) := by
    rw [hr, List.getElem?_append_left (by rw [List.length_append, List.length_map]; omega), List.getElem?_append_right (by omega), ← hq, List.getElem?_map, List.getElem?_eq_getElem (by omega)]
    rfl
  rw [List.getElem?_eq_getElem hk] at this
  rw [Option.some.inj this]
theorem talk_q_end (t : Talk) : t.q t.says.length = t.all.length := by unfold Talk.q Talk.all; rw [List.take_length]
theorem talk_q_zero (t : Talk) : t.q 0 = 0 := rfl
theorem talk_q_le {t : Talk} {i : Nat} (_ : i ≤ t.says.length) : t.q i ≤ t.all.length := by
  have := talkAll_app t.size.toNat t.a.tsn t.b.tsn (t.says.take i) (t.says.drop i) [] []
  rw [List.take_append_drop] at this
  unfold Talk.q Talk.all
  rw [this, List.length_append]; omega
theorem side_drop {l : List (Bool × Data)} {q : Nat} (h : q < l.length) (b : Bool) : sideL b (l.drop q) = if l[q].1 = b then l[q].2 :: sideL b (l.drop (q + 1)) else sideL b (l.drop (q + 1)) := by
  rw [List.drop_eq_getElem_cons h]
  unfold sideL
  rw [List.filter_cons]
  by_cases hb : l[q].1 = b
  · simp [hb]
  · simp [hb]
theorem saysPk_take {t : Talk} {l : List (Bool × Data)} {q : Nat} (h : q < l.length) : saysPk t (l.take (q + 1)) = saysPk t (l.take q) ++ [onePk t l[q].1 (dataPut l[q].2), onePk t (!l[q].1) (sackPut ⟨l[q].2.tsn, []⟩)] := by
  rw [take_get h]
  unfold saysPk
  rw [List.flatMap_append, List.flatMap_cons, List.flatMap_nil, List.append_nil]
theorem all_len {t : Talk} (hv : talkB t = true) : t.all.length ≤ 24 := by
  rw [sides_len, talk_side hv, talk_side hv]
  have h1 := talkParts_12 t false hv
  have h2 := talkParts_12 t true hv
  omega
end Go.Cap
namespace Go.Cap
theorem talkPk_cons {t : Talk} (hv : talkB t = true) : ∃ rest, talkPk t = ⟨t.fr, t.to, 0, [initPut t.a false]⟩ :: rest ∧ ∀ p ∈ rest, ∃ b c, p = onePk t b c ∧ chunkB c = true := by
  refine ⟨_, by unfold talkPk hello; rw [if_pos hv]; rfl, fun p hp => ?_⟩
  simp only [List.cons_append, List.nil_append, List.append_eq, List.mem_cons, List.mem_append, bye, List.not_mem_nil, or_false] at hp
  rcases hp with rfl | rfl | rfl | (hp | rfl | rfl | rfl)
  · exact ⟨true, _, rfl, initPut_ok _ _⟩
  · exact ⟨false, _, rfl, kind_ok (by omega)⟩
  · exact ⟨true, _, rfl, kind_ok (by omega)⟩
  · obtain ⟨x, hx, hp⟩ := List.mem_flatMap.1 hp
    simp only [List.mem_cons, List.not_mem_nil, or_false] at hp
    rcases hp with rfl | rfl
    · exact ⟨x.1, _, rfl, dataPut_ok (talkAll_data hv hx)⟩
    · exact ⟨!x.1, _, rfl, sackPut_ok _⟩
  · exact ⟨false, _, rfl, kind_ok (by omega)⟩
  · exact ⟨true, _, rfl, kind_ok (by omega)⟩
  · exact ⟨false, _, rfl, kind_ok (by omega)⟩
theorem talkPk_props {t : Talk} (hv : talkB t = true) {i : Nat} (hi : i < (talkPk t).length) : packB (talkPk t)[i] = true ∧ ((talkPk t)[i]).chunks.length = 1 ∧ ((talkPk t)[i]).tag = if i = 0 then 0 else if ((talkPk t)[i]).fr = t.fr then t.b.tag else t.a.tag := by
  obtain ⟨rest, hr, hall⟩ := talkPk_cons hv
  obtain ⟨h1, h2, h3, h4, h5⟩ := talk_head hv
  cases i with
  | zero =>
    simp only [hr, List.getElem_cons_zero, if_true]
    refine ⟨?_, by simp, by simp⟩
    unfold packB inB
    simp [initPut_ok]
    omega
  | succ i =>
    simp only [hr, List.getElem_cons_succ]
    have hil : i < rest.length := by rw [hr] at hi; simpa using hi
    obtain ⟨b, c, hp, hc⟩ := hall _ (List.getElem_mem hil)
    rw [hp]
    refine ⟨one_ok hv b hc, by cases b <;> rfl, ?_⟩
    rw [if_neg (by omega)]
    cases b
    · exact (if_pos rfl).symm
    · exact (if_neg fun e => h3 e.symm).symm
end Go.Cap

/- Plain facts: the bodies of chunks are read again. -/
namespace Go.Cap
open Go Go.Proofs
set_option linter.unusedSimpArgs false
set_option linter.unusedVariables false

theorem word_len (n : Int) : (word n).length = 2 := rfl
theorem long_len (n : Int) : (long n).length = 4 := rfl
end Go.Cap

/- Contracts: numbers as bytes; chunks of parts, inits and receipts, twice. -/
namespace Go.Cap
open Go Go.Proofs
set_option maxRecDepth 100000
set_option linter.unusedSimpArgs false
set_option linter.unusedVariables false
attribute [local irreducible] Call Run Spec Le

theorem wrap_u8 (x : Int) : IntKind.u8.wrap x = x % 256 := by
  simp only [IntKind.wrap, IntKind.bits, IntKind.signed]
  first | rfl | (simp; done) | omega
theorem byteOf_u8 (x : Int) : byteOf [.n .u8 x] = u8 x := rfl
theorem wt {n : Int} (h : 0 ≤ n ∧ n < 65536) : [byteOf [.n .u8 (IntKind.u8.wrap (IntKind.i64.wrap (n.tdiv 256)))], byteOf [.n .u8 (IntKind.u8.wrap (n.tmod 256))]] = word n := by
  have h1 : n.tdiv 256 = n / 256 := Int.tdiv_eq_ediv_of_nonneg h.1
  have h2 : n.tmod 256 = n % 256 := Int.tmod_eq_emod_of_nonneg h.1
  simp only [byteOf_u8, wrap_u8, h1, h2, word]
  rw [wrap64 (by omega) (by omega), Int.emod_eq_of_lt (a := n / 256) (by omega) (by omega), Int.emod_emod_of_dvd _ (by decide)]
theorem s_l1Word (n : Int) (h : 0 ≤ n ∧ n < 65536) : Spec Try.prog 113 0 [] [.i n] (fun r _ _ _ => r = .st (word n)) := by
  refine mk113 rfl fun c hP hm => ?_
  unfold pc113
  simp only [hm, go_sem, ↓reduceIte]
  repeat' first | refine And.intro ?_ ?_ | intro _
  all_goals first
    | omega
    | (rename_i hr; rcases hr with rfl | rfl <;> exact ⟨_, rfl⟩)
    | rw [wt h]
theorem s_l1Long (n : Int) (h : 0 ≤ n ∧ n < 4294967296) : Spec Try.prog 116 0 [] [.i n] (fun r _ _ _ => r = .st (long n)) := by
  refine mk116 rfl fun c hP hm => ?_
  unfold pc116
  have h1 : n.tdiv 65536 = n / 65536 := Int.tdiv_eq_ediv_of_nonneg h.1
  have h2 : n.tmod 65536 = n % 65536 := Int.tmod_eq_emod_of_nonneg h.1
  have h3 : IntKind.i64.wrap (n / 65536) = n / 65536 := wrap64 (by omega) (by omega)
  simp only [h1, h2, h3, hm, go_sem, ↓reduceIte]
  refine call_pure (hP ▸ s_l1Word (n / 65536) (by omega)) rfl rfl ?_
  simp only [h1, h2, h3, hm, go_sem, ↓reduceIte]
  refine call_pure (hP ▸ s_l1Word (n % 65536) (by omega)) rfl rfl ?_
  simp only [word_len, hm, go_sem, ↓reduceIte]
  first | done | rfl | exact ⟨by decide, rfl⟩
theorem s_l12Bit (b : Bool) (n : Int) : Spec Try.prog 112 0 [] [.bo b, .i n] (fun r _ _ _ => r = .i (bit b n)) := by
  refine mk112 rfl fun c hP hm => ?_
  unfold pc112 bit
  cases b <;> simp only [hm, go_sem, ↓reduceIte]
theorem s_specDataPut (d : Data) (h : dataB d = true) : Spec Try.prog 99 0 [] [d.av] (fun r _ _ _ => r = .tup [(dataPut d).av, .bo true]) := by
  obtain ⟨h1, h2, h3, h4⟩ := data_ok h
  refine mk99 rfl fun c hP hm => ?_
  unfold pc99 Data.av
  simp only [hm, go_sem, ↓reduceIte]
  refine call_pure (hP ▸ s_l12Data d (by omega)) rfl rfl ?_
  rw [h]
  have hb : ∀ (b : Bool) (n : Int), n = 1 ∨ n = 2 ∨ n = 4 → 0 ≤ bit b n ∧ bit b n ≤ n := fun b n hn => by cases b <;> simp [bit] <;> omega
  have q1 := hb d.last 1 (by simp)
  have q2 := hb d.first 2 (by simp)
  have q3 := hb d.loose 4 (by simp)
  have e1 : IntKind.i64.wrap (bit d.last 1 + bit d.first 2) = bit d.last 1 + bit d.first 2 := wrap64 (by omega) (by omega)
  have e2 : IntKind.i64.wrap (bit d.last 1 + bit d.first 2 + bit d.loose 4) = bit d.last 1 + bit d.first 2 + bit d.loose 4 := wrap64 (by omega) (by omega)
  simp only [e1, e2, hm, go_sem, ↓reduceIte]
  repeat' first | refine And.intro ?_ ?_ | intro _ | (refine call_pure (hP ▸ s_l12Bit d.last 1) rfl rfl ?_; simp only [e1, e2, hm, go_sem, ↓reduceIte]) | (refine call_pure (hP ▸ s_l12Bit d.first 2) rfl rfl ?_; simp only [e1, e2, hm, go_sem, ↓reduceIte]) | (refine call_pure (hP ▸ s_l12Bit d.loose 4) rfl rfl ?_; simp only [e1, e2, hm, go_sem, ↓reduceIte]) | (refine call_pure (hP ▸ s_l1Word d.tsn h1) rfl rfl ?_; simp only [word_len, List.length_append, hm, go_sem, ↓reduceIte]) | (refine call_pure (hP ▸ s_l1Word d.stream h2) rfl rfl ?_; simp only [word_len, List.length_append, hm, go_sem, ↓reduceIte]) | (refine call_pure (hP ▸ s_l1Word d.ssn h3) rfl rfl ?_; simp only [word_len, List.length_append, hm, go_sem, ↓reduceIte])
  all_goals first
    | omega
    | rfl
theorem s_specInitPut (x : Init) (b : Bool) (h : initB x = true) : Spec Try.prog 111 0 [] [x.av, .bo b] (fun r _ _ _ => r = .tup [(initPut x b).av, .bo true]) := by
  have h' := h
  simp only [initB, serialB, Bool.and_eq_true, decide_eq_true_eq] at h'
  refine mk111 rfl fun c hP hm => ?_
  unfold pc111 Init.av
  simp only [hm, go_sem, ↓reduceIte]
  refine call_pure (hP ▸ s_l12Init x) rfl rfl ?_
  rw [h]
  simp only [hm, go_sem, ↓reduceIte]
  repeat' first | refine And.intro ?_ ?_ | intro _ | (refine call_pure (hP ▸ s_l1Long x.tag (by omega)) rfl rfl ?_; simp only [word_len, long_len, List.length_append, hm, go_sem, ↓reduceIte]) | (refine call_pure (hP ▸ s_l1Word x.window (by omega)) rfl rfl ?_; simp only [word_len, long_len, List.length_append, hm, go_sem, ↓reduceIte]) | (refine call_pure (hP ▸ s_l1Word x.streams (by omega)) rfl rfl ?_; simp only [word_len, long_len, List.length_append, hm, go_sem, ↓reduceIte]) | (refine call_pure (hP ▸ s_l1Word x.tsn (by omega)) rfl rfl ?_; simp only [word_len, long_len, List.length_append, hm, go_sem, ↓reduceIte])
  all_goals first
    | omega
    | rfl
    | (subst_vars; rfl)
def Sack.ro (s : Sack) : AV := .agg [.i s.cum, .r (.ro none (s.gaps.map Gap.row))]
theorem gapsB_drop {l : List Gap} {i : Nat} (h : i < l.length) (last : Int) : gapsB last (l.drop i) = (decide (last + 2 ≤ l[i].fr ∧ l[i].fr ≤ l[i].to ∧ l[i].to ≤ 16) && gapsB l[i].to (l.drop (i + 1))) := by
  rw [List.drop_eq_getElem_cons h]; rfl
theorem s_l12Sack (s : Sack) (hl : s.gaps.length ≤ 2000000) : Spec Try.prog 114 0 [] [s.ro] (fun r _ _ _ => r = .bo (sackB s)) := by
  refine mr114 rfl fun c hP hm => ?_
  unfold pc114 Sack.ro
  refine run_seq (run_wpc _ _ _ _ _ ?_)
  simp only [hm, go_sem, ↓reduceIte]
  refine run_seq (run_wpc _ _ _ _ _ ?_)
  simp only [hm, go_sem, ↓reduceIte]
  refine run_seq (run_wpc _ _ _ _ _ ?_)
  simp only [hm, go_sem, ↓reduceIte]
  refine run_exit 0 (fun t0 => t0 = ⟨[(1, .ptr 0 0 0)], [(0, .var [.i s.cum, .r (.ro none (s.gaps.map Gap.row))])], 1, []⟩ ∧ gapsB 0 s.gaps = true) ?_ ?_
  · refine lp_wpc (α := Nat × Int) (fun y => ⟨[(1, .ptr 0 0 0), (3, .i y.2), (4, .i y.1)], [(0, .var [.i s.cum, .r (.ro none (s.gaps.map Gap.row))])], 1, []⟩)
      (fun y => y.1 ≤ s.gaps.length ∧ 0 ≤ y.2 ∧ y.2 ≤ 16 ∧ gapsB y.2 (s.gaps.drop y.1) = gapsB 0 s.gaps) (fun y => s.gaps.length - y.1) (0, 0) ⟨Nat.zero_le _, by simp, by simp, rfl⟩ (by (refine le_ev [] ?_; simp only [hm, go_sem, ↓reduceIte]; first | done | rfl | exact ⟨rfl, rfl⟩)) ?_
    rintro ⟨i, last⟩ ⟨hi, hb0, hb1, hI⟩
    simp only at hi hb0 hb1 hI
    unfold pc114l0
    rcases Nat.lt_or_ge i s.gaps.length with hil | hil
    · have hw : IntKind.i64.wrap ((i : Int) + 1) = ((i + 1 : Nat) : Int) := by rw [wrap64 (by omega) (by omega)]; omega
      have hw2 : IntKind.i64.wrap (last + 2) = last + 2 := wrap64 (by omega) (by omega)
      rw [gapsB_drop hil] at hI
      have hg := getD_map (f := Gap.row) hil
      generalize s.gaps[i] = g at hI hg
      have hok : gapsB 0 s.gaps = false → AV.r (RV.b false) = AV.bo (sackB s) := fun h => by simp [sackB, h]
      simp only [hw, hw2, Int.toNat_natCast, hg, Gap.row, hm, go_sem, ↓reduceIte]
      repeat' first | refine And.intro ?_ ?_ | intro _
      all_goals first
        | omega
        | rfl
        | (refine hok ?_; rw [← hI, decide_eq_false (by omega)]; rfl)
        | (rw [decide_eq_true (by omega), Bool.true_and] at hI
           refine ⟨(i + 1, g.to), ⟨hil, ?_, ?_, hI⟩, ?_, ?_⟩
           · simp only; omega
           · simp only; omega
           · simp only; omega
           · (refine le_ev [] ?_; simp only [hm, go_sem, ↓reduceIte]; first | done | rfl | exact ⟨rfl, rfl⟩))
    · have : i = s.gaps.length := by omega
      subst this
      rw [List.drop_eq_nil_of_le (Nat.le_refl _)] at hI
      simp only [hm, go_sem, ↓reduceIte]
      repeat' first | refine And.intro ?_ ?_ | intro _
      all_goals first
        | omega
        | (refine ⟨_, ⟨rfl, hI.symm⟩, ?_⟩; (refine le_ev [] ?_; simp only [hm, go_sem, ↓reduceIte]; first | done | rfl | exact ⟨rfl, rfl⟩))
  rintro t0 ⟨rfl, hG⟩
  refine run_wpc _ _ _ _ _ ?_
  simp only [hm, go_sem, ↓reduceIte]
  repeat' first | refine And.intro ?_ ?_ | intro _ | (refine c_l3Ok hP ?_; simp only [hm, go_sem, ↓reduceIte])
  all_goals first
    | (apply bo_inj; simp [sackB, *]; done)
    | (apply bo_inj; rw [Bool.eq_iff_iff]; simp [sackB, *]; omega)
theorem s_specSackPut0 (n : Int) (h : 0 ≤ n ∧ n < 65536) : Spec Try.prog 100 0 [] [.agg [.i n, .r .nil]] (fun r _ _ _ => r = .tup [(sackPut ⟨n, []⟩).av, .bo true]) := by
  have hs : sackB ⟨n, []⟩ = true := by simp [sackB, serialB, gapsB, h]
  refine mk100 rfl fun c hP hm => ?_
  unfold pc100
  simp only [hm, go_sem, ↓reduceIte]
  refine call_flat (hP ▸ s_l12Sack ⟨n, []⟩ (by simp)) rfl (.cons (vw_agg (.cons (vw_self _ _ rfl) (.cons Vw.nil .nil))) .nil) ?_
  simp only [hs, hm, go_sem, ↓reduceIte]
  refine call_pure (hP ▸ s_l1Word n h) rfl rfl ?_
  simp only [hm, go_sem, ↓reduceIte]
  refine lp_wpc (α := Unit) (fun _ => ⟨[(1, .ptr 0 0 0), (2, .ptr 1 0 0), (4, .st (word n)), (5, .i 0)], [(0, .var [.i n, .r .nil]), (1, .var [.i 0, .i 0, .st []])], 2, []⟩) (fun _ => True) (fun _ => 0) () trivial (by (refine le_ev [] ?_; simp only [hm, go_sem, ↓reduceIte]; first | done | rfl | exact ⟨rfl, rfl⟩)) ?_
  intro _ _
  unfold pc100l0
  simp only [hm, go_sem, ↓reduceIte]
  repeat' first | refine And.intro ?_ ?_ | intro _
  all_goals first
    | omega
    | (simp [sackPut, Chunk.av]; done)
end Go.Cap

/- Contracts: associations are valid, twice. -/
namespace Go.Cap
open Go Go.Proofs
set_option maxRecDepth 100000
set_option linter.unusedSimpArgs false
set_option linter.unusedVariables false
attribute [local irreducible] Call Run Spec Le

def SFit (s : Side) : Prop := s.sent.length ≤ 2000000 ∧ ∀ d ∈ s.sent, d.text.length ≤ 9223372036854775807
theorem s_l31Open (n : Int) : Spec Try.prog 48 0 [] [.i n] (fun r _ _ _ => r = .bo (inB n 3 7)) := by
  refine mk48 rfl fun c hP hm => ?_
  unfold pc48
  simp only [hm, go_sem, ↓reduceIte]
  refine c_l6In hP ?_
  simp only [hm, go_sem, ↓reduceIte]
theorem s_specAssocValid (a : Assoc) (ha : SFit a.a) (hb : SFit a.b) : Spec Try.prog 21 0 [] [a.ro] (fun r _ _ _ => r = .bo (assocB a)) := by
  refine mk21 rfl fun c hP hm => ?_
  unfold pc21 Assoc.ro Assoc.av
  have ka := ha.1
  have kb := hb.1
  have hw : IntKind.i64.wrap ((a.a.sent.length : Int) + (a.b.sent.length : Int)) = (a.a.sent.length : Int) + a.b.sent.length := wrap64 (by omega) (by omega)
  have hif := @assocB_iff a
  simp only [hw, hm, go_sem, ↓reduceIte]
  repeat' first | refine And.intro ?_ ?_ | intro _ | (refine c_l6In hP ?_; simp only [hw, hm, go_sem, ↓reduceIte]) | (refine call_pure (hP ▸ s_l31Open a.state) rfl rfl ?_; simp only [hw, hm, go_sem, ↓reduceIte]) | (refine call_pure (hP ▸ s_specSideValid a.a ha.1 ha.2) rfl rfl ?_; simp only [hw, hm, go_sem, ↓reduceIte]; cases hsa : sideB a.a <;> simp only [hw, hm, go_sem, ↓reduceIte]) | (refine call_pure (hP ▸ s_specSideValid a.b hb.1 hb.2) rfl rfl ?_; simp only [hw, hm, go_sem, ↓reduceIte]; cases hsb : sideB a.b <;> simp only [hw, hm, go_sem, ↓reduceIte])
  all_goals first
    | omega
    | (apply bo_inj
       rw [Bool.eq_iff_iff, hif]
       clear hif ha hb hP hm hw
       first
         | (simp_all; done)
         | (simp_all; omega)
         | (simp only [decide_eq_decide, inB, decide_eq_true_eq, decide_eq_false_iff_not] at *; simp only [true_iff]; refine ⟨by omega, by omega, by omega, by omega, by assumption, by assumption, by omega, by omega, by omega, ?_⟩; first | exact .inl (by assumption) | exact .inr (by omega))
         | (simp only [decide_eq_decide, inB, decide_eq_true_eq, decide_eq_false_iff_not] at *
            constructor
            · intro h5
              refine ⟨by omega, by omega, by omega, by omega, by assumption, by assumption, by omega, by omega, by omega, .inr h5⟩
            · rintro ⟨g1, g2, g3, g4, g5, g6, g7, g8, g9, g10⟩
              rcases g10 with g | g
              · simp_all
                done
              · exact g)
         | (simp only [decide_eq_decide, inB, decide_eq_true_eq, decide_eq_false_iff_not] at *; simp only [Bool.false_eq_true, false_iff]; rintro ⟨g1, g2, g3, g4, g5, g6, g7, g8, g9, g10⟩; first | omega | (simp_all; done) | (simp_all; omega)))
end Go.Cap

/- Contracts: findings; monitors are valid (the program's). -/
namespace Go.Cap
open Go Go.Proofs
set_option maxRecDepth 100000
set_option linter.unusedSimpArgs false
set_option linter.unusedVariables false
attribute [local irreducible] Call Run Spec Le

structure MFit (m : Mon) : Prop where
  nl : m.list.length ≤ 2000000
  nf : m.found.length ≤ 2000000
  a : ∀ x ∈ m.list, SFit x.a ∧ SFit x.b
theorem s_l32Pair (a b : Assoc) (x y u v : RV) : Spec Try.prog 54 0 [] [a.av (.r x) (.r y), b.av (.r u) (.r v)] (fun r _ _ _ => r = .bo (pairB a b.fr b.to)) := by
  refine mk54 rfl fun c hP hm => ?_
  unfold pc54 Assoc.av
  simp only [hm, go_sem, ↓reduceIte]
  repeat' first | refine And.intro ?_ ?_ | intro _
  all_goals (apply bo_inj; unfold pairB; first | (rw [decide_eq_true (by omega)]; done) | (rw [decide_eq_false (by omega)]; done) | (simp [*]; done) | (rw [Bool.eq_iff_iff]; simp [*] <;> omega))
theorem s_l32Finding (f : Fnd) (n : Int) : Spec Try.prog 55 0 [] [f.av, .i n] (fun r _ _ _ => r = .bo (fndB (IntKind.i64.wrap (n - 1) + 1) f)) := by
  refine mk55 rfl fun c hP hm => ?_
  unfold pc55 Fnd.av
  simp only [hm, go_sem, ↓reduceIte]
  repeat' first | refine And.intro ?_ ?_ | intro _ | (refine c_l6In hP ?_; simp only [hm, go_sem, ↓reduceIte])
  all_goals (apply bo_inj; simp [fndB, *])
theorem s_l32Less (a b : Fnd) : Spec Try.prog 56 0 [] [a.av, b.av] (fun r _ _ _ => r = .bo (lessB a b)) := by
  refine mk56 rfl fun c hP hm => ?_
  unfold pc56 Fnd.av
  simp only [hm, go_sem, ↓reduceIte]
  repeat' first | refine And.intro ?_ ?_ | intro _
  all_goals (apply bo_inj; unfold lessB; first | (rw [decide_eq_true (by omega)]; done) | (rw [decide_eq_false (by omega)]; done) | (rw [Bool.eq_iff_iff]; simp [*] <;> omega) | (simp [*]; done))
theorem rowAt {l : List Fnd} {i : Nat} (h : i < l.length) : (l.map Fnd.row).getD i [] = (fndAt l i).row := by rw [getD_map h, fndAt_eq h]
end Go.Cap

/- Contracts: monitors are valid, twice. -/
namespace Go.Cap
open Go Go.Proofs
set_option maxRecDepth 100000
set_option linter.unusedSimpArgs false
set_option linter.unusedVariables false
attribute [local irreducible] Call Run Spec Le

theorem arowAt {l : List Assoc} {i : Nat} (h : i < l.length) : (l.map Assoc.row).getD i [] = (assocAt l i).row := by rw [getD_map h, assocAt_eq h]
theorem lt_succ' {Q : Nat → Prop} {i : Nat} (h : ∀ j, j < i → Q j) (hi : Q i) : ∀ j, j < i + 1 → Q j := fun j hj => by
  rcases Nat.lt_or_ge j i with h2 | h2
  · exact h j h2
  · have : j = i := by omega
    rw [this]; exact hi
theorem lt_succ_all {p : Nat → Bool} {i : Nat} (h : ∀ j, j < i → p j = true) (hi : p i = true) : ∀ j, j < i + 1 → p j = true := fun j hj => by
  rcases Nat.lt_or_ge j i with h2 | h2
  · exact h j h2
  · have : j = i := by omega
    rw [this]; exact hi
theorem s_specMonitorValid (m : Mon) (hf : MFit m) : Spec Try.prog 32 0 [] [m.ro] (fun r _ _ _ => r = .bo (monB m)) := by
  refine mr32 rfl fun c hP hm => ?_
  unfold pc32 Mon.ro
  have hnl := hf.nl
  have hnf := hf.nf
  refine run_seq (run_wpc _ _ _ _ _ ?_)
  simp only [hm, go_sem, ↓reduceIte]
  refine run_seq (run_wpc _ _ _ _ _ ?_)
  simp only [hm, go_sem, ↓reduceIte]
  refine run_exit 0 (fun t0 => t0 = ⟨[(1, .ptr 0 0 0)], [(0, .var [.i m.records, .r (.ro none (m.list.map Assoc.row)), .r (.ro none (m.found.map Fnd.row))])], 1, []⟩ ∧ listB m.list = true) ?_ ?_
  · refine lp_wpc (α := Nat) (fun i => ⟨[(1, .ptr 0 0 0), (3, .i i)], [(0, .var [.i m.records, .r (.ro none (m.list.map Assoc.row)), .r (.ro none (m.found.map Fnd.row))])], 1, []⟩)
      (fun i => i ≤ m.list.length ∧ ∀ j, j < i → listOne m.list j = true) (fun i => m.list.length - i) 0 ⟨Nat.zero_le _, fun j hj => by omega⟩ (by (refine le_ev [] ?_; simp only [hm, go_sem, ↓reduceIte]; first | done | rfl | exact ⟨rfl, rfl⟩)) ?_
    rintro i ⟨hi, hI⟩
    unfold pc32l1
    rcases Nat.lt_or_ge i m.list.length with hil | hil
    · have hw : IntKind.i64.wrap ((i : Int) + 1) = ((i + 1 : Nat) : Int) := by rw [wrap64 (by omega) (by omega)]; omega
      have hg := arowAt hil
      have hok : listOne m.list i = false → AV.r (RV.b false) = AV.bo (monB m) := fun h => by unfold monB listB; rw [allB_false hil h]; simp
      have hst : listOne m.list i = true → i + 1 ≤ m.list.length ∧ ∀ j, j < i + 1 → listOne m.list j = true := fun h => ⟨hil, lt_succ_all hI h⟩
      obtain ⟨fa, fb⟩ := hf.a _ (List.getElem_mem hil)
      rw [← assocAt_eq hil] at fa fb
      simp only [Int.toNat_natCast, hg, Assoc.row, Assoc.cellsX, hm, go_sem, ↓reduceIte]
      repeat' first | refine And.intro ?_ ?_ | intro _
      all_goals first
        | omega
        | rfl
        | skip
      refine call_pure (hP ▸ s_specAssocValid (assocAt m.list i) fa fb) rfl rfl ?_
      simp only [Int.toNat_natCast, hg, Assoc.row, Assoc.cellsX, hm, go_sem, ↓reduceIte]
      repeat' first | refine And.intro ?_ ?_ | intro _
      all_goals first
        | omega
        | rfl
        | (refine hok ?_; simp [listOne, *]; done)
        | skip
      rename_i hav hs0
      refine lp_wpc (α := Nat) (fun k => ⟨[(1, .ptr 0 0 0), (3, .i i), (4, .i k)], [(0, .var [.i m.records, .r (.ro none (m.list.map Assoc.row)), .r (.ro none (m.found.map Fnd.row))])], 1, []⟩)
        (fun k => k ≤ i ∧ ∀ j, j < k → pairB (assocAt m.list j) (assocAt m.list i).fr (assocAt m.list i).to = false) (fun k => i - k) 0 ⟨Nat.zero_le _, fun j hj => by omega⟩ (by (refine le_ev [] ?_; simp only [hm, go_sem, ↓reduceIte]; first | done | rfl | exact ⟨rfl, rfl⟩)) ?_
      rintro k ⟨hk, hK⟩
      unfold pc32l0
      rcases Nat.lt_or_ge k i with hki | hki
      · have hwk : IntKind.i64.wrap ((k : Int) + 1) = ((k + 1 : Nat) : Int) := by rw [wrap64 (by omega) (by omega)]; omega
        have hgk := arowAt (l := m.list) (show k < m.list.length by omega)
        simp only [Int.toNat_natCast, hg, hgk, Assoc.row, Assoc.cellsX, hm, go_sem, ↓reduceIte]
        repeat' first | refine And.intro ?_ ?_ | intro _
        all_goals first
          | omega
          | rfl
          | skip
        refine call_pure (hP ▸ s_l32Pair (assocAt m.list k) (assocAt m.list i) _ _ _ _) rfl rfl ?_
        simp only [Int.toNat_natCast, hg, hgk, Assoc.row, Assoc.cellsX, hwk, hm, go_sem, ↓reduceIte]
        repeat' first | refine And.intro ?_ ?_ | intro _
        all_goals first
          | omega
          | rfl
          | (rename_i hpp; refine hok ?_; have := allB_false (p := fun k => !pairB (assocAt m.list k) (assocAt m.list i).fr (assocAt m.list i).to) hki (by simp [hpp]); simp [listOne, this]; done)
          | (rename_i hpp; refine ⟨k + 1, ⟨hki, lt_succ' hK hpp⟩, by omega, ?_⟩; (refine le_ev [] ?_; simp only [hm, go_sem, ↓reduceIte]; first | done | rfl | exact ⟨rfl, rfl⟩))
      · have : k = i := by omega
        subst this
        have hall : allB k (fun j => !pairB (assocAt m.list j) (assocAt m.list k).fr (assocAt m.list k).to) = true := allB_true fun j hj => by rw [hK j hj]; rfl
        simp only [hw, hm, go_sem, ↓reduceIte]
        repeat' first | refine And.intro ?_ ?_ | intro _
        all_goals first
          | omega
          | (refine ⟨k + 1, hst ?_, by omega, ?_⟩
             · simp [listOne, *]
             · (refine le_ev [] ?_; simp only [hm, go_sem, ↓reduceIte]; first | done | rfl | exact ⟨rfl, rfl⟩))
    · have : i = m.list.length := by omega
      subst this
      have hfin : listB m.list = true := allB_true hI
      simp only [hm, go_sem, ↓reduceIte]
      repeat' first | refine And.intro ?_ ?_ | intro _
      all_goals first
        | omega
        | (refine ⟨_, ⟨rfl, hfin⟩, ?_⟩; (refine le_ev [] ?_; simp only [hm, go_sem, ↓reduceIte]; first | done | rfl | exact ⟨rfl, rfl⟩))
  rintro t0 ⟨rfl, hL⟩
  refine run_seq (run_wpc _ _ _ _ _ ?_)
  simp only [hm, go_sem, ↓reduceIte]
  have hbad : foundB (IntKind.i64.wrap (m.records - 1) + 1) m.found = false → monB m = false := fun h => by
    unfold monB
    by_cases hr : inB m.records 0 60 = true
    · have : IntKind.i64.wrap (m.records - 1) + 1 = m.records := by
        simp only [inB, decide_eq_true_eq] at hr
        rw [wrap64 (by omega) (by omega)]; omega
      rw [this] at h
      rw [h]; simp
    · simp [hr]
  have hgood : foundB (IntKind.i64.wrap (m.records - 1) + 1) m.found = true → inB m.records 0 60 = true → foundB m.records m.found = true := fun h hr => by
    have : IntKind.i64.wrap (m.records - 1) + 1 = m.records := by
      simp only [inB, decide_eq_true_eq] at hr
      rw [wrap64 (by omega) (by omega)]; omega
    rw [this] at h; exact h
  generalize hB : IntKind.i64.wrap (m.records - 1) + 1 = B at hbad hgood
  refine run_exit 4 (fun t0 => t0 = ⟨[(1, .ptr 0 0 0)], [(0, .var [.i m.records, .r (.ro none (m.list.map Assoc.row)), .r (.ro none (m.found.map Fnd.row))])], 1, []⟩ ∧ foundB B m.found = true) ?_ ?_
  · refine lp_wpc (α := Nat) (fun i => ⟨[(1, .ptr 0 0 0), (5, .i i)], [(0, .var [.i m.records, .r (.ro none (m.list.map Assoc.row)), .r (.ro none (m.found.map Fnd.row))])], 1, []⟩)
      (fun i => i ≤ m.found.length ∧ ∀ j, j < i → foundOne B m.found j = true) (fun i => m.found.length - i) 0 ⟨Nat.zero_le _, fun j hj => by omega⟩ (by (refine le_ev [] ?_; simp only [hm, go_sem, ↓reduceIte]; first | done | rfl | exact ⟨rfl, rfl⟩)) ?_
    rintro i ⟨hi, hI⟩
    unfold pc32l2
    rcases Nat.lt_or_ge i m.found.length with hil | hil
    · have hw : IntKind.i64.wrap ((i : Int) + 1) = ((i + 1 : Nat) : Int) := by rw [wrap64 (by omega) (by omega)]; omega
      have hg := rowAt hil
      have hok : foundOne B m.found i = false → AV.r (RV.b false) = AV.bo (monB m) := fun h => by rw [hbad (allB_false hil h)]
      have hst : foundOne B m.found i = true → i + 1 ≤ m.found.length ∧ ∀ j, j < i + 1 → foundOne B m.found j = true := fun h => ⟨hil, lt_succ_all hI h⟩
      have hg1 : 0 < i → (m.found.map Fnd.row).getD (i - 1) [] = (fndAt m.found (i - 1)).row := fun _ => rowAt (by omega)
      have hw1 : 0 < i → IntKind.i64.wrap ((i : Int) - 1) = ((i - 1 : Nat) : Int) := fun _ => by rw [wrap64 (by omega) (by omega)]; omega
      have hdef : foundOne B m.found i = (fndB B (fndAt m.found i) && (decide (i = 0) || lessB (fndAt m.found (i - 1)) (fndAt m.found i))) := rfl
      have hcf := s_l32Finding (fndAt m.found i) m.records
      have hcl := s_l32Less (fndAt m.found (i - 1)) (fndAt m.found i)
      rw [hB] at hcf
      unfold Fnd.av at hcf hcl
      rcases Nat.eq_zero_or_pos i with h0 | h0
      · subst h0
        have hz : IntKind.i64.wrap ((0 : Int) + 1) = ((0 + 1 : Nat) : Int) := by decide
        simp only [Int.natCast_zero, Int.toNat_zero, hz, hg, Fnd.row, hm, go_sem, ↓reduceIte]
        repeat' first | refine And.intro ?_ ?_ | intro _ | (refine call_pure (hP ▸ hcf) rfl rfl ?_; simp only [Int.natCast_zero, Int.toNat_zero, hz, hg, Fnd.row, hm, go_sem, ↓reduceIte])
        all_goals first
          | omega
          | rfl
          | (refine hok ?_; rw [hdef]; simp [*]; done)
          | (refine ⟨0 + 1, hst ?_, by omega, by (refine le_ev [] ?_; simp only [hm, go_sem, ↓reduceIte]; first | done | rfl | exact ⟨rfl, rfl⟩)⟩; rw [hdef]; simp [*])
      · have hne : ¬ i = 0 := by omega
        simp only [hne, decide_false, Bool.false_or] at hdef
        simp only [hw, hw1 h0, Int.toNat_natCast, hg, hg1 h0, Fnd.row, hm, go_sem, ↓reduceIte]
        repeat' first | refine And.intro ?_ ?_ | intro _ | (refine call_pure (hP ▸ hcf) rfl rfl ?_; simp only [hw, hw1 h0, Int.toNat_natCast, hg, hg1 h0, Fnd.row, hm, go_sem, ↓reduceIte]) | (refine call_pure (hP ▸ hcl) rfl rfl ?_; simp only [hw, hw1 h0, Int.toNat_natCast, hg, hg1 h0, Fnd.row, hm, go_sem, ↓reduceIte])
        all_goals first
          | omega
          | rfl
          | (refine hok ?_; rw [hdef]; simp [*]; done)
          | (refine ⟨i + 1, hst ?_, by omega, by (refine le_ev [] ?_; simp only [hm, go_sem, ↓reduceIte]; first | done | rfl | exact ⟨rfl, rfl⟩)⟩; rw [hdef]; simp [*])
    · have : i = m.found.length := by omega
      subst this
      have hfin : foundB B m.found = true := allB_true hI
      simp only [hm, go_sem, ↓reduceIte]
      repeat' first | refine And.intro ?_ ?_ | intro _
      all_goals first
        | omega
        | (refine ⟨_, ⟨rfl, hfin⟩, ?_⟩; (refine le_ev [] ?_; simp only [hm, go_sem, ↓reduceIte]; first | done | rfl | exact ⟨rfl, rfl⟩))
  rintro t0 ⟨rfl, hF⟩
  refine run_wpc _ _ _ _ _ ?_
  simp only [hm, go_sem, ↓reduceIte]
  refine c_l6In hP ?_
  simp only [hm, go_sem, ↓reduceIte]
  repeat' first | refine And.intro ?_ ?_ | intro _
  all_goals (apply bo_inj; unfold monB; first | (rw [hL, hgood hF (by assumption)]; simp [*]; done) | (simp [*]; done) | (rw [hL, hgood hF (by assumption), Bool.eq_iff_iff]; simp [*]; omega))
end Go.Cap

/- Contracts: finding associations, twice. -/
namespace Go.Cap
open Go Go.Proofs
set_option maxRecDepth 100000
set_option linter.unusedSimpArgs false
set_option linter.unusedVariables false
attribute [local irreducible] Call Run Spec Le

theorem findIx_some {f t : Int} : ∀ {l : List Assoc} {i : Nat}, i < l.length → (∀ j, j < i → pairB (assocAt l j) f t = false) → pairB (assocAt l i) f t = true → findIx f t l = some i
  | [], i, h, _, _ => by simp at h
  | a :: l, 0, h, _, hp => by rw [findIx, if_pos (by simpa [assocAt] using hp)]
  | a :: l, i + 1, h, hj, hp => by
    have h0 := hj 0 (by omega)
    rw [findIx, if_neg (by simpa [assocAt] using h0), findIx_some (l := l) (i := i) (by simpa using h) (fun j hj' => by simpa [assocAt] using hj (j + 1) (by omega)) (by simpa [assocAt] using hp)]
    rfl
theorem findIx_none {f t : Int} : ∀ {l : List Assoc}, (∀ j, j < l.length → pairB (assocAt l j) f t = false) → findIx f t l = none
  | [], _ => rfl
  | a :: l, hj => by
    have h0 := hj 0 (by simp)
    rw [findIx, if_neg (by simpa [assocAt] using h0), findIx_none (l := l) (fun j hj' => by simpa [assocAt] using hj (j + 1) (by simpa using hj'))]
    rfl
theorem findIx_lt {f t : Int} : ∀ {l : List Assoc} {i : Nat}, findIx f t l = some i → i < l.length ∧ pairB (assocAt l i) f t = true
  | [], i, h => by cases h
  | a :: l, i, h => by
    rw [findIx] at h
    split at h
    · rename_i hp
      cases h
      exact ⟨by simp, by simpa [assocAt] using hp⟩
    · cases hf : findIx f t l with
      | none => rw [hf] at h; cases h
      | some k =>
        rw [hf] at h
        cases h
        obtain ⟨h1, h2⟩ := findIx_lt hf
        exact ⟨by simpa using h1, by simpa [assocAt] using h2⟩
def ixOr (o : Option Nat) : Int := match o with | some k => k | none => -1
theorem s_l32Find (m : Mon) (f t : Int) (hl : m.list.length ≤ 2000000) : Spec Try.prog 58 0 [] [m.ro, .i f, .i t] (fun r _ _ _ => r = .i (ixOr (findIx f t m.list))) := by
  refine mk58 rfl fun c hP hm => ?_
  unfold pc58 Mon.ro
  simp only [hm, go_sem, ↓reduceIte]
  refine lp_wpc (α := Nat) (fun i => ⟨[(1, .i f), (2, .i t), (3, .ptr 0 0 0), (7, .i i)], [(0, .var [.i m.records, .r (.ro none (m.list.map Assoc.row)), .r (.ro none (m.found.map Fnd.row))])], 1, []⟩)
    (fun i => i ≤ m.list.length ∧ ∀ j, j < i → pairB (assocAt m.list j) f t = false) (fun i => m.list.length - i) 0 ⟨Nat.zero_le _, fun j hj => by omega⟩ (by (refine le_ev [] ?_; simp only [hm, go_sem, ↓reduceIte]; first | done | rfl | exact ⟨rfl, rfl⟩)) ?_
  rintro i ⟨hi, hI⟩
  unfold pc58l0
  rcases Nat.lt_or_ge i m.list.length with hil | hil
  · have hw : IntKind.i64.wrap ((i : Int) + 1) = ((i + 1 : Nat) : Int) := by rw [wrap64 (by omega) (by omega)]; omega
    have hg := arowAt hil
    simp only [hw, Int.toNat_natCast, hg, Assoc.row, Assoc.cellsX, hm, go_sem, ↓reduceIte]
    repeat' first | refine And.intro ?_ ?_ | intro _ | (refine call_pure (hP ▸ s_l32Pair (assocAt m.list i) ⟨f, t, 0, false, noSide, noSide⟩ _ _ .nil .nil) rfl rfl ?_; simp only [hw, Int.toNat_natCast, hg, Assoc.row, Assoc.cellsX, hm, go_sem, ↓reduceIte])
    all_goals first
      | omega
      | rfl
      | (rename_i hp; rw [findIx_some hil hI hp]; rfl)
      | (rename_i hp; refine ⟨i + 1, ⟨hil, lt_succ' hI hp⟩, by omega, ?_⟩; (refine le_ev [] ?_; simp only [hm, go_sem, ↓reduceIte]; first | done | rfl | exact ⟨rfl, rfl⟩))
  · have : i = m.list.length := by omega
    subst this
    simp only [hm, go_sem, ↓reduceIte]
    repeat' first | refine And.intro ?_ ?_ | intro _
    all_goals first
      | omega
      | (rw [findIx_none hI]; rfl)
end Go.Cap

/- Contracts: marks that a law leaves in what the program returned. -/
namespace Go.Cap
open Go Go.Proofs
set_option maxRecDepth 100000
set_option linter.unusedSimpArgs false
set_option linter.unusedVariables false
attribute [local irreducible] Call Run Spec Le

def marks {α : Type} (f : Int → α) (w : Int) (k : Nat) (n : Int) : List α := (List.range k).map fun (i : Nat) => f (n + w * (i : Int))
end Go.Cap

/- Plain facts on assemblies: validity, what is told, what is left. -/
namespace Go.Cap
open Go Go.Proofs
set_option linter.unusedSimpArgs false
set_option linter.unusedVariables false

theorem restFrom_sub (p : List Nat) : ∀ (l : List Data) (i : Nat), (restFrom p i l).Sublist l
  | [], i => by simp [restFrom]
  | d :: l, i => by
    simp only [restFrom]
    split
    · exact (restFrom_sub p l (i + 1)).cons _
    · exact (restFrom_sub p l (i + 1)).cons_cons _
theorem takeOut_nlen (a : Asm) (p : List Nat) : (takeOut a p).next.length = a.next.length := by unfold takeOut; simp only; split <;> simp
/-- Settling, step by step. -/
inductive Stl : Asm → List Msg → Asm → List Msg → Prop
  | stop (a : Asm) (ms : List Msg) : due a = none → Stl a ms a ms
  | step (a : Asm) (ms : List Msg) (p : List Nat) (a' : Asm) (ms' : List Msg) : AsmOk a → due a = some p → Stl (takeOut a p) (ms ++ [msgOf a p]) a' ms' → Stl a ms a' ms'
theorem Stl.more {a a' : Asm} {ms ms' : List Msg} (h : Stl a ms a' ms') : ∃ t, ms' = ms ++ t ∧ (t = [] → a' = a) := by
  induction h with
  | stop a ms _ => exact ⟨[], by simp, fun _ => rfl⟩
  | step a ms p a' ms' ok hd _ ih =>
    obtain ⟨t, h1, _⟩ := ih
    exact ⟨msgOf a p :: t, by rw [h1, List.append_assoc]; rfl, fun h => by cases h⟩
end Go.Cap

/- Plain facts on settling: numbers, messages without order, bytes. -/
namespace Go.Cap
open Go Go.Proofs
set_option linter.unusedSimpArgs false
set_option linter.unusedVariables false

/-- A part that is a message by itself is told, if it has no order. -/
theorem Stl.loose {a a' : Asm} {ms ms' : List Msg} (h : Stl a ms a' ms') {d : Data} (h1 : d.first = true) (h2 : d.last = true) (h3 : d.loose = true) : (a.parts.map Data.tsn).Nodup → d ∈ a.parts → ⟨d.stream, d.ssn, true, d.text⟩ ∈ ms' := by
  induction h with
  | stop a ms hd =>
    intro hn hm
    exfalso
    obtain ⟨i, hi, rfl⟩ := List.getElem_of_mem hm
    have hda := dataAt_eq hi
    have hl : a.parts.length = (a.parts.length - 1) + 1 := by omega
    have hc : chain a.parts i = some [i] := by unfold chain; rw [hl, chainN, hda, if_pos h2]
    have hda2 : dueAt a i = some [i] := by unfold dueAt; rw [hda, if_pos (by simp [h1, h3]), hc]
    have key : ∀ l : List Nat, dueFrom a l = none → ∀ i ∈ l, dueAt a i = none := by
      intro l
      induction l with
      | nil => intro _ i hi; cases hi
      | cons x l ih =>
        intro h i hi
        rw [dueFrom] at h
        cases hx : dueAt a x with
        | some q => rw [hx] at h; cases h
        | none =>
          rw [hx] at h
          rcases List.mem_cons.1 hi with rfl | hi
          · exact hx
          · exact ih h i hi
    have := key _ hd i (List.mem_range.2 hi)
    rw [hda2] at this; cases this
  | step a ms p a' ms' ok hd st ih =>
    intro hn hm
    have hdo := due_ok ok hd
    obtain ⟨i, hi, rfl⟩ := List.getElem_of_mem hm
    have hda := dataAt_eq hi
    by_cases hip : i ∈ p
    · -- the chain is this part alone
      obtain ⟨j, hj, hdj⟩ := due_some hd
      have hp : p = [i] := by
        unfold dueAt at hdj
        split at hdj
        · rename_i hc
          unfold chain at hdj
          obtain ⟨l, hl⟩ : ∃ l, a.parts.length = l + 1 := ⟨a.parts.length - 1, by omega⟩
          rw [hl, chainN] at hdj
          split at hdj
          · cases hdj
            simp only [List.mem_singleton] at hip
            rw [hip]
          · rename_i hjl
            exfalso
            have hnf : ∀ (n k : Nat) (q : List Nat), chainN n a.parts k = some q → (dataAt a.parts k).first = false → ∀ x ∈ q, (dataAt a.parts x).first = false := by
              intro n
              induction n with
              | zero => intro k q h; cases h
              | succ n ihn =>
                intro k q h hk x hx
                rw [chainN] at h
                split at h
                · cases h; simp only [List.mem_singleton] at hx; rw [hx]; exact hk
                · cases hnx : nextIx a.parts k with
                  | none => rw [hnx] at h; cases h
                  | some y =>
                    rw [hnx] at h
                    simp only at h
                    have hyf : (dataAt a.parts y).first = false := by
                      unfold nextIx at hnx
                      split at hnx
                      · split at hnx
                        · cases hnx
                        · rename_i hcc
                          cases hnx
                          simp only [Bool.or_eq_true, not_or] at hcc
                          simpa using hcc.1
                      · cases hnx
                    cases hcn : chainN n a.parts y with
                    | none => rw [hcn] at h; cases h
                    | some t =>
                      rw [hcn] at h
                      cases h
                      rcases List.mem_cons.1 hx with rfl | hx
                      · exact hk
                      · exact ihn y t hcn hyf x hx
            cases hnx : nextIx a.parts j with
            | none => rw [hnx] at hdj; cases hdj
            | some y =>
              rw [hnx] at hdj
              simp only at hdj
              have hyf : (dataAt a.parts y).first = false := by
                unfold nextIx at hnx
                split at hnx
                · split at hnx
                  · cases hnx
                  · rename_i hcc
                    cases hnx
                    simp only [Bool.or_eq_true, not_or] at hcc
                    simpa using hcc.1
                · cases hnx
              cases hcn : chainN l a.parts y with
              | none => rw [hcn] at hdj; cases hdj
              | some t =>
                rw [hcn] at hdj
                cases hdj
                rcases List.mem_cons.1 hip with rfl | hip
                · rw [hda, h2] at hjl; exact hjl rfl
                · have := hnf _ _ _ hcn hyf i hip
                  rw [hda, h1] at this; cases this
        · cases hdj
      obtain ⟨t, ht, _⟩ := st.more
      rw [ht, List.append_assoc]
      refine List.mem_append_right _ (List.mem_append_left _ ?_)
      rw [hp]
      simp only [List.mem_singleton, msgOf, List.headD_cons, hda, textOfIx, List.flatMap_cons, List.flatMap_nil, List.append_nil, h3]
    · refine ih (hn.sublist ((restFrom_sub p a.parts 0).map _)) ?_
      show a.parts[i] ∈ restFrom p 0 a.parts
      have key : ∀ (l : List Data) (k j : Nat) (hj : j < l.length), k + j ∉ p → l[j] ∈ restFrom p k l := by
        intro l
        induction l with
        | nil => intro k j hj; simp at hj
        | cons x l ihl =>
          intro k j hj hnp
          rw [restFrom]
          cases j with
          | zero =>
            rw [if_neg (by simpa using hnp)]
            exact List.mem_cons_self ..
          | succ j =>
            have := ihl (k + 1) j (by simpa using hj) (by rw [Nat.add_assoc, Nat.add_comm 1 j]; exact hnp)
            split
            · exact this
            · exact List.mem_cons_of_mem _ this
      exact key a.parts 0 i hi (by rw [Nat.zero_add]; exact hip)
end Go.Cap

/- Plain facts on runs of assemblies: prefixes, numbers of messages. -/
namespace Go.Cap
open Go Go.Proofs
set_option linter.unusedSimpArgs false
set_option linter.unusedVariables false

theorem Stl.streams {a a' : Asm} {ms ms' : List Msg} (h : Stl a ms a' ms') : (∀ m ∈ ms, m.stream < a.next.length) → ∀ m ∈ ms', m.stream < a.next.length := by
  induction h with
  | stop a ms _ => exact fun h => h
  | step a ms p a' ms' ok hd _ ih =>
    intro h
    have hdo := due_ok ok hd
    rw [takeOut_nlen] at ih
    refine ih fun m hm => ?_
    rcases List.mem_append.1 hm with hm | hm
    · exact h m hm
    · simp only [List.mem_singleton] at hm
      subst hm
      obtain ⟨k0, pt, hp0⟩ : ∃ k0 pt, p = k0 :: pt := by cases p with
        | nil => exact absurd rfl hdo.ne
        | cons a b => exact ⟨a, b, rfl⟩
      have hk0 : k0 < a.parts.length := hdo.lt k0 (by rw [hp0]; simp)
      have := ok.stream _ (List.getElem_mem hk0)
      unfold msgOf
      rw [hp0]
      simp only [List.headD_cons, dataAt_eq hk0]
      exact this.2
end Go.Cap

/- Contracts: runs of assemblies, as data. -/
namespace Go.Cap
open Go Go.Proofs
set_option maxRecDepth 100000
set_option linter.unusedSimpArgs false
set_option linter.unusedVariables false
attribute [local irreducible] Call Run Spec Le

theorem asmRun_bad {n : Int} {l : List Data} (h : ¬ (1 ≤ n ∧ n ≤ 4)) : asmRun n l = [] := by unfold asmRun; rw [if_neg h]
theorem s_implAsmRunP (n : Int) (l : List Data) (hl : l.length ≤ 1000000) (hx : ∀ d ∈ l, d.text.length ≤ 9223372036854775807) : Spec Try.prog 36 0 [] [.i n, .r (.ro none (l.map Data.row))] (Plain fun r => r = .r (.ro none ((asmRun n l).map Msg.row))) := by
  by_cases h : 1 ≤ n ∧ n ≤ 4
  · obtain ⟨m, rfl⟩ : ∃ m : Nat, n = m := ⟨n.toNat, by omega⟩
    have := s_implAsmRun1 m l (by omega) hl hx
    rw [← List.length_map (f := Msg.row)] at this
    exact this.dataP
  · rw [asmRun_bad h]
    exact (s_implAsmRun0 n l h).nilP
end Go.Cap

/- Contracts: the packets of a talk (the reference's). -/
namespace Go.Cap
open Go Go.Proofs
set_option maxRecDepth 100000
set_option linter.unusedSimpArgs false
set_option linter.unusedVariables false
attribute [local irreducible] Call Run Spec Le

theorem s_l41PartsP (t : Talk) (byB : Bool) (hv : talkB t = true) : Spec Try.prog 97 0 [] [t.ro, .bo byB] (Plain fun r => r = .r (.ro none ((talkParts t byB).map Data.row))) := by
  have := s_l41Parts t byB hv
  rw [← List.length_map (f := Data.row)] at this
  exact this.dataP
theorem s_l41Packet (t : Talk) (byB : Bool) (c : Chunk) : Spec Try.prog 101 0 [] [t.ro, .bo byB, .r (.ro none [c.row])] (fun r _ _ _ => r = (onePk t byB c).ro) := by
  refine mk101 rfl fun c hP hm => ?_
  unfold pc101 Talk.ro Talk.av onePk
  cases byB <;> simp only [hm, go_sem, ↓reduceIte]
  all_goals rfl
theorem s_l41One (t : Talk) (byB : Bool) (k : Int) : Spec Try.prog 102 0 [] [t.ro, .bo byB, .i k] (fun r _ _ _ => r = (onePk t byB ⟨k, 0, []⟩).ro) := by
  refine mk102 rfl fun c hP hm => ?_
  unfold pc102 Talk.ro Talk.av
  simp only [hm, go_sem, ↓reduceIte]
  refine call_frz 2 rfl rfl (by simp only [go_sem, ↓reduceIte]) ?_
  simp only [hm, go_sem, ↓reduceIte]
  refine call_data (hP ▸ s_l41Packet t byB ⟨k, 0, []⟩) rfl rfl ?_
  simp only [Packet.ro, hm, go_sem, ↓reduceIte]
theorem onePk_av (t : Talk) (b : Bool) (c : Chunk) : (onePk t b c).ro = .agg [.i (onePk t b c).fr, .i (onePk t b c).to, .i (onePk t b c).tag, .r (.ro none [c.row])] := by
  cases b <;> rfl
theorem onePk_row (t : Talk) (b : Bool) (c : Chunk) : (onePk t b c).row = [.n .i64 (onePk t b c).fr, .n .i64 (onePk t b c).to, .n .i64 (onePk t b c).tag, .ro none [c.row]] := by
  cases b <;> rfl
theorem s_l41Hello (t : Talk) (hv : talkB t = true) : Spec Try.prog 96 0 [] [t.ro] (New1 (.sl 0 0 4) 4 ((hello t).map Packet.row)) := by
  refine Spec.new1 (r0 := .sl 0 0 4) (Q := fun r hp _ _ => ∃ b, r = .sl b 0 4 ∧ hget hp b = some (.row 4 ((hello t).map Packet.row))) ?_ (fun r hp nx gs h => h) (fun f g h => by simp only [go_sem, h])
  have hi := init_ok hv
  refine mk96 rfl fun c hP hm => ?_
  unfold pc96 Talk.ro Talk.av
  simp only [hm, go_sem, ↓reduceIte]
  refine call_data (hP ▸ s_specInitPut t.a false (hi false)) rfl rfl ?_
  simp only [Chunk.av, hm, go_sem, ↓reduceIte]
  refine call_data (hP ▸ s_specInitPut t.b true (hi true)) rfl rfl ?_
  simp only [Chunk.av, hm, go_sem, ↓reduceIte]
  refine call_frz 3 rfl rfl (by simp only [go_sem, ↓reduceIte]) ?_
  simp only [hm, go_sem, ↓reduceIte]
  refine call_data (hP ▸ s_l41Packet t false (initPut t.a false)) rfl rfl ?_
  simp only [onePk, Packet.ro, List.map_cons, List.map_nil, hm, go_sem, ↓reduceIte]
  refine call_frz 5 rfl rfl (by simp only [go_sem, ↓reduceIte]) ?_
  simp only [hm, go_sem, ↓reduceIte]
  refine call_data (hP ▸ s_l41Packet t true (initPut t.b true)) rfl rfl ?_
  simp only [onePk, Packet.ro, List.map_cons, List.map_nil, hm, go_sem, ↓reduceIte]
  refine call_data (hP ▸ s_l41One t false 10) rfl rfl ?_
  simp only [onePk, Packet.ro, List.map_cons, List.map_nil, hm, go_sem, ↓reduceIte]
  refine call_data (hP ▸ s_l41One t true 11) rfl rfl ?_
  simp only [onePk, Packet.ro, List.map_cons, List.map_nil, hm, go_sem, ↓reduceIte]
  exact ⟨6, rfl, rfl⟩
theorem s_specTalkPackets (t : Talk) (hl : t.says.length ≤ 1048576) (hx : ∀ s ∈ t.says, s.text.length ≤ 1048576) : Spec Try.prog 78 0 [] [t.ro] (Plain fun r => r = .r (.ro none ((talkPk t).map Packet.row))) := by
  refine Spec.data1 (sz := 4) (Q := fun r hp _ _ => ∃ b, r = .sl b 0 ((talkPk t).map Packet.row).length ∧ hget hp b = some (.row 4 ((talkPk t).map Packet.row))) ?_ (fun r hp nx gs h => h)
  refine mr78 rfl fun c hP hm => ?_
  unfold pc78 Talk.ro Talk.av
  refine run_seq (run_wpc _ _ _ _ _ ?_)
  simp only [hm, go_sem, ↓reduceIte]
  refine run_seq (run_wpc _ _ _ _ _ ?_)
  simp only [hm, go_sem, ↓reduceIte]
  refine call_pure (hP ▸ s_specTalkValid t hl hx) rfl rfl ?_
  by_cases hv : talkB t = true
  rotate_left
  · have hv' : talkB t = false := by simpa using hv
    have e : talkPk t = [] := by unfold talkPk; rw [if_neg hv]
    simp only [hv', e, hm, go_sem, ↓reduceIte]
    exact ⟨1, rfl, rfl⟩
  obtain ⟨hsz, hlen, hsays, hta, htb, _, _⟩ := talk_ok hv
  have hz : t.size = (t.size.toNat : Int) := by omega
  have hz1 : 1 ≤ t.size.toNat ∧ t.size.toNat ≤ 20 := by omega
  simp only [hv, hm, go_sem, ↓reduceIte]
  refine run_seq (run_wpc _ _ _ _ _ ?_)
  simp only [hm, go_sem, ↓reduceIte]
  refine call_new1p (hP ▸ s_l41Hello t hv) rfl ?_
  simp only [hm, go_sem, ↓reduceIte]
  refine run_seq (run_wpc _ _ _ _ _ ?_)
  simp only [hm, go_sem, ↓reduceIte]
  refine call_dataP (hP ▸ s_l41PartsP t false hv) rfl rfl ?_
  simp only [hm, go_sem, ↓reduceIte]
  refine run_seq (run_wpc _ _ _ _ _ ?_)
  simp only [hm, go_sem, ↓reduceIte]
  refine call_dataP (hP ▸ s_l41PartsP t true hv) rfl rfl ?_
  simp only [hm, go_sem, ↓reduceIte]
  refine run_seq (run_wpc _ _ _ _ _ ?_)
  simp only [hm, go_sem, ↓reduceIte]
  have hal := all_len hv
  have hmany : ∀ i (h : i < t.says.length), ((t.says[i].text.length : Int) + t.size - 1) / t.size = ((manyN t.says[i].text.length t.size.toNat : Nat) : Int) := fun i h => by
    obtain ⟨b1, b2, _⟩ := hsays _ (List.getElem_mem h)
    unfold manyN
    rw [hz, Int.toNat_natCast, Int.natCast_ediv]
    congr 1; omega
  refine run_exit 0 (fun t0 => t0 = ⟨[(1, .ptr 0 0 0), (3, .sl 1 0 (hello t ++ saysPk t t.all).length)], [(1, .row 4 ((hello t ++ saysPk t t.all).map Packet.row)), (0, .var [.i t.fr, .i t.to, .i t.a.tag, .i t.a.window, .i t.a.streams, .i t.a.tsn, .i t.b.tag, .i t.b.window, .i t.b.streams, .i t.b.tsn, .i t.size, .r (.ro none (t.says.map Say.row))])], 2, []⟩) ?_ ?_
  · refine lp_wpc (α := Nat) (fun i => ⟨[(1, .ptr 0 0 0), (3, .sl 1 0 (hello t ++ saysPk t (t.all.take (t.q i))).length), (4, .r (.ro none ((sideL false (t.all.drop (t.q i))).map Data.row))), (5, .r (.ro none ((sideL true (t.all.drop (t.q i))).map Data.row))), (6, .i i)],
        [(1, .row 4 ((hello t ++ saysPk t (t.all.take (t.q i))).map Packet.row)), (0, .var [.i t.fr, .i t.to, .i t.a.tag, .i t.a.window, .i t.a.streams, .i t.a.tsn, .i t.b.tag, .i t.b.window, .i t.b.streams, .i t.b.tsn, .i t.size, .r (.ro none (t.says.map Say.row))])], 2, []⟩)
      (fun i => i ≤ t.says.length) (fun i => t.says.length - i) 0 (Nat.zero_le _) (by rw [talk_q_zero, List.drop_zero, List.take_zero, talk_side hv, talk_side hv]; simp only [saysPk, List.flatMap_nil, List.append_nil, hello, List.length_cons, List.length_nil]; (refine le_ev [] ?_; simp only [hm, go_sem, ↓reduceIte]; first | done | rfl | exact ⟨rfl, rfl⟩)) ?_
    intro i hi
    unfold pc78l1
    rcases Nat.lt_or_ge i t.says.length with hil | hil
    · have hw : IntKind.i64.wrap ((i : Int) + 1) = ((i + 1 : Nat) : Int) := by rw [wrap64 (by omega) (by omega)]; omega
      have hg := getD_map (f := Say.row) hil
      obtain ⟨hq1, hq2⟩ := talk_q hil
      have hqe := talk_q_le (show i + 1 ≤ t.says.length from hil)
      have hsay := hsays _ (List.getElem_mem hil)
      have hmi := hmany i hil
      generalize hsd : t.says[i] = s at hg hq1 hq2 hsay hmi
      obtain ⟨b1, b2, _⟩ := hsay
      simp only [Int.toNat_natCast, hg, Say.row, hm, go_sem, ↓reduceIte]
      repeat' first | refine And.intro ?_ ?_ | intro _ | (refine call_pure (hP ▸ s_l41Many s.text t.size (by omega)) rfl rfl ?_; simp only [Int.toNat_natCast, hg, Say.row, hmi, hm, go_sem, ↓reduceIte])
      all_goals first
        | omega
        | rfl
        | skip
      refine lp_wpc (α := Nat) (fun q => ⟨[(1, .ptr 0 0 0), (3, .sl 1 0 ((hello t).length + (saysPk t (t.all.take q)).length)), (4, .r (.ro none ((sideL false (t.all.drop q)).map Data.row))), (5, .r (.ro none ((sideL true (t.all.drop q)).map Data.row))), (6, .i i), (7, .bo s.byB), (8, .i (t.q (i + 1) - q : Nat))],
          [(1, .row 4 ((hello t ++ saysPk t (t.all.take q)).map Packet.row)), (0, .var [.i t.fr, .i t.to, .i t.a.tag, .i t.a.window, .i t.a.streams, .i t.a.tsn, .i t.b.tag, .i t.b.window, .i t.b.streams, .i t.b.tsn, .i t.size, .r (.ro none (t.says.map Say.row))])], 2, []⟩)
        (fun q => t.q i ≤ q ∧ q ≤ t.q (i + 1)) (fun q => t.q (i + 1) - q) (t.q i) ⟨Nat.le_refl _, by omega⟩ (by rw [hq1, Nat.add_sub_cancel_left]; (refine le_ev [] ?_; simp only [hm, go_sem, ↓reduceIte]; first | done | rfl | exact ⟨rfl, rfl⟩)) ?_
      rintro q ⟨hqa, hqb⟩
      unfold pc78l0
      rcases Nat.lt_or_ge q (t.q (i + 1)) with hql | hql
      · have hqal : q < t.all.length := by omega
        have hdt := side_drop hqal true
        have hdf := side_drop hqal false
        have hpk := saysPk_take (t := t) hqal
        have hbb := hq2 q hqal hqa hql
        have hdok := talkAll_data hv (List.getElem_mem hqal)
        have htsn := (data_ok hdok).1
        have hwk : IntKind.i64.wrap (((t.q (i + 1) - q : Nat) : Int) - 1) = ((t.q (i + 1) - (q + 1) : Nat) : Int) := by rw [wrap64 (by omega) (by omega)]; omega
        have hsl : (saysPk t (t.all.take q)).length = 2 * q := by rw [saysPk_len, List.length_take]; omega
        have hsl2 : (saysPk t (t.all.take (q + 1))).length = 2 * (q + 1) := by rw [saysPk_len, List.length_take]; omega
        generalize hx : t.all[q] = x at hdt hdf hpk hbb hdok htsn
        obtain ⟨xb, d⟩ := x
        simp only at hdt hdf hpk hbb hdok htsn
        have hln : ((t.q (i + 1) - q : Nat) : Int) > 0 := by omega
        have hh : (hello t).length = 4 := rfl
        have hrw : List.take ((hello t).length + (saysPk t (t.all.take q)).length) ((hello t ++ saysPk t (t.all.take q)).map Packet.row) = (hello t ++ saysPk t (t.all.take q)).map Packet.row := List.take_of_length_le (by rw [List.length_map, List.length_append]; exact Nat.le_refl _)
        cases xb
        all_goals
          simp only [if_true, if_false, Bool.false_eq_true, Bool.true_eq_false] at hdt hdf
          simp only [← hbb, hdt, hdf, List.map_cons, Data.row, hwk, Int.toNat_natCast, hm, go_sem, ↓reduceIte]
          repeat' first | refine And.intro ?_ ?_ | intro _
          all_goals first
            | omega
            | rfl
            | (rename_i hr
               first
                 | (rcases List.mem_cons.1 hr with rfl | hr <;> first | rfl | (obtain ⟨_, _, rfl⟩ := List.mem_map.1 hr; rfl))
                 | (rcases hr with rfl | hr <;> first | rfl | (obtain ⟨_, _, rfl⟩ := List.mem_map.1 hr; rfl)))
            | skip
          rw [take_map_len]
          refine call_data (hP ▸ s_specDataPut d hdok) rfl rfl ?_
          simp only [Chunk.av, hm, go_sem, ↓reduceIte]
          refine call_data (hP ▸ s_specSackPut0 d.tsn htsn) rfl rfl ?_
          simp only [Chunk.av, hm, go_sem, ↓reduceIte]
          repeat' first
            | refine And.intro ?_ ?_
            | (refine call_frz 5 rfl rfl (by simp only [go_sem, ↓reduceIte]) ?_; simp only [hm, go_sem, ↓reduceIte]; refine call_data (hP ▸ s_l41Packet t true (dataPut d)) rfl rfl ?_; simp only [onePk_av, hm, go_sem, ↓reduceIte])
            | (refine call_frz 5 rfl rfl (by simp only [go_sem, ↓reduceIte]) ?_; simp only [hm, go_sem, ↓reduceIte]; refine call_data (hP ▸ s_l41Packet t true (sackPut ⟨d.tsn, []⟩)) rfl rfl ?_; simp only [onePk_av, hm, go_sem, ↓reduceIte])
            | (refine call_frz 5 rfl rfl (by simp only [go_sem, ↓reduceIte]) ?_; simp only [hm, go_sem, ↓reduceIte]; refine call_data (hP ▸ s_l41Packet t false (dataPut d)) rfl rfl ?_; simp only [onePk_av, hm, go_sem, ↓reduceIte])
            | (refine call_frz 5 rfl rfl (by simp only [go_sem, ↓reduceIte]) ?_; simp only [hm, go_sem, ↓reduceIte]; refine call_data (hP ▸ s_l41Packet t false (sackPut ⟨d.tsn, []⟩)) rfl rfl ?_; simp only [onePk_av, hm, go_sem, ↓reduceIte])
            | (refine call_frz 6 rfl rfl (by simp only [go_sem, ↓reduceIte]) ?_; simp only [hm, go_sem, ↓reduceIte]; refine call_data (hP ▸ s_l41Packet t true (dataPut d)) rfl rfl ?_; simp only [onePk_av, hm, go_sem, ↓reduceIte])
            | (refine call_frz 6 rfl rfl (by simp only [go_sem, ↓reduceIte]) ?_; simp only [hm, go_sem, ↓reduceIte]; refine call_data (hP ▸ s_l41Packet t true (sackPut ⟨d.tsn, []⟩)) rfl rfl ?_; simp only [onePk_av, hm, go_sem, ↓reduceIte])
            | (refine call_frz 6 rfl rfl (by simp only [go_sem, ↓reduceIte]) ?_; simp only [hm, go_sem, ↓reduceIte]; refine call_data (hP ▸ s_l41Packet t false (dataPut d)) rfl rfl ?_; simp only [onePk_av, hm, go_sem, ↓reduceIte])
            | (refine call_frz 6 rfl rfl (by simp only [go_sem, ↓reduceIte]) ?_; simp only [hm, go_sem, ↓reduceIte]; refine call_data (hP ▸ s_l41Packet t false (sackPut ⟨d.tsn, []⟩)) rfl rfl ?_; simp only [onePk_av, hm, go_sem, ↓reduceIte])
            | (refine call_frz 7 rfl rfl (by simp only [go_sem, ↓reduceIte]) ?_; simp only [hm, go_sem, ↓reduceIte]; refine call_data (hP ▸ s_l41Packet t true (dataPut d)) rfl rfl ?_; simp only [onePk_av, hm, go_sem, ↓reduceIte])
            | (refine call_frz 7 rfl rfl (by simp only [go_sem, ↓reduceIte]) ?_; simp only [hm, go_sem, ↓reduceIte]; refine call_data (hP ▸ s_l41Packet t true (sackPut ⟨d.tsn, []⟩)) rfl rfl ?_; simp only [onePk_av, hm, go_sem, ↓reduceIte])
            | (refine call_frz 7 rfl rfl (by simp only [go_sem, ↓reduceIte]) ?_; simp only [hm, go_sem, ↓reduceIte]; refine call_data (hP ▸ s_l41Packet t false (dataPut d)) rfl rfl ?_; simp only [onePk_av, hm, go_sem, ↓reduceIte])
            | (refine call_frz 7 rfl rfl (by simp only [go_sem, ↓reduceIte]) ?_; simp only [hm, go_sem, ↓reduceIte]; refine call_data (hP ▸ s_l41Packet t false (sackPut ⟨d.tsn, []⟩)) rfl rfl ?_; simp only [onePk_av, hm, go_sem, ↓reduceIte])
          all_goals first
            | omega
            | (refine ⟨q + 1, ⟨by omega, by omega⟩, by omega, ?_⟩
               rw [hrw, hpk, hwk]
               simp only [List.map_append, List.append_assoc, List.map_cons, List.map_nil, onePk_row, List.length_append, List.length_cons, List.length_nil, Nat.add_assoc, Bool.not_true, Bool.not_false]
               (refine le_ev [(0, 0), (1, 1)] ?_; simp only [hm, go_sem, ↓reduceIte]; first | done | rfl | exact ⟨rfl, rfl⟩))
      · have : q = t.q (i + 1) := by omega
        subst this
        simp only [hw, Nat.sub_self, hm, go_sem, ↓reduceIte]
        repeat' first | refine And.intro ?_ ?_ | intro _
        all_goals first
          | omega
          | (refine ⟨i + 1, hil, by omega, ?_⟩; (refine le_ev [] ?_; simp only [hm, go_sem, ↓reduceIte]; first | done | rfl | exact ⟨rfl, rfl⟩))
    · have : i = t.says.length := by omega
      subst this
      rw [talk_q_end, List.take_length]
      simp only [hm, go_sem, ↓reduceIte]
      repeat' first | refine And.intro ?_ ?_ | intro _
      all_goals first
        | omega
        | (refine ⟨_, rfl, ?_⟩; (refine le_ev [] ?_; simp only [hm, go_sem, ↓reduceIte]; first | done | rfl | exact ⟨rfl, rfl⟩))
  rintro t0 rfl
  refine run_wpc _ _ _ _ _ ?_
  simp only [hm, go_sem, ↓reduceIte]
  have hh : (hello t).length = 4 := rfl
  have hsl : (saysPk t t.all).length = 2 * t.all.length := saysPk_len t t.all
  have hrw : List.take ((hello t).length + (saysPk t t.all).length) ((hello t ++ saysPk t t.all).map Packet.row) = (hello t ++ saysPk t t.all).map Packet.row := List.take_of_length_le (by rw [List.length_map, List.length_append]; exact Nat.le_refl _)
  have hpk : talkPk t = hello t ++ saysPk t t.all ++ bye t := by unfold talkPk; rw [if_pos hv]
  refine call_data (hP ▸ s_l41One t false 7) rfl rfl ?_
  simp only [onePk_av, hm, go_sem, ↓reduceIte]
  repeat' first
    | refine And.intro ?_ ?_
    | (refine call_data (hP ▸ s_l41One t true 8) rfl rfl ?_; simp only [onePk_av, hm, go_sem, ↓reduceIte])
    | (refine call_data (hP ▸ s_l41One t false 14) rfl rfl ?_; simp only [onePk_av, hm, go_sem, ↓reduceIte])
  all_goals first
    | omega
    | rfl
    | (rw [hpk, hrw]
       refine ⟨1, ?_, ?_⟩
       · simp [bye, Nat.add_assoc]
       · simp only [go_sem, ↓reduceIte, List.map_append, bye, List.map_cons, List.map_nil, onePk_row])
end Go.Cap

/- Contracts: sums; bytes of chunks and packets, twice. -/
namespace Go.Cap
open Go Go.Proofs
set_option maxRecDepth 100000
set_option linter.unusedSimpArgs false
set_option linter.unusedVariables false
attribute [local irreducible] Call Run Spec Le

theorem sum_step {a b : Int} {x : UInt8} (ha : 0 ≤ a ∧ a < 65536) (hb : 0 ≤ b ∧ b < 65536) : (IntKind.i64.wrap (a + IntKind.i64.wrap (x.toNat : Int))).tmod 65521 = (a + x.toNat) % 65521 ∧ (IntKind.i64.wrap (b + (a + x.toNat) % 65521)).tmod 65521 = (b + (a + x.toNat) % 65521) % 65521 := by
  have hx := byte_lt x
  have h1 : IntKind.i64.wrap (x.toNat : Int) = x.toNat := wrap64 (by omega) (by omega)
  rw [h1, wrap64 (by omega) (by omega), wrap64 (x := b + _) (by omega) (by omega)]
  exact ⟨Int.tmod_eq_emod_of_nonneg (by omega), Int.tmod_eq_emod_of_nonneg (by omega)⟩
theorem getD_eq {s : List UInt8} {i : Nat} (h : i < s.length) : s.getD i 0 = s[i] := by simp [List.getD_eq_getElem?_getD, h]
theorem s_l2Next (s : List UInt8) (hs : s.length ≤ 1000000) : Spec Try.prog 118 0 [] [.i 1, .st s] (fun r _ _ _ => r = .i (sumOf s)) := by
  refine mk118 rfl fun c hP hm => ?_
  unfold pc118
  have t1 : (1 : Int).tmod 65536 = 1 := by decide
  have t2 : IntKind.i64.wrap ((1 : Int).tdiv 65536) = 0 := by decide
  simp only [t1, t2, hm, go_sem, ↓reduceIte]
  refine lp_wpc (α := Nat) (fun i => ⟨[(1, .st s), (5, .i (adl (s.take i) 1 0).1), (6, .i (adl (s.take i) 1 0).2), (7, .i i)], [], 0, []⟩) (fun i => i ≤ s.length) (fun i => s.length - i) 0 (Nat.zero_le _) (by rw [List.take_zero, adl]; (refine le_ev [] ?_; simp only [hm, go_sem, ↓reduceIte]; first | done | rfl | exact ⟨rfl, rfl⟩)) ?_
  intro i hi
  unfold pc118l0
  rcases Nat.lt_or_ge i s.length with hil | hil
  · have hw : IntKind.i64.wrap ((i : Int) + 1) = ((i + 1 : Nat) : Int) := by rw [wrap64 (by omega) (by omega)]; omega
    obtain ⟨r1, r2⟩ := adl_range (s.take i) 1 0 (by omega) (by omega)
    have hst := adl_take hil 1 0
    have hgd := getD_eq hil
    generalize adl (s.take i) 1 0 = ab at r1 r2 hst
    generalize s[i] = x at hst hgd
    obtain ⟨e1, e2⟩ := sum_step (a := ab.1) (b := ab.2) (x := x) (by omega) (by omega)
    simp only [hw, hgd, e1, e2, Int.toNat_natCast, hm, go_sem, ↓reduceIte]
    repeat' first | refine And.intro ?_ ?_ | intro _
    all_goals first
      | omega
      | (refine ⟨i + 1, hil, by omega, ?_⟩; rw [hst]; (refine le_ev [] ?_; simp only [hm, go_sem, ↓reduceIte]; first | done | rfl | exact ⟨rfl, rfl⟩))
  · have : i = s.length := by omega
    subst this
    rw [List.take_length]
    obtain ⟨r1, r2⟩ := adl_range s 1 0 (by omega) (by omega)
    have hf : IntKind.i64.wrap (IntKind.i64.wrap (65536 * (adl s 1 0).2) + (adl s 1 0).1) = sumOf s := by
      unfold sumOf
      rw [wrap64 (x := 65536 * (adl s 1 0).2) (by omega) (by omega), wrap64 (by omega) (by omega)]
    simp only [hf, hm, go_sem, ↓reduceIte]
    repeat' first | refine And.intro ?_ ?_ | intro _
    all_goals first
      | omega
      | rfl
/-- The bytes of a chunk without its end. -/
def chunkHead (c : Chunk) : List UInt8 := [u8 c.kind, u8 c.flags] ++ word (4 + c.body.length : Nat) ++ c.body
theorem chunkHead_len (c : Chunk) : (chunkHead c).length = 4 + c.body.length := by simp [chunkHead, word]; omega
theorem kb {k f : Int} (hk : 0 ≤ k ∧ k ≤ 255) (hf : 0 ≤ f ∧ f ≤ 255) : [byteOf [.n .u8 (IntKind.u8.wrap k)], byteOf [.n .u8 (IntKind.u8.wrap f)]] = [u8 k, u8 f] := by
  simp only [byteOf_u8, wrap_u8]
  rw [Int.emod_eq_of_lt (a := k) (by omega) (by omega), Int.emod_eq_of_lt (a := f) (by omega) (by omega)]
theorem pad_mod {n j : Nat} (hn : n ≤ 60) (hj : j ≤ padN n) : (((4 + n + j : Nat) : Int).tmod 4 = 0) ↔ j = padN n := by
  rw [Int.tmod_eq_emod_of_nonneg (by omega)]
  unfold padN at hj ⊢
  omega
theorem loop_l11Put {cx : Cx} (hP : cx.P = Try.prog) (hm : cx.m = 0) (c : Chunk) (h3 : c.body.length ≤ 60) {s0 : St} {n r : St → Prop} {x : Nat → St → Prop}
    (hs : Le cx s0 ⟨[(3, .st (chunkHead c ++ List.replicate 0 0))], [], 0, []⟩) (hx : x 0 ⟨[(3, .st (chunkPut c))], [], 0, []⟩) : Run cx (.lp pc117l0) s0 n x r := by
  have hhl := chunkHead_len c
  refine run_exit 0 (fun t0 => t0 = ⟨[(3, .st (chunkPut c))], [], 0, []⟩) ?_ (fun t0 h => by rw [h]; exact hx)
  refine lp_wpc (α := Nat) (fun j => ⟨[(3, .st (chunkHead c ++ List.replicate j 0))], [], 0, []⟩) (fun j => j ≤ padN c.body.length) (fun j => padN c.body.length - j) 0 (Nat.zero_le _) hs ?_
  intro j hj
  unfold pc117l0
  have hpm := pad_mod h3 hj
  have hp4 := (padN_lt c.body.length).1
  have hll : ((chunkHead c).length + j) = 4 + c.body.length + j := by omega
  simp only [List.length_append, List.length_replicate, hll, hm, go_sem, ↓reduceIte]
  repeat' first | refine And.intro ?_ ?_ | intro _
  all_goals first
    | omega
    | (rename_i hne
       refine ⟨j + 1, ?_, ?_, ?_⟩
       · have : j ≠ padN c.body.length := fun e => hne (hpm.2 e)
         omega
       · have : j ≠ padN c.body.length := fun e => hne (hpm.2 e)
         omega
       · rw [List.append_assoc, ← List.replicate_succ' (n := j) (a := (0 : UInt8))]
         (refine le_ev [] ?_; simp only [hm, go_sem, ↓reduceIte]; first | done | rfl | exact ⟨rfl, rfl⟩))
    | (rename_i he; rw [hpm.1 he]; refine ⟨_, rfl, ?_⟩; unfold chunkPut chunkHead; (refine le_ev [] ?_; simp only [hm, go_sem, ↓reduceIte]; first | done | rfl | exact ⟨rfl, rfl⟩))
theorem s_l11Put (c : Chunk) (h : chunkB c = true) : Spec Try.prog 117 0 [] [c.av] (fun r _ _ _ => r = .st (chunkPut c)) := by
  have h' := h
  simp only [chunkB, inB, Bool.and_eq_true, decide_eq_true_eq] at h'
  obtain ⟨⟨h1, h2⟩, h3⟩ := h'
  refine mk117 rfl fun cx hP hm => ?_
  unfold pc117 Chunk.av
  have hw : IntKind.i64.wrap (4 + (c.body.length : Int)) = ((4 + c.body.length : Nat) : Int) := by rw [wrap64 (by omega) (by omega)]; omega
  have hk := kb h1 h2
  have hb2 : u8 c.kind :: u8 c.flags :: (word ((4 + c.body.length : Nat) : Int) ++ c.body) = chunkHead c ++ List.replicate 0 0 := by rw [List.replicate_zero, List.append_nil]; rfl
  simp only [hw, hk, hm, go_sem, ↓reduceIte]
  repeat' first
    | refine And.intro ?_ ?_
    | intro _
    | (refine call_pure (hP ▸ s_l1Word ((4 + c.body.length : Nat) : Int) (by omega)) rfl rfl ?_; simp only [hk, word_len, List.length_append, List.length_cons, List.length_nil, List.cons_append, List.nil_append, hm, go_sem, ↓reduceIte])
  all_goals first
    | omega
    | (rename_i hr; rcases hr with rfl | rfl <;> exact ⟨_, rfl⟩)
    | (rw [hw]; done)
    | (refine loop_l11Put hP hm c h3 (by rw [← hb2]; (refine le_ev [] ?_; simp only [hm, go_sem, ↓reduceIte]; first | done | rfl | exact ⟨rfl, rfl⟩)) ?_
       simp only [hm, go_sem, ↓reduceIte])
theorem chunkPut_le {c : Chunk} (h : chunkB c = true) : (chunkPut c).length ≤ 64 := by
  simp only [chunkB, inB, Bool.and_eq_true, decide_eq_true_eq] at h
  rw [chunkPut_len]
  have := padN_lt c.body.length
  unfold padN at *; omega
theorem rest_le : ∀ (l : List Chunk), (∀ c ∈ l, chunkB c = true) → (l.flatMap chunkPut).length ≤ 64 * l.length
  | [], _ => by simp
  | c :: l, h => by
    have h1 := chunkPut_le (h c (by simp))
    have h2 := rest_le l fun x hx => h x (by simp [hx])
    rw [List.flatMap_cons, List.length_append, List.length_cons]; omega
theorem packHead_len (p : Packet) : (packHead p).length = 8 := by simp [packHead, word, long]
end Go.Cap

/- Contracts: bytes of packets (the reference's). -/
namespace Go.Cap
open Go Go.Proofs
set_option maxRecDepth 100000
set_option linter.unusedSimpArgs false
set_option linter.unusedVariables false
attribute [local irreducible] Call Run Spec Le

theorem s_specChunkValid (c : Chunk) : Spec Try.prog 115 0 [] [c.av] (fun r _ _ _ => r = .bo (chunkB c)) := by
  refine mk115 rfl fun cx hP hm => ?_
  unfold pc115 Chunk.av
  simp only [hm, go_sem, ↓reduceIte]
  repeat' first | refine And.intro ?_ ?_ | intro _ | (refine c_l6In hP ?_; simp only [hm, go_sem, ↓reduceIte])
  all_goals (apply bo_inj; rw [Bool.eq_iff_iff]; simp [chunkB, *] <;> omega)
theorem s_specPacketValid (p : Packet) (hl : p.chunks.length ≤ 1000000) : Spec Try.prog 103 0 [] [p.ro] (fun r _ _ _ => r = .bo (packB p)) := by
  refine mr103 rfl fun c hP hm => ?_
  unfold pc103 Packet.ro
  refine run_seq (run_wpc _ _ _ _ _ ?_)
  simp only [hm, go_sem, ↓reduceIte]
  refine run_seq (run_wpc _ _ _ _ _ ?_)
  simp only [hm, go_sem, ↓reduceIte]
  refine run_exit 0 (fun t0 => t0 = ⟨[(1, .ptr 0 0 0)], [(0, .var [.i p.fr, .i p.to, .i p.tag, .r (.ro none (p.chunks.map Chunk.row))])], 1, []⟩ ∧ p.chunks.all chunkB = true) ?_ ?_
  · refine lp_wpc (α := Nat) (fun i => ⟨[(1, .ptr 0 0 0), (3, .i i)], [(0, .var [.i p.fr, .i p.to, .i p.tag, .r (.ro none (p.chunks.map Chunk.row))])], 1, []⟩)
      (fun i => i ≤ p.chunks.length ∧ ∀ c ∈ p.chunks.take i, chunkB c = true) (fun i => p.chunks.length - i) 0 ⟨Nat.zero_le _, fun c hc => by simp at hc⟩ (by (refine le_ev [] ?_; simp only [hm, go_sem, ↓reduceIte]; first | done | rfl | exact ⟨rfl, rfl⟩)) ?_
    rintro i ⟨hi, hI⟩
    unfold pc103l0
    rcases Nat.lt_or_ge i p.chunks.length with hil | hil
    · have hw : IntKind.i64.wrap ((i : Int) + 1) = ((i + 1 : Nat) : Int) := by rw [wrap64 (by omega) (by omega)]; omega
      have hg := getD_map (f := Chunk.row) hil
      have htk := take_get hil
      have hmem := List.getElem_mem hil
      generalize p.chunks[i] = x at hg htk hmem
      have hok : chunkB x = false → AV.r (RV.b false) = AV.bo (packB p) := fun h => by
        apply bo_inj; symm; rw [Bool.eq_false_iff]; intro hh
        simp only [packB, Bool.and_eq_true, List.all_eq_true] at hh
        rw [hh.2 x hmem] at h; cases h
      simp only [hw, Int.toNat_natCast, hg, Chunk.row, hm, go_sem, ↓reduceIte]
      repeat' first | refine And.intro ?_ ?_ | intro _ | (refine call_pure (hP ▸ s_specChunkValid x) rfl rfl ?_; simp only [hw, Int.toNat_natCast, hg, Chunk.row, hm, go_sem, ↓reduceIte])
      all_goals first
        | omega
        | rfl
        | (rename_i hc; exact hok hc)
        | (rename_i hc
           refine ⟨i + 1, ⟨hil, fun y hy => ?_⟩, by omega, ?_⟩
           · rw [htk] at hy
             rcases List.mem_append.1 hy with hy | hy
             · exact hI y hy
             · simp only [List.mem_singleton] at hy; subst hy; exact hc
           · (refine le_ev [] ?_; simp only [hm, go_sem, ↓reduceIte]; first | done | rfl | exact ⟨rfl, rfl⟩))
    · have : i = p.chunks.length := by omega
      subst this
      rw [List.take_length] at hI
      have hall : p.chunks.all chunkB = true := List.all_eq_true.2 hI
      simp only [hm, go_sem, ↓reduceIte]
      repeat' first | refine And.intro ?_ ?_ | intro _
      all_goals first
        | omega
        | (refine ⟨_, ⟨rfl, hall⟩, ?_⟩; (refine le_ev [] ?_; simp only [hm, go_sem, ↓reduceIte]; first | done | rfl | exact ⟨rfl, rfl⟩))
  rintro t0 ⟨rfl, hall⟩
  rw [if_pos rfl]
  refine run_wpc _ _ _ _ _ ?_
  simp only [hm, go_sem, ↓reduceIte]
  repeat' first | refine And.intro ?_ ?_ | intro _ | (refine c_l6In hP ?_; simp only [hm, go_sem, ↓reduceIte])
  all_goals first
    | (apply bo_inj; rw [Bool.eq_iff_iff]; simp [packB, hall, *]; done)
    | (apply bo_inj; rw [Bool.eq_iff_iff]; simp [packB, hall, inB, *]; omega)
    | (apply bo_inj; rw [Bool.eq_iff_iff]; simp only [packB, hall, Bool.and_eq_true, decide_eq_true_eq, *]; simp [inB] at *; omega)
theorem s_l13Sum (s : List UInt8) (h : 12 ≤ s.length ∧ s.length ≤ 10000) : Spec Try.prog 107 0 [] [.st s] (fun r _ _ _ => r = .i (sumOf (s.take 8 ++ [0, 0, 0, 0] ++ s.drop 12))) := by
  refine mk107 rfl fun c hP hm => ?_
  unfold pc107
  have e8 : (8 : Int).toNat = 8 := by decide
  have e12 : (12 : Int).toNat = 12 := by decide
  have et : List.take s.length s = s := List.take_length
  simp only [e8, e12, et, Int.toNat_natCast, List.drop_zero, List.length_append, List.length_take, List.length_drop, List.length_cons, List.length_nil, hm, go_sem, ↓reduceIte]
  repeat' first | refine And.intro ?_ ?_ | intro _
  all_goals first
    | omega
    | (refine call_pure (hP ▸ s_l2Next (s.take 8 ++ [0, 0, 0, 0] ++ s.drop 12) (by simp only [List.length_append, List.length_take, List.length_drop, List.length_cons, List.length_nil]; omega)) rfl rfl ?_
       simp only [e8, e12, et, Int.toNat_natCast, List.drop_zero, List.length_append, List.length_take, List.length_drop, List.length_cons, List.length_nil, hm, go_sem, ↓reduceIte]
       repeat' first | refine And.intro ?_ ?_ | intro _
       all_goals first
         | omega
         | rfl
         )
theorem s_l13Put (p : Packet) (hv : packB p = true) : Spec Try.prog 104 0 [] [p.ro] (fun r _ _ _ => r = .st (packRaw p)) := by
  have h' := hv
  simp only [packB, inB, Bool.and_eq_true, decide_eq_true_eq, List.all_eq_true] at h'
  obtain ⟨⟨⟨⟨⟨h1, h2⟩, h3⟩, h4⟩, h5⟩, h6⟩ := h'
  have hhl := packHead_len p
  have hrl : (packRest p).length ≤ 256 := by have := rest_le p.chunks h6; unfold packRest; omega
  have hsum := sumOf_range (packHead p ++ [0, 0, 0, 0] ++ packRest p)
  refine mr104 rfl fun c hP hm => ?_
  unfold pc104 Packet.ro
  refine run_seq (run_wpc _ _ _ _ _ ?_)
  simp only [hm, go_sem, ↓reduceIte]
  refine run_join (fun t => t = ⟨[(1, .ptr 0 0 0), (3, .st (packHead p ++ [0, 0, 0, 0]))], [(0, .var [.i p.fr, .i p.to, .i p.tag, .r (.ro none (p.chunks.map Chunk.row))])], 1, []⟩) (run_wpc _ _ _ _ _ ?_) ?_
  · simp only [hm, go_sem, ↓reduceIte]
    repeat' first
      | refine And.intro ?_ ?_
      | intro _
      | (refine call_pure (hP ▸ s_l1Word p.fr (by omega)) rfl rfl ?_; simp only [word_len, long_len, List.length_append, hm, go_sem, ↓reduceIte])
      | (refine call_pure (hP ▸ s_l1Word p.to (by omega)) rfl rfl ?_; simp only [word_len, long_len, List.length_append, hm, go_sem, ↓reduceIte])
      | (refine call_pure (hP ▸ s_l1Long p.tag (by omega)) rfl rfl ?_; simp only [word_len, long_len, List.length_append, hm, go_sem, ↓reduceIte])
    all_goals first
      | omega
      | rfl
      | (refine ⟨_, rfl, ?_⟩; unfold packHead; (refine le_ev [] ?_; simp only [hm, go_sem, ↓reduceIte]; first | done | rfl | exact ⟨rfl, rfl⟩))
  rintro t rfl
  refine run_seq (run_wpc _ _ _ _ _ ?_)
  simp only [hm, go_sem, ↓reduceIte]
  refine run_exit 0 (fun t0 => t0 = ⟨[(3, .st (packHead p ++ [0, 0, 0, 0] ++ packRest p))], [], 0, []⟩) ?_ ?_
  · refine lp_wpc (α := Nat) (fun i => ⟨[(1, .ptr 0 0 0), (3, .st (packHead p ++ [0, 0, 0, 0] ++ (p.chunks.take i).flatMap chunkPut)), (4, .i i)], [(0, .var [.i p.fr, .i p.to, .i p.tag, .r (.ro none (p.chunks.map Chunk.row))])], 1, []⟩)
      (fun i => i ≤ p.chunks.length) (fun i => p.chunks.length - i) 0 (Nat.zero_le _) (by rw [List.take_zero, List.flatMap_nil, List.append_nil]; (refine le_ev [] ?_; simp only [hm, go_sem, ↓reduceIte]; first | done | rfl | exact ⟨rfl, rfl⟩)) ?_
    intro i hi
    unfold pc104l0
    rcases Nat.lt_or_ge i p.chunks.length with hil | hil
    · have hw : IntKind.i64.wrap ((i : Int) + 1) = ((i + 1 : Nat) : Int) := by rw [wrap64 (by omega) (by omega)]; omega
      have hg := getD_map (f := Chunk.row) hil
      have htk : (p.chunks.take (i + 1)).flatMap chunkPut = (p.chunks.take i).flatMap chunkPut ++ chunkPut p.chunks[i] := by rw [take_get hil, List.flatMap_append]; simp
      have hc := h6 _ (List.getElem_mem hil)
      have hcl := chunkPut_le hc
      have hrl2 := rest_le (p.chunks.take i) fun c hc => h6 c (List.mem_of_mem_take hc)
      rw [List.length_take] at hrl2
      generalize p.chunks[i] = x at hg htk hc hcl
      simp only [hw, Int.toNat_natCast, hg, Chunk.row, List.length_append, List.length_cons, List.length_nil, hhl, hm, go_sem, ↓reduceIte]
      repeat' first | refine And.intro ?_ ?_ | intro _ | (refine call_pure (hP ▸ s_l11Put x hc) rfl rfl ?_; simp only [hw, Int.toNat_natCast, hg, Chunk.row, List.length_append, List.length_cons, List.length_nil, hhl, hm, go_sem, ↓reduceIte])
      all_goals first
        | omega
        | rfl
        | (refine ⟨i + 1, hil, by omega, ?_⟩; rw [htk, ← List.append_assoc]; (refine le_ev [] ?_; simp only [hm, go_sem, ↓reduceIte]; first | done | rfl | exact ⟨rfl, rfl⟩))
    · have : i = p.chunks.length := by omega
      subst this
      rw [List.take_length]
      simp only [hm, go_sem, ↓reduceIte]
      repeat' first | refine And.intro ?_ ?_ | intro _
      all_goals first
        | omega
        | (refine ⟨_, rfl, ?_⟩; unfold packRest; (refine le_ev [] ?_; simp only [hm, go_sem, ↓reduceIte]; first | done | rfl | exact ⟨rfl, rfl⟩))
  rintro t0 rfl
  rw [if_pos rfl]
  refine run_wpc _ _ _ _ _ ?_
  have hh4 : (packHead p ++ [0, 0, 0, 0]).length = 12 := by rw [List.length_append, hhl]; rfl
  have hol : (packHead p ++ [0, 0, 0, 0] ++ packRest p).length = 12 + (packRest p).length := by rw [List.length_append, hh4]
  have ht8 : (packHead p ++ [0, 0, 0, 0] ++ packRest p).take 8 = packHead p := by rw [List.append_assoc, List.take_left' hhl]
  have hd12 : (packHead p ++ [0, 0, 0, 0] ++ packRest p).drop 12 = packRest p := List.drop_left' hh4
  have hss := s_l13Sum (packHead p ++ [0, 0, 0, 0] ++ packRest p) (by omega)
  rw [ht8, hd12] at hss
  have hraw : packRaw p = packHead p ++ long (sumOf (packHead p ++ [0, 0, 0, 0] ++ packRest p)) ++ packRest p := rfl
  rw [hraw]
  generalize sumOf (packHead p ++ [0, 0, 0, 0] ++ packRest p) = sm at hss hsum
  generalize hout : packHead p ++ [0, 0, 0, 0] ++ packRest p = out at hol ht8 hd12 hss
  have e8 : (8 : Int).toNat = 8 := by decide
  have e12 : (12 : Int).toNat = 12 := by decide
  have et : List.take out.length out = out := List.take_length
  simp only [e8, e12, et, ht8, hd12, Int.toNat_natCast, List.drop_zero, hm, go_sem, ↓reduceIte]
  repeat' first
    | refine And.intro ?_ ?_
    | intro _
    | (refine call_pure (hP ▸ hss) rfl rfl ?_; simp only [e8, e12, et, ht8, hd12, Int.toNat_natCast, List.drop_zero, List.length_append, long_len, hhl, hm, go_sem, ↓reduceIte])
    | (refine call_pure (hP ▸ s_l1Long sm (by omega)) rfl rfl ?_; simp only [e8, e12, et, ht8, hd12, Int.toNat_natCast, List.drop_zero, List.length_append, long_len, hhl, hm, go_sem, ↓reduceIte])
  all_goals first
    | omega
    | rfl
theorem s_specPacketPut (p : Packet) (hl : p.chunks.length ≤ 1000000) : Spec Try.prog 79 0 [] [p.ro] (fun r _ _ _ => r = .st (packPut p)) := by
  refine mk79 rfl fun c hP hm => ?_
  unfold pc79 Packet.ro
  simp only [hm, go_sem, ↓reduceIte]
  refine call_pure (hP ▸ s_specPacketValid p hl) rfl rfl ?_
  unfold packPut
  cases hv : packB p
  · simp only [hm, go_sem, ↓reduceIte]
  · simp only [hm, go_sem, ↓reduceIte]
    refine call_pure (hP ▸ s_l13Put p hv) rfl rfl ?_
    simp only [hm, go_sem, ↓reduceIte]
end Go.Cap

/- Contracts: the reference reads parts, inits and receipts. -/
namespace Go.Cap
open Go Go.Proofs
set_option maxRecDepth 100000
set_option linter.unusedSimpArgs false
set_option linter.unusedVariables false
attribute [local irreducible] Call Run Spec Le

theorem s_l1At (s : List UInt8) (i : Int) (h : 0 ≤ i ∧ i + 1 < s.length) (hs : s.length ≤ 1000000000) : Spec Try.prog 106 0 [] [.st s, .i i] (fun r _ _ _ => r = .i (at2 s i.toNat)) := by
  refine mk106 rfl fun c hP hm => ?_
  unfold pc106
  simp only [hm, go_sem, ↓reduceIte]
  have h1 := byte_lt (s.getD i.toNat 0)
  have e : (i + 1).toNat = i.toNat + 1 := by omega
  have hw : IntKind.i64.wrap (i + 1) = i + 1 := wrap64 (by omega) (by omega)
  have h2 := byte_lt (s.getD (i.toNat + 1) 0)
  have h3 : (0 : Int) ≤ (s.getD i.toNat 0).toNat := Int.natCast_nonneg _
  have h4 : (0 : Int) ≤ (s.getD (i.toNat + 1) 0).toNat := Int.natCast_nonneg _
  unfold at2
  rw [hw, e]
  generalize ((s.getD i.toNat 0).toNat : Int) = a at *
  generalize ((s.getD (i.toNat + 1) 0).toNat : Int) = b at *
  repeat' first | refine And.intro ?_ ?_ | intro _
  all_goals first
    | omega
    | rfl
    | (simp (disch := omega) only [wrap64])
theorem c_l1At {c : Cx} (hP : c.P = Try.prog) {s : List UInt8} {i : Int} (h : 0 ≤ i ∧ i + 1 < s.length) (hs : s.length ≤ 1000000000) {st : St} {K : AV → St → Prop} (hK : K (.i (at2 s i.toNat)) st) : Call c 106 [.st s, .i i] st K :=
  call_pure (hP ▸ s_l1At s i h hs) rfl rfl hK
theorem tdiv_nn {a b : Int} (h : 0 ≤ a) : a.tdiv b = a / b := Int.tdiv_eq_ediv_of_nonneg h
theorem tmod_nn {a b : Int} (h : 0 ≤ a) : a.tmod b = a % b := Int.tmod_eq_emod_of_nonneg h
theorem beq_dec (a b : Int) : (a == b) = decide (a = b) := by by_cases h : a = b <;> simp [h]
theorem inB_iff {a b c : Int} : inB a b c = true ↔ b ≤ a ∧ a ≤ c := by unfold inB; simp
def dataRaw (k : Chunk) : Data := ⟨at2 k.body 0, at2 k.body 2, at2 k.body 4, (IntKind.i64.wrap (k.flags.tdiv 2)).tmod 2 == 1, k.flags.tmod 2 == 1, IntKind.i64.wrap (k.flags.tdiv 4) == 1, List.drop 6 (List.take ((k.body.length : Int)).toNat k.body)⟩
theorem dataOf_eq {k : Chunk} (hf : inB k.flags 0 7 = true) : dataOf k = dataRaw k := by
  obtain ⟨h0, h7⟩ := inB_iff.1 hf
  unfold dataOf dataRaw
  rw [tdiv_nn h0, tmod_nn h0, tdiv_nn h0, wrap64 (by omega) (by omega), wrap64 (by omega) (by omega), tmod_nn (by omega), beq_dec, beq_dec, beq_dec, Int.toNat_natCast, List.take_length]
theorem dataGet_none {k : Chunk} (h : k.kind = 0 → inB k.flags 0 7 = true → 6 ≤ k.body.length → dataB (dataOf k) = true → False) : dataGet k = none := by
  unfold dataGet
  rw [if_neg]
  simp only [Bool.and_eq_true, decide_eq_true_eq]
  rintro ⟨⟨⟨h1, h2⟩, h3⟩, h4⟩
  exact h h1 h2 h3 h4
theorem dataGet_some {k : Chunk} (h1 : k.kind = 0) (h2 : inB k.flags 0 7 = true) (h3 : 6 ≤ k.body.length) (h4 : dataB (dataOf k) = true) : dataGet k = some (dataOf k) := by
  unfold dataGet
  rw [if_pos]
  simp only [Bool.and_eq_true, decide_eq_true_eq]
  exact ⟨⟨⟨h1, h2⟩, h3⟩, h4⟩
theorem s_specDataGet (k : Chunk) (hs : k.body.length ≤ 1000000000) : Spec Try.prog 128 0 [] [k.av] (fun r _ _ _ => r = .tup [((dataGet k).getD noData).av, .bo (dataGet k).isSome]) := by
  refine mk128 rfl fun c hP hm => ?_
  unfold pc128 Chunk.av
  simp only [hm, go_sem, ↓reduceIte]
  repeat' first
    | refine And.intro ?_ ?_
    | intro _
    | (refine c_l6In hP ?_; simp only [hm, go_sem, ↓reduceIte])
    | (refine c_l1At hP (by omega) hs ?_; simp only [hm, go_sem, ↓reduceIte])
    | (refine call_pure (hP ▸ s_l12Data (dataRaw k) (by simp [dataRaw]; omega)) rfl rfl ?_; simp only [hm, go_sem, ↓reduceIte])
  all_goals first
    | omega
    | (rename_i hk hf hl hB; rw [dataGet_some hk hf (by omega) (by rw [dataOf_eq hf]; exact hB), dataOf_eq hf]; rfl)
    | (rename_i hB; rw [dataGet_none (k := k) fun h1 h2 h3 h4 => by rw [dataOf_eq h2, hB] at h4; cases h4]; rfl)
    | (rw [dataGet_none (k := k) fun h1 h2 h3 h4 => by first | omega | (simp_all; done)]; rfl)
theorem initGet_none {k : Chunk} (h : (k.kind = 1 ∨ k.kind = 2) → k.flags = 0 → k.body.length = 10 → initB (initOf k) = true → False) : initGet k = none := by
  unfold initGet
  rw [if_neg]
  simp only [Bool.and_eq_true, decide_eq_true_eq]
  rintro ⟨⟨⟨h1, h2⟩, h3⟩, h4⟩
  exact h h1 h2 h3 h4
theorem initGet_some {k : Chunk} (h1 : k.kind = 1 ∨ k.kind = 2) (h2 : k.flags = 0) (h3 : k.body.length = 10) (h4 : initB (initOf k) = true) : initGet k = some (initOf k) := by
  unfold initGet
  rw [if_pos]
  simp only [Bool.and_eq_true, decide_eq_true_eq]
  exact ⟨⟨⟨h1, h2⟩, h3⟩, h4⟩
theorem at4_wrap (s : List UInt8) (i : Nat) : IntKind.i64.wrap (IntKind.i64.wrap (65536 * at2 s i) + at2 s (i + 2)) = at4 s i := by
  have h1 := at2_range s i
  have h2 := at2_range s (i + 2)
  rw [wrap64 (x := 65536 * at2 s i) (by omega) (by omega), wrap64 (by omega) (by omega)]; rfl
theorem s_specInitGet (k : Chunk) (hs : k.body.length ≤ 1000000000) : Spec Try.prog 93 0 [] [k.av] (fun r _ _ _ => r = .tup [((initGet k).getD noInit).av, .bo (initGet k).isSome]) := by
  refine mk93 rfl fun c hP hm => ?_
  unfold pc93 Chunk.av
  have e4 := at4_wrap k.body 0
  simp only [hm, go_sem, ↓reduceIte]
  repeat' first
    | refine And.intro ?_ ?_
    | intro _
    | (refine c_l6In hP ?_; simp only [hm, go_sem, ↓reduceIte])
    | (refine c_l1At hP (by omega) hs ?_; simp only [hm, go_sem, ↓reduceIte])
    | (simp only [e4, hm, go_sem, ↓reduceIte]; refine call_pure (hP ▸ s_l12Init (initOf k)) rfl rfl ?_; simp only [hm, go_sem, ↓reduceIte])
    | (refine call_pure (hP ▸ s_l12Init ⟨_, _, _, _⟩) rfl rfl ?_; simp only [hm, go_sem, ↓reduceIte])
  all_goals first
    | omega
    | (rename_i hB; rw [initGet_some (k := k) (by omega) (by omega) (by omega) (by exact hB)]; rfl)
    | (rename_i hB; rw [initGet_none (k := k) fun h1 h2 h3 h4 => by rw [hB] at h4; cases h4]; rfl)
    | (rw [initGet_none (k := k) fun h1 h2 h3 h4 => by first | omega | (simp_all; done)]; rfl)
end Go.Cap

/- Contracts: steps of an association, chunk by chunk (the reference's): sides, ends, cookies, inits. -/
namespace Go.Cap
open Go Go.Proofs
set_option maxRecDepth 100000
set_option linter.unusedSimpArgs false
set_option linter.unusedVariables false
attribute [local irreducible] Call Run Spec Le

theorem s_l31Side (a : Assoc) (byB : Bool) : Spec Try.prog 121 0 [] [a.ro, .bo byB] (fun r _ _ _ => r = .tup [(a.own byB).ro, (a.other byB).ro]) := by
  refine mk121 rfl fun c hP hm => ?_
  unfold pc121 Assoc.ro Assoc.av
  cases byB <;> simp only [hm, go_sem, ↓reduceIte] <;> rfl
theorem s_l31With (a : Assoc) (byB : Bool) (s : Side) : Spec Try.prog 127 0 [] [a.ro, .bo byB, s.ro] (fun r _ _ _ => r = (a.put byB s).ro) := by
  refine mk127 rfl fun c hP hm => ?_
  unfold pc127 Assoc.ro Assoc.av Side.ro Side.av
  cases byB <;> simp only [hm, go_sem, ↓reduceIte] <;> rfl
def resA (x : Assoc × Int) : AV := .tup [x.1.ro, .i x.2]
theorem resA_eq {fr to st : Int} {bb : Bool} {A B : Side} {n : Int} {x : Assoc × Int} (h : ((⟨fr, to, st, bb, A, B⟩ : Assoc), n) = x) :
    AV.tup [.agg [.i fr, .i to, .i st, .bo bb, .i A.tag, .i A.streams, .i A.first, .r (.ro none (A.sent.map Data.row)), .i A.acked, .i B.tag, .i B.streams, .i B.first, .r (.ro none (B.sent.map Data.row)), .i B.acked], .i n] = resA x := by subst h; rfl
theorem inB_dec (a b c : Int) : inB a b c = decide (b ≤ a ∧ a ≤ c) := rfl
set_option maxHeartbeats 2000000 in
theorem s_l31End (a : Assoc) (byB : Bool) (k : Int) (hk : k = 6 ∨ k = 7 ∨ k = 8 ∨ k = 14) : Spec Try.prog 125 0 [] [a.ro, .bo byB, .i k] (fun r _ _ _ => r = resA (stepEnd a byB k)) := by
  refine mk125 rfl fun c hP hm => ?_
  unfold pc125
  have hS := s_l31Side a byB
  obtain ⟨fr, to, st, bb, A, B⟩ := a
  unfold Assoc.ro Assoc.av at hS ⊢
  simp only [hm, go_sem, ↓reduceIte]
  refine call_data (hP ▸ hS) (by cases byB <;> rfl) rfl ?_
  unfold stepEnd
  have hown : ∃ o o' : Side, (Assoc.mk fr to st bb A B).own byB = o ∧ (Assoc.mk fr to st bb A B).other byB = o' := ⟨_, _, rfl, rfl⟩
  obtain ⟨o, o', h1, h2⟩ := hown
  rw [h1, h2]
  clear hS h1 h2
  have hdone : ((o.acked == (o.sent.length : Int)) : Bool) = decide (o.acked = o.sent.length) := beq_dec _ _
  generalize decide (o.acked = o.sent.length) = done at *
  simp only [List.length_map, hdone, Side.ro, Side.av, hm, go_sem, ↓reduceIte]
  intro _
  rcases hk with rfl | rfl | rfl | rfl <;> cases byB <;> cases bb <;> cases done
  all_goals
    simp only [inB_dec, hm, go_sem, ↓reduceIte]
    repeat' first
      | refine And.intro ?_ ?_
      | intro _
      | (refine c_l6In hP ?_; simp only [inB_dec, hm, go_sem, ↓reduceIte])
  all_goals first
    | omega
    | (refine resA_eq ?_
       try simp only [inB_dec, Int.reduceEq, if_true, if_false, Bool.and_true, Bool.and_false, Bool.not_true, Bool.not_false, beq_self_eq_true, bne_self_eq_false, Bool.and_eq_true, decide_eq_true_eq, Bool.false_eq_true, reduceCtorEq]
       repeat' split
       all_goals first
         | rfl
         | (exfalso; omega)
         | (exfalso; simp_all; done)
         | (exfalso; simp_all; omega))
theorem s_l31Cookie (a : Assoc) (byB : Bool) (k : Int) : Spec Try.prog 126 0 [] [a.ro, .bo byB, .i k] (fun r _ _ _ => r = resA (stepRest a byB k)) := by
  refine mk126 rfl fun c hP hm => ?_
  obtain ⟨fr, to, st, bb, A, B⟩ := a
  unfold pc126 Assoc.ro Assoc.av stepRest
  cases byB
  all_goals
    simp only [inB_dec, hm, go_sem, ↓reduceIte]
    repeat' first
      | refine And.intro ?_ ?_
      | intro _
      | (refine c_l6In hP ?_; simp only [inB_dec, hm, go_sem, ↓reduceIte])
  all_goals first
    | omega
    | (refine resA_eq ?_
       try simp only [inB_dec, Int.max_def, Bool.true_and, Bool.false_and, Bool.not_true, Bool.not_false, Bool.and_eq_true, decide_eq_true_eq, Bool.false_eq_true, reduceCtorEq, if_true, if_false]
       repeat' split
       all_goals first
         | rfl
         | (exfalso; omega)
         | (exfalso; simp_all; done)
         | (exfalso; simp_all; omega)
         | (simp only [Prod.mk.injEq, Assoc.mk.injEq, true_and, and_true]; omega))
end Go.Cap

/- Contracts: steps of an association (the reference's): inits. -/
namespace Go.Cap
open Go Go.Proofs
set_option maxRecDepth 100000
set_option linter.unusedSimpArgs false
set_option linter.unusedVariables false
attribute [local irreducible] Call Run Spec Le

theorem resA_eq' {fr to st : Int} {bb : Bool} {t1 s1 f1 c1 t2 s2 f2 c2 : Int} {l1 l2 : List Data} {L1 L2 : List (List RV)} {n : Int} {x : Assoc × Int} (h1 : L1 = l1.map Data.row) (h2 : L2 = l2.map Data.row) (h : ((⟨fr, to, st, bb, ⟨t1, s1, f1, l1, c1⟩, ⟨t2, s2, f2, l2, c2⟩⟩ : Assoc), n) = x) :
    AV.tup [.agg [.i fr, .i to, .i st, .bo bb, .i t1, .i s1, .i f1, .r (.ro none L1), .i c1, .i t2, .i s2, .i f2, .r (.ro none L2), .i c2], .i n] = resA x := by subst h; subst h1; subst h2; rfl
set_option maxHeartbeats 2000000 in
theorem s_l31Init (a : Assoc) (byB : Bool) (k : Chunk) (hs : k.body.length ≤ 1000000000) : Spec Try.prog 122 0 [] [a.ro, .bo byB, k.av] (fun r _ _ _ => r = resA (stepInit a byB k)) := by
  have hS := s_l31Side a byB
  have hG := s_specInitGet k hs
  obtain ⟨fr, to, st, bb, A, B⟩ := a
  have hWt := fun x : Init => s_l31With ⟨fr, to, st + 1, bb, A, B⟩ byB ⟨x.tag, x.streams, x.tsn, [], 0⟩
  refine mk122 rfl fun c hP hm => ?_
  unfold pc122
  unfold stepInit
  unfold Assoc.ro Assoc.av at hS ⊢
  unfold Chunk.av at hG ⊢
  simp only [hm, go_sem, ↓reduceIte]
  refine call_data (hP ▸ hG) rfl rfl ?_
  have hw1 : st = 0 ∨ st = 1 → IntKind.i64.wrap (st + 1) = st + 1 := fun h => by rw [wrap64 (by omega) (by omega)]
  obtain ⟨kk, kf, kb⟩ := k
  generalize initGet ⟨kk, kf, kb⟩ = g
  cases g with
  | none =>
    cases byB
    all_goals
      simp only [Option.getD_none, Option.isSome_none, noInit, Init.av, inB_dec, hm, go_sem, ↓reduceIte]
      repeat' first
        | refine And.intro ?_ ?_
        | intro _
        | (refine c_l6In hP ?_; simp only [inB_dec, hm, go_sem, ↓reduceIte])
        | (refine call_data (hP ▸ hS) rfl rfl ?_; simp only [Assoc.own, Assoc.other, Side.ro, Side.av, Bool.false_eq_true, if_false, if_true, inB_dec, hm, go_sem, ↓reduceIte])
    all_goals first
      | omega
      | (refine resA_eq ?_
         try simp only [inB_dec, Bool.and_eq_true, Bool.or_eq_true, decide_eq_true_eq, Bool.not_eq_true', Bool.or_eq_false_iff, Bool.and_eq_false_iff, decide_eq_false_iff_not, Bool.and_true, Bool.and_false, Bool.or_false, Bool.false_or, Bool.not_true, Bool.not_false, Bool.true_and, Bool.false_and]
         repeat' split
         all_goals first
           | rfl
           | (exfalso; omega)
           | (exfalso; simp_all; done)
           | (exfalso; simp_all; omega))
  | some x =>
    cases byB
    all_goals
      simp only [Option.getD_some, Option.isSome_some, Init.av, inB_dec, hm, go_sem, ↓reduceIte]
      repeat' first
        | refine And.intro ?_ ?_
        | intro _
        | (refine c_l6In hP ?_; simp only [inB_dec, hm, go_sem, ↓reduceIte])
        | (refine call_data (hP ▸ hS) rfl rfl ?_; simp only [Assoc.own, Assoc.other, Side.ro, Side.av, Bool.false_eq_true, if_false, if_true, inB_dec, hm, go_sem, ↓reduceIte])
        | (refine call_frz 6 rfl rfl (by simp only [go_sem, ↓reduceIte]) ?_; rw [hw1 (by omega)]; simp only [List.drop_nil, List.take_nil, List.take_zero, hm, go_sem, ↓reduceIte]; refine call_data (hP ▸ hWt x) rfl rfl ?_; simp only [Assoc.put, Assoc.ro, Assoc.av, Bool.false_eq_true, if_false, if_true, inB_dec, hm, go_sem, ↓reduceIte])
    all_goals first
      | omega
      | (refine resA_eq ?_
         try simp only [Assoc.own, inB_dec, Bool.and_eq_true, Bool.or_eq_true, decide_eq_true_eq, Bool.not_eq_true', Bool.or_eq_false_iff, Bool.and_eq_false_iff, decide_eq_false_iff_not, Bool.and_true, Bool.and_false, Bool.or_false, Bool.false_or, Bool.not_true, Bool.not_false, Bool.true_and, Bool.false_and]
         repeat' split
         all_goals first
           | rfl
           | (exfalso; omega)
           | (exfalso; simp_all; done)
           | (exfalso; simp_all; omega))
      | (first | refine resA_eq' (l1 := []) rfl rfl ?_ | refine resA_eq' (l2 := []) rfl rfl ?_
         try simp only [Assoc.own, Assoc.put, inB_dec, Bool.and_eq_true, Bool.or_eq_true, decide_eq_true_eq, Bool.not_eq_true', Bool.or_eq_false_iff, Bool.and_eq_false_iff, decide_eq_false_iff_not, Bool.and_true, Bool.and_false, Bool.or_false, Bool.false_or, Bool.not_true, Bool.not_false, Bool.true_and, Bool.false_and]
         repeat' split
         all_goals first
           | rfl
           | (exfalso; omega)
           | (exfalso; simp_all; done)
           | (exfalso; simp_all; omega))
end Go.Cap

/- Contracts: steps of an association (the reference's): parts and receipts. -/
namespace Go.Cap
open Go Go.Proofs
set_option maxRecDepth 100000
set_option linter.unusedSimpArgs false
set_option linter.unusedVariables false
attribute [local irreducible] Call Run Spec Le

/-- What holds of a side that is watched. -/
def SW (s : Side) : Prop := (0 ≤ s.first ∧ s.first < 65536) ∧ s.sent.length ≤ 12 ∧ ∀ d ∈ s.sent, dataB d = true
def AW (a : Assoc) : Prop := SW a.a ∧ SW a.b
theorem AW.own {a : Assoc} (h : AW a) (b : Bool) : SW (a.own b) := by cases b; exact h.1; exact h.2
theorem AW.other {a : Assoc} (h : AW a) (b : Bool) : SW (a.other b) := by cases b; exact h.2; exact h.1
theorem AW.put {a : Assoc} (h : AW a) (b : Bool) {s : Side} (hs : SW s) : AW (a.put b s) := by cases b; exact ⟨hs, h.2⟩; exact ⟨h.1, hs⟩
theorem dataB_tsn {d : Data} (h : dataB d = true) : 0 ≤ d.tsn ∧ d.tsn < 65536 := by
  simp only [dataB, Bool.and_eq_true, serialB, decide_eq_true_eq] at h; omega
theorem dataB_text {d : Data} (h : dataB d = true) : d.text.length ≤ 20 := by
  simp only [dataB, Bool.and_eq_true, serialB, decide_eq_true_eq] at h; omega
theorem dataGet_ok {k : Chunk} {d : Data} (h : dataGet k = some d) : dataB d = true := by
  unfold dataGet at h
  split at h
  · rename_i hc
    simp only [Bool.and_eq_true] at hc
    cases h; exact hc.2
  · cases h
theorem initGet_ok {k : Chunk} {d : Init} (h : initGet k = some d) : initB d = true := by
  unfold initGet at h
  split at h
  · rename_i hc
    simp only [Bool.and_eq_true] at hc
    cases h; exact hc.2
  · cases h
theorem sackGet_ok {k : Chunk} {d : Sack} (h : sackGet k = some d) : sackB d = true := by
  unfold sackGet at h
  split at h
  · rename_i hc
    simp only [Bool.and_eq_true] at hc
    cases h; exact hc.2
  · cases h
theorem resA_a {a : Assoc} {n : Int} {x : Assoc × Int} (h : (a, n) = x) :
    AV.tup [.agg [.i a.fr, .i a.to, .i a.state, .bo a.byB, .i a.a.tag, .i a.a.streams, .i a.a.first, .r (.ro none (a.a.sent.map Data.row)), .i a.a.acked, .i a.b.tag, .i a.b.streams, .i a.b.first, .r (.ro none (a.b.sent.map Data.row)), .i a.b.acked], .i n] = resA x := by subst h; rfl
theorem s_l31Data0 (a : Assoc) (byB : Bool) (k : Chunk) (hs : k.body.length ≤ 1000000000) (hw : AW a) (hg : dataGet k = none) : Spec Try.prog 123 0 [] [a.ro, .bo byB, k.av] (fun r _ _ _ => r = resA (stepData a byB k)) := by
  have hS := s_l31Side a byB
  have hG := s_specDataGet k hs
  obtain ⟨⟨f0, f1⟩, hl, hd⟩ := hw.own byB
  unfold stepData
  obtain ⟨fr, to, st, bb, A, B⟩ := a
  refine mk123 rfl fun c hP hm => ?_
  unfold pc123
  unfold Assoc.ro Assoc.av at hS ⊢
  unfold Chunk.av at hG ⊢
  simp only [hm, go_sem, ↓reduceIte]
  refine call_data (hP ▸ hG) rfl rfl ?_
  rw [hg]
  simp only [Option.getD_none, Option.isSome_none, noData, Data.av, hm, go_sem, ↓reduceIte]
  refine call_data (hP ▸ hS) (by cases byB <;> rfl) rfl ?_
  generalize (Assoc.mk fr to st bb A B).own byB = o at f0 f1 hl hd
  generalize (Assoc.mk fr to st bb A B).other byB = o'
  clear hS hG hw
  cases byB <;> cases bb
  all_goals
    simp only [Side.ro, Side.av, hm, go_sem, ↓reduceIte]
    repeat' first
      | refine And.intro ?_ ?_
      | intro _
  all_goals first
    | omega
    | (refine resA_a (a := ⟨fr, to, st, _, A, B⟩) ?_
       try simp only [Bool.and_eq_true, Bool.or_eq_true, decide_eq_true_eq, Bool.not_eq_true', Bool.or_eq_false_iff, Bool.and_eq_false_iff, decide_eq_false_iff_not, Bool.and_true, Bool.and_false, Bool.or_false, Bool.false_or, Bool.not_true, Bool.not_false, Bool.true_and, Bool.false_and, bne_self_eq_false, Bool.false_bne, Bool.true_bne]
       repeat' split
       all_goals first
         | rfl
         | (exfalso; omega)
         | (exfalso; simp_all; done)
         | (exfalso; simp_all; omega))
end Go.Cap

/- Contracts: steps of an association (the reference's): parts that are read. -/
namespace Go.Cap
open Go Go.Proofs
set_option maxRecDepth 100000
set_option linter.unusedSimpArgs false
set_option linter.unusedVariables false
attribute [local irreducible] Call Run Spec Le

theorem resA_b {a : Assoc} {b : Bool} {n : Int} {x : Assoc × Int} (hb : a.byB = b) (h : (a, n) = x) :
    AV.tup [.agg [.i a.fr, .i a.to, .i a.state, .bo b, .i a.a.tag, .i a.a.streams, .i a.a.first, .r (.ro none (a.a.sent.map Data.row)), .i a.a.acked, .i a.b.tag, .i a.b.streams, .i a.b.first, .r (.ro none (a.b.sent.map Data.row)), .i a.b.acked], .i n] = resA x := by subst h; subst hb; rfl
set_option maxHeartbeats 2000000 in
theorem s_l31Data1 (a : Assoc) (byB : Bool) (k : Chunk) (d : Data) (hs : k.body.length ≤ 1000000000) (hw : AW a) (hg : dataGet k = some d) : Spec Try.prog 123 0 [] [a.ro, .bo byB, k.av] (fun r _ _ _ => r = resA (stepData a byB k)) := by
  have hS := s_l31Side a byB
  have hG := s_specDataGet k hs
  have hW := fun s => s_l31With a byB s
  obtain ⟨⟨f0, f1⟩, hl, hd⟩ := hw.own byB
  have hdb := dataGet_ok hg
  have ht := dataB_tsn hdb
  unfold stepData
  refine mk123 rfl fun c hP hm => ?_
  unfold pc123
  have hu : a.ro = .agg [.i a.fr, .i a.to, .i a.state, .bo a.byB, .i a.a.tag, .i a.a.streams, .i a.a.first, .r (.ro none (a.a.sent.map Data.row)), .i a.a.acked, .i a.b.tag, .i a.b.streams, .i a.b.first, .r (.ro none (a.b.sent.map Data.row)), .i a.b.acked] := rfl
  rw [hu] at hS hW ⊢
  unfold Chunk.av at hG ⊢
  simp only [hm, go_sem, ↓reduceIte]
  refine call_data (hP ▸ hG) rfl rfl ?_
  rw [hg]
  simp only [Option.getD_some, Option.isSome_some, Data.av, hm, go_sem, ↓reduceIte]
  refine call_data (hP ▸ hS) (by cases byB <;> rfl) rfl ?_
  have hn : IntKind.i64.wrap (0 - (a.own byB).first) = -(a.own byB).first := by rw [wrap64 (by omega) (by omega)]; omega
  have hK := l3_range d.tsn (-(a.own byB).first)
  generalize hoo : a.own byB = o at *
  generalize a.other byB = o' at *
  have hM := s_l31Follows o.sent d (by omega)
  unfold Data.av at hM
  have hA := s_l3Add d.tsn (-o.first) ht
  generalize l3 d.tsn (-o.first) = K at *
  generalize mayB o.sent d = mb at *
  simp only [Side.ro, Side.av, hn, hm, go_sem, ↓reduceIte]
  intro _
  refine call_pure (hP ▸ hA) rfl rfl ?_
  generalize hbb : a.byB = bb at *
  by_cases hk : K < o.sent.length
  · have hil : K.toNat < o.sent.length := by omega
    have hgt := getD_map (f := Data.row) hil
    have hgx : o.sent.getD K.toNat noData = o.sent[K.toNat] := by simp [List.getD_eq_getElem?_getD, hil]
    rw [hgx]
    generalize o.sent[K.toNat] = x at hgt
    have hq : (x.tsn == d.tsn && (x.stream == d.stream && (x.ssn == d.ssn && (x.first == d.first && (x.last == d.last && (x.loose == d.loose && x.text == d.text)))))) = eqData x d := rfl
    clear hS hG hW hM hA
    cases byB <;> cases bb
    all_goals
      simp only [hgt, Data.row, hk, hm, go_sem, ↓reduceIte]
      try simp only [hq, hm, go_sem, ↓reduceIte]
      repeat' first
        | refine And.intro ?_ ?_
        | intro _
    all_goals first
      | omega
      | (refine resA_b hbb ?_
         try simp only [Bool.and_eq_true, Bool.or_eq_true, decide_eq_true_eq, Bool.not_eq_true', Bool.or_eq_false_iff, Bool.and_eq_false_iff, decide_eq_false_iff_not, Bool.and_true, Bool.and_false, Bool.or_false, Bool.false_or, Bool.not_true, Bool.not_false, Bool.true_and, Bool.false_and, bne_self_eq_false, Bool.false_bne, Bool.true_bne]
         repeat' split
         all_goals first
           | rfl
           | (exfalso; omega)
           | (exfalso; simp_all; done)
           | (exfalso; simp_all [eqData]; done)
           | (exfalso; simp_all; omega))
  · have hnl : ((o.sent.map Data.row).length : Int) = o.sent.length := by simp
    clear hS hG
    have hrow : List.take o.sent.length (o.sent.map Data.row) ++ [[.n .i64 d.tsn, .n .i64 d.stream, .n .i64 d.ssn, .b d.first, .b d.last, .b d.loose, .s d.text]] = (o.sent ++ [d]).map Data.row := by
      rw [take_map_len, List.map_append]; rfl
    have htk : List.take (o.sent.length + 1) ((o.sent ++ [d]).map Data.row) = (o.sent ++ [d]).map Data.row := List.take_of_length_le (by simp)
    have hrows : rowsN 7 (o.sent.map Data.row) := fun r hr => by obtain ⟨d, _, rfl⟩ := List.mem_map.1 hr; rfl
    cases byB <;> cases bb
    all_goals
      simp only [hk, hm, go_sem, ↓reduceIte]
      repeat' first
        | refine And.intro ?_ ?_
        | intro _
        | (refine call_pure (hP ▸ hM) rfl rfl ?_; simp only [hrow, hm, go_sem, ↓reduceIte])
        | (refine call_frz 6 rfl rfl (by simp only [List.length_map, List.length_append, List.length_cons, List.length_nil, go_sem, ↓reduceIte]) ?_; simp only [htk, List.drop_zero, hm, go_sem, ↓reduceIte]; refine call_data (hP ▸ hW { o with sent := o.sent ++ [d] }) rfl rfl ?_; simp only [Assoc.ro, Assoc.av, hm, go_sem, ↓reduceIte])
        | (refine call_frz 7 rfl rfl (by simp only [List.length_map, List.length_append, List.length_cons, List.length_nil, go_sem, ↓reduceIte]) ?_; simp only [htk, List.drop_zero, hm, go_sem, ↓reduceIte]; refine call_data (hP ▸ hW { o with sent := o.sent ++ [d] }) rfl rfl ?_; simp only [Assoc.ro, Assoc.av, hm, go_sem, ↓reduceIte])
        | (refine call_frz 8 rfl rfl (by simp only [List.length_map, List.length_append, List.length_cons, List.length_nil, go_sem, ↓reduceIte]) ?_; simp only [htk, List.drop_zero, hm, go_sem, ↓reduceIte]; refine call_data (hP ▸ hW { o with sent := o.sent ++ [d] }) rfl rfl ?_; simp only [Assoc.ro, Assoc.av, hm, go_sem, ↓reduceIte])
        | (refine call_frz 5 rfl rfl (by simp only [List.length_map, List.length_append, List.length_cons, List.length_nil, go_sem, ↓reduceIte]) ?_; simp only [htk, List.drop_zero, hm, go_sem, ↓reduceIte]; refine call_data (hP ▸ hW { o with sent := o.sent ++ [d] }) rfl rfl ?_; simp only [Assoc.ro, Assoc.av, hm, go_sem, ↓reduceIte])
    all_goals first
      | omega
      | exact hrows
      | (rename_i r hr; exact hrows r hr)
      | (simp only [List.length_map]; omega)
      | (refine resA_b hbb ?_
         try simp only [Bool.and_eq_true, Bool.or_eq_true, decide_eq_true_eq, Bool.not_eq_true', Bool.or_eq_false_iff, Bool.and_eq_false_iff, decide_eq_false_iff_not, Bool.and_true, Bool.and_false, Bool.or_false, Bool.false_or, Bool.not_true, Bool.not_false, Bool.true_and, Bool.false_and, bne_self_eq_false, Bool.false_bne, Bool.true_bne]
         repeat' split
         all_goals first
           | rfl
           | (exfalso; omega)
           | (exfalso; simp_all; done)
           | (exfalso; simp_all [eqData]; done)
           | (exfalso; simp_all; omega))
      | (refine resA_a ?_
         try simp only [Bool.and_eq_true, Bool.or_eq_true, decide_eq_true_eq, Bool.not_eq_true', Bool.or_eq_false_iff, Bool.and_eq_false_iff, decide_eq_false_iff_not, Bool.and_true, Bool.and_false, Bool.or_false, Bool.false_or, Bool.not_true, Bool.not_false, Bool.true_and, Bool.false_and, bne_self_eq_false, Bool.false_bne, Bool.true_bne]
         repeat' split
         all_goals first
           | rfl
           | (exfalso; omega)
           | (exfalso; simp_all; done)
           | (exfalso; simp_all; omega))
theorem s_l31Data (a : Assoc) (byB : Bool) (k : Chunk) (hs : k.body.length ≤ 1000000000) (hw : AW a) : Spec Try.prog 123 0 [] [a.ro, .bo byB, k.av] (fun r _ _ _ => r = resA (stepData a byB k)) := by
  cases hg : dataGet k with
  | none => exact s_l31Data0 a byB k hs hw hg
  | some d => exact s_l31Data1 a byB k d hs hw hg
theorem s_l3Diff (a b : Int) (ha : 0 ≤ a ∧ a < 65536) (hb : 0 ≤ b ∧ b < 65536) : Spec Try.prog 130 0 [] [.i a, .i b] (fun r _ _ _ => r = .i (l3d a b)) := by
  refine mk130 rfl fun c hP hm => ?_
  unfold pc130
  have hn : IntKind.i64.wrap (0 - a) = -a := by rw [wrap64 (by omega) (by omega)]; omega
  have hK := l3_range b (-a)
  unfold l3d
  simp only [hn, hm, go_sem, ↓reduceIte]
  refine call_pure (hP ▸ s_l3Add b (-a) hb) rfl rfl ?_
  generalize l3 b (-a) = K at *
  have hw : IntKind.i64.wrap (K - 65536) = K - 65536 := wrap64 (by omega) (by omega)
  simp only [hw, hm, go_sem, ↓reduceIte]
  repeat' first
    | refine And.intro ?_ ?_
    | intro _
  all_goals first
    | omega
    | (rw [if_pos (by omega)])
    | (rw [if_neg (by omega)])
def noSack : Sack := ⟨0, []⟩
end Go.Cap

/- Contracts: the reference reads receipts, and takes them. -/
namespace Go.Cap
open Go Go.Proofs
set_option maxRecDepth 100000
set_option linter.unusedSimpArgs false
set_option linter.unusedVariables false
attribute [local irreducible] Call Run Spec Le

theorem gapsOf_range : ∀ l : List UInt8, gapsOf l = (List.range (l.length / 4)).map fun i => (⟨at2 l (4 * i), at2 l (4 * i + 2)⟩ : Gap)
  | a :: b :: c :: d :: l => by
    rw [gapsOf, gapsOf_range l]
    have e : (a :: b :: c :: d :: l).length / 4 = l.length / 4 + 1 := by simp only [List.length_cons]; omega
    rw [e, List.range_succ_eq_map, List.map_cons, List.map_map]
    refine congr (congrArg List.cons rfl) ?_
    refine List.map_congr_left fun i _ => ?_
    show (⟨at2 l (4 * i), at2 l (4 * i + 2)⟩ : Gap) = ⟨at2 (a :: b :: c :: d :: l) (4 * (i + 1)), at2 (a :: b :: c :: d :: l) (4 * (i + 1) + 2)⟩
    have e1 : 4 * (i + 1) = 4 * i + 1 + 1 + 1 + 1 := by omega
    have e2 : 4 * (i + 1) + 2 = (4 * i + 2) + 1 + 1 + 1 + 1 := by omega
    rw [e2, e1]
    unfold at2
    have e3 : 4 * i + 1 + 1 + 1 + 1 + 1 = (4 * i + 1) + 1 + 1 + 1 + 1 := by omega
    have e4 : 4 * i + 2 + 1 + 1 + 1 + 1 + 1 = (4 * i + 2 + 1) + 1 + 1 + 1 + 1 := by omega
    rw [e3, e4]
    simp only [List.getD_cons_succ]
  | [] => by simp [gapsOf]
  | [_] => by simp [gapsOf]
  | [_, _] => by simp [gapsOf]
  | [_, _, _] => by simp [gapsOf]
theorem at2_drop (s : List UInt8) (k i : Nat) : at2 (s.drop k) i = at2 s (k + i) := by
  unfold at2
  simp only [List.getD_eq_getElem?_getD, List.getElem?_drop, Nat.add_assoc]
def gapAt (s : List UInt8) (i : Nat) : Gap := ⟨at2 s (2 + 4 * i), at2 s (2 + 4 * i + 2)⟩
theorem gapsOf_body (s : List UInt8) : gapsOf (s.drop 2) = (List.range ((s.length - 2) / 4)).map (gapAt s) := by
  rw [gapsOf_range, List.length_drop]
  refine List.map_congr_left fun i _ => ?_
  simp only [gapAt, at2_drop, Nat.add_assoc]
theorem range_map_take {α : Type} (f : Nat → α) {n i : Nat} (h : i < n) : ((List.range n).map f).take (i + 1) = ((List.range n).map f).take i ++ [f i] := by
  rw [List.take_add_one]
  simp [h]
/-- What SackGet gives: the zero value, or a receipt with a block of its own. -/
theorem s_specSackGet0 (k : Chunk) (hs : k.body.length ≤ 1000000) : Spec Try.prog 129 0 [] [k.av] (fun r hp _ _ => (sackGet k = none ∧ r = .tup [.agg [.i 0, .r .nil], .bo false]) ∨ ∃ x b, sackGet k = some x ∧ r = .tup [.agg [.i x.cum, .sl b 0 x.gaps.length], .bo true] ∧ hget hp b = some (.row 2 (x.gaps.map Gap.row))) := by
  have hnone : (k.kind = 3 → k.flags = 0 → k.body.length % 4 = 2 → sackB (sackOf k) = true → False) → sackGet k = none := fun h => by
    unfold sackGet
    rw [if_neg]
    simp only [Bool.and_eq_true, decide_eq_true_eq]
    rintro ⟨⟨⟨h1, h2⟩, h3⟩, h4⟩
    exact h h1 h2 h3 h4
  have hsome : k.kind = 3 → k.flags = 0 → k.body.length % 4 = 2 → sackB (sackOf k) = true → sackGet k = some (sackOf k) := fun h1 h2 h3 h4 => by
    unfold sackGet
    rw [if_pos]
    simp only [Bool.and_eq_true, decide_eq_true_eq]
    exact ⟨⟨⟨h1, h2⟩, h3⟩, h4⟩
  refine mr129 rfl fun c hP hm => ?_
  unfold pc129 Chunk.av
  refine run_seq (run_wpc _ _ _ _ _ ?_)
  simp only [hm, go_sem, ↓reduceIte]
  refine run_seq (run_wpc _ _ _ _ _ ?_)
  simp only [hm, go_sem, ↓reduceIte]
  rw [tmod_nn (by omega)]
  repeat' first | refine And.intro ?_ ?_ | intro _
  all_goals first
    | (left; refine hnone fun h1 h2 h3 h4 => ?_; omega)
    | (left; refine ⟨hnone fun h1 h2 h3 h4 => ?_, rfl⟩; omega)
    | skip
  rename_i hk hf hmod
  refine run_seq (run_wpc _ _ _ _ _ ?_)
  simp only [hm, go_sem, ↓reduceIte]
  refine c_l1At hP (by omega) (by omega) ?_
  simp only [hm, go_sem, ↓reduceIte]
  refine run_seq (run_wpc _ _ _ _ _ ?_)
  simp only [hm, go_sem, ↓reduceIte]
  have hgs : (sackOf k).gaps = (List.range ((k.body.length - 2) / 4)).map (gapAt k.body) := gapsOf_body k.body
  have hlen : (sackOf k).gaps.length = (k.body.length - 2) / 4 := by rw [hgs]; simp
  have hcum : (sackOf k).cum = at2 k.body 0 := rfl
  have hnn : (k.body.length - 2) / 4 * 4 + 2 = k.body.length := by omega
  generalize hn : (k.body.length - 2) / 4 = n at hlen hgs hnn
  refine run_exit 0 (fun t0 => t0 = ⟨[(2, .ptr 1 0 0), (4, .ptr 3 0 0)], [(1, .var [.i 0, .r .nil]), (3, .var [.i (at2 k.body 0), .sl 2 0 n]), (2, .row 2 ((sackOf k).gaps.map Gap.row))], 4, []⟩) ?_ ?_
  · refine lp_wpc (α := Nat) (fun i => ⟨[(1, .ptr 0 0 0), (2, .ptr 1 0 0), (4, .ptr 3 0 0), (5, .i (2 + 4 * (i : Int)))], [(0, .var [.i k.kind, .i k.flags, .st k.body]), (1, .var [.i 0, .r .nil]), (3, .var [.i (at2 k.body 0), .sl 2 0 i]), (2, .row 2 (((sackOf k).gaps.take i).map Gap.row))], 4, []⟩)
      (fun i => i ≤ n) (fun i => n - i) 0 (Nat.zero_le _) (by rw [List.take_zero]; simp only [List.map_nil]; (refine le_ev [] ?_; simp only [hm, go_sem, ↓reduceIte]; first | done | rfl | exact ⟨rfl, rfl⟩)) ?_
    intro i hi
    unfold pc129l0
    rcases Nat.lt_or_ge i n with hil | hil
    · have htk := range_map_take (gapAt k.body) hil
      rw [← hgs] at htk
      have hl : ((sackOf k).gaps.take i).length = i := by rw [List.length_take]; omega
      generalize (sackOf k).gaps.take i = gs at htk hl
      have hrt : List.take i (gs.map Gap.row) = gs.map Gap.row := List.take_of_length_le (by simp; omega)
      have hw4 : IntKind.i64.wrap (2 + 4 * (i : Int) + 4) = 2 + 4 * ((i + 1 : Nat) : Int) := by rw [wrap64 (by omega) (by omega)]; omega
      have hw2 : IntKind.i64.wrap (2 + 4 * (i : Int) + 2) = 2 + 4 * (i : Int) + 2 := wrap64 (by omega) (by omega)
      have e1 : (2 + 4 * (i : Int)).toNat = 2 + 4 * i := by omega
      have e2 : (2 + 4 * (i : Int) + 2).toNat = 2 + 4 * i + 2 := by omega
      simp only [hw4, hw2, hrt, hm, go_sem, ↓reduceIte]
      repeat' first
        | refine And.intro ?_ ?_
        | intro _
        | (refine c_l1At hP (by omega) (by omega) ?_; simp only [hw4, hw2, hrt, e1, e2, hm, go_sem, ↓reduceIte])
      all_goals first
        | omega
        | (simp only [List.length_map]; omega)
        | (refine ⟨i + 1, hil, by omega, ?_⟩
           rw [htk]
           simp only [List.map_append, List.map_cons, List.map_nil, Gap.row, gapAt]
           (refine le_ev [] ?_; simp only [hm, go_sem, ↓reduceIte]; first | done | rfl | exact ⟨rfl, rfl⟩))
    · have : i = n := by omega
      subst this
      have htl : (sackOf k).gaps.take i = (sackOf k).gaps := by rw [← hlen, List.take_length]
      rw [htl]
      simp only [hm, go_sem, ↓reduceIte]
      repeat' first | refine And.intro ?_ ?_ | intro _
      all_goals first
        | omega
        | (refine ⟨_, rfl, ?_⟩; (refine le_ev [] ?_; simp only [hm, go_sem, ↓reduceIte]; first | done | rfl | exact ⟨rfl, rfl⟩))
  rintro t0 rfl
  have hcs := s_l12Sack (sackOf k) (by omega)
  unfold Sack.ro at hcs
  rw [← hcum, ← hlen]
  generalize hso : sackOf k = so at *
  refine run_wpc _ _ _ _ _ ?_
  simp only [hm, go_sem, ↓reduceIte]
  refine call_flat (hP ▸ hcs) rfl (.cons (vw_agg (.cons (vw_self _ _ rfl) (.cons (Vw.full rfl (by simp)) .nil))) .nil) ?_
  simp only [hm, go_sem, ↓reduceIte]
  repeat' first | refine And.intro ?_ ?_ | intro _
  all_goals first
    | omega
    | (rename_i hb; left; refine ⟨hnone fun h1 h2 h3 h4 => ?_, rfl⟩; rw [hb] at h4; cases h4)
    | (rename_i hb; left; refine hnone fun h1 h2 h3 h4 => ?_; rw [hb] at h4; cases h4)
    | (rename_i hb; right; exact ⟨so, 2, hsome (by omega) (by omega) (by omega) hb, rfl, rfl⟩)
theorem s_specSackGet (k : Chunk) (hs : k.body.length ≤ 1000000) : Spec Try.prog 129 0 [] [k.av] (Plain fun r => r = .tup [((sackGet k).getD noSack).ro, .bo (sackGet k).isSome]) := by
  refine Spec.le (s_specSackGet0 k hs) fun r hp nx gs h => ⟨_, [], 0, [], ⟨rfl, rfl, rfl, rfl⟩, fun c hc => ?_⟩
  rcases h with ⟨h, rfl⟩ | ⟨x, b, h, rfl, hb⟩
  · rw [h]
    refine Le.trans (t := ⟨[(0, .tup [.agg [.i 0, .r .nil], .bo false])], [], 0, []⟩) (le_ev [] (by simp only [hc, go_sem, ↓reduceIte])) le_denil
  · rw [h]
    refine Le.trans (t := ⟨[(0, .tup [.agg [.i x.cum, .sl 0 0 x.gaps.length], .bo true])], [(0, .row 2 (x.gaps.map Gap.row))], 1, []⟩) (le_ev [(0, b)] (by simp only [hc, go_sem, ↓reduceIte, hb])) ?_
    refine Le.trans (le_frz 0 rfl (by simp only [List.length_map, go_sem, ↓reduceIte]) (by simp only [go_sem, ↓reduceIte])) ?_
    simp only [take_map_len, List.drop_zero, go_sem, ↓reduceIte]
    exact le_ev [] (by simp only [hc, Option.getD_some, Option.isSome_some, Sack.ro, go_sem, ↓reduceIte])
theorem lastTo_eq {l : List Gap} (h : 0 < l.length) : lastTo l = (l[l.length - 1]'(by omega)).to := by
  unfold lastTo
  rw [List.getLast?_eq_getElem?, List.getElem?_eq_getElem (by omega)]
theorem gapsB_to : ∀ {l : List Gap} {last : Int}, 0 ≤ last → gapsB last l = true → ∀ g ∈ l, 0 ≤ g.to ∧ g.to ≤ 16
  | [], _, _, _, g, hg => by cases hg
  | x :: l, last, h0, h, g, hg => by
    simp only [gapsB, Bool.and_eq_true, decide_eq_true_eq] at h
    rcases List.mem_cons.1 hg with rfl | hg
    · omega
    · exact gapsB_to (l := l) (last := x.to) (by omega) h.2 g hg
end Go.Cap

/- Contracts: the reference takes receipts. -/
namespace Go.Cap
open Go Go.Proofs
set_option maxRecDepth 100000
set_option linter.unusedSimpArgs false
set_option linter.unusedVariables false
attribute [local irreducible] Call Run Spec Le

theorem s_l31Sack (a : Assoc) (byB : Bool) (k : Chunk) (hs : k.body.length ≤ 1000000) (hw : AW a) : Spec Try.prog 124 0 [] [a.ro, .bo byB, k.av] (fun r _ _ _ => r = resA (stepSack a byB k)) := by
  have hS := s_l31Side a byB
  have hG := s_specSackGet k hs
  have hW := fun s => s_l31With a (!byB) s
  obtain ⟨⟨f0, f1⟩, hl, hd⟩ := hw.other byB
  refine mr124 rfl fun c hP hm => ?_
  unfold pc124
  have hu : a.ro = .agg [.i a.fr, .i a.to, .i a.state, .bo a.byB, .i a.a.tag, .i a.a.streams, .i a.a.first, .r (.ro none (a.a.sent.map Data.row)), .i a.a.acked, .i a.b.tag, .i a.b.streams, .i a.b.first, .r (.ro none (a.b.sent.map Data.row)), .i a.b.acked] := rfl
  rw [hu] at hS hW ⊢
  unfold Chunk.av at hG ⊢
  unfold stepSack
  refine run_seq (run_wpc _ _ _ _ _ ?_)
  simp only [hm, go_sem, ↓reduceIte]
  refine run_seq (run_wpc _ _ _ _ _ ?_)
  simp only [hm, go_sem, ↓reduceIte]
  refine call_dataP (hP ▸ hG) (by cases sackGet k <;> rfl) rfl ?_
  cases hg : sackGet k with
  | none =>
    simp only [Option.getD_none, Option.isSome_none, noSack, Sack.ro, List.map_nil, hm, go_sem, ↓reduceIte]
    refine run_seq (run_wpc _ _ _ _ _ ?_)
    simp only [hm, go_sem, ↓reduceIte]
    refine call_data (hP ▸ hS) (by cases byB <;> rfl) rfl ?_
    generalize a.own byB = o'
    generalize a.other byB = o at f0 f1 hl hd
    simp only [Side.ro, Side.av, hm, go_sem, ↓reduceIte]
    refine run_wpc _ _ _ _ _ ?_
    simp only [inB_dec, hm, go_sem, ↓reduceIte]
    repeat' first
      | refine And.intro ?_ ?_
      | intro _
      | (refine c_l6In hP ?_; simp only [inB_dec, hm, go_sem, ↓reduceIte])
    all_goals first
      | omega
      | (refine resA_a ?_
         try simp only [inB_dec, Bool.and_eq_true, Bool.or_eq_true, decide_eq_true_eq, Bool.not_eq_true', Bool.or_eq_false_iff, Bool.and_eq_false_iff, decide_eq_false_iff_not, Bool.and_true, Bool.and_false, Bool.or_false, Bool.false_or, Bool.not_true, Bool.not_false, Bool.true_and, Bool.false_and, bne_self_eq_false, Bool.false_bne, Bool.true_bne]
         repeat' split
         all_goals first
           | rfl
           | (exfalso; omega)
           | (exfalso; simp_all; done)
           | (exfalso; simp_all; omega)
           | (simp only [Int.max_def]; split <;> first | rfl | (exfalso; omega) | (congr 3; omega)))

  | some x =>
    have hx := sackGet_ok hg
    simp only [sackB, serialB, Bool.and_eq_true, decide_eq_true_eq] at hx
    have hto := gapsB_to (by decide) hx.2
    simp only [Option.getD_some, Option.isSome_some, Sack.ro, hm, go_sem, ↓reduceIte]
    refine run_seq (run_wpc _ _ _ _ _ ?_)
    simp only [hm, go_sem, ↓reduceIte]
    refine call_data (hP ▸ hS) (by cases byB <;> rfl) rfl ?_
    generalize a.own byB = o'
    generalize hoo : a.other byB = o at *
    have hr := l3_range o.first (-1)
    have hA := s_l3Add o.first (-1) ⟨f0, f1⟩
    have hD := s_l3Diff (l3 o.first (-1)) x.cum hr (by omega)
    have hE : -32768 ≤ l3d (l3 o.first (-1)) x.cum ∧ l3d (l3 o.first (-1)) x.cum ≤ 32768 := by
      have := l3_range x.cum (-(l3 o.first (-1)))
      unfold l3d; split <;> omega
    generalize l3d (l3 o.first (-1)) x.cum = e at *
    simp only [Side.ro, Side.av, hm, go_sem, ↓reduceIte]
    refine run_seq (run_wpc _ _ _ _ _ ?_)
    simp only [inB_dec, hm, go_sem, ↓reduceIte]
    refine c_l6In hP ?_
    simp only [inB_dec, hm, go_sem, ↓reduceIte]
    refine ⟨fun hst => ?_, fun hst => ?_⟩
    · have hstp : ¬ (4 ≤ a.state ∧ a.state ≤ 5) := by first | exact hst | omega
      refine resA_a ?_
      rw [if_pos (by simp [inB_dec]; omega)]
    refine run_seq (run_wpc _ _ _ _ _ ?_)
    simp only [hm, go_sem, ↓reduceIte]
    refine call_pure (hP ▸ hA) rfl rfl ?_
    simp only [hm, go_sem, ↓reduceIte]
    refine call_pure (hP ▸ hD) rfl rfl ?_
    simp only [hm, go_sem, ↓reduceIte]
    rw [if_neg (by omega)]
    have hst' : ¬ ¬ (4 ≤ a.state ∧ a.state ≤ 5) := by first | exact hst | omega
    clear hA hD hG hS hd hg
    refine run_seq (run_wpc _ _ _ _ _ ?_)
    simp only [hm, go_sem, ↓reduceIte]
    refine run_join (fun t => t = ⟨[(1, .bo byB), (3, .ptr 0 0 0), (6, .ptr 2 0 0), (11, .ptr 5 0 0), (12, .i e), (13, .i (e + lastTo x.gaps))], [(5, .var [.i o.tag, .i o.streams, .i o.first, .r (.ro none (o.sent.map Data.row)), .i o.acked]), (2, .var [.i 0, .i 0, .i 0, .bo false, .i 0, .i 0, .i 0, .r .nil, .i 0, .i 0, .i 0, .i 0, .r .nil, .i 0]), (0, .var [.i a.fr, .i a.to, .i a.state, .bo a.byB, .i a.a.tag, .i a.a.streams, .i a.a.first, .r (.ro none (a.a.sent.map Data.row)), .i a.a.acked, .i a.b.tag, .i a.b.streams, .i a.b.first, .r (.ro none (a.b.sent.map Data.row)), .i a.b.acked])], 6, []⟩) (run_wpc _ _ _ _ _ ?_) ?_
    · rcases Nat.eq_zero_or_pos x.gaps.length with h0 | h0
      · have hgn : x.gaps = [] := List.length_eq_zero_iff.1 h0
        have hlt : lastTo x.gaps = 0 := by rw [hgn]; rfl
        rw [hlt, hgn]
        simp only [List.map_nil, List.length_nil, hm, go_sem, ↓reduceIte]
        repeat' first | refine And.intro ?_ ?_ | intro _
        all_goals first
          | omega
          | (refine ⟨_, rfl, ?_⟩; rw [Int.add_zero]; (refine le_ev [] ?_; simp only [hm, go_sem, ↓reduceIte]; first | done | rfl | exact ⟨rfl, rfl⟩))
      · have hil : x.gaps.length - 1 < x.gaps.length := by omega
        have hgt := getD_map (f := Gap.row) hil
        have hwl : IntKind.i64.wrap ((x.gaps.length : Int) - 1) = ((x.gaps.length - 1 : Nat) : Int) := by rw [wrap64 (by omega) (by omega)]; omega
        have hlt := lastTo_eq h0
        have hmem := hto _ (List.getElem_mem hil)
        generalize x.gaps[x.gaps.length - 1] = g at *
        rw [hlt]
        have hwe : IntKind.i64.wrap (e + g.to) = e + g.to := wrap64 (by omega) (by omega)
        simp only [hwl, hwe, hgt, Int.toNat_natCast, List.length_map, Gap.row, hm, go_sem, ↓reduceIte]
        repeat' first | refine And.intro ?_ ?_ | intro _
        all_goals first
          | omega
          | (refine ⟨_, rfl, ?_⟩; (refine le_ev [] ?_; simp only [hm, go_sem, ↓reduceIte]; first | done | rfl | exact ⟨rfl, rfl⟩))
    rintro t rfl
    generalize e + lastTo x.gaps = mo
    have hmx : (if e > o.acked then e else o.acked) = max o.acked e := by rw [Int.max_def]; split <;> split <;> omega
    refine run_wpc _ _ _ _ _ ?_
    cases byB
    all_goals
      simp only [Bool.not_true, Bool.not_false] at hW
      simp only [hmx, inB_dec, hm, go_sem, ↓reduceIte]
      repeat' first
        | refine And.intro ?_ ?_
        | intro _
        | (refine c_l6In hP ?_; simp only [hmx, inB_dec, hm, go_sem, ↓reduceIte])
        | (refine call_data (hP ▸ hW { o with acked := max o.acked e }) rfl rfl ?_; simp only [Assoc.ro, Assoc.av, hm, go_sem, ↓reduceIte])
    all_goals first
      | omega
      | (refine resA_a ?_
         try simp only [inB_dec, Bool.and_eq_true, Bool.or_eq_true, decide_eq_true_eq, Bool.not_eq_true', Bool.or_eq_false_iff, Bool.and_eq_false_iff, decide_eq_false_iff_not, Bool.and_true, Bool.and_false, Bool.or_false, Bool.false_or, Bool.not_true, Bool.not_false, Bool.true_and, Bool.false_and, bne_self_eq_false, Bool.false_bne, Bool.true_bne]
         repeat' split
         all_goals first
           | rfl
           | (exfalso; omega)
           | (exfalso; simp_all; done)
           | (exfalso; simp_all; omega))
end Go.Cap

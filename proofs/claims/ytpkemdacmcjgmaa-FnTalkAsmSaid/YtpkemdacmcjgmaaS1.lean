import Derived.Test.YtpkemdacmcjgmaaP3
/- What a side said: the plain law, and the contracts of TalkSaid. -/
namespace Go.Cap
open Go Go.Proofs
set_option maxRecDepth 100000
set_option linter.unusedSimpArgs false
set_option linter.unusedVariables false
attribute [local irreducible] Call Run Spec Le

structure Msg where
  stream : Int
  ssn : Int
  loose : Bool
  text : List UInt8
def Msg.row (d : Msg) : List RV := [.n .i64 d.stream, .n .i64 d.ssn, .b d.loose, .s d.text]
def Msg.av (d : Msg) : AV := .agg [.i d.stream, .i d.ssn, .bo d.loose, .st d.text]
/-- The messages that parts make up, and the text that is still open. -/
def saidStep (x : List Msg × List UInt8) (d : Data) : List Msg × List UInt8 :=
  if d.last then (x.1 ++ [⟨d.stream, d.ssn, d.loose, x.2 ++ d.text⟩], []) else (x.1, x.2 ++ d.text)
def saidSt (l : List Data) : List Msg × List UInt8 := l.foldl saidStep ([], [])
def said (l : List Data) : List Msg := (saidSt l).1
theorem saidSt_app (a b : List Data) : saidSt (a ++ b) = b.foldl saidStep (saidSt a) := by unfold saidSt; rw [List.foldl_append]
/-- The parts of one message, one after the other. -/
theorem said_chunks {z : Nat} (hz : 1 ≤ z) {tsn ssn : Int} {s : Say} (ms : List Msg) : ∀ n, n < manyN s.text.length z → ((List.range n).map (part z tsn ssn s)).foldl saidStep (ms, []) = (ms, s.text.take (n * z))
  | 0, _ => by simp
  | n + 1, h => by
    have ih := said_chunks hz (tsn := tsn) (ssn := ssn) (s := s) ms n (by omega)
    have h1 := (many_lt hz).1 h
    rw [List.range_succ, List.map_append, List.foldl_append, ih]
    have hl : (part z tsn ssn s n).last = false := by simp only [part, decide_eq_false_iff_not]; omega
    simp only [List.map_cons, List.map_nil, List.foldl_cons, List.foldl_nil, saidStep, hl, Bool.false_eq_true, if_false]
    have hadd : (n + 1) * z = n * z + z := by rw [Nat.add_mul, Nat.one_mul]
    have e : s.text.take (n * z) = (s.text.take ((n + 1) * z)).take (n * z) := by rw [List.take_take, Nat.min_eq_left (by omega)]
    rw [e]
    simp only [part, List.take_append_drop]
theorem said_next {z : Nat} (hz : 1 ≤ z) {tsn ssn : Int} {s : Say} (ms : List Msg) (h1 : 1 ≤ s.text.length) : (chunks z tsn ssn s).foldl saidStep (ms, []) = (ms ++ [⟨s.stream, ssn, s.loose, s.text⟩], []) := by
  have hm : 0 < manyN s.text.length z := (many_lt hz).2 (by omega)
  obtain ⟨m, hmm⟩ : ∃ m, manyN s.text.length z = m + 1 := ⟨manyN s.text.length z - 1, by omega⟩
  unfold chunks
  rw [hmm, List.range_succ, List.map_append, List.foldl_append, said_chunks hz ms m (by omega)]
  have hn : ¬ (m + 1) * z < s.text.length := fun h => by have := (many_lt hz).2 h; omega
  have hl : (part z tsn ssn s m).last = true := by simp only [part, decide_eq_true_eq]; omega
  simp only [List.map_cons, List.map_nil, List.foldl_cons, List.foldl_nil, saidStep, hl, if_true]
  have hadd : (m + 1) * z = m * z + z := by rw [Nat.add_mul, Nat.one_mul]
  have e : s.text.take (m * z) = (s.text.take ((m + 1) * z)).take (m * z) := by rw [List.take_take, Nat.min_eq_left (by omega)]
  have e2 : s.text.take (m * z) ++ (part z tsn ssn s m).text = s.text := by
    rw [e]; simp only [part, List.take_append_drop]; rw [List.take_of_length_le (by omega)]
  rw [e2]
  rfl
/-- The messages of a side's says. -/
def saidOf (z : Nat) (tsn : Int) (byB : Bool) : List Say → List Data → List Msg
  | [], _ => []
  | s :: l, f => if s.byB = byB then ⟨s.stream, ssnOf f s, s.loose, s.text⟩ :: saidOf z tsn byB l (f ++ nextParts z tsn f s) else saidOf z tsn byB l f
theorem said_parts {z : Nat} (hz : 1 ≤ z) {tsn : Int} {byB : Bool} : ∀ (l : List Say) (f : List Data), (∀ s ∈ l, 1 ≤ s.text.length) → (saidSt f).2 = [] → saidSt (partsAcc z tsn byB l f) = (said f ++ saidOf z tsn byB l f, [])
  | [], f, _, h => by simp only [partsAcc, saidOf, List.append_nil, said]; rw [← h]
  | s :: l, f, hl, h => by
    have h1 := hl s (List.mem_cons_self ..)
    have hl' : ∀ s ∈ l, 1 ≤ s.text.length := fun x hx => hl x (List.mem_cons_of_mem _ hx)
    simp only [partsAcc, saidOf]
    split
    · have e : saidSt (f ++ nextParts z tsn f s) = (said f ++ [⟨s.stream, ssnOf f s, s.loose, s.text⟩], []) := by
        rw [saidSt_app]
        have : saidSt f = (said f, []) := by unfold said; rw [← h]
        rw [this]
        exact said_next hz _ h1
      rw [said_parts hz l _ hl' (by rw [e])]
      have : said (f ++ nextParts z tsn f s) = said f ++ [⟨s.stream, ssnOf f s, s.loose, s.text⟩] := by unfold said at e ⊢; rw [e]
      rw [this, List.append_assoc]
      rfl
    · exact said_parts hz l f hl' h
def talkSaid (t : Talk) (byB : Bool) : List Msg := said (talkParts t byB)
theorem talkSaid_eq (t : Talk) (byB : Bool) (hv : talkB t = true) : talkSaid t byB = saidOf t.size.toNat (t.tsn byB) byB t.says [] := by
  obtain ⟨hsz, _, hsays, _⟩ := talk_ok hv
  unfold talkSaid talkParts
  rw [if_pos hv]
  unfold said
  rw [said_parts (by omega) t.says [] (fun s hs => (hsays s hs).1) rfl]
  rfl
theorem saidOf_drop {z : Nat} {tsn : Int} {byB : Bool} {l : List Say} {i : Nat} (h : i < l.length) (f : List Data) : saidOf z tsn byB (l.drop i) f = if l[i].byB = byB then ⟨l[i].stream, ssnOf f l[i], l[i].loose, l[i].text⟩ :: saidOf z tsn byB (l.drop (i + 1)) (f ++ nextParts z tsn f l[i]) else saidOf z tsn byB (l.drop (i + 1)) f := by
  rw [List.drop_eq_getElem_cons h]; rfl
theorem msgClosed (l : List Msg) : closL2 (l.map Msg.row) := closL2_map (fun s x hx => by
  simp only [Msg.row, List.mem_cons, List.not_mem_nil, or_false] at hx
  rcases hx with rfl | rfl | rfl | rfl <;> rfl) l
end Go.Cap

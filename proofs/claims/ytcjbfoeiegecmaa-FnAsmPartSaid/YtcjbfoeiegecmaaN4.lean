import Derived.Test.YtcjbfoeiegecmaaN3
import Derived.Test.YtcjbfoeiegecmaaV2
import Derived.Test.YtcjbfoeiegecmaaN2
/- Contracts: the chain of a message's parts, and the message that is due (the program's). -/
namespace Go.Cap
open Go Go.Proofs
set_option maxRecDepth 100000
set_option linter.unusedSimpArgs false
set_option linter.unusedVariables false
attribute [local irreducible] Call Run Spec Le

def natRow (i : Nat) : List RV := [.n .i64 i]
theorem walk_head {pre : List Nat} {k : Nat} (h : pre.getLast? = some k) : pre = pre.dropLast ++ [k] := by
  have hne : pre ≠ [] := fun e => by rw [e] at h; cases h
  have h2 := List.dropLast_concat_getLast hne
  rw [List.getLast?_eq_some_getLast hne] at h
  have h3 := Option.some.inj h
  rw [h3] at h2; exact h2.symm
/-- What is known of the chain after a walk. -/
def Goes (l : List Data) (k : Nat) (pre : List Nat) (a : Nat) : Prop := chain l k = (chainN (l.length + 1 - pre.length) l a).map (pre.dropLast ++ ·)
theorem Goes.start {l : List Data} {k : Nat} : Goes l k [k] k := by
  unfold Goes chain
  simp
theorem Goes.stop {l : List Data} {k a : Nat} {pre : List Nat} (h : Goes l k pre a) (w : Walk l pre a) (hl : pre.length ≤ l.length) (hla : (dataAt l a).last = true) : chain l k = some pre := by
  unfold Goes at h
  have e : l.length + 1 - pre.length = (l.length - pre.length) + 1 := by omega
  rw [e, chainN, if_pos hla] at h
  rw [h, Option.map_some]
  exact congrArg some (walk_head w.last).symm
theorem Goes.none {l : List Data} {k a : Nat} {pre : List Nat} (h : Goes l k pre a) (hl : pre.length ≤ l.length) (hla : (dataAt l a).last = false) (hn : nextIx l a = .none) : chain l k = .none := by
  unfold Goes at h
  have e : l.length + 1 - pre.length = (l.length - pre.length) + 1 := by omega
  rw [e, chainN, if_neg (by simp [hla]), hn] at h
  exact h
theorem Goes.next {l : List Data} {k a j : Nat} {pre : List Nat} (h : Goes l k pre a) (w : Walk l pre a) (hl : pre.length ≤ l.length) (hla : (dataAt l a).last = false) (hn : nextIx l a = some j) : Goes l k (pre ++ [j]) j := by
  unfold Goes at h ⊢
  have e : l.length + 1 - pre.length = (l.length - pre.length) + 1 := by omega
  have e2 : l.length + 1 - (pre ++ [j]).length = l.length - pre.length := by simp
  rw [e, chainN, if_neg (by simp [hla]), hn] at h
  rw [e2, List.dropLast_concat, h]
  cases hc : chainN (l.length - pre.length) l j with
  | none => simp [hc]
  | some t =>
    simp only [hc, Option.map_some]
    congr 1
    conv => rhs; rw [walk_head w.last]
    simp
theorem chain_ne {l : List Data} {k : Nat} {p : List Nat} : ∀ {n : Nat}, chainN n l k = some p → p ≠ []
  | 0, h => by cases h
  | n + 1, h => by
    rw [chainN] at h
    split at h
    · cases h; simp
    · split at h
      · cases hc : chainN n l _ with
        | none => rw [hc] at h; cases h
        | some t => rw [hc] at h; cases h; simp
      · cases h
theorem natClosed (p : List Nat) : closL2 (p.map natRow) := closL2_map (fun s x hx => by
  simp only [natRow, List.mem_cons, List.not_mem_nil, or_false] at hx
  rcases hx with rfl; rfl) p
/-- The number that a stream waits for. -/
def nextAt (a : Asm) (s : Int) : Int := a.next.getD s.toNat 0
def dueAt (a : Asm) (i : Nat) : Option (List Nat) := if (dataAt a.parts i).first && ((dataAt a.parts i).loose || (dataAt a.parts i).ssn == nextAt a (dataAt a.parts i).stream) then chain a.parts i else none
def dueFrom (a : Asm) : List Nat → Option (List Nat)
  | [] => none
  | i :: l => match dueAt a i with
    | some p => some p
    | none => dueFrom a l
def due (a : Asm) : Option (List Nat) := dueFrom a (List.range a.parts.length)
/-- What the search for a message relies on. -/
structure AsmOk (a : Asm) : Prop where
  len : a.parts.length ≤ 13
  tsn : ∀ d ∈ a.parts, 0 ≤ d.tsn ∧ d.tsn < 65536
  stream : ∀ d ∈ a.parts, 0 ≤ d.stream ∧ d.stream < a.next.length
  next : ∀ n ∈ a.next, serialB n = true
  nlen : a.next.length ≤ 4
theorem range_drop {n i : Nat} (h : i < n) : (List.range n).drop i = i :: (List.range n).drop (i + 1) := by
  rw [List.drop_eq_getElem_cons (by simpa using h)]; simp
end Go.Cap

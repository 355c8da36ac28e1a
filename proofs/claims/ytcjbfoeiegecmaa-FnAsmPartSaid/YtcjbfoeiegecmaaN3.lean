import Derived.Test.YtcjbfoeiegecmaaN1
/- The chain of a message's parts, in plain terms. -/
namespace Go.Cap
open Go Go.Proofs
set_option linter.unusedSimpArgs false
set_option linter.unusedVariables false

def dataAt (l : List Data) (k : Nat) : Data := l.getD k ⟨0, 0, 0, false, false, false, []⟩
theorem dataAt_eq {l : List Data} {k : Nat} (h : k < l.length) : dataAt l k = l[k] := by simp [dataAt, List.getD_eq_getElem?_getD, h]
/-- The index of the part that comes behind part 'k'. -/
def nextIx (l : List Data) (k : Nat) : Option Nat := match atIx l (l3 (dataAt l k).tsn 1) with
  | some j => if (dataAt l j).first || !likeB (dataAt l j) (dataAt l k) then none else some j
  | none => none
def chainN : Nat → List Data → Nat → Option (List Nat)
  | 0, _, _ => none
  | n + 1, l, k => if (dataAt l k).last then some [k] else match nextIx l k with
    | some j => (chainN n l j).map (k :: ·)
    | none => none
def chain (l : List Data) (k : Nat) : Option (List Nat) := chainN l.length l k
/-- The parts that a walk has met: their numbers go up by one. -/
structure Walk (l : List Data) (pre : List Nat) (k : Nat) : Prop where
  last : pre.getLast? = some k
  lt : ∀ i ∈ pre, i < l.length
  tsn : ∀ j (h : j < pre.length), (dataAt l pre[j]).tsn = l3 (dataAt l (pre.headD 0)).tsn j
  nodup : pre.Nodup
theorem nodup_le {pre : List Nat} {n : Nat} (hn : pre.Nodup) (hl : ∀ i ∈ pre, i < n) : pre.length ≤ n := by
  have h2 : pre.length ≤ (List.range n).length := hn.length_le_of_subset (fun x hx => List.mem_range.2 (hl x hx))
  simpa using h2
theorem Walk.one {l : List Data} {k : Nat} (h : k < l.length) (ht : ∀ d ∈ l, 0 ≤ d.tsn ∧ d.tsn < 65536) : Walk l [k] k := by
  refine ⟨rfl, by simpa using h, ?_, by simp⟩
  intro j hj
  have : j = 0 := by simpa using hj
  subst this
  simp only [List.getElem_cons_zero, List.headD_cons]
  have := ht _ (List.getElem_mem h)
  rw [dataAt_eq h]
  exact (l3_zero this).symm
theorem atIx_some {l : List Data} {x : Int} {j : Nat} (h : atIx l x = some j) : ∃ hj : j < l.length, l[j].tsn = x := by
  obtain ⟨h1, h2, _⟩ := (atIx_spec l x j).1 h
  exact ⟨h1, h2⟩
theorem nextIx_some {l : List Data} {k j : Nat} (h : nextIx l k = some j) : atIx l (l3 (dataAt l k).tsn 1) = some j := by
  unfold nextIx at h
  split at h
  · rename_i j' ha
    split at h
    · cases h
    · cases h; exact ha
  · cases h
theorem l3_inj {a : Int} {i j : Nat} (hi : i < 60000) (hj : j < 60000) (h : l3 a i = l3 a j) : i = j := by unfold l3 at h; omega
theorem Walk.step {l : List Data} {pre : List Nat} {k j : Nat} (w : Walk l pre k) (hp : pre.length < 60000) (h : atIx l (l3 (dataAt l k).tsn 1) = some j) : Walk l (pre ++ [j]) j := by
  obtain ⟨hj, ht⟩ := atIx_some h
  have hne : pre ≠ [] := fun e => by have := w.last; rw [e] at this; cases this
  have hpos : 0 < pre.length := List.length_pos_iff.2 hne
  have hk : (dataAt l k).tsn = l3 (dataAt l (pre.headD 0)).tsn ((pre.length - 1 : Nat) : Int) := by
    have h2 := w.tsn (pre.length - 1) (by omega)
    have h3 : pre[pre.length - 1] = k := by
      have := w.last
      rw [List.getLast?_eq_getElem?, List.getElem?_eq_getElem (by omega)] at this
      exact Option.some.inj this
    rw [h3] at h2; exact h2
  have hjt : (dataAt l j).tsn = l3 (dataAt l (pre.headD 0)).tsn (pre.length : Int) := by
    rw [dataAt_eq hj, ht, hk, l3_l3]; congr 1; omega
  have hhead : (pre ++ [j]).headD 0 = pre.headD 0 := by cases pre with
    | nil => exact absurd rfl hne
    | cons a b => rfl
  refine ⟨List.getLast?_concat, fun i hi => ?_, fun i hi => ?_, ?_⟩
  · rcases List.mem_append.1 hi with hi | hi
    · exact w.lt i hi
    · simp only [List.mem_singleton] at hi; subst hi; exact hj
  · rw [hhead]
    rcases Nat.lt_or_ge i pre.length with hip | hip
    · rw [List.getElem_append_left hip]; exact w.tsn i hip
    · have : i = pre.length := by simp only [List.length_append, List.length_cons, List.length_nil] at hi; omega
      subst this
      simp only [List.getElem_concat_length]
      exact hjt
  · rw [List.nodup_append]
    refine ⟨w.nodup, by simp, fun a ha b hb => ?_⟩
    simp only [List.mem_singleton] at hb
    subst hb
    intro e
    subst e
    obtain ⟨i, hi, e⟩ := List.getElem_of_mem ha
    have h4 := w.tsn i hi
    rw [e, hjt] at h4
    have := l3_inj (by omega) (by omega) h4
    omega
end Go.Cap

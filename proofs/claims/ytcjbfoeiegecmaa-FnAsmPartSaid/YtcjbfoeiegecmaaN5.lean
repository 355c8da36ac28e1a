import Derived.Test.YtcjbfoeiegecmaaN4
import Derived.Test.YtcjbfoeiegecmaaS1
/- Assemblies in plain terms: taking a message out, settling, adding. -/
namespace Go.Cap
open Go Go.Proofs
set_option linter.unusedSimpArgs false
set_option linter.unusedVariables false

def textOfIx (l : List Data) (p : List Nat) : List UInt8 := p.flatMap fun i => (dataAt l i).text
/-- The parts whose indices are not among some. -/
def restFrom (p : List Nat) : Nat → List Data → List Data
  | _, [] => []
  | i, d :: l => if i ∈ p then restFrom p (i + 1) l else d :: restFrom p (i + 1) l
def msgOf (a : Asm) (p : List Nat) : Msg := ⟨(dataAt a.parts (p.headD 0)).stream, (dataAt a.parts (p.headD 0)).ssn, (dataAt a.parts (p.headD 0)).loose, textOfIx a.parts p⟩
def takeOut (a : Asm) (p : List Nat) : Asm := ⟨if (msgOf a p).loose then a.next else a.next.set (msgOf a p).stream.toNat (l3 (nextAt a (msgOf a p).stream) 1), restFrom p 0 a.parts⟩
/-- All messages that are due are taken out. -/
def settle : Nat → Asm → List Msg → Asm × List Msg
  | 0, a, ms => (a, ms)
  | n + 1, a, ms => match due a with
    | some p => settle n (takeOut a p) (ms ++ [msgOf a p])
    | none => (a, ms)
def asmAdd (a : Asm) (d : Data) : Asm × List Msg × Int :=
  if !asmB a || !dataB d || decide ((a.next.length : Int) ≤ d.stream) then (⟨[], []⟩, [], 3)
  else if (atIx a.parts d.tsn).isSome then (a, [], 1)
  else if 12 ≤ a.parts.length then (a, [], 2)
  else let x := settle (a.parts.length + 2) ⟨a.next, a.parts ++ [d]⟩ []; (x.1, x.2, 0)
theorem restFrom_len (p : List Nat) : ∀ (l : List Data) (i : Nat), (restFrom p i l).length ≤ l.length
  | [], i => by simp [restFrom]
  | d :: l, i => by
    simp only [restFrom]
    split
    · have := restFrom_len p l (i + 1); simp only [List.length_cons]; omega
    · have := restFrom_len p l (i + 1); simp only [List.length_cons]; omega
theorem restFrom_lt (p : List Nat) : ∀ (l : List Data) (i k : Nat), k ∈ p → i ≤ k → k < i + l.length → (restFrom p i l).length < l.length
  | [], i, k, hk, h1, h2 => by simp at h2; omega
  | d :: l, i, k, hk, h1, h2 => by
    simp only [restFrom, List.length_cons] at h2 ⊢
    split
    · have := restFrom_len p l (i + 1); omega
    · rename_i hn
      have hne : i ≠ k := fun e => hn (e ▸ hk)
      have := restFrom_lt p l (i + 1) k hk (by omega) (by omega)
      simp only [List.length_cons]; omega
theorem restFrom_mem (p : List Nat) : ∀ (l : List Data) (i : Nat), ∀ d ∈ restFrom p i l, d ∈ l
  | [], i, d, h => by simp [restFrom] at h
  | x :: l, i, d, h => by
    simp only [restFrom] at h
    split at h
    · exact List.mem_cons_of_mem _ (restFrom_mem p l (i + 1) d h)
    · rcases List.mem_cons.1 h with rfl | h
      · exact List.mem_cons_self ..
      · exact List.mem_cons_of_mem _ (restFrom_mem p l (i + 1) d h)
/-- A chain is a walk. -/
theorem chain_walk {l : List Data} (ht : ∀ d ∈ l, 0 ≤ d.tsn ∧ d.tsn < 65536) (hl : l.length ≤ 13) : ∀ (n k : Nat) (pre p : List Nat) , chainN n l k = some p → Walk l pre k → ∃ k', Walk l (pre.dropLast ++ p) k'
  | 0, k, pre, p, h, w => by cases h
  | n + 1, k, pre, p, h, w => by
    rw [chainN] at h
    split at h
    · cases h; rw [← walk_head w.last]; exact ⟨k, w⟩
    · split at h
      · rename_i j hj
        cases hc : chainN n l j with
        | none => rw [hc] at h; cases h
        | some t =>
          rw [hc] at h
          cases h
          have hpl := nodup_le w.nodup w.lt
          obtain ⟨k', w2⟩ := chain_walk ht hl n j (pre ++ [j]) t hc (w.step (by omega) (nextIx_some hj))
          rw [List.dropLast_concat] at w2
          refine ⟨k', ?_⟩
          have : pre.dropLast ++ k :: t = pre ++ t := by
            conv => rhs; rw [walk_head w.last]
            simp
          rw [this]; exact w2
      · cases h
theorem chainN_head {l : List Data} : ∀ {n k : Nat} {p : List Nat}, chainN n l k = some p → p.headD 0 = k
  | 0, k, p, h => by cases h
  | n + 1, k, p, h => by
    rw [chainN] at h
    split at h
    · cases h; rfl
    · split at h
      · cases hc : chainN n l _ with
        | none => rw [hc] at h; cases h
        | some t => rw [hc] at h; cases h; rfl
      · cases h
end Go.Cap

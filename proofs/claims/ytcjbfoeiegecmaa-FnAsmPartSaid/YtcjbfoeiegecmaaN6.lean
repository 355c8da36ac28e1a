import Derived.Test.YtcjbfoeiegecmaaN5
import Derived.Test.YtcjbfoeiegecmaaEngC
/- Contracts: adding a part (the program's): the loops. -/
namespace Go.Cap
open Go Go.Proofs
set_option maxRecDepth 100000
set_option linter.unusedSimpArgs false
set_option linter.unusedVariables false
attribute [local irreducible] Call Run Spec Le

/-- Which indices are taken. -/
def takenR (p : List Nat) : List RV := (List.range 13).map fun j => .b (decide (j ∈ p))
@[go_sem] theorem takenR_len (p : List Nat) : (takenR p).length = 13 := by simp [takenR]
theorem textOfIx_len (l : List Data) (hx : ∀ d ∈ l, d.text.length ≤ 100000) : ∀ (p : List Nat), (∀ i ∈ p, i < l.length) → (textOfIx l p).length ≤ 100000 * p.length
  | [], _ => by simp [textOfIx]
  | i :: p, h => by
    have ih := textOfIx_len l hx p (fun j hj => h j (List.mem_cons_of_mem _ hj))
    have hi := h i (List.mem_cons_self ..)
    have h1 := hx _ (List.getElem_mem hi)
    rw [← dataAt_eq hi] at h1
    unfold textOfIx at ih ⊢
    rw [List.flatMap_cons, List.length_append, List.length_cons]; omega
theorem restFrom_drop {p : List Nat} {l : List Data} {i : Nat} (h : i < l.length) : restFrom p i (l.drop i) = if i ∈ p then restFrom p (i + 1) (l.drop (i + 1)) else l[i] :: restFrom p (i + 1) (l.drop (i + 1)) := by
  rw [List.drop_eq_getElem_cons h]; rfl
end Go.Cap

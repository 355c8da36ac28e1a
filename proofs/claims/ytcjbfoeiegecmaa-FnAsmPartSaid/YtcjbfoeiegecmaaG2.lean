import Derived.Test.YtcjbfoeiegecmaaG1
/- What an assembly does with parts that it has not seen: it takes them, and tells the groups that are whole. -/
namespace Go.Cap
open Go Go.Proofs
set_option linter.unusedSimpArgs false
set_option linter.unusedVariables false

def asmNew (n : Nat) : Asm := ⟨List.replicate n 0, []⟩
theorem partsLoop_of {n : Nat} {p : List Data} : ∀ (l : List Data) (i : Nat), (∀ j (hj : j < l.length), partOk n (p.take (i + j)) l[j] = true) → partsLoop n p i l = true
  | [], _, _ => rfl
  | d :: l, i, h => by
    simp only [partsLoop, Bool.and_eq_true]
    refine ⟨h 0 (by simp), partsLoop_of l (i + 1) fun j hj => ?_⟩
    have := h (j + 1) (by simpa using hj)
    simpa [Nat.add_assoc, Nat.add_comm 1 j] using this
section
variable {gs : List (List Data)} {n : Nat} {arr : List Data} {a : Asm} {ms : List Msg} {T : List (List Data)} {d : Data}
theorem AInv.start (gs : List (List Data)) (n : Nat) : AInv gs n [] (asmNew n) [] [] := by
  refine ⟨fun g h => (List.not_mem_nil h).elim, fun g h => (List.not_mem_nil h).elim, List.nodup_nil, rfl, rfl, by simp [asmNew], fun s h1 h2 => ?_, fun i s h => by simp at h⟩
  simp only [nextAt, asmNew, List.getD_eq_getElem?_getD, List.getElem?_replicate]
  split <;> rfl
theorem Grps.nodup (G : Grps gs) : gs.Nodup := by
  refine List.pairwise_iff_getElem.2 fun i j hi hj hij e => ?_
  have hm := hd_mem (G.grp _ (List.getElem_mem hi)).ne
  have := flat_nd G.nd hi hj hm (e ▸ hm)
  omega
end
end Go.Cap

import Derived.Test.YtcjbfoeiegecmaaN6
/- Contracts: adding a part (the program's). -/
namespace Go.Cap
open Go Go.Proofs
set_option maxRecDepth 100000
set_option linter.unusedSimpArgs false
set_option linter.unusedVariables false
attribute [local irreducible] Call Run Spec Le

theorem due_some {a : Asm} {p : List Nat} (h : due a = some p) : ∃ i, i < a.parts.length ∧ dueAt a i = some p := by
  have key : ∀ l : List Nat, dueFrom a l = some p → ∃ i ∈ l, dueAt a i = some p := by
    intro l
    induction l with
    | nil => intro h; cases h
    | cons i l ih =>
      intro h
      rw [dueFrom] at h
      cases hd : dueAt a i with
      | some q => rw [hd] at h; cases h; exact ⟨i, List.mem_cons_self .., hd⟩
      | none =>
        rw [hd] at h
        obtain ⟨j, hj, h2⟩ := ih h
        exact ⟨j, List.mem_cons_of_mem _ hj, h2⟩
  obtain ⟨i, hi, h2⟩ := key _ h
  exact ⟨i, List.mem_range.1 hi, h2⟩
/-- What a message that is due promises. -/
structure DueOk (a : Asm) (p : List Nat) : Prop where
  ne : p ≠ []
  lt : ∀ i ∈ p, i < a.parts.length
  nodup : p.Nodup
  first : (dataAt a.parts (p.headD 0)).first = true
  ssn : (dataAt a.parts (p.headD 0)).loose = true ∨ (dataAt a.parts (p.headD 0)).ssn = nextAt a (dataAt a.parts (p.headD 0)).stream
theorem due_ok {a : Asm} (h : AsmOk a) {p : List Nat} (hd : due a = some p) : DueOk a p := by
  obtain ⟨i, hi, h2⟩ := due_some hd
  unfold dueAt at h2
  split at h2
  · rename_i hc
    have hh := chainN_head h2
    obtain ⟨k', w⟩ := chain_walk h.tsn h.len _ i [i] p h2 (Walk.one hi h.tsn)
    simp only [List.dropLast_singleton, List.nil_append] at w
    simp only [Bool.and_eq_true, Bool.or_eq_true, beq_iff_eq] at hc
    exact ⟨chain_ne h2, w.lt, w.nodup, by rw [hh]; exact hc.1, by rw [hh]; exact hc.2⟩
  · cases h2
theorem takeOut_lt {a : Asm} {p : List Nat} (h : DueOk a p) : (takeOut a p).parts.length < a.parts.length := by
  obtain ⟨k, hk⟩ := List.exists_mem_of_ne_nil p h.ne
  exact restFrom_lt p a.parts 0 k hk (Nat.zero_le _) (by simpa using h.lt k hk)
theorem takeOut_ok {a : Asm} {p : List Nat} (h : AsmOk a) : AsmOk (takeOut a p) := by
  have hn : (takeOut a p).next.length = a.next.length := by unfold takeOut; simp only; split <;> simp
  have hp := restFrom_mem p a.parts 0
  refine ⟨Nat.le_trans (restFrom_len p a.parts 0) h.len, fun d hd => h.tsn d (hp d hd), fun d hd => by rw [hn]; exact h.stream d (hp d hd), fun n hm => ?_, by rw [hn]; exact h.nlen⟩
  unfold takeOut at hm
  simp only at hm
  split at hm
  · exact h.next n hm
  · rcases List.mem_or_eq_of_mem_set hm with hm | rfl
    · exact h.next n hm
    · exact serial_l3 _ _
theorem settle_more : ∀ (n : Nat) (a : Asm) (ms : List Msg), AsmOk a → a.parts.length < n → ∀ k, settle (n + k) a ms = settle n a ms
  | 0, a, ms, h, hl, k => by omega
  | n + 1, a, ms, h, hl, k => by
    have e : n + 1 + k = (n + k) + 1 := by omega
    rw [e, settle, settle]
    cases hd : due a with
    | none => rfl
    | some p =>
      have hlt := takeOut_lt (due_ok h hd)
      exact settle_more n _ _ (takeOut_ok h) (by omega) k
theorem vw_asm {hp : List (Nat × Blk)} {b0 b1 : Nat} {a : Asm} (h0 : hget hp b0 = some (.row 1 (a.next.map intRow))) (h1 : hget hp b1 = some (.row 7 (a.parts.map Data.row))) : Vw hp (.agg [.sl b0 0 a.next.length, .sl b1 0 a.parts.length]) a.ro :=
  vw_agg (.cons (Vw.full h0 (by simp)) (.cons (Vw.full h1 (by simp)) .nil))
end Go.Cap

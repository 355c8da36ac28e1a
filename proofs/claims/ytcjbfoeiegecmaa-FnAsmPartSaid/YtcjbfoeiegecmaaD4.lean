import Derived.Test.YtcjbfoeiegecmaaD3
/- Contracts: what the assembly laws draw. -/
namespace Go.Cap
open Go Go.Proofs
set_option maxRecDepth 100000
set_option linter.unusedSimpArgs false
set_option linter.unusedVariables false
attribute [local irreducible] Call Run Spec Le

theorem c_drawA {c : Cx} {f : Nat} {code : List UInt8} {p k : Int} {s : St} {K : AV → St → Prop} {b : Nat} (hs : Spec c.P f 1 [(0, rdB code p)] [.ptr 0 0 0] (DrawA code p k)) (hb : hget s.hp b = some (rdB code p))
    (h : ∀ (a : Asm) p', p ≤ p' → p' ≤ p + k → a.next.length ≤ 5 → a.parts.length ≤ 26 → (∀ d ∈ a.parts, d.text.length ≤ 200) → K (.agg [.sl s.nx 0 a.next.length, .sl (s.nx + 1) 0 a.parts.length]) ⟨s.sl, (b, rdB code p') :: (s.nx, .row 1 (a.next.map intRow)) :: (s.nx + 1, .row 7 (a.parts.map Data.row)) :: hdel s.hp b, s.nx + 2, s.gs⟩) : Call c f [.ptr b 0 0] s K :=
  call_named1G b hs hb rfl rfl fun r hp' nx' gs' ⟨a, p', h1, h2, h3, h4, h5, h6, h7, h8, h9⟩ => by
    subst h1; subst h2; subst h3; subst h4
    have := h a p' h5 h6 h7 h8 h9
    simpa [renA, renA.renL, renH, renB, idf, rdB] using this
theorem le_asm {c : Cx} (hc : c.m = 0) (a : Asm) (x : List (Nat × AV)) (hx : x = [] ∨ ∃ d : Data, x = [(1, d.av)]) : Le c ⟨(0, .agg [.sl 0 0 a.next.length, .sl 1 0 a.parts.length]) :: x, [(0, .row 1 (a.next.map intRow)), (1, .row 7 (a.parts.map Data.row))], 2, []⟩ ⟨(0, a.ro) :: x, [], 0, []⟩ := by
  rcases hx with rfl | ⟨d, rfl⟩
  all_goals
    refine Le.trans (le_frz 0 rfl (by simp only [List.length_map, Data.av, go_sem, ↓reduceIte]) (by simp only [go_sem, ↓reduceIte])) ?_
    simp only [take_map_len, List.drop_zero, Data.av, go_sem, ↓reduceIte]
    refine Le.trans (le_frz 1 rfl (by simp only [List.length_map, Data.av, go_sem, ↓reduceIte]) (by simp only [go_sem, ↓reduceIte])) ?_
    simp only [take_map_len, List.drop_zero, Data.av, go_sem, ↓reduceIte]
    exact le_ev [] (by simp only [hc, Asm.ro, go_sem, ↓reduceIte])
/-- An assembly, as data. -/
def AsmIs (a : Asm) : Prop := a.next.length ≤ 5 ∧ a.parts.length ≤ 26 ∧ ∀ d ∈ a.parts, d.text.length ≤ 200
theorem s_DrawAsmValid (code : List UInt8) : Spec Try.prog 15 0 [] [.r (.ro none (code.map byteRow))] (Plain fun r => ∃ a : Asm, r = a.ro ∧ AsmIs a) := by
  refine Spec.le (Q := fun r hp _ _ => ∃ a : Asm, ∃ b1 b2, b1 ≠ b2 ∧ r = .agg [.sl b1 0 a.next.length, .sl b2 0 a.parts.length] ∧ hget hp b1 = some (.row 1 (a.next.map intRow)) ∧ hget hp b2 = some (.row 7 (a.parts.map Data.row)) ∧ AsmIs a) ?_ ?_
  · refine mk15 rfl fun c hP hm => ?_
    unfold pc15
    simp only [hm, go_sem, ↓reduceIte]
    refine call_newV (hP ▸ s_l6Open code) rfl rfl ?_
    simp only [hm, go_sem, ↓reduceIte]
    refine c_drawA (hP ▸ s_l92Asm _ 0 (by omega) (by simp; omega)) rfl fun a p1 h1 h2 h3 h4 h5 => ?_
    simp only [hm, go_sem, ↓reduceIte]
    exact ⟨a, 2, 3, by decide, rfl, rfl, rfl, h3, h4, h5⟩
  · rintro r hp nx gs ⟨a, b1, b2, hne, rfl, h1, h2, hb⟩
    refine ⟨a.ro, [], 0, [], ⟨⟨a, rfl, hb⟩, rfl, rfl, rfl⟩, fun c hc => ?_⟩
    refine Le.trans (t := ⟨[(0, .agg [.sl 0 0 a.next.length, .sl 1 0 a.parts.length])], [(0, .row 1 (a.next.map intRow)), (1, .row 7 (a.parts.map Data.row))], 2, []⟩) (le_ev [(0, b1), (1, b2)] ?_) ?_
    · simp only [hc, go_sem, ↓reduceIte, h1, h2, List.mem_cons, List.not_mem_nil, or_false, not_false_eq_true, and_self]
      exact fun e => hne e.symm
    · exact le_asm hc a [] (.inl rfl)
end Go.Cap

import Derived.Test.YtcjbfoeiegecmaaN8
import Derived.Test.YtcjbfoeiegecmaaG2
/- Contracts: an assembly's run (the program's). -/
namespace Go.Cap
open Go Go.Proofs
set_option maxRecDepth 100000
set_option linter.unusedSimpArgs false
set_option linter.unusedVariables false
attribute [local irreducible] Call Run Spec Le

theorem intClosed (l : List Int) : closL2 (l.map intRow) := closL2_map (fun s x hx => by
  simp only [intRow, List.mem_cons, List.not_mem_nil, or_false] at hx
  rcases hx with rfl; rfl) l
theorem c_implAsmAdd {c : Cx} (hP : c.P = Try.prog) {a : Asm} {d : Data} {va vd : AV} {s : St} {K : AV → St → Prop} (hn : a.next.length ≤ 2000000) (hl : a.parts.length ≤ 2000000) (hx : ∀ d ∈ a.parts, d.text.length ≤ 9223372036854775807) (hd : d.text.length ≤ 9223372036854775807)
    (hv : Vws s.hp [va, vd] [a.ro, d.av])
    (k3 : (asmAdd a d).2.2 = 3 → K (.tup [.agg [.r .nil, .r .nil], .r .nil, .i 3]) s)
    (k0 : (asmAdd a d).2.2 = 0 → K (.tup [.agg [.sl s.nx 0 (asmAdd a d).1.next.length, .sl (s.nx + 1) 0 (asmAdd a d).1.parts.length], .sl (s.nx + 2) 0 (asmAdd a d).2.1.length, .i 0])
      ⟨s.sl, (s.nx, .row 1 ((asmAdd a d).1.next.map intRow)) :: (s.nx + 1, .row 7 ((asmAdd a d).1.parts.map Data.row)) :: (s.nx + 2, .row 4 ((asmAdd a d).2.1.map Msg.row)) :: s.hp, s.nx + 3, s.gs⟩)
    (k12 : (asmAdd a d).2.2 ≠ 3 → (asmAdd a d).2.2 ≠ 0 → K (.tup [.agg [.sl s.nx 0 (asmAdd a d).1.next.length, .sl (s.nx + 1) 0 (asmAdd a d).1.parts.length], .r .nil, .i (asmAdd a d).2.2])
      ⟨s.sl, (s.nx, .row 1 ((asmAdd a d).1.next.map intRow)) :: (s.nx + 1, .row 7 ((asmAdd a d).1.parts.map Data.row)) :: s.hp, s.nx + 2, s.gs⟩) : Call c 23 [va, vd] s K := by
  have hs := s_implAsmAdd a d hn hl hx hd
  generalize asmAdd a d = x at hs k3 k0 k12
  obtain ⟨a', ms, code⟩ := x
  simp only at k3 k0 k12
  by_cases h3 : code = 3
  · subst h3
    exact call_val (hP ▸ hs) rfl (fun _ => rfl) hv (k3 rfl)
  · by_cases h0 : code = 0
    · subst h0
      have h2 := Spec.new3 (r0 := .tup [.agg [.sl 0 0 a'.next.length, .sl 1 0 a'.parts.length], .sl 2 0 ms.length, .i 0]) (sz := 1) (L := a'.next.map intRow) (sz1 := 7) (L1 := a'.parts.map Data.row) (sz2 := 4) (L2 := ms.map Msg.row) hs (fun r hp nx gs hq => by
        unfold AddQ at hq
        simp only [Int.reduceEq, if_false, if_true] at hq
        obtain ⟨b0, b1, n1, h1, h2, b2, n2, n3, h3, rfl⟩ := hq
        exact ⟨b0, b1, b2, ⟨n1, n2, n3⟩, rfl, h1, h2, h3⟩) (fun f g e0 e1 e2 => by simp only [go_sem, e0, e1, e2])
      rw [← hP] at h2
      exact call_new3 h2 rfl (intClosed _) (dataClosed _) (msgClosed _) hv (k0 rfl)
    · have h2 := Spec.new2 (r0 := .tup [.agg [.sl 0 0 a'.next.length, .sl 1 0 a'.parts.length], .r .nil, .i code]) (sz := 1) (L := a'.next.map intRow) (sz1 := 7) (L1 := a'.parts.map Data.row) hs (fun r hp nx gs hq => by
        unfold AddQ at hq
        simp only [h3, h0, if_false] at hq
        obtain ⟨b0, b1, n1, h1, h2, rfl⟩ := hq
        exact ⟨b0, b1, n1, rfl, h1, h2⟩) (fun f g e0 e1 => by simp only [go_sem, e0, e1])
      rw [← hP] at h2
      exact call_new2 h2 rfl (intClosed _) (dataClosed _) hv (k12 h3 h0)
/-- What one part adds at most. -/
theorem settle_len : ∀ (k : Nat) (a : Asm) (ms : List Msg), AsmOk a → (settle k a ms).2.length + (settle k a ms).1.parts.length ≤ ms.length + a.parts.length ∧ (settle k a ms).1.next.length = a.next.length ∧ ∀ d ∈ (settle k a ms).1.parts, d ∈ a.parts
  | 0, a, ms, _ => ⟨Nat.le_refl _, rfl, fun d h => h⟩
  | k + 1, a, ms, h => by
    rw [settle]
    cases hd : due a with
    | none => exact ⟨Nat.le_refl _, rfl, fun d h => h⟩
    | some p =>
      have hlt := takeOut_lt (due_ok h hd)
      obtain ⟨h1, h2, h3⟩ := settle_len k (takeOut a p) (ms ++ [msgOf a p]) (takeOut_ok h)
      have hn : (takeOut a p).next.length = a.next.length := by unfold takeOut; simp only; split <;> simp
      simp only
      refine ⟨?_, by rw [h2, hn], fun d hd => restFrom_mem p a.parts 0 d (h3 d hd)⟩
      rw [List.length_append, List.length_singleton] at h1; omega
theorem add_len (a : Asm) (d : Data) : (asmAdd a d).2.2 = 0 → (asmAdd a d).2.1.length ≤ 13 ∧ (asmAdd a d).1.next.length ≤ 4 ∧ (asmAdd a d).1.parts.length ≤ 13 ∧ ∀ x ∈ (asmAdd a d).1.parts, x.text.length ≤ 20 := by
  unfold asmAdd
  split
  · intro h; cases h
  · rename_i hc
    have hc : asmB a = true ∧ dataB d = true ∧ d.stream < a.next.length := by
      cases h1 : asmB a <;> cases h2 : dataB d <;> simp [h1, h2] at hc ⊢
      exact hc
    split
    · intro h; cases h
    · split
      · intro h; cases h
      · intro _
        obtain ⟨k1, k2, k3, k4⟩ := asm_ok hc.1
        obtain ⟨h1, h2, h3⟩ := settle_len (a.parts.length + 2) ⟨a.next, a.parts ++ [d]⟩ [] (add_ok hc.1 hc.2.1 hc.2.2)
        simp only [List.length_append, List.length_singleton, List.length_nil] at h1 h2
        refine ⟨by simp only; omega, by simp only; omega, by simp only; omega, fun x hx => ?_⟩
        rcases List.mem_append.1 (h3 x hx) with hx | hx
        · exact (data_ok (k4 x hx).1).2.2.2.2
        · simp only [List.mem_singleton] at hx; subst hx; exact (data_ok hc.2.1).2.2.2.2
end Go.Cap

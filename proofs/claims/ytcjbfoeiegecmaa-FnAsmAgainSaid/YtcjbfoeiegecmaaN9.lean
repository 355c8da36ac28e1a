import Derived.Test.YtcjbfoeiegecmaaN8
import Derived.Test.YtcjbfoeiegecmaaG2
/- Contracts: an assembly's run (the program's). -/
namespace Go.Cap
open Go Go.Proofs
set_option maxRecDepth 100000
set_option linter.unusedSimpArgs false
set_option linter.unusedVariables false
attribute [local irreducible] Call Run Spec Le

theorem intClosed (l : List Int) : closL2 (l.map intRow) := closL2_map (fun s x hx => by
  simp only [intRow, List.mem_cons, List.not_mem_nil, or_false] at hx
  rcases hx with rfl; rfl) l
theorem c_implAsmAdd {c : Cx} (hP : c.P = Try.prog) {a : Asm} {d : Data} {va vd : AV} {s : St} {K : AV → St → Prop} (hn : a.next.length ≤ 2000000) (hl : a.parts.length ≤ 2000000) (hx : ∀ d ∈ a.parts, d.text.length ≤ 9223372036854775807) (hd : d.text.length ≤ 9223372036854775807)
    (hv : Vws s.hp [va, vd] [a.ro, d.av])
    (k3 : (asmAdd a d).2.2 = 3 → K (.tup [.agg [.r .nil, .r .nil], .r .nil, .i 3]) s)
    (k0 : (asmAdd a d).2.2 = 0 → K (.tup [.agg [.sl s.nx 0 (asmAdd a d).1.next.length, .sl (s.nx + 1) 0 (asmAdd a d).1.parts.length], .sl (s.nx + 2) 0 (asmAdd a d).2.1.length, .i 0])
      ⟨s.sl, (s.nx, .row 1 ((asmAdd a d).1.next.map intRow)) :: (s.nx + 1, .row 7 ((asmAdd a d).1.parts.map Data.row)) :: (s.nx + 2, .row 4 ((asmAdd a d).2.1.map Msg.row)) :: s.hp, s.nx + 3, s.gs⟩)
    (k12 : (asmAdd a d).2.2 ≠ 3 → (asmAdd a d).2.2 ≠ 0 → K (.tup [.agg [.sl s.nx 0 (asmAdd a d).1.next.length, .sl (s.nx + 1) 0 (asmAdd a d).1.parts.length], .r .nil, .i (asmAdd a d).2.2])
      ⟨s.sl, (s.nx, .row 1 ((asmAdd a d).1.next.map intRow)) :: (s.nx + 1, .row 7 ((asmAdd a d).1.parts.map Data.row)) :: s.hp, s.nx + 2, s.gs⟩) : Call c 23 [va, vd] s K := by
  have hs := s_implAsmAdd a d hn hl hx hd
  generalize asmAdd a d = x at hs k3 k0 k12
  obtain ⟨a', ms, code⟩ := x
  simp only at k3 k0 k12
  by_cases h3 : code = 3
  · subst h3
    exact call_val (hP ▸ hs) rfl (fun _ => rfl) hv (k3 rfl)
  · by_cases h0 : code = 0
    · subst h0
      have h2 := Spec.new3 (r0 := .tup [.agg [.sl 0 0 a'.next.length, .sl 1 0 a'.parts.length], .sl 2 0 ms.length, .i 0]) (sz := 1) (L := a'.next.map intRow) (sz1 := 7) (L1 := a'.parts.map Data.row) (sz2 := 4) (L2 := ms.map Msg.row) hs (fun r hp nx gs hq => by
        unfold AddQ at hq
        simp only [Int.reduceEq, if_false, if_true] at hq
        obtain ⟨b0, b1, n1, h1, h2, b2, n2, n3, h3, rfl⟩ := hq
        exact ⟨b0, b1, b2, ⟨n1, n2, n3⟩, rfl, h1, h2, h3⟩) (fun f g e0 e1 e2 => by simp only [go_sem, e0, e1, e2])
      rw [← hP] at h2
      exact call_new3 h2 rfl (intClosed _) (dataClosed _) (msgClosed _) hv (k0 rfl)
    · have h2 := Spec.new2 (r0 := .tup [.agg [.sl 0 0 a'.next.length, .sl 1 0 a'.parts.length], .r .nil, .i code]) (sz := 1) (L := a'.next.map intRow) (sz1 := 7) (L1 := a'.parts.map Data.row) hs (fun r hp nx gs hq => by
        unfold AddQ at hq
        simp only [h3, h0, if_false] at hq
        obtain ⟨b0, b1, n1, h1, h2, rfl⟩ := hq
        exact ⟨b0, b1, n1, rfl, h1, h2⟩) (fun f g e0 e1 => by simp only [go_sem, e0, e1])
      rw [← hP] at h2
      exact call_new2 h2 rfl (intClosed _) (dataClosed _) hv (k12 h3 h0)
end Go.Cap

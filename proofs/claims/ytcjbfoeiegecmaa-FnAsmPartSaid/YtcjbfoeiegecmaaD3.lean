import Derived.Test.YtcjbfoeiegecmaaD2
import Derived.Test.YtcjbfoeiegecmaaG5
import Derived.Test.YtcjbfoeiegecmaaG6
import Derived.Test.YtcjbfoeiegecmaaEngC
/- Contracts: an assembly is drawn. -/
namespace Go.Cap
open Go Go.Proofs
set_option maxRecDepth 100000
set_option linter.unusedSimpArgs false
set_option linter.unusedVariables false
attribute [local irreducible] Call Run Spec Le

/-- An assembly behind some draws, in two new blocks. -/
def DrawA (code : List UInt8) (p : Int) (k : Int) : AV → List (Nat × Blk) → Nat → List Nat → Prop := fun r hp nx gs => ∃ a : Asm, ∃ p', r = .agg [.sl 1 0 a.next.length, .sl 2 0 a.parts.length] ∧ hp = [(0, rdB code p'), (1, .row 1 (a.next.map intRow)), (2, .row 7 (a.parts.map Data.row))] ∧ nx = 3 ∧ gs = [] ∧
  p ≤ p' ∧ p' ≤ p + k ∧ a.next.length ≤ 5 ∧ a.parts.length ≤ 26 ∧ ∀ d ∈ a.parts, d.text.length ≤ 200
theorem c_drawT2 {c : Cx} {f : Nat} {code : List UInt8} {p k : Int} {s : St} {K : AV → St → Prop} {b : Nat} (hs : Spec c.P f 1 [(0, rdB code p)] [.ptr 0 0 0] (NamedNew (DrawTV code p k))) (hb : hget s.hp b = some (rdB code p))
    (h : ∀ (t : Talk) p', p ≤ p' → p' ≤ p + k → talkB t = true → K (t.av (.sl s.nx 0 t.says.length)) ⟨s.sl, (b, rdB code p') :: (s.nx, .row 4 (t.says.map Say.row)) :: hdel s.hp b, s.nx + 1, s.gs⟩) : Call c f [.ptr b 0 0] s K :=
  call_namedNew b hs hb rfl rfl (fun r B sz L ⟨t, p', h1, h2, _⟩ => by subst h2; rfl) fun r B sz L ⟨t, p', h1, h2, h3, h4, h5, h6, h7⟩ => by subst h1; subst h2; subst h3; subst h4; exact h t p' h5 h6 h7
theorem s_l92Asm (code : List UInt8) (p : Int) (hp : 0 ≤ p ∧ p ≤ 900000) (hc : code.length ≤ 2000) : Spec Try.prog 32 1 [(0, rdB code p)] [.ptr 0 0 0] (DrawA code p 300) := by
  refine Spec.le (Q := fun r hp nx gs => ∃ a : Asm, ∃ p' b1 b2, (b1 ≠ 0 ∧ b2 ≠ 0 ∧ b1 ≠ b2) ∧ r = .agg [.sl b1 0 a.next.length, .sl b2 0 a.parts.length] ∧ hget hp 0 = some (rdB code p') ∧ hget hp b1 = some (.row 1 (a.next.map intRow)) ∧ hget hp b2 = some (.row 7 (a.parts.map Data.row)) ∧ p ≤ p' ∧ p' ≤ p + 300 ∧ a.next.length ≤ 5 ∧ a.parts.length ≤ 26 ∧ ∀ d ∈ a.parts, d.text.length ≤ 200) ?_ ?_
  rotate_left
  · rintro r hp nx gs ⟨a, p', b1, b2, ⟨n1, n2, n3⟩, rfl, h0, h1, h2, hb⟩
    refine ⟨.agg [.sl 1 0 a.next.length, .sl 2 0 a.parts.length], [(0, rdB code p'), (1, .row 1 (a.next.map intRow)), (2, .row 7 (a.parts.map Data.row))], 3, [], ⟨a, p', rfl, rfl, rfl, rfl, hb⟩, fun c hc => le_ev [(1, b1), (2, b2)] ?_⟩
    simp only [hc, go_sem, ↓reduceIte, h0, h1, h2, n1, n2, n3, rdB, List.mem_cons, List.not_mem_nil, or_false, not_false_eq_true, and_self]
    exact fun e => n3 e.symm
  refine mr32 rfl fun c hP hm => ?_
  unfold pc32
  refine run_seq (run_wpc _ _ _ _ _ ?_)
  simp only [hm, go_sem, ↓reduceIte]
  refine run_seq (run_wpc _ _ _ _ _ ?_)
  simp only [hm, go_sem, ↓reduceIte]
  refine c_drawT2 (hP ▸ s_l92TalkV code p (by omega) hc) rfl fun t p1 h1 h2 hv => ?_
  obtain ⟨_, t2, t3, _, _, t6, t7⟩ := talk_ok hv
  simp only [Talk.av, hm, go_sem, ↓reduceIte]
  refine run_frz 2 rfl (by first | (simp only [hm, List.length_map, go_sem, ↓reduceIte]; done) | (simp only [hm, List.length_map, go_sem, ↓reduceIte]; omega)) (by first | (simp only [hm, List.length_map, go_sem, ↓reduceIte]; done) | (simp only [hm, List.length_map, go_sem, ↓reduceIte]; omega)) ?_; simp only [hm, take_map_len, List.drop_zero, go_sem, ↓reduceIte]
  have htv : ∀ d ∈ talkParts t false, dataB d = true ∧ d.stream < t.a.streams := fun d hd => by
    obtain ⟨n, en, hn, hseq, _⟩ := talk_seq hv false
    simp only [Talk.init, Bool.false_eq_true, if_false] at en
    exact ⟨hseq.ok d hd, by rw [en]; exact (hseq.str d hd).2⟩
  obtain ⟨n, en⟩ : ∃ n : Nat, t.a.streams = n := ⟨t.a.streams.toNat, by omega⟩
  refine run_seq (run_wpc _ _ _ _ _ ?_)
  simp only [en, hm, go_sem, ↓reduceIte]
  refine call_new2 (hP ▸ s_specAsmNew1 n (by omega)) rfl (intClosed _) (dataClosed _) (vws_self _ _ rfl) ?_
  simp only [hm, go_sem, ↓reduceIte]
  refine run_seq (run_wpc _ _ _ _ _ ?_)
  rw [← en]
  simp only [hm, go_sem, ↓reduceIte]
  refine c_drawL (hP ▸ s_l92Parts code p1 t hv (by omega) (fun s hs => by have := t3 s hs; omega) (by omega) hc) rfl fun l p2 k1 k2 k3 k4 => ?_
  simp only [hm, go_sem, ↓reduceIte]
  refine run_seq (run_wpc _ _ _ _ _ ?_)
  simp only [hm, go_sem, ↓reduceIte]
  refine run_exit 0 (fun t0 => ∃ (a : Asm) (q : Int), t0 = ⟨[(0, .ptr 0 0 0), (2, .ptr 1 0 0), (4, .ptr 2 0 0)], [(0, rdB code q), (4, .row 7 (a.parts.map Data.row)), (3, .row 1 (a.next.map intRow)), (2, .var [.sl 3 0 a.next.length, .sl 4 0 a.parts.length]), (1, .var [.r .nil, .r .nil])], 5, []⟩ ∧ asmB a = true ∧ p ≤ q ∧ q ≤ p + 200) ?_ ?_
  · refine lp_wpc (α := Nat × Asm × Int) (fun y => ⟨[(0, .ptr 0 0 0), (2, .ptr 1 0 0), (4, .ptr 2 0 0), (6, .sl 5 0 l.length), (7, .i y.1)], [(0, rdB code y.2.2), (4, .row 7 (y.2.1.parts.map Data.row)), (3, .row 1 (y.2.1.next.map intRow)), (2, .var [.sl 3 0 y.2.1.next.length, .sl 4 0 y.2.1.parts.length]), (1, .var [.r .nil, .r .nil]), (5, .row 7 (l.map Data.row))], 6, []⟩)
      (fun y => y.1 ≤ l.length ∧ asmB y.2.1 = true ∧ y.2.1.next.length = n ∧ p ≤ y.2.2 ∧ y.2.2 = p2 + y.1) (fun y => l.length - y.1) (0, asmNew n, p2) ⟨Nat.zero_le _, ?_, by simp [asmNew], by show p ≤ p2; omega, by show p2 = p2 + ((0 : Nat) : Int); omega⟩ ?_ ?_
    · refine asm_val.2 ⟨⟨by simp [asmNew]; omega, fun x hx => ?_, fun d hd => by simp [asmNew] at hd, by simp [asmNew]⟩, by simp [asmNew]⟩
      simp only [asmNew, List.mem_replicate] at hx
      rw [hx.2]; rfl
    · have e1 : (asmNew n).next.length = n := by simp [asmNew]
      have e2 : (asmNew n).parts = [] := rfl
      simp only [e1, e2, List.length_nil, List.map_nil]
      (refine le_ev [(2, 6), (3, 4), (4, 5), (5, 7)] ?_; simp only [hm, go_sem, ↓reduceIte]; first | done | rfl | exact ⟨rfl, rfl⟩)
    rintro ⟨i, a, q⟩ ⟨hi, hB, hnl, hq, hq2⟩
    simp only at hi hB hnl hq hq2
    unfold pc32l0
    obtain ⟨a1, a2, a3, a4⟩ := asm_ok hB
    have hax : ∀ d ∈ a.parts, d.text.length ≤ 9223372036854775807 := fun d hd => by have := (data_ok (a4 d hd).1).2.2.2.2; omega
    rcases Nat.lt_or_ge i l.length with hil | hil
    · have hgd := getD_map (f := Data.row) hil
      have hdv := htv _ (k4 _ (List.getElem_mem hil))
      generalize l[i] = d at hgd hdv
      have hw : IntKind.i64.wrap ((i : Int) + 1) = (i : Int) + 1 := wrap64 (by omega) (by omega)
      have hdx := (data_ok hdv.1).2.2.2.2
      have h3 : (asmAdd a d).2.2 ≠ 3 := fun h3 => by
        cases add_case a d with
        | bad e hb => exact hb ⟨hB, hdv.1, by omega⟩
        | twice e => rw [e] at h3; cases h3
        | full e => rw [e] at h3; cases h3
        | done a' ms e => rw [e] at h3; cases h3
      obtain ⟨v1, v2⟩ := add_valid h3
      simp only [hm, go_sem, ↓reduceIte]
      refine fun _ => ⟨fun _ => ?_, fun h => (by exfalso; omega)⟩
      refine c_pick hP (by rfl) (by omega) hc fun u hu => ?_
      simp only [Int.toNat_natCast, hgd, Data.row, hm, go_sem, ↓reduceIte]
      refine ⟨fun _ => ⟨by omega, hil, ?_⟩, fun _ => ?_⟩
      · refine c_specAsmAdd hP (a := a) (d := d) (by omega) (by omega) hax (by omega) (.cons (vw_agg (.cons (Vw.full rfl (by simp)) (.cons (Vw.full rfl (by simp)) .nil))) (.cons (vw_self _ _ rfl) .nil)) (fun h => absurd h h3) (fun _ => ?_)
        simp only [hm, go_sem, ↓reduceIte]
        rw [hw]
        refine ⟨(i + 1, (asmAdd a d).1, q + 1), ⟨hil, v1, by rw [← hnl]; exact v2, by simp only; omega, by simp only; omega⟩, by simp only; omega, ?_⟩
        simp only
        (refine le_ev [(3, 6), (4, 7)] ?_; simp only [hm, go_sem, ↓reduceIte]; first | done | rfl | exact ⟨rfl, rfl⟩)
      · rw [hw]
        refine ⟨(i + 1, a, q + 1), ⟨hil, hB, hnl, by simp only; omega, by simp only; omega⟩, by simp only; omega, by (refine le_ev [] ?_; simp only [hm, go_sem, ↓reduceIte]; first | done | rfl | exact ⟨rfl, rfl⟩)⟩
    · have : i = l.length := by omega
      subst this
      simp only [hm, go_sem, ↓reduceIte]
      intro _
      exact ⟨_, ⟨a, q, rfl, hB, hq, by omega⟩, by (refine le_ev [] ?_; simp only [hm, go_sem, ↓reduceIte]; first | done | rfl | exact ⟨rfl, rfl⟩)⟩
  rintro t0 ⟨a, q, rfl, hB, hq, hq2⟩
  obtain ⟨a1, a2, a3, a4⟩ := asm_ok hB
  have hax : ∀ d ∈ a.parts, d.text.length ≤ 200 := fun d hd => by have := (data_ok (a4 d hd).1).2.2.2.2; omega
  simp only [hm, go_sem, ↓reduceIte]
  refine run_wpc _ _ _ _ _ ?_
  simp only [hm, go_sem, ↓reduceIte]
  refine c_pick hP (by rfl) (by omega) hc fun u hu => ?_
  simp only [hm, go_sem, ↓reduceIte]
  refine ⟨fun _ => ?_, fun _ => ⟨fun _ => ?_, fun _ => ⟨fun _ => ?_, fun _ => ?_⟩⟩⟩
  · refine c_drawD (hP ▸ s_l91Part code (q + 1) (by omega) hc) rfl fun d q2 g1 g2 g3 => ?_
    simp only [Data.av, hm, go_sem, ↓reduceIte]
    have hrow : List.take a.parts.length (a.parts.map Data.row) ++ [[.n .i64 d.tsn, .n .i64 d.stream, .n .i64 d.ssn, .b d.first, .b d.last, .b d.loose, .s d.text]] = (a.parts ++ [d]).map Data.row := by
      rw [List.take_of_length_le (by simp), List.map_append]; rfl
    refine ⟨by omega, ?_⟩
    rw [hrow]
    refine ⟨⟨a.next, a.parts ++ [d]⟩, q2, 3, 4, by decide, by simp, rfl, rfl, rfl, by omega, by omega, by simp only; omega, by simp; omega, fun x hx => ?_⟩
    rcases List.mem_append.1 hx with hx | hx
    · exact hax x hx
    · simp only [List.mem_singleton] at hx; subst hx; exact g3
  · refine c_draw (hP ▸ s_l91Word code (q + 1) (by omega) hc) rfl fun v q2 g1 g2 g3 g4 => ?_
    simp only [hm, go_sem, ↓reduceIte]
    have hrow : List.take a.next.length (a.next.map intRow) ++ [[.n .i64 v]] = (a.next ++ [v]).map intRow := by
      rw [List.take_of_length_le (by simp), List.map_append]; rfl
    refine ⟨by omega, ?_⟩
    rw [hrow]
    exact ⟨⟨a.next ++ [v], a.parts⟩, q2, 3, 4, by decide, by simp, rfl, rfl, rfl, by omega, by omega, by simp; omega, by simp only; omega, hax⟩
  · simp only [take_map_len, List.length_map, ← List.map_append]
    refine ⟨by omega, ⟨a.next, a.parts ++ a.parts⟩, q + 1, 3, 4, by decide, by simp, rfl, rfl, rfl, by omega, by omega, by simp only; omega, by simp; omega, fun x hx => ?_⟩
    rcases List.mem_append.1 hx with hx | hx
    · exact hax x hx
    · exact hax x hx
  · exact ⟨a, q + 1, 3, 4, by decide, rfl, rfl, rfl, rfl, by omega, by omega, by omega, by omega, hax⟩
end Go.Cap

import Derived.Test.YtcjbfoeiegecmaaH3
/- FnAsmRun: its contract. -/
namespace Go.Cap
open Go Go.Proofs
set_option maxRecDepth 100000
set_option linter.unusedSimpArgs false
set_option linter.unusedVariables false
attribute [local irreducible] Call Run Spec Le

theorem spec_FnAsmRun {L : List (List RV)} (h : Okc (.sl [.i .u8]) (.ro none L)) : Spec Try.prog 4 0 [] [.r (.ro none L)] (fun r _ _ _ => r = .bo true) := by
  obtain ⟨code, rfl, hlen⟩ := bytes_of h
  have e : maxLen = 9223372036854775807 := by decide
  rw [e] at hlen
  refine mk4 rfl fun c hP hm => ?_
  unfold pc4
  simp only [hm, go_sem, ↓reduceIte]
  intro _ hcut
  refine call_plain (hP ▸ s_DrawAsmRun code) rfl ?_
  rintro r ⟨n, l, rfl, b1, b2, b3, b4⟩
  refine ⟨rfl, ?_⟩
  have bx : ∀ x ∈ l, x.text.length ≤ 9223372036854775807 := fun x hx => by have := b4 x hx; omega
  simp only [hm, go_sem, ↓reduceIte]
  refine call_plain (hP ▸ s_implAsmRunP n l (by omega) bx) rfl ?_
  rintro r rfl
  refine ⟨rfl, ?_⟩
  simp only [hm, go_sem, ↓reduceIte]
  refine call_plain (hP ▸ s_specAsmRunP n l (by omega) bx) rfl ?_
  rintro r rfl
  refine ⟨rfl, ?_⟩
  simp only [hm, go_sem, ↓reduceIte]
  refine call_pure (hP ▸ s_sameMessages (asmRun n l)) rfl rfl ?_
  have hrl : asmRun n l = if 1 ≤ n ∧ n ≤ 4 then (runSt n.toNat l).2 else [] := rfl
  simp only [hm, go_sem, ↓reduceIte]
  refine call_plain (hP ▸ s_implAsmNewP n) rfl ?_
  rintro r rfl
  refine ⟨rfl, ?_⟩
  simp only [hm, go_sem, ↓reduceIte]
  by_cases hn : 1 ≤ n ∧ n ≤ 4
  · rw [if_pos hn] at hrl
    obtain ⟨m, rfl⟩ : ∃ m : Nat, n = m := ⟨n.toNat, by omega⟩
    simp only [Int.toNat_natCast] at hrl
    rw [hrl]
    simp only [hn, and_self, decide_true, Int.toNat_natCast, Asm.ro, hm, go_sem, ↓reduceIte]
    refine lp_wpc (α := Nat) (fun i => ⟨[(4, .r (.ro none (l.map Data.row))), (5, .r (.ro none ((runSt m l).2.map Msg.row))), (7, .sl 0 0 (runSt m (l.take i)).2.length), (8, .ptr 1 0 0), (9, .bo true), (10, .i i)],
        [(1, .var [.r (.ro none ((runSt m (l.take i)).1.next.map intRow)), .r (.ro none ((runSt m (l.take i)).1.parts.map Data.row))]), (0, .row 4 ((runSt m (l.take i)).2.map Msg.row))], 2, []⟩)
      (fun i => i ≤ l.length) (fun i => l.length - i) 0 (Nat.zero_le _) (by simp only [List.take_zero, runSt, List.foldl_nil, asmNew, List.map_nil, List.length_nil]; (refine le_ev [] ?_; simp only [hm, go_sem, ↓reduceIte]; first | done | rfl | exact ⟨rfl, rfl⟩)) ?_
    intro i hi
    unfold pc4l0
    rcases Nat.lt_or_ge i l.length with hil | hil
    · have hw : IntKind.i64.wrap ((i : Int) + 1) = (i : Int) + 1 := wrap64 (by omega) (by omega)
      have hgl := getD_map (f := Data.row) hil
      have htk := runSt_take (n := m) hil
      have hbd := bx _ (List.getElem_mem hil)
      obtain ⟨q1, q2, q3, q4⟩ := runSt_len m (by omega) (l.take i)
      obtain ⟨hstep, hms⟩ := run_step1 (runSt m (l.take i)) l[i]
      have hadd := s_implAsmAddP (runSt m (l.take i)).1 l[i] (by omega) (by omega) (fun d hd => by have := q4 d hd; omega) hbd
      have hq3 : (runSt m (l.take i)).2.length ≤ 13 * 13 := by rw [List.length_take] at q3; omega
      rw [hstep] at htk
      clear hstep
      generalize runSt m (l.take i) = st at hadd hms htk q1 q2 q3 q4 hq3 ⊢
      obtain ⟨a, ms⟩ := st
      generalize l[i] = d at hadd hms htk hgl hbd
      simp only at hadd hms htk hq3
      generalize asmAdd a d = x at hadd hms htk
      obtain ⟨a', ms', code⟩ := x
      simp only at hms htk
      simp only [Int.toNat_natCast, hgl, Data.row, hm, go_sem, ↓reduceIte]
      repeat' first | refine And.intro ?_ ?_ | intro _
      all_goals first
        | omega
        | rfl
        | (refine call_plain (hP ▸ hadd) rfl ?_
           rintro r rfl
           refine ⟨rfl, ?_⟩
           have hrow : List.take ms.length (ms.map Msg.row) ++ ms'.map Msg.row = (ms ++ ms').map Msg.row := by rw [List.take_of_length_le (by simp), List.map_append]
           have hlen2 : ms.length + ms'.length = (ms ++ ms').length := by rw [List.length_append]
           simp only [Int.toNat_natCast, hgl, Data.row, Asm.ro, hm, go_sem, ↓reduceIte]
           simp only [hrow, hlen2]
           repeat' first | refine And.intro ?_ ?_ | intro _
           all_goals first
             | omega
             | rfl
             | (rename_i hr; obtain ⟨_, _, rfl⟩ := List.mem_map.1 hr; rfl)
             | (simp only [List.length_append]; omega)
             | (refine ⟨i + 1, hil, by omega, ?_⟩
                rename_i hc3
                rw [htk, hw]
                simp only [hc3, if_true, if_false]
                (refine le_ev [(0, 0), (1, 1)] ?_; simp only [hm, go_sem, ↓reduceIte]; first | done | rfl | exact ⟨rfl, rfl⟩))
             )
    · have : i = l.length := by omega
      subst this
      simp only [hm, go_sem, ↓reduceIte]
      repeat' first | refine And.intro ?_ ?_ | intro _
      all_goals first
        | omega
        | rfl
        | (exfalso; omega)
        | (rw [List.take_length]
           refine call_flat (hP ▸ s_sameMessages (runSt m l).2) rfl (.cons (Vw.full rfl (by simp)) (.cons (vw_self _ _ rfl) .nil)) ?_
           simp only [hm, go_sem, ↓reduceIte])
  · rw [if_neg hn] at hrl
    simp only [hn, hrl, decide_false, Asm.ro, hm, go_sem, ↓reduceIte]
    refine lp_wpc (α := Unit) (fun _ => ⟨[(4, .r (.ro none (l.map Data.row))), (5, .r (.ro none [])), (7, .sl 0 0 0), (8, .ptr 1 0 0), (9, .bo false), (10, .i 0)], [(1, .var [.r (.ro none []), .r (.ro none [])]), (0, .row 4 [])], 2, []⟩)
      (fun _ => True) (fun _ => 0) () trivial (by (refine le_ev [] ?_; simp only [hm, go_sem, ↓reduceIte]; first | done | rfl | exact ⟨rfl, rfl⟩)) ?_
    intro _ _
    unfold pc4l0
    simp only [hm, go_sem, ↓reduceIte]
    repeat' first | refine And.intro ?_ ?_ | intro _
    all_goals first
      | omega
      | rfl
      | (refine call_flat (hP ▸ s_sameMessages []) rfl (.cons (Vw.full rfl (by simp)) (.cons (vw_self _ _ rfl) .nil)) ?_
         simp only [hm, go_sem, ↓reduceIte])
end Go.Cap

import Derived.Test.YtcjbfoeiegecmaaQ1
/- Contracts of the reference: the chain of a message's parts, and what is due. -/
namespace Go.Cap
open Go Go.Proofs
set_option maxRecDepth 100000
set_option linter.unusedSimpArgs false
set_option linter.unusedVariables false
attribute [local irreducible] Call Run Spec Le

def dueL (o : Option (List Nat)) : List Nat := o.getD []
theorem s_specChain (l : List Data) (k : Nat) (hl : l.length ≤ 13) (hk : k < l.length) (ht : ∀ d ∈ l, 0 ≤ d.tsn ∧ d.tsn < 65536) : Spec Try.prog 58 0 [] [.r (.ro none (l.map Data.row)), .i k] (New1 (.sl 0 0 (dueL (chain l k)).length) 1 ((dueL (chain l k)).map natRow)) := by
  refine Spec.new1 (Q := fun r hp _ _ => ∃ b, r = .sl b 0 (dueL (chain l k)).length ∧ hget hp b = some (.row 1 ((dueL (chain l k)).map natRow))) ?_ (fun r hp nx gs h => h) (fun f g h => by simp only [go_sem, h])
  refine mk58 rfl fun c hP hm => ?_
  unfold pc58
  simp only [hm, go_sem, ↓reduceIte]
  refine run_exit 0 (fun t0 => t0 = ⟨[(5, .sl 0 0 (dueL (chain l k)).length)], [(0, .row 1 ((dueL (chain l k)).map natRow))], 1, []⟩) ?_ (fun t0 h => by rw [h]; simp only [go_sem, ↓reduceIte]; exact ⟨_, rfl, rfl⟩)
  refine lp_wpc (α := List Nat × Nat) (fun y => ⟨[(0, .r (.ro none (l.map Data.row))), (1, .i y.2), (5, .sl 0 0 y.1.length)], [(0, .row 1 (y.1.map natRow))], 1, []⟩)
    (fun y => Walk l y.1 y.2 ∧ Goes l k y.1 y.2) (fun y => l.length - y.1.length) ([k], k) ⟨Walk.one hk ht, Goes.start⟩ (by (refine le_ev [] ?_; simp only [hm, go_sem, ↓reduceIte]; first | done | rfl | exact ⟨rfl, rfl⟩)) ?_
  rintro ⟨pre, a⟩ ⟨w, g⟩
  simp only at w g
  have hpl := nodup_le w.nodup w.lt
  have ha : a < l.length := w.lt a (by rw [walk_head w.last]; simp)
  have hda := dataAt_eq ha
  have hga : (l.map Data.row).getD a [] = (dataAt l a).row := by rw [hda]; exact getD_map ha
  have hta := ht _ (List.getElem_mem ha)
  rw [← hda] at hta
  unfold pc58l0
  simp only [Int.toNat_natCast, hga, Data.row, hm, go_sem, ↓reduceIte]
  refine ⟨by omega, fun hla => ⟨by omega, ?_⟩, fun hla => ?_⟩
  · refine call_pure (hP ▸ s_l3Add (dataAt l a).tsn 1 hta) rfl rfl ?_
    simp only [Int.toNat_natCast, hga, Data.row, hm, go_sem, ↓reduceIte]
    refine call_pure (hP ▸ s_l22At l (l3 (dataAt l a).tsn 1) (by omega)) rfl rfl ?_
    have hnone : nextIx l a = none → dueL (chain l k) = [] := fun hn => by rw [g.none hpl hla hn]; rfl
    cases hat : atIx l (l3 (dataAt l a).tsn 1) with
    | none =>
      have hnx : nextIx l a = none := by unfold nextIx; rw [hat]
      simp only [ixI, Int.toNat_natCast, hga, Data.row, hnone hnx, hm, go_sem, ↓reduceIte]
      exact ⟨_, rfl, rfl⟩
    | some j =>
      obtain ⟨hj, _⟩ := atIx_some hat
      have hdj := dataAt_eq hj
      have hgj : (l.map Data.row).getD j [] = (dataAt l j).row := by rw [hdj]; exact getD_map hj
      have hnx : nextIx l a = if (dataAt l j).first || !likeB (dataAt l j) (dataAt l a) then none else some j := by unfold nextIx; rw [hat]
      have w2 := w.step (by omega) hat
      have h2 := nodup_le w2.nodup w2.lt
      rw [List.length_append, List.length_singleton] at h2
      simp only [ixI, Int.toNat_natCast, hga, hgj, Data.row, hm, go_sem, ↓reduceIte]
      refine ⟨fun _ => ⟨by omega, ?_⟩, fun h => (by exfalso; omega)⟩
      have hrow : List.take pre.length (pre.map natRow) ++ [[.n .i64 (j : Int)]] = (pre ++ [j]).map natRow := by
        rw [List.take_of_length_le (by simp), List.map_append]; rfl
      refine ⟨fun hjf => ⟨by omega, by omega, ?_⟩, fun hjf => ?_⟩
      · refine call_pure (hP ▸ s_l22Same (dataAt l a) (dataAt l j)) rfl rfl ?_
        rw [like_comm]
        cases hlk : likeB (dataAt l j) (dataAt l a)
        · rw [hnone (by rw [hnx, hlk]; simp)]
          simp only [hm, go_sem, ↓reduceIte]
          exact ⟨_, rfl, rfl⟩
        · simp only [hm, go_sem, ↓reduceIte]
          have hn : nextIx l a = some j := by rw [hnx, hlk, hjf]; rfl
          repeat' first | refine And.intro ?_ ?_ | intro _
          all_goals first
            | omega
            | (exfalso; omega)
            | (refine ⟨(pre ++ [j], j), ⟨w2, g.next w hpl hla hn⟩, ?_, ?_⟩
               · simp only [List.length_append, List.length_singleton]; omega
               · rw [hrow]; (refine le_ev [] ?_; simp only [hm, go_sem, ↓reduceIte]; first | done | rfl | exact ⟨rfl, rfl⟩))
      · rw [hnone (by rw [hnx, hjf]; simp)]
        exact ⟨1, rfl, rfl⟩
  · rw [g.stop w hpl hla]
    exact ⟨_, rfl, by simp only [dueL, Option.getD_some]; (refine le_ev [] ?_; simp only [hm, go_sem, ↓reduceIte]; first | done | rfl | exact ⟨rfl, rfl⟩)⟩
theorem due_drop {a : Asm} {i : Nat} (h : i < a.parts.length) : dueFrom a ((List.range a.parts.length).drop i) = match dueAt a i with | some p => some p | none => dueFrom a ((List.range a.parts.length).drop (i + 1)) := by
  rw [range_drop h, dueFrom]; cases dueAt a i <;> rfl
theorem s_specFind (a : Asm) (h : AsmOk a) : Spec Try.prog 48 0 [] [a.ro] (New1 (.sl 0 0 (dueL (due a)).length) 1 ((dueL (due a)).map natRow)) := by
  obtain ⟨h1, h2, h3, h4, h5⟩ := h
  refine Spec.new1 (Q := fun r hp _ _ => ∃ b, r = .sl b 0 (dueL (due a)).length ∧ hget hp b = some (.row 1 ((dueL (due a)).map natRow))) ?_ (fun r hp nx gs h => h) (fun f g h => by simp only [go_sem, h])
  refine mk48 rfl fun c hP hm => ?_
  unfold pc48 Asm.ro
  simp only [hm, go_sem, ↓reduceIte]
  refine run_exit 0 (fun t0 => t0 = ⟨[], [], 1, []⟩ ∧ due a = none) ?_ (fun t0 h => ?_)
  rotate_left
  · obtain ⟨rfl, hd⟩ := h
    rw [hd]
    simp only [hm, go_sem, ↓reduceIte]
    exact ⟨_, rfl, rfl⟩
  refine lp_wpc (α := Nat) (fun i => ⟨[(1, .ptr 0 0 0), (3, .i i)], [(0, .var [.r (.ro none (a.next.map intRow)), .r (.ro none (a.parts.map Data.row))])], 1, []⟩)
    (fun i => i ≤ a.parts.length ∧ dueFrom a ((List.range a.parts.length).drop i) = due a) (fun i => a.parts.length - i) 0 ⟨Nat.zero_le _, rfl⟩ (by (refine le_ev [] ?_; simp only [hm, go_sem, ↓reduceIte]; first | done | rfl | exact ⟨rfl, rfl⟩)) ?_
  rintro i ⟨hi, hI⟩
  unfold pc48l0
  rcases Nat.lt_or_ge i a.parts.length with hil | hil
  · rw [due_drop hil] at hI
    have hd3 := h3 _ (List.getElem_mem hil)
    have hda := dataAt_eq hil
    have hga : (a.parts.map Data.row).getD i [] = (dataAt a.parts i).row := by rw [hda]; exact getD_map hil
    rw [← hda] at hd3
    have hds : (dataAt a.parts i).stream.toNat < a.next.length := by omega
    have hnx : (a.next.map intRow).getD (dataAt a.parts i).stream.toNat [] = [.n .i64 (nextAt a (dataAt a.parts i).stream)] := by
      rw [getD_map hds]; simp [intRow, nextAt, List.getD_eq_getElem?_getD, hds]
    have hw : IntKind.i64.wrap ((i : Int) + 1) = (i : Int) + 1 := wrap64 (by omega) (by omega)
    have hfin : dueAt a i = none → dueFrom a ((List.range a.parts.length).drop (i + 1)) = due a := fun hn => by rw [hn] at hI; exact hI
    have hfind : ∀ p, dueAt a i = some p → due a = some p := fun p hn => by rw [hn] at hI; exact hI.symm
    have hcall : ∀ {s : St} {K : AV → St → Prop}, (chain a.parts i = none → K (.sl s.nx 0 0) ⟨s.sl, (s.nx, .row 1 []) :: s.hp, s.nx + 1, s.gs⟩) → (∀ p, chain a.parts i = some p → p ≠ [] → K (.sl s.nx 0 p.length) ⟨s.sl, (s.nx, .row 1 (p.map natRow)) :: s.hp, s.nx + 1, s.gs⟩) → Call c 58 [.r (.ro none (a.parts.map Data.row)), .i i] s K := by
      intro s K k0 k1
      refine call_new1 (hP ▸ s_specChain a.parts i h1 hil h2) rfl (natClosed _) (vws_self _ _ rfl) ?_
      cases hch : chain a.parts i with
      | none => simpa [renA, dueL] using k0 hch
      | some p => simpa [renA, dueL] using k1 p hch (chain_ne hch)
    clear hda hI
    simp only [Int.toNat_natCast, hga, hnx, Data.row, hm, go_sem, ↓reduceIte]
    repeat' first | refine And.intro ?_ ?_ | intro _ | (refine hcall (fun hch => ?_) (fun p hch hne => ?_) <;> simp only [hm, go_sem, ↓reduceIte])
    all_goals first
      | omega
      | (have := List.length_pos_iff.2 hne; omega)
      | (refine ⟨i + 1, ⟨hil, hfin (by simp [dueAt, *]; done)⟩, by omega, ?_⟩
         rw [hw]
         (refine le_ev [] ?_; simp only [hm, go_sem, ↓reduceIte]; first | done | rfl | exact ⟨rfl, rfl⟩))
      | (rw [hfind p (by simp [dueAt, *]; done)]; exact ⟨_, rfl, rfl⟩)
      | (have := List.length_pos_iff.2 hne; omega)
  · have : i = a.parts.length := by omega
    subst this
    rw [List.drop_eq_nil_of_le (by simp), dueFrom] at hI
    simp only [hm, go_sem, ↓reduceIte]
    intro _
    exact ⟨_, ⟨rfl, hI.symm⟩, by (refine le_ev [] ?_; simp only [hm, go_sem, ↓reduceIte]; first | done | rfl | exact ⟨rfl, rfl⟩)⟩
end Go.Cap

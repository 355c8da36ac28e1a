import Derived.Test.YtcjbfoeiegecmaaN3
import Derived.Test.YtcjbfoeiegecmaaV2
import Derived.Test.YtcjbfoeiegecmaaN2
/- Contracts: the chain of a message's parts, and the message that is due (the program's). -/
namespace Go.Cap
open Go Go.Proofs
set_option maxRecDepth 100000
set_option linter.unusedSimpArgs false
set_option linter.unusedVariables false
attribute [local irreducible] Call Run Spec Le

def natRow (i : Nat) : List RV := [.n .i64 i]
theorem walk_head {pre : List Nat} {k : Nat} (h : pre.getLast? = some k) : pre = pre.dropLast ++ [k] := by
  have hne : pre ≠ [] := fun e => by rw [e] at h; cases h
  have h2 := List.dropLast_concat_getLast hne
  rw [List.getLast?_eq_some_getLast hne] at h
  have h3 := Option.some.inj h
  rw [h3] at h2; exact h2.symm
/-- What is known of the chain after a walk. -/
def Goes (l : List Data) (k : Nat) (pre : List Nat) (a : Nat) : Prop := chain l k = (chainN (l.length + 1 - pre.length) l a).map (pre.dropLast ++ ·)
theorem Goes.start {l : List Data} {k : Nat} : Goes l k [k] k := by
  unfold Goes chain
  simp
theorem Goes.stop {l : List Data} {k a : Nat} {pre : List Nat} (h : Goes l k pre a) (w : Walk l pre a) (hl : pre.length ≤ l.length) (hla : (dataAt l a).last = true) : chain l k = some pre := by
  unfold Goes at h
  have e : l.length + 1 - pre.length = (l.length - pre.length) + 1 := by omega
  rw [e, chainN, if_pos hla] at h
  rw [h, Option.map_some]
  exact congrArg some (walk_head w.last).symm
theorem Goes.none {l : List Data} {k a : Nat} {pre : List Nat} (h : Goes l k pre a) (hl : pre.length ≤ l.length) (hla : (dataAt l a).last = false) (hn : nextIx l a = .none) : chain l k = .none := by
  unfold Goes at h
  have e : l.length + 1 - pre.length = (l.length - pre.length) + 1 := by omega
  rw [e, chainN, if_neg (by simp [hla]), hn] at h
  exact h
theorem Goes.next {l : List Data} {k a j : Nat} {pre : List Nat} (h : Goes l k pre a) (w : Walk l pre a) (hl : pre.length ≤ l.length) (hla : (dataAt l a).last = false) (hn : nextIx l a = some j) : Goes l k (pre ++ [j]) j := by
  unfold Goes at h ⊢
  have e : l.length + 1 - pre.length = (l.length - pre.length) + 1 := by omega
  have e2 : l.length + 1 - (pre ++ [j]).length = l.length - pre.length := by simp
  rw [e, chainN, if_neg (by simp [hla]), hn] at h
  rw [e2, List.dropLast_concat, h]
  cases hc : chainN (l.length - pre.length) l j with
  | none => simp [hc]
  | some t =>
    simp only [hc, Option.map_some]
    congr 1
    conv => rhs; rw [walk_head w.last]
    simp
def dueQ (o : Option (List Nat)) (r : AV) (hp : List (Nat × Blk)) : Prop := match o with
  | none => r = .r .nil
  | some p => r = .sl 0 0 p.length ∧ hget hp 0 = some (.row 1 (p.map natRow))
theorem s_chainOf (l : List Data) (k : Nat) (hl : l.length ≤ 13) (hk : k < l.length) (ht : ∀ d ∈ l, 0 ≤ d.tsn ∧ d.tsn < 65536) : Spec Try.prog 55 0 [] [.r (.ro none (l.map Data.row)), .i k] (fun r hp _ _ => dueQ (if (dataAt l k).first then chain l k else none) r hp) := by
  refine mk55 rfl fun c hP hm => ?_
  unfold pc55
  have hdk := dataAt_eq hk
  simp only [Int.toNat_natCast, getD_map hk, Data.row, ← hdk, hm, go_sem, ↓reduceIte]
  refine ⟨by omega, fun hf => ?_, fun hf => ?_⟩
  · rw [if_neg (by simp [hf])]; rfl
  · rw [if_pos hf]
    refine lp_wpc (α := List Nat × Nat) (fun y => ⟨[(0, .r (.ro none (l.map Data.row))), (1, .i y.2), (5, .sl 0 0 y.1.length)], [(0, .row 1 (y.1.map natRow))], 1, []⟩)
      (fun y => Walk l y.1 y.2 ∧ Goes l k y.1 y.2) (fun y => l.length - y.1.length) ([k], k) ⟨Walk.one hk ht, Goes.start⟩ (le_ev [] (by simp only [hm, natRow, go_sem, ↓reduceIte])) ?_
    rintro ⟨pre, a⟩ ⟨w, g⟩
    simp only at w g
    have hpl := nodup_le w.nodup w.lt
    have ha : a < l.length := w.lt a (by rw [walk_head w.last]; simp)
    have hda := dataAt_eq ha
    unfold pc55l0
    simp only [Int.toNat_natCast, getD_map ha, Data.row, ← hda, hm, go_sem, ↓reduceIte]
    have hser : serialB (dataAt l a).tsn = true := by have := ht _ (List.getElem_mem ha); rw [← hda] at this; simp only [serialB, decide_eq_true_eq]; exact this
    refine ⟨by omega, fun hla => ⟨by omega, ?_⟩, fun hla => ?_⟩
    · refine call_pure (hP ▸ s_SerialAdd1 (dataAt l a).tsn 1 hser) rfl rfl ?_
      simp only [go_sem, ↓reduceIte]
      refine call_pure (hP ▸ s_partAt l (l3 (dataAt l a).tsn 1) (by omega)) rfl rfl ?_
      cases hat : atIx l (l3 (dataAt l a).tsn 1) with
      | none =>
        have hnx : nextIx l a = none := by unfold nextIx; rw [hat]
        rw [g.none hpl hla hnx]
        simp only [ixI, dueQ, go_sem, ↓reduceIte]
      | some j =>
        obtain ⟨hj, _⟩ := atIx_some hat
        have hdj := dataAt_eq hj
        simp only [ixI, Int.toNat_natCast, getD_map hj, getD_map ha, Data.row, ← hdj, ← hda, hm, go_sem, ↓reduceIte]
        clear hdj hda hdk
        have hnx : nextIx l a = if (dataAt l j).first || !likeB (dataAt l j) (dataAt l a) then none else some j := by unfold nextIx; rw [hat]
        have hrow : List.take pre.length (pre.map natRow) ++ [[.n .i64 (j : Int)]] = (pre ++ [j]).map natRow := by
          rw [List.take_of_length_le (by simp), List.map_append]; rfl
        repeat' first | refine And.intro ?_ ?_ | intro _ | (refine call_pure (hP ▸ s_likeParts (dataAt l j) (dataAt l a)) rfl rfl ?_; simp only [hm, go_sem, ↓reduceIte])
        all_goals first
          | omega
          | (rw [g.none hpl hla (by rw [hnx]; simp [*])]; rfl)
          | (have hn : nextIx l a = some j := by rw [hnx]; simp [*]
             have w2 := w.step (by omega) hat
             have h2 := nodup_le w2.nodup w2.lt
             rw [List.length_append] at h2
             refine ⟨(pre ++ [j], j), ⟨w2, g.next w hpl hla hn⟩, ?_, ?_⟩
             · simp only [List.length_append, List.length_cons, List.length_nil] at h2 ⊢; omega
             · rw [hrow]
               exact le_ev [] (by simp only [hm, go_sem, ↓reduceIte] <;> first | rfl | exact ⟨rfl, rfl⟩))
    · rw [g.stop w hpl hla]; exact ⟨rfl, rfl⟩
theorem Spec.due1 {P : Program} {f : Nat} {args : List AV} {o : Option (List Nat)} {p : List Nat} (h : Spec P f 0 [] args (fun r hp _ _ => dueQ o r hp)) (ho : o = some p) : Spec P f 0 [] args (New1 (.sl 0 0 p.length) 1 (p.map natRow)) := by
  subst ho
  exact Spec.new1 h (fun r hp nx gs hq => ⟨0, hq.1, hq.2⟩) (fun f g h => by simp only [go_sem, h])
theorem Spec.due0 {P : Program} {f : Nat} {args : List AV} {o : Option (List Nat)} (h : Spec P f 0 [] args (fun r hp _ _ => dueQ o r hp)) (ho : o = none) : Spec P f 0 [] args (fun r _ _ _ => r = .r .nil) := by
  subst ho
  exact h
theorem chain_ne {l : List Data} {k : Nat} {p : List Nat} : ∀ {n : Nat}, chainN n l k = some p → p ≠ []
  | 0, h => by cases h
  | n + 1, h => by
    rw [chainN] at h
    split at h
    · cases h; simp
    · split at h
      · cases hc : chainN n l _ with
        | none => rw [hc] at h; cases h
        | some t => rw [hc] at h; cases h; simp
      · cases h
theorem natClosed (p : List Nat) : closL2 (p.map natRow) := closL2_map (fun s x hx => by
  simp only [natRow, List.mem_cons, List.not_mem_nil, or_false] at hx
  rcases hx with rfl; rfl) p
/-- The number that a stream waits for. -/
def nextAt (a : Asm) (s : Int) : Int := a.next.getD s.toNat 0
def dueAt (a : Asm) (i : Nat) : Option (List Nat) := if (dataAt a.parts i).first && ((dataAt a.parts i).loose || (dataAt a.parts i).ssn == nextAt a (dataAt a.parts i).stream) then chain a.parts i else none
def dueFrom (a : Asm) : List Nat → Option (List Nat)
  | [] => none
  | i :: l => match dueAt a i with
    | some p => some p
    | none => dueFrom a l
def due (a : Asm) : Option (List Nat) := dueFrom a (List.range a.parts.length)
/-- What the search for a message relies on. -/
structure AsmOk (a : Asm) : Prop where
  len : a.parts.length ≤ 13
  tsn : ∀ d ∈ a.parts, 0 ≤ d.tsn ∧ d.tsn < 65536
  stream : ∀ d ∈ a.parts, 0 ≤ d.stream ∧ d.stream < a.next.length
  next : ∀ n ∈ a.next, serialB n = true
  nlen : a.next.length ≤ 4
def dueQb (o : Option (List Nat)) (r : AV) (hp : List (Nat × Blk)) : Prop := match o with
  | none => r = .r .nil
  | some p => ∃ b, r = .sl b 0 p.length ∧ hget hp b = some (.row 1 (p.map natRow))
theorem Spec.due1b {P : Program} {f : Nat} {args : List AV} {o : Option (List Nat)} {p : List Nat} (h : Spec P f 0 [] args (fun r hp _ _ => dueQb o r hp)) (ho : o = some p) : Spec P f 0 [] args (New1 (.sl 0 0 p.length) 1 (p.map natRow)) := by
  subst ho
  exact Spec.new1 h (fun r hp nx gs ⟨b, h1, h2⟩ => ⟨b, h1, h2⟩) (fun f g h => by simp only [go_sem, h])
theorem Spec.due0b {P : Program} {f : Nat} {args : List AV} {o : Option (List Nat)} (h : Spec P f 0 [] args (fun r hp _ _ => dueQb o r hp)) (ho : o = none) : Spec P f 0 [] args (fun r _ _ _ => r = .r .nil) := by
  subst ho
  exact h
theorem range_drop {n i : Nat} (h : i < n) : (List.range n).drop i = i :: (List.range n).drop (i + 1) := by
  rw [List.drop_eq_getElem_cons (by simpa using h)]; simp
theorem s_dueIn (a : Asm) (h : AsmOk a) : Spec Try.prog 45 0 [] [a.ro] (fun r hp _ _ => dueQb (due a) r hp) := by
  obtain ⟨h1, h2, h3, h4, h5⟩ := h
  refine mk45 rfl fun c hP hm => ?_
  unfold pc45 Asm.ro
  simp only [go_sem, ↓reduceIte]
  intro _
  refine lp_wpc (α := Nat) (fun i => ⟨[(1, .ptr 0 0 0), (7, .r (.ro none (a.parts.map Data.row))), (8, .i a.parts.length), (9, .i i)], [(0, .var [.r (.ro none (a.next.map intRow)), .r (.ro none (a.parts.map Data.row))])], 1, []⟩)
    (fun i => i ≤ a.parts.length ∧ dueFrom a ((List.range a.parts.length).drop i) = due a) (fun i => a.parts.length - i) 0 ⟨Nat.zero_le _, rfl⟩ (le_ev [] (by simp only [hm, go_sem, ↓reduceIte])) ?_
  rintro i ⟨hi, hI⟩
  unfold pc45l0
  rcases Nat.lt_or_ge i a.parts.length with hil | hil
  · rw [range_drop hil, dueFrom] at hI
    have hd3 := h3 _ (List.getElem_mem hil)
    have hda := dataAt_eq hil
    have hds : (a.parts[i].stream).toNat < a.next.length := by omega
    simp only [Int.toNat_natCast, getD_map hil, Data.row, hm, go_sem, ↓reduceIte]
    rw [← hda] at hd3 hds ⊢
    have hnx : (a.next.map intRow).getD (dataAt a.parts i).stream.toNat [] = [.n .i64 (nextAt a (dataAt a.parts i).stream)] := by
      rw [getD_map hds]; simp [intRow, nextAt, List.getD_eq_getElem?_getD, hds]
    simp only [hnx, hm, go_sem, ↓reduceIte]
    have hcall : (dataAt a.parts i).first = true → ∀ {s : St} {K : AV → St → Prop}, (chain a.parts i = none → K (.r .nil) s) → (∀ p, chain a.parts i = some p → p ≠ [] → K (.sl s.nx 0 p.length) ⟨s.sl, (s.nx, .row 1 (p.map natRow)) :: s.hp, s.nx + 1, s.gs⟩) → Call c 55 [.r (.ro none (a.parts.map Data.row)), .i i] s K := by
      intro hf s K k0 k1
      have hsp := s_chainOf a.parts i h1 hil h2
      rw [if_pos hf] at hsp
      cases hch : chain a.parts i with
      | none => exact call_val (hP ▸ hsp.due0 hch) rfl (fun _ => rfl) (vws_self _ _ rfl) (k0 hch)
      | some p =>
        refine call_new1 (hP ▸ hsp.due1 hch) rfl (natClosed _) (vws_self _ _ rfl) ?_
        simpa [renA] using k1 p hch (chain_ne hch)
    clear hda
    have hfin : dueAt a i = none → dueFrom a ((List.range a.parts.length).drop (i + 1)) = due a := fun hn => by rw [hn] at hI; exact hI
    have hfind : ∀ p, dueAt a i = some p → due a = some p := fun p hn => by rw [hn] at hI; exact hI.symm
    repeat' first | refine And.intro ?_ ?_ | intro _ | (refine hcall (by assumption) (fun hch => ?_) (fun p hch hne => ?_) <;> simp only [hm, go_sem, ↓reduceIte])
    all_goals first
      | omega
      | (refine ⟨i + 1, ⟨hil, hfin (by simp [dueAt, *])⟩, by omega, ?_⟩
         rw [wrap64 (by omega) (by omega)]
         exact le_ev [] (by simp only [hm, go_sem, ↓reduceIte] <;> first | rfl | exact ⟨rfl, rfl⟩))
      | (rw [hfind p (by simp [dueAt, *])]; exact ⟨_, rfl, rfl⟩)
      | (have := List.length_pos_iff.2 hne; omega)
  · have : i = a.parts.length := by omega
    subst this
    rw [List.drop_eq_nil_of_le (by simp), dueFrom] at hI
    simp only [go_sem, ↓reduceIte]
    rw [← hI]; rfl
end Go.Cap

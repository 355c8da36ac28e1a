import Derived.Test.YtcjbfoeiegecmaaG5
/- Plain facts on settling: numbers, messages without order, bytes. -/
namespace Go.Cap
open Go Go.Proofs
set_option linter.unusedSimpArgs false
set_option linter.unusedVariables false

theorem next_mem {a : Asm} {s : Int} (h0 : 0 ≤ s) (h1 : s < a.next.length) : nextAt a s ∈ a.next := by
  have : s.toNat < a.next.length := by omega
  unfold nextAt
  rw [List.getD_eq_getElem?_getD, List.getElem?_eq_getElem this]
  exact List.getElem_mem this
theorem ofStr_cons (s : Int) (m : Msg) (t : List Msg) : ofStr s (m :: t) = if m.stream = s ∧ m.loose = false then m :: ofStr s t else ofStr s t := by
  unfold ofStr
  rw [List.filter_cons]
  by_cases h1 : m.stream = s <;> cases h2 : m.loose <;> simp [h1]
theorem takeOut_next {a : Asm} {p : List Nat} (ok : AsmOk a) (hd : DueOk a p) {s : Int} (h0 : 0 ≤ s) (h1 : s < a.next.length) :
    ((msgOf a p).stream = s ∧ (msgOf a p).loose = false → (msgOf a p).ssn = nextAt a s ∧ nextAt (takeOut a p) s = l3 (nextAt a s) 1) ∧ (¬ ((msgOf a p).stream = s ∧ (msgOf a p).loose = false) → nextAt (takeOut a p) s = nextAt a s) := by
  have hst : 0 ≤ (msgOf a p).stream ∧ (msgOf a p).stream < a.next.length := by
    obtain ⟨k0, pt, hp0⟩ : ∃ k0 pt, p = k0 :: pt := by cases p with
      | nil => exact absurd rfl hd.ne
      | cons a b => exact ⟨a, b, rfl⟩
    have hk0 : k0 < a.parts.length := hd.lt k0 (by rw [hp0]; simp)
    have := ok.stream _ (List.getElem_mem hk0)
    unfold msgOf
    rw [hp0]
    simp only [List.headD_cons, dataAt_eq hk0]
    exact this
  constructor
  · rintro ⟨e1, e2⟩
    have hs := hd.ssn
    have e3 : (msgOf a p).ssn = (dataAt a.parts (p.headD 0)).ssn := rfl
    have e4 : (msgOf a p).stream = (dataAt a.parts (p.headD 0)).stream := rfl
    have e5 : (msgOf a p).loose = (dataAt a.parts (p.headD 0)).loose := rfl
    refine ⟨?_, ?_⟩
    · rcases hs with hs | hs
      · rw [← e5, e2] at hs; cases hs
      · rw [e3, hs, ← e4, e1]
    · unfold takeOut
      rw [if_neg (by simp [e2]), e1]
      unfold nextAt
      simp only [List.getD_eq_getElem?_getD]
      rw [List.getElem?_set_self (by omega)]; rfl
  · intro h
    unfold takeOut
    by_cases hl : (msgOf a p).loose = true
    · rw [if_pos hl]; rfl
    · rw [if_neg hl]
      have hne : (msgOf a p).stream ≠ s := fun e => h ⟨e, by simpa using hl⟩
      unfold nextAt
      simp only [List.getD_eq_getElem?_getD]
      rw [List.getElem?_set_ne (by omega)]
theorem Stl.nums {a a' : Asm} {ms ms' : List Msg} (h : Stl a ms a' ms') : (∀ n ∈ a.next, serialB n = true) → ∃ t, ms' = ms ++ t ∧ ∀ s : Int, 0 ≤ s → s < a.next.length → nextAt a' s = l3 (nextAt a s) (ofStr s t).length ∧ ∀ k (hk : k < (ofStr s t).length), ((ofStr s t)[k]).ssn = l3 (nextAt a s) k := by
  induction h with
  | stop a ms _ =>
    intro hn
    refine ⟨[], by simp, fun s h0 h1 => ⟨?_, fun k hk => by simp [ofStr] at hk⟩⟩
    have := hn _ (next_mem h0 h1)
    simp only [serialB, decide_eq_true_eq] at this
    exact (l3_zero this).symm
  | step a ms p a' ms' ok hd _ ih =>
    intro hn
    have hdo := due_ok ok hd
    obtain ⟨t, h1, h2⟩ := ih (takeOut_ok (p := p) ok).next
    refine ⟨msgOf a p :: t, by rw [h1, List.append_assoc]; rfl, fun s hs0 hs1 => ?_⟩
    obtain ⟨q1, q2⟩ := h2 s hs0 (by rw [takeOut_nlen]; exact hs1)
    obtain ⟨k1, k2⟩ := takeOut_next ok hdo hs0 hs1
    have hser := hn _ (next_mem hs0 hs1)
    simp only [serialB, decide_eq_true_eq] at hser
    by_cases hc : (msgOf a p).stream = s ∧ (msgOf a p).loose = false
    · obtain ⟨e1, e2⟩ := k1 hc
      have ec : ofStr s (msgOf a p :: t) = msgOf a p :: ofStr s t := by rw [ofStr_cons, if_pos hc]
      refine ⟨?_, fun k hk => ?_⟩
      · rw [q1, e2, l3_l3, ec, List.length_cons]
        congr 1; omega
      · simp only [ec]
        cases k with
        | zero => rw [List.getElem_cons_zero, e1]; exact (l3_zero hser).symm
        | succ k =>
          rw [List.getElem_cons_succ]
          have hk' : k < (ofStr s t).length := by rw [ec] at hk; simpa using hk
          rw [q2 k hk', e2, l3_l3]
          congr 1; omega
    · have ec : ofStr s (msgOf a p :: t) = ofStr s t := by rw [ofStr_cons, if_neg hc]
      rw [ec, ← k2 hc]
      exact ⟨q1, q2⟩
/-- A part that is a message by itself is told, if it has no order. -/
theorem Stl.loose {a a' : Asm} {ms ms' : List Msg} (h : Stl a ms a' ms') {d : Data} (h1 : d.first = true) (h2 : d.last = true) (h3 : d.loose = true) : (a.parts.map Data.tsn).Nodup → d ∈ a.parts → ⟨d.stream, d.ssn, true, d.text⟩ ∈ ms' := by
  induction h with
  | stop a ms hd =>
    intro hn hm
    exfalso
    obtain ⟨i, hi, rfl⟩ := List.getElem_of_mem hm
    have hda := dataAt_eq hi
    have hl : a.parts.length = (a.parts.length - 1) + 1 := by omega
    have hc : chain a.parts i = some [i] := by unfold chain; rw [hl, chainN, hda, if_pos h2]
    have hda2 : dueAt a i = some [i] := by unfold dueAt; rw [hda, if_pos (by simp [h1, h3]), hc]
    have key : ∀ l : List Nat, dueFrom a l = none → ∀ i ∈ l, dueAt a i = none := by
      intro l
      induction l with
      | nil => intro _ i hi; cases hi
      | cons x l ih =>
        intro h i hi
        rw [dueFrom] at h
        cases hx : dueAt a x with
        | some q => rw [hx] at h; cases h
        | none =>
          rw [hx] at h
          rcases List.mem_cons.1 hi with rfl | hi
          · exact hx
          · exact ih h i hi
    have := key _ hd i (List.mem_range.2 hi)
    rw [hda2] at this; cases this
  | step a ms p a' ms' ok hd st ih =>
    intro hn hm
    have hdo := due_ok ok hd
    obtain ⟨i, hi, rfl⟩ := List.getElem_of_mem hm
    have hda := dataAt_eq hi
    by_cases hip : i ∈ p
    · -- the chain is this part alone
      obtain ⟨j, hj, hdj⟩ := due_some hd
      have hp : p = [i] := by
        unfold dueAt at hdj
        split at hdj
        · rename_i hc
          unfold chain at hdj
          obtain ⟨l, hl⟩ : ∃ l, a.parts.length = l + 1 := ⟨a.parts.length - 1, by omega⟩
          rw [hl, chainN] at hdj
          split at hdj
          · cases hdj
            simp only [List.mem_singleton] at hip
            rw [hip]
          · rename_i hjl
            exfalso
            have hnf : ∀ (n k : Nat) (q : List Nat), chainN n a.parts k = some q → (dataAt a.parts k).first = false → ∀ x ∈ q, (dataAt a.parts x).first = false := by
              intro n
              induction n with
              | zero => intro k q h; cases h
              | succ n ihn =>
                intro k q h hk x hx
                rw [chainN] at h
                split at h
                · cases h; simp only [List.mem_singleton] at hx; rw [hx]; exact hk
                · cases hnx : nextIx a.parts k with
                  | none => rw [hnx] at h; cases h
                  | some y =>
                    rw [hnx] at h
                    simp only at h
                    have hyf : (dataAt a.parts y).first = false := by
                      unfold nextIx at hnx
                      split at hnx
                      · split at hnx
                        · cases hnx
                        · rename_i hcc
                          cases hnx
                          simp only [Bool.or_eq_true, not_or] at hcc
                          simpa using hcc.1
                      · cases hnx
                    cases hcn : chainN n a.parts y with
                    | none => rw [hcn] at h; cases h
                    | some t =>
                      rw [hcn] at h
                      cases h
                      rcases List.mem_cons.1 hx with rfl | hx
                      · exact hk
                      · exact ihn y t hcn hyf x hx
            cases hnx : nextIx a.parts j with
            | none => rw [hnx] at hdj; cases hdj
            | some y =>
              rw [hnx] at hdj
              simp only at hdj
              have hyf : (dataAt a.parts y).first = false := by
                unfold nextIx at hnx
                split at hnx
                · split at hnx
                  · cases hnx
                  · rename_i hcc
                    cases hnx
                    simp only [Bool.or_eq_true, not_or] at hcc
                    simpa using hcc.1
                · cases hnx
              cases hcn : chainN l a.parts y with
              | none => rw [hcn] at hdj; cases hdj
              | some t =>
                rw [hcn] at hdj
                cases hdj
                rcases List.mem_cons.1 hip with rfl | hip
                · rw [hda, h2] at hjl; exact hjl rfl
                · have := hnf _ _ _ hcn hyf i hip
                  rw [hda, h1] at this; cases this
        · cases hdj
      obtain ⟨t, ht, _⟩ := st.more
      rw [ht, List.append_assoc]
      refine List.mem_append_right _ (List.mem_append_left _ ?_)
      rw [hp]
      simp only [List.mem_singleton, msgOf, List.headD_cons, hda, textOfIx, List.flatMap_cons, List.flatMap_nil, List.append_nil, h3]
    · refine ih (hn.sublist ((restFrom_sub p a.parts 0).map _)) ?_
      show a.parts[i] ∈ restFrom p 0 a.parts
      have key : ∀ (l : List Data) (k j : Nat) (hj : j < l.length), k + j ∉ p → l[j] ∈ restFrom p k l := by
        intro l
        induction l with
        | nil => intro k j hj; simp at hj
        | cons x l ihl =>
          intro k j hj hnp
          rw [restFrom]
          cases j with
          | zero =>
            rw [if_neg (by simpa using hnp)]
            exact List.mem_cons_self ..
          | succ j =>
            have := ihl (k + 1) j (by simpa using hj) (by rw [Nat.add_assoc, Nat.add_comm 1 j]; exact hnp)
            split
            · exact this
            · exact List.mem_cons_of_mem _ this
      exact key a.parts 0 i hi (by rw [Nat.zero_add]; exact hip)
end Go.Cap

import Derived.Test.YtcjbfoeiegecmaaG3
/- Plain facts on assemblies: validity, what is told, what is left. -/
namespace Go.Cap
open Go Go.Proofs
set_option linter.unusedSimpArgs false
set_option linter.unusedVariables false

theorem partsLoop_get {n : Nat} {p : List Data} : ∀ (l : List Data) (i : Nat), partsLoop n p i l = true → ∀ j (hj : j < l.length), partOk n (p.take (i + j)) l[j] = true
  | [], _, _, j, hj => by simp at hj
  | d :: l, i, h, 0, hj => by simp only [partsLoop, Bool.and_eq_true] at h; exact h.1
  | d :: l, i, h, j + 1, hj => by
    simp only [partsLoop, Bool.and_eq_true] at h
    have := partsLoop_get l (i + 1) h.2 j (by simpa using hj)
    simpa [Nat.add_assoc, Nat.add_comm 1 j] using this
/-- What a valid assembly is. -/
structure AVal (a : Asm) : Prop where
  n4 : 1 ≤ a.next.length ∧ a.next.length ≤ 4
  next : ∀ n ∈ a.next, serialB n = true
  ok : ∀ d ∈ a.parts, dataB d = true ∧ d.stream < a.next.length
  nd : (a.parts.map Data.tsn).Nodup
theorem asm_val {a : Asm} : asmB a = true ↔ AVal a ∧ a.parts.length ≤ 12 := by
  constructor
  · intro h
    obtain ⟨h1, h2, h3, h4⟩ := asm_ok h
    refine ⟨⟨h1, h3, h4, ?_⟩, h2⟩
    simp only [asmB, Bool.and_eq_true] at h
    have key := partsLoop_get a.parts 0 h.2
    refine List.pairwise_iff_getElem.2 fun i j hi hj hij e => ?_
    rw [List.length_map] at hi hj
    rw [List.getElem_map, List.getElem_map] at e
    have := key j hj
    simp only [partOk, Nat.zero_add, Bool.and_eq_true, Option.isNone_iff_eq_none] at this
    refine (atIx_none _ _).1 this.2 a.parts[i] ?_ e
    exact List.mem_take_iff_getElem.2 ⟨i, by omega, rfl⟩
  · rintro ⟨h, hl⟩
    have hall : a.next.all serialB = true := List.all_eq_true.2 h.next
    have hps : partsLoop a.next.length a.parts 0 a.parts = true := by
      refine partsLoop_of _ 0 fun j hj => ?_
      rw [Nat.zero_add]
      obtain ⟨k1, k2⟩ := h.ok _ (List.getElem_mem hj)
      have k3 : atIx (a.parts.take j) a.parts[j].tsn = none := by
        rw [atIx_none]
        intro d hd e
        obtain ⟨i, hi, rfl⟩ := List.mem_take_iff_getElem.1 hd
        have := List.pairwise_iff_getElem.1 h.nd i j (by rw [List.length_map]; omega) (by rw [List.length_map]; exact hj) (by omega)
        rw [List.getElem_map, List.getElem_map] at this
        exact this e
      unfold partOk
      rw [k1, k3, decide_eq_true k2]; rfl
    unfold asmB
    rw [hall, hps, decide_eq_true hl, decide_eq_true h.n4]; rfl
theorem restFrom_sub (p : List Nat) : ∀ (l : List Data) (i : Nat), (restFrom p i l).Sublist l
  | [], i => by simp [restFrom]
  | d :: l, i => by
    simp only [restFrom]
    split
    · exact (restFrom_sub p l (i + 1)).cons _
    · exact (restFrom_sub p l (i + 1)).cons_cons _
theorem takeOut_nlen (a : Asm) (p : List Nat) : (takeOut a p).next.length = a.next.length := by unfold takeOut; simp only; split <;> simp
theorem takeOut_val {a : Asm} {p : List Nat} (h : AVal a) : AVal (takeOut a p) := by
  have hn := takeOut_nlen a p
  refine ⟨by rw [hn]; exact h.n4, fun n hm => ?_, fun d hd => by rw [hn]; exact h.ok d (restFrom_mem p a.parts 0 d hd), h.nd.sublist ((restFrom_sub p a.parts 0).map _)⟩
  unfold takeOut at hm
  simp only at hm
  split at hm
  · exact h.next n hm
  · rcases List.mem_or_eq_of_mem_set hm with hm | rfl
    · exact h.next n hm
    · exact serial_l3 _ _
/-- Settling, step by step. -/
inductive Stl : Asm → List Msg → Asm → List Msg → Prop
  | stop (a : Asm) (ms : List Msg) : due a = none → Stl a ms a ms
  | step (a : Asm) (ms : List Msg) (p : List Nat) (a' : Asm) (ms' : List Msg) : AsmOk a → due a = some p → Stl (takeOut a p) (ms ++ [msgOf a p]) a' ms' → Stl a ms a' ms'
theorem settle_stl : ∀ (k : Nat) (a : Asm) (ms : List Msg), AsmOk a → a.parts.length < k → Stl a ms (settle k a ms).1 (settle k a ms).2
  | 0, a, ms, _, h => by omega
  | k + 1, a, ms, ok, h => by
    rw [settle]
    cases hd : due a with
    | none => exact .stop a ms hd
    | some p =>
      have hlt := takeOut_lt (due_ok ok hd)
      exact .step a ms p _ _ ok hd (settle_stl k _ _ (takeOut_ok ok) (by omega))
theorem Stl.val {a a' : Asm} {ms ms' : List Msg} (h : Stl a ms a' ms') : AVal a → AVal a' ∧ a'.next.length = a.next.length ∧ a'.parts.length ≤ a.parts.length := by
  induction h with
  | stop a ms _ => intro h; exact ⟨h, rfl, Nat.le_refl _⟩
  | step a ms p a' ms' ok hd _ ih =>
    intro h
    obtain ⟨h1, h2, h3⟩ := ih (takeOut_val h)
    exact ⟨h1, by rw [h2, takeOut_nlen], Nat.le_trans h3 (restFrom_len p a.parts 0)⟩
theorem add_val {a : Asm} {d : Data} (h : AVal a) (hd : dataB d = true) (hs : d.stream < a.next.length) (ha : atIx a.parts d.tsn = none) : AVal ⟨a.next, a.parts ++ [d]⟩ := by
  refine ⟨h.n4, h.next, fun x hx => ?_, ?_⟩
  · rcases List.mem_append.1 hx with hx | hx
    · exact h.ok x hx
    · simp only [List.mem_singleton] at hx; subst hx; exact ⟨hd, hs⟩
  · simp only [List.map_append, List.map_cons, List.map_nil]
    rw [List.nodup_append]
    refine ⟨h.nd, by simp, fun x hx y hy => ?_⟩
    simp only [List.mem_singleton] at hy
    subst hy
    obtain ⟨e, he, rfl⟩ := List.mem_map.1 hx
    exact (atIx_none _ _).1 ha e he
/-- What AsmAdd does, case by case. -/
inductive AddCase (a : Asm) (d : Data) : Prop
  | bad (h : asmAdd a d = (⟨[], []⟩, [], 3)) (hb : ¬ (asmB a = true ∧ dataB d = true ∧ d.stream < a.next.length))
  | twice (h : asmAdd a d = (a, [], 1)) (hv : asmB a = true) (hd : dataB d = true) (hs : d.stream < a.next.length) (ha : (atIx a.parts d.tsn).isSome = true)
  | full (h : asmAdd a d = (a, [], 2)) (hv : asmB a = true) (hd : dataB d = true) (hs : d.stream < a.next.length) (ha : atIx a.parts d.tsn = none) (hl : 12 ≤ a.parts.length)
  | done (a' : Asm) (ms : List Msg) (h : asmAdd a d = (a', ms, 0)) (hv : asmB a = true) (hd : dataB d = true) (hs : d.stream < a.next.length) (ha : atIx a.parts d.tsn = none) (hl : a.parts.length < 12)
      (ok : AsmOk ⟨a.next, a.parts ++ [d]⟩) (st : Stl ⟨a.next, a.parts ++ [d]⟩ [] a' ms)
theorem add_case (a : Asm) (d : Data) : AddCase a d := by
  by_cases hc : asmB a = true ∧ dataB d = true ∧ d.stream < a.next.length
  · obtain ⟨h1, h2, h3⟩ := hc
    have e : ¬ (!asmB a || !dataB d || decide ((a.next.length : Int) ≤ d.stream)) = true := by simp [h1, h2]; omega
    cases ha : atIx a.parts d.tsn with
    | some j => exact .twice (by unfold asmAdd; rw [if_neg e, if_pos (by simp [ha])]) h1 h2 h3 (by simp [ha])
    | none =>
      rcases Nat.lt_or_ge a.parts.length 12 with hl | hl
      · have ok := add_ok h1 h2 h3
        exact .done _ _ (by unfold asmAdd; rw [if_neg e, if_neg (by simp [ha]), if_neg (by omega)]) h1 h2 h3 ha hl ok (settle_stl (a.parts.length + 2) _ [] ok (by simp))
      · exact .full (by unfold asmAdd; rw [if_neg e, if_neg (by simp [ha]), if_pos hl]) h1 h2 h3 ha hl
  · refine .bad ?_ hc
    unfold asmAdd
    rw [if_pos]
    cases h1 : asmB a <;> cases h2 : dataB d <;> simp [h1, h2] at hc ⊢
    exact hc
/-- An assembly stays valid. -/
theorem add_valid {a : Asm} {d : Data} (h : (asmAdd a d).2.2 ≠ 3) : asmB (asmAdd a d).1 = true ∧ (asmAdd a d).1.next.length = a.next.length := by
  cases add_case a d with
  | bad e hb => rw [e] at h; exact absurd rfl h
  | twice e hv hd hs ha => rw [e]; exact ⟨hv, rfl⟩
  | full e hv hd hs ha hl => rw [e]; exact ⟨hv, rfl⟩
  | done a' ms e hv hd hs ha hl ok st =>
    rw [e]
    obtain ⟨h1, h2, h3⟩ := st.val (add_val (asm_val.1 hv).1 hd hs ha)
    simp only [List.length_append, List.length_singleton] at h3
    exact ⟨asm_val.2 ⟨h1, by simp only; omega⟩, h2⟩
end Go.Cap

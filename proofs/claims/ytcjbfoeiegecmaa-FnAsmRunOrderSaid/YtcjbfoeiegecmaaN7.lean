import Derived.Test.YtcjbfoeiegecmaaN6
/- Contracts: adding a part (the program's). -/
namespace Go.Cap
open Go Go.Proofs
set_option maxRecDepth 100000
set_option linter.unusedSimpArgs false
set_option linter.unusedVariables false
attribute [local irreducible] Call Run Spec Le

theorem due_some {a : Asm} {p : List Nat} (h : due a = some p) : ∃ i, i < a.parts.length ∧ dueAt a i = some p := by
  have key : ∀ l : List Nat, dueFrom a l = some p → ∃ i ∈ l, dueAt a i = some p := by
    intro l
    induction l with
    | nil => intro h; cases h
    | cons i l ih =>
      intro h
      rw [dueFrom] at h
      cases hd : dueAt a i with
      | some q => rw [hd] at h; cases h; exact ⟨i, List.mem_cons_self .., hd⟩
      | none =>
        rw [hd] at h
        obtain ⟨j, hj, h2⟩ := ih h
        exact ⟨j, List.mem_cons_of_mem _ hj, h2⟩
  obtain ⟨i, hi, h2⟩ := key _ h
  exact ⟨i, List.mem_range.1 hi, h2⟩
/-- What a message that is due promises. -/
structure DueOk (a : Asm) (p : List Nat) : Prop where
  ne : p ≠ []
  lt : ∀ i ∈ p, i < a.parts.length
  nodup : p.Nodup
  first : (dataAt a.parts (p.headD 0)).first = true
  ssn : (dataAt a.parts (p.headD 0)).loose = true ∨ (dataAt a.parts (p.headD 0)).ssn = nextAt a (dataAt a.parts (p.headD 0)).stream
theorem due_ok {a : Asm} (h : AsmOk a) {p : List Nat} (hd : due a = some p) : DueOk a p := by
  obtain ⟨i, hi, h2⟩ := due_some hd
  unfold dueAt at h2
  split at h2
  · rename_i hc
    have hh := chainN_head h2
    obtain ⟨k', w⟩ := chain_walk h.tsn h.len _ i [i] p h2 (Walk.one hi h.tsn)
    simp only [List.dropLast_singleton, List.nil_append] at w
    simp only [Bool.and_eq_true, Bool.or_eq_true, beq_iff_eq] at hc
    exact ⟨chain_ne h2, w.lt, w.nodup, by rw [hh]; exact hc.1, by rw [hh]; exact hc.2⟩
  · cases h2
theorem takeOut_lt {a : Asm} {p : List Nat} (h : DueOk a p) : (takeOut a p).parts.length < a.parts.length := by
  obtain ⟨k, hk⟩ := List.exists_mem_of_ne_nil p h.ne
  exact restFrom_lt p a.parts 0 k hk (Nat.zero_le _) (by simpa using h.lt k hk)
theorem takeOut_ok {a : Asm} {p : List Nat} (h : AsmOk a) : AsmOk (takeOut a p) := by
  have hn : (takeOut a p).next.length = a.next.length := by unfold takeOut; simp only; split <;> simp
  have hp := restFrom_mem p a.parts 0
  refine ⟨Nat.le_trans (restFrom_len p a.parts 0) h.len, fun d hd => h.tsn d (hp d hd), fun d hd => by rw [hn]; exact h.stream d (hp d hd), fun n hm => ?_, by rw [hn]; exact h.nlen⟩
  unfold takeOut at hm
  simp only at hm
  split at hm
  · exact h.next n hm
  · rcases List.mem_or_eq_of_mem_set hm with hm | rfl
    · exact h.next n hm
    · exact serial_l3 _ _
theorem settle_more : ∀ (n : Nat) (a : Asm) (ms : List Msg), AsmOk a → a.parts.length < n → ∀ k, settle (n + k) a ms = settle n a ms
  | 0, a, ms, h, hl, k => by omega
  | n + 1, a, ms, h, hl, k => by
    have e : n + 1 + k = (n + k) + 1 := by omega
    rw [e, settle, settle]
    cases hd : due a with
    | none => rfl
    | some p =>
      have hlt := takeOut_lt (due_ok h hd)
      exact settle_more n _ _ (takeOut_ok h) (by omega) k
theorem vw_asm {hp : List (Nat × Blk)} {b0 b1 : Nat} {a : Asm} (h0 : hget hp b0 = some (.row 1 (a.next.map intRow))) (h1 : hget hp b1 = some (.row 7 (a.parts.map Data.row))) : Vw hp (.agg [.sl b0 0 a.next.length, .sl b1 0 a.parts.length]) a.ro :=
  vw_agg (.cons (Vw.full h0 (by simp)) (.cons (Vw.full h1 (by simp)) .nil))
theorem loop_implAsmAdd2 {c : Cx} (hP : c.P = Try.prog) (hm : c.m = 0) (res : Asm × List Msg) {s0 : St} {n r : St → Prop} {x : Nat → St → Prop} (a0 : Asm) (h0 : AsmOk a0) (hx0 : ∀ d ∈ a0.parts, d.text.length ≤ 20) (hres : settle (a0.parts.length + 1) a0 [] = res)
    (hs : Le c s0 ⟨[(4, .ptr 0 0 0), (7, .ptr 1 0 0), (8, .sl 4 0 0)], [(4, .row 4 []), (3, .row 7 (a0.parts.map Data.row)), (2, .row 1 (a0.next.map intRow)), (1, .var [.sl 2 0 a0.next.length, .sl 3 0 a0.parts.length]), (0, .var [.r .nil, .r .nil])], 5, []⟩)
    (hr : ∀ sl hp nx gs, get sl 4 = .ptr 0 0 0 → get sl 5 = .sl 4 0 res.2.length → get sl 6 = .i 0 → hget hp 0 = some (.var [.sl 2 0 res.1.next.length, .sl 3 0 res.1.parts.length]) → hget hp 2 = some (.row 1 (res.1.next.map intRow)) → hget hp 3 = some (.row 7 (res.1.parts.map Data.row)) → hget hp 4 = some (.row 4 (res.2.map Msg.row)) → r ⟨sl, hp, nx, gs⟩) :
    Run c (.lp pc23l2) s0 n x r := by
  refine lp_wpc (α := Asm × List Msg) (fun y => ⟨[(4, .ptr 0 0 0), (7, .ptr 1 0 0), (8, .sl 4 0 y.2.length)], [(4, .row 4 (y.2.map Msg.row)), (3, .row 7 (y.1.parts.map Data.row)), (2, .row 1 (y.1.next.map intRow)), (1, .var [.sl 2 0 y.1.next.length, .sl 3 0 y.1.parts.length]), (0, .var [.r .nil, .r .nil])], 5, []⟩)
    (fun y => AsmOk y.1 ∧ (∀ d ∈ y.1.parts, d.text.length ≤ 20) ∧ y.2.length + y.1.parts.length ≤ 13 ∧ settle (y.1.parts.length + 1) y.1 y.2 = res) (fun y => y.1.parts.length) (a0, []) ⟨h0, hx0, by have := h0.len; simpa using this, hres⟩ hs ?_
  rintro ⟨a, ms⟩ ⟨ha, hx, hms, hset⟩
  simp only at ha hx hms hset
  have hl := ha.len
  unfold pc23l2
  simp only [go_sem, ↓reduceIte]
  cases hd : due a with
  | none =>
    refine call_val (hP ▸ (s_dueIn a ha).due0b hd) rfl (fun _ => rfl) (.cons (vw_asm rfl rfl) .nil) ?_
    rw [settle, hd] at hset
    subst hset
    simp only [go_sem, ↓reduceIte]
    exact hr _ _ _ _ rfl rfl rfl rfl rfl rfl rfl
  | some p =>
    have hdo := due_ok ha hd
    refine call_new1 (hP ▸ (s_dueIn a ha).due1b hd) rfl (natClosed _) (.cons (vw_asm rfl rfl) .nil) ?_
    obtain ⟨k0, pt, hp0⟩ : ∃ k0 pt, p = k0 :: pt := by cases p with
      | nil => exact absurd rfl hdo.ne
      | cons a b => exact ⟨a, b, rfl⟩
    have hk0 : k0 < a.parts.length := hdo.lt k0 (by rw [hp0]; simp)
    have hg0 : (p.map natRow).getD 0 [] = [.n .i64 (k0 : Int)] := by rw [hp0]; rfl
    have hpl : 0 < p.length := by rw [hp0]; simp
    have hdk := dataAt_eq hk0
    simp only [hg0, Int.toNat_natCast, getD_map hk0, Data.row, ← hdk, hm, go_sem, ↓reduceIte]
    have hp13 : p.length ≤ 13 := Nat.le_trans (nodup_le hdo.nodup hdo.lt) hl
    refine ⟨by omega, by omega, hpl, by omega, hk0, ⟨by omega, hpl, by omega, hk0⟩, fun _ => ?_⟩
    refine loop_implAsmAdd0 hP hm a ms p (dataAt a.parts k0).stream (dataAt a.parts k0).ssn (dataAt a.parts k0).loose hdo.lt hl hp13 (fun d hd => by have := hx d hd; omega) (le_ev [(7, 5), (6, 8), (5, 7)] (by simp only [hm, takenR, List.range, List.range.loop, List.not_mem_nil, decide_false, go_sem, ↓reduceIte])) ?_
    simp only [hm, go_sem, ↓reduceIte]
    have hmsg : msgOf a p = ⟨(dataAt a.parts k0).stream, (dataAt a.parts k0).ssn, (dataAt a.parts k0).loose, textOfIx a.parts p⟩ := by unfold msgOf; rw [hp0]; rfl
    intro _
    refine loop_implAsmAdd1 hP hm a ms p (msgOf a p) hl (le_ev [] (by simp only [hm, hmsg, go_sem, ↓reduceIte])) ?_
    have hst := ha.stream _ (List.getElem_mem hk0)
    have hnl := ha.nlen
    rw [← hdk] at hst
    have hsn : (dataAt a.parts k0).stream.toNat < a.next.length := by omega
    have hnx : (a.next.map intRow).getD (dataAt a.parts k0).stream.toNat [] = [.n .i64 (nextAt a (dataAt a.parts k0).stream)] := by
      rw [getD_map hsn]; simp [intRow, nextAt, List.getD_eq_getElem?_getD, hsn]
    simp only [hmsg, hnx, hm, go_sem, ↓reduceIte]
    have hnser : serialB (nextAt a (dataAt a.parts k0).stream) = true := by
      refine ha.next _ ?_
      have : nextAt a (dataAt a.parts k0).stream = a.next[(dataAt a.parts k0).stream.toNat] := by simp [nextAt, List.getD_eq_getElem?_getD, hsn]
      rw [this]; exact List.getElem_mem hsn
    have hlt := takeOut_lt hdo
    have hok := takeOut_ok (p := p) ha
    have hset2 : settle ((takeOut a p).parts.length + 1) (takeOut a p) (ms ++ [msgOf a p]) = res := by
      rw [settle, hd] at hset
      simp only at hset
      rw [← hset]
      have := settle_more ((takeOut a p).parts.length + 1) (takeOut a p) (ms ++ [msgOf a p]) hok (by omega) (a.parts.length - ((takeOut a p).parts.length + 1))
      rw [← this]; congr 1; omega
    have hx2 : ∀ d ∈ (takeOut a p).parts, d.text.length ≤ 20 := fun d hd => hx d (restFrom_mem p a.parts 0 d hd)
    have hms2 : (ms ++ [msgOf a p]).length + (takeOut a p).parts.length ≤ 13 := by simp only [List.length_append, List.length_cons, List.length_nil]; omega
    have hrow : List.take ms.length (ms.map Msg.row) ++ [[.n .i64 (dataAt a.parts k0).stream, .n .i64 (dataAt a.parts k0).ssn, .b (dataAt a.parts k0).loose, .s (textOfIx a.parts p)]] = (ms ++ [msgOf a p]).map Msg.row := by
      rw [List.take_of_length_le (by simp), List.map_append, hmsg]; rfl
    have hpar : (takeOut a p).parts = restFrom p 0 a.parts := rfl
    refine ⟨fun hlo => ⟨by omega, hsn, ?_⟩, fun hlo => ⟨by omega, (takeOut a p, ms ++ [msgOf a p]), ⟨hok, hx2, hms2, hset2⟩, hlt, ?_⟩⟩
    · refine call_pure (hP ▸ s_SerialAdd1 _ 1 hnser) rfl rfl ?_
      have hnext : (takeOut a p).next = a.next.set (dataAt a.parts k0).stream.toNat (l3 (nextAt a (dataAt a.parts k0).stream) 1) := by unfold takeOut; rw [hmsg]; simp [hlo]
      have hnrow : ∀ v : Int, (a.next.map intRow).set (dataAt a.parts k0).stream.toNat [.n .i64 v] = (a.next.set (dataAt a.parts k0).stream.toNat v).map intRow := fun v => by rw [List.map_set]; rfl
      simp only [Int.toNat_natCast, hnx, hnrow, hm, go_sem, ↓reduceIte]
      refine ⟨by omega, hsn, by omega, (takeOut a p, ms ++ [msgOf a p]), ⟨hok, hx2, hms2, hset2⟩, hlt, ?_⟩
      rw [hrow]
      exact le_ev [(3, 6)] (by simp only [hnext, hpar, List.length_set, hm, go_sem, ↓reduceIte])
    · have hnext : (takeOut a p).next = a.next := by unfold takeOut; rw [hmsg]; simp [hlo]
      rw [hrow]
      exact le_ev [(3, 6)] (by simp only [hnext, hpar, hm, go_sem, ↓reduceIte])
end Go.Cap
